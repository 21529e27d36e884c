/- Plain: what program.Parse makes of a text ahead of its last test. -/
import Derived.Test.YtkdbajpdcadliaaGreatDoorWr
import Derived.Test.YtkdbajpdcadliaaGreatDoorWt
set_option linter.unusedVariables false
namespace Go.Proofs.YtkdbajpdcadliaaGreatDoor.Pg

/-- A line without its line feed. -/
def bareL (l : List UInt8) : List UInt8 := Lib.trimSuffix l [10]
/-- One more text for the last step. -/
def addText (ss : List Step) (t : ByteArray) : List Step :=
  match ss.getLast? with
  | none => ss
  | some s => ss.dropLast ++ [⟨s.op, s.a, s.b, s.texts ++ [t]⟩]
/-- What line number i does. -/
def lineP (p : Prog) (i : Nat) (l : List UInt8) : Prog :=
  if i = 0 then ⟨mkB (Lib.trimPrefix (bareL l) [80, 82, 79, 71, 82, 65, 77, 32]), p.steps⟩
  else if Lib.hasPrefix (bareL l) [32, 32] = true ∧ 0 < p.steps.length then ⟨p.name, addText p.steps (mkB (Lib.trimPrefix (bareL l) [32, 32]))⟩
  else ⟨p.name, p.steps ++ [readS (bareL l)]⟩
/-- .. the lines from number i on. -/
def linesP (p : Prog) (i : Nat) : List (List UInt8) → Prog
  | [] => p
  | l :: ls => linesP (lineP p i l) (i + 1) ls
/-- A CALL's result has '= ' ahead of it. -/
def fixS (s : Step) : Step :=
  match s.texts.getLast? with
  | none => s
  | some t => if s.op = 2 ∧ 1 < s.texts.length then ⟨s.op, s.a, s.b, s.texts.dropLast ++ [mkB (Lib.trimPrefix t.data.toList [61, 32])]⟩ else s
def tentP (s : ByteArray) : Prog :=
  let p := linesP ⟨⟨#[]⟩, []⟩ 0 (linesL s.data.toList)
  ⟨p.name, p.steps.map fixS⟩
/-- What Parse hands back. -/
def parseS (s : ByteArray) : Prog × Int :=
  if validS (tentP s) = true ∧ formatS (tentP s) = s then (tentP s, 0) else (⟨⟨#[]⟩, []⟩, 3)
end Go.Proofs.YtkdbajpdcadliaaGreatDoor.Pg
