/- The plain words of layer 25, second part: the lines of steps, the text of a program. -/
import Derived.Test.YtkdbajpdcadliaaGreatDoorSp
namespace Go.Proofs.YtkdbajpdcadliaaGreatDoor.Pg

def tx (xs : List ByteArray) (i : Nat) : List UInt8 := (xs.getD i ⟨#[]⟩).data.toList
def dl (n : Int) : List UInt8 := Lib.itoa n
/-- The lines of the texts between the first and the last. -/
def midL (xs : List ByteArray) : List UInt8 := xs.flatMap fun x => [32, 32] ++ x.data.toList ++ [10]
/-- The text of a step. -/
def lineL (s : Step) : List UInt8 :=
  if s.op = 1 then [82, 69, 65, 68, 32] ++ dl s.a ++ [10]
  else if s.op = 2 then [67, 65, 76, 76, 32] ++ dl s.a ++ [32] ++ tx s.texts 0 ++ [32] ++ dl s.b ++ [10] ++ midL ((s.texts.take (s.texts.length - 1)).drop 1) ++ [32, 32, 61, 32] ++ tx s.texts (s.texts.length - 1) ++ [10]
  else if s.op = 3 then [83, 69, 84, 32] ++ dl s.a ++ [32] ++ tx s.texts 0 ++ [10]
  else if s.op = 4 then [65, 68, 68, 32] ++ dl s.a ++ [32] ++ dl s.b ++ [10]
  else if s.op = 5 then [87, 72, 69, 78, 32] ++ tx s.texts 0 ++ [32] ++ dl s.b ++ [10]
  else if s.op = 6 then [83, 65, 77, 69, 32] ++ dl s.a ++ [32] ++ dl s.b ++ [32] ++ tx s.texts 0 ++ [10]
  else if s.op = 7 then [71, 79, 32] ++ dl s.b ++ [10]
  else if s.op = 8 then [83, 69, 78, 68, 32] ++ tx s.texts 0 ++ [10]
  else if s.op = 9 then [80, 65, 83, 83, 32] ++ tx s.texts 0 ++ [32] ++ tx s.texts 1 ++ [10]
  else if s.op = 10 then [75, 69, 69, 80, 32] ++ tx s.texts 0 ++ [10]
  else if s.op = 11 then [66, 65, 67, 75] ++ [10]
  else if s.op = 12 then [70, 65, 73, 76] ++ [10]
  else [69, 78, 68] ++ [10]
def lineS (s : Step) : ByteArray := mkB (lineL s)
/-- The text of a program. -/
def formatL (p : Prog) : List UInt8 := [80, 82, 79, 71, 82, 65, 77, 32] ++ p.name.data.toList ++ [10] ++ p.steps.flatMap lineL
def formatS (p : Prog) : ByteArray := mkB (formatL p)

/-- What a step that is one is known by. -/
structure StepOk (s : Step) (many : Int) : Prop where
  verb : (verbS s.op).2 = true
  a : isM (verbS s.op).1.a s.a many = true
  b : isM (verbS s.op).1.b s.b many = true
  few : (verbS s.op).1.few ≤ s.texts.length
  all : (s.texts.length : Int) ≤ (verbS s.op).1.all
  texts : s.texts.all isTextS = true
  special : special s = true
theorem stepOk {s : Step} {many : Int} (h : isStepS s many = true) : StepOk s many := by
  unfold isStepS at h
  simp only [Bool.and_eq_true, decide_eq_true_eq] at h
  obtain ⟨⟨⟨⟨⟨⟨h1, h2⟩, h3⟩, h4⟩, h5⟩, h6⟩, h7⟩ := h
  exact ⟨h1, h2, h3, h4, h5, h6, h7⟩
theorem StepOk.text {s : Step} {many : Int} (h : StepOk s many) : ∀ x ∈ s.texts, isTextS x = true := by
  have := h.texts
  rwa [List.all_eq_true] at this
theorem isTextS_size {x : ByteArray} (h : isTextS x = true) : (x.size : Int) ≤ 100 := by
  unfold isTextS at h
  simp only [Bool.and_eq_true, decide_eq_true_eq] at h
  omega
theorem StepOk.size {s : Step} {many : Int} (h : StepOk s many) (x : ByteArray) (hx : x ∈ s.texts) : (x.size : Int) ≤ 100 := isTextS_size (h.text x hx)
theorem isM_bd {what n many : Int} (h : isM what n many = true) (hm : many ≤ 9999) : -9999 ≤ n ∧ n ≤ 9999 := by
  unfold isM at h
  split at h
  · simp at h; omega
  split at h
  · simp at h; omega
  split at h
  · simp at h; omega
  split at h
  · simp at h; omega
  · simp at h; omega
theorem verb_ok {op : Int} (h : (verbS op).2 = true) : 1 ≤ op ∧ op ≤ 13 := by
  unfold verbS at h
  by_cases h1 : 1 ≤ op ∧ op ≤ 13
  · exact h1
  · have : ∀ k : Int, 1 ≤ k → k ≤ 13 → op ≠ k := fun k a b e => h1 (by omega)
    rw [if_neg (this 1 (by omega) (by omega)), if_neg (this 2 (by omega) (by omega)), if_neg (this 3 (by omega) (by omega)), if_neg (this 4 (by omega) (by omega)), if_neg (this 5 (by omega) (by omega)), if_neg (this 6 (by omega) (by omega)), if_neg (this 7 (by omega) (by omega)), if_neg (this 8 (by omega) (by omega)), if_neg (this 9 (by omega) (by omega)), if_neg (this 10 (by omega) (by omega)), if_neg (this 11 (by omega) (by omega)), if_neg (this 12 (by omega) (by omega)), if_neg (this 13 (by omega) (by omega))] at h
    cases h
theorem verb_cases {op : Int} (h : (verbS op).2 = true) : op = 1 ∨ op = 2 ∨ op = 3 ∨ op = 4 ∨ op = 5 ∨ op = 6 ∨ op = 7 ∨ op = 8 ∨ op = 9 ∨ op = 10 ∨ op = 11 ∨ op = 12 ∨ op = 13 := by
  have := verb_ok h; omega
theorem list0 {xs : List ByteArray} (h : (xs.length : Int) ≤ 0) : xs = [] := List.eq_nil_of_length_eq_zero (by omega)
theorem list1 {xs : List ByteArray} (h1 : (1 : Int) ≤ xs.length) (h : (xs.length : Int) ≤ 1) : ∃ x, xs = [x] := by
  match xs, h1, h with
  | [x], _, _ => exact ⟨x, rfl⟩
  | x :: y :: l, _, h => simp at h; omega
theorem list2 {xs : List ByteArray} (h1 : (2 : Int) ≤ xs.length) (h : (xs.length : Int) ≤ 2) : ∃ x y, xs = [x, y] := by
  match xs, h1, h with
  | [x], h, _ => simp at h
  | [x, y], _, _ => exact ⟨x, y, rfl⟩
  | x :: y :: z :: l, _, h => simp at h; omega
end Go.Proofs.YtkdbajpdcadliaaGreatDoor.Pg
