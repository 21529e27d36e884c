/- What the rows' lists and the world's shape give the walks: the library's variables; a world that meets the lists. -/
import Derived.Test.YtkdbajpdcadliaaGreatDoorRows
import Derived.Test.YtkdbajpdcadliaaGreatDoorYi
import Derived.Test.YtkdbajpdcadliaaGreatDoorXc
import Derived.ChangeSame
import Derived.ChangeVars
import Derived.JoinedOf
import Derived.RowKit
import Derived.RowKitTokens
import Derived.LaidLaws
import Derived.LaidHandle
import Derived.Stop.LaidErr
import Derived.HandedShaped
import Derived.Shelf.Vars
import Derived.SliceStrings
import Derived.ShutString
import Derived.Carry
import Derived.ProofKit
set_option linter.unusedVariables false
namespace Go.Proofs.YtkdbajpdcadliaaGreatDoor
open Go.ChangeShapes Go.WideShapes Go.RowKit
open Go.ChangeMaps (open_string shut_string)

theorem Tryz.own : ownKnob Tryz.prog.godebug = none := by kernel_rfl
theorem Tryz.laidOut : laidOutB Tryz.prog = true := by kernel_rfl
theorem Tryz.g0 : Tryz.prog.globalNamed "internal/bytealg.MaxLen" = some 0 := by kernel_rfl
theorem Tryz.g1 : Tryz.prog.globalNamed "strconv.ErrSyntax" = some 1 := by kernel_rfl
theorem Tryz.g2 : Tryz.prog.globalNamed "strconv.ErrRange" = some 2 := by kernel_rfl
theorem Tryz.g3 : Tryz.prog.globalNamed "internal/strconv.uint64pow10" = some 3 := by kernel_rfl
theorem Tryz.g1t : (Tryz.prog.globals[1]?).map (·.type) = some 135 := by kernel_rfl
theorem Tryz.g2t : (Tryz.prog.globals[2]?).map (·.type) = some 135 := by kernel_rfl
theorem Tryz.g3t : (Tryz.prog.globals[3]?).map (·.type) = some 268 := by kernel_rfl
theorem Tryz.gs : Tryz.prog.globals.size = 8 := by kernel_rfl
theorem Tryz.star : "*" ++ "errors.errorString" = "*errors.errorString" := by decide
theorem Tryz.row272 (u : TypeId) (h : Tryz.prog.typeName? 3 u = some "*errors.errorString") : u = 272 :=
  typeName_ptr_named (nm := "errors.errorString") (by rw [Tryz.star]; kernel_rfl) (by kernel_rfl) (by decide) u (by rw [Tryz.star]; exact h)
theorem Tryz.cells274 : Tryz.prog.cellsOf 274 = 1 := by kernel_rfl
theorem Tryz.cells9 : Tryz.prog.cellsOf 9 = 1 := by kernel_rfl
theorem Tryz.cells211 : Tryz.prog.cellsOf 211 = 1 := by kernel_rfl
theorem Tryz.cells268 : Tryz.prog.cellsOf 268 = 20 := by kernel_rfl

/-- What the rows list. -/
abbrev LAID : List (String × DataW Unit) := Rows.programVariablesRow.laid
theorem laid_plain {W : World} (h : laidMetH Tryz.prog LAID W) : laidMet Tryz.prog LAID W := h
theorem pow10_data : (Rows.laid_internal_strconv_uint64pow10 : DataW Unit) = Lib.tabData .u64 Lib.pow10Tab := by kernel_rfl
theorem gl_of {W : World} (hh : laidMetH Tryz.prog LAID W) (hs : W.ShapedOpen Tryz.prog) : Pg.Gl W ∧ Pg.GlB W.heap.size := by
  have h := laid_plain hh
  have h2 := h.tail.tail
  have h3 : laidMet Tryz.prog (("internal/strconv.uint64pow10", Lib.tabData .u64 Lib.pow10Tab) :: [("strconv.ErrRange", Rows.laid_strconv_ErrRange), ("strconv.ErrSyntax", Rows.laid_strconv_ErrSyntax)]) W := by
    rw [← pow10_data]
    exact h2
  have htab := Lib.tabIs_of_head Tryz.g3 Tryz.g3t Tryz.underlying268 Tryz.underlying211 Tryz.cells211 Tryz.cells268 h3
  obtain ⟨a2, s2, hv2, -⟩ := laid_sentinel h2.tail Tryz.g2 Tryz.g2t Tryz.underlying135 Tryz.row272 Tryz.underlying272 Tryz.underlying274 rfl rfl Tryz.underlying9 Tryz.cells274 Tryz.cells9
  obtain ⟨a1, s1, hv1, -⟩ := laid_sentinel h2.tail.tail Tryz.g1 Tryz.g1t Tryz.underlying135 Tryz.row272 Tryz.underlying272 Tryz.underlying274 rfl rfl Tryz.underlying9 Tryz.cells274 Tryz.cells9
  obtain ⟨m, hm⟩ := cell_of_shapedOpen_int (g := 0) (t := 3) (zero := #[.int .i64 0]) (k := .i64) hs (by rw [Tryz.gs]; decide) (by kernel_rfl) rfl (by kernel_rfl) (by kernel_rfl) Tryz.underlying3
  refine ⟨⟨⟨m, hm⟩, htab, ⟨_, _, hv1⟩, ⟨_, _, hv2⟩⟩, ⟨?_⟩⟩
  have h7 : (((begin Tryz.prog (fun _ _ => 0) default).world.heap[7]?).bind Obj.row?).map (·.2) = some 288 := by kernel_rfl
  obtain ⟨⟨z, t7⟩, hz, e7⟩ := Option.map_eq_some_iff.1 h7
  obtain rfl : t7 = 288 := e7
  obtain ⟨cs, hc, -⟩ := hs.1 7 z 288 (by rw [Tryz.gs]; decide) hz
  have := (Array.getElem?_eq_some_iff.1 hc).1
  rw [Tryz.gs]
  omega

/-- The cells of a table's datum. -/
def unAgg : DataW Unit → List Value
  | .agg l => l.filterMap fun
    | .lit (.int k z) => some (.int k z)
    | _ => none
  | _ => []
abbrev rangeS : ByteArray := ⟨#[118, 97, 108, 117, 101, 32, 111, 117, 116, 32, 111, 102, 32, 114, 97, 110, 103, 101]⟩
abbrev syntaxS : ByteArray := ⟨#[105, 110, 118, 97, 108, 105, 100, 32, 115, 121, 110, 116, 97, 120]⟩
noncomputable def low : Nat := (World.holding Tryz.prog default ⟨#[], #[], []⟩).heap.size
def setG (g : Nat) (new : List Value) (h : Array Obj) : Array Obj := h.modify g fun
  | .cells _ t frozen => .cells new.toArray t frozen
  | o => o
/-- A world that meets the lists. -/
noncomputable def laidWorld (os : Os) : World :=
  let w0 := World.holding Tryz.prog os ⟨#[.cells #[.string rangeS] 274, .cells #[.string syntaxS] 274], #[], []⟩
  { w0 with heap := setG 7 (unAgg Rows.laid_math_bits_deBruijn64tab) (setG 6 (unAgg Rows.laid_math_bits_deBruijn32tab) (setG 3 (unAgg Rows.laid_internal_strconv_uint64pow10) (setG 2 [.iface 272 (.pointer (some ⟨low, 0, none⟩))] (setG 1 [.iface 272 (.pointer (some ⟨low + 1, 0, none⟩))] w0.heap)))) }
theorem laidWorld_met (os : Os) (args : Array Value) : laidMetH Tryz.prog LAID ((laidWorld os).forCall (fun _ _ => 0) ⟨#[], args, []⟩).memory :=
  show laidMet Tryz.prog LAID _ from laidMet_of_run' 8 (by kernel_rfl) (by kernel_rfl)

set_option maxRecDepth 100000 in
/-- A slice of strings that came in, as the walks want it. -/
theorem strs_of {H : Type} {enc : TypeId × Value → H} {W : World} {r : Reach} {b0 : Nat} {v : Value} {d : DataW H} {p : List MemPlace} (hval : Value.okWide Tryz.prog W r b0 25 v) (h : DataW.Trod enc Tryz.prog W 0 (fun _ => true) true 25 v d p) :
    ∃ (T : Option Addr) (n c : Nat) (xs : List ByteArray), v = .slice T n c ∧ n ≤ c ∧ Pg.Strs W T xs ∧ xs.length = n ∧ Pg.BdL xs := by
  obtain ⟨A, len, cap, rfl⟩ := okWide_slice Tryz.underlying25 hval
  obtain ⟨fuel, hf⟩ := h
  rcases open_strings Tryz.underlying25 Tryz.underlying9 Tryz.cells9 hf with ⟨hcs, -⟩ | ⟨a, len', cap', ss, hcs, hb, hlc, hcm, hsl, -, hcells, hsz⟩
  · simp [Value.cells] at hcs
    obtain ⟨rfl, rfl, rfl⟩ := hcs
    exact ⟨none, 0, 0, [], rfl, Nat.le_refl _, Pg.Strs.nil _ _, rfl, ⟨by simp, fun x hx => by cases hx⟩⟩
  · simp [Value.cells] at hcs
    obtain ⟨rfl, rfl, rfl⟩ := hcs
    have hsl' : ss.length = cap := by simpa using hsl
    refine ⟨some a, len, cap, ss.take len, rfl, hlc, fun i hi => ⟨a, rfl, ?_⟩, by simp; omega, ⟨?_, fun x hx => ?_⟩⟩
    · have hi' : i < len := by simp at hi; omega
      have hi2 : i < ss.length := by omega
      rw [hcells i hi2, List.getD_eq_getElem?_getD, List.getElem?_eq_getElem hi2]
      simp
    · unfold maxLen at hcm
      simp only [List.length_take]
      omega
    · have := hsz x (List.mem_of_mem_take hx)
      unfold maxLen at this
      omega
end Go.Proofs.YtkdbajpdcadliaaGreatDoor
