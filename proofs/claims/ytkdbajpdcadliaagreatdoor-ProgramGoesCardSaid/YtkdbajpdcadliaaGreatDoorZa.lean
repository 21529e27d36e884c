/- What the rows' lists and the world's shape give the walks: the library's variables; a world that meets the lists. · A program that came in as an argument, as the walks want it. -/
import Derived.Test.YtkdbajpdcadliaaGreatDoorRows
import Derived.Test.YtkdbajpdcadliaaGreatDoorYi
import Derived.Test.YtkdbajpdcadliaaGreatDoorXb
import Derived.ChangeSame
import Derived.ChangeVars
import Derived.JoinedOf
import Derived.RowKit
import Derived.RowKitTokens
import Derived.LaidLaws
import Derived.LaidHandle
import Derived.Stop.LaidErr
import Derived.HandedShaped
import Derived.Shelf.Vars
import Derived.SliceStrings
import Derived.ShutString
import Derived.Carry
import Derived.ProofKit
import Derived.Lib.SmallJoins
import Derived.Deep.Fields
set_option linter.unusedVariables false
namespace Go.Proofs.YtkdbajpdcadliaaGreatDoor
open Go.ChangeShapes Go.WideShapes Go.RowKit
open Go.ChangeMaps (open_string shut_string)

theorem Tryz.own : ownKnob Tryz.prog.godebug = none := by kernel_rfl
theorem Tryz.laidOut : laidOutB Tryz.prog = true := by kernel_rfl
theorem Tryz.g0 : Tryz.prog.globalNamed "internal/bytealg.MaxLen" = some 0 := by kernel_rfl
theorem Tryz.g1 : Tryz.prog.globalNamed "strconv.ErrSyntax" = some 1 := by kernel_rfl
theorem Tryz.g2 : Tryz.prog.globalNamed "strconv.ErrRange" = some 2 := by kernel_rfl
theorem Tryz.g3 : Tryz.prog.globalNamed "internal/strconv.uint64pow10" = some 3 := by kernel_rfl
theorem Tryz.g1t : (Tryz.prog.globals[1]?).map (·.type) = some 135 := by kernel_rfl
theorem Tryz.g2t : (Tryz.prog.globals[2]?).map (·.type) = some 135 := by kernel_rfl
theorem Tryz.g3t : (Tryz.prog.globals[3]?).map (·.type) = some 268 := by kernel_rfl
theorem Tryz.gs : Tryz.prog.globals.size = 8 := by kernel_rfl
theorem Tryz.star : "*" ++ "errors.errorString" = "*errors.errorString" := by decide
theorem Tryz.row272 (u : TypeId) (h : Tryz.prog.typeName? 3 u = some "*errors.errorString") : u = 272 :=
  typeName_ptr_named (nm := "errors.errorString") (by rw [Tryz.star]; kernel_rfl) (by kernel_rfl) (by decide) u (by rw [Tryz.star]; exact h)
theorem Tryz.cells274 : Tryz.prog.cellsOf 274 = 1 := by kernel_rfl
theorem Tryz.cells9 : Tryz.prog.cellsOf 9 = 1 := by kernel_rfl
theorem Tryz.cells211 : Tryz.prog.cellsOf 211 = 1 := by kernel_rfl
theorem Tryz.cells268 : Tryz.prog.cellsOf 268 = 20 := by kernel_rfl

/-- What the rows list. -/
abbrev LAID : List (String × DataW Unit) := Rows.programVariablesRow.laid
theorem laid_plain {W : World} (h : laidMetH Tryz.prog LAID W) : laidMet Tryz.prog LAID W := h
theorem pow10_data : (Rows.laid_internal_strconv_uint64pow10 : DataW Unit) = Lib.tabData .u64 Lib.pow10Tab := by kernel_rfl
theorem gl_of {W : World} (hh : laidMetH Tryz.prog LAID W) (hs : W.ShapedOpen Tryz.prog) : Pg.Gl W ∧ Pg.GlB W.heap.size := by
  have h := laid_plain hh
  have h2 := h.tail.tail
  have h3 : laidMet Tryz.prog (("internal/strconv.uint64pow10", Lib.tabData .u64 Lib.pow10Tab) :: [("strconv.ErrRange", Rows.laid_strconv_ErrRange), ("strconv.ErrSyntax", Rows.laid_strconv_ErrSyntax)]) W := by
    rw [← pow10_data]
    exact h2
  have htab := Lib.tabIs_of_head Tryz.g3 Tryz.g3t Tryz.underlying268 Tryz.underlying211 Tryz.cells211 Tryz.cells268 h3
  obtain ⟨a2, s2, hv2, -⟩ := laid_sentinel h2.tail Tryz.g2 Tryz.g2t Tryz.underlying135 Tryz.row272 Tryz.underlying272 Tryz.underlying274 rfl rfl Tryz.underlying9 Tryz.cells274 Tryz.cells9
  obtain ⟨a1, s1, hv1, -⟩ := laid_sentinel h2.tail.tail Tryz.g1 Tryz.g1t Tryz.underlying135 Tryz.row272 Tryz.underlying272 Tryz.underlying274 rfl rfl Tryz.underlying9 Tryz.cells274 Tryz.cells9
  obtain ⟨m, hm⟩ := cell_of_shapedOpen_int (g := 0) (t := 3) (zero := #[.int .i64 0]) (k := .i64) hs (by rw [Tryz.gs]; decide) (by kernel_rfl) rfl (by kernel_rfl) (by kernel_rfl) Tryz.underlying3
  refine ⟨⟨⟨m, hm⟩, htab, ⟨_, _, hv1⟩, ⟨_, _, hv2⟩⟩, ⟨?_⟩⟩
  have h7 : (((begin Tryz.prog (fun _ _ => 0) default).world.heap[7]?).bind Obj.row?).map (·.2) = some 288 := by kernel_rfl
  obtain ⟨⟨z, t7⟩, hz, e7⟩ := Option.map_eq_some_iff.1 h7
  obtain rfl : t7 = 288 := e7
  obtain ⟨cs, hc, -⟩ := hs.1 7 z 288 (by rw [Tryz.gs]; decide) hz
  have := (Array.getElem?_eq_some_iff.1 hc).1
  rw [Tryz.gs]
  omega

/-- The cells of a table's datum. -/
def unAgg : DataW Unit → List Value
  | .agg l => l.filterMap fun
    | .lit (.int k z) => some (.int k z)
    | _ => none
  | _ => []
abbrev rangeS : ByteArray := ⟨#[118, 97, 108, 117, 101, 32, 111, 117, 116, 32, 111, 102, 32, 114, 97, 110, 103, 101]⟩
abbrev syntaxS : ByteArray := ⟨#[105, 110, 118, 97, 108, 105, 100, 32, 115, 121, 110, 116, 97, 120]⟩
noncomputable def low : Nat := (World.holding Tryz.prog default ⟨#[], #[], []⟩).heap.size
def setG (g : Nat) (new : List Value) (h : Array Obj) : Array Obj := h.modify g fun
  | .cells _ t frozen => .cells new.toArray t frozen
  | o => o
/-- A world that meets the lists. -/
noncomputable def laidWorld (os : Os) : World :=
  let w0 := World.holding Tryz.prog os ⟨#[.cells #[.string rangeS] 274, .cells #[.string syntaxS] 274], #[], []⟩
  { w0 with heap := setG 7 (unAgg Rows.laid_math_bits_deBruijn64tab) (setG 6 (unAgg Rows.laid_math_bits_deBruijn32tab) (setG 3 (unAgg Rows.laid_internal_strconv_uint64pow10) (setG 2 [.iface 272 (.pointer (some ⟨low, 0, none⟩))] (setG 1 [.iface 272 (.pointer (some ⟨low + 1, 0, none⟩))] w0.heap)))) }
theorem laidWorld_met (os : Os) (args : Array Value) : laidMetH Tryz.prog LAID ((laidWorld os).forCall (fun _ _ => 0) ⟨#[], args, []⟩).memory :=
  show laidMet Tryz.prog LAID _ from laidMet_of_run' 8 (by kernel_rfl) (by kernel_rfl)

set_option maxRecDepth 100000 in
/-- A slice of strings that came in, as the walks want it. -/
theorem strs_of {H : Type} {enc : TypeId × Value → H} {W : World} {r : Reach} {b0 : Nat} {v : Value} {d : DataW H} {p : List MemPlace} (hval : Value.okWide Tryz.prog W r b0 25 v) (h : DataW.Trod enc Tryz.prog W 0 (fun _ => true) true 25 v d p) :
    ∃ (T : Option Addr) (n c : Nat) (xs : List ByteArray), v = .slice T n c ∧ n ≤ c ∧ Pg.Strs W T xs ∧ xs.length = n ∧ Pg.BdL xs := by
  obtain ⟨A, len, cap, rfl⟩ := okWide_slice Tryz.underlying25 hval
  obtain ⟨fuel, hf⟩ := h
  rcases open_strings Tryz.underlying25 Tryz.underlying9 Tryz.cells9 hf with ⟨hcs, -⟩ | ⟨a, len', cap', ss, hcs, hb, hlc, hcm, hsl, -, hcells, hsz⟩
  · simp [Value.cells] at hcs
    obtain ⟨rfl, rfl, rfl⟩ := hcs
    exact ⟨none, 0, 0, [], rfl, Nat.le_refl _, Pg.Strs.nil _ _, rfl, ⟨by simp, fun x hx => by cases hx⟩⟩
  · simp [Value.cells] at hcs
    obtain ⟨rfl, rfl, rfl⟩ := hcs
    have hsl' : ss.length = cap := by simpa using hsl
    refine ⟨some a, len, cap, ss.take len, rfl, hlc, fun i hi => ⟨a, rfl, ?_⟩, by simp; omega, ⟨?_, fun x hx => ?_⟩⟩
    · have hi' : i < len := by simp at hi; omega
      have hi2 : i < ss.length := by omega
      rw [hcells i hi2, List.getD_eq_getElem?_getD, List.getElem?_eq_getElem hi2]
      simp
    · unfold maxLen at hcm
      simp only [List.length_take]
      omega
    · have := hsz x (List.mem_of_mem_take hx)
      unfold maxLen at this
      omega
end Go.Proofs.YtkdbajpdcadliaaGreatDoor

set_option linter.unusedVariables false
namespace Go.Proofs.YtkdbajpdcadliaaGreatDoor
open Go.ChangeShapes Go.WideShapes Go.RowKit Go.Joins Go.Deep

theorem list_of {α : Type} {Q : Nat → α → Prop} : ∀ n : Nat, (∀ i, i < n → ∃ x, Q i x) → ∃ l : List α, l.length = n ∧ ∀ i (h : i < l.length), Q i l[i]
  | 0, _ => ⟨[], rfl, fun i h => absurd h (by simp)⟩
  | n + 1, h => by
    obtain ⟨l, hl, hq⟩ := list_of n (fun i hi => h i (by omega))
    obtain ⟨x, hx⟩ := h n (by omega)
    refine ⟨l ++ [x], by simp [hl], fun i hi => ?_⟩
    by_cases hi' : i < l.length
    · rw [List.getElem_append_left hi']; exact hq i hi'
    · have e : i = n := by simp at hi; omega
      subst e
      rw [List.getElem_append_right (by omega)]
      simpa [hl] using hx
theorem Tryz.cells77 : Tryz.prog.cellsOf 77 = 4 := by kernel_rfl
theorem Tryz.cells24 : Tryz.prog.cellsOf 24 = 2 := by kernel_rfl
theorem addr_field (a : Addr) (i j : Nat) (hj : j ≠ 0) : (a.add i).add j = ⟨(a.add i).block, (a.add i).off + j, none⟩ := by
  unfold Addr.add
  rw [if_neg hj]
/-- What step i of a row of steps reads as. -/
def StepAtQ (W : World) (a : Addr) (i : Nat) (s : Pg.Step) : Prop :=
  ∃ (T : Option Addr) (c : Nat), W.cell? (a.add (i * 4)) = some (.int .i64 s.op) ∧ W.cell? ⟨(a.add (i * 4)).block, (a.add (i * 4)).off + 1, none⟩ = some (.int .i64 s.a) ∧ W.cell? ⟨(a.add (i * 4)).block, (a.add (i * 4)).off + 2, none⟩ = some (.int .i64 s.b) ∧
    W.cell? ⟨(a.add (i * 4)).block, (a.add (i * 4)).off + 3, none⟩ = some (.slice T s.texts.length c) ∧ s.texts.length ≤ c ∧ Pg.Strs W T s.texts ∧ Pg.BdL s.texts
set_option maxRecDepth 100000 in
theorem prog_of {H : Type} {enc : TypeId × Value → H} {W : World} {r : Reach} {b0 : Nat} {v : Value} {d : DataW H} {p : List MemPlace} (hval : Value.okWide Tryz.prog W r b0 24 v) (h : DataW.Trod enc Tryz.prog W 0 (fun _ => true) true 24 v d p) :
    ∃ (nm : ByteArray) (A : Option Addr) (n c : Nat) (ss : List Pg.Step), v = .agg #[.string nm, .slice A n c] ∧ Pg.StepsAt W A ss ∧ ss.length = n ∧ Pg.BdLS ss ∧ (nm.size : Int) ≤ 9223372036854775807 := by
  obtain ⟨v0, v1, y0, y1, m, rfl, -, -, h0, h1⟩ := open_agg2 Tryz.underlying24 (by kernel_rfl) Tryz.cells24 hval h
  obtain ⟨nm, e0, -, hz⟩ := DataW.trod_string Tryz.underlying9 h0
  obtain rfl : v0 = .string nm := by simpa using e0
  unfold maxLen at hz
  rcases DataW.trod_slice Tryz.underlying22 h1 with ⟨hcs, -⟩ | ⟨a, len, cap, elems, rest, k, -, hcs, -, -, hlc, hcm, hel, hE, -, -⟩
  · obtain rfl : v1 = .slice none 0 0 := by simpa using hcs
    exact ⟨nm, none, 0, 0, [], rfl, fun i hi => absurd hi (by simp), rfl, ⟨by simp, fun s hs => by cases hs⟩, by omega⟩
  · obtain rfl : v1 = .slice (some a) len cap := by simpa using hcs
    have each : ∀ i, i < len → ∃ s, StepAtQ W a i s := by
      intro i hi
      have hb := hE i hi
      rw [List.getElem?_eq_getElem (by omega), Option.bind_eq_some_iff, Tryz.cells77] at hb
      obtain ⟨cs, hcc, ht⟩ := hb
      obtain ⟨-, hcl, hat⟩ := World.cells?_some hcc
      obtain ⟨ys, k', -, -, -, hyl, hf⟩ := DataW.trod_struct Tryz.underlying77 ht
      match cs, hcl with
      | [c0, c1, c2, c3], _ =>
        have f0 := hf 0 _ rfl
        have f1 := hf 1 _ rfl
        have f2 := hf 2 _ rfl
        have f3 := hf 3 _ rfl
        have hy : ys.length = 4 := hyl
        rw [List.getElem?_eq_getElem (by omega)] at f0 f1 f2 f3
        have f0' : DataW.trod enc Tryz.prog W 0 (fun _ => true) true k' 3 [c0] = some ys[0] := f0
        have f1' : DataW.trod enc Tryz.prog W 0 (fun _ => true) true k' 3 [c1] = some ys[1] := f1
        have f2' : DataW.trod enc Tryz.prog W 0 (fun _ => true) true k' 3 [c2] = some ys[2] := f2
        have f3' : DataW.trod enc Tryz.prog W 0 (fun _ => true) true k' 25 [c3] = some ys[3] := f3
        obtain ⟨x0, e0, -, -⟩ := DataW.trod_int Tryz.underlying3 f0'
        obtain ⟨x1, e1, -, -⟩ := DataW.trod_int Tryz.underlying3 f1'
        obtain ⟨x2, e2, -, -⟩ := DataW.trod_int Tryz.underlying3 f2'
        obtain rfl : c0 = .int .i64 x0 := by simpa using e0
        obtain rfl : c1 = .int .i64 x1 := by simpa using e1
        obtain rfl : c2 = .int .i64 x2 := by simpa using e2
        have a0 := hat 0 (by decide)
        have a1 := hat 1 (by decide)
        have a2 := hat 2 (by decide)
        have a3 := hat 3 (by decide)
        rw [addr_field _ _ _ (by decide)] at a1 a2 a3
        rcases open_strings Tryz.underlying25 Tryz.underlying9 Tryz.cells9 f3' with ⟨hcs3, -⟩ | ⟨a', len', cap', ts, hcs3, -, hlc', hcm', hsl, -, hcells, hsz⟩
        · obtain rfl : c3 = .slice none 0 0 := by simpa using hcs3
          exact ⟨⟨x0, x1, x2, []⟩, none, 0, a0, a1, a2, a3, Nat.le_refl _, Pg.Strs.nil _ _, ⟨by simp, fun x hx => by cases hx⟩⟩
        · obtain rfl : c3 = .slice (some a') len' cap' := by simpa using hcs3
          have hsl' : ts.length = cap' := by simpa using hsl
          have hlt : (ts.take len').length = len' := by rw [List.length_take]; omega
          unfold maxLen at hcm'
          refine ⟨⟨x0, x1, x2, ts.take len'⟩, some a', cap', a0, a1, a2, by rw [hlt]; exact a3, by rw [hlt]; exact hlc', fun q hq => ⟨a', rfl, ?_⟩, ⟨by rw [hlt]; omega, fun x hx => ?_⟩⟩
          · have hq' : q < len' := by rw [hlt] at hq; exact hq
            have hq2 : q < ts.length := by omega
            rw [hcells q hq2, List.getD_eq_getElem?_getD, List.getElem?_eq_getElem hq2]
            simp
          · have := hsz x (List.mem_of_mem_take hx)
            unfold maxLen at this
            omega
    obtain ⟨ss, hsl, hq⟩ := list_of len each
    unfold maxLen at hcm
    refine ⟨nm, some a, len, cap, ss, rfl, fun i hi => ?_, hsl, ⟨by omega, fun s hs => ?_⟩, by omega⟩
    · obtain ⟨T, c, q0, q1, q2, q3, q4, q5, q6⟩ := hq i hi
      exact ⟨a, T, c, rfl, q0, q1, q2, q3, q4, q5⟩
    · obtain ⟨i, hi, rfl⟩ := List.getElem_of_mem hs
      obtain ⟨T, c, q0, q1, q2, q3, q4, q5, q6⟩ := hq i hi
      exact q6
theorem array5 {α : Type} {cs : Array α} (h : cs.size = 5) : ∃ c0 c1 c2 c3 c4, cs = #[c0, c1, c2, c3, c4] := by
  obtain ⟨l⟩ := cs
  match l, h with
  | [c0, c1, c2, c3, c4], _ => exact ⟨c0, c1, c2, c3, c4, rfl⟩
theorem Tryz.cells27 : Tryz.prog.cellsOf 27 = 5 := by kernel_rfl
set_option maxRecDepth 100000 in
theorem trod_run {H : Type} {enc : TypeId × Value → H} {W : World} {k : Nat} {c0 c1 c2 c3 c4 : Value} {x : DataW H × List MemPlace} (h : DataW.trod enc Tryz.prog W 0 (fun _ => true) true k 27 [c0, c1, c2, c3, c4] = some x) :
    ∃ (pl : Int) (T : Option Addr) (n c : Nat) (st : ByteArray) (count over : Int) (xs : List ByteArray), c0 = .int .i64 pl ∧ c1 = .slice T n c ∧ c2 = .string st ∧ c3 = .int .i64 count ∧ c4 = .int .i64 over ∧ Pg.Strs W T xs ∧ xs.length = n ∧ Pg.BdL xs := by
  obtain ⟨ys, k', -, -, -, hyl, hf⟩ := DataW.trod_struct Tryz.underlying27 h
  have f0 := hf 0 _ rfl
  have f1 := hf 1 _ rfl
  have f2 := hf 2 _ rfl
  have f3 := hf 3 _ rfl
  have f4 := hf 4 _ rfl
  have hy : ys.length = 5 := hyl
  rw [List.getElem?_eq_getElem (by omega)] at f0 f1 f2 f3 f4
  have f0' : DataW.trod enc Tryz.prog W 0 (fun _ => true) true k' 3 [c0] = some ys[0] := f0
  have f1' : DataW.trod enc Tryz.prog W 0 (fun _ => true) true k' 25 [c1] = some ys[1] := f1
  have f2' : DataW.trod enc Tryz.prog W 0 (fun _ => true) true k' 9 [c2] = some ys[2] := f2
  have f3' : DataW.trod enc Tryz.prog W 0 (fun _ => true) true k' 3 [c3] = some ys[3] := f3
  have f4' : DataW.trod enc Tryz.prog W 0 (fun _ => true) true k' 3 [c4] = some ys[4] := f4
  obtain ⟨x0, e0, -, -⟩ := DataW.trod_int Tryz.underlying3 f0'
  obtain ⟨x2, e2, -, -⟩ := DataW.trod_string Tryz.underlying9 f2'
  obtain ⟨x3, e3, -, -⟩ := DataW.trod_int Tryz.underlying3 f3'
  obtain ⟨x4, e4, -, -⟩ := DataW.trod_int Tryz.underlying3 f4'
  obtain rfl : c0 = .int .i64 x0 := by simpa using e0
  obtain rfl : c2 = .string x2 := by simpa using e2
  obtain rfl : c3 = .int .i64 x3 := by simpa using e3
  obtain rfl : c4 = .int .i64 x4 := by simpa using e4
  rcases open_strings Tryz.underlying25 Tryz.underlying9 Tryz.cells9 f1' with ⟨hcs, -⟩ | ⟨a', len', cap', ts, hcs, -, hlc', hcm', hsl, -, hcells, hsz⟩
  · obtain rfl : c1 = .slice none 0 0 := by simpa using hcs
    exact ⟨x0, none, 0, 0, x2, x3, x4, [], rfl, rfl, rfl, rfl, rfl, Pg.Strs.nil _ _, rfl, ⟨by simp, fun x hx => by cases hx⟩⟩
  · obtain rfl : c1 = .slice (some a') len' cap' := by simpa using hcs
    have hsl' : ts.length = cap' := by simpa using hsl
    have hlt : (ts.take len').length = len' := by rw [List.length_take]; omega
    unfold maxLen at hcm'
    refine ⟨x0, some a', len', cap', x2, x3, x4, ts.take len', rfl, rfl, rfl, rfl, rfl, fun q hq => ⟨a', rfl, ?_⟩, hlt, ⟨by rw [hlt]; omega, fun x hx => ?_⟩⟩
    · have hq' : q < len' := by rw [hlt] at hq; exact hq
      have hq2 : q < ts.length := by omega
      rw [hcells q hq2, List.getD_eq_getElem?_getD, List.getElem?_eq_getElem hq2]
      simp
    · have := hsz x (List.mem_of_mem_take hx)
      unfold maxLen at this
      omega
set_option maxRecDepth 100000 in
theorem run_of {H : Type} {enc : TypeId × Value → H} {W : World} {r : Reach} {b0 : Nat} {v : Value} {d : DataW H} {p : List MemPlace} (hval : Value.okWide Tryz.prog W r b0 27 v) (h : DataW.Trod enc Tryz.prog W 0 (fun _ => true) true 27 v d p) :
    ∃ (pl : Int) (T : Option Addr) (n c : Nat) (st : ByteArray) (count over : Int) (xs : List ByteArray), v = Pg.runV pl T n c st count over ∧ Pg.Strs W T xs ∧ xs.length = n ∧ Pg.BdL xs := by
  obtain ⟨cs, rfl, hsz⟩ := okWide_struct Tryz.underlying27 hval
  obtain ⟨c0, c1, c2, c3, c4, rfl⟩ := array5 (hsz.trans Tryz.cells27)
  obtain ⟨fuel, hf⟩ := h
  obtain ⟨pl, T, n, c, st, count, over, xs, rfl, rfl, rfl, rfl, rfl, h1, h2, h3⟩ := trod_run (by simpa [Value.cells] using hf)
  exact ⟨pl, T, n, c, st, count, over, xs, rfl, h1, h2, h3⟩
end Go.Proofs.YtkdbajpdcadliaaGreatDoor
