/- Walks: strings.Lines, slices.AppendSeq and slices.Collect over it (a range over a function whose iterator keeps its state in a cell). -/
import Derived.Test.YtkdbajpdcadliaaGreatDoorBb
import Derived.Test.YtkdbajpdcadliaaGreatDoorShelf
import Derived.RangeFuncBox
import Derived.RangeFuncLeaves
import Derived.RangeFuncRecord
import Derived.Shelf.Abstract
import Derived.WalkKit
import Derived.OwnWalkIn
import Derived.TacticsIn
import Derived.TacticsInMore
import Derived.BigFrameIn
import Derived.LoopNIn
import Derived.LoopIn
import Derived.Maps.AppendAt
import Derived.Lib.IndexLaws
set_option linter.unusedVariables false
namespace Go.Proofs.YtkdbajpdcadliaaGreatDoor.Pg
open Go.RowKit Go.Shelf
attribute [local go_sem] Oper.semAt_some

/-- The lines of a text, each with its line feed. -/
def linesL : List UInt8 → List (List UInt8)
  | [] => []
  | c :: l => if c = 10 then [10] :: linesL l else match linesL l with
    | [] => [[c]]
    | x :: xs => (c :: x) :: xs
def linesS (s : ByteArray) : List ByteArray := (linesL s.data.toList).map mkB

theorem linesL_cut : ∀ (u r : List UInt8), (∀ c ∈ u, c ≠ 10) → linesL (u ++ 10 :: r) = (u ++ [10]) :: linesL r
  | [], r, _ => by simp [linesL]
  | c :: u, r, h => by
    have hc : c ≠ 10 := h c (by simp)
    have := linesL_cut u r (fun d hd => h d (by simp [hd]))
    simp only [List.cons_append, linesL, if_neg hc, this]
theorem linesL_last : ∀ (u : List UInt8), u ≠ [] → (∀ c ∈ u, c ≠ 10) → linesL u = [u]
  | [c], _, h => by
    have hc : c ≠ 10 := h c (by simp)
    simp [linesL, hc]
  | c :: d :: u, _, h => by
    have hc : c ≠ 10 := h c (by simp)
    have := linesL_last (d :: u) (by simp) (fun e he => h e (by simp [he]))
    rw [linesL, if_neg hc, this]

def seqAssign : Code := Code.region 2 #[{ dst := some 5, op := Op.assign (Operand.tmp 7), type := 9, pos := "iter.go:51", after := #[], guard := none }] false
def seqBody : Code := Code.block 1 (Code.region 3
  #[{ dst := some 8, op := Op.load 25 (Operand.tmp 2), type := 25, pos := "iter.go:52", after := #[], guard := none },
    { dst := some 9, op := Op.move (Operand.tmp 5), type := 9, pos := "iter.go:52", after := #[], guard := none },
    { dst := some 10, op := Op.buildSlice 25 1 #[(0, Operand.tmp 9)], type := 25, pos := "iter.go:52", after := #[{ on := 1, ground := Ground.data }], guard := none },
    { dst := some 11, op := Op.call { callee := Callee.builtin Builtin.append, args := #[Operand.tmp 8, Operand.tmp 10], argTypes := #[25, 25] }, type := 25, pos := "iter.go:52",
      after := #[{ on := 0, ground := Ground.data }, { on := 2, ground := Ground.data }], guard := none },
    { dst := none, op := Op.store 25 (Operand.tmp 2) (Operand.tmp 11), type := 0, pos := "iter.go:52",
      after := #[{ on := 3, ground := Ground.data }, { on := 3, ground := Ground.chain }, { on := 0, ground := Ground.phase }, { on := 1, ground := Ground.phase }, { on := 2, ground := Ground.phase }, { on := 3, ground := Ground.phase }],
      guard := none }]
  false)
def seqTmps (Bs Bd : Nat) : Array Value := #[.slice none 0 0, .func (.func 88) #[] #[.pointer (some ⟨Bs, 0, none⟩)], .pointer (some ⟨Bd, 0, none⟩), undef, .slice none 0 0, undef, .func (.func 88) #[] #[.pointer (some ⟨Bs, 0, none⟩)], undef, undef, undef, undef, undef, undef]
def seqRec (fn : FuncId) (Bs Bd D : Nat) (st : LoopState) (pend : Option Code) : Loop :=
  { state := st, pending := pend, fn, tmps := seqTmps Bs Bd, params := #[7], assign := seqAssign, body := seqBody, defers := D }

/-- Between two rounds. -/
structure Mid (fn : FuncId) (n0 Bs Bd l D base : Nat) (w0 : World) (xs : List ByteArray) (r : ByteArray) (W : World) : Prop where
  s : Boxed W Bs 9 (.string r)
  v : ∃ v, Boxed W Bd 25 v ∧ Own W base v xs
  L : W.heap[l]? = some (.loop (seqRec fn Bs Bd D .ready none))
  K : W.heap[D]? = some (.deferred (some []))
  b : Below n0 w0 W

theorem Own.slice {W : World} {base : Nat} {v : Value} {xs : List ByteArray} (h : Own W base v xs) : ∃ A n c, v = .slice A n c := by
  obtain ⟨A, c, e, _⟩ := h.open_
  exact ⟨A, _, c, e⟩

theorem own_ne {W : World} {base B : Nat} {v : Value} {xs : List ByteArray} (h : Own W base v xs) (hB : B < base) : some B ≠ v.ownBlock := by
  rcases h.2 with ⟨e, _⟩ | ⟨g, cap, cur, e, hb, _⟩
  · rw [e]; simp [Value.ownBlock]
  · rw [e]; simp [Value.ownBlock]; omega
theorem below_put {n0 l : Nat} {w0 W : World} (h : Below n0 w0 W) (hl : n0 ≤ l) (hW : n0 ≤ W.heap.size) (o : Obj) : Below n0 w0 (W.putObj l o) :=
  h.grown (grownBy_putObj' W l o) hW (fun k e => by cases e; exact hl)
theorem below_set {n0 b : Nat} {w0 W : World} (h : Below n0 w0 W) (hl : n0 ≤ b) (v : Value) : Below n0 w0 (W.setCell ⟨b, 0, none⟩ v) :=
  h.setCell (p := ⟨b, 0, none⟩) hl v

abbrev seqAt (Bs Bd : Nat) (x : ByteArray) : Array Value := #[.slice none 0 0, .func (.func 88) #[] #[.pointer (some ⟨Bs, 0, none⟩)], .pointer (some ⟨Bd, 0, none⟩), undef, .slice none 0 0, undef, .func (.func 88) #[] #[.pointer (some ⟨Bs, 0, none⟩)], .string x, undef, undef, undef, undef, undef]

set_option maxRecDepth 100000 in
set_option maxHeartbeats 4000000 in
theorem seqRound (F : Fence) (m : Nat) (fn : FuncId) (hfn : F.fn fn) (n0 Bs Bd l D base : Nat) (w0 : World) (hn : n0 ≤ Bs) (hsb : Bs < base) (hnd : n0 ≤ Bd) (hdb : base ≤ Bd) (hne : Bs ≠ Bd) (hnl : n0 ≤ l) (hDl : D ≠ l) (xs : List ByteArray) (x r : ByteArray) (hlen : (xs.length : Int) ≤ 1000000) (W : World)
    (h : Mid fn n0 Bs Bd l D base w0 xs r W) (hbase : base ≤ W.heap.size) :
    RoundIn F m Tryz.prog l fn (seqAt Bs Bd x) seqAssign seqBody W
      fun e W' => e = .returned (.bool true) ∧ Mid fn n0 Bs Bd l D base w0 (xs ++ [x]) r W' ∧ base ≤ W'.heap.size := by
  refine roundIn_of_wpIn hfn ?_
  obtain ⟨v, hv, hown⟩ := h.v
  have hl : l < W.heap.size := (Array.getElem?_eq_some_iff.1 h.L).1
  have hbr := run_beginRound (P := Tryz.prog) h.L rfl
  have hg2 := grownBy_putObj' W l (.loop { seqRec fn Bs Bd D .ready none with state := .busy })
  have hlo : ∀ o, W.heap[l]? = some o → o.isCells = false := fun o ho => by rw [h.L] at ho; cases ho; rfl
  have hno : ∀ {B t u}, Boxed W B t u → some B ≠ some l := fun hB e => by cases e; have := hlo _ hB; cases this
  obtain ⟨W2, hW2⟩ : ∃ W2, W.putObj l (.loop { seqRec fn Bs Bd D .ready none with state := .busy }) = W2 := ⟨_, rfl⟩
  have hL2 : W2.heap[l]? = some (.loop { seqRec fn Bs Bd D .ready none with state := .busy }) := by rw [← hW2]; exact World.putObj_heap_same hl
  have hK2 : W2.heap[D]? = some (.deferred (some [])) := by rw [← hW2]; exact (World.putObj_heap_other hDl).trans h.K
  have hs2 : Boxed W2 Bs 9 (.string r) := by rw [← hW2]; exact h.s.kept hg2 (hno h.s)
  have hv2 : Boxed W2 Bd 25 v := by rw [← hW2]; exact hv.kept hg2 (hno hv)
  have ho2 : Own W2 base v xs := by rw [← hW2]; exact ownsRow_putObj hown _ h.L rfl
  have hB2 : Below n0 w0 W2 := by rw [← hW2]; exact below_put h.b hnl (by omega) _
  have hz2 : base ≤ W2.heap.size := by rw [← hW2]; simpa using hbase
  rw [hW2] at hbr
  clear hW2 hg2 hno hlo hbase hown hv h
  obtain ⟨i0, hi, hzz⟩ := Option.map_eq_some_iff.1 infoStr
  simp only [Prod.mk.injEq] at hzz
  obtain ⟨hz0, hz1, hz3⟩ := hzz
  obtain ⟨A, nn, cc, rfl⟩ := ho2.slice
  have hcd := hv2.cell
  have HO := Lib.hid ho2
  have HV := Lib.hid hv2
  have HS := Lib.hid hs2
  have HL := Lib.hid hL2
  have HK := Lib.hid hK2
  have HB := Lib.hid hB2
  clear ho2 hv2 hs2 hL2 hK2 hB2
  unfold seqAssign
  gi_wp2
  unfold seqBody
  gi_wp2_with (gi_at_builtin; refine wpListIn_append_own _ rfl _ _ 25 rfl base 9 i0 _ 1 16 Tryz.underlying25 hi hz0 hz1 hz3 rfl (by decide) _ _ _ rfl (World.ownsRow.alloc HO.out _) ⟨W2.heap.size, 0, none⟩ 1 1 [.string x] rfl rfl (cell_one_new _ _ _) (by simp [Value.oneCell']) (by unfold maxLen; omega) (by omega) (by simp; omega) ?_; intro v' w1 hown' hgrow _; obtain ⟨g', cap', rfl⟩ := ownsRow_succ hown'; obtain ⟨hv1, hv3, hr3, hk3, hb3⟩ := HV.out.appended (by decide) HO.out hz2 (by omega) hown' hgrow; have hc1 := hv1.cell; have hf1 := hv1.frozen)
  have hL3 : (w1.setCell ⟨Bd, 0, none⟩ (.slice (some ⟨g', 0, none⟩) (xs.length + 1) cap')).heap[l]? = some (.loop { seqRec fn Bs Bd D .ready none with state := .busy }) := hk3.same l _ HL.out rfl
  have hK3 := hk3.same D _ HK.out rfl
  have hl3 : l < (w1.setCell ⟨Bd, 0, none⟩ (.slice (some ⟨g', 0, none⟩) (xs.length + 1) cap')).heap.size := (Array.getElem?_eq_some_iff.1 hL3).1
  have hs1 : Boxed w1 Bs 9 (.string r) := (HS.out.alloc _).kept hgrow (own_ne HO.out hsb)
  have hs3 : Boxed (w1.setCell ⟨Bd, 0, none⟩ (.slice (some ⟨g', 0, none⟩) (xs.length + 1) cap')) Bs 9 (.string r) := hs1.kept (grownBy_setCell' _ _ _) (by simp; exact hne)
  have hno : ∀ {X : World} {B t u}, Boxed X B t u → (∀ o, X.heap[l]? = some o → o.isCells = false) → some B ≠ some l := fun hB h e => by cases e; have := h _ hB; cases this
  have hlo : ∀ o, (w1.setCell ⟨Bd, 0, none⟩ (.slice (some ⟨g', 0, none⟩) (xs.length + 1) cap')).heap[l]? = some o → o.isCells = false := fun o ho => by rw [hL3] at ho; cases ho; rfl
  have hz3 : base ≤ (w1.setCell ⟨Bd, 0, none⟩ (.slice (some ⟨g', 0, none⟩) (xs.length + 1) cap')).heap.size := by have := hb3.size; omega
  have hB3 : Below n0 w0 (w1.setCell ⟨Bd, 0, none⟩ (.slice (some ⟨g', 0, none⟩) (xs.length + 1) cap')) := HB.out.trans (hb3.mono (by omega))
  refine ⟨_, _, run_endRound none hL3, rfl, ⟨?_, ?_, ?_, ?_, ?_⟩, ?_⟩
  · exact hs3.kept (grownBy_putObj' _ _ _) (hno hs3 hlo)
  · exact ⟨_, hv3.kept (grownBy_putObj' _ _ _) (hno hv3 hlo), by
      have := ownsRow_putObj hr3 (.loop { seqRec fn Bs Bd D .ready none with state := if (none : Option Code).isNone then .ready else .done, pending := none }) hL3 rfl
      unfold Own
      simpa using this⟩
  · exact World.putObj_heap_same hl3
  · exact (World.putObj_heap_other hDl).trans hK3
  · exact below_put hB3 hnl (by omega) _
  · simpa using hz3

def cellSize (Bs : Nat) (W : World) : Nat := match W.cell? ⟨Bs, 0, none⟩ with
  | some (.string s) => s.size
  | _ => 0
theorem cellSize_eq {Bs : Nat} {W : World} {r : ByteArray} (h : Boxed W Bs 9 (.string r)) : cellSize Bs W = r.size := by
  unfold cellSize; rw [h.cell]

theorem Mid.set {fn : FuncId} {n0 Bs Bd l D base : Nat} {w0 : World} {xs : List ByteArray} {r : ByteArray} {W : World} (h : Mid fn n0 Bs Bd l D base w0 xs r W) (hn : n0 ≤ Bs) (hne : Bs ≠ Bd) (hsb : Bs < base) (r' : ByteArray) :
    Mid fn n0 Bs Bd l D base w0 xs r' (W.setCell ⟨Bs, 0, none⟩ (.string r')) := by
  obtain ⟨v, hv, hown⟩ := h.v
  have hg := grownBy_setCell' W Bs (.string r')
  have hc : ∀ {k : Nat} {o : Obj}, W.heap[k]? = some o → o.isCells = false → k ≠ Bs := fun hk ho e => by
    subst e; rw [show W.heap[_]? = _ from h.s] at hk; cases hk; cases ho
  refine ⟨h.s.set _, ⟨v, hv.kept hg (by simp; exact fun e => hne e.symm), ?_⟩, ?_, ?_, below_set h.b hn _⟩
  · exact World.ownsRow.kept hown hg (.inr (own_ne hown hsb).symm)
  · exact (Below.heap_setCell W ⟨Bs, 0, none⟩ _ l (hc h.L rfl)).trans h.L
  · exact (Below.heap_setCell W ⟨Bs, 0, none⟩ _ D (hc h.K rfl)).trans h.K

theorem Mid.drew {fn : FuncId} {n0 Bs Bd l D base : Nat} {w0 : World} {xs : List ByteArray} {r : ByteArray} {W : World} (h : Mid fn n0 Bs Bd l D base w0 xs r W) : Mid fn n0 Bs Bd l D base w0 xs r W.drew :=
  ⟨h.s, h.v, h.L, h.K, h.b.drew⟩
theorem linesL_index {l : List UInt8} {o : Nat} (h1 : l[o]? = some 10) (h2 : ∀ k, k < o → l[k]? ≠ some 10) : linesL l = l.take (o + 1) :: linesL (l.drop (o + 1)) := by
  have ho : o < l.length := by
    rcases Nat.lt_or_ge o l.length with h | h
    · exact h
    · rw [List.getElem?_eq_none h] at h1; cases h1
  have e1 : l[o] = 10 := by rw [List.getElem?_eq_getElem ho] at h1; exact Option.some.inj h1
  have e2 : l = l.take o ++ 10 :: l.drop (o + 1) := by
    rw [← e1, List.getElem_cons_drop, List.take_append_drop]
  have e3 : l.take (o + 1) = l.take o ++ [10] := by rw [List.take_add_one, h1]; rfl
  rw [e3]
  conv => lhs; rw [e2]
  refine linesL_cut _ _ (fun c hc e => ?_)
  obtain ⟨k, hk, e4⟩ := List.getElem_of_mem hc
  have hk2 : k < o := by simp at hk; omega
  refine h2 k hk2 ?_
  rw [List.getElem_take] at e4
  rw [List.getElem?_eq_getElem (by omega), e4, e]

set_option maxRecDepth 100000 in
set_option maxHeartbeats 4000000 in
theorem lines88_in (n : Nat) (hn1 : 1 ≤ n) (fn : FuncId) (n0 Bs Bd l D base : Nat) (w0 : World) (hn : n0 ≤ Bs) (hsb : Bs < base) (hnd : n0 ≤ Bd) (hdb : base ≤ Bd) (hne : Bs ≠ Bd) (hnl : n0 ≤ l) (hDl : D ≠ l) (s : ByteArray) (hsz : (s.size : Int) ≤ 1000000) (W : World)
    (h : Mid fn n0 Bs Bd l D base w0 [] s W) (hbase : base ≤ W.heap.size) :
    CallsIn Fence.wide n Tryz.prog 88 #[.func (.yield l) #[] #[], .pointer (some ⟨Bs, 0, none⟩)] W
      fun e W' => (∃ v, e = .returned v) ∧ Mid fn n0 Bs Bd l D base w0 (linesS s) ⟨#[]⟩ W' ∧ base ≤ W'.heap.size := by
  refine callsIn_of_wp Tryz.func88 rfl trivial ?_ rfl
  simp only [Tryz.ntmps88, List.size_toArray, List.length_cons, List.length_nil, Nat.reduceAdd, Nat.reduceSub, Array.replicate_succ, Array.replicate_zero, List.push_toArray, List.append_toArray, List.nil_append, List.cons_append]
  gi_wp2
  gi_loopw [3, 4] (fun _ _ wr => ∃ (xs : List ByteArray) (r : ByteArray), Hid (linesS s = xs ++ linesS r) ∧ (xs.length : Int) + r.size ≤ s.size ∧ Mid fn n0 Bs Bd l D base w0 xs r wr ∧ base ≤ wr.heap.size)
    (fun _ _ wr => cellSize Bs wr)
  case atStart => exact ⟨[], s, by unfold Hid; rfl, by simp, h, hbase⟩
  case round =>
    obtain ⟨xs, r, hx, hlen, hM, hbz⟩ := hrel
    have hc := hM.s.cell
    have hf := hM.s.frozen
    have HM := Lib.hid hM
    clear hM h hbase
    by_cases hr0 : 0 < (r.size : Int)
    · have hR : ∀ (x r' : ByteArray) (W2 : World), Mid fn n0 Bs Bd l D base w0 xs r' W2 → base ≤ W2.heap.size →
          (Instr.yield l #[.string x]).run Tryz.prog W2 = .ok (.round l fn (seqAt Bs Bd x) seqAssign seqBody) W2 ∧
          RoundIn Fence.wide (n - 1) Tryz.prog l fn (seqAt Bs Bd x) seqAssign seqBody W2 fun e W' => e = .returned (.bool true) ∧ Mid fn n0 Bs Bd l D base w0 (xs ++ [x]) r' W' ∧ base ≤ W'.heap.size := fun x r' W2 hM2 hb2 =>
        ⟨by simpa [seqRec, seqTmps] using run_yield (P := Tryz.prog) (args := #[.string x]) hM2.L rfl,
         seqRound Fence.wide (n - 1) fn trivial n0 Bs Bd l D base w0 hn hsb hnd hdb hne hnl hDl xs x r' (by omega) W2 hM2 hb2⟩
      by_cases hi : Lib.indexByte r.data.toList 10 = -1
      · have hib : Calls Tryz.prog 89 #[.string r, .int .u8 10] wr fun e w' => e = .returned (.int .i64 (-1)) ∧ w' = wr := by
          have := Tryz.strings_IndexByte r 10 wr
          rwa [show ((10 : Int).toNat.toUInt8) = (10 : UInt8) from rfl, hi] at this
        have hM2 := HM.out.set hn hne hsb ⟨#[]⟩
        obtain ⟨hy, hRR⟩ := hR r ⟨#[]⟩ _ hM2 (by simpa [World.setCell] using hbz)
        have HR := Lib.hid hRR
        clear hRR hR hM2
        gi_wp2_with (refine ⟨trivial, ?_⟩; gi_at_call 89; refine (callsIn_wide.2 hib).mono ?_; rintro e w' ⟨rfl, rfl⟩)
        refine HR.out.mono ?_
        rintro e W3 ⟨rfl, hM3, hb3⟩
        gi_wp2
        go_roundw
        case rel =>
          refine ⟨xs ++ [r], ⟨#[]⟩, ?_, by have h0 : ((⟨#[]⟩ : ByteArray).size : Int) = 0 := rfl;
                                            rw [h0]; simp; omega, hM3, hb3⟩
          unfold Hid
          rw [hx.out, List.append_assoc]
          congr 1
          have h1 : linesL r.data.toList = [r.data.toList] := linesL_last _ (fun e => by have := congrArg List.length e; simp only [Array.length_toList, List.length_nil] at this; have h2 : r.size = 0 := this; omega) (fun c hc e => by
            obtain ⟨k, hk, e2⟩ := List.getElem_of_mem hc
            exact Lib.indexByte_none hi k (by rw [List.getElem?_eq_getElem hk, e2, e]))
          unfold linesS
          rw [h1]
          simp [linesL, mkB_of]
        case measure =>
          rw [cellSize_eq hM3.s, cellSize_eq HM.out.s]
          have h0 : (⟨#[]⟩ : ByteArray).size = 0 := rfl
          omega
      · obtain ⟨o, ho⟩ : ∃ o : Nat, Lib.indexByte r.data.toList 10 = o := ⟨(Lib.indexByte r.data.toList 10).toNat, by have := Lib.indexByte_ge r.data.toList 10; omega⟩
        have hib : Calls Tryz.prog 89 #[.string r, .int .u8 10] wr fun e w' => e = .returned (.int .i64 o) ∧ w' = wr := by
          have := Tryz.strings_IndexByte r 10 wr
          rwa [show ((10 : Int).toNat.toUInt8) = (10 : UInt8) from rfl, ho] at this
        obtain ⟨ho1, ho2⟩ := Lib.indexByte_some ho
        have hos : o < r.size := by
          rcases Nat.lt_or_ge o r.size with h' | h'
          · exact h'
          · rw [List.getElem?_eq_none (by rw [Array.length_toList]; exact h')] at ho1; cases ho1
        have HO1 := Lib.hid ho1
        have HO2 := Lib.hid ho2
        clear hi ho ho1 ho2
        have hM2 := (HM.out.set hn hne hsb (r.extract (o + 1) r.size)).drew
        obtain ⟨hy, hRR⟩ := hR (r.extract 0 (o + 1)) (r.extract (o + 1) r.size) _ hM2 (by simpa [World.setCell] using hbz)
        have HR := Lib.hid hRR
        clear hRR hR hM2
        gi_wp2_with (refine ⟨trivial, ?_⟩; gi_at_call 89; refine (callsIn_wide.2 hib).mono ?_; rintro e w' ⟨rfl, rfl⟩)
        gi_region
        all_goals gi_wp2
        refine HR.out.mono ?_
        rintro e W3 ⟨rfl, hM3, hb3⟩
        gi_wp2
        have es : (r.extract 0 (o + 1)).data.toList = r.data.toList.take (o + 1) := extract_upto r (o + 1)
        have er : (r.extract (o + 1) r.size).data.toList = r.data.toList.drop (o + 1) := extract_from r (o + 1)
        have zr : (r.extract (o + 1) r.size).size = r.size - (o + 1) := by simp [ByteArray.size_extract]
        go_roundw
        case rel =>
          refine ⟨xs ++ [r.extract 0 (o + 1)], r.extract (o + 1) r.size, ?_, by rw [zr]; simp; omega, hM3, hb3⟩
          unfold Hid
          rw [hx.out, List.append_assoc]
          congr 1
          unfold linesS
          rw [linesL_index HO1.out HO2.out, er, List.map_cons, ← es, mkB_of]
          rfl
        case measure =>
          rw [cellSize_eq hM3.s, cellSize_eq HM.out.s, zr]
          omega
    · gi_wp2
      have hr : r = ⟨#[]⟩ := by
        have h0 : r.size = 0 := by omega
        apply ext_list
        exact List.eq_nil_of_length_eq_zero ((Array.length_toList).trans h0)
      subst hr
      have hx2 := hx.out
      rw [show linesS ⟨#[]⟩ = [] from rfl, List.append_nil] at hx2
      go_end0
      refine ⟨⟨_, rfl⟩, ?_, hbz⟩
      rw [hx2]; exact HM.out

set_option maxRecDepth 100000 in
set_option maxHeartbeats 4000000 in
theorem appendSeq87_in (n : Nat) (hn2 : 2 ≤ n) (Bs : Nat) (s : ByteArray) (w : World) (hs : Boxed w Bs 9 (.string s)) (hsz : (s.size : Int) ≤ 1000000) :
    CallsIn Fence.wide n Tryz.prog 87 #[.slice none 0 0, .func (.func 88) #[] #[.pointer (some ⟨Bs, 0, none⟩)]] w
      fun e w' => ∃ v, e = .returned v ∧ Own w' w.heap.size v (linesS s) ∧ Below Bs w w' := by
  have hlt := hs.lt
  refine callsIn_of_wp_marks Tryz.func87 rfl trivial ?_ rfl
  simp only [Tryz.ntmps87, List.size_toArray, List.length_cons, List.length_nil, Nat.reduceAdd, Nat.reduceSub, Array.replicate_succ, Array.replicate_zero, List.push_toArray, List.append_toArray, List.nil_append, List.cons_append]
  gi_wp2
  refine wpIn_rangeFunc ?_
  intro fn hfn
  obtain ⟨W0, hW0⟩ : ∃ W0, w.alloc (.cells #[.slice none 0 0] 25) = W0 := ⟨_, rfl⟩
  have hs0 : W0.heap.size = w.heap.size + 1 := by rw [← hW0]; simp
  have hd0 : Boxed W0 w.heap.size 25 (.slice none 0 0) := by rw [← hW0]; exact Boxed.new _ _ _
  have hss : Boxed W0 Bs 9 (.string s) := by rw [← hW0]; exact hs.alloc _
  have hb0 : Below Bs w W0 := by rw [← hW0]; exact (Below.refl _ w).alloc (by omega) _
  rw [hW0]
  obtain ⟨W1, hW1⟩ : ∃ W1, (W0.alloc (.deferred (some []))).alloc (.loop (seqRec fn Bs w.heap.size W0.heap.size .ready none)) = W1 := ⟨_, rfl⟩
  have hM : Mid fn Bs Bs w.heap.size (W0.heap.size + 1) W0.heap.size w.heap.size w [] s W1 := by
    refine ⟨?_, ⟨.slice none 0 0, ?_, Own.none_ _ _⟩, ?_, ?_, ?_⟩
    · rw [← hW1]; exact (hss.alloc _).alloc _
    · rw [← hW1]; exact (hd0.alloc _).alloc _
    · rw [← hW1]; have := World.alloc_heap_new (W0.alloc (.deferred (some []))) (.loop (seqRec fn Bs w.heap.size W0.heap.size .ready none)); rwa [World.size_alloc] at this
    · rw [← hW1]; exact (Below.heap_alloc _ _ _ (by simp)).trans (World.alloc_heap_new W0 _)
    · rw [← hW1]; exact (hb0.alloc (by omega) _).alloc (by simp; omega) _
  have hbz : w.heap.size ≤ W1.heap.size := by rw [← hW1]; simp; omega
  refine ⟨W0.heap.size + 1, [{ target := .collected W0.heap.size, args := #[] }], W1, { target := .fn (.func 88) #[.pointer (some ⟨Bs, 0, none⟩)], args := #[.func (.yield (W0.heap.size + 1)) #[] #[]] }, W1, 88,
    #[.func (.yield (W0.heap.size + 1)) #[] #[], .pointer (some ⟨Bs, 0, none⟩)], W1, ?_, ?_, ?_, ?_, fun _ => by omega, ?_⟩
  · rw [← hW1]; exact run_enterLoop_outer _ _ _ _ _
  · simp [resolve, go_sem]
  · intro f' hf'; trivial
  · simp [invoke, go_sem]
  · refine (lines88_in (n - 1) (by omega) fn Bs Bs w.heap.size (W0.heap.size + 1) W0.heap.size w.heap.size w (Nat.le_refl _) hlt (by omega) (Nat.le_refl _) (by omega) (by omega) (by omega) s hsz W1 hM hbz).mono ?_
    rintro e W2 ⟨⟨u, rfl⟩, h2, hb2⟩
    obtain ⟨v, hv, hown⟩ := h2.v
    have hend := run_endLoop (P := Tryz.prog) h2.L (by simp [seqRec])
    have hlo : ∀ {k : Nat} {o o' : Obj}, W2.heap[k]? = some o → o.isCells = false → (∃ B t u, k = B ∧ Boxed W2 B t u) → False := by
      rintro k o o' hk ho ⟨B, t, u, rfl, hB⟩
      rw [show W2.heap[k]? = _ from hB] at hk; cases hk; cases ho
    obtain ⟨W3, hW3⟩ : ∃ W3, W2.putObj (W0.heap.size + 1) (.loop { seqRec fn Bs w.heap.size W0.heap.size .ready none with state := .exhausted }) = W3 := ⟨_, rfl⟩
    rw [hW3] at hend
    have hv3 : Boxed W3 w.heap.size 25 v := by rw [← hW3]; exact hv.kept (grownBy_putObj' _ _ _) (by simp; omega)
    have hc3 := hv3.cell
    have ho3 : Own W3 w.heap.size v (linesS s) := by rw [← hW3]; exact ownsRow_putObj hown _ h2.L rfl
    have hK3 : W3.heap[W0.heap.size]? = some (.deferred (some [])) := by rw [← hW3]; exact (World.putObj_heap_other (by omega)).trans h2.K
    have hB3 : Below Bs w W3 := by rw [← hW3]; exact below_put h2.b (by omega) (by omega) _
    have hz3 : w.heap.size ≤ W3.heap.size := by rw [← hW3]; simpa using hb2
    have HO := Lib.hid ho3
    have HB := Lib.hid hB3
    clear hW3 ho3 hB3 hv3
    refine ⟨none, W3, hend, ?_⟩
    obtain ⟨A, nn, cc, rfl⟩ := HO.out.slice
    gi_wp2
    rw [← hs0]
    refine ⟨by simp, .inl ⟨_, _, rfl, run_takeDeferred hK3, ?_⟩⟩
    have hz : Own (W3.putObj W0.heap.size (.deferred none)) w.heap.size (.slice A nn cc) (linesS s) := ownsRow_putObj HO.out _ hK3 rfl
    exact ⟨_, results_tmp rfl _ _ _, .slice A nn cc, rfl, hz, below_put HB.out (by omega) (by omega) _⟩

theorem appendSeq87 (Bs : Nat) (s : ByteArray) (w : World) (hs : Boxed w Bs 9 (.string s)) (hsz : (s.size : Int) ≤ 1000000) :
    Calls Tryz.prog 87 #[.slice none 0 0, .func (.func 88) #[] #[.pointer (some ⟨Bs, 0, none⟩)]] w
      fun e w' => ∃ v, e = .returned v ∧ Own w' w.heap.size v (linesS s) ∧ Below Bs w w' :=
  callsIn_wide.1 (appendSeq87_in 2 (by omega) Bs s w hs hsz)

theorem collect58 (Bs : Nat) (s : ByteArray) (w : World) (hs : Boxed w Bs 9 (.string s)) (hsz : (s.size : Int) ≤ 1000000) :
    Calls Tryz.prog 58 #[.func (.func 88) #[] #[.pointer (some ⟨Bs, 0, none⟩)]] w
      fun e w' => ∃ v, e = .returned v ∧ Own w' w.heap.size v (linesS s) ∧ Below Bs w w' := by
  go_enter Tryz.func58, Tryz.ntmps58
  go_wp2_with (go_at_call 87; refine (appendSeq87 Bs s _ hs hsz).mono ?_)
  rintro e w1 ⟨v, rfl, ho, hb⟩
  go_wp2
  go_ret
  exact ⟨_, rfl, ho, hb⟩

theorem lines59 (s : ByteArray) (w : World) :
    Calls Tryz.prog 59 #[.string s] w fun e w' => e = .returned (.func (.func 88) #[] #[.pointer (some ⟨w.heap.size, 0, none⟩)]) ∧ w' = w.alloc (.cells #[.string s] 9) := by
  go_enter Tryz.func59, Tryz.ntmps59
  go_wp2
  go_ret
  exact ⟨rfl, rfl⟩

end Go.Proofs.YtkdbajpdcadliaaGreatDoor.Pg
