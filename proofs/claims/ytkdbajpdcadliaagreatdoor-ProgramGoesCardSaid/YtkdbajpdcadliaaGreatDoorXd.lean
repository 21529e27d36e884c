/- Walks: SameInts. · Walks: Ends. -/
import Derived.Test.YtkdbajpdcadliaaGreatDoorXb
import Derived.Test.YtkdbajpdcadliaaGreatDoorWz
import Derived.Test.YtkdbajpdcadliaaGreatDoorBb
set_option linter.unusedVariables false
namespace Go.Proofs.YtkdbajpdcadliaaGreatDoor.Pg
open Go.RowKit

/-- Cells from A on hold these numbers. -/
def Ints (w : World) (A : Option Addr) (xs : List Int) : Prop :=
  ∀ i (h : i < xs.length), ∃ ad, A = some ad ∧ w.cell? (ad.add i) = some (.int .i64 xs[i])
theorem Ints.ext {w w' : World} {A : Option Addr} {xs : List Int} (h : Ints w A xs) (he : Ext w w') : Ints w' A xs := fun i hi => by
  obtain ⟨ad, e, hc⟩ := h i hi
  exact ⟨ad, e, he.cell hc⟩
theorem beq_yes {a b : Int} (h : a = b) : (a == b) = true := by rw [beq_iff_eq]; exact h

theorem sameInts40 (A C : Option Addr) (n m c d : Nat) (xs ys : List Int) (w : World) (hx : Ints w A xs) (hy : Ints w C ys) (hl : xs.length = n) (hm : ys.length = m) (hb : n ≤ 9223372036854775807) (hb2 : m ≤ 9223372036854775807) :
    Calls Tryz.prog 40 #[.slice A n c, .slice C m d] w fun e w' => e = .returned (.bool (decide (xs = ys))) ∧ Ext w w' := by
  have HX := Lib.hid hx
  have HY := Lib.hid hy
  have HL := Lib.hid hl
  have HM := Lib.hid hm
  clear hx hy hl hm
  by_cases hn : n = m
  · obtain rfl := hn
    go_enter Tryz.func40, Tryz.ntmps40
    go_wp2
    go_loopw [5] (fun i wr => ∃ k : Nat, k ≤ n ∧ i = .int .i64 k ∧ Hid (∀ j, j < k → xs[j]? = ys[j]?) ∧ Hid (Ext w wr)) (fun i _ => n - (intOf i).toNat)
    case atStart => exact ⟨0, Nat.zero_le _, rfl, fun j hj => absurd hj (by omega), Ext.refl _⟩
    case round =>
      obtain ⟨k, hk, rfl, hall, he⟩ := hrel
      by_cases hlt : k < n
      · obtain ⟨ad, hA, hcx⟩ := (HX.out.ext he.out) k (by have := HL.out; omega)
        obtain ⟨bd, hC, hcy⟩ := (HY.out.ext he.out) k (by have := HM.out; omega)
        subst hA hC
        have lx : k < xs.length := by have := HL.out; omega
        have ly : k < ys.length := by have := HM.out; omega
        by_cases e : xs[k] = ys[k]
        · have hne := beq_yes e
          have E := Lib.hid e
          clear e
          go_wp2
          go_quiet (fail)
          go_wp2
          go_round
          case rel =>
            refine ⟨k + 1, by omega, by go_num, fun j hj => ?_, he.out.drewN _⟩
            by_cases e : j < k
            · exact hall.out j e
            · have : j = k := by omega
              subst this
              rw [List.getElem?_eq_getElem lx, List.getElem?_eq_getElem ly, E.out]
          case measure => simp [intOf]; omega
        · have hne := bq_no e
          have hf : decide (xs = ys) = false := by
            rw [decide_eq_false_iff_not]; rintro rfl; exact e rfl
          have H := Lib.hid hf
          clear hf
          go_wp2
          go_quiet (fail)
          go_wp2
          go_ret
          exact ⟨ret_bool H.out.symm, he.out.drewN _⟩
      · have hf : decide (xs = ys) = true := by
          rw [decide_eq_true_iff]
          refine List.ext_getElem? fun j => ?_
          by_cases hj : j < k
          · exact hall.out j hj
          · have := HL.out
            have := HM.out
            rw [List.getElem?_eq_none (by omega), List.getElem?_eq_none (by omega)]
        have H := Lib.hid hf
        clear hf
        go_wp2
        go_ret
        exact ⟨ret_bool H.out.symm, he.out⟩
  · have hf : decide (xs = ys) = false := by
      rw [decide_eq_false_iff_not]; rintro rfl; exact hn (HL.out.symm.trans HM.out)
    have H := Lib.hid hf
    clear hf
    have hne : ((n : Int) != (m : Int)) = true := by simp; omega
    go_enter Tryz.func40, Tryz.ntmps40
    go_wp2
    go_ret
    exact ⟨ret_bool H.out.symm, Ext.refl _⟩
end Go.Proofs.YtkdbajpdcadliaaGreatDoor.Pg

set_option linter.unusedVariables false
namespace Go.Proofs.YtkdbajpdcadliaaGreatDoor.Pg
open Go.RowKit

/-- The slice value v owns the numbers l, in a block from base on. -/
def OwnI (w : World) (base : Nat) (v : Value) (l : List Int) : Prop := w.ownsRow base 3 1 v l.length (l.map (Value.int .i64))
theorem infoInt3 : (Tryz.prog.info? 3).map (fun i => (i.zero, i.size, i.bytes)) = some (some (.int .i64 0), 1, 8) := by kernel_rfl
theorem OwnI.ext {w w' : World} {base : Nat} {v : Value} {l : List Int} (h : OwnI w base v l) (he : Ext w w') : OwnI w' base v l :=
  World.ownsRow.kept (row := none) h ⟨he.os, he.tape, he.output, he.size, fun i hi _ => he.block i hi⟩ (by cases v.ownBlock <;> simp)
theorem app_int {ops : Array Oper} {rest : List Oper} {o : Oper} {a : Act} {Q : Exit → Act → World → Prop} {W : World} (base : Nat) (hgd : o.guard = none) (s x : Operand)
    (ho : o.op = .call { callee := .builtin .append, args := #[s, x], argTypes := #[57, 57] }) (v : Value) (l : List Int) (y : Int) (hs : a.eval s = v)
    (hx : a.eval x = .slice (some ⟨W.heap.size, 0, none⟩) 1 1) (HO : OwnI W base v l) (hbase : base ≤ W.heap.size) (hl : (l.length : Int) ≤ 1000000000000)
    (h : ∀ v1 w1, OwnI w1 base v1 (l ++ [y]) → Below base W w1 → base ≤ w1.heap.size → wpList Tryz.prog ops Q rest (a.put o.dst v1) w1) :
    wpList Tryz.prog ops Q (o :: rest) a (W.alloc (.cells #[.int .i64 y] 3)) := by
  obtain ⟨i0, hi, hzz⟩ := Option.map_eq_some_iff.1 infoInt3
  simp only [Prod.mk.injEq] at hzz
  obtain ⟨hz0, hz1, hz2⟩ := hzz
  refine wpList_append_own_at (W.alloc (.cells #[.int .i64 y] 3)) hgd s x 57 ho base 3 i0 _ 1 8 Tryz.underlying57 hi hz0 hz1 hz2 rfl (by omega) v l.length (l.map (Value.int .i64)) hs
    (World.ownsRow.alloc HO _) ⟨W.heap.size, 0, none⟩ 1 1 [.int .i64 y] hx rfl (cell_one_new _ _ _) (by simp [Value.oneCell']) (by simp only [maxLen]; omega) (by omega) (by simp; omega) ?_
  intro v1 w1 hown hg _ hat
  have hb : Below base W w1 := by
    refine ((Below.refl base W).alloc hbase _).grown hg (by simp; omega) (fun k hk => ?_)
    exact (World.ownsRow.lt HO k hk).1
  refine h v1 w1 ?_ hb (Nat.le_trans hbase hb.size)
  unfold OwnI
  simpa using hown
/-- The places at which a program ends. -/
def endsL : Nat → List Step → List Int
  | _, [] => []
  | i, s :: ss => if s.op = 12 ∨ s.op = 13 then (i : Int) :: endsL (i + 1) ss else endsL (i + 1) ss
end Go.Proofs.YtkdbajpdcadliaaGreatDoor.Pg
