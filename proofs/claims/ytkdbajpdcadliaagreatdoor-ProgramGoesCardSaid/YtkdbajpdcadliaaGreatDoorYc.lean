/- Walks: over of the program, Digits of the program. -/
import Derived.Test.YtkdbajpdcadliaaGreatDoorYa
import Derived.Test.YtkdbajpdcadliaaGreatDoorPs
set_option linter.unusedVariables false
namespace Go.Proofs.YtkdbajpdcadliaaGreatDoor.Pg
open Go.RowKit

theorem repeat_one : ∀ c : Nat, Lib.repeatL [48] c = List.replicate c (48 : UInt8)
  | 0 => rfl
  | c + 1 => by simp [Lib.repeatL, repeat_one c, List.replicate_succ]
theorem digits82 (n wd : Int) (w : World) (hg : Gl w) (h1 : -9000000000000 ≤ n) (h2 : n ≤ 9000000000000) (w1 : -1000000000000 ≤ wd) (w2 : wd ≤ 1000000000000) :
    Calls Tryz.prog 82 #[.int .i64 n, .int .i64 wd] w fun e w' => e = .returned (.tuple #[.string (digitsS n wd).1, .int .i64 (digitsS n wd).2]) ∧ Ext w w' := by
  have HG := Lib.hid hg
  have hz : ((decS n).size : Int) ≤ 9000000000002 := by have := decS_size n; omega
  clear hg
  by_cases a1 : n < 0
  · have e : digitsS n wd = (⟨#[]⟩, 2) := by unfold digitsS; rw [if_pos (by omega)]
    rw [e]
    clear e
    go_enter Tryz.func82, Tryz.ntmps82
    go_wp2_with fail
    refine (itoa n _ HG.out (by omega) (by omega)).mono ?_
    rintro e W ⟨rfl, he⟩
    have HE := Lib.hid he
    clear he
    go_wp2
    go_ret2
    exact ⟨rfl, HE.out⟩
  by_cases a2 : wd < 1
  · have e : digitsS n wd = (⟨#[]⟩, 2) := by unfold digitsS; rw [if_pos (by omega)]
    rw [e]
    clear e
    go_enter Tryz.func82, Tryz.ntmps82
    go_wp2_with fail
    refine (itoa n _ HG.out (by omega) (by omega)).mono ?_
    rintro e W ⟨rfl, he⟩
    have HE := Lib.hid he
    clear he
    go_wp2
    go_ret2
    exact ⟨rfl, HE.out⟩
  by_cases a3 : 9 < wd
  · have e : digitsS n wd = (⟨#[]⟩, 2) := by unfold digitsS; rw [if_pos (by omega)]
    rw [e]
    clear e
    go_enter Tryz.func82, Tryz.ntmps82
    go_wp2_with fail
    refine (itoa n _ HG.out (by omega) (by omega)).mono ?_
    rintro e W ⟨rfl, he⟩
    have HE := Lib.hid he
    clear he
    go_wp2
    go_ret2
    exact ⟨rfl, HE.out⟩
  by_cases a4 : wd < ((decS n).size : Int)
  · have e : digitsS n wd = (⟨#[]⟩, 2) := by unfold digitsS; rw [if_pos (by omega)]
    rw [e]
    clear e
    go_enter Tryz.func82, Tryz.ntmps82
    go_wp2_with fail
    refine (itoa n _ HG.out (by omega) (by omega)).mono ?_
    rintro e W ⟨rfl, he⟩
    have HE := Lib.hid he
    clear he
    go_wp2
    go_ret2
    exact ⟨rfl, HE.out⟩
  obtain ⟨c, hc⟩ : ∃ c : Nat, wd - ((decS n).size : Int) = c := ⟨(wd - ((decS n).size : Int)).toNat, by omega⟩
  have e : digitsS n wd = (mkB (List.replicate c 48 ++ (decS n).data.toList), 0) := by
    unfold digitsS
    rw [if_neg (by omega)]
    congr 4
    omega
  rw [e]
  have HC := Lib.hid hc
  clear e
  have hc9 : (c : Int) ≤ 9 := by omega
  go_enter Tryz.func82, Tryz.ntmps82
  go_wp2_with fail
  refine (itoa n _ HG.out (by omega) (by omega)).mono ?_
  rintro e W ⟨rfl, he⟩
  have HE := Lib.hid he
  clear he
  go_wp2_with fail
  refine (Tryz.strings_Repeat ⟨#[48]⟩ c _ (by omega) (by show 1 * c ≤ _; omega)).mono ?_
  rintro e W2 ⟨rfl, he⟩
  have HE2 := Lib.hid (Ext.trans HE.out he)
  have hr : (⟨(Lib.repeatL (ByteArray.mk #[48]).data.toList c).toArray⟩ : ByteArray) = mkB (List.replicate c 48) := by
    show mkB (Lib.repeatL [48] c) = _
    rw [repeat_one]
  rw [hr]
  have hsz : ((mkB (List.replicate c 48)).size : Int) = c := by rw [mkB_size, List.length_replicate]
  clear he
  go_wp2
  go_ret2
  have hfin : mkB (List.replicate c 48 ++ (decS n).data.toList) = mkB (List.replicate c 48) ++ decS n := by rw [← mkB_append, mkB_of]
  rw [hfin]
  exact ⟨rfl, HE2.out⟩

set_option maxRecDepth 100000 in
theorem over47 (nm : ByteArray) (A : Option Addr) (n c b : Nat) (place count over : Int) (V : Value) (st : ByteArray) (xs : List ByteArray) (w : World) (hn : (n : Int) ≤ 1000000)
    (hb : Blk w b 27 [.int .i64 place, V, .string st, .int .i64 count, .int .i64 over]) :
    Calls Tryz.prog 47 #[.agg #[.string nm, .slice A n c], .pointer (some ⟨b, 0, none⟩)] w fun e w' => e = .returned (.bool (decide (overN n ⟨place, xs, st, count, over⟩ ≠ 0))) ∧
      Blk w' b 27 [.int .i64 place, V, .string st, .int .i64 count, .int .i64 (if overN n ⟨place, xs, st, count, over⟩ ≠ 0 then overN n ⟨place, xs, st, count, over⟩ else over)] ∧ Keep b w w' := by
  have E0 := Ext.new w (.cells #[.string nm, .slice A n c] 24)
  have kP := Blk.new w [.string nm, .slice A n c] 24
  have kB := hb.ext E0
  have hlt := hb.lt
  obtain ⟨P, hP⟩ : ∃ P, w.heap.size = P := ⟨_, rfl⟩
  have hbP : b ≠ P := by omega
  by_cases h0 : 0 < over
  · have e : overN n ⟨place, xs, st, count, over⟩ = over := by unfold overN; rw [if_pos h0]
    rw [e, decide_eq_true (by omega : over ≠ 0), if_pos (by omega)]
    clear e hb
    go_enter Tryz.func47, Tryz.ntmps47
    go_upto_region 2 with (fail)
    rw [hP] at kP
    try simp only [hP]
    generalize World.alloc _ _ = W0 at E0 kP kB
    have x1 := kP.c1
    have y0 := kB.c0
    have y3 := kB.c3
    have y4 := kB.c4
    have z4 := kB.fz 4
    go_wp2
    go_ret
    exact ⟨rfl, kB, (Keep.refl b w).ext E0⟩
  by_cases h1 : place = (n : Int)
  · subst h1
    have e : overN n ⟨(n : Int), xs, st, count, over⟩ = 1 := by unfold overN; rw [if_neg h0, if_pos rfl]
    rw [e, decide_eq_true (by omega : (1 : Int) ≠ 0), if_pos (by omega)]
    clear e hb
    go_enter Tryz.func47, Tryz.ntmps47
    go_upto_region 2 with (fail)
    rw [hP] at kP
    try simp only [hP]
    generalize World.alloc _ _ = W0 at E0 kP kB
    have x1 := kP.c1
    have y0 := kB.c0
    have y3 := kB.c3
    have y4 := kB.c4
    have z4 := kB.fz 4
    go_upto_region 3 with (fail)
    go_quiet (fail)
    go_wp2
    go_ret
    exact ⟨rfl, (kB.drewN _).set 4 (.int .i64 1), (((Keep.refl b w).ext E0).ext ((Ext.refl _).drewN _)).set (.inr rfl) 4 (.int .i64 1)⟩
  have b1 := bq_no h1
  by_cases h2 : count = 200
  · subst h2
    have e : overN n ⟨place, xs, st, 200, over⟩ = 2 := by unfold overN; rw [if_neg h0, if_neg h1, if_pos rfl]
    rw [e, decide_eq_true (by omega : (2 : Int) ≠ 0), if_pos (by omega)]
    clear e hb
    go_enter Tryz.func47, Tryz.ntmps47
    go_upto_region 2 with (fail)
    rw [hP] at kP
    try simp only [hP]
    generalize World.alloc _ _ = W0 at E0 kP kB
    have x1 := kP.c1
    have y0 := kB.c0
    have y3 := kB.c3
    have y4 := kB.c4
    have z4 := kB.fz 4
    go_upto_region 3 with (fail)
    go_quiet (fail)
    go_wp2
    go_ret
    exact ⟨rfl, (kB.drewN _).set 4 (.int .i64 2), (((Keep.refl b w).ext E0).ext ((Ext.refl _).drewN _)).set (.inr rfl) 4 (.int .i64 2)⟩
  have b2 := bq_no h2
  have e : overN n ⟨place, xs, st, count, over⟩ = 0 := by unfold overN; rw [if_neg h0, if_neg h1, if_neg h2]
  rw [e, decide_eq_false (by omega), if_neg (by omega)]
  clear e hb
  go_enter Tryz.func47, Tryz.ntmps47
  go_upto_region 2 with (fail)
  rw [hP] at kP
  try simp only [hP]
  generalize World.alloc _ _ = W0 at E0 kP kB
  have x1 := kP.c1
  have y0 := kB.c0
  have y3 := kB.c3
  have y4 := kB.c4
  have z4 := kB.fz 4
  go_upto_region 3 with (fail)
  go_quiet (fail)
  go_wp2
  go_ret
  exact ⟨rfl, kB.drewN _, ((Keep.refl b w).ext E0).ext ((Ext.refl _).drewN _)⟩
end Go.Proofs.YtkdbajpdcadliaaGreatDoor.Pg
