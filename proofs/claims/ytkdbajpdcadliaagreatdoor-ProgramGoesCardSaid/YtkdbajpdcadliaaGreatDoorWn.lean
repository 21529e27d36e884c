/- Walks: the lines of a step, in the reference. -/
import Derived.Test.YtkdbajpdcadliaaGreatDoorWm
import Derived.Test.YtkdbajpdcadliaaGreatDoorWe
import Derived.Test.YtkdbajpdcadliaaGreatDoorSp
set_option linter.unusedVariables false
namespace Go.Proofs.YtkdbajpdcadliaaGreatDoor.Pg
open Go.RowKit

theorem decQ (n : Int) (w : World) (h1 : -1000000000000 ≤ n) (h2 : n ≤ 1000000000000) :
    Calls Tryz.prog 103 #[.int .i64 n] w fun e w' => e = .returned (.string (decS n)) ∧ w' = w :=
  (dec103 n w h1 h2).mono fun _ _ ⟨h, k⟩ => ⟨h, k.symm⟩
theorem decS_list (n : Int) : (decS n).data.toList = dl n := mkB_toList _
theorem decS_sz (n : Int) (h1 : -9999 ≤ n) (h2 : n ≤ 9999) : ((decS n).size : Int) ≤ 20000 := by have := decS_size n; omega
theorem mid_snoc (xs : List ByteArray) (k : Nat) (h1 : 1 ≤ k) (h : k < xs.length) : midL ((xs.take (k + 1)).drop 1) = midL ((xs.take k).drop 1) ++ ([32, 32] ++ xs[k].data.toList ++ [10]) := by
  rw [List.take_succ_eq_append_getElem h, List.drop_append_of_le_length (by rw [List.length_take]; omega)]
  unfold midL
  rw [List.flatMap_append]
  simp
theorem tx_list (x : ByteArray) : x.data.toList = tx [x] 0 := rfl

set_option maxRecDepth 100000 in
set_option maxHeartbeats 4000000 in
theorem lines69_1 (a b many : Int) (T : Option Addr) (n c : Nat) (xs : List ByteArray) (w : World) (hx : Strs w T xs) (hl : xs.length = n) (hk : StepOk ⟨1, a, b, xs⟩ many) (hm : many ≤ 9999) :
    Calls Tryz.prog 69 #[.agg #[.int .i64 1, .int .i64 a, .int .i64 b, .slice T n c]] w fun e w' => e = .returned (.string (lineS ⟨1, a, b, xs⟩)) ∧ Ext w w' := by
  obtain ⟨a1, a2⟩ : -9999 ≤ a ∧ a ≤ 9999 := isM_bd hk.a hm
  obtain ⟨b1, b2⟩ : -9999 ≤ b ∧ b ≤ 9999 := isM_bd hk.b hm
  have sa := decS_sz a a1 a2
  have sb := decS_sz b b1 b2
  have e0 : xs = [] := list0 hk.all
  subst e0
  clear hx hk
  go_enter Tryz.func69, Tryz.ntmps69
  go_wp2_with fail
  go_quiet ((go_at_call 103; exact Calls.quiet_of_same (decQ _ _ (by omega) (by omega))))
  go_wp2_with fail
  go_ret
  refine ⟨ret_str ?_, (Ext.new _ _).drewN _⟩
  apply ext_list
  simp [lineS, mkB_toList, lineL, ByteArray.data_append, decS_list]

set_option maxRecDepth 100000 in
set_option maxHeartbeats 4000000 in
theorem lines69_2 (a b many : Int) (T : Option Addr) (n c : Nat) (xs : List ByteArray) (w : World) (hx : Strs w T xs) (hl : xs.length = n) (hk : StepOk ⟨2, a, b, xs⟩ many) (hm : many ≤ 9999) :
    Calls Tryz.prog 69 #[.agg #[.int .i64 2, .int .i64 a, .int .i64 b, .slice T n c]] w fun e w' => e = .returned (.string (lineS ⟨2, a, b, xs⟩)) ∧ Ext w w' := by
  obtain ⟨a1, a2⟩ : -9999 ≤ a ∧ a ≤ 9999 := isM_bd hk.a hm
  obtain ⟨b1, b2⟩ : -9999 ≤ b ∧ b ≤ 9999 := isM_bd hk.b hm
  have sa := decS_sz a a1 a2
  have sb := decS_sz b b1 b2
  have hn2 : 2 ≤ n := by have := hk.few; have h2 : (verbS 2).1.few = 2 := rfl; simp only [h2] at this; omega
  have hn7 : n ≤ 7 := by have := hk.all; have h2 : (verbS 2).1.all = 7 := rfl; simp only [h2] at this; omega
  obtain ⟨m, hm1⟩ : ∃ m, n = m + 1 := ⟨n - 1, by omega⟩
  subst hm1
  have lx0 : 0 < xs.length := by omega
  obtain ⟨ad, rfl, hcs⟩ := hx.at_ lx0
  have HC := Lib.hid hcs
  have HL := Lib.hid hl
  have HK := Lib.hid hk
  have st : ((xs[0]'lx0).size : Int) ≤ 100 := hk.size _ (List.getElem_mem _)
  have hc0 : w.cell? ad = some (.string (xs[0]'lx0)) := hcs 0 lx0
  have hc2 := alloc_cell hc0
  clear hx hcs hl hk
  go_enter Tryz.func69, Tryz.ntmps69
  go_wp2_with fail
  go_quiet ((go_at_call 103; exact Calls.quiet_of_same (decQ _ _ (by omega) (by omega))))
  have K : Ext (w.alloc (.cells #[.int .i64 2, .int .i64 a, .int .i64 b, .slice (some ad) (m + 1) c] 77)) ((w.alloc (.cells #[.int .i64 2, .int .i64 a, .int .i64 b, .slice (some ad) (m + 1) c] 77)).drewN nq) := (Ext.refl _).drewN nq
  have KC := (Cells.new w [.int .i64 2, .int .i64 a, .int .i64 b, .slice (some ad) (m + 1) c] 77).ext K
  have k0 := KC.c0
  have k3 := KC.c3
  have hc3 := K.cell (hc2 _)
  have KX := Lib.hid ((Ext.new w _).trans K)
  clear K hc2 KC
  generalize World.drewN _ _ = W2 at k0 k3 hc3 KX
  go_wp2_with fail
  go_loop [5, 6] (fun o i => ∃ (k : Nat) (s : ByteArray), 1 ≤ k ∧ k ≤ m ∧ i = .int .i64 k ∧ o = .string s ∧ (s.size : Int) ≤ 50000 + 103 * k ∧ Hid (s.data.toList = [67, 65, 76, 76, 32] ++ dl a ++ [32] ++ tx xs 0 ++ [32] ++ dl b ++ [10] ++ midL ((xs.take k).drop 1))) (fun _ i => m - (intOf i).toNat)
  case atStart =>
    refine ⟨1, _, Nat.le_refl _, by omega, rfl, rfl, by simp [ByteArray.size_mk']; omega, ?_⟩
    have : tx xs 0 = (xs[0]'lx0).data.toList := by unfold tx; rw [List.getD_eq_getElem?_getD, List.getElem?_eq_getElem lx0]; rfl
    have h1 : (xs.take 1).drop 1 = [] := by simp
    unfold Hid
    rw [this, h1]
    simp [ByteArray.data_append, decS_list, midL]
  case round =>
    obtain ⟨k, s, hk1, hkn, rfl, rfl, hss, hs⟩ := hrel
    by_cases hlt : k < m
    · have lx : k < xs.length := by have := HL.out; omega
      have hck := KX.out.cell (HC.out k lx)
      have stk : (xs[k].size : Int) ≤ 100 := HK.out.size _ (List.getElem_mem _)
      go_wp2_with fail
      go_round
      case rel =>
        refine ⟨k + 1, _, by omega, by omega, by go_num, rfl, by simp [ByteArray.size_mk']; omega, ?_⟩
        unfold Hid
        rw [mid_snoc xs k hk1 lx]
        simp [ByteArray.data_append, hs.out]
      case measure => simp [intOf]; omega
    · have ke : k = m := by omega
      have KE := Lib.hid ke
      clear ke
      have lx : m < xs.length := by have := HL.out; omega
      have hck := KX.out.cell (HC.out m lx)
      have stk : (xs[m].size : Int) ≤ 100 := HK.out.size _ (List.getElem_mem _)
      have hss2 : (s.size : Int) ≤ 60000 := by omega
      go_wp2_with fail
      go_ret
      refine ⟨ret_str ?_, KX.out⟩
      apply ext_list
      have hs2 := hs.out
      rw [KE.out] at hs2
      have : tx xs m = xs[m].data.toList := by unfold tx; rw [List.getD_eq_getElem?_getD, List.getElem?_eq_getElem lx]; rfl
      have hlen : xs.length - 1 = m := by have := HL.out; omega
      simp [lineS, mkB_toList, lineL, ByteArray.data_append, hs2, hlen, this]

set_option maxRecDepth 100000 in
set_option maxHeartbeats 4000000 in
theorem lines69_3 (a b many : Int) (T : Option Addr) (n c : Nat) (xs : List ByteArray) (w : World) (hx : Strs w T xs) (hl : xs.length = n) (hk : StepOk ⟨3, a, b, xs⟩ many) (hm : many ≤ 9999) :
    Calls Tryz.prog 69 #[.agg #[.int .i64 3, .int .i64 a, .int .i64 b, .slice T n c]] w fun e w' => e = .returned (.string (lineS ⟨3, a, b, xs⟩)) ∧ Ext w w' := by
  obtain ⟨a1, a2⟩ : -9999 ≤ a ∧ a ≤ 9999 := isM_bd hk.a hm
  obtain ⟨b1, b2⟩ : -9999 ≤ b ∧ b ≤ 9999 := isM_bd hk.b hm
  have sa := decS_sz a a1 a2
  have sb := decS_sz b b1 b2
  obtain ⟨t, e0⟩ := list1 hk.few hk.all
  subst e0
  have st := hk.size t (by simp)
  obtain ⟨ad, hA, hc⟩ := hx 0 (by simp)
  subst hA
  replace hc : w.cell? ad = some (.string t) := hc
  have hc2 := alloc_cell hc
  obtain rfl : 1 = n := hl
  clear hx hk
  go_enter Tryz.func69, Tryz.ntmps69
  go_wp2_with fail
  go_quiet ((go_at_call 103; exact Calls.quiet_of_same (decQ _ _ (by omega) (by omega))))
  go_wp2_with fail
  go_ret
  refine ⟨ret_str ?_, (Ext.new _ _).drewN _⟩
  apply ext_list
  simp [lineS, mkB_toList, lineL, ByteArray.data_append, decS_list, tx]

set_option maxRecDepth 100000 in
set_option maxHeartbeats 4000000 in
theorem lines69_4 (a b many : Int) (T : Option Addr) (n c : Nat) (xs : List ByteArray) (w : World) (hx : Strs w T xs) (hl : xs.length = n) (hk : StepOk ⟨4, a, b, xs⟩ many) (hm : many ≤ 9999) :
    Calls Tryz.prog 69 #[.agg #[.int .i64 4, .int .i64 a, .int .i64 b, .slice T n c]] w fun e w' => e = .returned (.string (lineS ⟨4, a, b, xs⟩)) ∧ Ext w w' := by
  obtain ⟨a1, a2⟩ : -9999 ≤ a ∧ a ≤ 9999 := isM_bd hk.a hm
  obtain ⟨b1, b2⟩ : -9999 ≤ b ∧ b ≤ 9999 := isM_bd hk.b hm
  have sa := decS_sz a a1 a2
  have sb := decS_sz b b1 b2
  have e0 : xs = [] := list0 hk.all
  subst e0
  clear hx hk
  go_enter Tryz.func69, Tryz.ntmps69
  go_wp2_with fail
  go_quiet ((go_at_call 103; exact Calls.quiet_of_same (decQ _ _ (by omega) (by omega))))
  go_wp2_with fail
  go_ret
  refine ⟨ret_str ?_, (Ext.new _ _).drewN _⟩
  apply ext_list
  simp [lineS, mkB_toList, lineL, ByteArray.data_append, decS_list]

set_option maxRecDepth 100000 in
set_option maxHeartbeats 4000000 in
theorem lines69_5 (a b many : Int) (T : Option Addr) (n c : Nat) (xs : List ByteArray) (w : World) (hx : Strs w T xs) (hl : xs.length = n) (hk : StepOk ⟨5, a, b, xs⟩ many) (hm : many ≤ 9999) :
    Calls Tryz.prog 69 #[.agg #[.int .i64 5, .int .i64 a, .int .i64 b, .slice T n c]] w fun e w' => e = .returned (.string (lineS ⟨5, a, b, xs⟩)) ∧ Ext w w' := by
  obtain ⟨a1, a2⟩ : -9999 ≤ a ∧ a ≤ 9999 := isM_bd hk.a hm
  obtain ⟨b1, b2⟩ : -9999 ≤ b ∧ b ≤ 9999 := isM_bd hk.b hm
  have sa := decS_sz a a1 a2
  have sb := decS_sz b b1 b2
  obtain ⟨t, e0⟩ := list1 hk.few hk.all
  subst e0
  have st := hk.size t (by simp)
  obtain ⟨ad, hA, hc⟩ := hx 0 (by simp)
  subst hA
  replace hc : w.cell? ad = some (.string t) := hc
  have hc2 := alloc_cell hc
  obtain rfl : 1 = n := hl
  clear hx hk
  go_enter Tryz.func69, Tryz.ntmps69
  go_wp2_with fail
  go_quiet ((go_at_call 103; exact Calls.quiet_of_same (decQ _ _ (by omega) (by omega))))
  go_wp2_with fail
  go_ret
  refine ⟨ret_str ?_, (Ext.new _ _).drewN _⟩
  apply ext_list
  simp [lineS, mkB_toList, lineL, ByteArray.data_append, decS_list, tx]

set_option maxRecDepth 100000 in
set_option maxHeartbeats 4000000 in
theorem lines69_6 (a b many : Int) (T : Option Addr) (n c : Nat) (xs : List ByteArray) (w : World) (hx : Strs w T xs) (hl : xs.length = n) (hk : StepOk ⟨6, a, b, xs⟩ many) (hm : many ≤ 9999) :
    Calls Tryz.prog 69 #[.agg #[.int .i64 6, .int .i64 a, .int .i64 b, .slice T n c]] w fun e w' => e = .returned (.string (lineS ⟨6, a, b, xs⟩)) ∧ Ext w w' := by
  obtain ⟨a1, a2⟩ : -9999 ≤ a ∧ a ≤ 9999 := isM_bd hk.a hm
  obtain ⟨b1, b2⟩ : -9999 ≤ b ∧ b ≤ 9999 := isM_bd hk.b hm
  have sa := decS_sz a a1 a2
  have sb := decS_sz b b1 b2
  obtain ⟨t, e0⟩ := list1 hk.few hk.all
  subst e0
  have st := hk.size t (by simp)
  obtain ⟨ad, hA, hc⟩ := hx 0 (by simp)
  subst hA
  replace hc : w.cell? ad = some (.string t) := hc
  have hc2 := alloc_cell hc
  obtain rfl : 1 = n := hl
  clear hx hk
  go_enter Tryz.func69, Tryz.ntmps69
  go_wp2_with fail
  go_quiet ((go_at_call 103; exact Calls.quiet_of_same (decQ _ _ (by omega) (by omega))))
  go_wp2_with fail
  go_ret
  refine ⟨ret_str ?_, (Ext.new _ _).drewN _⟩
  apply ext_list
  simp [lineS, mkB_toList, lineL, ByteArray.data_append, decS_list, tx]

set_option maxRecDepth 100000 in
set_option maxHeartbeats 4000000 in
theorem lines69_7 (a b many : Int) (T : Option Addr) (n c : Nat) (xs : List ByteArray) (w : World) (hx : Strs w T xs) (hl : xs.length = n) (hk : StepOk ⟨7, a, b, xs⟩ many) (hm : many ≤ 9999) :
    Calls Tryz.prog 69 #[.agg #[.int .i64 7, .int .i64 a, .int .i64 b, .slice T n c]] w fun e w' => e = .returned (.string (lineS ⟨7, a, b, xs⟩)) ∧ Ext w w' := by
  obtain ⟨a1, a2⟩ : -9999 ≤ a ∧ a ≤ 9999 := isM_bd hk.a hm
  obtain ⟨b1, b2⟩ : -9999 ≤ b ∧ b ≤ 9999 := isM_bd hk.b hm
  have sa := decS_sz a a1 a2
  have sb := decS_sz b b1 b2
  have e0 : xs = [] := list0 hk.all
  subst e0
  clear hx hk
  go_enter Tryz.func69, Tryz.ntmps69
  go_wp2_with fail
  go_quiet ((go_at_call 103; exact Calls.quiet_of_same (decQ _ _ (by omega) (by omega))))
  go_wp2_with fail
  go_ret
  refine ⟨ret_str ?_, (Ext.new _ _).drewN _⟩
  apply ext_list
  simp [lineS, mkB_toList, lineL, ByteArray.data_append, decS_list]

set_option maxRecDepth 100000 in
set_option maxHeartbeats 4000000 in
theorem lines69_8 (a b many : Int) (T : Option Addr) (n c : Nat) (xs : List ByteArray) (w : World) (hx : Strs w T xs) (hl : xs.length = n) (hk : StepOk ⟨8, a, b, xs⟩ many) (hm : many ≤ 9999) :
    Calls Tryz.prog 69 #[.agg #[.int .i64 8, .int .i64 a, .int .i64 b, .slice T n c]] w fun e w' => e = .returned (.string (lineS ⟨8, a, b, xs⟩)) ∧ Ext w w' := by
  obtain ⟨a1, a2⟩ : -9999 ≤ a ∧ a ≤ 9999 := isM_bd hk.a hm
  obtain ⟨b1, b2⟩ : -9999 ≤ b ∧ b ≤ 9999 := isM_bd hk.b hm
  have sa := decS_sz a a1 a2
  have sb := decS_sz b b1 b2
  obtain ⟨t, e0⟩ := list1 hk.few hk.all
  subst e0
  have st := hk.size t (by simp)
  obtain ⟨ad, hA, hc⟩ := hx 0 (by simp)
  subst hA
  replace hc : w.cell? ad = some (.string t) := hc
  have hc2 := alloc_cell hc
  obtain rfl : 1 = n := hl
  clear hx hk
  go_enter Tryz.func69, Tryz.ntmps69
  go_wp2_with fail
  go_quiet ((go_at_call 103; exact Calls.quiet_of_same (decQ _ _ (by omega) (by omega))))
  go_wp2_with fail
  go_ret
  refine ⟨ret_str ?_, (Ext.new _ _).drewN _⟩
  apply ext_list
  simp [lineS, mkB_toList, lineL, ByteArray.data_append, tx]

set_option maxRecDepth 100000 in
set_option maxHeartbeats 4000000 in
theorem lines69_9 (a b many : Int) (T : Option Addr) (n c : Nat) (xs : List ByteArray) (w : World) (hx : Strs w T xs) (hl : xs.length = n) (hk : StepOk ⟨9, a, b, xs⟩ many) (hm : many ≤ 9999) :
    Calls Tryz.prog 69 #[.agg #[.int .i64 9, .int .i64 a, .int .i64 b, .slice T n c]] w fun e w' => e = .returned (.string (lineS ⟨9, a, b, xs⟩)) ∧ Ext w w' := by
  obtain ⟨a1, a2⟩ : -9999 ≤ a ∧ a ≤ 9999 := isM_bd hk.a hm
  obtain ⟨b1, b2⟩ : -9999 ≤ b ∧ b ≤ 9999 := isM_bd hk.b hm
  have sa := decS_sz a a1 a2
  have sb := decS_sz b b1 b2
  obtain ⟨t, u, e0⟩ := list2 hk.few hk.all
  subst e0
  have st := hk.size t (by simp)
  have su := hk.size u (by simp)
  obtain ⟨ad, hA, hc⟩ := hx 0 (by simp)
  obtain ⟨ad', hA', hd⟩ := hx 1 (by simp)
  subst hA
  cases hA'
  replace hc : w.cell? ad = some (.string t) := hc
  replace hd : w.cell? (ad.add 1) = some (.string u) := hd
  have hc2 := alloc_cell hc
  have hd2 := alloc_cell hd
  obtain rfl : 2 = n := hl
  clear hx hk
  go_enter Tryz.func69, Tryz.ntmps69
  go_wp2_with fail
  go_quiet ((go_at_call 103; exact Calls.quiet_of_same (decQ _ _ (by omega) (by omega))))
  go_wp2_with fail
  have K : Ext (w.alloc (.cells #[.int .i64 9, .int .i64 a, .int .i64 b, .slice (some ad) 2 c] 77)) ((w.alloc (.cells #[.int .i64 9, .int .i64 a, .int .i64 b, .slice (some ad) 2 c] 77)).drewN nq) := (Ext.refl _).drewN nq
  have k3 := ((Cells.new w [.int .i64 9, .int .i64 a, .int .i64 b, .slice (some ad) 2 c] 77).ext K).c3
  have hc3 := K.cell (hc2 _)
  have hd3 : World.cell? _ ⟨ad.block, ad.off + 1, none⟩ = _ := K.cell (hd2 _)
  have KX := Lib.hid ((Ext.new w _).trans K)
  clear K hc2 hd2
  generalize World.drewN _ _ = W2 at k3 hc3 hd3 KX
  have g1 : ¬ (9223372036854775807 < 5 + t.size) := by omega
  have g2 : ¬ (9223372036854775807 < 5 + t.size + 1) := by omega
  have g3 : ¬ (9223372036854775807 < 5 + t.size + 1 + u.size) := by omega
  have g4 : ¬ (9223372036854775807 < 5 + t.size + 1 + u.size + 1) := by omega
  go_quiet (fail)
  go_wp2_with fail
  go_ret
  refine ⟨ret_str ?_, KX.out.drewN _⟩
  apply ext_list
  simp [lineS, mkB_toList, lineL, ByteArray.data_append, tx]

set_option maxRecDepth 100000 in
set_option maxHeartbeats 4000000 in
theorem lines69_10 (a b many : Int) (T : Option Addr) (n c : Nat) (xs : List ByteArray) (w : World) (hx : Strs w T xs) (hl : xs.length = n) (hk : StepOk ⟨10, a, b, xs⟩ many) (hm : many ≤ 9999) :
    Calls Tryz.prog 69 #[.agg #[.int .i64 10, .int .i64 a, .int .i64 b, .slice T n c]] w fun e w' => e = .returned (.string (lineS ⟨10, a, b, xs⟩)) ∧ Ext w w' := by
  obtain ⟨a1, a2⟩ : -9999 ≤ a ∧ a ≤ 9999 := isM_bd hk.a hm
  obtain ⟨b1, b2⟩ : -9999 ≤ b ∧ b ≤ 9999 := isM_bd hk.b hm
  have sa := decS_sz a a1 a2
  have sb := decS_sz b b1 b2
  obtain ⟨t, e0⟩ := list1 hk.few hk.all
  subst e0
  have st := hk.size t (by simp)
  obtain ⟨ad, hA, hc⟩ := hx 0 (by simp)
  subst hA
  replace hc : w.cell? ad = some (.string t) := hc
  have hc2 := alloc_cell hc
  obtain rfl : 1 = n := hl
  clear hx hk
  go_enter Tryz.func69, Tryz.ntmps69
  go_wp2_with fail
  go_quiet ((go_at_call 103; exact Calls.quiet_of_same (decQ _ _ (by omega) (by omega))))
  go_wp2_with fail
  go_ret
  refine ⟨ret_str ?_, (Ext.new _ _).drewN _⟩
  apply ext_list
  simp [lineS, mkB_toList, lineL, ByteArray.data_append, tx]

set_option maxRecDepth 100000 in
set_option maxHeartbeats 4000000 in
theorem lines69_11 (a b many : Int) (T : Option Addr) (n c : Nat) (xs : List ByteArray) (w : World) (hx : Strs w T xs) (hl : xs.length = n) (hk : StepOk ⟨11, a, b, xs⟩ many) (hm : many ≤ 9999) :
    Calls Tryz.prog 69 #[.agg #[.int .i64 11, .int .i64 a, .int .i64 b, .slice T n c]] w fun e w' => e = .returned (.string (lineS ⟨11, a, b, xs⟩)) ∧ Ext w w' := by
  obtain ⟨a1, a2⟩ : -9999 ≤ a ∧ a ≤ 9999 := isM_bd hk.a hm
  obtain ⟨b1, b2⟩ : -9999 ≤ b ∧ b ≤ 9999 := isM_bd hk.b hm
  have sa := decS_sz a a1 a2
  have sb := decS_sz b b1 b2
  have e0 : xs = [] := list0 hk.all
  subst e0
  clear hx hk
  go_enter Tryz.func69, Tryz.ntmps69
  go_wp2_with fail
  go_quiet ((go_at_call 103; exact Calls.quiet_of_same (decQ _ _ (by omega) (by omega))))
  go_wp2_with fail
  go_ret
  refine ⟨ret_str ?_, (Ext.new _ _).drewN _⟩
  apply ext_list
  simp [lineS, mkB_toList, lineL]

set_option maxRecDepth 100000 in
set_option maxHeartbeats 4000000 in
theorem lines69_12 (a b many : Int) (T : Option Addr) (n c : Nat) (xs : List ByteArray) (w : World) (hx : Strs w T xs) (hl : xs.length = n) (hk : StepOk ⟨12, a, b, xs⟩ many) (hm : many ≤ 9999) :
    Calls Tryz.prog 69 #[.agg #[.int .i64 12, .int .i64 a, .int .i64 b, .slice T n c]] w fun e w' => e = .returned (.string (lineS ⟨12, a, b, xs⟩)) ∧ Ext w w' := by
  obtain ⟨a1, a2⟩ : -9999 ≤ a ∧ a ≤ 9999 := isM_bd hk.a hm
  obtain ⟨b1, b2⟩ : -9999 ≤ b ∧ b ≤ 9999 := isM_bd hk.b hm
  have sa := decS_sz a a1 a2
  have sb := decS_sz b b1 b2
  have e0 : xs = [] := list0 hk.all
  subst e0
  clear hx hk
  go_enter Tryz.func69, Tryz.ntmps69
  go_wp2_with fail
  go_quiet ((go_at_call 103; exact Calls.quiet_of_same (decQ _ _ (by omega) (by omega))))
  go_wp2_with fail
  go_ret
  refine ⟨ret_str ?_, (Ext.new _ _).drewN _⟩
  apply ext_list
  simp [lineS, mkB_toList, lineL]

set_option maxRecDepth 100000 in
set_option maxHeartbeats 4000000 in
theorem lines69_13 (a b many : Int) (T : Option Addr) (n c : Nat) (xs : List ByteArray) (w : World) (hx : Strs w T xs) (hl : xs.length = n) (hk : StepOk ⟨13, a, b, xs⟩ many) (hm : many ≤ 9999) :
    Calls Tryz.prog 69 #[.agg #[.int .i64 13, .int .i64 a, .int .i64 b, .slice T n c]] w fun e w' => e = .returned (.string (lineS ⟨13, a, b, xs⟩)) ∧ Ext w w' := by
  obtain ⟨a1, a2⟩ : -9999 ≤ a ∧ a ≤ 9999 := isM_bd hk.a hm
  obtain ⟨b1, b2⟩ : -9999 ≤ b ∧ b ≤ 9999 := isM_bd hk.b hm
  have sa := decS_sz a a1 a2
  have sb := decS_sz b b1 b2
  have e0 : xs = [] := list0 hk.all
  subst e0
  clear hx hk
  go_enter Tryz.func69, Tryz.ntmps69
  go_wp2_with fail
  go_quiet ((go_at_call 103; exact Calls.quiet_of_same (decQ _ _ (by omega) (by omega))))
  go_wp2_with fail
  go_ret
  refine ⟨ret_str ?_, (Ext.new _ _).drewN _⟩
  apply ext_list
  simp [lineS, mkB_toList, lineL]

theorem lines69 (op a b many : Int) (T : Option Addr) (n c : Nat) (xs : List ByteArray) (w : World) (hx : Strs w T xs) (hl : xs.length = n) (hk : StepOk ⟨op, a, b, xs⟩ many) (hm : many ≤ 9999) :
    Calls Tryz.prog 69 #[.agg #[.int .i64 op, .int .i64 a, .int .i64 b, .slice T n c]] w fun e w' => e = .returned (.string (lineS ⟨op, a, b, xs⟩)) ∧ Ext w w' := by
  rcases verb_cases hk.verb with h | h | h | h | h | h | h | h | h | h | h | h | h
  · obtain rfl : op = 1 := h
    exact lines69_1 a b many T n c xs w hx hl hk hm
  · obtain rfl : op = 2 := h
    exact lines69_2 a b many T n c xs w hx hl hk hm
  · obtain rfl : op = 3 := h
    exact lines69_3 a b many T n c xs w hx hl hk hm
  · obtain rfl : op = 4 := h
    exact lines69_4 a b many T n c xs w hx hl hk hm
  · obtain rfl : op = 5 := h
    exact lines69_5 a b many T n c xs w hx hl hk hm
  · obtain rfl : op = 6 := h
    exact lines69_6 a b many T n c xs w hx hl hk hm
  · obtain rfl : op = 7 := h
    exact lines69_7 a b many T n c xs w hx hl hk hm
  · obtain rfl : op = 8 := h
    exact lines69_8 a b many T n c xs w hx hl hk hm
  · obtain rfl : op = 9 := h
    exact lines69_9 a b many T n c xs w hx hl hk hm
  · obtain rfl : op = 10 := h
    exact lines69_10 a b many T n c xs w hx hl hk hm
  · obtain rfl : op = 11 := h
    exact lines69_11 a b many T n c xs w hx hl hk hm
  · obtain rfl : op = 12 := h
    exact lines69_12 a b many T n c xs w hx hl hk hm
  · obtain rfl : op = 13 := h
    exact lines69_13 a b many T n c xs w hx hl hk hm
end Go.Proofs.YtkdbajpdcadliaaGreatDoor.Pg
