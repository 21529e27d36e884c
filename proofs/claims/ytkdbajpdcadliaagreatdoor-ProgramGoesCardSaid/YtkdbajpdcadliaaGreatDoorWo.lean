/- Walks: the line of a step, in the program. -/
import Derived.Test.YtkdbajpdcadliaaGreatDoorWk
import Derived.Test.YtkdbajpdcadliaaGreatDoorWn
import Derived.Test.YtkdbajpdcadliaaGreatDoorBb
set_option linter.unusedVariables false
namespace Go.Proofs.YtkdbajpdcadliaaGreatDoor.Pg
open Go.RowKit

set_option maxRecDepth 1000000 in
set_option maxHeartbeats 4000000 in
theorem isM_var {n many : Int} (h : isM 118 n many = true) : 0 ≤ n ∧ n < 6 := by simpa [isM] using h
theorem isM_view {n many : Int} (h : isM 119 n many = true) : 0 ≤ n ∧ n < 3 := by simpa [isM] using h
theorem isM_place {n many : Int} (h : isM 112 n many = true) : 0 ≤ n ∧ n < many := by simpa [isM] using h

set_option maxRecDepth 100000 in
set_option maxHeartbeats 4000000 in
theorem line97_1 (a b many : Int) (T : Option Addr) (n c : Nat) (xs : List ByteArray) (w : World) (hx : Strs w T xs) (hl : xs.length = n) (hnc : n ≤ c) (hk : StepOk ⟨1, a, b, xs⟩ many) (hm : many ≤ 40) (hg : Gl w) :
    Calls Tryz.prog 97 #[.agg #[.int .i64 1, .int .i64 a, .int .i64 b, .slice T n c]] w fun e w' => e = .returned (.string (lineS ⟨1, a, b, xs⟩)) ∧ Ext w w' := by
  obtain ⟨a1, a2⟩ : -9999 ≤ a ∧ a ≤ 9999 := isM_bd hk.a (by omega)
  obtain ⟨b1, b2⟩ : -9999 ≤ b ∧ b ≤ 9999 := isM_bd hk.b (by omega)
  obtain ⟨a3, a4⟩ : 0 ≤ a ∧ a < 6 := isM_var hk.a
  have sa := decS_sz a a1 a2
  have sb := decS_sz b b1 b2
  have HG := Lib.hid hg
  have HXS := Lib.hid hx
  have e0 : xs = [] := list0 hk.all
  subst e0
  obtain rfl : 0 = n := hl
  clear hx hk hg
  go_enter Tryz.func97, Tryz.ntmps97
  go_wp2_with fail
  refine (verbs93' 1 [82, 69, 65, 68] 118 0 0 0 true rfl _).mono ?_
  rintro e w1 ⟨rfl, he1⟩
  have K1 := (Cells.new w [.int .i64 1, .int .i64 a, .int .i64 b, .slice T 0 c] 77).ext he1
  have c0 := K1.c0
  have c1 := K1.c1
  have c2 := K1.c2
  have c3 := K1.c3
  have z1 := K1.1
  have X1 := Lib.hid ((Ext.new w _).trans he1)
  have KK := Lib.hid K1
  clear he1 K1
  go_upto_region 2 with (fail)
  have K2 := KK.out.ext (Ext.new w1 (.cells #[.string (mkB [82, 69, 65, 68]), .int .u8 118, .int .u8 0, .int .i64 0, .int .i64 0] 126))
  have V2 := Cells.new w1 [.string (mkB [82, 69, 65, 68]), .int .u8 118, .int .u8 0, .int .i64 0, .int .i64 0] 126
  have c0 := K2.c0
  have c1 := K2.c1
  have c2 := K2.c2
  have c3 := K2.c3
  have v0 := V2.c0
  have v1 := V2.c1
  have v2 := V2.c2
  have X2 := Lib.hid (X1.out.trans (Ext.new w1 (.cells #[.string (mkB [82, 69, 65, 68]), .int .u8 118, .int .u8 0, .int .i64 0, .int .i64 0] 126)))
  have KK2 := Lib.hid K2
  have VV2 := Lib.hid V2
  clear K2 V2 KK X1
  have z2 : w.heap.size < (w1.alloc (.cells #[.string (mkB [82, 69, 65, 68]), .int .u8 118, .int .u8 0, .int .i64 0, .int .i64 0] 126)).heap.size := KK2.out.1
  have z3 : w1.heap.size < (w1.alloc (.cells #[.string (mkB [82, 69, 65, 68]), .int .u8 118, .int .u8 0, .int .i64 0, .int .i64 0] 126)).heap.size := VV2.out.1
  generalize w1.alloc _ = W at c0 c1 c2 c3 v0 v1 v2 X2 KK2 VV2 z2 z3
  go_upto_region 3 with (fail)
  have LB : Own (W.alloc (.cells #[.string (mkB [82, 69, 65, 68])] 9)) W.heap.size (.slice (some ⟨W.heap.size, 0, none⟩) 1 1) [mkB [82, 69, 65, 68]] := Own.fresh W [mkB [82, 69, 65, 68]] (by simp) (by simp)
  have E3 : Ext W (W.alloc (.cells #[.string (mkB [82, 69, 65, 68])] 9)) := Ext.new _ _
  have KA := KK2.out.ext E3
  have VA := VV2.out.ext E3
  replace c0 := KA.c0
  replace c1 := KA.c1
  replace c2 := KA.c2
  replace c3 := KA.c3
  replace v0 := VA.c0
  replace v1 := VA.c1
  replace v2 := VA.c2
  replace z2 := KA.1
  replace z3 := VA.1
  clear KA VA
  have LB := Lib.hid LB
  have E3 := Lib.hid E3
  generalize W.alloc _ = W3 at c0 c1 c2 c3 v0 v1 v2 z2 z3 LB E3
  go_wp2_with fail
  refine (itoa a _ ((HG.out.ext X2.out).ext E3.out) (by omega) (by omega)).mono ?_
  rintro e W4 ⟨rfl, x4⟩
  have O4 := Lib.hid (LB.out.ext x4)
  have E4 := Ext.trans E3.out x4
  have KA := KK2.out.ext E4
  have VA := VV2.out.ext E4
  replace c0 := KA.c0
  replace c1 := KA.c1
  replace c2 := KA.c2
  replace c3 := KA.c3
  replace v0 := VA.c0
  replace v1 := VA.c1
  replace v2 := VA.c2
  replace z2 := KA.1
  replace z3 := VA.1
  clear KA VA
  have E4 := Lib.hid E4
  clear x4
  go_wp2_with (first | (at_builtin; refine app_str W.heap.size rfl (.tmp 24) (.tmp 28) rfl _ [mkB [82, 69, 65, 68]] _ rfl rfl O4.out E4.out.size (by simp) ?_; intro y5 W5 hown5 hb5 hs5; have O5 := Lib.hid hown5; have E5 := Below.trans E4.out hb5; have KA := KK2.out.ext E5; have VA := VV2.out.ext E5; replace c0 := KA.c0; replace c1 := KA.c1; replace c2 := KA.c2; replace c3 := KA.c3; replace v0 := VA.c0; replace v1 := VA.c1; replace v2 := VA.c2; replace z2 := KA.1; replace z3 := VA.1; clear KA VA; have E5 := Lib.hid E5; clear hown5 hb5) | (at_builtin; refine app_strs W.heap.size rfl (.tmp 39) (.tmp 41) rfl rfl _ [mkB [82, 69, 65, 68], decS a] [] T 0 c rfl rfl O5.out (HXS.out.ext (X2.out.trans E5.out)) rfl E5.out.size (by simp) ?_; intro y6 W6 hown6 hb6 hs6; obtain ⟨g, cp, rfl, hcp, hgb, hgs, hcl⟩ := Own.form hown6 (by simp); have CL := Lib.hid hcl; have E6 := Lib.hid (Below.trans E5.out hb6); clear hown6 hb6 hcl))
  have hj : ((joinSp [mkB [82, 69, 65, 68], decS a]).length : Int) ≤ 100000 := by simp [joinSp, Lib.join, List.intercalate, List.intersperse, mkB_toList] <;> omega
  refine (join_sp g _ cp [mkB [82, 69, 65, 68], decS a] _ (by rfl) CL.out hgs hcp (by simp) (by omega)).mono ?_
  rintro e W7 ⟨rfl, x7⟩
  have HJ : ((mkB (joinSp [mkB [82, 69, 65, 68], decS a])).size : Int) ≤ 100000 := by rw [mkB_size]; exact hj
  have E7 := Lib.hid (Ext.trans E6.out x7)
  clear x7 hj
  go_wp2_with fail
  go_ret
  refine ⟨ret_str ?_, Ext.trans X2.out E7.out⟩
  apply ext_list
  simp [lineS, mkB_toList, lineL, ByteArray.data_append, joinSp, Lib.join, List.intercalate, List.intersperse, decS_list]

set_option maxRecDepth 1000000 in
set_option maxHeartbeats 4000000 in
theorem line97_2 (a b many : Int) (T : Option Addr) (n c : Nat) (xs : List ByteArray) (w : World) (hx : Strs w T xs) (hl : xs.length = n) (hnc : n ≤ c) (hk : StepOk ⟨2, a, b, xs⟩ many) (hm : many ≤ 40) (hg : Gl w) :
    Calls Tryz.prog 97 #[.agg #[.int .i64 2, .int .i64 a, .int .i64 b, .slice T n c]] w fun e w' => e = .returned (.string (lineS ⟨2, a, b, xs⟩)) ∧ Ext w w' := by
  obtain ⟨a1, a2⟩ : -9999 ≤ a ∧ a ≤ 9999 := isM_bd hk.a (by omega)
  obtain ⟨b1, b2⟩ : -9999 ≤ b ∧ b ≤ 9999 := isM_bd hk.b (by omega)
  obtain ⟨a3, a4⟩ : 0 ≤ a ∧ a < 3 := isM_view hk.a
  obtain ⟨b3, b4⟩ : 0 ≤ b ∧ b < 6 := isM_var hk.b
  have sa := decS_sz a a1 a2
  have sb := decS_sz b b1 b2
  have HG := Lib.hid hg
  have HXS := Lib.hid hx
  have hn2 : 2 ≤ n := by have := hk.few; have h2 : (verbS 2).1.few = 2 := rfl; simp only [h2] at this; omega
  have hn7 : n ≤ 7 := by have := hk.all; have h2 : (verbS 2).1.all = 7 := rfl; simp only [h2] at this; omega
  obtain ⟨p, hp1⟩ : ∃ p, n = p + 1 := ⟨n - 1, by omega⟩
  subst hp1
  have hp2 : (0 : Int) < (p : Int) + 1 := by omega
  have hp3 : 1 ≤ p := by omega
  have lx0 : 0 < xs.length := by omega
  obtain ⟨ad, rfl, hcs⟩ := hx.at_ lx0
  have HCS := Lib.hid hcs
  have HL := Lib.hid hl
  have HK := Lib.hid hk
  have st : ((xs[0]'lx0).size : Int) ≤ 100 := hk.size _ (List.getElem_mem _)
  have hc : w.cell? ad = some (.string (xs[0]'lx0)) := hcs 0 lx0
  have HC := Lib.hid hc
  clear hx hcs hl hk hg hc
  go_enter Tryz.func97, Tryz.ntmps97
  go_wp2_with fail
  refine (verbs93' 2 [67, 65, 76, 76] 119 118 2 7 true rfl _).mono ?_
  rintro e w1 ⟨rfl, he1⟩
  have K1 := (Cells.new w [.int .i64 2, .int .i64 a, .int .i64 b, .slice (some ad) (p + 1) c] 77).ext he1
  have c0 := K1.c0
  have c1 := K1.c1
  have c2 := K1.c2
  have c3 := K1.c3
  have z1 := K1.1
  have X1 := Lib.hid ((Ext.new w _).trans he1)
  have KK := Lib.hid K1
  clear he1 K1
  go_upto_region 2 with (fail)
  have K2 := KK.out.ext (Ext.new w1 (.cells #[.string (mkB [67, 65, 76, 76]), .int .u8 119, .int .u8 118, .int .i64 2, .int .i64 7] 126))
  have V2 := Cells.new w1 [.string (mkB [67, 65, 76, 76]), .int .u8 119, .int .u8 118, .int .i64 2, .int .i64 7] 126
  have c0 := K2.c0
  have c1 := K2.c1
  have c2 := K2.c2
  have c3 := K2.c3
  have v0 := V2.c0
  have v1 := V2.c1
  have v2 := V2.c2
  have X2 := Lib.hid (X1.out.trans (Ext.new w1 (.cells #[.string (mkB [67, 65, 76, 76]), .int .u8 119, .int .u8 118, .int .i64 2, .int .i64 7] 126)))
  have KK2 := Lib.hid K2
  have VV2 := Lib.hid V2
  clear K2 V2 KK X1
  have z2 : w.heap.size < (w1.alloc (.cells #[.string (mkB [67, 65, 76, 76]), .int .u8 119, .int .u8 118, .int .i64 2, .int .i64 7] 126)).heap.size := KK2.out.1
  have z3 : w1.heap.size < (w1.alloc (.cells #[.string (mkB [67, 65, 76, 76]), .int .u8 119, .int .u8 118, .int .i64 2, .int .i64 7] 126)).heap.size := VV2.out.1
  generalize w1.alloc _ = W at c0 c1 c2 c3 v0 v1 v2 X2 KK2 VV2 z2 z3
  go_upto_region 3 with (fail)
  have LB : Own (W.alloc (.cells #[.string (mkB [67, 65, 76, 76])] 9)) W.heap.size (.slice (some ⟨W.heap.size, 0, none⟩) 1 1) [mkB [67, 65, 76, 76]] := Own.fresh W [mkB [67, 65, 76, 76]] (by simp) (by simp)
  have E3 : Ext W (W.alloc (.cells #[.string (mkB [67, 65, 76, 76])] 9)) := Ext.new _ _
  have KA := KK2.out.ext E3
  have VA := VV2.out.ext E3
  replace c0 := KA.c0
  replace c1 := KA.c1
  replace c2 := KA.c2
  replace c3 := KA.c3
  replace v0 := VA.c0
  replace v1 := VA.c1
  replace v2 := VA.c2
  replace z2 := KA.1
  replace z3 := VA.1
  clear KA VA
  have LB := Lib.hid LB
  have E3 := Lib.hid E3
  generalize W.alloc _ = W3 at c0 c1 c2 c3 v0 v1 v2 z2 z3 LB E3
  have hcW : W3.cell? ad = some (.string (xs[0]'lx0)) := (X2.out.trans E3.out).cell HC.out
  go_wp2_with fail
  refine wp_region_still_tail 12 (by kernel_rfl) (by kernel_rfl) ?_
  simp only [List.take_succ_cons, List.take_zero, List.drop_succ_cons, List.drop_zero]
  repeat still_step
  still_call (itoa_small a _ (by omega) (by omega))
  repeat still_step
  still_call (itoa_small b _ (by omega) (by omega))
  refine wpStill_nil ?_
  change wpList _ _ _ _ _ W3.drew
  have E4 : Ext W W3.drew := Ext.trans E3.out (Below.drew (Ext.refl W3))
  have KA := KK2.out.ext E4
  have VA := VV2.out.ext E4
  replace c0 := KA.c0
  replace c1 := KA.c1
  replace c2 := KA.c2
  replace c3 := KA.c3
  replace v0 := VA.c0
  replace v1 := VA.c1
  replace v2 := VA.c2
  replace z2 := KA.1
  replace z3 := VA.1
  clear KA VA
  have E4 := Lib.hid E4
  clear hcW
  generalize W3.drew = W4 at c0 c1 c2 c3 v0 v1 v2 z2 z3 E4
  go_wp2_with fail
  have hj : ((joinSp [mkB [67, 65, 76, 76], decS a, xs[0]'lx0, decS b]).length : Int) ≤ 100000 := by simp [joinSp, Lib.join, List.intercalate, List.intersperse, mkB_toList] <;> omega
  refine (join_sp W4.heap.size _ 4 [mkB [67, 65, 76, 76], decS a, xs[0]'lx0, decS b] _ rfl (box_texts W4 [mkB [67, 65, 76, 76], decS a, xs[0]'lx0, decS b]) (by simp) (by simp) (by simp) (by omega)).mono ?_
  rintro e W5 ⟨rfl, x5⟩
  have HJ : ((mkB (joinSp [mkB [67, 65, 76, 76], decS a, xs[0]'lx0, decS b])).size : Int) ≤ 100000 := by rw [mkB_size]; exact hj
  have E5 := Ext.trans (Ext.trans E4.out (Ext.new _ _)) x5
  have KA := KK2.out.ext E5
  have VA := VV2.out.ext E5
  replace c0 := KA.c0
  replace c1 := KA.c1
  replace c2 := KA.c2
  replace c3 := KA.c3
  replace v0 := VA.c0
  replace v1 := VA.c1
  replace v2 := VA.c2
  replace z2 := KA.1
  replace z3 := VA.1
  clear KA VA
  have E5 := Lib.hid E5
  clear x5 hj
  go_wp2_with fail
  generalize hA1 : (⟨ad.block, ad.off + 1, none⟩ : Addr) = ad1
  have HA1 := Lib.hid hA1
  clear hA1
  go_loop [6, 69] (fun o i => ∃ (q : Nat) (s : ByteArray), q ≤ p - 1 ∧ i = .int .i64 q ∧ o = .string s ∧ (s.size : Int) ≤ 150000 + 103 * q ∧ Hid (s.data.toList = [67, 65, 76, 76, 32] ++ dl a ++ [32] ++ tx xs 0 ++ [32] ++ dl b ++ [10] ++ midL ((xs.take (q + 1)).drop 1))) (fun _ i => p - (intOf i).toNat)
  case atStart =>
    refine ⟨0, _, by omega, rfl, rfl, by simp [ByteArray.size_mk']; omega, ?_⟩
    have e1 : tx xs 0 = (xs[0]'lx0).data.toList := by unfold tx; rw [List.getD_eq_getElem?_getD, List.getElem?_eq_getElem lx0]; rfl
    have e2 : (xs.take (0 + 1)).drop 1 = [] := by simp
    unfold Hid
    rw [e1, e2]
    simp [ByteArray.data_append, decS_list, midL, mkB_toList, joinSp, Lib.join, List.intercalate, List.intersperse]
  case round =>
    obtain ⟨q, s, hqp, rfl, rfl, hss, hs⟩ := hrel
    by_cases hlt : q < p - 1
    · have lx : q + 1 < xs.length := by have := HL.out; omega
      have hck : W5.cell? (ad1.add q) = some (.string xs[q + 1]) := by
        rw [← HA1.out]
        have := (X2.out.trans E5.out).cell (HCS.out (q + 1) lx)
        rwa [add_one_add] at this
      have stk : (xs[q + 1].size : Int) ≤ 100 := HK.out.size _ (List.getElem_mem _)
      go_wp2_with fail
      go_round
      case rel =>
        refine ⟨q + 1, _, by omega, by go_num, rfl, by simp [ByteArray.size_mk']; omega, ?_⟩
        unfold Hid
        rw [mid_snoc xs (q + 1) (by omega) lx]
        simp [ByteArray.data_append, hs.out]
      case measure => simp [intOf]; omega
    · have ke : q + 1 = p := by omega
      have KE := Lib.hid ke
      clear ke
      have lx : p < xs.length := by have := HL.out; omega
      have hck : W5.cell? (ad.add p) = some (.string xs[p]) := (X2.out.trans E5.out).cell (HCS.out p lx)
      have stk : (xs[p].size : Int) ≤ 100 := HK.out.size _ (List.getElem_mem _)
      have hss2 : (s.size : Int) ≤ 160000 := by omega
      go_wp2_with fail
      go_ret
      refine ⟨ret_str ?_, Ext.trans X2.out E5.out⟩
      apply ext_list
      have hs2 := hs.out
      rw [KE.out] at hs2
      have : tx xs p = xs[p].data.toList := by unfold tx; rw [List.getD_eq_getElem?_getD, List.getElem?_eq_getElem lx]; rfl
      have hlen : xs.length - 1 = p := by have := HL.out; omega
      simp [lineS, mkB_toList, lineL, ByteArray.data_append, hs2, hlen, this]

set_option maxRecDepth 1000000 in
set_option maxHeartbeats 4000000 in
theorem line97_3 (a b many : Int) (T : Option Addr) (n c : Nat) (xs : List ByteArray) (w : World) (hx : Strs w T xs) (hl : xs.length = n) (hnc : n ≤ c) (hk : StepOk ⟨3, a, b, xs⟩ many) (hm : many ≤ 40) (hg : Gl w) :
    Calls Tryz.prog 97 #[.agg #[.int .i64 3, .int .i64 a, .int .i64 b, .slice T n c]] w fun e w' => e = .returned (.string (lineS ⟨3, a, b, xs⟩)) ∧ Ext w w' := by
  obtain ⟨a1, a2⟩ : -9999 ≤ a ∧ a ≤ 9999 := isM_bd hk.a (by omega)
  obtain ⟨b1, b2⟩ : -9999 ≤ b ∧ b ≤ 9999 := isM_bd hk.b (by omega)
  obtain ⟨a3, a4⟩ : 0 ≤ a ∧ a < 6 := isM_var hk.a
  have sa := decS_sz a a1 a2
  have sb := decS_sz b b1 b2
  have HG := Lib.hid hg
  have HXS := Lib.hid hx
  obtain ⟨t, e0⟩ := list1 hk.few hk.all
  subst e0
  have st := hk.size t (by simp)
  obtain ⟨ad, hA, hc⟩ := hx 0 (by simp)
  subst hA
  replace hc : w.cell? ad = some (.string t) := hc
  have HC := Lib.hid hc
  obtain rfl : 1 = n := hl
  clear hx hk hg hc
  go_enter Tryz.func97, Tryz.ntmps97
  go_wp2_with fail
  refine (verbs93' 3 [83, 69, 84] 118 0 1 1 true rfl _).mono ?_
  rintro e w1 ⟨rfl, he1⟩
  have K1 := (Cells.new w [.int .i64 3, .int .i64 a, .int .i64 b, .slice (some ad) 1 c] 77).ext he1
  have c0 := K1.c0
  have c1 := K1.c1
  have c2 := K1.c2
  have c3 := K1.c3
  have z1 := K1.1
  have X1 := Lib.hid ((Ext.new w _).trans he1)
  have KK := Lib.hid K1
  clear he1 K1
  go_upto_region 2 with (fail)
  have K2 := KK.out.ext (Ext.new w1 (.cells #[.string (mkB [83, 69, 84]), .int .u8 118, .int .u8 0, .int .i64 1, .int .i64 1] 126))
  have V2 := Cells.new w1 [.string (mkB [83, 69, 84]), .int .u8 118, .int .u8 0, .int .i64 1, .int .i64 1] 126
  have c0 := K2.c0
  have c1 := K2.c1
  have c2 := K2.c2
  have c3 := K2.c3
  have v0 := V2.c0
  have v1 := V2.c1
  have v2 := V2.c2
  have X2 := Lib.hid (X1.out.trans (Ext.new w1 (.cells #[.string (mkB [83, 69, 84]), .int .u8 118, .int .u8 0, .int .i64 1, .int .i64 1] 126)))
  have KK2 := Lib.hid K2
  have VV2 := Lib.hid V2
  clear K2 V2 KK X1
  have z2 : w.heap.size < (w1.alloc (.cells #[.string (mkB [83, 69, 84]), .int .u8 118, .int .u8 0, .int .i64 1, .int .i64 1] 126)).heap.size := KK2.out.1
  have z3 : w1.heap.size < (w1.alloc (.cells #[.string (mkB [83, 69, 84]), .int .u8 118, .int .u8 0, .int .i64 1, .int .i64 1] 126)).heap.size := VV2.out.1
  generalize w1.alloc _ = W at c0 c1 c2 c3 v0 v1 v2 X2 KK2 VV2 z2 z3
  go_upto_region 3 with (fail)
  have LB : Own (W.alloc (.cells #[.string (mkB [83, 69, 84])] 9)) W.heap.size (.slice (some ⟨W.heap.size, 0, none⟩) 1 1) [mkB [83, 69, 84]] := Own.fresh W [mkB [83, 69, 84]] (by simp) (by simp)
  have E3 : Ext W (W.alloc (.cells #[.string (mkB [83, 69, 84])] 9)) := Ext.new _ _
  have KA := KK2.out.ext E3
  have VA := VV2.out.ext E3
  replace c0 := KA.c0
  replace c1 := KA.c1
  replace c2 := KA.c2
  replace c3 := KA.c3
  replace v0 := VA.c0
  replace v1 := VA.c1
  replace v2 := VA.c2
  replace z2 := KA.1
  replace z3 := VA.1
  clear KA VA
  have LB := Lib.hid LB
  have E3 := Lib.hid E3
  generalize W.alloc _ = W3 at c0 c1 c2 c3 v0 v1 v2 z2 z3 LB E3
  go_wp2_with fail
  refine (itoa a _ ((HG.out.ext X2.out).ext E3.out) (by omega) (by omega)).mono ?_
  rintro e W4 ⟨rfl, x4⟩
  have O4 := Lib.hid (LB.out.ext x4)
  have E4 := Ext.trans E3.out x4
  have KA := KK2.out.ext E4
  have VA := VV2.out.ext E4
  replace c0 := KA.c0
  replace c1 := KA.c1
  replace c2 := KA.c2
  replace c3 := KA.c3
  replace v0 := VA.c0
  replace v1 := VA.c1
  replace v2 := VA.c2
  replace z2 := KA.1
  replace z3 := VA.1
  clear KA VA
  have E4 := Lib.hid E4
  clear x4
  go_wp2_with (first | (at_builtin; refine app_str W.heap.size rfl (.tmp 24) (.tmp 28) rfl _ [mkB [83, 69, 84]] _ rfl rfl O4.out E4.out.size (by simp) ?_; intro y5 W5 hown5 hb5 hs5; have O5 := Lib.hid hown5; have E5 := Below.trans E4.out hb5; have KA := KK2.out.ext E5; have VA := VV2.out.ext E5; replace c0 := KA.c0; replace c1 := KA.c1; replace c2 := KA.c2; replace c3 := KA.c3; replace v0 := VA.c0; replace v1 := VA.c1; replace v2 := VA.c2; replace z2 := KA.1; replace z3 := VA.1; clear KA VA; have E5 := Lib.hid E5; clear hown5 hb5) | (at_builtin; refine app_strs W.heap.size rfl (.tmp 39) (.tmp 41) rfl rfl _ [mkB [83, 69, 84], decS a] [t] (some ad) 1 c rfl rfl O5.out (HXS.out.ext (X2.out.trans E5.out)) rfl E5.out.size (by simp) ?_; intro y6 W6 hown6 hb6 hs6; obtain ⟨g, cp, rfl, hcp, hgb, hgs, hcl⟩ := Own.form hown6 (by simp); have CL := Lib.hid hcl; have E6 := Lib.hid (Below.trans E5.out hb6); clear hown6 hb6 hcl))
  have hj : ((joinSp [mkB [83, 69, 84], decS a, t]).length : Int) ≤ 100000 := by simp [joinSp, Lib.join, List.intercalate, List.intersperse, mkB_toList] <;> omega
  refine (join_sp g _ cp [mkB [83, 69, 84], decS a, t] _ (by rfl) CL.out hgs hcp (by simp) (by omega)).mono ?_
  rintro e W7 ⟨rfl, x7⟩
  have HJ : ((mkB (joinSp [mkB [83, 69, 84], decS a, t])).size : Int) ≤ 100000 := by rw [mkB_size]; exact hj
  have E7 := Lib.hid (Ext.trans E6.out x7)
  clear x7 hj
  go_wp2_with fail
  go_ret
  refine ⟨ret_str ?_, Ext.trans X2.out E7.out⟩
  apply ext_list
  simp [lineS, mkB_toList, lineL, ByteArray.data_append, joinSp, Lib.join, List.intercalate, List.intersperse, decS_list, tx]

set_option maxRecDepth 1000000 in
set_option maxHeartbeats 4000000 in
theorem line97_4 (a b many : Int) (T : Option Addr) (n c : Nat) (xs : List ByteArray) (w : World) (hx : Strs w T xs) (hl : xs.length = n) (hnc : n ≤ c) (hk : StepOk ⟨4, a, b, xs⟩ many) (hm : many ≤ 40) (hg : Gl w) :
    Calls Tryz.prog 97 #[.agg #[.int .i64 4, .int .i64 a, .int .i64 b, .slice T n c]] w fun e w' => e = .returned (.string (lineS ⟨4, a, b, xs⟩)) ∧ Ext w w' := by
  obtain ⟨a1, a2⟩ : -9999 ≤ a ∧ a ≤ 9999 := isM_bd hk.a (by omega)
  obtain ⟨b1, b2⟩ : -9999 ≤ b ∧ b ≤ 9999 := isM_bd hk.b (by omega)
  obtain ⟨a3, a4⟩ : 0 ≤ a ∧ a < 6 := isM_var hk.a
  have sa := decS_sz a a1 a2
  have sb := decS_sz b b1 b2
  have HG := Lib.hid hg
  have HXS := Lib.hid hx
  have e0 : xs = [] := list0 hk.all
  subst e0
  obtain rfl : 0 = n := hl
  clear hx hk hg
  go_enter Tryz.func97, Tryz.ntmps97
  go_wp2_with fail
  refine (verbs93' 4 [65, 68, 68] 118 110 0 0 true rfl _).mono ?_
  rintro e w1 ⟨rfl, he1⟩
  have K1 := (Cells.new w [.int .i64 4, .int .i64 a, .int .i64 b, .slice T 0 c] 77).ext he1
  have c0 := K1.c0
  have c1 := K1.c1
  have c2 := K1.c2
  have c3 := K1.c3
  have z1 := K1.1
  have X1 := Lib.hid ((Ext.new w _).trans he1)
  have KK := Lib.hid K1
  clear he1 K1
  go_upto_region 2 with (fail)
  have K2 := KK.out.ext (Ext.new w1 (.cells #[.string (mkB [65, 68, 68]), .int .u8 118, .int .u8 110, .int .i64 0, .int .i64 0] 126))
  have V2 := Cells.new w1 [.string (mkB [65, 68, 68]), .int .u8 118, .int .u8 110, .int .i64 0, .int .i64 0] 126
  have c0 := K2.c0
  have c1 := K2.c1
  have c2 := K2.c2
  have c3 := K2.c3
  have v0 := V2.c0
  have v1 := V2.c1
  have v2 := V2.c2
  have X2 := Lib.hid (X1.out.trans (Ext.new w1 (.cells #[.string (mkB [65, 68, 68]), .int .u8 118, .int .u8 110, .int .i64 0, .int .i64 0] 126)))
  have KK2 := Lib.hid K2
  have VV2 := Lib.hid V2
  clear K2 V2 KK X1
  have z2 : w.heap.size < (w1.alloc (.cells #[.string (mkB [65, 68, 68]), .int .u8 118, .int .u8 110, .int .i64 0, .int .i64 0] 126)).heap.size := KK2.out.1
  have z3 : w1.heap.size < (w1.alloc (.cells #[.string (mkB [65, 68, 68]), .int .u8 118, .int .u8 110, .int .i64 0, .int .i64 0] 126)).heap.size := VV2.out.1
  generalize w1.alloc _ = W at c0 c1 c2 c3 v0 v1 v2 X2 KK2 VV2 z2 z3
  go_upto_region 3 with (fail)
  have LB : Own (W.alloc (.cells #[.string (mkB [65, 68, 68])] 9)) W.heap.size (.slice (some ⟨W.heap.size, 0, none⟩) 1 1) [mkB [65, 68, 68]] := Own.fresh W [mkB [65, 68, 68]] (by simp) (by simp)
  have E3 : Ext W (W.alloc (.cells #[.string (mkB [65, 68, 68])] 9)) := Ext.new _ _
  have KA := KK2.out.ext E3
  have VA := VV2.out.ext E3
  replace c0 := KA.c0
  replace c1 := KA.c1
  replace c2 := KA.c2
  replace c3 := KA.c3
  replace v0 := VA.c0
  replace v1 := VA.c1
  replace v2 := VA.c2
  replace z2 := KA.1
  replace z3 := VA.1
  clear KA VA
  have LB := Lib.hid LB
  have E3 := Lib.hid E3
  generalize W.alloc _ = W3 at c0 c1 c2 c3 v0 v1 v2 z2 z3 LB E3
  go_wp2_with fail
  refine (itoa a _ ((HG.out.ext X2.out).ext E3.out) (by omega) (by omega)).mono ?_
  rintro e W4 ⟨rfl, x4⟩
  have O4 := Lib.hid (LB.out.ext x4)
  have E4 := Ext.trans E3.out x4
  have KA := KK2.out.ext E4
  have VA := VV2.out.ext E4
  replace c0 := KA.c0
  replace c1 := KA.c1
  replace c2 := KA.c2
  replace c3 := KA.c3
  replace v0 := VA.c0
  replace v1 := VA.c1
  replace v2 := VA.c2
  replace z2 := KA.1
  replace z3 := VA.1
  clear KA VA
  have E4 := Lib.hid E4
  clear x4
  go_wp2_with (at_builtin; refine app_str W.heap.size rfl (.tmp 24) (.tmp 28) rfl _ [mkB [65, 68, 68]] _ rfl rfl O4.out E4.out.size (by simp) ?_; intro y5 W5 hown5 hb5 hs5; have O5 := Lib.hid hown5; have E5 := Below.trans E4.out hb5; have KA := KK2.out.ext E5; have VA := VV2.out.ext E5; replace c0 := KA.c0; replace c1 := KA.c1; replace c2 := KA.c2; replace c3 := KA.c3; replace v0 := VA.c0; replace v1 := VA.c1; replace v2 := VA.c2; replace z2 := KA.1; replace z3 := VA.1; clear KA VA; have E5 := Lib.hid E5; clear hown5 hb5)
  go_wp2_with fail
  refine (itoa b _ ((HG.out.ext X2.out).ext E5.out) (by omega) (by omega)).mono ?_
  rintro e W6 ⟨rfl, x6⟩
  have O6 := Lib.hid (O5.out.ext x6)
  have E6 := Ext.trans E5.out x6
  have KA := KK2.out.ext E6
  have VA := VV2.out.ext E6
  replace c0 := KA.c0
  replace c1 := KA.c1
  replace c2 := KA.c2
  replace c3 := KA.c3
  replace v0 := VA.c0
  replace v1 := VA.c1
  replace v2 := VA.c2
  replace z2 := KA.1
  replace z3 := VA.1
  clear KA VA
  have E6 := Lib.hid E6
  clear x6
  go_wp2_with (first | (at_builtin; refine app_str W.heap.size rfl (.tmp 33) (.tmp 37) rfl _ [mkB [65, 68, 68], decS a] _ rfl rfl O6.out E6.out.size (by simp) ?_; intro y7 W7 hown7 hb7 hs7; have O7 := Lib.hid hown7; have E7 := Below.trans E6.out hb7; have KA := KK2.out.ext E7; have VA := VV2.out.ext E7; replace c0 := KA.c0; replace c1 := KA.c1; replace c2 := KA.c2; replace c3 := KA.c3; replace v0 := VA.c0; replace v1 := VA.c1; replace v2 := VA.c2; replace z2 := KA.1; replace z3 := VA.1; clear KA VA; have E7 := Lib.hid E7; clear hown7 hb7) | (at_builtin; refine app_strs W.heap.size rfl (.tmp 39) (.tmp 41) rfl rfl _ [mkB [65, 68, 68], decS a, decS b] [] T 0 c rfl rfl O7.out (HXS.out.ext (X2.out.trans E7.out)) rfl E7.out.size (by simp) ?_; intro y8 W8 hown8 hb8 hs8; obtain ⟨g, cp, rfl, hcp, hgb, hgs, hcl⟩ := Own.form hown8 (by simp); have CL := Lib.hid hcl; have E8 := Lib.hid (Below.trans E7.out hb8); clear hown8 hb8 hcl))
  have hj : ((joinSp [mkB [65, 68, 68], decS a, decS b]).length : Int) ≤ 100000 := by simp [joinSp, Lib.join, List.intercalate, List.intersperse, mkB_toList] <;> omega
  refine (join_sp g _ cp [mkB [65, 68, 68], decS a, decS b] _ (by rfl) CL.out hgs hcp (by simp) (by omega)).mono ?_
  rintro e W9 ⟨rfl, x9⟩
  have HJ : ((mkB (joinSp [mkB [65, 68, 68], decS a, decS b])).size : Int) ≤ 100000 := by rw [mkB_size]; exact hj
  have E9 := Lib.hid (Ext.trans E8.out x9)
  clear x9 hj
  go_wp2_with fail
  go_ret
  refine ⟨ret_str ?_, Ext.trans X2.out E9.out⟩
  apply ext_list
  simp [lineS, mkB_toList, lineL, ByteArray.data_append, joinSp, Lib.join, List.intercalate, List.intersperse, decS_list]

set_option maxRecDepth 1000000 in
set_option maxHeartbeats 4000000 in
theorem line97_5 (a b many : Int) (T : Option Addr) (n c : Nat) (xs : List ByteArray) (w : World) (hx : Strs w T xs) (hl : xs.length = n) (hnc : n ≤ c) (hk : StepOk ⟨5, a, b, xs⟩ many) (hm : many ≤ 40) (hg : Gl w) :
    Calls Tryz.prog 97 #[.agg #[.int .i64 5, .int .i64 a, .int .i64 b, .slice T n c]] w fun e w' => e = .returned (.string (lineS ⟨5, a, b, xs⟩)) ∧ Ext w w' := by
  obtain ⟨a1, a2⟩ : -9999 ≤ a ∧ a ≤ 9999 := isM_bd hk.a (by omega)
  obtain ⟨b1, b2⟩ : -9999 ≤ b ∧ b ≤ 9999 := isM_bd hk.b (by omega)
  obtain ⟨b3, b4⟩ : 0 ≤ b ∧ b < many := isM_place hk.b
  have sa := decS_sz a a1 a2
  have sb := decS_sz b b1 b2
  have HG := Lib.hid hg
  have HXS := Lib.hid hx
  obtain ⟨t, e0⟩ := list1 hk.few hk.all
  subst e0
  have st := hk.size t (by simp)
  obtain ⟨ad, hA, hc⟩ := hx 0 (by simp)
  subst hA
  replace hc : w.cell? ad = some (.string t) := hc
  have HC := Lib.hid hc
  obtain rfl : 1 = n := hl
  clear hx hk hg hc
  go_enter Tryz.func97, Tryz.ntmps97
  go_wp2_with fail
  refine (verbs93' 5 [87, 72, 69, 78] 0 112 1 1 true rfl _).mono ?_
  rintro e w1 ⟨rfl, he1⟩
  have K1 := (Cells.new w [.int .i64 5, .int .i64 a, .int .i64 b, .slice (some ad) 1 c] 77).ext he1
  have c0 := K1.c0
  have c1 := K1.c1
  have c2 := K1.c2
  have c3 := K1.c3
  have z1 := K1.1
  have X1 := Lib.hid ((Ext.new w _).trans he1)
  have KK := Lib.hid K1
  clear he1 K1
  go_upto_region 2 with (fail)
  have K2 := KK.out.ext (Ext.new w1 (.cells #[.string (mkB [87, 72, 69, 78]), .int .u8 0, .int .u8 112, .int .i64 1, .int .i64 1] 126))
  have V2 := Cells.new w1 [.string (mkB [87, 72, 69, 78]), .int .u8 0, .int .u8 112, .int .i64 1, .int .i64 1] 126
  have c0 := K2.c0
  have c1 := K2.c1
  have c2 := K2.c2
  have c3 := K2.c3
  have v0 := V2.c0
  have v1 := V2.c1
  have v2 := V2.c2
  have X2 := Lib.hid (X1.out.trans (Ext.new w1 (.cells #[.string (mkB [87, 72, 69, 78]), .int .u8 0, .int .u8 112, .int .i64 1, .int .i64 1] 126)))
  have KK2 := Lib.hid K2
  have VV2 := Lib.hid V2
  clear K2 V2 KK X1
  have z2 : w.heap.size < (w1.alloc (.cells #[.string (mkB [87, 72, 69, 78]), .int .u8 0, .int .u8 112, .int .i64 1, .int .i64 1] 126)).heap.size := KK2.out.1
  have z3 : w1.heap.size < (w1.alloc (.cells #[.string (mkB [87, 72, 69, 78]), .int .u8 0, .int .u8 112, .int .i64 1, .int .i64 1] 126)).heap.size := VV2.out.1
  generalize w1.alloc _ = W at c0 c1 c2 c3 v0 v1 v2 X2 KK2 VV2 z2 z3
  go_upto_region 3 with (fail)
  have LB : Own (W.alloc (.cells #[.string (mkB [87, 72, 69, 78])] 9)) W.heap.size (.slice (some ⟨W.heap.size, 0, none⟩) 1 1) [mkB [87, 72, 69, 78]] := Own.fresh W [mkB [87, 72, 69, 78]] (by simp) (by simp)
  have E3 : Ext W (W.alloc (.cells #[.string (mkB [87, 72, 69, 78])] 9)) := Ext.new _ _
  have KA := KK2.out.ext E3
  have VA := VV2.out.ext E3
  replace c0 := KA.c0
  replace c1 := KA.c1
  replace c2 := KA.c2
  replace c3 := KA.c3
  replace v0 := VA.c0
  replace v1 := VA.c1
  replace v2 := VA.c2
  replace z2 := KA.1
  replace z3 := VA.1
  clear KA VA
  have LB := Lib.hid LB
  have E3 := Lib.hid E3
  generalize W.alloc _ = W3 at c0 c1 c2 c3 v0 v1 v2 z2 z3 LB E3
  have hcW : W3.cell? ad = some (.string t) := (X2.out.trans E3.out).cell HC.out
  go_wp2_with fail
  go_region_held3 (fun w' => w'.cell? ⟨w.heap.size, 2, none⟩ = some (.int .i64 b) ∧ w'.cell? ⟨w.heap.size, 3, none⟩ = some (.slice (some ad) 1 c) ∧ w'.cell? ad = some (.string t)) (go_keep) (first | (go_at_call 117; refine (itoa_small b _ (by omega) (by omega)).mono ?_; rintro e w' ⟨rfl, rfl⟩) | (refine step_app_strs W.heap.size rfl (.tmp 90) (.tmp 98) rfl rfl _ [mkB [87, 72, 69, 78]] [t, decS b] _ 2 2 rfl rfl (LB.out.ext (Below.drew (Ext.new _ _))) ((Strs.box W3 [t, decS b]).ext (Below.drew (Ext.refl _))) rfl (Below.size (Ext.trans E3.out (Below.drew (Ext.new _ _)))) (by simp) ?_; intro y5 W5 hown5 hb5 hs5; obtain ⟨g, cp, hv, hcp, hgb, hgs, hcl⟩ := Own.form hown5 (by simp); rw [hv]; have CL := Lib.hid hcl; have e5 : Ext W W5 := Below.trans (Ext.trans E3.out (Below.drew (Ext.new _ _))) hb5; have k2 := (KK2.out.ext e5).c2; have k3 := (KK2.out.ext e5).c3; have kt := (X2.out.trans e5).cell HC.out; have E5 := Lib.hid e5; clear hown5 hb5 hcl e5))
  go_wp2_with fail
  have hj : ((joinSp [mkB [87, 72, 69, 78], t, decS b]).length : Int) ≤ 100000 := by simp [joinSp, Lib.join, List.intercalate, List.intersperse, mkB_toList] <;> omega
  refine (join_sp g _ cp [mkB [87, 72, 69, 78], t, decS b] _ (by rfl) CL.out hgs hcp (by simp) (by omega)).mono ?_
  rintro e W6 ⟨rfl, x6⟩
  have HJ : ((mkB (joinSp [mkB [87, 72, 69, 78], t, decS b])).size : Int) ≤ 100000 := by rw [mkB_size]; exact hj
  have E6 := Lib.hid (Ext.trans E5.out x6)
  clear x6 hj
  go_wp2_with fail
  go_ret
  refine ⟨ret_str ?_, Ext.trans X2.out E6.out⟩
  apply ext_list
  simp [lineS, mkB_toList, lineL, ByteArray.data_append, joinSp, Lib.join, List.intercalate, List.intersperse, decS_list, tx]

set_option maxRecDepth 1000000 in
set_option maxHeartbeats 4000000 in
theorem line97_6 (a b many : Int) (T : Option Addr) (n c : Nat) (xs : List ByteArray) (w : World) (hx : Strs w T xs) (hl : xs.length = n) (hnc : n ≤ c) (hk : StepOk ⟨6, a, b, xs⟩ many) (hm : many ≤ 40) (hg : Gl w) :
    Calls Tryz.prog 97 #[.agg #[.int .i64 6, .int .i64 a, .int .i64 b, .slice T n c]] w fun e w' => e = .returned (.string (lineS ⟨6, a, b, xs⟩)) ∧ Ext w w' := by
  obtain ⟨a1, a2⟩ : -9999 ≤ a ∧ a ≤ 9999 := isM_bd hk.a (by omega)
  obtain ⟨b1, b2⟩ : -9999 ≤ b ∧ b ≤ 9999 := isM_bd hk.b (by omega)
  obtain ⟨a3, a4⟩ : 0 ≤ a ∧ a < 6 := isM_var hk.a
  obtain ⟨b3, b4⟩ : 0 ≤ b ∧ b < many := isM_place hk.b
  have sa := decS_sz a a1 a2
  have sb := decS_sz b b1 b2
  have HG := Lib.hid hg
  have HXS := Lib.hid hx
  obtain ⟨t, e0⟩ := list1 hk.few hk.all
  subst e0
  have st := hk.size t (by simp)
  obtain ⟨ad, hA, hc⟩ := hx 0 (by simp)
  subst hA
  replace hc : w.cell? ad = some (.string t) := hc
  have HC := Lib.hid hc
  obtain rfl : 1 = n := hl
  clear hx hk hg hc
  go_enter Tryz.func97, Tryz.ntmps97
  go_wp2_with fail
  refine (verbs93' 6 [83, 65, 77, 69] 118 112 1 1 true rfl _).mono ?_
  rintro e w1 ⟨rfl, he1⟩
  have K1 := (Cells.new w [.int .i64 6, .int .i64 a, .int .i64 b, .slice (some ad) 1 c] 77).ext he1
  have c0 := K1.c0
  have c1 := K1.c1
  have c2 := K1.c2
  have c3 := K1.c3
  have z1 := K1.1
  have X1 := Lib.hid ((Ext.new w _).trans he1)
  have KK := Lib.hid K1
  clear he1 K1
  go_upto_region 2 with (fail)
  have K2 := KK.out.ext (Ext.new w1 (.cells #[.string (mkB [83, 65, 77, 69]), .int .u8 118, .int .u8 112, .int .i64 1, .int .i64 1] 126))
  have V2 := Cells.new w1 [.string (mkB [83, 65, 77, 69]), .int .u8 118, .int .u8 112, .int .i64 1, .int .i64 1] 126
  have c0 := K2.c0
  have c1 := K2.c1
  have c2 := K2.c2
  have c3 := K2.c3
  have v0 := V2.c0
  have v1 := V2.c1
  have v2 := V2.c2
  have X2 := Lib.hid (X1.out.trans (Ext.new w1 (.cells #[.string (mkB [83, 65, 77, 69]), .int .u8 118, .int .u8 112, .int .i64 1, .int .i64 1] 126)))
  have KK2 := Lib.hid K2
  have VV2 := Lib.hid V2
  clear K2 V2 KK X1
  have z2 : w.heap.size < (w1.alloc (.cells #[.string (mkB [83, 65, 77, 69]), .int .u8 118, .int .u8 112, .int .i64 1, .int .i64 1] 126)).heap.size := KK2.out.1
  have z3 : w1.heap.size < (w1.alloc (.cells #[.string (mkB [83, 65, 77, 69]), .int .u8 118, .int .u8 112, .int .i64 1, .int .i64 1] 126)).heap.size := VV2.out.1
  generalize w1.alloc _ = W at c0 c1 c2 c3 v0 v1 v2 X2 KK2 VV2 z2 z3
  go_upto_region 3 with (fail)
  have LB : Own (W.alloc (.cells #[.string (mkB [83, 65, 77, 69])] 9)) W.heap.size (.slice (some ⟨W.heap.size, 0, none⟩) 1 1) [mkB [83, 65, 77, 69]] := Own.fresh W [mkB [83, 65, 77, 69]] (by simp) (by simp)
  have E3 : Ext W (W.alloc (.cells #[.string (mkB [83, 65, 77, 69])] 9)) := Ext.new _ _
  have KA := KK2.out.ext E3
  have VA := VV2.out.ext E3
  replace c0 := KA.c0
  replace c1 := KA.c1
  replace c2 := KA.c2
  replace c3 := KA.c3
  replace v0 := VA.c0
  replace v1 := VA.c1
  replace v2 := VA.c2
  replace z2 := KA.1
  replace z3 := VA.1
  clear KA VA
  have LB := Lib.hid LB
  have E3 := Lib.hid E3
  generalize W.alloc _ = W3 at c0 c1 c2 c3 v0 v1 v2 z2 z3 LB E3
  go_wp2_with fail
  refine (itoa a _ ((HG.out.ext X2.out).ext E3.out) (by omega) (by omega)).mono ?_
  rintro e W4 ⟨rfl, x4⟩
  have O4 := Lib.hid (LB.out.ext x4)
  have E4 := Ext.trans E3.out x4
  have KA := KK2.out.ext E4
  have VA := VV2.out.ext E4
  replace c0 := KA.c0
  replace c1 := KA.c1
  replace c2 := KA.c2
  replace c3 := KA.c3
  replace v0 := VA.c0
  replace v1 := VA.c1
  replace v2 := VA.c2
  replace z2 := KA.1
  replace z3 := VA.1
  clear KA VA
  have E4 := Lib.hid E4
  clear x4
  go_wp2_with (at_builtin; refine app_str W.heap.size rfl (.tmp 24) (.tmp 28) rfl _ [mkB [83, 65, 77, 69]] _ rfl rfl O4.out E4.out.size (by simp) ?_; intro y5 W5 hown5 hb5 hs5; have O5 := Lib.hid hown5; have E5 := Below.trans E4.out hb5; have KA := KK2.out.ext E5; have VA := VV2.out.ext E5; replace c0 := KA.c0; replace c1 := KA.c1; replace c2 := KA.c2; replace c3 := KA.c3; replace v0 := VA.c0; replace v1 := VA.c1; replace v2 := VA.c2; replace z2 := KA.1; replace z3 := VA.1; clear KA VA; have E5 := Lib.hid E5; clear hown5 hb5)
  go_wp2_with fail
  refine (itoa b _ ((HG.out.ext X2.out).ext E5.out) (by omega) (by omega)).mono ?_
  rintro e W6 ⟨rfl, x6⟩
  have O6 := Lib.hid (O5.out.ext x6)
  have E6 := Ext.trans E5.out x6
  have KA := KK2.out.ext E6
  have VA := VV2.out.ext E6
  replace c0 := KA.c0
  replace c1 := KA.c1
  replace c2 := KA.c2
  replace c3 := KA.c3
  replace v0 := VA.c0
  replace v1 := VA.c1
  replace v2 := VA.c2
  replace z2 := KA.1
  replace z3 := VA.1
  clear KA VA
  have E6 := Lib.hid E6
  clear x6
  go_wp2_with (first | (at_builtin; refine app_str W.heap.size rfl (.tmp 33) (.tmp 37) rfl _ [mkB [83, 65, 77, 69], decS a] _ rfl rfl O6.out E6.out.size (by simp) ?_; intro y7 W7 hown7 hb7 hs7; have O7 := Lib.hid hown7; have E7 := Below.trans E6.out hb7; have KA := KK2.out.ext E7; have VA := VV2.out.ext E7; replace c0 := KA.c0; replace c1 := KA.c1; replace c2 := KA.c2; replace c3 := KA.c3; replace v0 := VA.c0; replace v1 := VA.c1; replace v2 := VA.c2; replace z2 := KA.1; replace z3 := VA.1; clear KA VA; have E7 := Lib.hid E7; clear hown7 hb7) | (at_builtin; refine app_strs W.heap.size rfl (.tmp 39) (.tmp 41) rfl rfl _ [mkB [83, 65, 77, 69], decS a, decS b] [t] (some ad) 1 c rfl rfl O7.out (HXS.out.ext (X2.out.trans E7.out)) rfl E7.out.size (by simp) ?_; intro y8 W8 hown8 hb8 hs8; obtain ⟨g, cp, rfl, hcp, hgb, hgs, hcl⟩ := Own.form hown8 (by simp); have CL := Lib.hid hcl; have E8 := Lib.hid (Below.trans E7.out hb8); clear hown8 hb8 hcl))
  have hj : ((joinSp [mkB [83, 65, 77, 69], decS a, decS b, t]).length : Int) ≤ 100000 := by simp [joinSp, Lib.join, List.intercalate, List.intersperse, mkB_toList] <;> omega
  refine (join_sp g _ cp [mkB [83, 65, 77, 69], decS a, decS b, t] _ (by rfl) CL.out hgs hcp (by simp) (by omega)).mono ?_
  rintro e W9 ⟨rfl, x9⟩
  have HJ : ((mkB (joinSp [mkB [83, 65, 77, 69], decS a, decS b, t])).size : Int) ≤ 100000 := by rw [mkB_size]; exact hj
  have E9 := Lib.hid (Ext.trans E8.out x9)
  clear x9 hj
  go_wp2_with fail
  go_ret
  refine ⟨ret_str ?_, Ext.trans X2.out E9.out⟩
  apply ext_list
  simp [lineS, mkB_toList, lineL, ByteArray.data_append, joinSp, Lib.join, List.intercalate, List.intersperse, decS_list, tx]

set_option maxRecDepth 1000000 in
set_option maxHeartbeats 4000000 in
theorem line97_7 (a b many : Int) (T : Option Addr) (n c : Nat) (xs : List ByteArray) (w : World) (hx : Strs w T xs) (hl : xs.length = n) (hnc : n ≤ c) (hk : StepOk ⟨7, a, b, xs⟩ many) (hm : many ≤ 40) (hg : Gl w) :
    Calls Tryz.prog 97 #[.agg #[.int .i64 7, .int .i64 a, .int .i64 b, .slice T n c]] w fun e w' => e = .returned (.string (lineS ⟨7, a, b, xs⟩)) ∧ Ext w w' := by
  obtain ⟨a1, a2⟩ : -9999 ≤ a ∧ a ≤ 9999 := isM_bd hk.a (by omega)
  obtain ⟨b1, b2⟩ : -9999 ≤ b ∧ b ≤ 9999 := isM_bd hk.b (by omega)
  obtain ⟨b3, b4⟩ : 0 ≤ b ∧ b < many := isM_place hk.b
  have sa := decS_sz a a1 a2
  have sb := decS_sz b b1 b2
  have HG := Lib.hid hg
  have HXS := Lib.hid hx
  have e0 : xs = [] := list0 hk.all
  subst e0
  obtain rfl : 0 = n := hl
  clear hx hk hg
  go_enter Tryz.func97, Tryz.ntmps97
  go_wp2_with fail
  refine (verbs93' 7 [71, 79] 0 112 0 0 true rfl _).mono ?_
  rintro e w1 ⟨rfl, he1⟩
  have K1 := (Cells.new w [.int .i64 7, .int .i64 a, .int .i64 b, .slice T 0 c] 77).ext he1
  have c0 := K1.c0
  have c1 := K1.c1
  have c2 := K1.c2
  have c3 := K1.c3
  have z1 := K1.1
  have X1 := Lib.hid ((Ext.new w _).trans he1)
  have KK := Lib.hid K1
  clear he1 K1
  go_upto_region 2 with (fail)
  have K2 := KK.out.ext (Ext.new w1 (.cells #[.string (mkB [71, 79]), .int .u8 0, .int .u8 112, .int .i64 0, .int .i64 0] 126))
  have V2 := Cells.new w1 [.string (mkB [71, 79]), .int .u8 0, .int .u8 112, .int .i64 0, .int .i64 0] 126
  have c0 := K2.c0
  have c1 := K2.c1
  have c2 := K2.c2
  have c3 := K2.c3
  have v0 := V2.c0
  have v1 := V2.c1
  have v2 := V2.c2
  have X2 := Lib.hid (X1.out.trans (Ext.new w1 (.cells #[.string (mkB [71, 79]), .int .u8 0, .int .u8 112, .int .i64 0, .int .i64 0] 126)))
  have KK2 := Lib.hid K2
  have VV2 := Lib.hid V2
  clear K2 V2 KK X1
  have z2 : w.heap.size < (w1.alloc (.cells #[.string (mkB [71, 79]), .int .u8 0, .int .u8 112, .int .i64 0, .int .i64 0] 126)).heap.size := KK2.out.1
  have z3 : w1.heap.size < (w1.alloc (.cells #[.string (mkB [71, 79]), .int .u8 0, .int .u8 112, .int .i64 0, .int .i64 0] 126)).heap.size := VV2.out.1
  generalize w1.alloc _ = W at c0 c1 c2 c3 v0 v1 v2 X2 KK2 VV2 z2 z3
  go_upto_region 3 with (fail)
  have LB : Own (W.alloc (.cells #[.string (mkB [71, 79])] 9)) W.heap.size (.slice (some ⟨W.heap.size, 0, none⟩) 1 1) [mkB [71, 79]] := Own.fresh W [mkB [71, 79]] (by simp) (by simp)
  have E3 : Ext W (W.alloc (.cells #[.string (mkB [71, 79])] 9)) := Ext.new _ _
  have KA := KK2.out.ext E3
  have VA := VV2.out.ext E3
  replace c0 := KA.c0
  replace c1 := KA.c1
  replace c2 := KA.c2
  replace c3 := KA.c3
  replace v0 := VA.c0
  replace v1 := VA.c1
  replace v2 := VA.c2
  replace z2 := KA.1
  replace z3 := VA.1
  clear KA VA
  have LB := Lib.hid LB
  have E3 := Lib.hid E3
  generalize W.alloc _ = W3 at c0 c1 c2 c3 v0 v1 v2 z2 z3 LB E3
  go_wp2_with fail
  refine (itoa b _ ((HG.out.ext X2.out).ext E3.out) (by omega) (by omega)).mono ?_
  rintro e W4 ⟨rfl, x4⟩
  have O4 := Lib.hid (LB.out.ext x4)
  have E4 := Ext.trans E3.out x4
  have KA := KK2.out.ext E4
  have VA := VV2.out.ext E4
  replace c0 := KA.c0
  replace c1 := KA.c1
  replace c2 := KA.c2
  replace c3 := KA.c3
  replace v0 := VA.c0
  replace v1 := VA.c1
  replace v2 := VA.c2
  replace z2 := KA.1
  replace z3 := VA.1
  clear KA VA
  have E4 := Lib.hid E4
  clear x4
  go_wp2_with (first | (at_builtin; refine app_str W.heap.size rfl (.tmp 33) (.tmp 37) rfl _ [mkB [71, 79]] _ rfl rfl O4.out E4.out.size (by simp) ?_; intro y5 W5 hown5 hb5 hs5; have O5 := Lib.hid hown5; have E5 := Below.trans E4.out hb5; have KA := KK2.out.ext E5; have VA := VV2.out.ext E5; replace c0 := KA.c0; replace c1 := KA.c1; replace c2 := KA.c2; replace c3 := KA.c3; replace v0 := VA.c0; replace v1 := VA.c1; replace v2 := VA.c2; replace z2 := KA.1; replace z3 := VA.1; clear KA VA; have E5 := Lib.hid E5; clear hown5 hb5) | (at_builtin; refine app_strs W.heap.size rfl (.tmp 39) (.tmp 41) rfl rfl _ [mkB [71, 79], decS b] [] T 0 c rfl rfl O5.out (HXS.out.ext (X2.out.trans E5.out)) rfl E5.out.size (by simp) ?_; intro y6 W6 hown6 hb6 hs6; obtain ⟨g, cp, rfl, hcp, hgb, hgs, hcl⟩ := Own.form hown6 (by simp); have CL := Lib.hid hcl; have E6 := Lib.hid (Below.trans E5.out hb6); clear hown6 hb6 hcl))
  have hj : ((joinSp [mkB [71, 79], decS b]).length : Int) ≤ 100000 := by simp [joinSp, Lib.join, List.intercalate, List.intersperse, mkB_toList] <;> omega
  refine (join_sp g _ cp [mkB [71, 79], decS b] _ (by rfl) CL.out hgs hcp (by simp) (by omega)).mono ?_
  rintro e W7 ⟨rfl, x7⟩
  have HJ : ((mkB (joinSp [mkB [71, 79], decS b])).size : Int) ≤ 100000 := by rw [mkB_size]; exact hj
  have E7 := Lib.hid (Ext.trans E6.out x7)
  clear x7 hj
  go_wp2_with fail
  go_ret
  refine ⟨ret_str ?_, Ext.trans X2.out E7.out⟩
  apply ext_list
  simp [lineS, mkB_toList, lineL, ByteArray.data_append, joinSp, Lib.join, List.intercalate, List.intersperse, decS_list]

set_option maxRecDepth 1000000 in
set_option maxHeartbeats 4000000 in
theorem line97_8 (a b many : Int) (T : Option Addr) (n c : Nat) (xs : List ByteArray) (w : World) (hx : Strs w T xs) (hl : xs.length = n) (hnc : n ≤ c) (hk : StepOk ⟨8, a, b, xs⟩ many) (hm : many ≤ 40) (hg : Gl w) :
    Calls Tryz.prog 97 #[.agg #[.int .i64 8, .int .i64 a, .int .i64 b, .slice T n c]] w fun e w' => e = .returned (.string (lineS ⟨8, a, b, xs⟩)) ∧ Ext w w' := by
  obtain ⟨a1, a2⟩ : -9999 ≤ a ∧ a ≤ 9999 := isM_bd hk.a (by omega)
  obtain ⟨b1, b2⟩ : -9999 ≤ b ∧ b ≤ 9999 := isM_bd hk.b (by omega)
  have sa := decS_sz a a1 a2
  have sb := decS_sz b b1 b2
  have HG := Lib.hid hg
  have HXS := Lib.hid hx
  obtain ⟨t, e0⟩ := list1 hk.few hk.all
  subst e0
  have st := hk.size t (by simp)
  obtain ⟨ad, hA, hc⟩ := hx 0 (by simp)
  subst hA
  replace hc : w.cell? ad = some (.string t) := hc
  have HC := Lib.hid hc
  obtain rfl : 1 = n := hl
  clear hx hk hg hc
  go_enter Tryz.func97, Tryz.ntmps97
  go_wp2_with fail
  refine (verbs93' 8 [83, 69, 78, 68] 0 0 1 1 true rfl _).mono ?_
  rintro e w1 ⟨rfl, he1⟩
  have K1 := (Cells.new w [.int .i64 8, .int .i64 a, .int .i64 b, .slice (some ad) 1 c] 77).ext he1
  have c0 := K1.c0
  have c1 := K1.c1
  have c2 := K1.c2
  have c3 := K1.c3
  have z1 := K1.1
  have X1 := Lib.hid ((Ext.new w _).trans he1)
  have KK := Lib.hid K1
  clear he1 K1
  go_upto_region 2 with (fail)
  have K2 := KK.out.ext (Ext.new w1 (.cells #[.string (mkB [83, 69, 78, 68]), .int .u8 0, .int .u8 0, .int .i64 1, .int .i64 1] 126))
  have V2 := Cells.new w1 [.string (mkB [83, 69, 78, 68]), .int .u8 0, .int .u8 0, .int .i64 1, .int .i64 1] 126
  have c0 := K2.c0
  have c1 := K2.c1
  have c2 := K2.c2
  have c3 := K2.c3
  have v0 := V2.c0
  have v1 := V2.c1
  have v2 := V2.c2
  have X2 := Lib.hid (X1.out.trans (Ext.new w1 (.cells #[.string (mkB [83, 69, 78, 68]), .int .u8 0, .int .u8 0, .int .i64 1, .int .i64 1] 126)))
  have KK2 := Lib.hid K2
  have VV2 := Lib.hid V2
  clear K2 V2 KK X1
  have z2 : w.heap.size < (w1.alloc (.cells #[.string (mkB [83, 69, 78, 68]), .int .u8 0, .int .u8 0, .int .i64 1, .int .i64 1] 126)).heap.size := KK2.out.1
  have z3 : w1.heap.size < (w1.alloc (.cells #[.string (mkB [83, 69, 78, 68]), .int .u8 0, .int .u8 0, .int .i64 1, .int .i64 1] 126)).heap.size := VV2.out.1
  generalize w1.alloc _ = W at c0 c1 c2 c3 v0 v1 v2 X2 KK2 VV2 z2 z3
  go_upto_region 3 with (fail)
  have LB : Own (W.alloc (.cells #[.string (mkB [83, 69, 78, 68])] 9)) W.heap.size (.slice (some ⟨W.heap.size, 0, none⟩) 1 1) [mkB [83, 69, 78, 68]] := Own.fresh W [mkB [83, 69, 78, 68]] (by simp) (by simp)
  have E3 : Ext W (W.alloc (.cells #[.string (mkB [83, 69, 78, 68])] 9)) := Ext.new _ _
  have KA := KK2.out.ext E3
  have VA := VV2.out.ext E3
  replace c0 := KA.c0
  replace c1 := KA.c1
  replace c2 := KA.c2
  replace c3 := KA.c3
  replace v0 := VA.c0
  replace v1 := VA.c1
  replace v2 := VA.c2
  replace z2 := KA.1
  replace z3 := VA.1
  clear KA VA
  have LB := Lib.hid LB
  have E3 := Lib.hid E3
  generalize W.alloc _ = W3 at c0 c1 c2 c3 v0 v1 v2 z2 z3 LB E3
  go_wp2_with (at_builtin; refine app_strs W.heap.size rfl (.tmp 39) (.tmp 41) rfl rfl _ [mkB [83, 69, 78, 68]] [t] (some ad) 1 c rfl rfl LB.out (HXS.out.ext (X2.out.trans E3.out)) rfl E3.out.size (by simp) ?_; intro y4 W4 hown4 hb4 hs4; obtain ⟨g, cp, rfl, hcp, hgb, hgs, hcl⟩ := Own.form hown4 (by simp); have CL := Lib.hid hcl; have E4 := Lib.hid (Below.trans E3.out hb4); clear hown4 hb4 hcl)
  have hj : ((joinSp [mkB [83, 69, 78, 68], t]).length : Int) ≤ 100000 := by simp [joinSp, Lib.join, List.intercalate, List.intersperse, mkB_toList] <;> omega
  refine (join_sp g _ cp [mkB [83, 69, 78, 68], t] _ (by rfl) CL.out hgs hcp (by simp) (by omega)).mono ?_
  rintro e W5 ⟨rfl, x5⟩
  have HJ : ((mkB (joinSp [mkB [83, 69, 78, 68], t])).size : Int) ≤ 100000 := by rw [mkB_size]; exact hj
  have E5 := Lib.hid (Ext.trans E4.out x5)
  clear x5 hj
  go_wp2_with fail
  go_ret
  refine ⟨ret_str ?_, Ext.trans X2.out E5.out⟩
  apply ext_list
  simp [lineS, mkB_toList, lineL, ByteArray.data_append, joinSp, Lib.join, List.intercalate, List.intersperse, tx]

set_option maxRecDepth 1000000 in
set_option maxHeartbeats 4000000 in
theorem line97_9 (a b many : Int) (T : Option Addr) (n c : Nat) (xs : List ByteArray) (w : World) (hx : Strs w T xs) (hl : xs.length = n) (hnc : n ≤ c) (hk : StepOk ⟨9, a, b, xs⟩ many) (hm : many ≤ 40) (hg : Gl w) :
    Calls Tryz.prog 97 #[.agg #[.int .i64 9, .int .i64 a, .int .i64 b, .slice T n c]] w fun e w' => e = .returned (.string (lineS ⟨9, a, b, xs⟩)) ∧ Ext w w' := by
  obtain ⟨a1, a2⟩ : -9999 ≤ a ∧ a ≤ 9999 := isM_bd hk.a (by omega)
  obtain ⟨b1, b2⟩ : -9999 ≤ b ∧ b ≤ 9999 := isM_bd hk.b (by omega)
  have sa := decS_sz a a1 a2
  have sb := decS_sz b b1 b2
  have HG := Lib.hid hg
  have HXS := Lib.hid hx
  obtain ⟨t, u, e0⟩ := list2 hk.few hk.all
  subst e0
  have st := hk.size t (by simp)
  have su := hk.size u (by simp)
  obtain rfl : 2 = n := hl
  clear hx hk hg
  go_enter Tryz.func97, Tryz.ntmps97
  go_wp2_with fail
  refine (verbs93' 9 [80, 65, 83, 83] 0 0 2 2 true rfl _).mono ?_
  rintro e w1 ⟨rfl, he1⟩
  have K1 := (Cells.new w [.int .i64 9, .int .i64 a, .int .i64 b, .slice T 2 c] 77).ext he1
  have c0 := K1.c0
  have c1 := K1.c1
  have c2 := K1.c2
  have c3 := K1.c3
  have z1 := K1.1
  have X1 := Lib.hid ((Ext.new w _).trans he1)
  have KK := Lib.hid K1
  clear he1 K1
  go_upto_region 2 with (fail)
  have K2 := KK.out.ext (Ext.new w1 (.cells #[.string (mkB [80, 65, 83, 83]), .int .u8 0, .int .u8 0, .int .i64 2, .int .i64 2] 126))
  have V2 := Cells.new w1 [.string (mkB [80, 65, 83, 83]), .int .u8 0, .int .u8 0, .int .i64 2, .int .i64 2] 126
  have c0 := K2.c0
  have c1 := K2.c1
  have c2 := K2.c2
  have c3 := K2.c3
  have v0 := V2.c0
  have v1 := V2.c1
  have v2 := V2.c2
  have X2 := Lib.hid (X1.out.trans (Ext.new w1 (.cells #[.string (mkB [80, 65, 83, 83]), .int .u8 0, .int .u8 0, .int .i64 2, .int .i64 2] 126)))
  have KK2 := Lib.hid K2
  have VV2 := Lib.hid V2
  clear K2 V2 KK X1
  have z2 : w.heap.size < (w1.alloc (.cells #[.string (mkB [80, 65, 83, 83]), .int .u8 0, .int .u8 0, .int .i64 2, .int .i64 2] 126)).heap.size := KK2.out.1
  have z3 : w1.heap.size < (w1.alloc (.cells #[.string (mkB [80, 65, 83, 83]), .int .u8 0, .int .u8 0, .int .i64 2, .int .i64 2] 126)).heap.size := VV2.out.1
  generalize w1.alloc _ = W at c0 c1 c2 c3 v0 v1 v2 X2 KK2 VV2 z2 z3
  go_upto_region 3 with (fail)
  have LB : Own (W.alloc (.cells #[.string (mkB [80, 65, 83, 83])] 9)) W.heap.size (.slice (some ⟨W.heap.size, 0, none⟩) 1 1) [mkB [80, 65, 83, 83]] := Own.fresh W [mkB [80, 65, 83, 83]] (by simp) (by simp)
  have E3 : Ext W (W.alloc (.cells #[.string (mkB [80, 65, 83, 83])] 9)) := Ext.new _ _
  have KA := KK2.out.ext E3
  have VA := VV2.out.ext E3
  replace c0 := KA.c0
  replace c1 := KA.c1
  replace c2 := KA.c2
  replace c3 := KA.c3
  replace v0 := VA.c0
  replace v1 := VA.c1
  replace v2 := VA.c2
  replace z2 := KA.1
  replace z3 := VA.1
  clear KA VA
  have LB := Lib.hid LB
  have E3 := Lib.hid E3
  generalize W.alloc _ = W3 at c0 c1 c2 c3 v0 v1 v2 z2 z3 LB E3
  go_wp2_with (at_builtin; refine app_strs W.heap.size rfl (.tmp 39) (.tmp 41) rfl rfl _ [mkB [80, 65, 83, 83]] [t, u] T 2 c rfl rfl LB.out (HXS.out.ext (X2.out.trans E3.out)) rfl E3.out.size (by simp) ?_; intro y4 W4 hown4 hb4 hs4; obtain ⟨g, cp, rfl, hcp, hgb, hgs, hcl⟩ := Own.form hown4 (by simp); have CL := Lib.hid hcl; have E4 := Lib.hid (Below.trans E3.out hb4); clear hown4 hb4 hcl)
  have hj : ((joinSp [mkB [80, 65, 83, 83], t, u]).length : Int) ≤ 100000 := by simp [joinSp, Lib.join, List.intercalate, List.intersperse, mkB_toList] <;> omega
  refine (join_sp g _ cp [mkB [80, 65, 83, 83], t, u] _ (by rfl) CL.out hgs hcp (by simp) (by omega)).mono ?_
  rintro e W5 ⟨rfl, x5⟩
  have HJ : ((mkB (joinSp [mkB [80, 65, 83, 83], t, u])).size : Int) ≤ 100000 := by rw [mkB_size]; exact hj
  have E5 := Lib.hid (Ext.trans E4.out x5)
  clear x5 hj
  go_wp2_with fail
  go_ret
  refine ⟨ret_str ?_, Ext.trans X2.out E5.out⟩
  apply ext_list
  simp [lineS, mkB_toList, lineL, ByteArray.data_append, joinSp, Lib.join, List.intercalate, List.intersperse, tx]

set_option maxRecDepth 1000000 in
set_option maxHeartbeats 4000000 in
theorem line97_10 (a b many : Int) (T : Option Addr) (n c : Nat) (xs : List ByteArray) (w : World) (hx : Strs w T xs) (hl : xs.length = n) (hnc : n ≤ c) (hk : StepOk ⟨10, a, b, xs⟩ many) (hm : many ≤ 40) (hg : Gl w) :
    Calls Tryz.prog 97 #[.agg #[.int .i64 10, .int .i64 a, .int .i64 b, .slice T n c]] w fun e w' => e = .returned (.string (lineS ⟨10, a, b, xs⟩)) ∧ Ext w w' := by
  obtain ⟨a1, a2⟩ : -9999 ≤ a ∧ a ≤ 9999 := isM_bd hk.a (by omega)
  obtain ⟨b1, b2⟩ : -9999 ≤ b ∧ b ≤ 9999 := isM_bd hk.b (by omega)
  have sa := decS_sz a a1 a2
  have sb := decS_sz b b1 b2
  have HG := Lib.hid hg
  have HXS := Lib.hid hx
  obtain ⟨t, e0⟩ := list1 hk.few hk.all
  subst e0
  have st := hk.size t (by simp)
  obtain ⟨ad, hA, hc⟩ := hx 0 (by simp)
  subst hA
  replace hc : w.cell? ad = some (.string t) := hc
  have HC := Lib.hid hc
  obtain rfl : 1 = n := hl
  clear hx hk hg hc
  go_enter Tryz.func97, Tryz.ntmps97
  go_wp2_with fail
  refine (verbs93' 10 [75, 69, 69, 80] 0 0 1 1 true rfl _).mono ?_
  rintro e w1 ⟨rfl, he1⟩
  have K1 := (Cells.new w [.int .i64 10, .int .i64 a, .int .i64 b, .slice (some ad) 1 c] 77).ext he1
  have c0 := K1.c0
  have c1 := K1.c1
  have c2 := K1.c2
  have c3 := K1.c3
  have z1 := K1.1
  have X1 := Lib.hid ((Ext.new w _).trans he1)
  have KK := Lib.hid K1
  clear he1 K1
  go_upto_region 2 with (fail)
  have K2 := KK.out.ext (Ext.new w1 (.cells #[.string (mkB [75, 69, 69, 80]), .int .u8 0, .int .u8 0, .int .i64 1, .int .i64 1] 126))
  have V2 := Cells.new w1 [.string (mkB [75, 69, 69, 80]), .int .u8 0, .int .u8 0, .int .i64 1, .int .i64 1] 126
  have c0 := K2.c0
  have c1 := K2.c1
  have c2 := K2.c2
  have c3 := K2.c3
  have v0 := V2.c0
  have v1 := V2.c1
  have v2 := V2.c2
  have X2 := Lib.hid (X1.out.trans (Ext.new w1 (.cells #[.string (mkB [75, 69, 69, 80]), .int .u8 0, .int .u8 0, .int .i64 1, .int .i64 1] 126)))
  have KK2 := Lib.hid K2
  have VV2 := Lib.hid V2
  clear K2 V2 KK X1
  have z2 : w.heap.size < (w1.alloc (.cells #[.string (mkB [75, 69, 69, 80]), .int .u8 0, .int .u8 0, .int .i64 1, .int .i64 1] 126)).heap.size := KK2.out.1
  have z3 : w1.heap.size < (w1.alloc (.cells #[.string (mkB [75, 69, 69, 80]), .int .u8 0, .int .u8 0, .int .i64 1, .int .i64 1] 126)).heap.size := VV2.out.1
  generalize w1.alloc _ = W at c0 c1 c2 c3 v0 v1 v2 X2 KK2 VV2 z2 z3
  go_upto_region 3 with (fail)
  have LB : Own (W.alloc (.cells #[.string (mkB [75, 69, 69, 80])] 9)) W.heap.size (.slice (some ⟨W.heap.size, 0, none⟩) 1 1) [mkB [75, 69, 69, 80]] := Own.fresh W [mkB [75, 69, 69, 80]] (by simp) (by simp)
  have E3 : Ext W (W.alloc (.cells #[.string (mkB [75, 69, 69, 80])] 9)) := Ext.new _ _
  have KA := KK2.out.ext E3
  have VA := VV2.out.ext E3
  replace c0 := KA.c0
  replace c1 := KA.c1
  replace c2 := KA.c2
  replace c3 := KA.c3
  replace v0 := VA.c0
  replace v1 := VA.c1
  replace v2 := VA.c2
  replace z2 := KA.1
  replace z3 := VA.1
  clear KA VA
  have LB := Lib.hid LB
  have E3 := Lib.hid E3
  generalize W.alloc _ = W3 at c0 c1 c2 c3 v0 v1 v2 z2 z3 LB E3
  go_wp2_with (at_builtin; refine app_strs W.heap.size rfl (.tmp 39) (.tmp 41) rfl rfl _ [mkB [75, 69, 69, 80]] [t] (some ad) 1 c rfl rfl LB.out (HXS.out.ext (X2.out.trans E3.out)) rfl E3.out.size (by simp) ?_; intro y4 W4 hown4 hb4 hs4; obtain ⟨g, cp, rfl, hcp, hgb, hgs, hcl⟩ := Own.form hown4 (by simp); have CL := Lib.hid hcl; have E4 := Lib.hid (Below.trans E3.out hb4); clear hown4 hb4 hcl)
  have hj : ((joinSp [mkB [75, 69, 69, 80], t]).length : Int) ≤ 100000 := by simp [joinSp, Lib.join, List.intercalate, List.intersperse, mkB_toList] <;> omega
  refine (join_sp g _ cp [mkB [75, 69, 69, 80], t] _ (by rfl) CL.out hgs hcp (by simp) (by omega)).mono ?_
  rintro e W5 ⟨rfl, x5⟩
  have HJ : ((mkB (joinSp [mkB [75, 69, 69, 80], t])).size : Int) ≤ 100000 := by rw [mkB_size]; exact hj
  have E5 := Lib.hid (Ext.trans E4.out x5)
  clear x5 hj
  go_wp2_with fail
  go_ret
  refine ⟨ret_str ?_, Ext.trans X2.out E5.out⟩
  apply ext_list
  simp [lineS, mkB_toList, lineL, ByteArray.data_append, joinSp, Lib.join, List.intercalate, List.intersperse, tx]

set_option maxRecDepth 1000000 in
set_option maxHeartbeats 4000000 in
theorem line97_11 (a b many : Int) (T : Option Addr) (n c : Nat) (xs : List ByteArray) (w : World) (hx : Strs w T xs) (hl : xs.length = n) (hnc : n ≤ c) (hk : StepOk ⟨11, a, b, xs⟩ many) (hm : many ≤ 40) (hg : Gl w) :
    Calls Tryz.prog 97 #[.agg #[.int .i64 11, .int .i64 a, .int .i64 b, .slice T n c]] w fun e w' => e = .returned (.string (lineS ⟨11, a, b, xs⟩)) ∧ Ext w w' := by
  obtain ⟨a1, a2⟩ : -9999 ≤ a ∧ a ≤ 9999 := isM_bd hk.a (by omega)
  obtain ⟨b1, b2⟩ : -9999 ≤ b ∧ b ≤ 9999 := isM_bd hk.b (by omega)
  have sa := decS_sz a a1 a2
  have sb := decS_sz b b1 b2
  have HG := Lib.hid hg
  have HXS := Lib.hid hx
  have e0 : xs = [] := list0 hk.all
  subst e0
  obtain rfl : 0 = n := hl
  clear hx hk hg
  go_enter Tryz.func97, Tryz.ntmps97
  go_wp2_with fail
  refine (verbs93' 11 [66, 65, 67, 75] 0 0 0 0 true rfl _).mono ?_
  rintro e w1 ⟨rfl, he1⟩
  have K1 := (Cells.new w [.int .i64 11, .int .i64 a, .int .i64 b, .slice T 0 c] 77).ext he1
  have c0 := K1.c0
  have c1 := K1.c1
  have c2 := K1.c2
  have c3 := K1.c3
  have z1 := K1.1
  have X1 := Lib.hid ((Ext.new w _).trans he1)
  have KK := Lib.hid K1
  clear he1 K1
  go_upto_region 2 with (fail)
  have K2 := KK.out.ext (Ext.new w1 (.cells #[.string (mkB [66, 65, 67, 75]), .int .u8 0, .int .u8 0, .int .i64 0, .int .i64 0] 126))
  have V2 := Cells.new w1 [.string (mkB [66, 65, 67, 75]), .int .u8 0, .int .u8 0, .int .i64 0, .int .i64 0] 126
  have c0 := K2.c0
  have c1 := K2.c1
  have c2 := K2.c2
  have c3 := K2.c3
  have v0 := V2.c0
  have v1 := V2.c1
  have v2 := V2.c2
  have X2 := Lib.hid (X1.out.trans (Ext.new w1 (.cells #[.string (mkB [66, 65, 67, 75]), .int .u8 0, .int .u8 0, .int .i64 0, .int .i64 0] 126)))
  have KK2 := Lib.hid K2
  have VV2 := Lib.hid V2
  clear K2 V2 KK X1
  have z2 : w.heap.size < (w1.alloc (.cells #[.string (mkB [66, 65, 67, 75]), .int .u8 0, .int .u8 0, .int .i64 0, .int .i64 0] 126)).heap.size := KK2.out.1
  have z3 : w1.heap.size < (w1.alloc (.cells #[.string (mkB [66, 65, 67, 75]), .int .u8 0, .int .u8 0, .int .i64 0, .int .i64 0] 126)).heap.size := VV2.out.1
  generalize w1.alloc _ = W at c0 c1 c2 c3 v0 v1 v2 X2 KK2 VV2 z2 z3
  go_upto_region 3 with (fail)
  have LB : Own (W.alloc (.cells #[.string (mkB [66, 65, 67, 75])] 9)) W.heap.size (.slice (some ⟨W.heap.size, 0, none⟩) 1 1) [mkB [66, 65, 67, 75]] := Own.fresh W [mkB [66, 65, 67, 75]] (by simp) (by simp)
  have E3 : Ext W (W.alloc (.cells #[.string (mkB [66, 65, 67, 75])] 9)) := Ext.new _ _
  have KA := KK2.out.ext E3
  have VA := VV2.out.ext E3
  replace c0 := KA.c0
  replace c1 := KA.c1
  replace c2 := KA.c2
  replace c3 := KA.c3
  replace v0 := VA.c0
  replace v1 := VA.c1
  replace v2 := VA.c2
  replace z2 := KA.1
  replace z3 := VA.1
  clear KA VA
  have LB := Lib.hid LB
  have E3 := Lib.hid E3
  generalize W.alloc _ = W3 at c0 c1 c2 c3 v0 v1 v2 z2 z3 LB E3
  go_wp2_with (at_builtin; refine app_strs W.heap.size rfl (.tmp 39) (.tmp 41) rfl rfl _ [mkB [66, 65, 67, 75]] [] T 0 c rfl rfl LB.out (HXS.out.ext (X2.out.trans E3.out)) rfl E3.out.size (by simp) ?_; intro y4 W4 hown4 hb4 hs4; obtain ⟨g, cp, rfl, hcp, hgb, hgs, hcl⟩ := Own.form hown4 (by simp); have CL := Lib.hid hcl; have E4 := Lib.hid (Below.trans E3.out hb4); clear hown4 hb4 hcl)
  have hj : ((joinSp [mkB [66, 65, 67, 75]]).length : Int) ≤ 100000 := by simp [joinSp, Lib.join, List.intercalate, mkB_toList] <;> omega
  refine (join_sp g _ cp [mkB [66, 65, 67, 75]] _ (by rfl) CL.out hgs hcp (by simp) (by omega)).mono ?_
  rintro e W5 ⟨rfl, x5⟩
  have HJ : ((mkB (joinSp [mkB [66, 65, 67, 75]])).size : Int) ≤ 100000 := by rw [mkB_size]; exact hj
  have E5 := Lib.hid (Ext.trans E4.out x5)
  clear x5 hj
  go_wp2_with fail
  go_ret
  refine ⟨ret_str ?_, Ext.trans X2.out E5.out⟩
  apply ext_list
  simp [lineS, mkB_toList, lineL, ByteArray.data_append, joinSp, Lib.join, List.intercalate]

set_option maxRecDepth 1000000 in
set_option maxHeartbeats 4000000 in
theorem line97_12 (a b many : Int) (T : Option Addr) (n c : Nat) (xs : List ByteArray) (w : World) (hx : Strs w T xs) (hl : xs.length = n) (hnc : n ≤ c) (hk : StepOk ⟨12, a, b, xs⟩ many) (hm : many ≤ 40) (hg : Gl w) :
    Calls Tryz.prog 97 #[.agg #[.int .i64 12, .int .i64 a, .int .i64 b, .slice T n c]] w fun e w' => e = .returned (.string (lineS ⟨12, a, b, xs⟩)) ∧ Ext w w' := by
  obtain ⟨a1, a2⟩ : -9999 ≤ a ∧ a ≤ 9999 := isM_bd hk.a (by omega)
  obtain ⟨b1, b2⟩ : -9999 ≤ b ∧ b ≤ 9999 := isM_bd hk.b (by omega)
  have sa := decS_sz a a1 a2
  have sb := decS_sz b b1 b2
  have HG := Lib.hid hg
  have HXS := Lib.hid hx
  have e0 : xs = [] := list0 hk.all
  subst e0
  obtain rfl : 0 = n := hl
  clear hx hk hg
  go_enter Tryz.func97, Tryz.ntmps97
  go_wp2_with fail
  refine (verbs93' 12 [70, 65, 73, 76] 0 0 0 0 true rfl _).mono ?_
  rintro e w1 ⟨rfl, he1⟩
  have K1 := (Cells.new w [.int .i64 12, .int .i64 a, .int .i64 b, .slice T 0 c] 77).ext he1
  have c0 := K1.c0
  have c1 := K1.c1
  have c2 := K1.c2
  have c3 := K1.c3
  have z1 := K1.1
  have X1 := Lib.hid ((Ext.new w _).trans he1)
  have KK := Lib.hid K1
  clear he1 K1
  go_upto_region 2 with (fail)
  have K2 := KK.out.ext (Ext.new w1 (.cells #[.string (mkB [70, 65, 73, 76]), .int .u8 0, .int .u8 0, .int .i64 0, .int .i64 0] 126))
  have V2 := Cells.new w1 [.string (mkB [70, 65, 73, 76]), .int .u8 0, .int .u8 0, .int .i64 0, .int .i64 0] 126
  have c0 := K2.c0
  have c1 := K2.c1
  have c2 := K2.c2
  have c3 := K2.c3
  have v0 := V2.c0
  have v1 := V2.c1
  have v2 := V2.c2
  have X2 := Lib.hid (X1.out.trans (Ext.new w1 (.cells #[.string (mkB [70, 65, 73, 76]), .int .u8 0, .int .u8 0, .int .i64 0, .int .i64 0] 126)))
  have KK2 := Lib.hid K2
  have VV2 := Lib.hid V2
  clear K2 V2 KK X1
  have z2 : w.heap.size < (w1.alloc (.cells #[.string (mkB [70, 65, 73, 76]), .int .u8 0, .int .u8 0, .int .i64 0, .int .i64 0] 126)).heap.size := KK2.out.1
  have z3 : w1.heap.size < (w1.alloc (.cells #[.string (mkB [70, 65, 73, 76]), .int .u8 0, .int .u8 0, .int .i64 0, .int .i64 0] 126)).heap.size := VV2.out.1
  generalize w1.alloc _ = W at c0 c1 c2 c3 v0 v1 v2 X2 KK2 VV2 z2 z3
  go_upto_region 3 with (fail)
  have LB : Own (W.alloc (.cells #[.string (mkB [70, 65, 73, 76])] 9)) W.heap.size (.slice (some ⟨W.heap.size, 0, none⟩) 1 1) [mkB [70, 65, 73, 76]] := Own.fresh W [mkB [70, 65, 73, 76]] (by simp) (by simp)
  have E3 : Ext W (W.alloc (.cells #[.string (mkB [70, 65, 73, 76])] 9)) := Ext.new _ _
  have KA := KK2.out.ext E3
  have VA := VV2.out.ext E3
  replace c0 := KA.c0
  replace c1 := KA.c1
  replace c2 := KA.c2
  replace c3 := KA.c3
  replace v0 := VA.c0
  replace v1 := VA.c1
  replace v2 := VA.c2
  replace z2 := KA.1
  replace z3 := VA.1
  clear KA VA
  have LB := Lib.hid LB
  have E3 := Lib.hid E3
  generalize W.alloc _ = W3 at c0 c1 c2 c3 v0 v1 v2 z2 z3 LB E3
  go_wp2_with (at_builtin; refine app_strs W.heap.size rfl (.tmp 39) (.tmp 41) rfl rfl _ [mkB [70, 65, 73, 76]] [] T 0 c rfl rfl LB.out (HXS.out.ext (X2.out.trans E3.out)) rfl E3.out.size (by simp) ?_; intro y4 W4 hown4 hb4 hs4; obtain ⟨g, cp, rfl, hcp, hgb, hgs, hcl⟩ := Own.form hown4 (by simp); have CL := Lib.hid hcl; have E4 := Lib.hid (Below.trans E3.out hb4); clear hown4 hb4 hcl)
  have hj : ((joinSp [mkB [70, 65, 73, 76]]).length : Int) ≤ 100000 := by simp [joinSp, Lib.join, List.intercalate, mkB_toList] <;> omega
  refine (join_sp g _ cp [mkB [70, 65, 73, 76]] _ (by rfl) CL.out hgs hcp (by simp) (by omega)).mono ?_
  rintro e W5 ⟨rfl, x5⟩
  have HJ : ((mkB (joinSp [mkB [70, 65, 73, 76]])).size : Int) ≤ 100000 := by rw [mkB_size]; exact hj
  have E5 := Lib.hid (Ext.trans E4.out x5)
  clear x5 hj
  go_wp2_with fail
  go_ret
  refine ⟨ret_str ?_, Ext.trans X2.out E5.out⟩
  apply ext_list
  simp [lineS, mkB_toList, lineL, ByteArray.data_append, joinSp, Lib.join, List.intercalate]

set_option maxRecDepth 1000000 in
set_option maxHeartbeats 4000000 in
theorem line97_13 (a b many : Int) (T : Option Addr) (n c : Nat) (xs : List ByteArray) (w : World) (hx : Strs w T xs) (hl : xs.length = n) (hnc : n ≤ c) (hk : StepOk ⟨13, a, b, xs⟩ many) (hm : many ≤ 40) (hg : Gl w) :
    Calls Tryz.prog 97 #[.agg #[.int .i64 13, .int .i64 a, .int .i64 b, .slice T n c]] w fun e w' => e = .returned (.string (lineS ⟨13, a, b, xs⟩)) ∧ Ext w w' := by
  obtain ⟨a1, a2⟩ : -9999 ≤ a ∧ a ≤ 9999 := isM_bd hk.a (by omega)
  obtain ⟨b1, b2⟩ : -9999 ≤ b ∧ b ≤ 9999 := isM_bd hk.b (by omega)
  have sa := decS_sz a a1 a2
  have sb := decS_sz b b1 b2
  have HG := Lib.hid hg
  have HXS := Lib.hid hx
  have e0 : xs = [] := list0 hk.all
  subst e0
  obtain rfl : 0 = n := hl
  clear hx hk hg
  go_enter Tryz.func97, Tryz.ntmps97
  go_wp2_with fail
  refine (verbs93' 13 [69, 78, 68] 0 0 0 0 true rfl _).mono ?_
  rintro e w1 ⟨rfl, he1⟩
  have K1 := (Cells.new w [.int .i64 13, .int .i64 a, .int .i64 b, .slice T 0 c] 77).ext he1
  have c0 := K1.c0
  have c1 := K1.c1
  have c2 := K1.c2
  have c3 := K1.c3
  have z1 := K1.1
  have X1 := Lib.hid ((Ext.new w _).trans he1)
  have KK := Lib.hid K1
  clear he1 K1
  go_upto_region 2 with (fail)
  have K2 := KK.out.ext (Ext.new w1 (.cells #[.string (mkB [69, 78, 68]), .int .u8 0, .int .u8 0, .int .i64 0, .int .i64 0] 126))
  have V2 := Cells.new w1 [.string (mkB [69, 78, 68]), .int .u8 0, .int .u8 0, .int .i64 0, .int .i64 0] 126
  have c0 := K2.c0
  have c1 := K2.c1
  have c2 := K2.c2
  have c3 := K2.c3
  have v0 := V2.c0
  have v1 := V2.c1
  have v2 := V2.c2
  have X2 := Lib.hid (X1.out.trans (Ext.new w1 (.cells #[.string (mkB [69, 78, 68]), .int .u8 0, .int .u8 0, .int .i64 0, .int .i64 0] 126)))
  have KK2 := Lib.hid K2
  have VV2 := Lib.hid V2
  clear K2 V2 KK X1
  have z2 : w.heap.size < (w1.alloc (.cells #[.string (mkB [69, 78, 68]), .int .u8 0, .int .u8 0, .int .i64 0, .int .i64 0] 126)).heap.size := KK2.out.1
  have z3 : w1.heap.size < (w1.alloc (.cells #[.string (mkB [69, 78, 68]), .int .u8 0, .int .u8 0, .int .i64 0, .int .i64 0] 126)).heap.size := VV2.out.1
  generalize w1.alloc _ = W at c0 c1 c2 c3 v0 v1 v2 X2 KK2 VV2 z2 z3
  go_upto_region 3 with (fail)
  have LB : Own (W.alloc (.cells #[.string (mkB [69, 78, 68])] 9)) W.heap.size (.slice (some ⟨W.heap.size, 0, none⟩) 1 1) [mkB [69, 78, 68]] := Own.fresh W [mkB [69, 78, 68]] (by simp) (by simp)
  have E3 : Ext W (W.alloc (.cells #[.string (mkB [69, 78, 68])] 9)) := Ext.new _ _
  have KA := KK2.out.ext E3
  have VA := VV2.out.ext E3
  replace c0 := KA.c0
  replace c1 := KA.c1
  replace c2 := KA.c2
  replace c3 := KA.c3
  replace v0 := VA.c0
  replace v1 := VA.c1
  replace v2 := VA.c2
  replace z2 := KA.1
  replace z3 := VA.1
  clear KA VA
  have LB := Lib.hid LB
  have E3 := Lib.hid E3
  generalize W.alloc _ = W3 at c0 c1 c2 c3 v0 v1 v2 z2 z3 LB E3
  go_wp2_with (at_builtin; refine app_strs W.heap.size rfl (.tmp 39) (.tmp 41) rfl rfl _ [mkB [69, 78, 68]] [] T 0 c rfl rfl LB.out (HXS.out.ext (X2.out.trans E3.out)) rfl E3.out.size (by simp) ?_; intro y4 W4 hown4 hb4 hs4; obtain ⟨g, cp, rfl, hcp, hgb, hgs, hcl⟩ := Own.form hown4 (by simp); have CL := Lib.hid hcl; have E4 := Lib.hid (Below.trans E3.out hb4); clear hown4 hb4 hcl)
  have hj : ((joinSp [mkB [69, 78, 68]]).length : Int) ≤ 100000 := by simp [joinSp, Lib.join, List.intercalate, mkB_toList] <;> omega
  refine (join_sp g _ cp [mkB [69, 78, 68]] _ (by rfl) CL.out hgs hcp (by simp) (by omega)).mono ?_
  rintro e W5 ⟨rfl, x5⟩
  have HJ : ((mkB (joinSp [mkB [69, 78, 68]])).size : Int) ≤ 100000 := by rw [mkB_size]; exact hj
  have E5 := Lib.hid (Ext.trans E4.out x5)
  clear x5 hj
  go_wp2_with fail
  go_ret
  refine ⟨ret_str ?_, Ext.trans X2.out E5.out⟩
  apply ext_list
  simp [lineS, mkB_toList, lineL, ByteArray.data_append, joinSp, Lib.join, List.intercalate]

theorem line97 (op a b many : Int) (T : Option Addr) (n c : Nat) (xs : List ByteArray) (w : World) (hx : Strs w T xs) (hl : xs.length = n) (hnc : n ≤ c) (hk : StepOk ⟨op, a, b, xs⟩ many) (hm : many ≤ 40) (hg : Gl w) :
    Calls Tryz.prog 97 #[.agg #[.int .i64 op, .int .i64 a, .int .i64 b, .slice T n c]] w fun e w' => e = .returned (.string (lineS ⟨op, a, b, xs⟩)) ∧ Ext w w' := by
  rcases verb_cases hk.verb with h | h | h | h | h | h | h | h | h | h | h | h | h
  · obtain rfl : op = 1 := h
    exact line97_1 a b many T n c xs w hx hl hnc hk hm hg
  · obtain rfl : op = 2 := h
    exact line97_2 a b many T n c xs w hx hl hnc hk hm hg
  · obtain rfl : op = 3 := h
    exact line97_3 a b many T n c xs w hx hl hnc hk hm hg
  · obtain rfl : op = 4 := h
    exact line97_4 a b many T n c xs w hx hl hnc hk hm hg
  · obtain rfl : op = 5 := h
    exact line97_5 a b many T n c xs w hx hl hnc hk hm hg
  · obtain rfl : op = 6 := h
    exact line97_6 a b many T n c xs w hx hl hnc hk hm hg
  · obtain rfl : op = 7 := h
    exact line97_7 a b many T n c xs w hx hl hnc hk hm hg
  · obtain rfl : op = 8 := h
    exact line97_8 a b many T n c xs w hx hl hnc hk hm hg
  · obtain rfl : op = 9 := h
    exact line97_9 a b many T n c xs w hx hl hnc hk hm hg
  · obtain rfl : op = 10 := h
    exact line97_10 a b many T n c xs w hx hl hnc hk hm hg
  · obtain rfl : op = 11 := h
    exact line97_11 a b many T n c xs w hx hl hnc hk hm hg
  · obtain rfl : op = 12 := h
    exact line97_12 a b many T n c xs w hx hl hnc hk hm hg
  · obtain rfl : op = 13 := h
    exact line97_13 a b many T n c xs w hx hl hnc hk hm hg
end Go.Proofs.YtkdbajpdcadliaaGreatDoor.Pg
