/- Walks: SameRun of both sides; slices.Equal of texts. -/
import Derived.Test.YtkdbajpdcadliaaGreatDoorXb
import Derived.Test.YtkdbajpdcadliaaGreatDoorWa
import Derived.Test.YtkdbajpdcadliaaGreatDoorWz
set_option linter.unusedVariables false
namespace Go.Proofs.YtkdbajpdcadliaaGreatDoor.Pg
open Go.RowKit

set_option maxRecDepth 100000 in
theorem equal68 (A C : Option Addr) (n m c d : Nat) (xs ys : List ByteArray) (w : World) (hx : Strs w A xs) (hy : Strs w C ys) (hl : xs.length = n) (hm : ys.length = m) (hb : (n : Int) ≤ 9223372036854775807) (hb2 : (m : Int) ≤ 9223372036854775807) :
    Calls Tryz.prog 68 #[.slice A n c, .slice C m d] w fun e w' => e = .returned (.bool (decide (xs = ys))) ∧ Ext w w' := by
  have HX := Lib.hid hx
  have HY := Lib.hid hy
  have HL := Lib.hid hl
  have HM := Lib.hid hm
  clear hx hy hl hm
  by_cases hnm : n = m
  · subst hnm
    go_enter Tryz.func68, Tryz.ntmps68
    go_wp2_with fail
    go_loopw [13] (fun i wr => ∃ j : Nat, j ≤ n ∧ i = .int .i64 j ∧ Hid (Ext w wr) ∧ Hid (∀ q (h1 : q < xs.length) (h2 : q < ys.length), q < j → xs[q] = ys[q])) (fun i _ => n - (intOf i).toNat)
    case atStart => exact ⟨0, Nat.zero_le _, rfl, Lib.hid (Ext.refl w), fun q h1 h2 hq => absurd hq (by omega)⟩
    case round =>
      obtain ⟨j, hj, rfl, hE, hall⟩ := hrel
      by_cases hlt : j < n
      · have l1 : j < xs.length := by have := HL.out; omega
        have l2 : j < ys.length := by have := HM.out; omega
        obtain ⟨a1, hA1, hc1⟩ := (HX.out.ext hE.out) j l1
        subst hA1
        obtain ⟨a2, hA2, hc2⟩ := (HY.out.ext hE.out) j l2
        subst hA2
        by_cases he : xs[j] = ys[j]
        · have HEQ := Lib.hid he
          have q := str_eq he
          clear he
          go_upto_region 6 with (fail)
          go_quiet (fail)
          go_wp2_with fail
          go_roundw
          case rel =>
            refine ⟨j + 1, by omega, by go_num, Lib.hid (hE.out.trans ((Ext.refl _).drewN _)), fun q h1 h2 hq => ?_⟩
            by_cases e : q < j
            · exact hall.out q h1 h2 e
            · obtain rfl : q = j := by omega
              exact HEQ.out
          case measure => simp [intOf]; omega
        · have hd : decide (xs = ys) = false := decide_eq_false (fun e => he (by simp only [e]))
          have HD := Lib.hid hd
          have q := str_ne he
          clear he hd
          go_upto_region 6 with (fail)
          go_quiet (fail)
          go_wp2_with fail
          go_ret
          exact ⟨ret_bool HD.out.symm, hE.out.trans ((Ext.refl _).drewN _)⟩
      · have hd : decide (xs = ys) = true := decide_eq_true (List.ext_getElem (by have := HL.out; have := HM.out; omega) (fun q h1 h2 => hall.out q h1 h2 (by have := HL.out; omega)))
        have HD := Lib.hid hd
        clear hd
        go_wp2_with fail
        go_ret
        exact ⟨ret_bool HD.out.symm, hE.out⟩
  · have hd : decide (xs = ys) = false := decide_eq_false (fun e => hnm (by have h1 := HL.out; have h2 := HM.out; rw [e] at h1; omega))
    have HD := Lib.hid hd
    have hnB : ((n : Int) == (m : Int)) = false := bq_no (by omega)
    have hnI : ¬ (n : Int) = (m : Int) := by omega
    clear hd
    go_enter Tryz.func68, Tryz.ntmps68
    go_wp2_with fail
    go_ret
    exact ⟨ret_bool HD.out.symm, Ext.refl w⟩

/-- Are two runs the same? -/
def sameRunS (p1 c1 o1 : Int) (st1 : ByteArray) (xs : List ByteArray) (p2 c2 o2 : Int) (st2 : ByteArray) (ys : List ByteArray) : Bool :=
  decide (p1 = p2) && decide (xs = ys) && decide (st1 = st2) && decide (c1 = c2) && decide (o1 = o2)
set_option maxRecDepth 100000 in
theorem sameRun32 (p1 c1 o1 : Int) (T1 : Option Addr) (n1 d1 : Nat) (st1 : ByteArray) (xs : List ByteArray) (p2 c2 o2 : Int) (T2 : Option Addr) (n2 d2 : Nat) (st2 : ByteArray) (ys : List ByteArray) (w : World) (hx : Strs w T1 xs) (hy : Strs w T2 ys) (hl : xs.length = n1) (hm : ys.length = n2) (hb : (n1 : Int) ≤ 9223372036854775807) (hb2 : (n2 : Int) ≤ 9223372036854775807) :
    Calls Tryz.prog 32 #[runV p1 T1 n1 d1 st1 c1 o1, runV p2 T2 n2 d2 st2 c2 o2] w fun e w' => e = .returned (.bool (sameRunS p1 c1 o1 st1 xs p2 c2 o2 st2 ys)) ∧ Ext w w' := by
  obtain ⟨res, hres⟩ : ∃ res, sameRunS p1 c1 o1 st1 xs p2 c2 o2 st2 ys = res := ⟨_, rfl⟩
  rw [hres]
  have HRES := Lib.hid hres
  clear hres
  have E0 := Ext.al (Ext.new w (.cells #[.int .i64 p1, .slice T1 n1 d1, .string st1, .int .i64 c1, .int .i64 o1] 27)) (.cells #[.int .i64 p2, .slice T2 n2 d2, .string st2, .int .i64 c2, .int .i64 o2] 27)
  have kA := (Blk.new w [.int .i64 p1, .slice T1 n1 d1, .string st1, .int .i64 c1, .int .i64 o1] 27).ext (Ext.new _ (.cells #[.int .i64 p2, .slice T2 n2 d2, .string st2, .int .i64 c2, .int .i64 o2] 27))
  have kB := Blk.new (w.alloc (.cells #[.int .i64 p1, .slice T1 n1 d1, .string st1, .int .i64 c1, .int .i64 o1] 27)) [.int .i64 p2, .slice T2 n2 d2, .string st2, .int .i64 c2, .int .i64 o2] 27
  simp only [World.size_alloc] at kB
  obtain ⟨R, hR⟩ : ∃ R, w.heap.size = R := ⟨_, rfl⟩
  have HX := Lib.hid hx
  have HY := Lib.hid hy
  have HL := Lib.hid hl
  have HM := Lib.hid hm
  clear hx hy hl hm
  unfold runV
  go_enter Tryz.func32, Tryz.ntmps32
  go_upto_region 1 with (fail)
  rw [hR] at kA kB
  try simp only [hR]
  generalize World.alloc _ _ = W0 at E0 kA kB
  have HE0 := Lib.hid E0
  clear E0
  have a0 := kA.c0
  have a1 := kA.c1
  have a2 := kA.c2
  have a3 := kA.c3
  have a4 := kA.c4
  have b0 := kB.c0
  have b1 := kB.c1
  have b2 := kB.c2
  have b3 := kB.c3
  have b4 := kB.c4
  by_cases hp : p1 = p2
  · have qp : (p1 == p2) = true := by rw [hp]; simp
    have Hp := Lib.hid hp
    clear hp
    go_wp2_with fail
    refine (equal68 T1 T2 n1 n2 d1 d2 xs ys _ (HX.out.ext HE0.out) (HY.out.ext HE0.out) HL.out HM.out (by omega) (by omega)).mono ?_
    rintro e w1 ⟨rfl, he⟩
    have HE1 := Lib.hid (Ext.trans HE0.out he)
    have kA1 := kA.ext he
    have kB1 := kB.ext he
    clear he a0 a1 a2 a3 a4 b0 b1 b2 b3 b4
    have a0 := kA1.c0
    have a1 := kA1.c1
    have a2 := kA1.c2
    have a3 := kA1.c3
    have a4 := kA1.c4
    have b0 := kB1.c0
    have b1 := kB1.c1
    have b2 := kB1.c2
    have b3 := kB1.c3
    have b4 := kB1.c4
    by_cases hv : xs = ys
    · rw [decide_eq_true hv]
      have Hv := Lib.hid hv
      clear hv
      by_cases hs : st1 = st2
      · have qs : (st1.toList == st2.toList) = true := str_eq hs
        have Hs := Lib.hid hs
        clear hs
        by_cases hc : c1 = c2
        · have qc : (c1 == c2) = true := by rw [hc]; simp
          have Hc := Lib.hid hc
          clear hc
          by_cases ho : o1 = o2
          · have qo : (o1 == o2) = true := by rw [ho]; simp
            have Ho := Lib.hid ho
            clear ho
            have hr : res = true := by
              rw [← HRES.out]
              unfold sameRunS
              rw [decide_eq_true Hp.out, decide_eq_true Hv.out, decide_eq_true Hs.out, decide_eq_true Hc.out, decide_eq_true Ho.out]
              rfl
            have HR := Lib.hid hr
            clear hr
            go_wp2_with fail
            go_ret
            exact ⟨ret_bool HR.out.symm, HE1.out⟩
          · have qo := bq_no ho
            have hr : res = false := by
              rw [← HRES.out]
              unfold sameRunS
              rw [decide_eq_false ho]
              simp
            have HR := Lib.hid hr
            clear hr
            clear ho
            go_wp2_with fail
            go_ret
            exact ⟨ret_bool HR.out.symm, HE1.out⟩
        · have qc := bq_no hc
          have hr : res = false := by
            rw [← HRES.out]
            unfold sameRunS
            rw [decide_eq_false hc]
            simp
          have HR := Lib.hid hr
          clear hr
          clear hc
          go_wp2_with fail
          go_ret
          exact ⟨ret_bool HR.out.symm, HE1.out⟩
      · have qs : (st1.toList == st2.toList) = false := str_ne hs
        have hr : res = false := by
          rw [← HRES.out]
          unfold sameRunS
          rw [decide_eq_false hs]
          simp
        have HR := Lib.hid hr
        clear hr
        clear hs
        go_wp2_with fail
        go_ret
        exact ⟨ret_bool HR.out.symm, HE1.out⟩
    · rw [decide_eq_false hv]
      have hr : res = false := by
        rw [← HRES.out]
        unfold sameRunS
        rw [decide_eq_false hv]
        simp
      have HR := Lib.hid hr
      clear hr
      clear hv
      go_wp2_with fail
      go_ret
      exact ⟨ret_bool HR.out.symm, HE1.out⟩
  · have qp := bq_no hp
    have hr : res = false := by
      rw [← HRES.out]
      unfold sameRunS
      rw [decide_eq_false hp]
      simp
    have HR := Lib.hid hr
    clear hr
    clear hp
    go_wp2_with fail
    go_ret
    exact ⟨ret_bool HR.out.symm, HE0.out⟩
set_option maxRecDepth 100000 in
theorem sameRun17 (p1 c1 o1 : Int) (T1 : Option Addr) (n1 d1 : Nat) (st1 : ByteArray) (xs : List ByteArray) (p2 c2 o2 : Int) (T2 : Option Addr) (n2 d2 : Nat) (st2 : ByteArray) (ys : List ByteArray) (w : World) (hx : Strs w T1 xs) (hy : Strs w T2 ys) (hl : xs.length = n1) (hm : ys.length = n2) (hb : (n1 : Int) ≤ 9223372036854775807) (hb2 : (n2 : Int) ≤ 9223372036854775807) :
    Calls Tryz.prog 17 #[runV p1 T1 n1 d1 st1 c1 o1, runV p2 T2 n2 d2 st2 c2 o2] w fun e w' => e = .returned (.bool (sameRunS p1 c1 o1 st1 xs p2 c2 o2 st2 ys)) ∧ Ext w w' := by
  obtain ⟨res, hres⟩ : ∃ res, sameRunS p1 c1 o1 st1 xs p2 c2 o2 st2 ys = res := ⟨_, rfl⟩
  rw [hres]
  have HRES := Lib.hid hres
  clear hres
  have E0 := Ext.al (Ext.new w (.cells #[.int .i64 p1, .slice T1 n1 d1, .string st1, .int .i64 c1, .int .i64 o1] 27)) (.cells #[.int .i64 p2, .slice T2 n2 d2, .string st2, .int .i64 c2, .int .i64 o2] 27)
  have kA := (Blk.new w [.int .i64 p1, .slice T1 n1 d1, .string st1, .int .i64 c1, .int .i64 o1] 27).ext (Ext.new _ (.cells #[.int .i64 p2, .slice T2 n2 d2, .string st2, .int .i64 c2, .int .i64 o2] 27))
  have kB := Blk.new (w.alloc (.cells #[.int .i64 p1, .slice T1 n1 d1, .string st1, .int .i64 c1, .int .i64 o1] 27)) [.int .i64 p2, .slice T2 n2 d2, .string st2, .int .i64 c2, .int .i64 o2] 27
  simp only [World.size_alloc] at kB
  obtain ⟨R, hR⟩ : ∃ R, w.heap.size = R := ⟨_, rfl⟩
  have HX := Lib.hid hx
  have HY := Lib.hid hy
  have HL := Lib.hid hl
  have HM := Lib.hid hm
  clear hx hy hl hm
  unfold runV
  go_enter Tryz.func17, Tryz.ntmps17
  go_upto_region 1 with (fail)
  rw [hR] at kA kB
  try simp only [hR]
  generalize World.alloc _ _ = W0 at E0 kA kB
  have HE0 := Lib.hid E0
  clear E0
  have a0 := kA.c0
  have a1 := kA.c1
  have a2 := kA.c2
  have a3 := kA.c3
  have a4 := kA.c4
  have b0 := kB.c0
  have b1 := kB.c1
  have b2 := kB.c2
  have b3 := kB.c3
  have b4 := kB.c4
  by_cases hp : p1 = p2
  · have qp : (p1 == p2) = true := by rw [hp]; simp
    have Hp := Lib.hid hp
    clear hp
    by_cases hs : st1 = st2
    · have qs : (st1.toList == st2.toList) = true := str_eq hs
      have Hs := Lib.hid hs
      clear hs
      by_cases hc : c1 = c2
      · have qc : (c1 == c2) = true := by rw [hc]; simp
        have Hc := Lib.hid hc
        clear hc
        by_cases ho : o1 = o2
        · have qo : (o1 == o2) = true := by rw [ho]; simp
          have Ho := Lib.hid ho
          clear ho
          go_wp2_with fail
          refine (sameTexts55 T1 T2 n1 n2 d1 d2 xs ys _ (HX.out.ext HE0.out) (HY.out.ext HE0.out) HL.out HM.out (by omega) (by omega)).mono ?_
          rintro e w1 ⟨rfl, he⟩
          have HE1 := Lib.hid (Ext.trans HE0.out he)
          have kA1 := kA.ext he
          have kB1 := kB.ext he
          clear he a0 a1 a2 a3 a4 b0 b1 b2 b3 b4
          have a0 := kA1.c0
          have a1 := kA1.c1
          have a2 := kA1.c2
          have a3 := kA1.c3
          have a4 := kA1.c4
          have b0 := kB1.c0
          have b1 := kB1.c1
          have b2 := kB1.c2
          have b3 := kB1.c3
          have b4 := kB1.c4
          by_cases hv : xs = ys
          · rw [decide_eq_true hv]
            have Hv := Lib.hid hv
            clear hv
            have hr : res = true := by
              rw [← HRES.out]
              unfold sameRunS
              rw [decide_eq_true Hp.out, decide_eq_true Hv.out, decide_eq_true Hs.out, decide_eq_true Hc.out, decide_eq_true Ho.out]
              rfl
            have HR := Lib.hid hr
            clear hr
            go_wp2_with fail
            go_ret
            exact ⟨ret_bool HR.out.symm, HE1.out⟩
          · rw [decide_eq_false hv]
            have hr : res = false := by
              rw [← HRES.out]
              unfold sameRunS
              rw [decide_eq_false hv]
              simp
            have HR := Lib.hid hr
            clear hr
            clear hv
            go_wp2_with fail
            go_ret
            exact ⟨ret_bool HR.out.symm, HE1.out⟩
        · have qo := bq_no ho
          have hr : res = false := by
            rw [← HRES.out]
            unfold sameRunS
            rw [decide_eq_false ho]
            simp
          have HR := Lib.hid hr
          clear hr
          clear ho
          go_wp2_with fail
          go_ret
          exact ⟨ret_bool HR.out.symm, HE0.out⟩
      · have qc := bq_no hc
        have hr : res = false := by
          rw [← HRES.out]
          unfold sameRunS
          rw [decide_eq_false hc]
          simp
        have HR := Lib.hid hr
        clear hr
        clear hc
        go_wp2_with fail
        go_ret
        exact ⟨ret_bool HR.out.symm, HE0.out⟩
    · have qs : (st1.toList == st2.toList) = false := str_ne hs
      have hr : res = false := by
        rw [← HRES.out]
        unfold sameRunS
        rw [decide_eq_false hs]
        simp
      have HR := Lib.hid hr
      clear hr
      clear hs
      go_wp2_with fail
      go_ret
      exact ⟨ret_bool HR.out.symm, HE0.out⟩
  · have qp := bq_no hp
    have hr : res = false := by
      rw [← HRES.out]
      unfold sameRunS
      rw [decide_eq_false hp]
      simp
    have HR := Lib.hid hr
    clear hr
    clear hp
    go_wp2_with fail
    go_ret
    exact ⟨ret_bool HR.out.symm, HE0.out⟩
end Go.Proofs.YtkdbajpdcadliaaGreatDoor.Pg
