/- Walks: the law ProgramPlaces. -/
import Derived.Test.YtkdbajpdcadliaaGreatDoorYi
import Derived.Test.YtkdbajpdcadliaaGreatDoorXl
set_option linter.unusedVariables false
namespace Go.Proofs.YtkdbajpdcadliaaGreatDoor.Pg
open Go.RowKit

set_option maxRecDepth 100000 in
set_option maxHeartbeats 4000000 in
theorem law10 (nm : ByteArray) (A : Option Addr) (n c : Nat) (ss : List Step) (w : World) (hp : StepsAt w A ss) (hl : ss.length = n) (hb : BdLS ss) (hnm : (nm.size : Int) ≤ 9223372036854775807) (hg : Gl w) (hgw : GlB w.heap.size) :
    Calls Tryz.prog 10 #[.agg #[.string nm, .slice A n c]] w fun e w' => e = .returned (.bool true) ∧ Ext w w' := by
  have HP := Lib.hid hp
  have HL := Lib.hid hl
  have HB := Lib.hid hb
  have HG := Lib.hid hg
  have HF := Lib.hid (fun w' (h : Ext w w') => first14 w' (hg.ext h) (hgw.ext h))
  have E0 := Ext.new w (.cells #[.string nm, .slice A n c] 24)
  have kP := Blk.new w [.string nm, .slice A n c] 24
  obtain ⟨R, hR⟩ : ∃ R, w.heap.size = R := ⟨_, rfl⟩
  clear hp hl hb hg hgw
  go_enter Tryz.func10, Tryz.ntmps10
  go_upto_region 1 with (fail)
  rw [hR] at kP
  try simp only [hR]
  generalize World.alloc _ _ = W0 at E0 kP
  have qP0 := kP.c0
  have qP1 := kP.c1
  have HE := Lib.hid E0
  clear E0
  go_wp2_with fail
  refine (small12 nm A n c ss W0 (HP.out.ext HE.out) HL.out HB.out hnm).mono ?_
  rintro e w1 ⟨rfl, he⟩
  clear qP0 qP1
  replace kP := kP.ext he
  have E0 := Ext.trans HE.out he
  clear he HE
  rcases Bool.eq_false_or_eq_true (smallS ⟨nm, ss⟩) with hs | hs
  · rw [hs]
    obtain ⟨hbs, hnm2⟩ := small_bd hs
    have HBS := Lib.hid hbs
    clear hs hbs
    have H37 := Lib.hid (fun w' (h : Ext w w') => ends37 nm A n c ss w' (HP.out.ext h) HL.out HBS.out (by omega))
    have H38 := Lib.hid (fun w' (h : Ext w w') => ends38 nm A n c ss w' (HP.out.ext h) HL.out HBS.out (by omega))
    have H33 := Lib.hid (fun w' (h : Ext w w') => reached33 nm A n c ss w' (HP.out.ext h) HL.out HBS.out (by omega))
    have H39 := Lib.hid (fun w' (h : Ext w w') => reached39 nm A n c ss w' (HP.out.ext h) HL.out HBS.out (by omega))
    obtain ⟨fe, hfe⟩ : ∃ fe : Int, (if validS ⟨nm, ss⟩ = true then 0 else 230) = fe := ⟨_, rfl⟩
    rw [hfe] at H37 H38 H33 H39
    clear hfe
    obtain ⟨el, hel⟩ : ∃ el, endsOf ⟨nm, ss⟩ = el := ⟨_, rfl⟩
    have hell := endsOf_len HBS.out nm
    rw [hel] at H37 H38 hell
    clear hel
    have qP0 := kP.c0
    have qP1 := kP.c1
    have HE := Lib.hid E0
    clear E0
    go_wp2_with fail
    refine (H37.out w1 HE.out).mono ?_
    rintro e w2 ⟨T1, d1, rfl, hI1, he⟩
    clear qP0 qP1
    replace kP := kP.ext he
    have E0 := Ext.trans HE.out he
    clear he HE
    have qP0 := kP.c0
    have qP1 := kP.c1
    have HE := Lib.hid E0
    clear E0
    go_wp2_with fail
    refine (H38.out w2 HE.out).mono ?_
    rintro e w3 ⟨T2, d2, rfl, hI2, he⟩
    clear qP0 qP1
    replace kP := kP.ext he
    have E0 := Ext.trans HE.out he
    replace hI1 := hI1.ext he
    clear he HE
    have qP0 := kP.c0
    have qP1 := kP.c1
    have HE := Lib.hid E0
    clear E0
    go_wp2_with fail
    refine (H33.out w3 HE.out).mono ?_
    rintro e w4 ⟨T3, d3, l3, rfl, hI3, hr3, he⟩
    clear qP0 qP1
    replace kP := kP.ext he
    have E0 := Ext.trans HE.out he
    replace hI1 := hI1.ext he
    replace hI2 := hI2.ext he
    have HR3 := Lib.hid hr3
    clear hr3
    clear he HE
    have qP0 := kP.c0
    have qP1 := kP.c1
    have HE := Lib.hid E0
    clear E0
    go_wp2_with fail
    refine (H39.out w4 HE.out).mono ?_
    rintro e w5 ⟨T4, d4, l4, rfl, hI4, hr4, he⟩
    clear qP0 qP1
    replace kP := kP.ext he
    have E0 := Ext.trans HE.out he
    replace hI1 := hI1.ext he
    replace hI2 := hI2.ext he
    replace hI3 := hI3.ext he
    obtain rfl := HR3.out.eq hr4
    have hl3 := HR3.out.len HBS.out
    clear hr4
    clear he HE
    have HI1 := Lib.hid hI1
    have HI2 := Lib.hid hI2
    have HI3 := Lib.hid hI3
    have HI4 := Lib.hid hI4
    clear hI1 hI2 hI3 hI4
    have qe : (fe == fe) = true := beq_self_eq_true fe
    have HE := Lib.hid E0
    clear E0 kP
    go_wp2_with fail
    refine (sameInts40 T1 T2 _ _ d1 d2 el el _ HI1.out HI2.out rfl rfl (by omega) (by omega)).mono ?_
    rintro e w8 ⟨rfl, he⟩
    rw [decide_eq_true (rfl : el = el)]
    have HE8 := Lib.hid he
    clear he
    go_wp2_with fail
    refine (sameInts40 T3 T4 _ _ d3 d4 l3 l3 _ (HI3.out.ext HE8.out) (HI4.out.ext HE8.out) rfl rfl (by omega) (by omega)).mono ?_
    rintro e w9 ⟨rfl, he⟩
    rw [decide_eq_true (rfl : l3 = l3)]
    have HE9 := Lib.hid (Ext.trans HE.out (Ext.trans HE8.out he))
    clear he
    go_wp2_with fail
    refine (HF.out _ HE9.out).mono ?_
    rintro e wz ⟨rfl, he⟩
    have HEZ := Lib.hid (Ext.trans HE9.out he)
    clear he
    go_wp2
    go_ret
    exact ⟨rfl, HEZ.out⟩
  · rw [hs]
    have HE := Lib.hid E0
    go_wp2_with fail
    refine (HF.out w1 HE.out).mono ?_
    rintro e wz ⟨rfl, he⟩
    have HEZ := Lib.hid (Ext.trans HE.out he)
    clear he
    go_wp2
    go_ret
    exact ⟨rfl, HEZ.out⟩
end Go.Proofs.YtkdbajpdcadliaaGreatDoor.Pg
