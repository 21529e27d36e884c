/- Walks: the law ProgramTexts. -/
import Derived.Test.YtkdbajpdcadliaaGreatDoorYi
import Derived.Test.YtkdbajpdcadliaaGreatDoorXh
import Derived.Test.YtkdbajpdcadliaaGreatDoorPq
set_option linter.unusedVariables false
namespace Go.Proofs.YtkdbajpdcadliaaGreatDoor.Pg
open Go.RowKit

set_option maxRecDepth 100000 in
set_option maxHeartbeats 4000000 in
theorem law9 (nm : ByteArray) (A : Option Addr) (n c : Nat) (ss : List Step) (w : World) (hp : StepsAt w A ss) (hl : ss.length = n) (hb : BdLS ss) (hnm : (nm.size : Int) ≤ 9223372036854775807) (hg : Gl w) (hgw : GlB w.heap.size) :
    Calls Tryz.prog 9 #[.agg #[.string nm, .slice A n c]] w fun e w' => e = .returned (.bool true) ∧ Ext w w' := by
  have HP := Lib.hid hp
  have HL := Lib.hid hl
  have HB := Lib.hid hb
  have HG := Lib.hid hg
  have HF := Lib.hid (fun w' (h : Ext w w') => first14 w' (hg.ext h) (hgw.ext h))
  have E0 := Ext.new w (.cells #[.string nm, .slice A n c] 24)
  have kP := Blk.new w [.string nm, .slice A n c] 24
  obtain ⟨R, hR⟩ : ∃ R, w.heap.size = R := ⟨_, rfl⟩
  clear hp hl hb hg hgw
  go_enter Tryz.func9, Tryz.ntmps9
  go_upto_region 1 with (fail)
  rw [hR] at kP
  try simp only [hR]
  generalize World.alloc _ _ = W0 at E0 kP
  have qP0 := kP.c0
  have qP1 := kP.c1
  have HE := Lib.hid E0
  clear E0
  go_wp2_with fail
  refine (small12 nm A n c ss W0 (HP.out.ext HE.out) HL.out HB.out hnm).mono ?_
  rintro e w1 ⟨rfl, he⟩
  clear qP0 qP1
  replace kP := kP.ext he
  have E0 := Ext.trans HE.out he
  clear he HE
  rcases Bool.eq_false_or_eq_true (smallS ⟨nm, ss⟩) with hs | hs
  · rw [hs]
    obtain ⟨hbs, hnm2⟩ := small_bd hs
    have HBS := Lib.hid hbs
    clear hs hbs
    obtain ⟨v, hv⟩ : ∃ v, validS ⟨nm, ss⟩ = v := ⟨_, rfl⟩
    have HV := Lib.hid hv
    have H26 := Lib.hid (fun w' (h : Ext w w') => format26 nm A n c ss w' (HP.out.ext h) HL.out HBS.out (by omega) (HG.out.ext h))
    have H34 := Lib.hid (fun w' (h : Ext w w') => format34 nm A n c ss w' (HP.out.ext h) HL.out HBS.out (by omega))
    have H35 := Lib.hid (fun w' (h : Ext w w') => valid35 nm A n c ss w' (HP.out.ext h) HL.out HBS.out (by omega))
    have H21 := Lib.hid (fun w' (h : Ext w w') => valid21 nm A n c ss w' (HP.out.ext h) HL.out HBS.out (by omega))
    rw [hv] at H26 H34 H35 H21
    obtain ⟨fs, hfs⟩ : ∃ fs, (if v = true then formatS ⟨nm, ss⟩ else ⟨#[]⟩) = fs := ⟨_, rfl⟩
    obtain ⟨fe, hfe⟩ : ∃ fe : Int, (if v = true then 0 else 230) = fe := ⟨_, rfl⟩
    rw [hfs, hfe] at H26 H34
    have HFS := Lib.hid hfs
    have HFE := Lib.hid hfe
    clear hv hfs hfe
    have qP0 := kP.c0
    have qP1 := kP.c1
    have HE := Lib.hid E0
    clear E0
    go_wp2_with fail
    refine (H26.out w1 HE.out).mono ?_
    rintro e w2 ⟨rfl, he⟩
    clear qP0 qP1
    replace kP := kP.ext he
    have E0 := Ext.trans HE.out he
    clear he HE
    have qP0 := kP.c0
    have qP1 := kP.c1
    have HE := Lib.hid E0
    clear E0
    go_wp2_with fail
    refine (H34.out w2 HE.out).mono ?_
    rintro e w3 ⟨rfl, he⟩
    clear qP0 qP1
    replace kP := kP.ext he
    have E0 := Ext.trans HE.out he
    clear he HE
    have H35b := Lib.hid (fun w' (h : Ext w3 w') => H35.out w' (Ext.trans E0 h))
    have H21b := Lib.hid (fun w' (h : Ext w3 w') => H21.out w' (Ext.trans E0 h))
    have HKP := Lib.hid kP
    have HE0 := Lib.hid E0
    clear kP E0
    have qs : (fs.toList == fs.toList) = true := str_eq rfl
    have qe : (fe == fe) = true := beq_self_eq_true fe
    have qv : (v == v) = true := beq_self_eq_true v
    go_upto_region 5 with (fail)
    go_region_held3 (fun w' => w'.cell? ⟨R, 0, none⟩ = some (.string nm) ∧ w'.cell? ⟨R, 1, none⟩ = some (.slice A n c)) (first | exact ⟨(HKP.out.ext HW.out).c0, (HKP.out.ext HW.out).c1⟩ | exact ⟨(HKP.out.ext (Below.drew (Ext.refl _))).c0, (HKP.out.ext (Below.drew (Ext.refl _))).c1⟩ | go_keep) (first | (go_at_call 35; refine (H35b.out _ (by first | exact HW.out | exact Below.drew (Ext.refl _))).mono ?_; rintro e Y ⟨rfl, he⟩; have HW := Lib.hid (Ext.trans (show Ext w3 _ from (by first | exact HW.out | exact Below.drew (Ext.refl _))) he); clear he H35b) | (go_at_call 21; refine (H21b.out _ (by first | exact HW.out | exact Below.drew (Ext.refl _))).mono ?_; rintro e Y ⟨rfl, he⟩; have HW := Lib.hid (Ext.trans (show Ext w3 _ from (by first | exact HW.out | exact Below.drew (Ext.refl _))) he); clear he H21b))
    have E0 := Ext.trans HE0.out HW.out
    have kP := HKP.out.ext HW.out
    clear HE0 HKP HW
    cases v with
    | false =>
      obtain rfl : fe = 230 := HFE.out.symm
      have HE := Lib.hid E0
      clear E0
      go_wp2_with fail
      refine (HF.out _ HE.out).mono ?_
      rintro e wz ⟨rfl, he⟩
      have HEZ := Lib.hid (Ext.trans HE.out he)
      clear he
      go_wp2
      go_ret
      exact ⟨rfl, HEZ.out⟩
    | true =>
      obtain rfl : fe = 0 := HFE.out.symm
      obtain rfl : formatS ⟨nm, ss⟩ = fs := HFS.out
      have HE := Lib.hid E0
      clear E0
      have H23 := Lib.hid (parse23 (formatS ⟨nm, ss⟩) _ (HG.out.ext HE.out) (by have := formatS_len HV.out; omega))
      rw [parseS_format HV.out] at H23
      go_wp2_with fail
      refine H23.out.mono ?_
      rintro e w9 ⟨B, d, rfl, hS, hd, he⟩
      replace kP := kP.ext he
      have E0 := Ext.trans HE.out he
      clear he HE H23
      go_upto_region 10 with (fail)
      simp only [HL.out]
      have eN := Ext.new w9 (.cells #[.string nm, .slice B n d] 24)
      have kQ := Blk.new w9 [.string nm, .slice B n d] 24
      obtain ⟨Q, hQ⟩ : ∃ b, w9.heap.size = b := ⟨_, rfl⟩
      rw [hQ] at kQ
      try simp only [hQ]
      replace kP := kP.ext eN
      replace E0 := Ext.trans E0 eN
      replace hS := hS.ext eN
      generalize World.alloc _ _ = wA at kP kQ E0 hS
      clear eN hQ hd
      have qP0 := kP.c0
      have qP1 := kP.c1
      have qQ0 := kQ.c0
      have qQ1 := kQ.c1
      have HS := Lib.hid hS
      have HE := Lib.hid E0
      clear E0 hS
      go_wp2_with fail
      refine (same25 nm A B n c d ss _ (HP.out.ext HE.out) HS.out HL.out HBS.out).mono ?_
      rintro e wB ⟨rfl, he⟩
      clear qP0 qP1 qQ0 qQ1
      replace kP := kP.ext he
      replace kQ := kQ.ext he
      have qP0 := kP.c0
      have qP1 := kP.c1
      have qQ0 := kQ.c0
      have qQ1 := kQ.c1
      have HS2 := Lib.hid (HS.out.ext he)
      have HE2 := Lib.hid (Ext.trans HE.out he)
      clear he
      go_wp2_with fail
      refine (same36 nm A B n c d ss _ (HP.out.ext HE2.out) HS2.out HL.out HBS.out).mono ?_
      rintro e wC ⟨rfl, he⟩
      clear qP0 qP1 qQ0 qQ1
      have HE3 := Lib.hid (Ext.trans HE2.out he)
      clear he
      go_wp2_with fail
      refine (HF.out _ HE3.out).mono ?_
      rintro e wz ⟨rfl, he⟩
      have HEZ := Lib.hid (Ext.trans HE3.out he)
      clear he
      go_wp2
      go_ret
      exact ⟨rfl, HEZ.out⟩
  · rw [hs]
    have HE := Lib.hid E0
    go_wp2_with fail
    refine (HF.out w1 HE.out).mono ?_
    rintro e wz ⟨rfl, he⟩
    have HEZ := Lib.hid (Ext.trans HE.out he)
    clear he
    go_wp2
    go_ret
    exact ⟨rfl, HEZ.out⟩
end Go.Proofs.YtkdbajpdcadliaaGreatDoor.Pg
