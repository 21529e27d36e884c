/- Walks: program.Parse: the program of a text. -/
import Derived.Test.YtkdbajpdcadliaaGreatDoorYa
import Derived.Test.YtkdbajpdcadliaaGreatDoorPb
import Derived.Test.YtkdbajpdcadliaaGreatDoorWu
import Derived.Test.YtkdbajpdcadliaaGreatDoorWr
import Derived.Test.YtkdbajpdcadliaaGreatDoorWt
import Derived.Test.YtkdbajpdcadliaaGreatDoorWz
import Derived.Deep.RegionLaw
set_option linter.unusedVariables false
namespace Go.Proofs.YtkdbajpdcadliaaGreatDoor.Pg
open Go.RowKit

structure In1 (w wr : World) (bp : Nat) (p : Prog) (M k : Nat) : Prop where
  mem : ∃ sv l, Blk wr bp 24 [.string p.name, sv] ∧ Mem wr w.heap.size sv l ∧ l.map (·.1) = p.steps
  keep : Keep bp w wr
  bd : BP p M k
theorem set_last {xs : List ByteArray} (h : 0 < xs.length) (y : ByteArray) : xs.set (xs.length - 1) y = xs.dropLast ++ [y] := by
  obtain ⟨l, s, rfl⟩ : ∃ l s, xs = l ++ [s] := ⟨xs.dropLast, xs.getLast (List.length_pos_iff.1 h), (List.dropLast_concat_getLast _).symm⟩
  simp
theorem fixS_yes {s : Step} (h2 : s.op = 2) (hl : 1 < s.texts.length) : fixS s = ⟨s.op, s.a, s.b, s.texts.set (s.texts.length - 1) (mkB (Lib.trimPrefix (s.texts[s.texts.length - 1]).data.toList [61, 32]))⟩ := by
  have hg : s.texts.getLast? = some (s.texts[s.texts.length - 1]) := by rw [List.getLast?_eq_getElem?, List.getElem?_eq_getElem]
  unfold fixS
  rw [hg]
  simp only []
  rw [if_pos ⟨h2, hl⟩, set_last (by omega)]
theorem fixS_no {s : Step} (h : ¬ (s.op = 2 ∧ 1 < s.texts.length)) : fixS s = s := by
  unfold fixS
  split
  · rfl
  · rw [if_neg h]
def emptyP : Prog := ⟨⟨#[]⟩, []⟩

set_option maxRecDepth 100000 in
set_option maxHeartbeats 4000000 in
theorem parse23 (s : ByteArray) (w : World) (hg : Gl w) (hs : (s.size : Int) ≤ 100000) :
    Calls Tryz.prog 23 #[.string s] w fun e w' => ∃ A c, e = .returned (.tuple #[.agg #[.string (parseS s).1.name, .slice A (parseS s).1.steps.length c], .int .i64 (parseS s).2]) ∧ StepsAt w' A (parseS s).1.steps ∧ (parseS s).1.steps.length ≤ c ∧ Ext w w' := by
  have HG := Lib.hid hg
  clear hg
  obtain ⟨R, hR⟩ : ∃ R, w.heap.size = R := ⟨_, rfl⟩
  have E0 := Ext.al (Ext.new w (.cells #[.string ⟨#[]⟩, .slice none 0 0] 24)) (.cells #[.string ⟨#[]⟩, .slice none 0 0] 24)
  have kR : Blk _ w.heap.size 24 [.string ⟨#[]⟩, .slice none 0 0] := (Blk.new w [.string ⟨#[]⟩, .slice none 0 0] 24).ext (Ext.new _ (.cells #[.string ⟨#[]⟩, .slice none 0 0] 24))
  have kP := Blk.new (w.alloc (.cells #[.string ⟨#[]⟩, .slice none 0 0] 24)) [.string ⟨#[]⟩, .slice none 0 0] 24
  rw [show (w.alloc (.cells #[.string ⟨#[]⟩, .slice none 0 0] 24)).heap.size = w.heap.size + 1 by simp] at kP
  go_enter Tryz.func23, Tryz.ntmps23
  go_upto_region 2 with (fail)
  rw [hR] at kR kP
  try simp only [hR]
  generalize World.alloc (World.alloc _ _) _ = W0 at E0 kR kP
  have hW0 : R + 1 < W0.heap.size := kP.lt
  go_wp2_with fail
  refine (lines59 s _).mono ?_
  rintro e w1 ⟨rfl, rfl⟩
  go_wp2_with fail
  refine (collect58 _ s _ (Boxed.new _ _ _) (by omega)).mono ?_
  rintro e W ⟨v, rfl, ho, hb⟩
  have EW : Ext W0 W := Below.trans (Ext.new W0 (.cells #[.string s] 9)) hb
  obtain ⟨A, cA, rfl, hcA, hstr, hbase⟩ := ho.open_
  simp only [World.size_alloc] at hbase
  replace kR := kR.ext EW
  replace kP := kP.ext EW
  replace E0 := Ext.trans E0 EW
  have hN : ((linesS s).length : Int) ≤ 100000 := by
    have h1 := (linesL_len s.data.toList).1
    have h2 : s.data.toList.length = s.size := Array.length_toList
    unfold linesS
    rw [List.length_map]
    omega
  have hRW : R + 1 < W.heap.size := by have := EW.size; omega
  have HS := Lib.hid hstr
  have HB := Lib.hid hbase
  clear ho hb hstr hbase
  go_wp2_with fail
  go_loopw [17] (fun i wr => ∃ k : Nat, k ≤ (linesS s).length ∧ i = .int .i64 k ∧ Hid (In1 W wr (R + 1) (linesP emptyP 0 ((linesL s.data.toList).take k)) s.size k)) (fun i _ => (linesS s).length - (intOf i).toNat)
  case atStart =>
    refine ⟨0, Nat.zero_le _, rfl, Lib.hid ⟨⟨_, [], ?_, Mem.nil _ _, rfl⟩, Keep.refl _ _, ⟨Nat.zero_le _, Nat.le_refl _, fun s hs => by cases hs⟩⟩⟩
    exact kP
  case round =>
    have HE0 := Lib.hid E0
    have HKR := Lib.hid kR
    clear E0 kR
    obtain ⟨k, hk, rfl, hI⟩ := hrel
    by_cases hlt : k < (linesS s).length
    · obtain ⟨p, hp⟩ : ∃ p, linesP emptyP 0 ((linesL s.data.toList).take k) = p := ⟨_, rfl⟩
      rw [hp] at hI
      have hkl : k < (linesL s.data.toList).length := by unfold linesS at hlt; simpa using hlt
      have hp1 : linesP emptyP 0 ((linesL s.data.toList).take (k + 1)) = lineP p k (linesL s.data.toList)[k] := by rw [linesP_take _ _ k hkl, hp]
      obtain ⟨li, hli⟩ : ∃ li, (linesL s.data.toList)[k] = li := ⟨_, rfl⟩
      have hlin : (linesS s)[k] = mkB li := by
        show ((linesL s.data.toList).map mkB)[k]'(by simpa using hkl) = mkB li
        rw [List.getElem_map, hli]
      have hlil : li.length ≤ s.size := by
        have h1 := (linesL_len s.data.toList).2 li (by rw [← hli]; exact List.getElem_mem _)
        have h2 : s.data.toList.length = s.size := Array.length_toList
        omega
      rw [hli] at hp1
      obtain ⟨sv, l, kP, hM, hl⟩ := hI.out.mem
      have hK := hI.out.keep
      obtain ⟨ad, hA, hc⟩ := (hK.strs HS.out (fun ad e => by have := HB.out ad e; omega)) k hlt
      subst hA
      rw [hlin] at hc
      obtain ⟨A2, c2, rfl, hc2, hA2⟩ := hM.form
      have hll : l.length ≤ k := by have := hI.out.bd.len; rw [← hl, List.length_map] at this; exact this
      have HP1 := Lib.hid hp1
      have HM := Lib.hid hM
      have HK := Lib.hid hK
      have HBD := Lib.hid hI.out.bd
      have HL := Lib.hid hl
      have HA2 := Lib.hid hA2
      have HLIL := Lib.hid hlil
      clear hI hp1 hM hK hl hA2 hlil hlin hli hp
      have y0 := kP.c0
      have y1 := kP.c1
      have z0 := kP.fz 0
      have z1 := kP.fz 1
      have hsz : ((mkB li).size : Int) ≤ 100000 := by rw [mkB_size]; have := HLIL.out; omega
      go_wp2_with fail
      refine (Tryz.strings_TrimSuffix (mkB li) ⟨#[10]⟩ _ (by omega)).mono ?_
      rintro e w1 ⟨rfl, rfl⟩
      have hts : (⟨(Lib.trimSuffix (mkB li).data.toList (ByteArray.mk #[10]).data.toList).toArray⟩ : ByteArray) = mkB (bareL li) := by rw [mkB_toList]; rfl
      rw [hts]
      clear hts
      go_wp2_with fail
      refine (Tryz.strings_CutPrefix (mkB (bareL li)) ⟨#[32, 32]⟩ _).mono ?_
      rintro e w1 ⟨rfl, rfl⟩
      rw [mkB_toList]
      have hcp : (⟨(Lib.trimPrefix (bareL li) (ByteArray.mk #[32, 32]).data.toList).toArray⟩ : ByteArray) = mkB (Lib.trimPrefix (bareL li) [32, 32]) := rfl
      have hpp : Lib.hasPrefix (bareL li) (ByteArray.mk #[32, 32]).data.toList = Lib.hasPrefix (bareL li) [32, 32] := rfl
      rw [hcp, hpp]
      clear hcp hpp
      by_cases hk0 : k = 0
      · subst hk0
        go_wp2_with fail
        refine (Tryz.strings_CutPrefix (mkB (bareL li)) ⟨#[80, 82, 79, 71, 82, 65, 77, 32]⟩ _).mono ?_
        rintro e w1 ⟨rfl, rfl⟩
        rw [mkB_toList]
        have hcp : (⟨(Lib.trimPrefix (bareL li) (ByteArray.mk #[80, 82, 79, 71, 82, 65, 77, 32]).data.toList).toArray⟩ : ByteArray) = mkB (Lib.trimPrefix (bareL li) [80, 82, 79, 71, 82, 65, 77, 32]) := rfl
        rw [hcp]
        clear hcp
        go_wp2_with fail
        go_roundw
        case rel =>
          refine ⟨1, by omega, by go_num, Lib.hid ?_⟩
          rw [HP1.out]
          have e1 : lineP p 0 li = ⟨mkB (Lib.trimPrefix (bareL li) [80, 82, 79, 71, 82, 65, 77, 32]), p.steps⟩ := by unfold lineP; rw [if_pos rfl]
          have hbd := lineP_bd (i := 0) HBD.out HLIL.out
          rw [e1] at hbd ⊢
          exact ⟨⟨_, l, kP.set 0 _, HM.out.box kP (by decide) (by decide) 0 _, HL.out⟩, HK.out.set (.inr rfl) 0 _, hbd⟩
        case measure => simp [intOf]; omega
      · have hk1 : ¬ (k : Int) = 0 := by omega
        have hk2 := bq_no hk1
        cases hpre : Lib.hasPrefix (bareL li) [32, 32] with
        | true =>
          by_cases hpos : 0 < l.length
          · obtain ⟨g, hg⟩ := HA2.out hpos
            subst hg
            have hposI : (0 : Int) < (l.length : Int) := by omega
            go_upto_region 12 with (fail)
            have hi : l.length - 1 < l.length := by omega
            obtain ⟨q0, q1, q2, q3⟩ := HM.out.cells (l.length - 1) hi
            have HT := Lib.hid (HM.out.txt (l.length - 1) hi)
            have HF := Lib.hid (fun b => own_ty2 HM.out.row (HM.out.txt (l.length - 1) hi) (by decide) b)
            have HZ := Lib.hid (HM.out.frozen ((l.length - 1) * 4 + 3))
            have HQ := Lib.hid q3
            have hxl : (l[l.length - 1].1.texts.length : Int) ≤ 200000 := by
              have h1 := (HBD.out.each l[l.length - 1].1 (by rw [← HL.out]; exact List.mem_map_of_mem (List.getElem_mem hi))).1
              omega
            have HX := Lib.hid hxl
            clear hxl
            clear q0 q1 q2
            obtain ⟨v0, hv0⟩ : ∃ v0, l[l.length - 1].2 = v0 := ⟨_, rfl⟩
            rw [hv0] at q3
            have HV0 := Lib.hid hv0
            clear hv0
            obtain ⟨A3, c3, e3, -⟩ := HT.out.open_
            rw [HV0.out] at e3
            subst e3
            go_wp2_with (at_builtin; go_loud (refine app_strG W.heap.size rfl (.tmp 64) (.tmp 66) rfl (.slice A3 l[l.length - 1].1.texts.length c3) l[l.length - 1].1.texts (mkB (Lib.trimPrefix (bareL li) [32, 32])) rfl rfl (by rw [← HV0.out]; exact HT.out) HK.out.size (by have := HX.out; omega) ?_; intro v1 W1 hown hgr hvb; have hne : some g ≠ (Value.slice A3 l[l.length - 1].1.texts.length c3).ownBlock := (fun e => HF.out g (by rw [HV0.out]; exact e.symm) rfl); obtain ⟨A4, c4, rfl, -⟩ := hown.open_; have r3 := hgr.cell (a := ⟨g, (l.length - 1) * 4 + 3, none⟩) q3 hne; have rz : W1.frozen? ⟨g, (l.length - 1) * 4 + 3, none⟩ = false := (World.frozen?_of_block (hgr.block g HM.out.lt.2 hne)).trans HZ.out; have HOW := Lib.hid hown; have HGR := Lib.hid hgr; have HVB := Lib.hid hvb; clear hown hgr hvb hne))
            have HRW : ∀ b, (Value.slice A3 l[l.length - 1].1.texts.length c3).ownBlock = some b → W.heap.size ≤ b := fun b hb => (World.ownsRow.lt HT.out b (by rw [HV0.out]; exact hb)).1
            go_roundw
            case rel =>
              refine ⟨k + 1, by omega, by go_num, Lib.hid ?_⟩
              rw [HP1.out]
              have hps : 0 < p.steps.length := by rw [← HL.out, List.length_map]; exact hpos
              have e1 : lineP p k li = ⟨p.name, addText p.steps (mkB (Lib.trimPrefix (bareL li) [32, 32]))⟩ := by unfold lineP; rw [if_neg hk0, if_pos ⟨hpre, hps⟩]
              have hbd := lineP_bd (i := k) HBD.out HLIL.out
              rw [e1] at hbd ⊢
              have hM2 := HM.out.put (l.length - 1) hi _ _ (w1 := W1) (by rw [HV0.out]; exact HGR.out) HOW.out (by rw [HV0.out]; exact HVB.out)
              have hgl := HM.out.lt
              have hkP : Blk W1 (R + 1) 24 _ := (HGR.out.block (R + 1) kP.lt (fun e => by have := HRW _ e.symm; omega)).trans kP
              simp only [List.length_append, List.length_cons, List.length_nil, Nat.zero_add] at hM2
              refine ⟨⟨_, _, hkP.other (by omega) _ _, hM2, ?_⟩, (HK.out.row HGR.out (fun b hb => .inl (HRW b hb))).set (.inl hgl.1) _ _, hbd⟩
              rw [addText_set hps, List.map_set]
              simp only [← HL.out, List.getElem_map, List.length_map]
            case measure => simp [intOf]; omega
          · have hposF : ¬ (0 : Int) < (l.length : Int) := by omega
            go_upto_region 7 with (fail)
            have hgl : ∀ W', Ext w1 W' → Calls Tryz.prog 62 #[.string (mkB (bareL li))] W' fun e w' => ∃ T c, e = .returned (.agg #[.int .i64 (readS (bareL li)).op, .int .i64 (readS (bareL li)).a, .int .i64 (readS (bareL li)).b, .slice T (readS (bareL li)).texts.length c]) ∧ (readS (bareL li)).texts.length ≤ c ∧ Own w' W'.heap.size (.slice T (readS (bareL li)).texts.length c) (readS (bareL li)).texts ∧ Ext W' w' := fun W' h => by
              have := readStep62 (mkB (bareL li)) W' (HG.out.ext (Ext.trans (HK.out.below HE0.out (by omega)) h)) (by rw [mkB_size]; have := HLIL.out; have := bare_len li; omega)
              rwa [mkB_toList] at this
            have HR := Lib.hid hgl
            clear hgl
            go_region_law (first | (go_simp; go_at_call 62; refine (HR.out _ (by first | exact Ext.refl _ | exact Below.drew (Ext.refl _))).mono ?_; rintro e Y ⟨T, cT, rfl, hcT, hoT, he⟩; have hw : Ext w1 Y := Ext.trans (by first | exact Ext.refl _ | exact Below.drew (Ext.refl _)) he; have m1 := (kP.ext hw).c1; have mz := (kP.ext hw).fz 1; have HOT := Lib.hid hoT; have m5 := ((kP.ext hw).ext (Ext.new Y (.cells #[.int .i64 (readS (bareL li)).op, .int .i64 (readS (bareL li)).a, .int .i64 (readS (bareL li)).b, .slice T (readS (bareL li)).texts.length cT] 77))).c1; have HW := Lib.hid hw; clear he hw hoT) | (refine step_app_step W.heap.size rfl (.tmp 30) (.tmp 33) rfl rfl (.slice A2 l.length c2) l (readS (bareL li), .slice T (readS (bareL li)).texts.length cT) rfl ⟨Y.heap.size, 0, none⟩ 1 rfl rfl (box_step Y (readS (bareL li), .slice T (readS (bareL li)).texts.length cT)) (HM.out.ext (Ext.trans HW.out (by first | exact Ext.new _ _ | exact Below.drew (Ext.new _ _)))).row (Nat.le_trans HK.out.size (Below.size (Ext.trans HW.out (by first | exact Ext.new _ _ | exact Below.drew (Ext.new _ _))))) (by omega) ?_; intro v1 W1 hown hgr hvb; have hne : some (R + 1) ≠ (Value.slice A2 l.length c2).ownBlock := (fun e => own_ty HM.out.row kP (by decide) e.symm); have hw2 := grown_pre hgr (Ext.trans HW.out (by first | exact Ext.new _ _ | exact Below.drew (Ext.new _ _))); have kP3 : Blk W1 (R + 1) 24 _ := (hgr.block (R + 1) (kP.ext hw2).lt hne).trans (kP.ext hw2); obtain ⟨g1, cp1, rfl⟩ := ownsRow_succ hown; have m3 := kP3.c1; have mz3 := kP3.fz 1; have KP3 := Lib.hid kP3; have HOW := Lib.hid hown; have HGR := Lib.hid hgr; have HVB := Lib.hid hvb; have HW2 := Lib.hid hw2; have hx9 := grown_pre (w := Y) hgr (by first | exact Ext.new _ _ | exact Below.drew (Ext.new _ _)); have HX9 := Lib.hid hx9; clear hx9; clear hown hgr hvb hne kP3 hw2))
            all_goals
              have hown := (HOT.out.base (b := W.heap.size) (HK.out.size)).ext HX9.out
              have hfar : ∀ i (hi : i < l.length) x, l[i].2.ownBlock = some x → (Value.slice T (readS (bareL li)).texts.length cT).ownBlock ≠ some x := by
                intro i hi x h e
                have h1 : w1.heap.size ≤ x := (World.ownsRow.lt HOT.out x e).1
                have h2 := (World.ownsRow.lt (HM.out.txt i hi) x h).2
                omega
              have hM2 := (HM.out.ext HW2.out).more (readS (bareL li)) (.slice T (readS (bareL li)).texts.length cT) hown hfar HOW.out HGR.out
              have HM2 := Lib.hid hM2
              clear hown hfar hM2
              go_wp2
              go_roundw
              case rel =>
                refine ⟨k + 1, by omega, by go_num, Lib.hid ?_⟩
                rw [HP1.out]
                have e1 : lineP p k li = ⟨p.name, p.steps ++ [readS (bareL li)]⟩ := by
                  unfold lineP
                  rw [if_neg hk0, if_neg]
                  rintro ⟨h1, h2⟩
                  rw [← HL.out, List.length_map] at h2
                  omega
                have hbd := lineP_bd (i := k) HBD.out HLIL.out
                rw [e1] at hbd ⊢
                refine ⟨⟨_, l ++ [(readS (bareL li), .slice T (readS (bareL li)).texts.length cT)], KP3.out.set 1 _, HM2.out.box KP3.out (by decide) (by decide) 1 _, ?_⟩, ((HK.out.ext HW2.out).row HGR.out (fun b hb => .inl (World.ownsRow.lt HM.out.row b hb).1)).set (.inr rfl) 1 _, hbd⟩
                rw [List.map_append, HL.out]
                rfl
              case measure => simp [intOf]; omega
        | false =>
            go_upto_region 7 with (fail)
            have hgl : ∀ W', Ext w1 W' → Calls Tryz.prog 62 #[.string (mkB (bareL li))] W' fun e w' => ∃ T c, e = .returned (.agg #[.int .i64 (readS (bareL li)).op, .int .i64 (readS (bareL li)).a, .int .i64 (readS (bareL li)).b, .slice T (readS (bareL li)).texts.length c]) ∧ (readS (bareL li)).texts.length ≤ c ∧ Own w' W'.heap.size (.slice T (readS (bareL li)).texts.length c) (readS (bareL li)).texts ∧ Ext W' w' := fun W' h => by
              have := readStep62 (mkB (bareL li)) W' (HG.out.ext (Ext.trans (HK.out.below HE0.out (by omega)) h)) (by rw [mkB_size]; have := HLIL.out; have := bare_len li; omega)
              rwa [mkB_toList] at this
            have HR := Lib.hid hgl
            clear hgl
            go_region_law (first | (go_simp; go_at_call 62; refine (HR.out _ (by first | exact Ext.refl _ | exact Below.drew (Ext.refl _))).mono ?_; rintro e Y ⟨T, cT, rfl, hcT, hoT, he⟩; have hw : Ext w1 Y := Ext.trans (by first | exact Ext.refl _ | exact Below.drew (Ext.refl _)) he; have m1 := (kP.ext hw).c1; have mz := (kP.ext hw).fz 1; have HOT := Lib.hid hoT; have m5 := ((kP.ext hw).ext (Ext.new Y (.cells #[.int .i64 (readS (bareL li)).op, .int .i64 (readS (bareL li)).a, .int .i64 (readS (bareL li)).b, .slice T (readS (bareL li)).texts.length cT] 77))).c1; have HW := Lib.hid hw; clear he hw hoT) | (refine step_app_step W.heap.size rfl (.tmp 30) (.tmp 33) rfl rfl (.slice A2 l.length c2) l (readS (bareL li), .slice T (readS (bareL li)).texts.length cT) rfl ⟨Y.heap.size, 0, none⟩ 1 rfl rfl (box_step Y (readS (bareL li), .slice T (readS (bareL li)).texts.length cT)) (HM.out.ext (Ext.trans HW.out (by first | exact Ext.new _ _ | exact Below.drew (Ext.new _ _)))).row (Nat.le_trans HK.out.size (Below.size (Ext.trans HW.out (by first | exact Ext.new _ _ | exact Below.drew (Ext.new _ _))))) (by omega) ?_; intro v1 W1 hown hgr hvb; have hne : some (R + 1) ≠ (Value.slice A2 l.length c2).ownBlock := (fun e => own_ty HM.out.row kP (by decide) e.symm); have hw2 := grown_pre hgr (Ext.trans HW.out (by first | exact Ext.new _ _ | exact Below.drew (Ext.new _ _))); have kP3 : Blk W1 (R + 1) 24 _ := (hgr.block (R + 1) (kP.ext hw2).lt hne).trans (kP.ext hw2); obtain ⟨g1, cp1, rfl⟩ := ownsRow_succ hown; have m3 := kP3.c1; have mz3 := kP3.fz 1; have KP3 := Lib.hid kP3; have HOW := Lib.hid hown; have HGR := Lib.hid hgr; have HVB := Lib.hid hvb; have HW2 := Lib.hid hw2; have hx9 := grown_pre (w := Y) hgr (by first | exact Ext.new _ _ | exact Below.drew (Ext.new _ _)); have HX9 := Lib.hid hx9; clear hx9; clear hown hgr hvb hne kP3 hw2))
            all_goals
              have hown := (HOT.out.base (b := W.heap.size) (HK.out.size)).ext HX9.out
              have hfar : ∀ i (hi : i < l.length) x, l[i].2.ownBlock = some x → (Value.slice T (readS (bareL li)).texts.length cT).ownBlock ≠ some x := by
                intro i hi x h e
                have h1 : w1.heap.size ≤ x := (World.ownsRow.lt HOT.out x e).1
                have h2 := (World.ownsRow.lt (HM.out.txt i hi) x h).2
                omega
              have hM2 := (HM.out.ext HW2.out).more (readS (bareL li)) (.slice T (readS (bareL li)).texts.length cT) hown hfar HOW.out HGR.out
              have HM2 := Lib.hid hM2
              clear hown hfar hM2
              go_wp2
              go_roundw
              case rel =>
                refine ⟨k + 1, by omega, by go_num, Lib.hid ?_⟩
                rw [HP1.out]
                have e1 : lineP p k li = ⟨p.name, p.steps ++ [readS (bareL li)]⟩ := by
                  unfold lineP
                  rw [if_neg hk0, if_neg]
                  rintro ⟨h1, h2⟩
                  rw [hpre] at h1
                  cases h1
                have hbd := lineP_bd (i := k) HBD.out HLIL.out
                rw [e1] at hbd ⊢
                refine ⟨⟨_, l ++ [(readS (bareL li), .slice T (readS (bareL li)).texts.length cT)], KP3.out.set 1 _, HM2.out.box KP3.out (by decide) (by decide) 1 _, ?_⟩, ((HK.out.ext HW2.out).row HGR.out (fun b hb => .inl (World.ownsRow.lt HM.out.row b hb).1)).set (.inr rfl) 1 _, hbd⟩
                rw [List.map_append, HL.out]
                rfl
              case measure => simp [intOf]; omega
    · have hkN : k = (linesS s).length := by omega
      obtain ⟨P, hP⟩ : ∃ P, linesP emptyP 0 (linesL s.data.toList) = P := ⟨_, rfl⟩
      have hfull : (linesL s.data.toList).take k = linesL s.data.toList := by
        apply List.take_of_length_le
        rw [hkN]; unfold linesS; rw [List.length_map]
        exact Nat.le_refl _
      rw [hfull, hP] at hI
      subst hkN
      obtain ⟨sv, l, kP, hM, hl⟩ := hI.out.mem
      have hK := hI.out.keep
      have hBD := hI.out.bd
      have hkR : Blk wr R 24 [.string ⟨#[]⟩, .slice none 0 0] := hK.blk HKR.out (by omega)
      obtain ⟨A2, c2, rfl, hc2, hA2⟩ := hM.form
      obtain ⟨n, hn⟩ : ∃ n, l.length = n := ⟨_, rfl⟩
      have hPn : P.steps.length = n := by rw [← hl, List.length_map, hn]
      rw [hn] at kP hM hc2 hA2
      have hnk : (n : Int) ≤ 100000 := by have := hBD.len; omega
      have HI2 := Lib.hid (show ∃ l' : List SV, Blk wr (R + 1) 24 [.string P.name, .slice A2 n c2] ∧ Blk wr R 24 [.string ⟨#[]⟩, .slice none 0 0] ∧ Mem wr W.heap.size (.slice A2 n c2) l' ∧ l'.map (·.1) = fixUp P.steps 0 ∧ Keep (R + 1) W wr from ⟨l, kP, hkR, hM, by rw [fixUp_zero]; exact hl, hK⟩)
      have HBD := Lib.hid hBD
      have HP := Lib.hid hP
      have HPN := Lib.hid hPn
      have HA2 := Lib.hid hA2
      have HC2 := Lib.hid hc2
      have y1 := kP.c1
      clear hI hM hl hK hBD hkR hA2 hc2 hPn hP hfull hn
      clear kP
      go_wp2_with fail
      go_loopw [74] (fun i wr => ∃ j : Nat, j ≤ n ∧ i = .int .i64 j ∧ Hid (∃ l' : List SV, Blk wr (R + 1) 24 [.string P.name, .slice A2 n c2] ∧ Blk wr R 24 [.string ⟨#[]⟩, .slice none 0 0] ∧ Mem wr W.heap.size (.slice A2 n c2) l' ∧ l'.map (·.1) = fixUp P.steps j ∧ Keep (R + 1) W wr)) (fun i _ => n - (intOf i).toNat)
      case atStart => exact ⟨0, Nat.zero_le _, rfl, HI2⟩
      case round =>
        clear HI2 y1
        obtain ⟨j, hj, rfl, hI⟩ := hrel
        obtain ⟨l, kP, kR, hM, hl, hK⟩ := hI.out
        have y0 := kP.c0
        have y1 := kP.c1
        have hln : l.length = n := by have := congrArg List.length hl; rw [List.length_map, fixUp_len _ _ (by have := HPN.out; omega), HPN.out] at this; exact this
        by_cases hlt : j < n
        · obtain ⟨g, hg⟩ := HA2.out (by omega)
          subst hg
          have hjl : j < l.length := by omega
          have hs : l[j].1 = P.steps[j]'(by have := HPN.out; omega) := by
            have h1 := fixUp_at P.steps j (by have := HPN.out; omega)
            rw [← h1]
            simp only [← hl, List.getElem_map]
          obtain ⟨q0, q1, q2, q3⟩ := hM.cells j hjl
          have hbt := (HBD.out.each _ (List.getElem_mem (by have := HPN.out; omega : j < P.steps.length)))
          obtain ⟨st, hst⟩ : ∃ st, P.steps[j]'(by have := HPN.out; omega) = st := ⟨_, rfl⟩
          rw [hst] at hs hbt
          rw [hs] at q0 q1 q2
          have HT := Lib.hid (hM.txt j hjl)
          obtain ⟨A3, c3, e3, hc3, -⟩ := HT.out.open_
          rw [hs] at e3 hc3
          have q3' := q3
          rw [e3] at q3'
          have hN2 : (linesL s.data.toList).length ≤ s.size := by have h1 := (linesL_len s.data.toList).1; have h2 : s.data.toList.length = s.size := Array.length_toList; omega
          have htl : (st.texts.length : Int) ≤ 200000 := by have := hbt.1; omega
          have HKEEP := Lib.hid (fun (h : fixS st = st) => (show l.map (·.1) = fixUp P.steps (j + 1) from by
            rw [fixUp_succ _ _ (by have := HPN.out; omega), hst, h, ← hl]
            apply List.ext_getElem (by simp)
            intro i h1 h2
            by_cases hij : i = j
            · subst hij; rw [List.getElem_set_self, List.getElem_map, hs]
            · rw [List.getElem_set_ne (fun e => hij e.symm)]))
          have HM := Lib.hid hM
          have HK := Lib.hid hK
          have HL := Lib.hid hl
          have HS := Lib.hid hs
          have HE3 := Lib.hid e3
          have HBT := Lib.hid hbt
          have HST := Lib.hid hst
          have HLN := Lib.hid hln
          clear hI hM hl hK hs q3 e3 hbt hst
          by_cases ho : st.op = 2
          · by_cases h1 : 1 < st.texts.length
            · have h1I : (1 : Int) < (st.texts.length : Int) := by omega
              obtain ⟨b3, c4, e4, -⟩ := HT.out.form (by rw [HS.out]; intro e; rw [e] at h1; simp at h1)
              rw [HE3.out] at e4
              simp only [Value.slice.injEq] at e4
              obtain ⟨e5, -, -⟩ := e4
              subst e5
              have HO : Own wr W.heap.size (.slice (some ⟨b3, 0, none⟩) st.texts.length c3) st.texts := by have := HT.out; rw [HE3.out, HS.out] at this; exact this
              have hb3 : W.heap.size ≤ b3 := (World.ownsRow.lt HO b3 rfl).1
              have z1 := HO.cellAt (st.texts.length - 1) (by omega)
              have z2 := HO.fzAt (st.texts.length - 1)
              have HFX := Lib.hid (fixS_yes ho h1)
              obtain ⟨tl, htl2⟩ : ∃ tl, st.texts[st.texts.length - 1]'(by omega) = tl := ⟨_, rfl⟩
              rw [htl2] at z1
              have HTL := Lib.hid htl2
              have HHO := Lib.hid HO
              clear htl2 HO
              go_upto_region 19 with (fail)
              go_quiet (fail)
              go_wp2_with fail
              refine (Tryz.strings_CutPrefix tl ⟨#[61, 32]⟩ _).mono ?_
              rintro e w1 ⟨rfl, rfl⟩
              have hcp : (⟨(Lib.trimPrefix tl.data.toList (ByteArray.mk #[61, 32]).data.toList).toArray⟩ : ByteArray) = mkB (Lib.trimPrefix tl.data.toList [61, 32]) := rfl
              rw [hcp]
              clear hcp
              have eD : Ext wr (wr.drewN nq) := (Ext.refl _).drewN _
              have hM3 := (HM.out.ext eD).txtset j hjl HE3.out (st.texts.length - 1) (mkB (Lib.trimPrefix tl.data.toList [61, 32]))
              have HM3 := Lib.hid hM3
              clear hM3
              go_wp2_with fail
              go_roundw
              case rel =>
                have kP3 := (kP.drewN nq).other (show R + 1 ≠ b3 by omega) (st.texts.length - 1) (.string (mkB (Lib.trimPrefix tl.data.toList [61, 32])))
                have kR3 := (kR.drewN nq).other (show R ≠ b3 by omega) (st.texts.length - 1) (.string (mkB (Lib.trimPrefix tl.data.toList [61, 32])))
                have hK3 := (HK.out.ext eD).set (.inl hb3) (st.texts.length - 1) (.string (mkB (Lib.trimPrefix tl.data.toList [61, 32])))
                refine ⟨j + 1, by omega, by go_num, Lib.hid ⟨_, kP3, kR3, HM3.out, ?_, hK3⟩⟩
                rw [fixUp_succ _ _ (by have := HPN.out; omega), HST.out, HFX.out, ← HL.out, List.map_set, HS.out, HTL.out]
              case measure => simp [intOf]; omega
            · have h1I : ¬ (1 : Int) < (st.texts.length : Int) := by omega
              have HFX := Lib.hid (HKEEP.out (fixS_no (by omega)))
              go_wp2_with fail
              go_roundw
              case rel => exact ⟨j + 1, by omega, by go_num, Lib.hid ⟨l, kP, kR, HM.out, HFX.out, HK.out⟩⟩
              case measure => simp [intOf]; omega
          · have hoB := bq_no ho
            have HFX := Lib.hid (HKEEP.out (fixS_no (by omega)))
            go_wp2_with fail
            go_roundw
            case rel => exact ⟨j + 1, by omega, by go_num, Lib.hid ⟨l, kP, kR, HM.out, HFX.out, HK.out⟩⟩
            case measure => simp [intOf]; omega
        · have hjn : j = n := by omega
          subst hjn
          have hfin : l.map (·.1) = P.steps.map fixS := by rw [hl, ← HPN.out, fixUp_all]
          have htent : tentP s = ⟨P.name, P.steps.map fixS⟩ := by
            unfold tentP
            have := HP.out
            unfold emptyP at this
            simp only [this]
          obtain ⟨ss, hss⟩ : ∃ ss, P.steps.map fixS = ss := ⟨_, rfl⟩
          have hN2 : (linesL s.data.toList).length ≤ s.size := by have h1 := (linesL_len s.data.toList).1; have h2 : s.data.toList.length = s.size := Array.length_toList; omega
          have hbds : BdS ss := by
            rw [← hss]
            refine ⟨by rw [List.length_map, HPN.out]; omega, fun t ht => ?_⟩
            obtain ⟨u, hu, rfl⟩ := List.mem_map.1 ht
            obtain ⟨h1, h2⟩ := fixS_bd u s.size _ (HBD.out.each u hu)
            exact ⟨by omega, fun x hx => by have := h2 x hx; omega⟩
          have hlen : ss.length = j := by rw [← hss, List.length_map, HPN.out]
          rw [hss] at hfin htent
          have hst := hM.steps
          rw [hfin] at hst
          have hnm : (P.name.size : Int) ≤ 100000 := by have := HBD.out.name; omega
          have HST := Lib.hid hst
          have HM := Lib.hid hM
          have HFIN := Lib.hid hfin
          have HBS := Lib.hid hbds
          have HLEN := Lib.hid hlen
          have HTENT := Lib.hid htent
          have EW0 : Ext w wr := hK.below HE0.out (by omega)
          have HEW := Lib.hid EW0
          clear hI hM hl hK hst hbds hlen htent EW0 hfin hss
          have r0 := kR.c0
          have r1 := kR.c1
          have rz0 := kR.fz 0
          have rz1 := kR.fz 1
          go_wp2_with fail
          refine (valid35 P.name A2 j c2 ss _ HST.out HLEN.out HBS.out (by omega)).mono ?_
          rintro e w1 ⟨rfl, he⟩
          have kR1 := kR.ext he
          have r0 := kR1.c0
          have r1 := kR1.c1
          have rz0 := kR1.fz 0
          have rz1 := kR1.fz 1
          have kP1 := kP.ext he
          have p0 := kP1.c0
          have p1 := kP1.c1
          have HE1 := Lib.hid he
          clear he
          rcases Bool.eq_false_or_eq_true (validS ⟨P.name, ss⟩) with hv | hv
          · rw [hv]
            have HV := Lib.hid hv
            clear hv
            go_wp2_with fail
            refine (format63 P.name A2 j c2 ss _ (HST.out.ext HE1.out) HLEN.out HV.out (by omega) (HG.out.ext (Ext.trans HEW.out HE1.out))).mono ?_
            rintro e w2 ⟨rfl, he⟩
            have kR2 := kR1.ext he
            have r0 := kR2.c0
            have r1 := kR2.c1
            have rz0 := kR2.fz 0
            have rz1 := kR2.fz 1
            have kP2 := kP1.ext he
            have p0 := kP2.c0
            have p1 := kP2.c1
            have HE2 := Lib.hid (Ext.trans HE1.out he)
            clear he
            by_cases hq : formatS ⟨P.name, ss⟩ = s
            · have hps : parseS s = (⟨P.name, ss⟩, 0) := by unfold parseS; rw [HTENT.out, if_pos ⟨HV.out, hq⟩]
              have HPS := Lib.hid hps
              replace hq := str_eq hq
              clear hps
              go_wp2_with fail
              have k4 := (show Blk _ R 24 [.string P.name, .slice A2 j c2] from (kR2.set 0 (.string P.name)).set 1 (.slice A2 j c2))
              have HE4 := Lib.hid (Ext.set (Ext.set (Ext.trans HEW.out HE2.out) (show w.heap.size ≤ R by omega) 0 (.string P.name)) (show w.heap.size ≤ R by omega) 1 (.slice A2 j c2))
              have hst5 := (((HM.out.ext HE2.out).box kR2 (by decide) (by decide) 0 (.string P.name)).box (kR2.set 0 (.string P.name)) (by decide) (by decide) 1 (.slice A2 j c2)).steps
              rw [HFIN.out] at hst5
              have HST5 := Lib.hid hst5
              clear hst5
              have x0 := k4.c0
              have x1 := k4.c1
              refine bodyPost_ret (v := .tuple #[.agg #[.string P.name, .slice A2 j c2], .int .i64 0]) (by simp [results, Tryz.results23, go_sem, x0, x1]) rfl ?_
              rw [HPS.out]
              exact ⟨A2, c2, by rw [HLEN.out], HST5.out, by rw [HLEN.out]; exact HC2.out, HE4.out⟩
            · have hps : parseS s = (⟨⟨#[]⟩, []⟩, 3) := by unfold parseS; rw [HTENT.out, if_neg (fun h => hq h.2)]
              have HPS := Lib.hid hps
              replace hq := str_ne hq
              clear hps
              go_wp2_with fail
              have k4 := (show Blk _ R 24 [.string ⟨#[]⟩, .slice none 0 0] from (kR2.set 0 (.string ⟨#[]⟩)).set 1 (.slice none 0 0))
              have HE4 := Lib.hid (Ext.set (Ext.set (Ext.trans HEW.out HE2.out) (show w.heap.size ≤ R by omega) 0 (.string ⟨#[]⟩)) (show w.heap.size ≤ R by omega) 1 (.slice none 0 0))
              have x0 := k4.c0
              have x1 := k4.c1
              refine bodyPost_ret (v := .tuple #[.agg #[.string ⟨#[]⟩, .slice none 0 0], .int .i64 3]) (by simp [results, Tryz.results23, go_sem, x0, x1]) rfl ?_
              rw [HPS.out]
              exact ⟨none, 0, rfl, fun i hi => absurd hi (by simp), Nat.le_refl _, HE4.out⟩
          · rw [hv]
            have hps : parseS s = (⟨⟨#[]⟩, []⟩, 3) := by unfold parseS; rw [HTENT.out, if_neg (fun h => by rw [hv] at h; exact absurd h.1 (by simp))]
            have HPS := Lib.hid hps
            have HV := Lib.hid hv
            clear hv hps
            go_wp2_with fail
            have k4 := (show Blk _ R 24 [.string ⟨#[]⟩, .slice none 0 0] from (kR1.set 0 (.string ⟨#[]⟩)).set 1 (.slice none 0 0))
            have HE4 := Lib.hid (Ext.set (Ext.set (Ext.trans HEW.out HE1.out) (show w.heap.size ≤ R by omega) 0 (.string ⟨#[]⟩)) (show w.heap.size ≤ R by omega) 1 (.slice none 0 0))
            have x0 := k4.c0
            have x1 := k4.c1
            refine bodyPost_ret (v := .tuple #[.agg #[.string ⟨#[]⟩, .slice none 0 0], .int .i64 3]) (by simp [results, Tryz.results23, go_sem, x0, x1]) rfl ?_
            rw [HPS.out]
            exact ⟨none, 0, rfl, fun i hi => absurd hi (by simp), Nat.le_refl _, HE4.out⟩
end Go.Proofs.YtkdbajpdcadliaaGreatDoor.Pg
