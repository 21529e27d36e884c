/- Walks: Reached of the reference. -/
import Derived.Test.YtkdbajpdcadliaaGreatDoorXj
set_option linter.unusedVariables false
namespace Go.Proofs.YtkdbajpdcadliaaGreatDoor.Pg
open Go.RowKit

theorem endsOf_len {ss : List Step} (hb : BdS ss) (nm : ByteArray) : ((endsOf ⟨nm, ss⟩).length : Int) ≤ 1000000000 := by
  unfold endsOf
  split
  · have := placesU_len (endM ss) ss.length
    have := hb.len
    show ((placesU (endM ss) ss.length).length : Int) ≤ _
    omega
  · simp

set_option maxRecDepth 100000 in
set_option maxHeartbeats 8000000 in
theorem reached39 (nm : ByteArray) (A : Option Addr) (n c : Nat) (ss : List Step) (w : World) (hx : StepsAt w A ss) (hl : ss.length = n) (hb : BdS ss) (hnm : (nm.size : Int) ≤ 1000000) :
    Calls Tryz.prog 39 #[.agg #[.string nm, .slice A n c]] w fun e w' => ∃ T d l, e = .returned (.tuple #[.slice T l.length d, .int .i64 (if validS ⟨nm, ss⟩ then 0 else 230)]) ∧ Ints w' T l ∧ ReachedIs ⟨nm, ss⟩ l ∧ Ext w w' := by
  have HX := Lib.hid hx
  have HL := Lib.hid hl
  have HB := Lib.hid hb
  have hn : (n : Int) ≤ 1000000000 := by rw [← hl]; exact hb.len
  clear hx hl hb
  rcases Bool.eq_false_or_eq_true (validS ⟨nm, ss⟩) with hv | hv
  · have hvo := validOk hv
    have hn40 : n ≤ 40 := by have := hvo.len; rw [← HL.out]; exact this
    have hn1 : 1 ≤ n := by have := hvo.pos; rw [← HL.out]; exact this
    have HVO := Lib.hid hvo
    have HV := Lib.hid hv
    rw [hv]
    clear hv hvo
    go_enter Tryz.func39, Tryz.ntmps39
    go_wp2_with fail
    refine (valid21 nm A n c ss _ (HX.out.ext (Ext.new _ _)) HL.out HB.out (by omega)).mono ?_
    rintro e w1 ⟨rfl, he⟩
    rw [HV.out]
    have kP := (Blk.new w [.string nm, .slice A n c] 24).ext he
    have E1 := Ext.trans (Ext.new _ _) he
    have q1 := kP.c1
    have KP := Lib.hid kP
    have HE1 := Lib.hid E1
    clear kP E1 he
    obtain ⟨i0, hi, hzz⟩ := Option.map_eq_some_iff.1 infoBool4
    simp only [Prod.mk.injEq] at hzz
    obtain ⟨hz0, hz1, hz2⟩ := hzz
    obtain ⟨n1, hn1'⟩ : ∃ n1 : Nat, n + 1 = n1 := ⟨_, rfl⟩
    have hN1 : (n : Int) + 1 = (n1 : Int) := by omega
    go_upto_region 4 with (at_make; go_loud (refine wpList_make_row w1 rfl (.tmp 16) (.tmp 16) 102 rfl 4 i0 (.bool false) Tryz.underlying102 hi hz0 hz1 rfl .i64 .i64 n1 rfl rfl ?b1 ?b2 ?_; (case b1 => (rw [hz2]; omega)); (case b2 => omega); have kM := Mrk.made w1 n1; have eM := Ext.new w1 (.cells (madeCells #[.bool false] n1) 4); have hWS : (w1.alloc (.cells (madeCells #[.bool false] n1) 4)).heap.size = w1.heap.size + 1 := by simp))
    generalize World.alloc w1 _ = W2 at kM eM hWS
    obtain ⟨S, hS⟩ : ∃ S, w1.heap.size = S := ⟨_, rfl⟩
    rw [hS] at kM hWS
    try simp only [hS]
    have m0 := Mrk.cell kM (show 0 < (List.replicate n1 false).length by simp; omega)
    have z0 := kM.fz 0
    have KM := Lib.hid (kM.mark 0)
    have EM := Lib.hid (Ext.set eM (show w1.heap.size ≤ S by omega) 0 (.bool true))
    have HN1 := Lib.hid hn1'
    clear kM eM hz0 hz1 hz2 hi
    have hnn : 0 < n1 := by omega
    have hnnI : (0 : Int) < (n1 : Int) := by omega
    go_upto_region 5 with (fail)
    generalize World.setCell _ _ _ = W3 at KM EM
    clear m0 z0 hnn hnnI hN1 hn1' q1
    go_wp2_with fail
    go_loopg [5] (n + 3) (fun g v wr => ∃ bs m, v = .bool m ∧ Hid (Inv39 ss bs) ∧ Hid (Mrk wr S bs) ∧ Hid (Ext w1 wr) ∧ Hid (m = false → Shut ss bs n) ∧ Hid (m = true → left bs + 1 ≤ g))
    case atStart =>
      refine ⟨_, true, rfl, Lib.hid (inv39_start ss), Lib.hid ?_, EM, Lib.hid (fun e => by cases e), Lib.hid (fun _ => ?_)⟩
      · have := KM.out
        rwa [← HN1.out, ← HL.out] at this
      · have h1 := left_le ((List.replicate (ss.length + 1) false).set 0 true)
        have := HL.out
        simp at h1
        omega
    case round =>
      obtain ⟨bs, m, rfl, HI0, HM0, HE0, HS0, HG0⟩ := hrel
      obtain ⟨wa, rfl⟩ : ∃ wa, wa = wr := ⟨_, rfl⟩
      cases m with
      | true =>
        go_wp2_with fail
        go_loopw [5, 6] (fun v i wr2 => ∃ (cs : List Bool) (mv : Bool) (k : Nat), k ≤ n ∧ i = .int .i64 k ∧ v = .bool mv ∧ Hid (Inv39 ss cs) ∧ Hid (Mrk wr2 S cs) ∧ Hid (Ext w1 wr2) ∧ Hid (mv = false → Shut ss cs k) ∧ Hid (left cs ≤ left bs) ∧ Hid (mv = true → left cs < left bs)) (fun _ i _ => n - (intOf i).toNat)
        case atStart => exact ⟨bs, false, 0, Nat.zero_le _, rfl, rfl, HI0, HM0, HE0, Lib.hid (fun _ => shut_zero _ _), Lib.hid (Nat.le_refl _), Lib.hid (fun e => by cases e)⟩
        case round =>
          obtain ⟨cs, mv, k, hk, rfl, rfl, HI, HM, HE, HSH, HLE, HLT⟩ := hrel
          obtain ⟨wr2, rfl⟩ : ∃ wr2, wr2 = wr := ⟨_, rfl⟩
          have q1 := (KP.out.ext HE.out).c1
          have hMB := HM.out.lt
          by_cases hlt : k < n
          · have lx : k < ss.length := by have := HL.out; omega
            have hkl : k < cs.length := by have := HI.out.len; omega
            have hkl1 : k + 1 < cs.length := by have := HI.out.len; omega
            have hk1 : (k : Int) < (n1 : Int) := by have := HN1.out; omega
            have hk2 : (k : Int) + 1 < (n1 : Int) := by have := HN1.out; omega
            have hne : S ≠ wr2.heap.size := by omega
            have hne2 : wr2.heap.size ≠ S := by omega
            obtain ⟨ad, T, c', hA, hs0, hs1, hs2, hs3, hcc, hTT⟩ := (HX.out.ext (Ext.trans HE1.out HE.out)) k lx
            subst hA
            clear hTT
            by_cases hkm : mk cs k = true
            · have qk := fun o => Mrk.cell (HM.out.ext (Ext.new wr2 o)) hkl
              rw [hkm] at qk
              have HKM := Lib.hid hkm
              clear hkm
              have hso := HVO.out.each ss[k] (List.getElem_mem lx)
              have hvb := hso.verb
              rcases verb_cases hvb with h | h | h | h | h | h | h | h | h | h | h | h | h
              · rw [h] at hs0
                have HOP := Lib.hid h
                have hln : Leads ss k (k + 1) := ⟨lx, .inl ⟨by omega, rfl⟩⟩
                have HLN := Lib.hid hln
                clear hln
                have HBB := Lib.hid trivial
                clear h hso
                by_cases m1 : mk cs (k + 1) = true
                · have qn := fun o => Mrk.cell (HM.out.ext (Ext.new wr2 o)) hkl1
                  rw [m1] at qn
                  have M1 := Lib.hid m1
                  clear m1
                  go_wp2_with fail
                  go_roundw
                  case rel => exact ⟨cs, mv, k + 1, by omega, by go_num, rfl, HI, Lib.hid (HM.out.ext (Ext.new _ _)), Lib.hid (Ext.trans HE.out (Ext.new _ _)), Lib.hid (fun e => shut_succ (HSH.out e) (fun _ j hl => by have hbb := HBB.out; obtain ⟨_, hl⟩ := hl; rw [HOP.out] at hl; rcases hl with ⟨q, e⟩ | ⟨q, e⟩; (rw [e]; exact M1.out); (exfalso; omega))), HLE, HLT⟩
                  case measure => simp [intOf]; omega
                · replace m1 : mk cs (k + 1) = false := by simpa using m1
                  have qn := fun o => Mrk.cell (HM.out.ext (Ext.new wr2 o)) hkl1
                  have fn := fun o => (HM.out.ext (Ext.new wr2 o)).fz (k + 1)
                  rw [m1] at qn
                  have M1 := Lib.hid m1
                  clear m1
                  go_wp2_with fail
                  go_roundw
                  case rel => exact ⟨cs.set (k + 1) true, true, k + 1, by omega, by go_num, rfl, Lib.hid (inv39_mark HI.out HKM.out HLN.out (by have := HL.out; have := HN1.out; omega)), Lib.hid ((Mrk.mark (HM.out) (k + 1)).ext (Ext.new _ _)), Lib.hid (Ext.al (Ext.set (HE.out) (show w1.heap.size ≤ S by omega) (k + 1) (.bool true)) _), Lib.hid (fun e => by cases e), Lib.hid (by have := left_set (bs := cs) (i := (k + 1)) (by omega) M1.out; have := HLE.out;  omega), Lib.hid (fun _ => by have := left_set (bs := cs) (i := (k + 1)) (by omega) M1.out; have := HLE.out;  omega)⟩
                  case measure => simp [intOf]; omega
              · rw [h] at hs0
                have HOP := Lib.hid h
                have hln : Leads ss k (k + 1) := ⟨lx, .inl ⟨by omega, rfl⟩⟩
                have HLN := Lib.hid hln
                clear hln
                have HBB := Lib.hid trivial
                clear h hso
                by_cases m1 : mk cs (k + 1) = true
                · have qn := fun o => Mrk.cell (HM.out.ext (Ext.new wr2 o)) hkl1
                  rw [m1] at qn
                  have M1 := Lib.hid m1
                  clear m1
                  go_wp2_with fail
                  go_roundw
                  case rel => exact ⟨cs, mv, k + 1, by omega, by go_num, rfl, HI, Lib.hid (HM.out.ext (Ext.new _ _)), Lib.hid (Ext.trans HE.out (Ext.new _ _)), Lib.hid (fun e => shut_succ (HSH.out e) (fun _ j hl => by have hbb := HBB.out; obtain ⟨_, hl⟩ := hl; rw [HOP.out] at hl; rcases hl with ⟨q, e⟩ | ⟨q, e⟩; (rw [e]; exact M1.out); (exfalso; omega))), HLE, HLT⟩
                  case measure => simp [intOf]; omega
                · replace m1 : mk cs (k + 1) = false := by simpa using m1
                  have qn := fun o => Mrk.cell (HM.out.ext (Ext.new wr2 o)) hkl1
                  have fn := fun o => (HM.out.ext (Ext.new wr2 o)).fz (k + 1)
                  rw [m1] at qn
                  have M1 := Lib.hid m1
                  clear m1
                  go_wp2_with fail
                  go_roundw
                  case rel => exact ⟨cs.set (k + 1) true, true, k + 1, by omega, by go_num, rfl, Lib.hid (inv39_mark HI.out HKM.out HLN.out (by have := HL.out; have := HN1.out; omega)), Lib.hid ((Mrk.mark (HM.out) (k + 1)).ext (Ext.new _ _)), Lib.hid (Ext.al (Ext.set (HE.out) (show w1.heap.size ≤ S by omega) (k + 1) (.bool true)) _), Lib.hid (fun e => by cases e), Lib.hid (by have := left_set (bs := cs) (i := (k + 1)) (by omega) M1.out; have := HLE.out;  omega), Lib.hid (fun _ => by have := left_set (bs := cs) (i := (k + 1)) (by omega) M1.out; have := HLE.out;  omega)⟩
                  case measure => simp [intOf]; omega
              · rw [h] at hs0
                have HOP := Lib.hid h
                have hln : Leads ss k (k + 1) := ⟨lx, .inl ⟨by omega, rfl⟩⟩
                have HLN := Lib.hid hln
                clear hln
                have HBB := Lib.hid trivial
                clear h hso
                by_cases m1 : mk cs (k + 1) = true
                · have qn := fun o => Mrk.cell (HM.out.ext (Ext.new wr2 o)) hkl1
                  rw [m1] at qn
                  have M1 := Lib.hid m1
                  clear m1
                  go_wp2_with fail
                  go_roundw
                  case rel => exact ⟨cs, mv, k + 1, by omega, by go_num, rfl, HI, Lib.hid (HM.out.ext (Ext.new _ _)), Lib.hid (Ext.trans HE.out (Ext.new _ _)), Lib.hid (fun e => shut_succ (HSH.out e) (fun _ j hl => by have hbb := HBB.out; obtain ⟨_, hl⟩ := hl; rw [HOP.out] at hl; rcases hl with ⟨q, e⟩ | ⟨q, e⟩; (rw [e]; exact M1.out); (exfalso; omega))), HLE, HLT⟩
                  case measure => simp [intOf]; omega
                · replace m1 : mk cs (k + 1) = false := by simpa using m1
                  have qn := fun o => Mrk.cell (HM.out.ext (Ext.new wr2 o)) hkl1
                  have fn := fun o => (HM.out.ext (Ext.new wr2 o)).fz (k + 1)
                  rw [m1] at qn
                  have M1 := Lib.hid m1
                  clear m1
                  go_wp2_with fail
                  go_roundw
                  case rel => exact ⟨cs.set (k + 1) true, true, k + 1, by omega, by go_num, rfl, Lib.hid (inv39_mark HI.out HKM.out HLN.out (by have := HL.out; have := HN1.out; omega)), Lib.hid ((Mrk.mark (HM.out) (k + 1)).ext (Ext.new _ _)), Lib.hid (Ext.al (Ext.set (HE.out) (show w1.heap.size ≤ S by omega) (k + 1) (.bool true)) _), Lib.hid (fun e => by cases e), Lib.hid (by have := left_set (bs := cs) (i := (k + 1)) (by omega) M1.out; have := HLE.out;  omega), Lib.hid (fun _ => by have := left_set (bs := cs) (i := (k + 1)) (by omega) M1.out; have := HLE.out;  omega)⟩
                  case measure => simp [intOf]; omega
              · rw [h] at hs0
                have HOP := Lib.hid h
                have hln : Leads ss k (k + 1) := ⟨lx, .inl ⟨by omega, rfl⟩⟩
                have HLN := Lib.hid hln
                clear hln
                have HBB := Lib.hid trivial
                clear h hso
                by_cases m1 : mk cs (k + 1) = true
                · have qn := fun o => Mrk.cell (HM.out.ext (Ext.new wr2 o)) hkl1
                  rw [m1] at qn
                  have M1 := Lib.hid m1
                  clear m1
                  go_wp2_with fail
                  go_roundw
                  case rel => exact ⟨cs, mv, k + 1, by omega, by go_num, rfl, HI, Lib.hid (HM.out.ext (Ext.new _ _)), Lib.hid (Ext.trans HE.out (Ext.new _ _)), Lib.hid (fun e => shut_succ (HSH.out e) (fun _ j hl => by have hbb := HBB.out; obtain ⟨_, hl⟩ := hl; rw [HOP.out] at hl; rcases hl with ⟨q, e⟩ | ⟨q, e⟩; (rw [e]; exact M1.out); (exfalso; omega))), HLE, HLT⟩
                  case measure => simp [intOf]; omega
                · replace m1 : mk cs (k + 1) = false := by simpa using m1
                  have qn := fun o => Mrk.cell (HM.out.ext (Ext.new wr2 o)) hkl1
                  have fn := fun o => (HM.out.ext (Ext.new wr2 o)).fz (k + 1)
                  rw [m1] at qn
                  have M1 := Lib.hid m1
                  clear m1
                  go_wp2_with fail
                  go_roundw
                  case rel => exact ⟨cs.set (k + 1) true, true, k + 1, by omega, by go_num, rfl, Lib.hid (inv39_mark HI.out HKM.out HLN.out (by have := HL.out; have := HN1.out; omega)), Lib.hid ((Mrk.mark (HM.out) (k + 1)).ext (Ext.new _ _)), Lib.hid (Ext.al (Ext.set (HE.out) (show w1.heap.size ≤ S by omega) (k + 1) (.bool true)) _), Lib.hid (fun e => by cases e), Lib.hid (by have := left_set (bs := cs) (i := (k + 1)) (by omega) M1.out; have := HLE.out;  omega), Lib.hid (fun _ => by have := left_set (bs := cs) (i := (k + 1)) (by omega) M1.out; have := HLE.out;  omega)⟩
                  case measure => simp [intOf]; omega
              · rw [h] at hs0
                have HOP := Lib.hid h
                obtain ⟨b0, b1'⟩ := place_of hso (by omega)
                have b1 : ss[k].b < (ss.length : Int) := b1'
                obtain ⟨bb, hbb⟩ : ∃ bb : Nat, ss[k].b = (bb : Int) := ⟨ss[k].b.toNat, by omega⟩
                rw [hbb] at hs2
                have hbl : bb < cs.length := by have := HI.out.len; omega
                have hbn : (bb : Int) < (n1 : Int) := by have := HL.out; have := HN1.out; omega
                have hlb : Leads ss k bb := ⟨lx, .inr ⟨by omega, by omega⟩⟩
                have HLB := Lib.hid hlb
                clear hlb b0 b1 b1'
                have hln : Leads ss k (k + 1) := ⟨lx, .inl ⟨by omega, rfl⟩⟩
                have HLN := Lib.hid hln
                clear hln
                have HBB := Lib.hid hbb
                clear h hso hbb
                by_cases m1 : mk cs (k + 1) = true
                · have qn := fun o => Mrk.cell (HM.out.ext (Ext.new wr2 o)) hkl1
                  rw [m1] at qn
                  have M1 := Lib.hid m1
                  clear m1
                  by_cases m2 : mk cs bb = true
                  · have qb := fun o => Mrk.cell (HM.out.ext (Ext.new wr2 o)) hbl
                    rw [m2] at qb
                    have M2 := Lib.hid m2
                    clear m2
                    go_wp2_with fail
                    go_roundw
                    case rel => exact ⟨cs, mv, k + 1, by omega, by go_num, rfl, HI, Lib.hid (HM.out.ext (Ext.new _ _)), Lib.hid (Ext.trans HE.out (Ext.new _ _)), Lib.hid (fun e => shut_succ (HSH.out e) (fun _ j hl => by have hbb := HBB.out; obtain ⟨_, hl⟩ := hl; rw [HOP.out] at hl; rcases hl with ⟨q, e⟩ | ⟨q, e⟩; (rw [e]; exact M1.out); (have e2 : j = bb := (by omega); rw [e2]; exact M2.out))), HLE, HLT⟩
                    case measure => simp [intOf]; omega
                  · replace m2 : mk cs bb = false := by simpa using m2
                    have qb := fun o => Mrk.cell (HM.out.ext (Ext.new wr2 o)) hbl
                    have fb := fun o => (HM.out.ext (Ext.new wr2 o)).fz bb
                    rw [m2] at qb
                    have M2 := Lib.hid m2
                    clear m2
                    go_wp2_with fail
                    go_roundw
                    case rel => exact ⟨cs.set bb true, true, k + 1, by omega, by go_num, rfl, Lib.hid (inv39_mark HI.out HKM.out HLB.out (by have := HL.out; have := HN1.out; omega)), Lib.hid ((Mrk.mark (HM.out) bb).ext (Ext.new _ _)), Lib.hid (Ext.al (Ext.set (HE.out) (show w1.heap.size ≤ S by omega) bb (.bool true)) _), Lib.hid (fun e => by cases e), Lib.hid (by have := left_set (bs := cs) (i := bb) (by omega) M2.out; have := HLE.out;  omega), Lib.hid (fun _ => by have := left_set (bs := cs) (i := bb) (by omega) M2.out; have := HLE.out;  omega)⟩
                    case measure => simp [intOf]; omega
                · replace m1 : mk cs (k + 1) = false := by simpa using m1
                  have qn := fun o => Mrk.cell (HM.out.ext (Ext.new wr2 o)) hkl1
                  have fn := fun o => (HM.out.ext (Ext.new wr2 o)).fz (k + 1)
                  rw [m1] at qn
                  have M1 := Lib.hid m1
                  clear m1
                  go_upto_region 16 with (fail)
                  have kZ := Blk.new (wr2.setCell ⟨S, k + 1, none⟩ (.bool true)) [.int .i64 5, .int .i64 ss[k].a, .int .i64 bb, .slice T ss[k].texts.length c'] 77
                  rw [Blk.size_set] at kZ
                  have kM5 := (Mrk.mark HM.out (k + 1)).ext (Ext.new _ (.cells #[.int .i64 5, .int .i64 ss[k].a, .int .i64 bb, .slice T ss[k].texts.length c'] 77))
                  have E5 := Ext.al (Ext.set HE.out (show w1.heap.size ≤ S by omega) (k + 1) (.bool true)) (.cells #[.int .i64 5, .int .i64 ss[k].a, .int .i64 bb, .slice T ss[k].texts.length c'] 77)
                  generalize World.alloc _ _ = W5 at kZ kM5 E5
                  clear qk qn fn hs0 hs1 hs2 hs3 q1
                  have z0 := kZ.c0
                  have z2 := kZ.c2
                  have HI5 := Lib.hid (inv39_mark HI.out HKM.out HLN.out (by have := HL.out; omega))
                  have hl5 := left_set (bs := cs) (i := k + 1) hkl1 M1.out
                  have HL5 := Lib.hid hl5
                  have hbl5 : bb < (cs.set (k + 1) true).length := by rw [List.length_set]; exact hbl
                  have HM5 := Lib.hid kM5
                  have HE5 := Lib.hid E5
                  clear hl5 kM5 E5
                  by_cases m2 : mk (cs.set (k + 1) true) bb = true
                  · have qb := Mrk.cell HM5.out hbl5
                    rw [m2] at qb
                    clear m2
                    go_wp2_with fail
                    go_roundw
                    case rel => exact ⟨cs.set (k + 1) true, true, k + 1, by omega, by go_num, rfl, HI5, HM5, HE5, Lib.hid (fun e => by cases e), Lib.hid (by have := HL5.out; have := HLE.out; omega), Lib.hid (fun _ => by have := HL5.out; have := HLE.out; omega)⟩
                    case measure => simp [intOf]; omega
                  · replace m2 : mk (cs.set (k + 1) true) bb = false := by simpa using m2
                    have qb := Mrk.cell HM5.out hbl5
                    have fb := HM5.out.fz bb
                    rw [m2] at qb
                    have M2 := Lib.hid m2
                    have hkm5 : mk (cs.set (k + 1) true) k = true := by rw [mk_set hkl1]; split; rfl; exact HKM.out
                    have HKM5 := Lib.hid hkm5
                    clear m2 hkm5
                    go_wp2_with fail
                    go_roundw
                    case rel => exact ⟨(cs.set (k + 1) true).set bb true, true, k + 1, by omega, by go_num, rfl, Lib.hid (inv39_mark HI5.out HKM5.out HLB.out (by have := HL.out; have := HN1.out; omega)), Lib.hid (Mrk.mark HM5.out bb), Lib.hid (Ext.set HE5.out (show w1.heap.size ≤ S by omega) bb (.bool true)), Lib.hid (fun e => by cases e), Lib.hid (by have := left_set (bs := cs.set (k + 1) true) (i := bb) hbl5 M2.out; have := HL5.out; have := HLE.out; omega), Lib.hid (fun _ => by have := left_set (bs := cs.set (k + 1) true) (i := bb) hbl5 M2.out; have := HL5.out; have := HLE.out; omega)⟩
                    case measure => simp [intOf]; omega
              · rw [h] at hs0
                have HOP := Lib.hid h
                obtain ⟨b0, b1'⟩ := place_of hso (by omega)
                have b1 : ss[k].b < (ss.length : Int) := b1'
                obtain ⟨bb, hbb⟩ : ∃ bb : Nat, ss[k].b = (bb : Int) := ⟨ss[k].b.toNat, by omega⟩
                rw [hbb] at hs2
                have hbl : bb < cs.length := by have := HI.out.len; omega
                have hbn : (bb : Int) < (n1 : Int) := by have := HL.out; have := HN1.out; omega
                have hlb : Leads ss k bb := ⟨lx, .inr ⟨by omega, by omega⟩⟩
                have HLB := Lib.hid hlb
                clear hlb b0 b1 b1'
                have hln : Leads ss k (k + 1) := ⟨lx, .inl ⟨by omega, rfl⟩⟩
                have HLN := Lib.hid hln
                clear hln
                have HBB := Lib.hid hbb
                clear h hso hbb
                by_cases m1 : mk cs (k + 1) = true
                · have qn := fun o => Mrk.cell (HM.out.ext (Ext.new wr2 o)) hkl1
                  rw [m1] at qn
                  have M1 := Lib.hid m1
                  clear m1
                  by_cases m2 : mk cs bb = true
                  · have qb := fun o => Mrk.cell (HM.out.ext (Ext.new wr2 o)) hbl
                    rw [m2] at qb
                    have M2 := Lib.hid m2
                    clear m2
                    go_wp2_with fail
                    go_roundw
                    case rel => exact ⟨cs, mv, k + 1, by omega, by go_num, rfl, HI, Lib.hid (HM.out.ext (Ext.new _ _)), Lib.hid (Ext.trans HE.out (Ext.new _ _)), Lib.hid (fun e => shut_succ (HSH.out e) (fun _ j hl => by have hbb := HBB.out; obtain ⟨_, hl⟩ := hl; rw [HOP.out] at hl; rcases hl with ⟨q, e⟩ | ⟨q, e⟩; (rw [e]; exact M1.out); (have e2 : j = bb := (by omega); rw [e2]; exact M2.out))), HLE, HLT⟩
                    case measure => simp [intOf]; omega
                  · replace m2 : mk cs bb = false := by simpa using m2
                    have qb := fun o => Mrk.cell (HM.out.ext (Ext.new wr2 o)) hbl
                    have fb := fun o => (HM.out.ext (Ext.new wr2 o)).fz bb
                    rw [m2] at qb
                    have M2 := Lib.hid m2
                    clear m2
                    go_wp2_with fail
                    go_roundw
                    case rel => exact ⟨cs.set bb true, true, k + 1, by omega, by go_num, rfl, Lib.hid (inv39_mark HI.out HKM.out HLB.out (by have := HL.out; have := HN1.out; omega)), Lib.hid ((Mrk.mark (HM.out) bb).ext (Ext.new _ _)), Lib.hid (Ext.al (Ext.set (HE.out) (show w1.heap.size ≤ S by omega) bb (.bool true)) _), Lib.hid (fun e => by cases e), Lib.hid (by have := left_set (bs := cs) (i := bb) (by omega) M2.out; have := HLE.out;  omega), Lib.hid (fun _ => by have := left_set (bs := cs) (i := bb) (by omega) M2.out; have := HLE.out;  omega)⟩
                    case measure => simp [intOf]; omega
                · replace m1 : mk cs (k + 1) = false := by simpa using m1
                  have qn := fun o => Mrk.cell (HM.out.ext (Ext.new wr2 o)) hkl1
                  have fn := fun o => (HM.out.ext (Ext.new wr2 o)).fz (k + 1)
                  rw [m1] at qn
                  have M1 := Lib.hid m1
                  clear m1
                  go_upto_region 16 with (fail)
                  have kZ := Blk.new (wr2.setCell ⟨S, k + 1, none⟩ (.bool true)) [.int .i64 6, .int .i64 ss[k].a, .int .i64 bb, .slice T ss[k].texts.length c'] 77
                  rw [Blk.size_set] at kZ
                  have kM5 := (Mrk.mark HM.out (k + 1)).ext (Ext.new _ (.cells #[.int .i64 6, .int .i64 ss[k].a, .int .i64 bb, .slice T ss[k].texts.length c'] 77))
                  have E5 := Ext.al (Ext.set HE.out (show w1.heap.size ≤ S by omega) (k + 1) (.bool true)) (.cells #[.int .i64 6, .int .i64 ss[k].a, .int .i64 bb, .slice T ss[k].texts.length c'] 77)
                  generalize World.alloc _ _ = W5 at kZ kM5 E5
                  clear qk qn fn hs0 hs1 hs2 hs3 q1
                  have z0 := kZ.c0
                  have z2 := kZ.c2
                  have HI5 := Lib.hid (inv39_mark HI.out HKM.out HLN.out (by have := HL.out; omega))
                  have hl5 := left_set (bs := cs) (i := k + 1) hkl1 M1.out
                  have HL5 := Lib.hid hl5
                  have hbl5 : bb < (cs.set (k + 1) true).length := by rw [List.length_set]; exact hbl
                  have HM5 := Lib.hid kM5
                  have HE5 := Lib.hid E5
                  clear hl5 kM5 E5
                  by_cases m2 : mk (cs.set (k + 1) true) bb = true
                  · have qb := Mrk.cell HM5.out hbl5
                    rw [m2] at qb
                    clear m2
                    go_wp2_with fail
                    go_roundw
                    case rel => exact ⟨cs.set (k + 1) true, true, k + 1, by omega, by go_num, rfl, HI5, HM5, HE5, Lib.hid (fun e => by cases e), Lib.hid (by have := HL5.out; have := HLE.out; omega), Lib.hid (fun _ => by have := HL5.out; have := HLE.out; omega)⟩
                    case measure => simp [intOf]; omega
                  · replace m2 : mk (cs.set (k + 1) true) bb = false := by simpa using m2
                    have qb := Mrk.cell HM5.out hbl5
                    have fb := HM5.out.fz bb
                    rw [m2] at qb
                    have M2 := Lib.hid m2
                    have hkm5 : mk (cs.set (k + 1) true) k = true := by rw [mk_set hkl1]; split; rfl; exact HKM.out
                    have HKM5 := Lib.hid hkm5
                    clear m2 hkm5
                    go_wp2_with fail
                    go_roundw
                    case rel => exact ⟨(cs.set (k + 1) true).set bb true, true, k + 1, by omega, by go_num, rfl, Lib.hid (inv39_mark HI5.out HKM5.out HLB.out (by have := HL.out; have := HN1.out; omega)), Lib.hid (Mrk.mark HM5.out bb), Lib.hid (Ext.set HE5.out (show w1.heap.size ≤ S by omega) bb (.bool true)), Lib.hid (fun e => by cases e), Lib.hid (by have := left_set (bs := cs.set (k + 1) true) (i := bb) hbl5 M2.out; have := HL5.out; have := HLE.out; omega), Lib.hid (fun _ => by have := left_set (bs := cs.set (k + 1) true) (i := bb) hbl5 M2.out; have := HL5.out; have := HLE.out; omega)⟩
                    case measure => simp [intOf]; omega
              · rw [h] at hs0
                have HOP := Lib.hid h
                obtain ⟨b0, b1'⟩ := place_of hso (by omega)
                have b1 : ss[k].b < (ss.length : Int) := b1'
                obtain ⟨bb, hbb⟩ : ∃ bb : Nat, ss[k].b = (bb : Int) := ⟨ss[k].b.toNat, by omega⟩
                rw [hbb] at hs2
                have hbl : bb < cs.length := by have := HI.out.len; omega
                have hbn : (bb : Int) < (n1 : Int) := by have := HL.out; have := HN1.out; omega
                have hlb : Leads ss k bb := ⟨lx, .inr ⟨by omega, by omega⟩⟩
                have HLB := Lib.hid hlb
                clear hlb b0 b1 b1'
                have HBB := Lib.hid hbb
                clear h hso hbb
                by_cases m2 : mk cs bb = true
                · have qb := fun o => Mrk.cell (HM.out.ext (Ext.new wr2 o)) hbl
                  rw [m2] at qb
                  have M2 := Lib.hid m2
                  clear m2
                  go_wp2_with fail
                  go_roundw
                  case rel => exact ⟨cs, mv, k + 1, by omega, by go_num, rfl, HI, Lib.hid (HM.out.ext (Ext.new _ _)), Lib.hid (Ext.trans HE.out (Ext.new _ _)), Lib.hid (fun e => shut_succ (HSH.out e) (fun _ j hl => by have hbb := HBB.out; obtain ⟨_, hl⟩ := hl; rw [HOP.out] at hl; rcases hl with ⟨q, e⟩ | ⟨q, e⟩; (exfalso; omega); (have e2 : j = bb := (by omega); rw [e2]; exact M2.out))), HLE, HLT⟩
                  case measure => simp [intOf]; omega
                · replace m2 : mk cs bb = false := by simpa using m2
                  have qb := fun o => Mrk.cell (HM.out.ext (Ext.new wr2 o)) hbl
                  have fb := fun o => (HM.out.ext (Ext.new wr2 o)).fz bb
                  rw [m2] at qb
                  have M2 := Lib.hid m2
                  clear m2
                  go_wp2_with fail
                  go_roundw
                  case rel => exact ⟨cs.set bb true, true, k + 1, by omega, by go_num, rfl, Lib.hid (inv39_mark HI.out HKM.out HLB.out (by have := HL.out; have := HN1.out; omega)), Lib.hid ((Mrk.mark (HM.out) bb).ext (Ext.new _ _)), Lib.hid (Ext.al (Ext.set (HE.out) (show w1.heap.size ≤ S by omega) bb (.bool true)) _), Lib.hid (fun e => by cases e), Lib.hid (by have := left_set (bs := cs) (i := bb) (by omega) M2.out; have := HLE.out;  omega), Lib.hid (fun _ => by have := left_set (bs := cs) (i := bb) (by omega) M2.out; have := HLE.out;  omega)⟩
                  case measure => simp [intOf]; omega
              · rw [h] at hs0
                have HOP := Lib.hid h
                have hln : Leads ss k (k + 1) := ⟨lx, .inl ⟨by omega, rfl⟩⟩
                have HLN := Lib.hid hln
                clear hln
                have HBB := Lib.hid trivial
                clear h hso
                by_cases m1 : mk cs (k + 1) = true
                · have qn := fun o => Mrk.cell (HM.out.ext (Ext.new wr2 o)) hkl1
                  rw [m1] at qn
                  have M1 := Lib.hid m1
                  clear m1
                  go_wp2_with fail
                  go_roundw
                  case rel => exact ⟨cs, mv, k + 1, by omega, by go_num, rfl, HI, Lib.hid (HM.out.ext (Ext.new _ _)), Lib.hid (Ext.trans HE.out (Ext.new _ _)), Lib.hid (fun e => shut_succ (HSH.out e) (fun _ j hl => by have hbb := HBB.out; obtain ⟨_, hl⟩ := hl; rw [HOP.out] at hl; rcases hl with ⟨q, e⟩ | ⟨q, e⟩; (rw [e]; exact M1.out); (exfalso; omega))), HLE, HLT⟩
                  case measure => simp [intOf]; omega
                · replace m1 : mk cs (k + 1) = false := by simpa using m1
                  have qn := fun o => Mrk.cell (HM.out.ext (Ext.new wr2 o)) hkl1
                  have fn := fun o => (HM.out.ext (Ext.new wr2 o)).fz (k + 1)
                  rw [m1] at qn
                  have M1 := Lib.hid m1
                  clear m1
                  go_wp2_with fail
                  go_roundw
                  case rel => exact ⟨cs.set (k + 1) true, true, k + 1, by omega, by go_num, rfl, Lib.hid (inv39_mark HI.out HKM.out HLN.out (by have := HL.out; have := HN1.out; omega)), Lib.hid ((Mrk.mark (HM.out) (k + 1)).ext (Ext.new _ _)), Lib.hid (Ext.al (Ext.set (HE.out) (show w1.heap.size ≤ S by omega) (k + 1) (.bool true)) _), Lib.hid (fun e => by cases e), Lib.hid (by have := left_set (bs := cs) (i := (k + 1)) (by omega) M1.out; have := HLE.out;  omega), Lib.hid (fun _ => by have := left_set (bs := cs) (i := (k + 1)) (by omega) M1.out; have := HLE.out;  omega)⟩
                  case measure => simp [intOf]; omega
              · rw [h] at hs0
                have HOP := Lib.hid h
                have hln : Leads ss k (k + 1) := ⟨lx, .inl ⟨by omega, rfl⟩⟩
                have HLN := Lib.hid hln
                clear hln
                have HBB := Lib.hid trivial
                clear h hso
                by_cases m1 : mk cs (k + 1) = true
                · have qn := fun o => Mrk.cell (HM.out.ext (Ext.new wr2 o)) hkl1
                  rw [m1] at qn
                  have M1 := Lib.hid m1
                  clear m1
                  go_wp2_with fail
                  go_roundw
                  case rel => exact ⟨cs, mv, k + 1, by omega, by go_num, rfl, HI, Lib.hid (HM.out.ext (Ext.new _ _)), Lib.hid (Ext.trans HE.out (Ext.new _ _)), Lib.hid (fun e => shut_succ (HSH.out e) (fun _ j hl => by have hbb := HBB.out; obtain ⟨_, hl⟩ := hl; rw [HOP.out] at hl; rcases hl with ⟨q, e⟩ | ⟨q, e⟩; (rw [e]; exact M1.out); (exfalso; omega))), HLE, HLT⟩
                  case measure => simp [intOf]; omega
                · replace m1 : mk cs (k + 1) = false := by simpa using m1
                  have qn := fun o => Mrk.cell (HM.out.ext (Ext.new wr2 o)) hkl1
                  have fn := fun o => (HM.out.ext (Ext.new wr2 o)).fz (k + 1)
                  rw [m1] at qn
                  have M1 := Lib.hid m1
                  clear m1
                  go_wp2_with fail
                  go_roundw
                  case rel => exact ⟨cs.set (k + 1) true, true, k + 1, by omega, by go_num, rfl, Lib.hid (inv39_mark HI.out HKM.out HLN.out (by have := HL.out; have := HN1.out; omega)), Lib.hid ((Mrk.mark (HM.out) (k + 1)).ext (Ext.new _ _)), Lib.hid (Ext.al (Ext.set (HE.out) (show w1.heap.size ≤ S by omega) (k + 1) (.bool true)) _), Lib.hid (fun e => by cases e), Lib.hid (by have := left_set (bs := cs) (i := (k + 1)) (by omega) M1.out; have := HLE.out;  omega), Lib.hid (fun _ => by have := left_set (bs := cs) (i := (k + 1)) (by omega) M1.out; have := HLE.out;  omega)⟩
                  case measure => simp [intOf]; omega
              · rw [h] at hs0
                have HOP := Lib.hid h
                have hln : Leads ss k (k + 1) := ⟨lx, .inl ⟨by omega, rfl⟩⟩
                have HLN := Lib.hid hln
                clear hln
                have HBB := Lib.hid trivial
                clear h hso
                by_cases m1 : mk cs (k + 1) = true
                · have qn := fun o => Mrk.cell (HM.out.ext (Ext.new wr2 o)) hkl1
                  rw [m1] at qn
                  have M1 := Lib.hid m1
                  clear m1
                  go_wp2_with fail
                  go_roundw
                  case rel => exact ⟨cs, mv, k + 1, by omega, by go_num, rfl, HI, Lib.hid (HM.out.ext (Ext.new _ _)), Lib.hid (Ext.trans HE.out (Ext.new _ _)), Lib.hid (fun e => shut_succ (HSH.out e) (fun _ j hl => by have hbb := HBB.out; obtain ⟨_, hl⟩ := hl; rw [HOP.out] at hl; rcases hl with ⟨q, e⟩ | ⟨q, e⟩; (rw [e]; exact M1.out); (exfalso; omega))), HLE, HLT⟩
                  case measure => simp [intOf]; omega
                · replace m1 : mk cs (k + 1) = false := by simpa using m1
                  have qn := fun o => Mrk.cell (HM.out.ext (Ext.new wr2 o)) hkl1
                  have fn := fun o => (HM.out.ext (Ext.new wr2 o)).fz (k + 1)
                  rw [m1] at qn
                  have M1 := Lib.hid m1
                  clear m1
                  go_wp2_with fail
                  go_roundw
                  case rel => exact ⟨cs.set (k + 1) true, true, k + 1, by omega, by go_num, rfl, Lib.hid (inv39_mark HI.out HKM.out HLN.out (by have := HL.out; have := HN1.out; omega)), Lib.hid ((Mrk.mark (HM.out) (k + 1)).ext (Ext.new _ _)), Lib.hid (Ext.al (Ext.set (HE.out) (show w1.heap.size ≤ S by omega) (k + 1) (.bool true)) _), Lib.hid (fun e => by cases e), Lib.hid (by have := left_set (bs := cs) (i := (k + 1)) (by omega) M1.out; have := HLE.out;  omega), Lib.hid (fun _ => by have := left_set (bs := cs) (i := (k + 1)) (by omega) M1.out; have := HLE.out;  omega)⟩
                  case measure => simp [intOf]; omega
              · rw [h] at hs0
                have HOP := Lib.hid h
                have hln : Leads ss k (k + 1) := ⟨lx, .inl ⟨by omega, rfl⟩⟩
                have HLN := Lib.hid hln
                clear hln
                have HBB := Lib.hid trivial
                clear h hso
                by_cases m1 : mk cs (k + 1) = true
                · have qn := fun o => Mrk.cell (HM.out.ext (Ext.new wr2 o)) hkl1
                  rw [m1] at qn
                  have M1 := Lib.hid m1
                  clear m1
                  go_wp2_with fail
                  go_roundw
                  case rel => exact ⟨cs, mv, k + 1, by omega, by go_num, rfl, HI, Lib.hid (HM.out.ext (Ext.new _ _)), Lib.hid (Ext.trans HE.out (Ext.new _ _)), Lib.hid (fun e => shut_succ (HSH.out e) (fun _ j hl => by have hbb := HBB.out; obtain ⟨_, hl⟩ := hl; rw [HOP.out] at hl; rcases hl with ⟨q, e⟩ | ⟨q, e⟩; (rw [e]; exact M1.out); (exfalso; omega))), HLE, HLT⟩
                  case measure => simp [intOf]; omega
                · replace m1 : mk cs (k + 1) = false := by simpa using m1
                  have qn := fun o => Mrk.cell (HM.out.ext (Ext.new wr2 o)) hkl1
                  have fn := fun o => (HM.out.ext (Ext.new wr2 o)).fz (k + 1)
                  rw [m1] at qn
                  have M1 := Lib.hid m1
                  clear m1
                  go_wp2_with fail
                  go_roundw
                  case rel => exact ⟨cs.set (k + 1) true, true, k + 1, by omega, by go_num, rfl, Lib.hid (inv39_mark HI.out HKM.out HLN.out (by have := HL.out; have := HN1.out; omega)), Lib.hid ((Mrk.mark (HM.out) (k + 1)).ext (Ext.new _ _)), Lib.hid (Ext.al (Ext.set (HE.out) (show w1.heap.size ≤ S by omega) (k + 1) (.bool true)) _), Lib.hid (fun e => by cases e), Lib.hid (by have := left_set (bs := cs) (i := (k + 1)) (by omega) M1.out; have := HLE.out;  omega), Lib.hid (fun _ => by have := left_set (bs := cs) (i := (k + 1)) (by omega) M1.out; have := HLE.out;  omega)⟩
                  case measure => simp [intOf]; omega
              · rw [h] at hs0
                have HOP := Lib.hid h
                have HBB := Lib.hid trivial
                clear h hso
                go_wp2_with fail
                go_roundw
                case rel => exact ⟨cs, mv, k + 1, by omega, by go_num, rfl, HI, Lib.hid (HM.out.ext (Ext.new _ _)), Lib.hid (Ext.trans HE.out (Ext.new _ _)), Lib.hid (fun e => shut_succ (HSH.out e) (fun _ j hl => by have hbb := HBB.out; obtain ⟨_, hl⟩ := hl; rw [HOP.out] at hl; rcases hl with ⟨q, e⟩ | ⟨q, e⟩; (exfalso; omega); (exfalso; omega))), HLE, HLT⟩
                case measure => simp [intOf]; omega
              · rw [h] at hs0
                have HOP := Lib.hid h
                have HBB := Lib.hid trivial
                clear h hso
                go_wp2_with fail
                go_roundw
                case rel => exact ⟨cs, mv, k + 1, by omega, by go_num, rfl, HI, Lib.hid (HM.out.ext (Ext.new _ _)), Lib.hid (Ext.trans HE.out (Ext.new _ _)), Lib.hid (fun e => shut_succ (HSH.out e) (fun _ j hl => by have hbb := HBB.out; obtain ⟨_, hl⟩ := hl; rw [HOP.out] at hl; rcases hl with ⟨q, e⟩ | ⟨q, e⟩; (exfalso; omega); (exfalso; omega))), HLE, HLT⟩
                case measure => simp [intOf]; omega
            · replace hkm : mk cs k = false := by simpa using hkm
              have qk := fun o => Mrk.cell (HM.out.ext (Ext.new wr2 o)) hkl
              rw [hkm] at qk
              have HKM := Lib.hid hkm
              clear hkm
              go_wp2_with fail
              go_roundw
              case rel => exact ⟨cs, mv, k + 1, by omega, by go_num, rfl, HI, Lib.hid (HM.out.ext (Ext.new _ _)), Lib.hid (Ext.trans HE.out (Ext.new _ _)), Lib.hid (fun e => shut_succ (HSH.out e) (fun e2 => by rw [HKM.out] at e2; cases e2)), HLE, HLT⟩
              case measure => simp [intOf]; omega
          · have ke : k = n := by omega
            have KE := Lib.hid ke
            clear ke
            go_wp2_with fail
            go_roundg (gk - 1)
            case measure => have := HG0.out (by simp); omega
            case rel => exact ⟨cs, mv, rfl, HI, HM, HE, Lib.hid (fun e => by have := HSH.out e; rwa [KE.out] at this), Lib.hid (fun e => by have h1 := HLT.out e; have h2 := HG0.out (by simp); omega)⟩
      | false =>
        have HD := Lib.hid (inv39_done HI0.out (by have := HS0.out rfl; rwa [← HL.out] at this))
        go_wp2_with fail
        go_loopw [8, 9] (fun v i w3 => ∃ k : Nat, k ≤ n ∧ i = .int .i64 k ∧ Hid (OwnI w3 wa.heap.size v (placesU bs k)) ∧ Hid (Ext wa w3) ∧ wa.heap.size ≤ w3.heap.size) (fun _ i _ => n - (intOf i).toNat)
        case atStart => exact ⟨0, Nat.zero_le _, rfl, Lib.hid (OwnI.nil _ _), Lib.hid (Ext.refl _), Nat.le_refl _⟩
        case round =>
          obtain ⟨k, hk, rfl, HO, HE3, hz3⟩ := hrel
          have q1 := (KP.out.ext (Ext.trans HE0.out HE3.out)).c1
          have hbl := HI0.out.len
          by_cases hlt : k < n
          · have hle : ((placesU bs k).length : Int) ≤ 1000000000 := by have := placesU_len bs k; omega
            have qk := Mrk.cell (HM0.out.ext HE3.out) (show k < bs.length by have := HL.out; omega)
            have hk1 : (k : Int) < (n1 : Int) := by have := HN1.out; omega
            clear hbl
            by_cases hm : mk bs k = true
            · rw [hm] at qk
              have HMK := Lib.hid (placesU_yes hm)
              clear hm
              go_wp2_with (at_builtin; go_loud (refine app_int2 wa.heap.size rfl (.tmp 94) (.tmp 96) rfl _ _ _ _ rfl rfl rfl HO.out hz3 (by omega) ?_; intro v1 w4 hown hb1 hz1; have HO1 := Lib.hid hown; have HE4 := Lib.hid (Below.trans HE3.out hb1); clear hown hb1))
              go_roundw
              case rel => first | exact ⟨k + 1, by omega, by go_num, (by rw [HMK.out]; exact HO1), HE4, hz1⟩ | ((repeat apply Exists.intro); exact ⟨⟨k + 1, by omega, by go_num, (by rw [HMK.out]; exact HO1), HE4, hz1⟩, rfl⟩)
              case measure => simp [intOf]; omega
            · replace hm : mk bs k = false := by simpa using hm
              rw [hm] at qk
              have HMK := Lib.hid (placesU_no hm)
              clear hm
              go_wp2_with fail
              go_roundw
              case rel => first | exact ⟨k + 1, by omega, by go_num, (by rw [HMK.out]; exact HO), HE3, hz3⟩ | ((repeat apply Exists.intro); exact ⟨⟨k + 1, by omega, by go_num, (by rw [HMK.out]; exact HO), HE3, hz3⟩, rfl⟩)
              case measure => simp [intOf]; omega
          · have ke : k = ss.length := by have := HL.out; omega
            have KE := Lib.hid ke
            clear ke hbl
            obtain ⟨T, d, rfl, hI⟩ := HO.out.form
            have HI := Lib.hid hI
            clear hI
            go_wp2_with fail
            go_ret2
            exact ⟨T, d, _, rfl, HI.out, ⟨fun _ => ⟨bs, HD.out, by rw [KE.out]⟩, fun h => absurd HV.out (by rw [h]; decide)⟩, Ext.trans HE1.out (Ext.trans HE0.out HE3.out)⟩
  · rw [hv]
    have HV := Lib.hid hv
    clear hv
    go_enter Tryz.func39, Tryz.ntmps39
    go_wp2_with fail
    refine (valid21 nm A n c ss _ (HX.out.ext (Ext.new _ _)) HL.out HB.out (by omega)).mono ?_
    rintro e w1 ⟨rfl, he⟩
    rw [HV.out]
    have HE1 := Lib.hid (Ext.trans (Ext.new _ _) he)
    clear he
    go_wp2_with fail
    go_ret2
    exact ⟨none, 0, [], rfl, fun i hi => absurd hi (by simp), ⟨fun h => absurd HV.out (by rw [h]; decide), fun _ => rfl⟩, HE1.out⟩
end Go.Proofs.YtkdbajpdcadliaaGreatDoor.Pg
