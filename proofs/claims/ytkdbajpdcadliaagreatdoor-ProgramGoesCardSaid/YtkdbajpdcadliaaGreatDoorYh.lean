/- Walks: Give of the program, steps of some kinds. -/
import Derived.Test.YtkdbajpdcadliaaGreatDoorYg
set_option linter.unusedVariables false
namespace Go.Proofs.YtkdbajpdcadliaaGreatDoor.Pg
open Go.RowKit

theorem giveS_asked {P : Prog} {r : RunS} {stt txt : ByteArray} (h : ¬ askedR P r = 0) : giveS P r stt txt = (zeroRun, askedR P r) := by unfold giveS; rw [if_pos h]
theorem giveS_bad {P : Prog} {r : RunS} {stt txt : ByteArray} (h : askedR P r = 0) (hb : giveBad P r stt txt = true) : giveS P r stt txt = (zeroRun, 2) := by unfold giveS; rw [if_neg (by omega), if_pos hb]
theorem giveS_good {P : Prog} {r : RunS} {stt txt : ByteArray} (h : askedR P r = 0) (hb : giveBad P r stt txt = false) : giveS P r stt txt = (giveRun (stepAt P r.place) r stt txt, 0) := by unfold giveS; rw [if_neg (by omega), if_neg (by rw [hb]; simp)]
theorem st_yes {s b : ByteArray} {l : List UInt8} (h : s = b) (hb : b.data.toList = l) : (s.toList == l) = true := by subst h; rw [ByteArray.toList_eq, hb]; simp
theorem st_no {s b : ByteArray} {l : List UInt8} (h : ¬ s = b) (hb : b.data.toList = l) : (s.toList == l) = false := by
  rw [beq_eq_false_iff_ne, ByteArray.toList_eq]
  intro e
  exact h (ext_list (e.trans hb.symm))
theorem give_parts {P : Prog} {r : RunS} {stt txt : ByteArray} (h : giveBad P r stt txt = false) : (stt.size : Int) = 2 ∧ ¬ (100 : Int) < (txt.size : Int) ∧ overN P.steps.length r = 0 ∧ ¬ (3 ≤ (stepAt P r.place).op ∧ (stepAt P r.place).op ≤ 7) := by
  unfold giveBad at h
  simp only [Bool.or_eq_false_iff, decide_eq_false_iff_not] at h
  obtain ⟨⟨⟨h1, h2⟩, h3⟩, h4⟩ := h
  exact ⟨by omega, h2, by omega, h4⟩
set_option maxRecDepth 100000 in
set_option maxHeartbeats 8000000 in
theorem give19_rd0 (nm : ByteArray) (A : Option Addr) (n c : Nat) (ss : List Step) (place count over : Int) (T : Option Addr) (k d : Nat) (xs : List ByteArray) (st stt txt : ByteArray) (w : World) (hp : StepsAt w A ss) (hpl : ss.length = n) (hpb : BdS ss) (hnm : (nm.size : Int) ≤ 1000000) (hx : Strs w T xs) (hl : xs.length = k) (hb : Bd xs) (hs1 : (stt.size : Int) ≤ 1000000000) (hs2 : (txt.size : Int) ≤ 1000000000) (hask0 : askedR ⟨nm, ss⟩ ⟨place, xs, st, count, over⟩ = 0) (hbad0 : giveBad ⟨nm, ss⟩ ⟨place, xs, st, count, over⟩ stt txt = false) (hopk : (stepAt ⟨nm, ss⟩ place).op = 1) (e1 : stt = blankS) :
    Calls Tryz.prog 19 #[.agg #[.string nm, .slice A n c], runV place T k d st count over, .string stt, .string txt] w fun e w' => ∃ T' k' d', e = .returned (.tuple #[runV (giveS ⟨nm, ss⟩ ⟨place, xs, st, count, over⟩ stt txt).1.place T' k' d' (giveS ⟨nm, ss⟩ ⟨place, xs, st, count, over⟩ stt txt).1.status (giveS ⟨nm, ss⟩ ⟨place, xs, st, count, over⟩ stt txt).1.count (giveS ⟨nm, ss⟩ ⟨place, xs, st, count, over⟩ stt txt).1.over, .int .i64 (giveS ⟨nm, ss⟩ ⟨place, xs, st, count, over⟩ stt txt).2]) ∧
      Strs w' T' (giveS ⟨nm, ss⟩ ⟨place, xs, st, count, over⟩ stt txt).1.vars ∧ (giveS ⟨nm, ss⟩ ⟨place, xs, st, count, over⟩ stt txt).1.vars.length = k' ∧ Ext w w' := by
  have HE1 := Lib.hid e1
  clear e1
  obtain ⟨P, hP⟩ : ∃ P : Prog, (⟨nm, ss⟩ : Prog) = P := ⟨_, rfl⟩
  rw [hP]
  have hask : askedS ⟨nm, ss⟩ place xs st count over = askedR P ⟨place, xs, st, count, over⟩ := by rw [← hP]; rfl
  obtain ⟨GR, hGR⟩ : ∃ GR, giveS P ⟨place, xs, st, count, over⟩ stt txt = GR := ⟨_, rfl⟩
  rw [hGR]
  have HGR := Lib.hid hGR
  clear hGR
  have E0 := Ext.al (Ext.al (Ext.new w (.cells #[.string nm, .slice A n c] 24)) (.cells #[.int .i64 place, .slice T k d, .string st, .int .i64 count, .int .i64 over] 27)) (.cells #[.int .i64 0, .slice none 0 0, .string ⟨#[]⟩, .int .i64 0, .int .i64 0] 27)
  have kP := (Blk.new w [.string nm, .slice A n c] 24).ext (Ext.al (Ext.new _ (.cells #[.int .i64 place, .slice T k d, .string st, .int .i64 count, .int .i64 over] 27)) (.cells #[.int .i64 0, .slice none 0 0, .string ⟨#[]⟩, .int .i64 0, .int .i64 0] 27))
  have kB := (Blk.new (w.alloc (.cells #[.string nm, .slice A n c] 24)) [.int .i64 place, .slice T k d, .string st, .int .i64 count, .int .i64 over] 27).ext (Ext.new _ (.cells #[.int .i64 0, .slice none 0 0, .string ⟨#[]⟩, .int .i64 0, .int .i64 0] 27))
  have kR := Blk.new ((w.alloc (.cells #[.string nm, .slice A n c] 24)).alloc (.cells #[.int .i64 place, .slice T k d, .string st, .int .i64 count, .int .i64 over] 27)) [.int .i64 0, .slice none 0 0, .string ⟨#[]⟩, .int .i64 0, .int .i64 0] 27
  simp only [World.size_alloc] at kB kR
  obtain ⟨R, hR⟩ : ∃ R, w.heap.size = R := ⟨_, rfl⟩
  have HP0 := Lib.hid hp
  have HPL := Lib.hid hpl
  have HPB := Lib.hid hpb
  have HX := Lib.hid hx
  have HLX := Lib.hid hl
  have HB := Lib.hid hb
  have HASK := Lib.hid hask
  have HPP := Lib.hid hP
  clear hp hpl hpb hx hl hb hask hP
  unfold runV
  go_enter Tryz.func19, Tryz.ntmps19
  go_upto_region 1 with (fail)
  rw [hR] at kP kB kR
  try simp only [hR]
  generalize World.alloc _ _ = W0 at E0 kP kB kR
  have p0 := kP.c0
  have p1 := kP.c1
  have b0 := kB.c0
  have b1 := kB.c1
  have b2 := kB.c2
  have b3 := kB.c3
  have b4 := kB.c4
  go_wp2_with fail
  refine (asked45 nm A n c ss place count over T k d xs st W0 (HP0.out.ext E0) HPL.out HPB.out hnm (HX.out.ext E0) HLX.out HB.out).mono ?_
  rintro e W1 ⟨rfl, he⟩
  rw [HASK.out]
  clear p0 p1 b0 b1 b2 b3 b4
  replace kP := kP.ext he
  replace kB := kB.ext he
  replace kR := kR.ext he
  replace E0 := Ext.trans E0 he
  clear he
  have ha := hask0
  rw [HPP.out] at ha hbad0 hopk
  have HB0 := Lib.hid hbad0
  have HOPK := Lib.hid hopk
  clear hask0 hbad0 hopk
  obtain ⟨hv, hok⟩ := asked_ok ha
  have h6 : xs.length = 6 := hok.six
  obtain rfl : k = 6 := by rw [← HLX.out]; exact h6
  rw [ha]
  have b0 := kB.c0
  have b1 := kB.c1
  have b2 := kB.c2
  have b3 := kB.c3
  have b4 := kB.c4
  have bz1 := kB.fz 1
  have HA := Lib.hid ha
  have HV := Lib.hid hv
  have HOK := Lib.hid hok
  clear ha hv hok h6
  go_wp2_with fail
  refine (clone46 T 6 d xs W1 (HX.out.ext E0) HLX.out (by omega) (by omega)).mono ?_
  rintro e W2 ⟨g, cg, rfl, ho, he⟩
  clear b0 b1 b2 b3 b4 bz1
  have hB1 : R + 1 + 1 < W1.heap.size := kR.lt
  replace kP := kP.ext he
  replace kB := kB.ext he
  replace kR := kR.ext he
  replace E0 := Ext.trans E0 he
  have hBg : W1.heap.size ≤ g := (World.ownsRow.lt ho g rfl).1
  clear he
  have b1 := kB.c1
  have bz1 := kB.fz 1
  go_upto_region 5 with (fail)
  clear b1 bz1
  have kB' : Blk (W2.setCell ⟨R + 1, 1, none⟩ (.slice (some ⟨g, 0, none⟩) 6 cg)) (R + 1) 27 (runL place g cg st count over) := kB.set 1 (.slice (some ⟨g, 0, none⟩) 6 cg)
  have kP' := kP.other (show R ≠ R + 1 by omega) 1 (.slice (some ⟨g, 0, none⟩) 6 cg)
  have kR' := kR.other (show R + 1 + 1 ≠ R + 1 by omega) 1 (.slice (some ⟨g, 0, none⟩) 6 cg)
  have hO' := ho.set (b := R + 1) (by simp [Value.ownBlock]; omega) 1 (.slice (some ⟨g, 0, none⟩) 6 cg)
  have E' := Ext.set E0 (show w.heap.size ≤ R + 1 by omega) 1 (.slice (some ⟨g, 0, none⟩) 6 cg)
  generalize World.setCell _ _ _ = wc at kB' kP' kR' hO' E'
  clear kB kP kR ho E0
  have hnP : P.steps.length = n := by rw [← HPP.out]; exact HPL.out
  have hn40 : n ≤ 40 := by rw [← hnP]; exact (validOk HV.out).len
  have p0 := kP'.c0
  have p1 := kP'.c1
  have r0 := kR'.c0
  have r1 := kR'.c1
  have r2 := kR'.c2
  have r3 := kR'.c3
  have r4 := kR'.c4
  have rz0 := kR'.fz 0
  have rz1 := kR'.fz 1
  have rz2 := kR'.fz 2
  have rz3 := kR'.fz 3
  have rz4 := kR'.fz 4
  obtain ⟨c1, c2, ho, hop4⟩ := give_parts HB0.out
  have HOP4 := Lib.hid hop4
  clear hop4
  rw [hnP] at ho
  have c1B : ((stt.size : Int) == 2) = true := by rw [c1]; rfl
  go_wp2_with fail
  refine (over47 nm A n c (R + 1) place count over (.slice (some ⟨g, 0, none⟩) 6 cg) st xs wc (by omega) kB').mono ?_
  rintro e wo ⟨rfl, kO, hk47⟩
  clear p0 p1 r0 r1 r2 r3 r4 rz0 rz1 rz2 rz3 rz4
  have kP2 := (hk47.block R kP'.lt (by omega)).trans kP'
  have kR2 : Blk wo (R + 1 + 1) 27 _ := (hk47.block (R + 1 + 1) kR'.lt (by omega)).trans kR'
  replace kP2 : Blk wo R 24 [.string nm, .slice A n c] := kP2
  have hO2 := hO'.kept2 hk47.grown (by simp [Value.ownBlock]; omega)
  have E2 : Ext w wo := hk47.below E' (by omega)
  clear hk47 kB' kP' kR' hO' E'
  have p0 := kP2.c0
  have p1 := kP2.c1
  have r0 := kR2.c0
  have r1 := kR2.c1
  have r2 := kR2.c2
  have r3 := kR2.c3
  have r4 := kR2.c4
  have rz0 := kR2.fz 0
  have rz1 := kR2.fz 1
  have rz2 := kR2.fz 2
  have rz3 := kR2.fz 3
  have rz4 := kR2.fz 4
  rw [ho, if_neg (by simp)] at kO
  rw [ho, decide_eq_false (by simp)]
  have hq := HOK.out
  rw [hnP] at hq
  obtain ⟨o1, o2, o3⟩ := over0 ho hq
  have o1' : over = 0 := o1
  have o2' : place < (n : Int) := o2
  have hp0 : 0 ≤ place := hq.p0
  have o3' : count < 200 := o3
  have hc0 : 0 ≤ count := hq.c0
  obtain ⟨pl, hpl⟩ : ∃ pl : Nat, place = pl := ⟨place.toNat, by omega⟩
  subst hpl
  have hpn : pl < ss.length := by have := HPL.out; omega
  obtain ⟨ad, Ts, cs, hA, s0, s1, s2, s3, hcs, hsx⟩ := HP0.out pl hpn
  subst hA
  replace s0 := E2.cell s0
  replace s1 := E2.cell s1
  replace s2 := E2.cell s2
  replace s3 := E2.cell s3
  obtain ⟨s, hs⟩ : ∃ s, ss[pl] = s := ⟨_, rfl⟩
  rw [hs] at s0 s1 s2 s3 hcs hsx
  have hsP : s ∈ P.steps := by rw [← HPP.out, ← hs]; exact List.getElem_mem _
  have hat : stepAt P (pl : Int) = s := by
    unfold stepAt
    rw [← HPP.out, Int.toNat_natCast]
    show ss.getD pl zeroStep = s
    rw [List.getD_eq_getElem?_getD, List.getElem?_eq_getElem hpn, hs]
    rfl
  have hsok := (validOk HV.out).each s hsP
  have hpnI : (pl : Int) < (n : Int) := by omega
  have b0 := kO.c0
  have HHO := Lib.hid ho
  have HAT := Lib.hid hat
  have HSOK := Lib.hid hsok
  have HO1 := Lib.hid o1'
  have HO2 := Lib.hid hO2
  clear hs hsP hat hsok o1 o2 o3 o1' ho hsx hO2 hq
  go_upto_region 8 with (fail)
  have eN := Ext.new wo (.cells #[.int .i64 s.op, .int .i64 s.a, .int .i64 s.b, .slice Ts s.texts.length cs] 77)
  have kZ := Blk.new wo [.int .i64 s.op, .int .i64 s.a, .int .i64 s.b, .slice Ts s.texts.length cs] 77
  obtain ⟨Z, hZ⟩ : ∃ Z, wo.heap.size = Z := ⟨_, rfl⟩
  have hRo : R + 1 + 1 < Z := by have := kR2.lt; omega
  have hgo : g < Z := by have := (World.ownsRow.lt HO2.out g rfl).2; omega
  rw [hZ] at kZ
  try simp only [hZ]
  have kO3 := kO.ext eN
  have kR3 := kR2.ext eN
  have hO3 := HO2.out.ext eN
  have E3 := Ext.trans E2 eN
  generalize World.alloc _ _ = W3 at kZ kO3 kR3 hO3 E3
  clear s0 s1 s2 s3 b0 p0 p1 r0 r1 r2 r3 r4 rz0 rz1 rz2 rz3 rz4 eN kO kR2 kP2 E2 hZ
  have HO3 := Lib.hid hO3
  clear hO3
  have s0 := kZ.c0
  have s1 := kZ.c1
  have s2 := kZ.c2
  have b0 := kO3.c0
  have b1 := kO3.c1
  have b2 := kO3.c2
  have b3 := kO3.c3
  have b4 := kO3.c4
  have bz0 := kO3.fz 0
  have bz1 := kO3.fz 1
  have bz2 := kO3.fz 2
  have bz3 := kO3.fz 3
  have bz4 := kO3.fz 4
  have r0 := kR3.c0
  have r1 := kR3.c1
  have r2 := kR3.c2
  have r3 := kR3.c3
  have r4 := kR3.c4
  have rz0 := kR3.fz 0
  have rz1 := kR3.fz 1
  have rz2 := kR3.fz 2
  have rz3 := kR3.fz 3
  have rz4 := kR3.fz 4
  have hG3 := HGR.out.symm.trans (giveS_good HA.out HB0.out)
  rw [show stepAt P (RunS.place ⟨(pl : Int), xs, st, count, over⟩) = s from HAT.out] at hG3
  have HG2 := Lib.hid hG3
  have hopk2 := HOPK.out
  rw [HAT.out] at hopk2
  have c3 : ¬ (3 ≤ s.op ∧ s.op ≤ 7) := by have h := HOP4.out; rw [show stepAt P (RunS.place ⟨(pl : Int), xs, st, count, over⟩) = s from HAT.out] at h; exact h
  have hxz : xs.length = 6 := by have := HLX.out; omega
  have hvk := verb_ok HSOK.out.verb
  clear hG3
  have h1 := hopk2
  clear c3 hvk hopk2
  obtain ⟨ai, hai, hai6⟩ : ∃ ai : Nat, s.a = ai ∧ ai < 6 := by
    have hM := HSOK.out.a
    rw [h1] at hM
    simp [verbS, isM] at hM
    exact ⟨s.a.toNat, by omega, by omega⟩
  rw [h1] at s0
  rw [hai] at s1
  have hai0 : (0 : Int) ≤ ai := by omega
  have hai6' : (ai : Int) < 6 := by omega
  have gc := HO3.out.cellAt ai (by omega)
  have gz := HO3.out.fzAt ai
  have ngb : g ≠ R + 1 := by omega
  have ngR : g ≠ R + 1 + 1 := by omega
  have ngZ : g ≠ Z := by omega
  have nbg : R + 1 ≠ g := by omega
  have nZg : Z ≠ g := by omega
  have nRg : R + 1 + 1 ≠ g := by omega
  have H1 := Lib.hid h1
  have HAI := Lib.hid hai
  clear h1 hai
  have nbZ : R + 1 ≠ Z := by omega
  have nZb : Z ≠ R + 1 := by omega
  have nRZ : R + 1 + 1 ≠ Z := by omega
  have e1 := HE1.out
  have y1 : (stt.toList == [32, 32]) = true := st_yes e1 rfl
  have hgv : giveVars s ⟨(pl : Int), xs, st, count, over⟩ stt txt = xs.set ai txt := by
    unfold giveVars
    rw [if_pos (.inl e1)]
    rw [if_pos H1.out, HAI.out, Int.toNat_natCast]
  have hgo2 : giveOver s ⟨(pl : Int), xs, st, count, over⟩ = over := by
    unfold giveOver
    rw [if_neg (by rw [H1.out]; decide), if_neg (by rw [H1.out]; decide)]
  have hG4 : GR = (⟨(pl : Int) + 1, xs.set ai txt, stt, count + 1, over⟩, 0) := by
    rw [HG2.out]
    unfold giveRun
    rw [hgv, hgo2]
  have HG4 := Lib.hid hG4
  clear hG4 hgv hgo2 e1
  go_wp2_with fail
  have k9 := (show Blk _ (R + 1 + 1) 27 [.int .i64 ((pl : Int) + 1), .slice (some ⟨g, 0, none⟩) 6 cg, .string stt, .int .i64 (count + 1), .int .i64 over] from (((((((((kR3.other (show R + 1 + 1 ≠ R + 1 by omega) 2 (.string stt)).other (show R + 1 + 1 ≠ g by omega) ai (.string txt)).other (show R + 1 + 1 ≠ R + 1 by omega) 0 (.int .i64 ((pl : Int) + 1))).other (show R + 1 + 1 ≠ R + 1 by omega) 3 (.int .i64 (count + 1))).set 0 (.int .i64 ((pl : Int) + 1))).set 1 (.slice (some ⟨g, 0, none⟩) 6 cg)).set 2 (.string stt)).set 3 (.int .i64 (count + 1))).set 4 (.int .i64 over)))
  have E9 := (Ext.set (Ext.set (Ext.set (Ext.set (Ext.set (Ext.set (Ext.set (Ext.set (Ext.set E3 (show w.heap.size ≤ R + 1 by omega) 2 (.string stt)) (show w.heap.size ≤ g by omega) ai (.string txt)) (show w.heap.size ≤ R + 1 by omega) 0 (.int .i64 ((pl : Int) + 1))) (show w.heap.size ≤ R + 1 by omega) 3 (.int .i64 (count + 1))) (show w.heap.size ≤ R + 1 + 1 by omega) 0 (.int .i64 ((pl : Int) + 1))) (show w.heap.size ≤ R + 1 + 1 by omega) 1 (.slice (some ⟨g, 0, none⟩) 6 cg)) (show w.heap.size ≤ R + 1 + 1 by omega) 2 (.string stt)) (show w.heap.size ≤ R + 1 + 1 by omega) 3 (.int .i64 (count + 1))) (show w.heap.size ≤ R + 1 + 1 by omega) 4 (.int .i64 over))
  have hO9 := (Own.set (Own.set (Own.set (Own.set (Own.set (Own.set (Own.set (Own.stored (Own.set HO3.out (b := R + 1) (by simp [Value.ownBlock]; omega) 2 (.string stt)) ai txt) (b := R + 1) (by simp [Value.ownBlock]; omega) 0 (.int .i64 ((pl : Int) + 1))) (b := R + 1) (by simp [Value.ownBlock]; omega) 3 (.int .i64 (count + 1))) (b := R + 1 + 1) (by simp [Value.ownBlock]; omega) 0 (.int .i64 ((pl : Int) + 1))) (b := R + 1 + 1) (by simp [Value.ownBlock]; omega) 1 (.slice (some ⟨g, 0, none⟩) 6 cg)) (b := R + 1 + 1) (by simp [Value.ownBlock]; omega) 2 (.string stt)) (b := R + 1 + 1) (by simp [Value.ownBlock]; omega) 3 (.int .i64 (count + 1))) (b := R + 1 + 1) (by simp [Value.ownBlock]; omega) 4 (.int .i64 over))
  clear s0 s1 s2 b0 b1 b2 b3 b4 bz0 bz1 bz2 bz3 bz4 r0 r1 r2 r3 r4 rz0 rz1 rz2 rz3 rz4
  have x0 := k9.c0
  have x1 := k9.c1
  have x2 := k9.c2
  have x3 := k9.c3
  have x4 := k9.c4
  refine bodyPost_ret (v := .tuple #[.agg #[.int .i64 ((pl : Int) + 1), .slice (some ⟨g, 0, none⟩) 6 cg, .string stt, .int .i64 (count + 1), .int .i64 over], .int .i64 0]) (by simp [results, Tryz.results19, go_sem, x0, x1, x2, x3, x4]) rfl ?_
  rw [HG4.out]
  exact ⟨some ⟨g, 0, none⟩, 6, cg, rfl, hO9.strs.1, by simpa using hxz, E9⟩
end Go.Proofs.YtkdbajpdcadliaaGreatDoor.Pg
