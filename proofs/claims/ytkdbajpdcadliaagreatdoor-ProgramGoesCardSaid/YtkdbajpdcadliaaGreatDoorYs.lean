/- Walks: Give of the program, whole. -/
import Derived.Test.YtkdbajpdcadliaaGreatDoorYh
set_option linter.unusedVariables false
namespace Go.Proofs.YtkdbajpdcadliaaGreatDoor.Pg
open Go.RowKit

theorem give_op19 {P : Prog} {r : RunS} {stt txt : ByteArray} (h : giveBad P r stt txt = true) (h1 : (stt.size : Int) = 2) (h2 : ¬ (100 : Int) < (txt.size : Int)) (h3 : overN P.steps.length r = 0) : 3 ≤ (stepAt P r.place).op ∧ (stepAt P r.place).op ≤ 7 := by
  unfold giveBad at h
  simp only [Bool.or_eq_true, decide_eq_true_eq] at h
  rcases h with ((h | h) | h) | h
  · exact absurd h1 h
  · exact absurd h h2
  · exact absurd h3 h
  · exact h

set_option maxRecDepth 100000 in
set_option maxHeartbeats 8000000 in
theorem give19_ask (nm : ByteArray) (A : Option Addr) (n c : Nat) (ss : List Step) (place count over : Int) (T : Option Addr) (k d : Nat) (xs : List ByteArray) (st stt txt : ByteArray) (w : World) (hp : StepsAt w A ss) (hpl : ss.length = n) (hpb : BdS ss) (hnm : (nm.size : Int) ≤ 1000000) (hx : Strs w T xs) (hl : xs.length = k) (hb : Bd xs) (hs1 : (stt.size : Int) ≤ 1000000000) (hs2 : (txt.size : Int) ≤ 1000000000) (hask0 : ¬ askedR ⟨nm, ss⟩ ⟨place, xs, st, count, over⟩ = 0) :
    Calls Tryz.prog 19 #[.agg #[.string nm, .slice A n c], runV place T k d st count over, .string stt, .string txt] w fun e w' => ∃ T' k' d', e = .returned (.tuple #[runV (giveS ⟨nm, ss⟩ ⟨place, xs, st, count, over⟩ stt txt).1.place T' k' d' (giveS ⟨nm, ss⟩ ⟨place, xs, st, count, over⟩ stt txt).1.status (giveS ⟨nm, ss⟩ ⟨place, xs, st, count, over⟩ stt txt).1.count (giveS ⟨nm, ss⟩ ⟨place, xs, st, count, over⟩ stt txt).1.over, .int .i64 (giveS ⟨nm, ss⟩ ⟨place, xs, st, count, over⟩ stt txt).2]) ∧
      Strs w' T' (giveS ⟨nm, ss⟩ ⟨place, xs, st, count, over⟩ stt txt).1.vars ∧ (giveS ⟨nm, ss⟩ ⟨place, xs, st, count, over⟩ stt txt).1.vars.length = k' ∧ Ext w w' := by
  obtain ⟨P, hP⟩ : ∃ P : Prog, (⟨nm, ss⟩ : Prog) = P := ⟨_, rfl⟩
  rw [hP]
  have hask : askedS ⟨nm, ss⟩ place xs st count over = askedR P ⟨place, xs, st, count, over⟩ := by rw [← hP]; rfl
  obtain ⟨GR, hGR⟩ : ∃ GR, giveS P ⟨place, xs, st, count, over⟩ stt txt = GR := ⟨_, rfl⟩
  rw [hGR]
  have HGR := Lib.hid hGR
  clear hGR
  have E0 := Ext.al (Ext.al (Ext.new w (.cells #[.string nm, .slice A n c] 24)) (.cells #[.int .i64 place, .slice T k d, .string st, .int .i64 count, .int .i64 over] 27)) (.cells #[.int .i64 0, .slice none 0 0, .string ⟨#[]⟩, .int .i64 0, .int .i64 0] 27)
  have kP := (Blk.new w [.string nm, .slice A n c] 24).ext (Ext.al (Ext.new _ (.cells #[.int .i64 place, .slice T k d, .string st, .int .i64 count, .int .i64 over] 27)) (.cells #[.int .i64 0, .slice none 0 0, .string ⟨#[]⟩, .int .i64 0, .int .i64 0] 27))
  have kB := (Blk.new (w.alloc (.cells #[.string nm, .slice A n c] 24)) [.int .i64 place, .slice T k d, .string st, .int .i64 count, .int .i64 over] 27).ext (Ext.new _ (.cells #[.int .i64 0, .slice none 0 0, .string ⟨#[]⟩, .int .i64 0, .int .i64 0] 27))
  have kR := Blk.new ((w.alloc (.cells #[.string nm, .slice A n c] 24)).alloc (.cells #[.int .i64 place, .slice T k d, .string st, .int .i64 count, .int .i64 over] 27)) [.int .i64 0, .slice none 0 0, .string ⟨#[]⟩, .int .i64 0, .int .i64 0] 27
  simp only [World.size_alloc] at kB kR
  obtain ⟨R, hR⟩ : ∃ R, w.heap.size = R := ⟨_, rfl⟩
  have HP0 := Lib.hid hp
  have HPL := Lib.hid hpl
  have HPB := Lib.hid hpb
  have HX := Lib.hid hx
  have HLX := Lib.hid hl
  have HB := Lib.hid hb
  have HASK := Lib.hid hask
  have HPP := Lib.hid hP
  clear hp hpl hpb hx hl hb hask hP
  unfold runV
  go_enter Tryz.func19, Tryz.ntmps19
  go_upto_region 1 with (fail)
  rw [hR] at kP kB kR
  try simp only [hR]
  generalize World.alloc _ _ = W0 at E0 kP kB kR
  have p0 := kP.c0
  have p1 := kP.c1
  have b0 := kB.c0
  have b1 := kB.c1
  have b2 := kB.c2
  have b3 := kB.c3
  have b4 := kB.c4
  go_wp2_with fail
  refine (asked45 nm A n c ss place count over T k d xs st W0 (HP0.out.ext E0) HPL.out HPB.out hnm (HX.out.ext E0) HLX.out HB.out).mono ?_
  rintro e W1 ⟨rfl, he⟩
  rw [HASK.out]
  clear p0 p1 b0 b1 b2 b3 b4
  replace kP := kP.ext he
  replace kB := kB.ext he
  replace kR := kR.ext he
  replace E0 := Ext.trans E0 he
  clear he
  have ha := hask0
  rw [HPP.out] at ha
  clear hask0
  have haB := bq_no ha
  have HA := Lib.hid ha
  obtain ⟨ak, hak⟩ : ∃ ak, askedR P ⟨place, xs, st, count, over⟩ = ak := ⟨_, rfl⟩
  rw [hak] at ha haB ⊢
  have r0 := kR.c0
  have r1 := kR.c1
  have r2 := kR.c2
  have r3 := kR.c3
  have r4 := kR.c4
  have rz0 := kR.fz 0
  have rz1 := kR.fz 1
  have rz2 := kR.fz 2
  have rz3 := kR.fz 3
  have rz4 := kR.fz 4
  go_wp2_with fail
  have hg5 := grown_put5 W1 (R + 1 + 1) (.int .i64 0) (.slice none 0 0) (.string ⟨#[]⟩) (.int .i64 0) (.int .i64 0)
  have kR9 := kR.put5 (.int .i64 0) (.slice none 0 0) (.string ⟨#[]⟩) (.int .i64 0) (.int .i64 0)
  have E9 := E0.grown hg5 (by omega)
  have q0 := kR9.c0
  have q1 := kR9.c1
  have q2 := kR9.c2
  have q3 := kR9.c3
  have q4 := kR9.c4
  refine bodyPost_ret (v := .tuple #[.agg #[.int .i64 0, .slice none 0 0, .string ⟨#[]⟩, .int .i64 0, .int .i64 0], .int .i64 ak]) (by simp [results, Tryz.results19, go_sem, q0, q1, q2, q3, q4]) rfl ?_
  have hGR := HGR.out
  rw [giveS_asked HA.out] at hGR
  rw [← hGR, ← hak]
  exact ⟨none, 0, 0, rfl, Strs.nil _ _, rfl, E9⟩

set_option maxRecDepth 100000 in
set_option maxHeartbeats 8000000 in
theorem give19_good (nm : ByteArray) (A : Option Addr) (n c : Nat) (ss : List Step) (place count over : Int) (T : Option Addr) (k d : Nat) (xs : List ByteArray) (st stt txt : ByteArray) (w : World) (hp : StepsAt w A ss) (hpl : ss.length = n) (hpb : BdS ss) (hnm : (nm.size : Int) ≤ 1000000) (hx : Strs w T xs) (hl : xs.length = k) (hb : Bd xs) (hs1 : (stt.size : Int) ≤ 1000000000) (hs2 : (txt.size : Int) ≤ 1000000000) (hask0 : askedR ⟨nm, ss⟩ ⟨place, xs, st, count, over⟩ = 0) (hbad0 : giveBad ⟨nm, ss⟩ ⟨place, xs, st, count, over⟩ stt txt = false) :
    Calls Tryz.prog 19 #[.agg #[.string nm, .slice A n c], runV place T k d st count over, .string stt, .string txt] w fun e w' => ∃ T' k' d', e = .returned (.tuple #[runV (giveS ⟨nm, ss⟩ ⟨place, xs, st, count, over⟩ stt txt).1.place T' k' d' (giveS ⟨nm, ss⟩ ⟨place, xs, st, count, over⟩ stt txt).1.status (giveS ⟨nm, ss⟩ ⟨place, xs, st, count, over⟩ stt txt).1.count (giveS ⟨nm, ss⟩ ⟨place, xs, st, count, over⟩ stt txt).1.over, .int .i64 (giveS ⟨nm, ss⟩ ⟨place, xs, st, count, over⟩ stt txt).2]) ∧
      Strs w' T' (giveS ⟨nm, ss⟩ ⟨place, xs, st, count, over⟩ stt txt).1.vars ∧ (giveS ⟨nm, ss⟩ ⟨place, xs, st, count, over⟩ stt txt).1.vars.length = k' ∧ Ext w w' := by
  obtain ⟨P, hP⟩ : ∃ P : Prog, (⟨nm, ss⟩ : Prog) = P := ⟨_, rfl⟩
  rw [hP]
  have hask : askedS ⟨nm, ss⟩ place xs st count over = askedR P ⟨place, xs, st, count, over⟩ := by rw [← hP]; rfl
  obtain ⟨GR, hGR⟩ : ∃ GR, giveS P ⟨place, xs, st, count, over⟩ stt txt = GR := ⟨_, rfl⟩
  rw [hGR]
  have HGR := Lib.hid hGR
  clear hGR
  have E0 := Ext.al (Ext.al (Ext.new w (.cells #[.string nm, .slice A n c] 24)) (.cells #[.int .i64 place, .slice T k d, .string st, .int .i64 count, .int .i64 over] 27)) (.cells #[.int .i64 0, .slice none 0 0, .string ⟨#[]⟩, .int .i64 0, .int .i64 0] 27)
  have kP := (Blk.new w [.string nm, .slice A n c] 24).ext (Ext.al (Ext.new _ (.cells #[.int .i64 place, .slice T k d, .string st, .int .i64 count, .int .i64 over] 27)) (.cells #[.int .i64 0, .slice none 0 0, .string ⟨#[]⟩, .int .i64 0, .int .i64 0] 27))
  have kB := (Blk.new (w.alloc (.cells #[.string nm, .slice A n c] 24)) [.int .i64 place, .slice T k d, .string st, .int .i64 count, .int .i64 over] 27).ext (Ext.new _ (.cells #[.int .i64 0, .slice none 0 0, .string ⟨#[]⟩, .int .i64 0, .int .i64 0] 27))
  have kR := Blk.new ((w.alloc (.cells #[.string nm, .slice A n c] 24)).alloc (.cells #[.int .i64 place, .slice T k d, .string st, .int .i64 count, .int .i64 over] 27)) [.int .i64 0, .slice none 0 0, .string ⟨#[]⟩, .int .i64 0, .int .i64 0] 27
  simp only [World.size_alloc] at kB kR
  obtain ⟨R, hR⟩ : ∃ R, w.heap.size = R := ⟨_, rfl⟩
  have HP0 := Lib.hid hp
  have HPL := Lib.hid hpl
  have HPB := Lib.hid hpb
  have HX := Lib.hid hx
  have HLX := Lib.hid hl
  have HB := Lib.hid hb
  have HASK := Lib.hid hask
  have HPP := Lib.hid hP
  clear hp hpl hpb hx hl hb hask hP
  unfold runV
  go_enter Tryz.func19, Tryz.ntmps19
  go_upto_region 1 with (fail)
  rw [hR] at kP kB kR
  try simp only [hR]
  generalize World.alloc _ _ = W0 at E0 kP kB kR
  have p0 := kP.c0
  have p1 := kP.c1
  have b0 := kB.c0
  have b1 := kB.c1
  have b2 := kB.c2
  have b3 := kB.c3
  have b4 := kB.c4
  go_wp2_with fail
  refine (asked45 nm A n c ss place count over T k d xs st W0 (HP0.out.ext E0) HPL.out HPB.out hnm (HX.out.ext E0) HLX.out HB.out).mono ?_
  rintro e W1 ⟨rfl, he⟩
  rw [HASK.out]
  clear p0 p1 b0 b1 b2 b3 b4
  replace kP := kP.ext he
  replace kB := kB.ext he
  replace kR := kR.ext he
  replace E0 := Ext.trans E0 he
  clear he
  have ha := hask0
  rw [HPP.out] at ha hbad0
  have HB0 := Lib.hid hbad0
  clear hask0 hbad0
  obtain ⟨hv, hok⟩ := asked_ok ha
  have h6 : xs.length = 6 := hok.six
  obtain rfl : k = 6 := by rw [← HLX.out]; exact h6
  rw [ha]
  have HA := Lib.hid ha
  have HV := Lib.hid hv
  have HOK := Lib.hid hok
  clear ha hv hok h6
  have hnP : P.steps.length = n := by rw [← HPP.out]; exact HPL.out
  have hn40 : n ≤ 40 := by rw [← hnP]; exact (validOk HV.out).len
  have hq := HOK.out
  rw [hnP] at hq
  obtain ⟨c1, c2, ho, hop4⟩ := give_parts HB0.out
  have HOP4 := Lib.hid hop4
  clear hop4
  rw [hnP] at ho
  have c1B : ((stt.size : Int) == 2) = true := by rw [c1]; rfl
  have b0 := kB.c0
  have b1 := kB.c1
  have b2 := kB.c2
  have b3 := kB.c3
  have b4 := kB.c4
  have bz1 := kB.fz 1
  go_wp2_with fail
  refine (clone46 T 6 d xs W1 (HX.out.ext E0) HLX.out (by omega) (by omega)).mono ?_
  rintro e W2 ⟨g, cg, rfl, ho, he⟩
  clear b0 b1 b2 b3 b4 bz1
  have hB1 : R + 1 + 1 < W1.heap.size := kR.lt
  replace kP := kP.ext he
  replace kB := kB.ext he
  replace kR := kR.ext he
  replace E0 := Ext.trans E0 he
  have hBg : W1.heap.size ≤ g := (World.ownsRow.lt ho g rfl).1
  clear he
  have b1 := kB.c1
  have bz1 := kB.fz 1
  go_upto_region 5 with (fail)
  clear b1 bz1
  have kB' : Blk (W2.setCell ⟨R + 1, 1, none⟩ (.slice (some ⟨g, 0, none⟩) 6 cg)) (R + 1) 27 (runL place g cg st count over) := kB.set 1 (.slice (some ⟨g, 0, none⟩) 6 cg)
  have kP' := kP.other (show R ≠ R + 1 by omega) 1 (.slice (some ⟨g, 0, none⟩) 6 cg)
  have kR' := kR.other (show R + 1 + 1 ≠ R + 1 by omega) 1 (.slice (some ⟨g, 0, none⟩) 6 cg)
  have hO' := ho.set (b := R + 1) (by simp [Value.ownBlock]; omega) 1 (.slice (some ⟨g, 0, none⟩) 6 cg)
  have E' := Ext.set E0 (show w.heap.size ≤ R + 1 by omega) 1 (.slice (some ⟨g, 0, none⟩) 6 cg)
  generalize World.setCell _ _ _ = wc at kB' kP' kR' hO' E'
  clear kB kP kR ho E0
  have hgR : R + 1 + 1 < g := by omega
  have p0 := kP'.c0
  have p1 := kP'.c1
  go_wp2_with fail
  refine (over47 nm A n c (R + 1) place count over (.slice (some ⟨g, 0, none⟩) 6 cg) st xs wc (by omega) kB').mono ?_
  rintro e wo ⟨rfl, kO, hk47⟩
  clear p0 p1
  have kP2 := (hk47.block R kP'.lt (by omega)).trans kP'
  have kR2 : Blk wo (R + 1 + 1) 27 _ := (hk47.block (R + 1 + 1) kR'.lt (by omega)).trans kR'
  replace kP2 : Blk wo R 24 [.string nm, .slice A n c] := kP2
  have hO2 := hO'.kept2 hk47.grown (by simp [Value.ownBlock]; omega)
  have E2 : Ext w wo := hk47.below E' (by omega)
  clear hk47 kB' kP' kR' hO' E'
  rw [ho, if_neg (by simp)] at kO
  rw [ho, decide_eq_false (by simp)]
  obtain ⟨o1, o2, o3⟩ := over0 ho hq
  have o1' : over = 0 := o1
  have o2' : place < (n : Int) := o2
  have hp0 : 0 ≤ place := hq.p0
  have o3' : count < 200 := o3
  have hc0 : 0 ≤ count := hq.c0
  obtain ⟨pl, hpl⟩ : ∃ pl : Nat, place = pl := ⟨place.toNat, by omega⟩
  subst hpl
  have hpn : pl < ss.length := by have := HPL.out; omega
  obtain ⟨ad, Ts, cs, hA, s0, s1, s2, s3, hcs, hsx⟩ := HP0.out pl hpn
  subst hA
  replace s0 := E2.cell s0
  replace s1 := E2.cell s1
  replace s2 := E2.cell s2
  replace s3 := E2.cell s3
  obtain ⟨s, hs⟩ : ∃ s, ss[pl] = s := ⟨_, rfl⟩
  rw [hs] at s0 s1 s2 s3 hcs hsx
  have hsP : s ∈ P.steps := by rw [← HPP.out, ← hs]; exact List.getElem_mem _
  have hat : stepAt P (pl : Int) = s := by
    unfold stepAt
    rw [← HPP.out, Int.toNat_natCast]
    show ss.getD pl zeroStep = s
    rw [List.getD_eq_getElem?_getD, List.getElem?_eq_getElem hpn, hs]
    rfl
  have hsok := (validOk HV.out).each s hsP
  have hpnI : (pl : Int) < (n : Int) := by omega
  have p0 := kP2.c0
  have p1 := kP2.c1
  have b0 := kO.c0
  have HAT := Lib.hid hat
  have HSOK := Lib.hid hsok
  have HO1 := Lib.hid o1'
  clear hs hsP hat hsok o1 o2 o3 o1' hsx hq
  go_upto_region 8 with (fail)
  have eN := Ext.new wo (.cells #[.int .i64 s.op, .int .i64 s.a, .int .i64 s.b, .slice Ts s.texts.length cs] 77)
  have kZ := Blk.new wo [.int .i64 s.op, .int .i64 s.a, .int .i64 s.b, .slice Ts s.texts.length cs] 77
  obtain ⟨Z, hZ⟩ : ∃ Z, wo.heap.size = Z := ⟨_, rfl⟩
  have hRo : R + 1 + 1 < Z := by have := kR2.lt; omega
  have hgo : g < Z := by have := (World.ownsRow.lt hO2 g rfl).2; omega
  rw [hZ] at kZ
  try simp only [hZ]
  have kO3 := kO.ext eN
  have kR3 := kR2.ext eN
  have hO3 := hO2.ext eN
  have E3 := Ext.trans E2 eN
  generalize World.alloc _ _ = W3 at kZ kO3 kR3 E3 hO3
  clear s0 s1 s2 s3 b0 p0 p1 eN kO kR2 kP2 E2 hZ
  have z0 := kZ.c0
  have c3 : ¬ (3 ≤ s.op ∧ s.op ≤ 7) := by have h := HOP4.out; rw [show stepAt P (RunS.place ⟨(pl : Int), xs, st, count, over⟩) = s from HAT.out] at h; exact h
  have HC3 := Lib.hid c3
  clear c3
  go_cut [49] (fun s48 wx => s48 = .bool false ∧ wx = W3)
  case first =>
    by_cases h3 : 3 ≤ s.op
    · have h7 : ¬ s.op ≤ 7 := fun h => HC3.out ⟨h3, h⟩
      go_wp2_with fail
      go_meet
      exact ⟨rfl, rfl⟩
    · go_wp2_with fail
      go_meet
      exact ⟨rfl, rfl⟩
  case rest =>
  obtain ⟨rfl, rfl⟩ := hcut
  have b2 := kO3.c2
  have bz2 := kO3.fz 2
  clear z0
  go_upto_region 11 with (fail)
  have kN8 : Blk _ (R + 1) 27 (runL (pl : Int) g cg stt count over) := kO3.set 2 (.string stt)
  have kZ8 := kZ.other (show Z ≠ R + 1 by omega) 2 (.string stt)
  have kR8 := kR3.other (show R + 1 + 1 ≠ R + 1 by omega) 2 (.string stt)
  have hne : some (R + 1) ≠ (Value.slice (some ⟨g, 0, none⟩) 6 cg).ownBlock := by simp only [Value.ownBlock]; intro e; have e2 : R + 1 = g := Option.some.inj e; omega
  have hO8 := hO3.set (b := R + 1) hne 2 (.string stt)
  have E8 := Ext.set E3 (show w.heap.size ≤ R + 1 by omega) 2 (.string stt)
  generalize World.setCell _ _ _ = W8 at kN8 kZ8 kR8 hO8 E8
  clear b2 bz2 kO3 kZ kR3 hO3 E3
  have HO8 := Lib.hid hO8
  clear hO8
  go_cut [62] (fun s71 wx => s71 = .bool (decide (stt = blankS ∨ stt = gaS ∨ stt = gkS)) ∧ wx = W8)
  case first =>
    by_cases e1 : stt = blankS
    · have y1 : (stt.toList == [32, 32]) = true := st_yes e1 rfl
      have hd : decide (stt = blankS ∨ stt = gaS ∨ stt = gkS) = true := decide_eq_true (.inl e1)
      have HD := Lib.hid hd
      clear hd e1
      go_wp2_with fail
      go_meet
      exact ⟨congrArg Value.bool HD.out.symm, rfl⟩
    · have y1 : (stt.toList == [32, 32]) = false := st_no e1 rfl
      by_cases e2 : stt = gaS
      · have y2 : (stt.toList == [71, 65]) = true := st_yes e2 rfl
        have hd : decide (stt = blankS ∨ stt = gaS ∨ stt = gkS) = true := decide_eq_true (.inr (.inl e2))
        have HD := Lib.hid hd
        clear hd e1 e2
        go_wp2_with fail
        go_meet
        exact ⟨congrArg Value.bool HD.out.symm, rfl⟩
      · have y2 : (stt.toList == [71, 65]) = false := st_no e2 rfl
        by_cases e3 : stt = gkS
        · have y3 : (stt.toList == [71, 75]) = true := st_yes e3 rfl
          have hd : decide (stt = blankS ∨ stt = gaS ∨ stt = gkS) = true := decide_eq_true (.inr (.inr e3))
          have HD := Lib.hid hd
          clear hd e1 e2 e3
          go_wp2_with fail
          go_meet
          exact ⟨congrArg Value.bool HD.out.symm, rfl⟩
        · have y3 : (stt.toList == [71, 75]) = false := st_no e3 rfl
          have hd : decide (stt = blankS ∨ stt = gaS ∨ stt = gkS) = false := decide_eq_false (by rintro (h | h | h); exact e1 h; exact e2 h; exact e3 h)
          have HD := Lib.hid hd
          clear hd e1 e2 e3
          go_wp2_with fail
          go_meet
          exact ⟨congrArg Value.bool HD.out.symm, rfl⟩
  case rest =>
  obtain ⟨rfl, rfl⟩ := hcut
  have hG3 := HGR.out.symm.trans (giveS_good HA.out HB0.out)
  rw [show stepAt P (RunS.place ⟨(pl : Int), xs, st, count, over⟩) = s from HAT.out] at hG3
  have HG2 := Lib.hid hG3
  clear hG3
  have z0 := kZ8.c0
  have z1 := kZ8.c1
  have z2 := kZ8.c2
  have m0 := kN8.c0
  have m1 := kN8.c1
  have m2 := kN8.c2
  have m3 := kN8.c3
  have m4 := kN8.c4
  have mz0 := kN8.fz 0
  have mz3 := kN8.fz 3
  have mz4 := kN8.fz 4
  have hng : (R + 1) ≠ g := by omega
  have hgn : g ≠ (R + 1) := by omega
  have hRg : R + 1 + 1 ≠ g := by omega
  have hRN : R + 1 + 1 ≠ (R + 1) := by omega
  have hxz : xs.length = 6 := by have := HLX.out; omega
  have hvk := HSOK.out.verb
  have hAM := HSOK.out.a
  have hBM := HSOK.out.b
  have HVK := Lib.hid hvk
  have HAM := Lib.hid hAM
  have HBM := Lib.hid hBM
  clear hvk hAM hBM
  by_cases hf : stt = blankS ∨ stt = gaS ∨ stt = gkS
  · rw [decide_eq_true hf]
    by_cases h : s.op = 1
    · obtain ⟨ai, hai, hai6⟩ : ∃ ai : Nat, s.a = ai ∧ ai < 6 := by
        have hM := HAM.out
        rw [h] at hM
        simp [verbS, isM] at hM
        exact ⟨s.a.toNat, by omega, by omega⟩
      rw [hai] at z1
      have hai0 : (0 : Int) ≤ ai := by omega
      have hai6' : (ai : Int) < 6 := by omega
      have gc := HO8.out.cellAt ai (by omega)
      have gz := HO8.out.fzAt ai
      have HAI := Lib.hid hai
      clear hai
      rw [h] at z0
      have HOPK := Lib.hid h
      clear h
      have HF := Lib.hid hf
      clear hf
      go_upto_region 24 with (fail)
      have kF : Blk _ (R + 1) 27 (runL ((pl : Int) + 1) g cg stt (count + 1) over) := (((kN8.other hng ai (.string txt)).set 0 (.int .i64 ((pl : Int) + 1))).set 3 (.int .i64 (count + 1)))
      have kRF := (((kR8.other hRg ai (.string txt)).other hRN 0 (.int .i64 ((pl : Int) + 1))).other hRN 3 (.int .i64 (count + 1)))
      have hOF := (((HO8.out.stored ai txt).set (b := (R + 1)) hne 0 (.int .i64 ((pl : Int) + 1))).set (b := (R + 1)) hne 3 (.int .i64 (count + 1)))
      have EF := (Ext.set (Ext.set (Ext.set E8 (show w.heap.size ≤ g by omega) ai (.string txt)) (show w.heap.size ≤ (R + 1) by omega) 0 (.int .i64 ((pl : Int) + 1))) (show w.heap.size ≤ (R + 1) by omega) 3 (.int .i64 (count + 1)))
      generalize World.setCell _ _ _ = W9 at kF kRF hOF EF
      clear z0 z1 z2 m0 m1 m2 m3 m4 mz0 mz3 mz4 gc gz kN8 kR8 kZ8 E8
      have HOF := Lib.hid hOF
      have HEF := Lib.hid EF
      clear hOF EF
      have f0 := kF.c0
      have f1 := kF.c1
      have f2 := kF.c2
      have f3 := kF.c3
      have f4 := kF.c4
      have r0 := kRF.c0
      have r1 := kRF.c1
      have r2 := kRF.c2
      have r3 := kRF.c3
      have r4 := kRF.c4
      have rz0 := kRF.fz 0
      have rz1 := kRF.fz 1
      have rz2 := kRF.fz 2
      have rz3 := kRF.fz 3
      have rz4 := kRF.fz 4
      have KF := Lib.hid kF
      have KRF := Lib.hid kRF
      clear kF kRF hng hgn hRg hRN hne o3' hc0 hp0 hpnI
      iterate 16 (try go_step)
      have hg5 := grown_put5 W9 (R + 1 + 1) (.int .i64 ((pl : Int) + 1)) (.slice (some ⟨g, 0, none⟩) 6 cg) (.string stt) (.int .i64 (count + 1)) (.int .i64 over)
      have kX := KRF.out.put5 (.int .i64 ((pl : Int) + 1)) (.slice (some ⟨g, 0, none⟩) 6 cg) (.string stt) (.int .i64 (count + 1)) (.int .i64 over)
      have hOX := HOF.out.kept2 hg5 (by simp only [Value.ownBlock]; intro e; have e2 : g = R + 1 + 1 := Option.some.inj e; omega)
      have EX := HEF.out.grown hg5 (by omega)
      clear f0 f1 f2 f3 f4 r0 r1 r2 r3 r4 rz0 rz1 rz2 rz3 rz4 hg5
      unfold put5 at kX hOX EX
      generalize World.setCell _ _ _ = W10 at kX hOX EX
      have x0 := kX.c0
      have x1 := kX.c1
      have x2 := kX.c2
      have x3 := kX.c3
      have x4 := kX.c4
      refine bodyPost_ret (v := .tuple #[.agg #[.int .i64 ((pl : Int) + 1), .slice (some ⟨g, 0, none⟩) 6 cg, .string stt, .int .i64 (count + 1), .int .i64 over], .int .i64 0]) (by simp [results, Tryz.results19, go_sem, x0, x1, x2, x3, x4]) rfl ?_
      rw [HG2.out, show giveRun s ⟨(pl : Int), xs, st, count, over⟩ stt txt = ⟨(pl : Int) + 1, xs.set ai txt, stt, count + 1, over⟩ from by
        unfold giveRun giveVars giveOver
        have h := HOPK.out; have hf := HF.out; simp only [h, if_pos hf, HAI.out]; rfl]
      exact ⟨some ⟨g, 0, none⟩, 6, cg, rfl, hOX.strs.1, by simpa using hxz, EX⟩
    have h1 := h
    clear h
    by_cases h : s.op = 2
    · obtain ⟨ai, hai, hai6⟩ : ∃ ai : Nat, s.b = ai ∧ ai < 6 := by
        have hM := HBM.out
        rw [h] at hM
        simp [verbS, isM] at hM
        exact ⟨s.b.toNat, by omega, by omega⟩
      rw [hai] at z2
      have hai0 : (0 : Int) ≤ ai := by omega
      have hai6' : (ai : Int) < 6 := by omega
      have gc := HO8.out.cellAt ai (by omega)
      have gz := HO8.out.fzAt ai
      have HAI := Lib.hid hai
      clear hai
      rw [h] at z0
      have HOPK := Lib.hid h
      clear h
      have HF := Lib.hid hf
      clear hf
      go_upto_region 24 with (fail)
      have kF : Blk _ (R + 1) 27 (runL ((pl : Int) + 1) g cg stt (count + 1) over) := (((kN8.other hng ai (.string txt)).set 0 (.int .i64 ((pl : Int) + 1))).set 3 (.int .i64 (count + 1)))
      have kRF := (((kR8.other hRg ai (.string txt)).other hRN 0 (.int .i64 ((pl : Int) + 1))).other hRN 3 (.int .i64 (count + 1)))
      have hOF := (((HO8.out.stored ai txt).set (b := (R + 1)) hne 0 (.int .i64 ((pl : Int) + 1))).set (b := (R + 1)) hne 3 (.int .i64 (count + 1)))
      have EF := (Ext.set (Ext.set (Ext.set E8 (show w.heap.size ≤ g by omega) ai (.string txt)) (show w.heap.size ≤ (R + 1) by omega) 0 (.int .i64 ((pl : Int) + 1))) (show w.heap.size ≤ (R + 1) by omega) 3 (.int .i64 (count + 1)))
      generalize World.setCell _ _ _ = W9 at kF kRF hOF EF
      clear z0 z1 z2 m0 m1 m2 m3 m4 mz0 mz3 mz4 gc gz kN8 kR8 kZ8 E8
      have HOF := Lib.hid hOF
      have HEF := Lib.hid EF
      clear hOF EF
      have f0 := kF.c0
      have f1 := kF.c1
      have f2 := kF.c2
      have f3 := kF.c3
      have f4 := kF.c4
      have r0 := kRF.c0
      have r1 := kRF.c1
      have r2 := kRF.c2
      have r3 := kRF.c3
      have r4 := kRF.c4
      have rz0 := kRF.fz 0
      have rz1 := kRF.fz 1
      have rz2 := kRF.fz 2
      have rz3 := kRF.fz 3
      have rz4 := kRF.fz 4
      have KF := Lib.hid kF
      have KRF := Lib.hid kRF
      clear kF kRF hng hgn hRg hRN hne o3' hc0 hp0 hpnI
      iterate 16 (try go_step)
      have hg5 := grown_put5 W9 (R + 1 + 1) (.int .i64 ((pl : Int) + 1)) (.slice (some ⟨g, 0, none⟩) 6 cg) (.string stt) (.int .i64 (count + 1)) (.int .i64 over)
      have kX := KRF.out.put5 (.int .i64 ((pl : Int) + 1)) (.slice (some ⟨g, 0, none⟩) 6 cg) (.string stt) (.int .i64 (count + 1)) (.int .i64 over)
      have hOX := HOF.out.kept2 hg5 (by simp only [Value.ownBlock]; intro e; have e2 : g = R + 1 + 1 := Option.some.inj e; omega)
      have EX := HEF.out.grown hg5 (by omega)
      clear f0 f1 f2 f3 f4 r0 r1 r2 r3 r4 rz0 rz1 rz2 rz3 rz4 hg5
      unfold put5 at kX hOX EX
      generalize World.setCell _ _ _ = W10 at kX hOX EX
      have x0 := kX.c0
      have x1 := kX.c1
      have x2 := kX.c2
      have x3 := kX.c3
      have x4 := kX.c4
      refine bodyPost_ret (v := .tuple #[.agg #[.int .i64 ((pl : Int) + 1), .slice (some ⟨g, 0, none⟩) 6 cg, .string stt, .int .i64 (count + 1), .int .i64 over], .int .i64 0]) (by simp [results, Tryz.results19, go_sem, x0, x1, x2, x3, x4]) rfl ?_
      rw [HG2.out, show giveRun s ⟨(pl : Int), xs, st, count, over⟩ stt txt = ⟨(pl : Int) + 1, xs.set ai txt, stt, count + 1, over⟩ from by
        unfold giveRun giveVars giveOver
        have h := HOPK.out; have hf := HF.out; simp only [h, if_pos hf, HAI.out]; rfl]
      exact ⟨some ⟨g, 0, none⟩, 6, cg, rfl, hOX.strs.1, by simpa using hxz, EX⟩
    have h2 := h
    clear h
    by_cases h : s.op = 12
    · rw [h] at z0
      have HOPK := Lib.hid h
      clear h
      have HF := Lib.hid hf
      clear hf
      go_upto_region 24 with (fail)
      have kF : Blk _ (R + 1) 27 (runL ((pl : Int) + 1) g cg stt (count + 1) 2) := (((kN8.set 4 (.int .i64 2)).set 0 (.int .i64 ((pl : Int) + 1))).set 3 (.int .i64 (count + 1)))
      have kRF := (((kR8.other hRN 4 (.int .i64 2)).other hRN 0 (.int .i64 ((pl : Int) + 1))).other hRN 3 (.int .i64 (count + 1)))
      have hOF := (((HO8.out.set (b := (R + 1)) hne 4 (.int .i64 2)).set (b := (R + 1)) hne 0 (.int .i64 ((pl : Int) + 1))).set (b := (R + 1)) hne 3 (.int .i64 (count + 1)))
      have EF := (Ext.set (Ext.set (Ext.set E8 (show w.heap.size ≤ (R + 1) by omega) 4 (.int .i64 2)) (show w.heap.size ≤ (R + 1) by omega) 0 (.int .i64 ((pl : Int) + 1))) (show w.heap.size ≤ (R + 1) by omega) 3 (.int .i64 (count + 1)))
      generalize World.setCell _ _ _ = W9 at kF kRF hOF EF
      clear z0 z1 z2 m0 m1 m2 m3 m4 mz0 mz3 mz4 kN8 kR8 kZ8 E8
      have HOF := Lib.hid hOF
      have HEF := Lib.hid EF
      clear hOF EF
      have f0 := kF.c0
      have f1 := kF.c1
      have f2 := kF.c2
      have f3 := kF.c3
      have f4 := kF.c4
      have r0 := kRF.c0
      have r1 := kRF.c1
      have r2 := kRF.c2
      have r3 := kRF.c3
      have r4 := kRF.c4
      have rz0 := kRF.fz 0
      have rz1 := kRF.fz 1
      have rz2 := kRF.fz 2
      have rz3 := kRF.fz 3
      have rz4 := kRF.fz 4
      have KF := Lib.hid kF
      have KRF := Lib.hid kRF
      clear kF kRF hng hgn hRg hRN hne o3' hc0 hp0 hpnI
      iterate 16 (try go_step)
      have hg5 := grown_put5 W9 (R + 1 + 1) (.int .i64 ((pl : Int) + 1)) (.slice (some ⟨g, 0, none⟩) 6 cg) (.string stt) (.int .i64 (count + 1)) (.int .i64 2)
      have kX := KRF.out.put5 (.int .i64 ((pl : Int) + 1)) (.slice (some ⟨g, 0, none⟩) 6 cg) (.string stt) (.int .i64 (count + 1)) (.int .i64 2)
      have hOX := HOF.out.kept2 hg5 (by simp only [Value.ownBlock]; intro e; have e2 : g = R + 1 + 1 := Option.some.inj e; omega)
      have EX := HEF.out.grown hg5 (by omega)
      clear f0 f1 f2 f3 f4 r0 r1 r2 r3 r4 rz0 rz1 rz2 rz3 rz4 hg5
      unfold put5 at kX hOX EX
      generalize World.setCell _ _ _ = W10 at kX hOX EX
      have x0 := kX.c0
      have x1 := kX.c1
      have x2 := kX.c2
      have x3 := kX.c3
      have x4 := kX.c4
      refine bodyPost_ret (v := .tuple #[.agg #[.int .i64 ((pl : Int) + 1), .slice (some ⟨g, 0, none⟩) 6 cg, .string stt, .int .i64 (count + 1), .int .i64 2], .int .i64 0]) (by simp [results, Tryz.results19, go_sem, x0, x1, x2, x3, x4]) rfl ?_
      rw [HG2.out, show giveRun s ⟨(pl : Int), xs, st, count, over⟩ stt txt = ⟨(pl : Int) + 1, xs, stt, count + 1, 2⟩ from by
        unfold giveRun giveVars giveOver
        have h := HOPK.out; have hf := HF.out; simp only [h, if_pos hf]; rfl]
      exact ⟨some ⟨g, 0, none⟩, 6, cg, rfl, hOX.strs.1, by simpa using hxz, EX⟩
    have h12 := h
    clear h
    by_cases h : s.op = 13
    · rw [h] at z0
      have HOPK := Lib.hid h
      clear h
      have HF := Lib.hid hf
      clear hf
      go_upto_region 24 with (fail)
      have kF : Blk _ (R + 1) 27 (runL ((pl : Int) + 1) g cg stt (count + 1) 1) := (((kN8.set 4 (.int .i64 1)).set 0 (.int .i64 ((pl : Int) + 1))).set 3 (.int .i64 (count + 1)))
      have kRF := (((kR8.other hRN 4 (.int .i64 1)).other hRN 0 (.int .i64 ((pl : Int) + 1))).other hRN 3 (.int .i64 (count + 1)))
      have hOF := (((HO8.out.set (b := (R + 1)) hne 4 (.int .i64 1)).set (b := (R + 1)) hne 0 (.int .i64 ((pl : Int) + 1))).set (b := (R + 1)) hne 3 (.int .i64 (count + 1)))
      have EF := (Ext.set (Ext.set (Ext.set E8 (show w.heap.size ≤ (R + 1) by omega) 4 (.int .i64 1)) (show w.heap.size ≤ (R + 1) by omega) 0 (.int .i64 ((pl : Int) + 1))) (show w.heap.size ≤ (R + 1) by omega) 3 (.int .i64 (count + 1)))
      generalize World.setCell _ _ _ = W9 at kF kRF hOF EF
      clear z0 z1 z2 m0 m1 m2 m3 m4 mz0 mz3 mz4 kN8 kR8 kZ8 E8
      have HOF := Lib.hid hOF
      have HEF := Lib.hid EF
      clear hOF EF
      have f0 := kF.c0
      have f1 := kF.c1
      have f2 := kF.c2
      have f3 := kF.c3
      have f4 := kF.c4
      have r0 := kRF.c0
      have r1 := kRF.c1
      have r2 := kRF.c2
      have r3 := kRF.c3
      have r4 := kRF.c4
      have rz0 := kRF.fz 0
      have rz1 := kRF.fz 1
      have rz2 := kRF.fz 2
      have rz3 := kRF.fz 3
      have rz4 := kRF.fz 4
      have KF := Lib.hid kF
      have KRF := Lib.hid kRF
      clear kF kRF hng hgn hRg hRN hne o3' hc0 hp0 hpnI
      iterate 16 (try go_step)
      have hg5 := grown_put5 W9 (R + 1 + 1) (.int .i64 ((pl : Int) + 1)) (.slice (some ⟨g, 0, none⟩) 6 cg) (.string stt) (.int .i64 (count + 1)) (.int .i64 1)
      have kX := KRF.out.put5 (.int .i64 ((pl : Int) + 1)) (.slice (some ⟨g, 0, none⟩) 6 cg) (.string stt) (.int .i64 (count + 1)) (.int .i64 1)
      have hOX := HOF.out.kept2 hg5 (by simp only [Value.ownBlock]; intro e; have e2 : g = R + 1 + 1 := Option.some.inj e; omega)
      have EX := HEF.out.grown hg5 (by omega)
      clear f0 f1 f2 f3 f4 r0 r1 r2 r3 r4 rz0 rz1 rz2 rz3 rz4 hg5
      unfold put5 at kX hOX EX
      generalize World.setCell _ _ _ = W10 at kX hOX EX
      have x0 := kX.c0
      have x1 := kX.c1
      have x2 := kX.c2
      have x3 := kX.c3
      have x4 := kX.c4
      refine bodyPost_ret (v := .tuple #[.agg #[.int .i64 ((pl : Int) + 1), .slice (some ⟨g, 0, none⟩) 6 cg, .string stt, .int .i64 (count + 1), .int .i64 1], .int .i64 0]) (by simp [results, Tryz.results19, go_sem, x0, x1, x2, x3, x4]) rfl ?_
      rw [HG2.out, show giveRun s ⟨(pl : Int), xs, st, count, over⟩ stt txt = ⟨(pl : Int) + 1, xs, stt, count + 1, 1⟩ from by
        unfold giveRun giveVars giveOver
        have h := HOPK.out; have hf := HF.out; simp only [h, if_pos hf]; rfl]
      exact ⟨some ⟨g, 0, none⟩, 6, cg, rfl, hOX.strs.1, by simpa using hxz, EX⟩
    have h13 := h
    clear h
    have k1 := bq_no h1
    have k2 := bq_no h2
    have k12 := bq_no h12
    have k13 := bq_no h13
    have HN1 := Lib.hid h1
    have HN2 := Lib.hid h2
    have HN12 := Lib.hid h12
    have HN13 := Lib.hid h13
    clear h1 h2 h12 h13
    have HF := Lib.hid hf
    clear hf
    go_upto_region 24 with (fail)
    have kF : Blk _ (R + 1) 27 (runL ((pl : Int) + 1) g cg stt (count + 1) over) := ((kN8.set 0 (.int .i64 ((pl : Int) + 1))).set 3 (.int .i64 (count + 1)))
    have kRF := ((kR8.other hRN 0 (.int .i64 ((pl : Int) + 1))).other hRN 3 (.int .i64 (count + 1)))
    have hOF := ((HO8.out.set (b := (R + 1)) hne 0 (.int .i64 ((pl : Int) + 1))).set (b := (R + 1)) hne 3 (.int .i64 (count + 1)))
    have EF := (Ext.set (Ext.set E8 (show w.heap.size ≤ (R + 1) by omega) 0 (.int .i64 ((pl : Int) + 1))) (show w.heap.size ≤ (R + 1) by omega) 3 (.int .i64 (count + 1)))
    generalize World.setCell _ _ _ = W9 at kF kRF hOF EF
    clear z0 z1 z2 m0 m1 m2 m3 m4 mz0 mz3 mz4 kN8 kR8 kZ8 E8
    have HOF := Lib.hid hOF
    have HEF := Lib.hid EF
    clear hOF EF
    have f0 := kF.c0
    have f1 := kF.c1
    have f2 := kF.c2
    have f3 := kF.c3
    have f4 := kF.c4
    have r0 := kRF.c0
    have r1 := kRF.c1
    have r2 := kRF.c2
    have r3 := kRF.c3
    have r4 := kRF.c4
    have rz0 := kRF.fz 0
    have rz1 := kRF.fz 1
    have rz2 := kRF.fz 2
    have rz3 := kRF.fz 3
    have rz4 := kRF.fz 4
    have KF := Lib.hid kF
    have KRF := Lib.hid kRF
    clear kF kRF hng hgn hRg hRN hne o3' hc0 hp0 hpnI
    iterate 16 (try go_step)
    have hg5 := grown_put5 W9 (R + 1 + 1) (.int .i64 ((pl : Int) + 1)) (.slice (some ⟨g, 0, none⟩) 6 cg) (.string stt) (.int .i64 (count + 1)) (.int .i64 over)
    have kX := KRF.out.put5 (.int .i64 ((pl : Int) + 1)) (.slice (some ⟨g, 0, none⟩) 6 cg) (.string stt) (.int .i64 (count + 1)) (.int .i64 over)
    have hOX := HOF.out.kept2 hg5 (by simp only [Value.ownBlock]; intro e; have e2 : g = R + 1 + 1 := Option.some.inj e; omega)
    have EX := HEF.out.grown hg5 (by omega)
    clear f0 f1 f2 f3 f4 r0 r1 r2 r3 r4 rz0 rz1 rz2 rz3 rz4 hg5
    unfold put5 at kX hOX EX
    generalize World.setCell _ _ _ = W10 at kX hOX EX
    have x0 := kX.c0
    have x1 := kX.c1
    have x2 := kX.c2
    have x3 := kX.c3
    have x4 := kX.c4
    refine bodyPost_ret (v := .tuple #[.agg #[.int .i64 ((pl : Int) + 1), .slice (some ⟨g, 0, none⟩) 6 cg, .string stt, .int .i64 (count + 1), .int .i64 over], .int .i64 0]) (by simp [results, Tryz.results19, go_sem, x0, x1, x2, x3, x4]) rfl ?_
    rw [HG2.out, show giveRun s ⟨(pl : Int), xs, st, count, over⟩ stt txt = ⟨(pl : Int) + 1, xs, stt, count + 1, over⟩ from by
      unfold giveRun giveVars giveOver
      rw [if_pos HF.out, if_neg HN1.out, if_neg HN2.out, if_neg HN12.out, if_neg HN13.out]]
    exact ⟨some ⟨g, 0, none⟩, 6, cg, rfl, hOX.strs.1, by simpa using hxz, EX⟩
  · rw [decide_eq_false hf]
    by_cases h : s.op = 1
    · rw [h] at z0
      have HOPK := Lib.hid h
      clear h
      have HF := Lib.hid hf
      clear hf
      go_upto_region 24 with (fail)
      have kF : Blk _ (R + 1) 27 (runL ((pl : Int) + 1) g cg stt (count + 1) over) := ((kN8.set 0 (.int .i64 ((pl : Int) + 1))).set 3 (.int .i64 (count + 1)))
      have kRF := ((kR8.other hRN 0 (.int .i64 ((pl : Int) + 1))).other hRN 3 (.int .i64 (count + 1)))
      have hOF := ((HO8.out.set (b := (R + 1)) hne 0 (.int .i64 ((pl : Int) + 1))).set (b := (R + 1)) hne 3 (.int .i64 (count + 1)))
      have EF := (Ext.set (Ext.set E8 (show w.heap.size ≤ (R + 1) by omega) 0 (.int .i64 ((pl : Int) + 1))) (show w.heap.size ≤ (R + 1) by omega) 3 (.int .i64 (count + 1)))
      generalize World.setCell _ _ _ = W9 at kF kRF hOF EF
      clear z0 z1 z2 m0 m1 m2 m3 m4 mz0 mz3 mz4 kN8 kR8 kZ8 E8
      have HOF := Lib.hid hOF
      have HEF := Lib.hid EF
      clear hOF EF
      have f0 := kF.c0
      have f1 := kF.c1
      have f2 := kF.c2
      have f3 := kF.c3
      have f4 := kF.c4
      have r0 := kRF.c0
      have r1 := kRF.c1
      have r2 := kRF.c2
      have r3 := kRF.c3
      have r4 := kRF.c4
      have rz0 := kRF.fz 0
      have rz1 := kRF.fz 1
      have rz2 := kRF.fz 2
      have rz3 := kRF.fz 3
      have rz4 := kRF.fz 4
      have KF := Lib.hid kF
      have KRF := Lib.hid kRF
      clear kF kRF hng hgn hRg hRN hne o3' hc0 hp0 hpnI
      iterate 16 (try go_step)
      have hg5 := grown_put5 W9 (R + 1 + 1) (.int .i64 ((pl : Int) + 1)) (.slice (some ⟨g, 0, none⟩) 6 cg) (.string stt) (.int .i64 (count + 1)) (.int .i64 over)
      have kX := KRF.out.put5 (.int .i64 ((pl : Int) + 1)) (.slice (some ⟨g, 0, none⟩) 6 cg) (.string stt) (.int .i64 (count + 1)) (.int .i64 over)
      have hOX := HOF.out.kept2 hg5 (by simp only [Value.ownBlock]; intro e; have e2 : g = R + 1 + 1 := Option.some.inj e; omega)
      have EX := HEF.out.grown hg5 (by omega)
      clear f0 f1 f2 f3 f4 r0 r1 r2 r3 r4 rz0 rz1 rz2 rz3 rz4 hg5
      unfold put5 at kX hOX EX
      generalize World.setCell _ _ _ = W10 at kX hOX EX
      have x0 := kX.c0
      have x1 := kX.c1
      have x2 := kX.c2
      have x3 := kX.c3
      have x4 := kX.c4
      refine bodyPost_ret (v := .tuple #[.agg #[.int .i64 ((pl : Int) + 1), .slice (some ⟨g, 0, none⟩) 6 cg, .string stt, .int .i64 (count + 1), .int .i64 over], .int .i64 0]) (by simp [results, Tryz.results19, go_sem, x0, x1, x2, x3, x4]) rfl ?_
      rw [HG2.out, show giveRun s ⟨(pl : Int), xs, st, count, over⟩ stt txt = ⟨(pl : Int) + 1, xs, stt, count + 1, over⟩ from by
        unfold giveRun giveVars giveOver
        have h := HOPK.out; have hf := HF.out; simp only [h, if_neg hf]; rfl]
      exact ⟨some ⟨g, 0, none⟩, 6, cg, rfl, hOX.strs.1, by simpa using hxz, EX⟩
    have h1 := h
    clear h
    by_cases h : s.op = 2
    · rw [h] at z0
      have HOPK := Lib.hid h
      clear h
      have HF := Lib.hid hf
      clear hf
      go_upto_region 24 with (fail)
      have kF : Blk _ (R + 1) 27 (runL ((pl : Int) + 1) g cg stt (count + 1) over) := ((kN8.set 0 (.int .i64 ((pl : Int) + 1))).set 3 (.int .i64 (count + 1)))
      have kRF := ((kR8.other hRN 0 (.int .i64 ((pl : Int) + 1))).other hRN 3 (.int .i64 (count + 1)))
      have hOF := ((HO8.out.set (b := (R + 1)) hne 0 (.int .i64 ((pl : Int) + 1))).set (b := (R + 1)) hne 3 (.int .i64 (count + 1)))
      have EF := (Ext.set (Ext.set E8 (show w.heap.size ≤ (R + 1) by omega) 0 (.int .i64 ((pl : Int) + 1))) (show w.heap.size ≤ (R + 1) by omega) 3 (.int .i64 (count + 1)))
      generalize World.setCell _ _ _ = W9 at kF kRF hOF EF
      clear z0 z1 z2 m0 m1 m2 m3 m4 mz0 mz3 mz4 kN8 kR8 kZ8 E8
      have HOF := Lib.hid hOF
      have HEF := Lib.hid EF
      clear hOF EF
      have f0 := kF.c0
      have f1 := kF.c1
      have f2 := kF.c2
      have f3 := kF.c3
      have f4 := kF.c4
      have r0 := kRF.c0
      have r1 := kRF.c1
      have r2 := kRF.c2
      have r3 := kRF.c3
      have r4 := kRF.c4
      have rz0 := kRF.fz 0
      have rz1 := kRF.fz 1
      have rz2 := kRF.fz 2
      have rz3 := kRF.fz 3
      have rz4 := kRF.fz 4
      have KF := Lib.hid kF
      have KRF := Lib.hid kRF
      clear kF kRF hng hgn hRg hRN hne o3' hc0 hp0 hpnI
      iterate 16 (try go_step)
      have hg5 := grown_put5 W9 (R + 1 + 1) (.int .i64 ((pl : Int) + 1)) (.slice (some ⟨g, 0, none⟩) 6 cg) (.string stt) (.int .i64 (count + 1)) (.int .i64 over)
      have kX := KRF.out.put5 (.int .i64 ((pl : Int) + 1)) (.slice (some ⟨g, 0, none⟩) 6 cg) (.string stt) (.int .i64 (count + 1)) (.int .i64 over)
      have hOX := HOF.out.kept2 hg5 (by simp only [Value.ownBlock]; intro e; have e2 : g = R + 1 + 1 := Option.some.inj e; omega)
      have EX := HEF.out.grown hg5 (by omega)
      clear f0 f1 f2 f3 f4 r0 r1 r2 r3 r4 rz0 rz1 rz2 rz3 rz4 hg5
      unfold put5 at kX hOX EX
      generalize World.setCell _ _ _ = W10 at kX hOX EX
      have x0 := kX.c0
      have x1 := kX.c1
      have x2 := kX.c2
      have x3 := kX.c3
      have x4 := kX.c4
      refine bodyPost_ret (v := .tuple #[.agg #[.int .i64 ((pl : Int) + 1), .slice (some ⟨g, 0, none⟩) 6 cg, .string stt, .int .i64 (count + 1), .int .i64 over], .int .i64 0]) (by simp [results, Tryz.results19, go_sem, x0, x1, x2, x3, x4]) rfl ?_
      rw [HG2.out, show giveRun s ⟨(pl : Int), xs, st, count, over⟩ stt txt = ⟨(pl : Int) + 1, xs, stt, count + 1, over⟩ from by
        unfold giveRun giveVars giveOver
        have h := HOPK.out; have hf := HF.out; simp only [h, if_neg hf]; rfl]
      exact ⟨some ⟨g, 0, none⟩, 6, cg, rfl, hOX.strs.1, by simpa using hxz, EX⟩
    have h2 := h
    clear h
    by_cases h : s.op = 12
    · rw [h] at z0
      have HOPK := Lib.hid h
      clear h
      have HF := Lib.hid hf
      clear hf
      go_upto_region 24 with (fail)
      have kF : Blk _ (R + 1) 27 (runL ((pl : Int) + 1) g cg stt (count + 1) 2) := (((kN8.set 4 (.int .i64 2)).set 0 (.int .i64 ((pl : Int) + 1))).set 3 (.int .i64 (count + 1)))
      have kRF := (((kR8.other hRN 4 (.int .i64 2)).other hRN 0 (.int .i64 ((pl : Int) + 1))).other hRN 3 (.int .i64 (count + 1)))
      have hOF := (((HO8.out.set (b := (R + 1)) hne 4 (.int .i64 2)).set (b := (R + 1)) hne 0 (.int .i64 ((pl : Int) + 1))).set (b := (R + 1)) hne 3 (.int .i64 (count + 1)))
      have EF := (Ext.set (Ext.set (Ext.set E8 (show w.heap.size ≤ (R + 1) by omega) 4 (.int .i64 2)) (show w.heap.size ≤ (R + 1) by omega) 0 (.int .i64 ((pl : Int) + 1))) (show w.heap.size ≤ (R + 1) by omega) 3 (.int .i64 (count + 1)))
      generalize World.setCell _ _ _ = W9 at kF kRF hOF EF
      clear z0 z1 z2 m0 m1 m2 m3 m4 mz0 mz3 mz4 kN8 kR8 kZ8 E8
      have HOF := Lib.hid hOF
      have HEF := Lib.hid EF
      clear hOF EF
      have f0 := kF.c0
      have f1 := kF.c1
      have f2 := kF.c2
      have f3 := kF.c3
      have f4 := kF.c4
      have r0 := kRF.c0
      have r1 := kRF.c1
      have r2 := kRF.c2
      have r3 := kRF.c3
      have r4 := kRF.c4
      have rz0 := kRF.fz 0
      have rz1 := kRF.fz 1
      have rz2 := kRF.fz 2
      have rz3 := kRF.fz 3
      have rz4 := kRF.fz 4
      have KF := Lib.hid kF
      have KRF := Lib.hid kRF
      clear kF kRF hng hgn hRg hRN hne o3' hc0 hp0 hpnI
      iterate 16 (try go_step)
      have hg5 := grown_put5 W9 (R + 1 + 1) (.int .i64 ((pl : Int) + 1)) (.slice (some ⟨g, 0, none⟩) 6 cg) (.string stt) (.int .i64 (count + 1)) (.int .i64 2)
      have kX := KRF.out.put5 (.int .i64 ((pl : Int) + 1)) (.slice (some ⟨g, 0, none⟩) 6 cg) (.string stt) (.int .i64 (count + 1)) (.int .i64 2)
      have hOX := HOF.out.kept2 hg5 (by simp only [Value.ownBlock]; intro e; have e2 : g = R + 1 + 1 := Option.some.inj e; omega)
      have EX := HEF.out.grown hg5 (by omega)
      clear f0 f1 f2 f3 f4 r0 r1 r2 r3 r4 rz0 rz1 rz2 rz3 rz4 hg5
      unfold put5 at kX hOX EX
      generalize World.setCell _ _ _ = W10 at kX hOX EX
      have x0 := kX.c0
      have x1 := kX.c1
      have x2 := kX.c2
      have x3 := kX.c3
      have x4 := kX.c4
      refine bodyPost_ret (v := .tuple #[.agg #[.int .i64 ((pl : Int) + 1), .slice (some ⟨g, 0, none⟩) 6 cg, .string stt, .int .i64 (count + 1), .int .i64 2], .int .i64 0]) (by simp [results, Tryz.results19, go_sem, x0, x1, x2, x3, x4]) rfl ?_
      rw [HG2.out, show giveRun s ⟨(pl : Int), xs, st, count, over⟩ stt txt = ⟨(pl : Int) + 1, xs, stt, count + 1, 2⟩ from by
        unfold giveRun giveVars giveOver
        have h := HOPK.out; have hf := HF.out; simp only [h, if_neg hf]; rfl]
      exact ⟨some ⟨g, 0, none⟩, 6, cg, rfl, hOX.strs.1, by simpa using hxz, EX⟩
    have h12 := h
    clear h
    by_cases h : s.op = 13
    · rw [h] at z0
      have HOPK := Lib.hid h
      clear h
      have HF := Lib.hid hf
      clear hf
      go_upto_region 24 with (fail)
      have kF : Blk _ (R + 1) 27 (runL ((pl : Int) + 1) g cg stt (count + 1) 1) := (((kN8.set 4 (.int .i64 1)).set 0 (.int .i64 ((pl : Int) + 1))).set 3 (.int .i64 (count + 1)))
      have kRF := (((kR8.other hRN 4 (.int .i64 1)).other hRN 0 (.int .i64 ((pl : Int) + 1))).other hRN 3 (.int .i64 (count + 1)))
      have hOF := (((HO8.out.set (b := (R + 1)) hne 4 (.int .i64 1)).set (b := (R + 1)) hne 0 (.int .i64 ((pl : Int) + 1))).set (b := (R + 1)) hne 3 (.int .i64 (count + 1)))
      have EF := (Ext.set (Ext.set (Ext.set E8 (show w.heap.size ≤ (R + 1) by omega) 4 (.int .i64 1)) (show w.heap.size ≤ (R + 1) by omega) 0 (.int .i64 ((pl : Int) + 1))) (show w.heap.size ≤ (R + 1) by omega) 3 (.int .i64 (count + 1)))
      generalize World.setCell _ _ _ = W9 at kF kRF hOF EF
      clear z0 z1 z2 m0 m1 m2 m3 m4 mz0 mz3 mz4 kN8 kR8 kZ8 E8
      have HOF := Lib.hid hOF
      have HEF := Lib.hid EF
      clear hOF EF
      have f0 := kF.c0
      have f1 := kF.c1
      have f2 := kF.c2
      have f3 := kF.c3
      have f4 := kF.c4
      have r0 := kRF.c0
      have r1 := kRF.c1
      have r2 := kRF.c2
      have r3 := kRF.c3
      have r4 := kRF.c4
      have rz0 := kRF.fz 0
      have rz1 := kRF.fz 1
      have rz2 := kRF.fz 2
      have rz3 := kRF.fz 3
      have rz4 := kRF.fz 4
      have KF := Lib.hid kF
      have KRF := Lib.hid kRF
      clear kF kRF hng hgn hRg hRN hne o3' hc0 hp0 hpnI
      iterate 16 (try go_step)
      have hg5 := grown_put5 W9 (R + 1 + 1) (.int .i64 ((pl : Int) + 1)) (.slice (some ⟨g, 0, none⟩) 6 cg) (.string stt) (.int .i64 (count + 1)) (.int .i64 1)
      have kX := KRF.out.put5 (.int .i64 ((pl : Int) + 1)) (.slice (some ⟨g, 0, none⟩) 6 cg) (.string stt) (.int .i64 (count + 1)) (.int .i64 1)
      have hOX := HOF.out.kept2 hg5 (by simp only [Value.ownBlock]; intro e; have e2 : g = R + 1 + 1 := Option.some.inj e; omega)
      have EX := HEF.out.grown hg5 (by omega)
      clear f0 f1 f2 f3 f4 r0 r1 r2 r3 r4 rz0 rz1 rz2 rz3 rz4 hg5
      unfold put5 at kX hOX EX
      generalize World.setCell _ _ _ = W10 at kX hOX EX
      have x0 := kX.c0
      have x1 := kX.c1
      have x2 := kX.c2
      have x3 := kX.c3
      have x4 := kX.c4
      refine bodyPost_ret (v := .tuple #[.agg #[.int .i64 ((pl : Int) + 1), .slice (some ⟨g, 0, none⟩) 6 cg, .string stt, .int .i64 (count + 1), .int .i64 1], .int .i64 0]) (by simp [results, Tryz.results19, go_sem, x0, x1, x2, x3, x4]) rfl ?_
      rw [HG2.out, show giveRun s ⟨(pl : Int), xs, st, count, over⟩ stt txt = ⟨(pl : Int) + 1, xs, stt, count + 1, 1⟩ from by
        unfold giveRun giveVars giveOver
        have h := HOPK.out; have hf := HF.out; simp only [h, if_neg hf]; rfl]
      exact ⟨some ⟨g, 0, none⟩, 6, cg, rfl, hOX.strs.1, by simpa using hxz, EX⟩
    have h13 := h
    clear h
    have k1 := bq_no h1
    have k2 := bq_no h2
    have k12 := bq_no h12
    have k13 := bq_no h13
    have HN1 := Lib.hid h1
    have HN2 := Lib.hid h2
    have HN12 := Lib.hid h12
    have HN13 := Lib.hid h13
    clear h1 h2 h12 h13
    have HF := Lib.hid hf
    clear hf
    go_upto_region 24 with (fail)
    have kF : Blk _ (R + 1) 27 (runL ((pl : Int) + 1) g cg stt (count + 1) over) := ((kN8.set 0 (.int .i64 ((pl : Int) + 1))).set 3 (.int .i64 (count + 1)))
    have kRF := ((kR8.other hRN 0 (.int .i64 ((pl : Int) + 1))).other hRN 3 (.int .i64 (count + 1)))
    have hOF := ((HO8.out.set (b := (R + 1)) hne 0 (.int .i64 ((pl : Int) + 1))).set (b := (R + 1)) hne 3 (.int .i64 (count + 1)))
    have EF := (Ext.set (Ext.set E8 (show w.heap.size ≤ (R + 1) by omega) 0 (.int .i64 ((pl : Int) + 1))) (show w.heap.size ≤ (R + 1) by omega) 3 (.int .i64 (count + 1)))
    generalize World.setCell _ _ _ = W9 at kF kRF hOF EF
    clear z0 z1 z2 m0 m1 m2 m3 m4 mz0 mz3 mz4 kN8 kR8 kZ8 E8
    have HOF := Lib.hid hOF
    have HEF := Lib.hid EF
    clear hOF EF
    have f0 := kF.c0
    have f1 := kF.c1
    have f2 := kF.c2
    have f3 := kF.c3
    have f4 := kF.c4
    have r0 := kRF.c0
    have r1 := kRF.c1
    have r2 := kRF.c2
    have r3 := kRF.c3
    have r4 := kRF.c4
    have rz0 := kRF.fz 0
    have rz1 := kRF.fz 1
    have rz2 := kRF.fz 2
    have rz3 := kRF.fz 3
    have rz4 := kRF.fz 4
    have KF := Lib.hid kF
    have KRF := Lib.hid kRF
    clear kF kRF hng hgn hRg hRN hne o3' hc0 hp0 hpnI
    iterate 16 (try go_step)
    have hg5 := grown_put5 W9 (R + 1 + 1) (.int .i64 ((pl : Int) + 1)) (.slice (some ⟨g, 0, none⟩) 6 cg) (.string stt) (.int .i64 (count + 1)) (.int .i64 over)
    have kX := KRF.out.put5 (.int .i64 ((pl : Int) + 1)) (.slice (some ⟨g, 0, none⟩) 6 cg) (.string stt) (.int .i64 (count + 1)) (.int .i64 over)
    have hOX := HOF.out.kept2 hg5 (by simp only [Value.ownBlock]; intro e; have e2 : g = R + 1 + 1 := Option.some.inj e; omega)
    have EX := HEF.out.grown hg5 (by omega)
    clear f0 f1 f2 f3 f4 r0 r1 r2 r3 r4 rz0 rz1 rz2 rz3 rz4 hg5
    unfold put5 at kX hOX EX
    generalize World.setCell _ _ _ = W10 at kX hOX EX
    have x0 := kX.c0
    have x1 := kX.c1
    have x2 := kX.c2
    have x3 := kX.c3
    have x4 := kX.c4
    refine bodyPost_ret (v := .tuple #[.agg #[.int .i64 ((pl : Int) + 1), .slice (some ⟨g, 0, none⟩) 6 cg, .string stt, .int .i64 (count + 1), .int .i64 over], .int .i64 0]) (by simp [results, Tryz.results19, go_sem, x0, x1, x2, x3, x4]) rfl ?_
    rw [HG2.out, show giveRun s ⟨(pl : Int), xs, st, count, over⟩ stt txt = ⟨(pl : Int) + 1, xs, stt, count + 1, over⟩ from by
      unfold giveRun giveVars giveOver
      rw [if_neg HF.out, if_neg HN12.out, if_neg HN13.out]]
    exact ⟨some ⟨g, 0, none⟩, 6, cg, rfl, hOX.strs.1, by simpa using hxz, EX⟩

set_option maxRecDepth 100000 in
set_option maxHeartbeats 8000000 in
theorem give19_bad (nm : ByteArray) (A : Option Addr) (n c : Nat) (ss : List Step) (place count over : Int) (T : Option Addr) (k d : Nat) (xs : List ByteArray) (st stt txt : ByteArray) (w : World) (hp : StepsAt w A ss) (hpl : ss.length = n) (hpb : BdS ss) (hnm : (nm.size : Int) ≤ 1000000) (hx : Strs w T xs) (hl : xs.length = k) (hb : Bd xs) (hs1 : (stt.size : Int) ≤ 1000000000) (hs2 : (txt.size : Int) ≤ 1000000000) (hask0 : askedR ⟨nm, ss⟩ ⟨place, xs, st, count, over⟩ = 0) (hbad0 : giveBad ⟨nm, ss⟩ ⟨place, xs, st, count, over⟩ stt txt = true) :
    Calls Tryz.prog 19 #[.agg #[.string nm, .slice A n c], runV place T k d st count over, .string stt, .string txt] w fun e w' => ∃ T' k' d', e = .returned (.tuple #[runV (giveS ⟨nm, ss⟩ ⟨place, xs, st, count, over⟩ stt txt).1.place T' k' d' (giveS ⟨nm, ss⟩ ⟨place, xs, st, count, over⟩ stt txt).1.status (giveS ⟨nm, ss⟩ ⟨place, xs, st, count, over⟩ stt txt).1.count (giveS ⟨nm, ss⟩ ⟨place, xs, st, count, over⟩ stt txt).1.over, .int .i64 (giveS ⟨nm, ss⟩ ⟨place, xs, st, count, over⟩ stt txt).2]) ∧
      Strs w' T' (giveS ⟨nm, ss⟩ ⟨place, xs, st, count, over⟩ stt txt).1.vars ∧ (giveS ⟨nm, ss⟩ ⟨place, xs, st, count, over⟩ stt txt).1.vars.length = k' ∧ Ext w w' := by
  obtain ⟨P, hP⟩ : ∃ P : Prog, (⟨nm, ss⟩ : Prog) = P := ⟨_, rfl⟩
  rw [hP]
  have hask : askedS ⟨nm, ss⟩ place xs st count over = askedR P ⟨place, xs, st, count, over⟩ := by rw [← hP]; rfl
  obtain ⟨GR, hGR⟩ : ∃ GR, giveS P ⟨place, xs, st, count, over⟩ stt txt = GR := ⟨_, rfl⟩
  rw [hGR]
  have HGR := Lib.hid hGR
  clear hGR
  have E0 := Ext.al (Ext.al (Ext.new w (.cells #[.string nm, .slice A n c] 24)) (.cells #[.int .i64 place, .slice T k d, .string st, .int .i64 count, .int .i64 over] 27)) (.cells #[.int .i64 0, .slice none 0 0, .string ⟨#[]⟩, .int .i64 0, .int .i64 0] 27)
  have kP := (Blk.new w [.string nm, .slice A n c] 24).ext (Ext.al (Ext.new _ (.cells #[.int .i64 place, .slice T k d, .string st, .int .i64 count, .int .i64 over] 27)) (.cells #[.int .i64 0, .slice none 0 0, .string ⟨#[]⟩, .int .i64 0, .int .i64 0] 27))
  have kB := (Blk.new (w.alloc (.cells #[.string nm, .slice A n c] 24)) [.int .i64 place, .slice T k d, .string st, .int .i64 count, .int .i64 over] 27).ext (Ext.new _ (.cells #[.int .i64 0, .slice none 0 0, .string ⟨#[]⟩, .int .i64 0, .int .i64 0] 27))
  have kR := Blk.new ((w.alloc (.cells #[.string nm, .slice A n c] 24)).alloc (.cells #[.int .i64 place, .slice T k d, .string st, .int .i64 count, .int .i64 over] 27)) [.int .i64 0, .slice none 0 0, .string ⟨#[]⟩, .int .i64 0, .int .i64 0] 27
  simp only [World.size_alloc] at kB kR
  obtain ⟨R, hR⟩ : ∃ R, w.heap.size = R := ⟨_, rfl⟩
  have HP0 := Lib.hid hp
  have HPL := Lib.hid hpl
  have HPB := Lib.hid hpb
  have HX := Lib.hid hx
  have HLX := Lib.hid hl
  have HB := Lib.hid hb
  have HASK := Lib.hid hask
  have HPP := Lib.hid hP
  clear hp hpl hpb hx hl hb hask hP
  unfold runV
  go_enter Tryz.func19, Tryz.ntmps19
  go_upto_region 1 with (fail)
  rw [hR] at kP kB kR
  try simp only [hR]
  generalize World.alloc _ _ = W0 at E0 kP kB kR
  have p0 := kP.c0
  have p1 := kP.c1
  have b0 := kB.c0
  have b1 := kB.c1
  have b2 := kB.c2
  have b3 := kB.c3
  have b4 := kB.c4
  go_wp2_with fail
  refine (asked45 nm A n c ss place count over T k d xs st W0 (HP0.out.ext E0) HPL.out HPB.out hnm (HX.out.ext E0) HLX.out HB.out).mono ?_
  rintro e W1 ⟨rfl, he⟩
  rw [HASK.out]
  clear p0 p1 b0 b1 b2 b3 b4
  replace kP := kP.ext he
  replace kB := kB.ext he
  replace kR := kR.ext he
  replace E0 := Ext.trans E0 he
  clear he
  have ha := hask0
  rw [HPP.out] at ha hbad0
  have HB0 := Lib.hid hbad0
  clear hask0 hbad0
  obtain ⟨hv, hok⟩ := asked_ok ha
  have h6 : xs.length = 6 := hok.six
  obtain rfl : k = 6 := by rw [← HLX.out]; exact h6
  rw [ha]
  have HA := Lib.hid ha
  have HV := Lib.hid hv
  have HOK := Lib.hid hok
  clear ha hv hok h6
  have hnP : P.steps.length = n := by rw [← HPP.out]; exact HPL.out
  have hn40 : n ≤ 40 := by rw [← hnP]; exact (validOk HV.out).len
  have hq := HOK.out
  rw [hnP] at hq
  have b0 := kB.c0
  have b1 := kB.c1
  have b2 := kB.c2
  have b3 := kB.c3
  have b4 := kB.c4
  have bz1 := kB.fz 1
  go_wp2_with fail
  refine (clone46 T 6 d xs W1 (HX.out.ext E0) HLX.out (by omega) (by omega)).mono ?_
  rintro e W2 ⟨g, cg, rfl, ho, he⟩
  clear b0 b1 b2 b3 b4 bz1
  have hB1 : R + 1 + 1 < W1.heap.size := kR.lt
  replace kP := kP.ext he
  replace kB := kB.ext he
  replace kR := kR.ext he
  replace E0 := Ext.trans E0 he
  have hBg : W1.heap.size ≤ g := (World.ownsRow.lt ho g rfl).1
  clear he
  have b1 := kB.c1
  have bz1 := kB.fz 1
  go_upto_region 5 with (fail)
  clear b1 bz1
  have kB' : Blk (W2.setCell ⟨R + 1, 1, none⟩ (.slice (some ⟨g, 0, none⟩) 6 cg)) (R + 1) 27 (runL place g cg st count over) := kB.set 1 (.slice (some ⟨g, 0, none⟩) 6 cg)
  have kP' := kP.other (show R ≠ R + 1 by omega) 1 (.slice (some ⟨g, 0, none⟩) 6 cg)
  have kR' := kR.other (show R + 1 + 1 ≠ R + 1 by omega) 1 (.slice (some ⟨g, 0, none⟩) 6 cg)
  have hO' := ho.set (b := R + 1) (by simp [Value.ownBlock]; omega) 1 (.slice (some ⟨g, 0, none⟩) 6 cg)
  have E' := Ext.set E0 (show w.heap.size ≤ R + 1 by omega) 1 (.slice (some ⟨g, 0, none⟩) 6 cg)
  generalize World.setCell _ _ _ = wc at kB' kP' kR' hO' E'
  clear kB kP kR ho E0
  have hgR : R + 1 + 1 < g := by omega
  by_cases c1 : (stt.size : Int) = 2
  · have c1B : ((stt.size : Int) == 2) = true := by rw [c1]; rfl
    by_cases c2 : (100 : Int) < (txt.size : Int)
    · have r0 := kR'.c0
      have r1 := kR'.c1
      have r2 := kR'.c2
      have r3 := kR'.c3
      have r4 := kR'.c4
      have rz0 := kR'.fz 0
      have rz1 := kR'.fz 1
      have rz2 := kR'.fz 2
      have rz3 := kR'.fz 3
      have rz4 := kR'.fz 4
      go_wp2_with fail
      have hg5 := grown_put5 wc (R + 1 + 1) (.int .i64 0) (.slice none 0 0) (.string ⟨#[]⟩) (.int .i64 0) (.int .i64 0)
      have kR9 := kR'.put5 (.int .i64 0) (.slice none 0 0) (.string ⟨#[]⟩) (.int .i64 0) (.int .i64 0)
      have E9 := E'.grown hg5 (by omega)
      have q0 := kR9.c0
      have q1 := kR9.c1
      have q2 := kR9.c2
      have q3 := kR9.c3
      have q4 := kR9.c4
      refine bodyPost_ret (v := .tuple #[.agg #[.int .i64 0, .slice none 0 0, .string ⟨#[]⟩, .int .i64 0, .int .i64 0], .int .i64 2]) (by simp [results, Tryz.results19, go_sem, q0, q1, q2, q3, q4]) rfl ?_
      have hGR := HGR.out
      rw [giveS_bad HA.out HB0.out] at hGR
      rw [← hGR]
      exact ⟨none, 0, 0, rfl, Strs.nil _ _, rfl, E9⟩
    · have p0 := kP'.c0
      have p1 := kP'.c1
      go_wp2_with fail
      refine (over47 nm A n c (R + 1) place count over (.slice (some ⟨g, 0, none⟩) 6 cg) st xs wc (by omega) kB').mono ?_
      rintro e wo ⟨rfl, kO, hk47⟩
      clear p0 p1
      have kP2 := (hk47.block R kP'.lt (by omega)).trans kP'
      have kR2 : Blk wo (R + 1 + 1) 27 _ := (hk47.block (R + 1 + 1) kR'.lt (by omega)).trans kR'
      replace kP2 : Blk wo R 24 [.string nm, .slice A n c] := kP2
      have hO2 := hO'.kept2 hk47.grown (by simp [Value.ownBlock]; omega)
      have E2 : Ext w wo := hk47.below E' (by omega)
      clear hk47 kB' kP' kR' hO' E'
      by_cases ho : overN n ⟨place, xs, st, count, over⟩ = 0
      · rw [ho, if_neg (by simp)] at kO
        rw [ho, decide_eq_false (by simp)]
        have hop := give_op19 HB0.out c1 (by omega) (by rw [hnP]; exact ho)
        obtain ⟨o1, o2, o3⟩ := over0 ho hq
        have o1' : over = 0 := o1
        have o2' : place < (n : Int) := o2
        have hp0 : 0 ≤ place := hq.p0
        have o3' : count < 200 := o3
        have hc0 : 0 ≤ count := hq.c0
        obtain ⟨pl, hpl⟩ : ∃ pl : Nat, place = pl := ⟨place.toNat, by omega⟩
        subst hpl
        have hpn : pl < ss.length := by have := HPL.out; omega
        obtain ⟨ad, Ts, cs, hA, s0, s1, s2, s3, hcs, hsx⟩ := HP0.out pl hpn
        subst hA
        replace s0 := E2.cell s0
        replace s1 := E2.cell s1
        replace s2 := E2.cell s2
        replace s3 := E2.cell s3
        obtain ⟨s, hs⟩ : ∃ s, ss[pl] = s := ⟨_, rfl⟩
        rw [hs] at s0 s1 s2 s3 hcs hsx
        have hsP : s ∈ P.steps := by rw [← HPP.out, ← hs]; exact List.getElem_mem _
        have hat : stepAt P (pl : Int) = s := by
          unfold stepAt
          rw [← HPP.out, Int.toNat_natCast]
          show ss.getD pl zeroStep = s
          rw [List.getD_eq_getElem?_getD, List.getElem?_eq_getElem hpn, hs]
          rfl
        have hsok := (validOk HV.out).each s hsP
        have hpnI : (pl : Int) < (n : Int) := by omega
        have p0 := kP2.c0
        have p1 := kP2.c1
        have b0 := kO.c0
        have HAT := Lib.hid hat
        have HSOK := Lib.hid hsok
        have HO1 := Lib.hid o1'
        clear hs hsP hat hsok o1 o2 o3 o1' hsx hq
        rw [show stepAt P (RunS.place ⟨(pl : Int), xs, st, count, over⟩) = s from HAT.out] at hop
        obtain ⟨h3, h7⟩ := hop
        go_upto_region 8 with (fail)
        have eN := Ext.new wo (.cells #[.int .i64 s.op, .int .i64 s.a, .int .i64 s.b, .slice Ts s.texts.length cs] 77)
        have kZ := Blk.new wo [.int .i64 s.op, .int .i64 s.a, .int .i64 s.b, .slice Ts s.texts.length cs] 77
        obtain ⟨Z, hZ⟩ : ∃ Z, wo.heap.size = Z := ⟨_, rfl⟩
        have hRo : R + 1 + 1 < Z := by have := kR2.lt; omega
        have hgo : g < Z := by have := (World.ownsRow.lt hO2 g rfl).2; omega
        rw [hZ] at kZ
        try simp only [hZ]
        have kO3 := kO.ext eN
        have kR3 := kR2.ext eN
        have hO3 := hO2.ext eN
        have E3 := Ext.trans E2 eN
        generalize World.alloc _ _ = W3 at kZ kO3 kR3 E3 hO3
        clear s0 s1 s2 s3 b0 p0 p1 eN kO kR2 kP2 E2 hZ
        have z0 := kZ.c0
        have r0 := kR3.c0
        have r1 := kR3.c1
        have r2 := kR3.c2
        have r3 := kR3.c3
        have r4 := kR3.c4
        have rz0 := kR3.fz 0
        have rz1 := kR3.fz 1
        have rz2 := kR3.fz 2
        have rz3 := kR3.fz 3
        have rz4 := kR3.fz 4
        go_wp2_with fail
        have hg5 := grown_put5 W3 (R + 1 + 1) (.int .i64 0) (.slice none 0 0) (.string ⟨#[]⟩) (.int .i64 0) (.int .i64 0)
        have kR9 := kR3.put5 (.int .i64 0) (.slice none 0 0) (.string ⟨#[]⟩) (.int .i64 0) (.int .i64 0)
        have E9 := E3.grown hg5 (by omega)
        have q0 := kR9.c0
        have q1 := kR9.c1
        have q2 := kR9.c2
        have q3 := kR9.c3
        have q4 := kR9.c4
        refine bodyPost_ret (v := .tuple #[.agg #[.int .i64 0, .slice none 0 0, .string ⟨#[]⟩, .int .i64 0, .int .i64 0], .int .i64 2]) (by simp [results, Tryz.results19, go_sem, q0, q1, q2, q3, q4]) rfl ?_
        have hGR := HGR.out
        rw [giveS_bad HA.out HB0.out] at hGR
        rw [← hGR]
        exact ⟨none, 0, 0, rfl, Strs.nil _ _, rfl, E9⟩
      · rw [decide_eq_true ho]
        have r0 := kR2.c0
        have r1 := kR2.c1
        have r2 := kR2.c2
        have r3 := kR2.c3
        have r4 := kR2.c4
        have rz0 := kR2.fz 0
        have rz1 := kR2.fz 1
        have rz2 := kR2.fz 2
        have rz3 := kR2.fz 3
        have rz4 := kR2.fz 4
        go_wp2_with fail
        have hg5 := grown_put5 wo (R + 1 + 1) (.int .i64 0) (.slice none 0 0) (.string ⟨#[]⟩) (.int .i64 0) (.int .i64 0)
        have kR9 := kR2.put5 (.int .i64 0) (.slice none 0 0) (.string ⟨#[]⟩) (.int .i64 0) (.int .i64 0)
        have E9 := E2.grown hg5 (by omega)
        have q0 := kR9.c0
        have q1 := kR9.c1
        have q2 := kR9.c2
        have q3 := kR9.c3
        have q4 := kR9.c4
        refine bodyPost_ret (v := .tuple #[.agg #[.int .i64 0, .slice none 0 0, .string ⟨#[]⟩, .int .i64 0, .int .i64 0], .int .i64 2]) (by simp [results, Tryz.results19, go_sem, q0, q1, q2, q3, q4]) rfl ?_
        have hGR := HGR.out
        rw [giveS_bad HA.out HB0.out] at hGR
        rw [← hGR]
        exact ⟨none, 0, 0, rfl, Strs.nil _ _, rfl, E9⟩
  · have c1B := bq_no c1
    have r0 := kR'.c0
    have r1 := kR'.c1
    have r2 := kR'.c2
    have r3 := kR'.c3
    have r4 := kR'.c4
    have rz0 := kR'.fz 0
    have rz1 := kR'.fz 1
    have rz2 := kR'.fz 2
    have rz3 := kR'.fz 3
    have rz4 := kR'.fz 4
    go_wp2_with fail
    have hg5 := grown_put5 wc (R + 1 + 1) (.int .i64 0) (.slice none 0 0) (.string ⟨#[]⟩) (.int .i64 0) (.int .i64 0)
    have kR9 := kR'.put5 (.int .i64 0) (.slice none 0 0) (.string ⟨#[]⟩) (.int .i64 0) (.int .i64 0)
    have E9 := E'.grown hg5 (by omega)
    have q0 := kR9.c0
    have q1 := kR9.c1
    have q2 := kR9.c2
    have q3 := kR9.c3
    have q4 := kR9.c4
    refine bodyPost_ret (v := .tuple #[.agg #[.int .i64 0, .slice none 0 0, .string ⟨#[]⟩, .int .i64 0, .int .i64 0], .int .i64 2]) (by simp [results, Tryz.results19, go_sem, q0, q1, q2, q3, q4]) rfl ?_
    have hGR := HGR.out
    rw [giveS_bad HA.out HB0.out] at hGR
    rw [← hGR]
    exact ⟨none, 0, 0, rfl, Strs.nil _ _, rfl, E9⟩

theorem give19 (nm : ByteArray) (A : Option Addr) (n c : Nat) (ss : List Step) (place count over : Int) (T : Option Addr) (k d : Nat) (xs : List ByteArray) (st stt txt : ByteArray) (w : World) (hp : StepsAt w A ss) (hpl : ss.length = n) (hpb : BdS ss) (hnm : (nm.size : Int) ≤ 1000000) (hx : Strs w T xs) (hl : xs.length = k) (hb : Bd xs) (hs1 : (stt.size : Int) ≤ 1000000000) (hs2 : (txt.size : Int) ≤ 1000000000) :
    Calls Tryz.prog 19 #[.agg #[.string nm, .slice A n c], runV place T k d st count over, .string stt, .string txt] w fun e w' => ∃ T' k' d', e = .returned (.tuple #[runV (giveS ⟨nm, ss⟩ ⟨place, xs, st, count, over⟩ stt txt).1.place T' k' d' (giveS ⟨nm, ss⟩ ⟨place, xs, st, count, over⟩ stt txt).1.status (giveS ⟨nm, ss⟩ ⟨place, xs, st, count, over⟩ stt txt).1.count (giveS ⟨nm, ss⟩ ⟨place, xs, st, count, over⟩ stt txt).1.over, .int .i64 (giveS ⟨nm, ss⟩ ⟨place, xs, st, count, over⟩ stt txt).2]) ∧
      Strs w' T' (giveS ⟨nm, ss⟩ ⟨place, xs, st, count, over⟩ stt txt).1.vars ∧ (giveS ⟨nm, ss⟩ ⟨place, xs, st, count, over⟩ stt txt).1.vars.length = k' ∧ Ext w w' := by
  by_cases ha : askedR ⟨nm, ss⟩ ⟨place, xs, st, count, over⟩ = 0
  · rcases Bool.eq_false_or_eq_true (giveBad ⟨nm, ss⟩ ⟨place, xs, st, count, over⟩ stt txt) with hb0 | hb0
    · exact give19_bad nm A n c ss place count over T k d xs st stt txt w hp hpl hpb hnm hx hl hb hs1 hs2 ha hb0
    · exact give19_good nm A n c ss place count over T k d xs st stt txt w hp hpl hpb hnm hx hl hb hs1 hs2 ha hb0
  · exact give19_ask nm A n c ss place count over T k d xs st stt txt w hp hpl hpb hnm hx hl hb hs1 hs2 ha

end Go.Proofs.YtkdbajpdcadliaaGreatDoor.Pg
