/- Walks: the law ProgramWants. -/
import Derived.Test.YtkdbajpdcadliaaGreatDoorYi
import Derived.Test.YtkdbajpdcadliaaGreatDoorXh
import Derived.Test.YtkdbajpdcadliaaGreatDoorYr
import Derived.Test.YtkdbajpdcadliaaGreatDoorYs
import Derived.Test.YtkdbajpdcadliaaGreatDoorYt
set_option linter.unusedVariables false
namespace Go.Proofs.YtkdbajpdcadliaaGreatDoor.Pg
open Go.RowKit

theorem sameRunS_same (p c o : Int) (st : ByteArray) (xs : List ByteArray) : sameRunS p c o st xs p c o st xs = true := by unfold sameRunS; simp
theorem wantR_vars (P : Prog) (r : RunS) : ((wantR P r).1.vars = [] ∨ (wantR P r).1.vars.length = 6) ∧ ∀ x ∈ (wantR P r).1.vars, (x.size : Int) ≤ 100 := by
  unfold wantR
  split
  · rename_i h
    obtain ⟨hv, hr⟩ := asked_ok h
    have hw := (wantS_ok hv hr).run
    exact ⟨.inr hw.six, hw.each⟩
  · exact ⟨.inl rfl, fun x hx => by cases hx⟩
theorem wantR_again {P : Prog} {r : RunS} (h : (wantR P r).2.2 = 0) : wantR P (wantR P r).1 = wantR P r := by
  unfold wantR at h ⊢
  by_cases ha : askedR P r = 0
  · rw [if_pos ha] at h ⊢
    obtain ⟨hv, hr⟩ := asked_ok ha
    have hw := wantS_ok hv hr
    rw [if_pos (asked_zero hv hw.run)]
    have e : wantS P (wantS P r).1 = wantS P r := by
      have hc := hw.run.c1
      by_cases ho : (wantS P r).1.over = 0
      · obtain ⟨g1, g2, g3⟩ := hw.goes ho
        have e1 : wantS P (wantS P r).1 = wantF ((200 - (wantS P r).1.count).toNat + 1) P (wantS P r).1 := by
          show wantF _ _ _ = _
          congr 1
          omega
        rw [e1, wantF_none g1 g2, ← g3]
      · have h0 := hw.run.o0
        have hov : overN P.steps.length (wantS P r).1 = (wantS P r).1.over := by unfold overN; rw [if_pos (by omega)]
        have e1 : wantS P (wantS P r).1 = wantF ((200 - (wantS P r).1.count).toNat + 1) P (wantS P r).1 := by
          show wantF _ _ _ = _
          congr 1
          omega
        rw [e1, wantF_over (by rw [hov]; exact ho), hov, ← hw.done ho]
        rfl
    rw [e]
  · rw [if_neg ha] at h
    exact absurd h ha

theorem give_bd {P : Prog} {r gr : RunS} {stt txt : ByteArray} {ge : Int} (h : giveS P r stt txt = (gr, ge)) (hb : Bd r.vars) (h1 : True) : (gr.vars.length : Int) ≤ 9223372036854775807 := by
  have hl := hb.len
  unfold giveS at h
  split at h
  · cases h; show ((zeroRun.vars.length : Nat) : Int) ≤ _; decide
  · split at h
    · cases h; show ((zeroRun.vars.length : Nat) : Int) ≤ _; decide
    · cases h
      show ((giveVars _ _ _ _).length : Int) ≤ _
      unfold giveVars
      split
      · split
        · simp; omega
        · split
          · simp; omega
          · omega
      · omega
theorem wantR_texts {P : Prog} {r : RunS} : (wantR P r).2.1.texts.length ≤ 9223372036854775807 := by
  unfold wantR
  split
  · rename_i h
    obtain ⟨hv, hr⟩ := asked_ok h
    have hw := wantS_ok hv hr
    by_cases ho : (wantS P r).1.over = 0
    · obtain ⟨g1, g2, g3⟩ := hw.goes ho
      show (wantS P r).2.texts.length ≤ _
      rw [g3]
      show (wantT _ _ _).length ≤ _
      rw [wantT_len]
      obtain ⟨o1, o2, o3⟩ := over0 g1 hw.run
      have hs := stepAt_ok (validOk hv).each hw.run.p0 o2
      have h1 := hs.all
      have h2 : (verbS (stepAt P (wantS P r).1.place).op).1.all ≤ 7 := by
        rcases verb_cases hs.verb with e | e | e | e | e | e | e | e | e | e | e | e | e <;> rw [e] <;> decide
      omega
    · show (wantS P r).2.texts.length ≤ _
      rw [hw.done ho]
      exact Nat.zero_le _
  · exact Nat.zero_le _

set_option maxRecDepth 100000 in
theorem sameWant18 (op a b : Int) (T U : Option Addr) (n c d : Nat) (xs : List ByteArray) (w : World) (hx : Strs w T xs) (hy : Strs w U xs) (hl : xs.length = n) (hb : n ≤ 9223372036854775807) :
    Calls Tryz.prog 18 #[.agg #[.int .i64 op, .int .i64 a, .int .i64 b, .slice T n c], .agg #[.int .i64 op, .int .i64 a, .int .i64 b, .slice U n d]] w fun e w' => e = .returned (.bool true) ∧ Ext w w' := by
  have E0 := Ext.al (Ext.new w (.cells #[.int .i64 op, .int .i64 a, .int .i64 b, .slice T n c] 34)) (.cells #[.int .i64 op, .int .i64 a, .int .i64 b, .slice U n d] 34)
  have kA := (Blk.new w [.int .i64 op, .int .i64 a, .int .i64 b, .slice T n c] 34).ext (Ext.new _ (.cells #[.int .i64 op, .int .i64 a, .int .i64 b, .slice U n d] 34))
  have kB := Blk.new (w.alloc (.cells #[.int .i64 op, .int .i64 a, .int .i64 b, .slice T n c] 34)) [.int .i64 op, .int .i64 a, .int .i64 b, .slice U n d] 34
  simp only [World.size_alloc] at kB
  obtain ⟨R, hR⟩ : ∃ R, w.heap.size = R := ⟨_, rfl⟩
  have HX := Lib.hid hx
  have HY := Lib.hid hy
  have HL := Lib.hid hl
  clear hx hy hl
  go_enter Tryz.func18, Tryz.ntmps18
  go_upto_region 1 with (fail)
  rw [hR] at kA kB
  try simp only [hR]
  generalize World.alloc _ _ = W0 at E0 kA kB
  have HE0 := Lib.hid E0
  clear E0
  have a0 := kA.c0
  have a1 := kA.c1
  have a2 := kA.c2
  have a3 := kA.c3
  have b0 := kB.c0
  have b1 := kB.c1
  have b2 := kB.c2
  have b3 := kB.c3
  go_wp2_with fail
  refine (sameTexts55 T U n n c d xs xs _ (HX.out.ext HE0.out) (HY.out.ext HE0.out) HL.out HL.out hb hb).mono ?_
  rintro e w1 ⟨rfl, he⟩
  have HE1 := Lib.hid (Ext.trans HE0.out he)
  rw [decide_eq_true (rfl : xs = xs)]
  clear he a0 a1 a2 a3 b0 b1 b2 b3
  go_wp2_with fail
  go_ret
  exact ⟨ret_bool rfl, HE1.out⟩

set_option maxRecDepth 100000 in
set_option maxHeartbeats 8000000 in
theorem law3 (nm : ByteArray) (A : Option Addr) (n c : Nat) (ss : List Step) (place count over : Int) (T : Option Addr) (k d : Nat) (st : ByteArray) (xs : List ByteArray) (stt txt : ByteArray) (w : World) (hp : StepsAt w A ss) (hl : ss.length = n) (hb : BdLS ss) (hnm : (nm.size : Int) ≤ 9223372036854775807)
    (hx : Strs w T xs) (hxl : xs.length = k) (hxb : BdL xs) (hs1 : (stt.size : Int) ≤ 9223372036854775807) (hs2 : (txt.size : Int) ≤ 9223372036854775807) (hg : Gl w) (hgw : GlB w.heap.size) :
    Calls Tryz.prog 3 #[.agg #[.string nm, .slice A n c], runV place T k d st count over, .agg #[.string stt, .string txt]] w fun e w' => e = .returned (.bool true) ∧ Ext w w' := by
  have HP := Lib.hid hp
  have HL := Lib.hid hl
  have HB := Lib.hid hb
  have HX := Lib.hid hx
  have HXL := Lib.hid hxl
  have HXB := Lib.hid hxb
  have HG := Lib.hid hg
  have HGW := Lib.hid hgw
  have HF := Lib.hid (fun w' (h : Ext w w') => first14 w' (hg.ext h) (hgw.ext h))
  have e0 := Ext.new w (.cells #[.string nm, .slice A n c] 24)
  have e1 := Ext.new (w.alloc (.cells #[.string nm, .slice A n c] 24)) (.cells #[.int .i64 place, .slice T k d, .string st, .int .i64 count, .int .i64 over] 27)
  have e2 := Ext.new ((w.alloc (.cells #[.string nm, .slice A n c] 24)).alloc (.cells #[.int .i64 place, .slice T k d, .string st, .int .i64 count, .int .i64 over] 27)) (.cells #[.string stt, .string txt] 29)
  have kP := ((Blk.new w [.string nm, .slice A n c] 24).ext e1).ext e2
  have kB := (Blk.new (w.alloc (.cells #[.string nm, .slice A n c] 24)) [.int .i64 place, .slice T k d, .string st, .int .i64 count, .int .i64 over] 27).ext e2
  have kV := Blk.new ((w.alloc (.cells #[.string nm, .slice A n c] 24)).alloc (.cells #[.int .i64 place, .slice T k d, .string st, .int .i64 count, .int .i64 over] 27)) [.string stt, .string txt] 29
  simp only [World.size_alloc] at kB kV
  have E0 := Ext.trans (Ext.trans e0 e1) e2
  obtain ⟨R, hR⟩ : ∃ R, w.heap.size = R := ⟨_, rfl⟩
  clear hp hl hb hx hxl hxb hg hgw e0 e1 e2
  unfold runV
  go_enter Tryz.func3, Tryz.ntmps3
  go_upto_region 1 with (fail)
  rw [hR] at kP kB kV
  try simp only [hR]
  generalize World.alloc _ _ = W0 at E0 kP kB kV
  have v0 := kV.c0
  have v1 := kV.c1
  go_quiet (fail)
  clear v0 v1
  replace kP := kP.drewN nq
  replace kB := kB.drewN nq
  replace E0 := Ext.drewN E0 nq
  generalize World.drewN W0 nq = W1 at E0 kP kB
  have qP0 := kP.c0
  have qP1 := kP.c1
  have qB0 := kB.c0
  have qB1 := kB.c1
  have qB2 := kB.c2
  have qB3 := kB.c3
  have qB4 := kB.c4
  have HE := Lib.hid E0
  clear E0
  go_wp2_with fail
  refine (small12 nm A n c ss W1 (HP.out.ext HE.out) HL.out HB.out hnm).mono ?_
  rintro e w11 ⟨rfl, he⟩
  clear qP0 qP1 qB0 qB1 qB2 qB3 qB4
  replace kP := kP.ext he
  replace kB := kB.ext he
  have E0 := Ext.trans HE.out he
  clear he HE
  rcases Bool.eq_false_or_eq_true (smallS ⟨nm, ss⟩) with hs | hs
  · rw [hs]
    obtain ⟨hbs, hnm2⟩ := small_bd hs
    have HBS := Lib.hid hbs
    clear hs hbs
    have qP0 := kP.c0
    have qP1 := kP.c1
    have qB0 := kB.c0
    have qB1 := kB.c1
    have qB2 := kB.c2
    have qB3 := kB.c3
    have qB4 := kB.c4
    have HE := Lib.hid E0
    clear E0
    go_wp2_with fail
    refine (smallRun13 place count over T k d xs st w11 (HX.out.ext HE.out) HXL.out HXB.out).mono ?_
    rintro e w12 ⟨rfl, he⟩
    clear qP0 qP1 qB0 qB1 qB2 qB3 qB4
    replace kP := kP.ext he
    replace kB := kB.ext he
    have E0 := Ext.trans HE.out he
    clear he HE
    rcases Bool.eq_false_or_eq_true (smallRunS xs) with hs | hs
    · rw [hs]
      have HXD := Lib.hid (smallRun_bd hs)
      clear hs
      by_cases hz1 : (200 : Int) < (stt.size : Int)
      · have HE := Lib.hid E0
        go_wp2_with fail
        refine (HF.out _ HE.out).mono ?_
        rintro e wz ⟨rfl, he⟩
        have HEZ := Lib.hid (Ext.trans HE.out he)
        clear he
        go_wp2
        go_ret
        exact ⟨rfl, HEZ.out⟩
      by_cases hz2 : (200 : Int) < (txt.size : Int)
      · have HE := Lib.hid E0
        go_wp2_with fail
        refine (HF.out _ HE.out).mono ?_
        rintro e wz ⟨rfl, he⟩
        have HEZ := Lib.hid (Ext.trans HE.out he)
        clear he
        go_wp2
        go_ret
        exact ⟨rfl, HEZ.out⟩
      have H15 := Lib.hid (fun w' (h : Ext w w') => want15 nm A n c ss place count over T k d xs st w' (HP.out.ext h) HL.out HBS.out (by omega) (HX.out.ext h) HXL.out HXD.out (HG.out.ext h) (HGW.out.ext h))
      have H16 := Lib.hid (fun w' (h : Ext w w') => want16 nm A n c ss place count over T k d xs st w' (HP.out.ext h) HL.out HBS.out (by omega) (HX.out.ext h) HXL.out HXD.out (HG.out.ext h) (HGW.out.ext h))
      obtain ⟨hv1, hv2⟩ := wantR_vars ⟨nm, ss⟩ ⟨place, xs, st, count, over⟩
      have hag := @wantR_again ⟨nm, ss⟩ ⟨place, xs, st, count, over⟩
      have hwk := @wantR_texts ⟨nm, ss⟩ ⟨place, xs, st, count, over⟩
      obtain ⟨⟨q, wq, er⟩, hW⟩ : ∃ x, wantR ⟨nm, ss⟩ ⟨place, xs, st, count, over⟩ = x := ⟨_, rfl⟩
      simp only [hW] at H15 H16 hv1 hv2 hag hwk
      unfold runV at H15 H16
      have HV1 := Lib.hid hv1
      have HV2 := Lib.hid hv2
      have HAG := Lib.hid hag
      have hqk : (q.vars.length : Int) ≤ 6 := by rcases HV1.out with h | h <;> rw [h] <;> simp
      have HQB := Lib.hid (show Bd q.vars from ⟨by omega, fun x hx => by have := HV2.out x hx; omega⟩)
      have HQK := Lib.hid hqk
      have HWK := Lib.hid hwk
      clear hv1 hv2 hag hW hqk hwk
      have qP0 := kP.c0
      have qP1 := kP.c1
      have qB0 := kB.c0
      have qB1 := kB.c1
      have qB2 := kB.c2
      have qB3 := kB.c3
      have qB4 := kB.c4
      have HE := Lib.hid E0
      clear E0
      go_wp2_with fail
      refine (H15.out w12 HE.out).mono ?_
      rintro e w13 ⟨TX, kx, dx, TXW, nx, cx, rfl, hx1, hx2, hx3, hx4, he⟩
      clear qP0 qP1 qB0 qB1 qB2 qB3 qB4
      replace kP := kP.ext he
      replace kB := kB.ext he
      have E0 := Ext.trans HE.out he
      clear he HE
      subst hx2 hx4
      go_upto_region 5 with (fail)
      have eN := Ext.new w13 (.cells #[.int .i64 q.place, .slice TX q.vars.length dx, .string q.status, .int .i64 q.count, .int .i64 q.over] 27)
      have eM := Ext.new (w13.alloc (.cells #[.int .i64 q.place, .slice TX q.vars.length dx, .string q.status, .int .i64 q.count, .int .i64 q.over] 27)) (.cells #[.int .i64 wq.op, .int .i64 wq.a, .int .i64 wq.b, .slice TXW wq.texts.length cx] 34)
      have kX := (Blk.new w13 [.int .i64 q.place, .slice TX q.vars.length dx, .string q.status, .int .i64 q.count, .int .i64 q.over] 27).ext eM
      have kXW := Blk.new (w13.alloc (.cells #[.int .i64 q.place, .slice TX q.vars.length dx, .string q.status, .int .i64 q.count, .int .i64 q.over] 27)) [.int .i64 wq.op, .int .i64 wq.a, .int .i64 wq.b, .slice TXW wq.texts.length cx] 34
      obtain ⟨X, hX⟩ : ∃ b, w13.heap.size = b := ⟨_, rfl⟩
      simp only [World.size_alloc] at kXW
      rw [hX] at kX kXW
      try simp only [hX]
      have hBX : R + 1 < X := by have := kB.lt; omega
      replace kP := (kP.ext eN).ext eM
      replace kB := (kB.ext eN).ext eM
      replace E0 := Ext.trans (Ext.trans E0 eN) eM
      replace hx1 := (hx1.ext eN).ext eM
      replace hx3 := (hx3.ext eN).ext eM
      generalize World.alloc _ _ = vX at kP kB kX kXW E0 hx1 hx3
      clear eN eM hX
      have HX1 := Lib.hid hx1
      clear hx1
      have HX3 := Lib.hid hx3
      clear hx3
      have qP0 := kP.c0
      have qP1 := kP.c1
      have qB0 := kB.c0
      have qB1 := kB.c1
      have qB2 := kB.c2
      have qB3 := kB.c3
      have qB4 := kB.c4
      have qX0 := kX.c0
      have qX1 := kX.c1
      have qX2 := kX.c2
      have qX3 := kX.c3
      have qX4 := kX.c4
      have qXW0 := kXW.c0
      have qXW1 := kXW.c1
      have qXW2 := kXW.c2
      have qXW3 := kXW.c3
      have HE := Lib.hid E0
      clear E0
      go_wp2_with fail
      refine (H16.out vX HE.out).mono ?_
      rintro e w14 ⟨TY, ky, dy, TYW, ny, cy, rfl, hy1, hy2, hy3, hy4, he⟩
      clear qP0 qP1 qB0 qB1 qB2 qB3 qB4 qX0 qX1 qX2 qX3 qX4 qXW0 qXW1 qXW2 qXW3
      replace kP := kP.ext he
      replace kB := kB.ext he
      replace kX := kX.ext he
      replace kXW := kXW.ext he
      have E0 := Ext.trans HE.out he
      have hx1 := HX1.out.ext he
      have hx3 := HX3.out.ext he
      clear he HE
      subst hy2 hy4
      clear HX1 HX3
      go_upto_region 6 with (fail)
      have eN := Ext.new w14 (.cells #[.int .i64 q.place, .slice TY q.vars.length dy, .string q.status, .int .i64 q.count, .int .i64 q.over] 27)
      have eM := Ext.new (w14.alloc (.cells #[.int .i64 q.place, .slice TY q.vars.length dy, .string q.status, .int .i64 q.count, .int .i64 q.over] 27)) (.cells #[.int .i64 wq.op, .int .i64 wq.a, .int .i64 wq.b, .slice TYW wq.texts.length cy] 34)
      have kY := (Blk.new w14 [.int .i64 q.place, .slice TY q.vars.length dy, .string q.status, .int .i64 q.count, .int .i64 q.over] 27).ext eM
      have kYW := Blk.new (w14.alloc (.cells #[.int .i64 q.place, .slice TY q.vars.length dy, .string q.status, .int .i64 q.count, .int .i64 q.over] 27)) [.int .i64 wq.op, .int .i64 wq.a, .int .i64 wq.b, .slice TYW wq.texts.length cy] 34
      obtain ⟨Y, hY⟩ : ∃ b, w14.heap.size = b := ⟨_, rfl⟩
      simp only [World.size_alloc] at kYW
      rw [hY] at kY kYW
      try simp only [hY]
      have hBY : R + 1 < Y := by have := kB.lt; omega
      replace kP := (kP.ext eN).ext eM
      replace kB := (kB.ext eN).ext eM
      replace kX := (kX.ext eN).ext eM
      replace kXW := (kXW.ext eN).ext eM
      replace E0 := Ext.trans (Ext.trans E0 eN) eM
      replace hy1 := (hy1.ext eN).ext eM
      replace hy3 := (hy3.ext eN).ext eM
      replace hx1 := (hx1.ext eN).ext eM
      replace hx3 := (hx3.ext eN).ext eM
      generalize World.alloc _ _ = vY at kP kB kX kXW kY kYW E0 hy1 hy3 hx1 hx3
      clear eN eM hY
      have HY1 := Lib.hid hy1
      clear hy1
      have HY3 := Lib.hid hy3
      clear hy3
      have HX1 := Lib.hid hx1
      clear hx1
      have HX3 := Lib.hid hx3
      clear hx3
      have er_eq : (er == er) = true := beq_self_eq_true er
      have qP0 := kP.c0
      have qP1 := kP.c1
      have qB0 := kB.c0
      have qB1 := kB.c1
      have qB2 := kB.c2
      have qB3 := kB.c3
      have qB4 := kB.c4
      have qX0 := kX.c0
      have qX1 := kX.c1
      have qX2 := kX.c2
      have qX3 := kX.c3
      have qX4 := kX.c4
      have qXW0 := kXW.c0
      have qXW1 := kXW.c1
      have qXW2 := kXW.c2
      have qXW3 := kXW.c3
      have qY0 := kY.c0
      have qY1 := kY.c1
      have qY2 := kY.c2
      have qY3 := kY.c3
      have qY4 := kY.c4
      have qYW0 := kYW.c0
      have qYW1 := kYW.c1
      have qYW2 := kYW.c2
      have qYW3 := kYW.c3
      have HE := Lib.hid E0
      clear E0
      go_wp2_with fail
      refine (sameRun17 q.place q.count q.over TX q.vars.length dx q.status q.vars q.place q.count q.over TY q.vars.length dy q.status q.vars vY (HX1.out.ext (Ext.refl _)) HY1.out rfl rfl (by have := HQK.out; omega) (by have := HQK.out; omega)).mono ?_
      rintro e w15 ⟨rfl, he⟩
      clear qP0 qP1 qB0 qB1 qB2 qB3 qB4 qX0 qX1 qX2 qX3 qX4 qXW0 qXW1 qXW2 qXW3 qY0 qY1 qY2 qY3 qY4 qYW0 qYW1 qYW2 qYW3
      replace kP := kP.ext he
      replace kB := kB.ext he
      replace kX := kX.ext he
      replace kXW := kXW.ext he
      replace kY := kY.ext he
      replace kYW := kYW.ext he
      have E0 := Ext.trans HE.out he
      have KE1 := Lib.hid he
      clear he HE
      rw [sameRunS_same]
      have qP0 := kP.c0
      have qP1 := kP.c1
      have qB0 := kB.c0
      have qB1 := kB.c1
      have qB2 := kB.c2
      have qB3 := kB.c3
      have qB4 := kB.c4
      have qX0 := kX.c0
      have qX1 := kX.c1
      have qX2 := kX.c2
      have qX3 := kX.c3
      have qX4 := kX.c4
      have qXW0 := kXW.c0
      have qXW1 := kXW.c1
      have qXW2 := kXW.c2
      have qXW3 := kXW.c3
      have qY0 := kY.c0
      have qY1 := kY.c1
      have qY2 := kY.c2
      have qY3 := kY.c3
      have qY4 := kY.c4
      have qYW0 := kYW.c0
      have qYW1 := kYW.c1
      have qYW2 := kYW.c2
      have qYW3 := kYW.c3
      have HE := Lib.hid E0
      clear E0
      go_wp2_with fail
      refine (sameWant18 wq.op wq.a wq.b TXW TYW wq.texts.length cx cy wq.texts w15 (HX3.out.ext KE1.out) (HY3.out.ext KE1.out) rfl HWK.out).mono ?_
      rintro e w16 ⟨rfl, he⟩
      clear qP0 qP1 qB0 qB1 qB2 qB3 qB4 qX0 qX1 qX2 qX3 qX4 qXW0 qXW1 qXW2 qXW3 qY0 qY1 qY2 qY3 qY4 qYW0 qYW1 qYW2 qYW3
      replace kP := kP.ext he
      replace kB := kB.ext he
      replace kX := kX.ext he
      replace kXW := kXW.ext he
      replace kY := kY.ext he
      replace kYW := kYW.ext he
      have E0 := Ext.trans HE.out he
      have KE2 := Lib.hid (Ext.trans KE1.out he)
      clear he HE
      have HX1b := Lib.hid (HX1.out.ext KE2.out)
      have HX3b := Lib.hid (HX3.out.ext KE2.out)
      have HY1b := Lib.hid (HY1.out.ext KE2.out)
      clear HX1 HX3 HY1 HY3 KE1 KE2
      by_cases he0 : er = 0
      · subst he0
        have H15b := Lib.hid (fun w' (h : Ext w w') (hs : Strs w' TX q.vars) => want15 nm A n c ss q.place q.count q.over TX q.vars.length dx q.vars q.status w' (HP.out.ext h) HL.out HBS.out (by omega) hs rfl HQB.out (HG.out.ext h) (HGW.out.ext h))
        have hag2 : wantR ⟨nm, ss⟩ ⟨q.place, q.vars, q.status, q.count, q.over⟩ = (q, wq, 0) := HAG.out rfl
        simp only [hag2] at H15b
        unfold runV at H15b
        clear hag2
        have qP0 := kP.c0
        have qP1 := kP.c1
        have qB0 := kB.c0
        have qB1 := kB.c1
        have qB2 := kB.c2
        have qB3 := kB.c3
        have qB4 := kB.c4
        have qX0 := kX.c0
        have qX1 := kX.c1
        have qX2 := kX.c2
        have qX3 := kX.c3
        have qX4 := kX.c4
        have qXW0 := kXW.c0
        have qXW1 := kXW.c1
        have qXW2 := kXW.c2
        have qXW3 := kXW.c3
        have qY0 := kY.c0
        have qY1 := kY.c1
        have qY2 := kY.c2
        have qY3 := kY.c3
        have qY4 := kY.c4
        have qYW0 := kYW.c0
        have qYW1 := kYW.c1
        have qYW2 := kYW.c2
        have qYW3 := kYW.c3
        have HE := Lib.hid E0
        clear E0
        go_wp2_with fail
        refine (H15b.out w16 HE.out HX1b.out).mono ?_
        rintro e w17 ⟨TZ, kz, dz, TZW, nz, cz, rfl, hz1', hz2', hz3', hz4', he⟩
        clear qP0 qP1 qB0 qB1 qB2 qB3 qB4 qX0 qX1 qX2 qX3 qX4 qXW0 qXW1 qXW2 qXW3 qY0 qY1 qY2 qY3 qY4 qYW0 qYW1 qYW2 qYW3
        replace kP := kP.ext he
        replace kB := kB.ext he
        replace kX := kX.ext he
        replace kXW := kXW.ext he
        replace kY := kY.ext he
        replace kYW := kYW.ext he
        have E0 := Ext.trans HE.out he
        have hx1 := HX1b.out.ext he
        have hx3 := HX3b.out.ext he
        have hy1 := HY1b.out.ext he
        clear he HE
        subst hz2' hz4'
        clear HX1b HX3b HY1b
        go_upto_region 10 with (fail)
        have eN := Ext.new w17 (.cells #[.int .i64 q.place, .slice TZ q.vars.length dz, .string q.status, .int .i64 q.count, .int .i64 q.over] 27)
        have eM := Ext.new (w17.alloc (.cells #[.int .i64 q.place, .slice TZ q.vars.length dz, .string q.status, .int .i64 q.count, .int .i64 q.over] 27)) (.cells #[.int .i64 wq.op, .int .i64 wq.a, .int .i64 wq.b, .slice TZW wq.texts.length cz] 34)
        have kZ := (Blk.new w17 [.int .i64 q.place, .slice TZ q.vars.length dz, .string q.status, .int .i64 q.count, .int .i64 q.over] 27).ext eM
        have kZW := Blk.new (w17.alloc (.cells #[.int .i64 q.place, .slice TZ q.vars.length dz, .string q.status, .int .i64 q.count, .int .i64 q.over] 27)) [.int .i64 wq.op, .int .i64 wq.a, .int .i64 wq.b, .slice TZW wq.texts.length cz] 34
        obtain ⟨Z, hZ⟩ : ∃ b, w17.heap.size = b := ⟨_, rfl⟩
        simp only [World.size_alloc] at kZW
        rw [hZ] at kZ kZW
        try simp only [hZ]
        have hBZ : R + 1 < Z := by have := kB.lt; omega
        replace kP := (kP.ext eN).ext eM
        replace kB := (kB.ext eN).ext eM
        replace kX := (kX.ext eN).ext eM
        replace kXW := (kXW.ext eN).ext eM
        replace kY := (kY.ext eN).ext eM
        replace kYW := (kYW.ext eN).ext eM
        replace E0 := Ext.trans (Ext.trans E0 eN) eM
        replace hz1' := (hz1'.ext eN).ext eM
        replace hz3' := (hz3'.ext eN).ext eM
        replace hx1 := (hx1.ext eN).ext eM
        replace hx3 := (hx3.ext eN).ext eM
        replace hy1 := (hy1.ext eN).ext eM
        generalize World.alloc _ _ = vZ at kP kB kX kXW kY kYW kZ kZW E0 hz1' hz3' hx1 hx3 hy1
        clear eN eM hZ
        have HZ1' := Lib.hid hz1'
        clear hz1'
        have HZ3' := Lib.hid hz3'
        clear hz3'
        have HX1 := Lib.hid hx1
        clear hx1
        have HX3 := Lib.hid hx3
        clear hx3
        have HY1 := Lib.hid hy1
        clear hy1
        have qP0 := kP.c0
        have qP1 := kP.c1
        have qB0 := kB.c0
        have qB1 := kB.c1
        have qB2 := kB.c2
        have qB3 := kB.c3
        have qB4 := kB.c4
        have qX0 := kX.c0
        have qX1 := kX.c1
        have qX2 := kX.c2
        have qX3 := kX.c3
        have qX4 := kX.c4
        have qXW0 := kXW.c0
        have qXW1 := kXW.c1
        have qXW2 := kXW.c2
        have qXW3 := kXW.c3
        have qY0 := kY.c0
        have qY1 := kY.c1
        have qY2 := kY.c2
        have qY3 := kY.c3
        have qY4 := kY.c4
        have qYW0 := kYW.c0
        have qYW1 := kYW.c1
        have qYW2 := kYW.c2
        have qYW3 := kYW.c3
        have qZ0 := kZ.c0
        have qZ1 := kZ.c1
        have qZ2 := kZ.c2
        have qZ3 := kZ.c3
        have qZ4 := kZ.c4
        have qZW0 := kZW.c0
        have qZW1 := kZW.c1
        have qZW2 := kZW.c2
        have qZW3 := kZW.c3
        have HE := Lib.hid E0
        clear E0
        go_wp2_with fail
        refine (sameRun17 q.place q.count q.over TZ q.vars.length dz q.status q.vars q.place q.count q.over TX q.vars.length dx q.status q.vars vZ HZ1'.out HX1.out rfl rfl (by have := HQK.out; omega) (by have := HQK.out; omega)).mono ?_
        rintro e w18 ⟨rfl, he⟩
        clear qP0 qP1 qB0 qB1 qB2 qB3 qB4 qX0 qX1 qX2 qX3 qX4 qXW0 qXW1 qXW2 qXW3 qY0 qY1 qY2 qY3 qY4 qYW0 qYW1 qYW2 qYW3 qZ0 qZ1 qZ2 qZ3 qZ4 qZW0 qZW1 qZW2 qZW3
        replace kP := kP.ext he
        replace kB := kB.ext he
        replace kX := kX.ext he
        replace kXW := kXW.ext he
        replace kY := kY.ext he
        replace kYW := kYW.ext he
        replace kZ := kZ.ext he
        replace kZW := kZW.ext he
        have E0 := Ext.trans HE.out he
        have KE1 := Lib.hid he
        clear he HE
        rw [sameRunS_same]
        have qP0 := kP.c0
        have qP1 := kP.c1
        have qB0 := kB.c0
        have qB1 := kB.c1
        have qB2 := kB.c2
        have qB3 := kB.c3
        have qB4 := kB.c4
        have qX0 := kX.c0
        have qX1 := kX.c1
        have qX2 := kX.c2
        have qX3 := kX.c3
        have qX4 := kX.c4
        have qXW0 := kXW.c0
        have qXW1 := kXW.c1
        have qXW2 := kXW.c2
        have qXW3 := kXW.c3
        have qY0 := kY.c0
        have qY1 := kY.c1
        have qY2 := kY.c2
        have qY3 := kY.c3
        have qY4 := kY.c4
        have qYW0 := kYW.c0
        have qYW1 := kYW.c1
        have qYW2 := kYW.c2
        have qYW3 := kYW.c3
        have qZ0 := kZ.c0
        have qZ1 := kZ.c1
        have qZ2 := kZ.c2
        have qZ3 := kZ.c3
        have qZ4 := kZ.c4
        have qZW0 := kZW.c0
        have qZW1 := kZW.c1
        have qZW2 := kZW.c2
        have qZW3 := kZW.c3
        have HE := Lib.hid E0
        clear E0
        go_wp2_with fail
        refine (sameWant18 wq.op wq.a wq.b TZW TXW wq.texts.length cz cx wq.texts w18 (HZ3'.out.ext KE1.out) (HX3.out.ext KE1.out) rfl HWK.out).mono ?_
        rintro e w19 ⟨rfl, he⟩
        clear qP0 qP1 qB0 qB1 qB2 qB3 qB4 qX0 qX1 qX2 qX3 qX4 qXW0 qXW1 qXW2 qXW3 qY0 qY1 qY2 qY3 qY4 qYW0 qYW1 qYW2 qYW3 qZ0 qZ1 qZ2 qZ3 qZ4 qZW0 qZW1 qZW2 qZW3
        replace kP := kP.ext he
        replace kB := kB.ext he
        replace kX := kX.ext he
        replace kXW := kXW.ext he
        replace kY := kY.ext he
        replace kYW := kYW.ext he
        replace kZ := kZ.ext he
        replace kZW := kZW.ext he
        have E0 := Ext.trans HE.out he
        have KE2 := Lib.hid (Ext.trans KE1.out he)
        clear he HE
        have HY1b := Lib.hid (HY1.out.ext KE2.out)
        have hTY : ∀ w', Keep (R + 1) w19 w' → Strs w' TY q.vars := fun w' hk => by
          rcases HV1.out with h | h
          · rw [h]; exact Strs.nil _ _
          · exact hk.strs HY1b.out (six_ne HY1b.out h kB)
        have HTY := Lib.hid hTY
        have HEL := Lib.hid E0
        have KPL := Lib.hid kP
        have KBL := Lib.hid kB
        have KYL := Lib.hid kY
        have hYR : R + 1 < Y := by omega
        clear hTY E0 kP kB kY kX kXW kYW kZ kZW
        go_wp2_with fail
        go_loopw [18] (fun i wr => ∃ (j : Nat) (p2 c2 o2 : Int) (T2 : Option Addr) (k2 d2 : Nat) (st2 : ByteArray) (xs2 : List ByteArray), j ≤ 2 ∧ i = .int .i64 j ∧ Hid (Keep (R + 1) w19 wr ∧ Blk wr (R + 1) 27 [.int .i64 p2, .slice T2 k2 d2, .string st2, .int .i64 c2, .int .i64 o2] ∧ Strs wr T2 xs2 ∧ xs2.length = k2 ∧ Bd xs2)) (fun i _ => 2 - (intOf i).toNat)
        case atStart => exact ⟨0, place, count, over, T, k, d, st, xs, by omega, rfl, Lib.hid ⟨Keep.refl _ _, KBL.out, HX.out.ext HEL.out, HXL.out, HXD.out⟩⟩
        case round =>
          obtain ⟨j, p2, c2, o2, T2, k2, d2, st2, xs2, hj, rfl, hJ⟩ := hrel
          obtain ⟨wv, rfl⟩ : ∃ wv, wv = wr := ⟨_, rfl⟩
          by_cases hlt : j < 2
          · obtain ⟨hk, kB, hx2, hl2, hb2⟩ := hJ.out
            have E0 : Ext w wv := hk.below HEL.out (by omega)
            have kP := hk.blk KPL.out (by omega)
            have kY := hk.blk KYL.out (by omega)
            have HK := Lib.hid hk
            have HX2 := Lib.hid hx2
            have HL2 := Lib.hid hl2
            have HB2 := Lib.hid hb2
            have EV := Lib.hid E0
            have HEV := Lib.hid (Ext.refl wv)
            clear hJ hk hx2 hl2 hb2
            have H19 := Lib.hid (fun w' (h : Ext wv w') => give19 nm A n c ss p2 c2 o2 T2 k2 d2 xs2 st2 stt txt w' (HP.out.ext (Ext.trans EV.out h)) HL.out HBS.out (by omega) (HX2.out.ext h) HL2.out HB2.out (by omega) (by omega))
            have H20 := Lib.hid (fun w' (h : Ext wv w') => give20 nm A n c ss p2 c2 o2 T2 k2 d2 xs2 st2 stt txt w' (HP.out.ext (Ext.trans EV.out h)) HL.out HBS.out (by omega) (HX2.out.ext h) HL2.out HB2.out (by omega) (by omega))
            obtain ⟨⟨gr, ge⟩, hG⟩ : ∃ x, giveS ⟨nm, ss⟩ ⟨p2, xs2, st2, c2, o2⟩ stt txt = x := ⟨_, rfl⟩
            simp only [hG] at H19 H20
            unfold runV at H19 H20
            have HGB := Lib.hid (give_bd hG HB2.out trivial)
            have qge : (ge == ge) = true := beq_self_eq_true ge
            clear hG
            have qP0 := kP.c0
            have qP1 := kP.c1
            have qB0 := kB.c0
            have qB1 := kB.c1
            have qB2 := kB.c2
            have qB3 := kB.c3
            have qB4 := kB.c4
            have qY0 := kY.c0
            have qY1 := kY.c1
            have qY2 := kY.c2
            have qY3 := kY.c3
            have qY4 := kY.c4
            have HE := Lib.hid E0
            clear E0
            go_wp2_with fail
            refine (H19.out wv HEV.out).mono ?_
            rintro e w41 ⟨TG, kk, dG, rfl, hgG, hkG, he⟩
            clear qP0 qP1 qB0 qB1 qB2 qB3 qB4 qY0 qY1 qY2 qY3 qY4
            replace kP := kP.ext he
            replace kB := kB.ext he
            replace kY := kY.ext he
            have E0 := Ext.trans HE.out he
            replace HEV := Lib.hid (Ext.trans HEV.out he)
            clear he HE
            subst hkG
            go_upto_region 16 with (fail)
            have eN := Ext.new w41 (.cells #[.int .i64 gr.place, .slice TG gr.vars.length dG, .string gr.status, .int .i64 gr.count, .int .i64 gr.over] 27)
            have kG := Blk.new w41 [.int .i64 gr.place, .slice TG gr.vars.length dG, .string gr.status, .int .i64 gr.count, .int .i64 gr.over] 27
            obtain ⟨G, hG⟩ : ∃ b, w41.heap.size = b := ⟨_, rfl⟩
            rw [hG] at kG
            try simp only [hG]
            replace kP := kP.ext eN
            replace kB := kB.ext eN
            replace kY := kY.ext eN
            replace E0 := Ext.trans E0 eN
            replace HEV := Lib.hid (Ext.trans HEV.out eN)
            replace hgG := hgG.ext eN
            generalize World.alloc _ _ = vG at kP kB kY kG E0 HEV hgG 
            clear eN hG
            have HGG := Lib.hid hgG
            clear hgG
            have qP0 := kP.c0
            have qP1 := kP.c1
            have qB0 := kB.c0
            have qB1 := kB.c1
            have qB2 := kB.c2
            have qB3 := kB.c3
            have qB4 := kB.c4
            have qY0 := kY.c0
            have qY1 := kY.c1
            have qY2 := kY.c2
            have qY3 := kY.c3
            have qY4 := kY.c4
            have qG0 := kG.c0
            have qG1 := kG.c1
            have qG2 := kG.c2
            have qG3 := kG.c3
            have qG4 := kG.c4
            have HE := Lib.hid E0
            clear E0
            go_wp2_with fail
            refine (H20.out vG HEV.out).mono ?_
            rintro e w42 ⟨TH, kk, dH, rfl, hgH, hkH, he⟩
            clear qP0 qP1 qB0 qB1 qB2 qB3 qB4 qY0 qY1 qY2 qY3 qY4 qG0 qG1 qG2 qG3 qG4
            replace kP := kP.ext he
            replace kB := kB.ext he
            replace kY := kY.ext he
            replace kG := kG.ext he
            have E0 := Ext.trans HE.out he
            replace HEV := Lib.hid (Ext.trans HEV.out he)
            have hgG := HGG.out.ext he
            clear he HE
            subst hkH
            clear HGG
            go_upto_region 17 with (fail)
            have eN := Ext.new w42 (.cells #[.int .i64 gr.place, .slice TH gr.vars.length dH, .string gr.status, .int .i64 gr.count, .int .i64 gr.over] 27)
            have kH := Blk.new w42 [.int .i64 gr.place, .slice TH gr.vars.length dH, .string gr.status, .int .i64 gr.count, .int .i64 gr.over] 27
            obtain ⟨H, hH⟩ : ∃ b, w42.heap.size = b := ⟨_, rfl⟩
            rw [hH] at kH
            try simp only [hH]
            replace kP := kP.ext eN
            replace kB := kB.ext eN
            replace kY := kY.ext eN
            replace kG := kG.ext eN
            replace E0 := Ext.trans E0 eN
            replace HEV := Lib.hid (Ext.trans HEV.out eN)
            replace hgH := hgH.ext eN
            replace hgG := hgG.ext eN
            generalize World.alloc _ _ = vH at kP kB kY kG kH E0 HEV hgH hgG
            clear eN hH
            have HGH := Lib.hid hgH
            clear hgH
            have HGG := Lib.hid hgG
            clear hgG
            have qP0 := kP.c0
            have qP1 := kP.c1
            have qB0 := kB.c0
            have qB1 := kB.c1
            have qB2 := kB.c2
            have qB3 := kB.c3
            have qB4 := kB.c4
            have qY0 := kY.c0
            have qY1 := kY.c1
            have qY2 := kY.c2
            have qY3 := kY.c3
            have qY4 := kY.c4
            have qG0 := kG.c0
            have qG1 := kG.c1
            have qG2 := kG.c2
            have qG3 := kG.c3
            have qG4 := kG.c4
            have qH0 := kH.c0
            have qH1 := kH.c1
            have qH2 := kH.c2
            have qH3 := kH.c3
            have qH4 := kH.c4
            have HE := Lib.hid E0
            clear E0
            go_wp2_with fail
            refine (sameRun17 gr.place gr.count gr.over TG gr.vars.length dG gr.status gr.vars gr.place gr.count gr.over TH gr.vars.length dH gr.status gr.vars vH HGG.out HGH.out rfl rfl (by have := HGB.out; omega) (by have := HGB.out; omega)).mono ?_
            rintro e w43 ⟨rfl, he⟩
            clear qP0 qP1 qB0 qB1 qB2 qB3 qB4 qY0 qY1 qY2 qY3 qY4 qG0 qG1 qG2 qG3 qG4 qH0 qH1 qH2 qH3 qH4
            replace kP := kP.ext he
            replace kB := kB.ext he
            replace kY := kY.ext he
            replace kG := kG.ext he
            replace kH := kH.ext he
            have E0 := Ext.trans HE.out he
            replace HEV := Lib.hid (Ext.trans HEV.out he)
            clear he HE
            rw [sameRunS_same]
            have y0 := kY.c0
            have y1 := kY.c1
            have y2 := kY.c2
            have y3 := kY.c3
            have y4 := kY.c4
            have b0 := kB.c0
            have b1 := kB.c1
            have b2 := kB.c2
            have b3 := kB.c3
            have b4 := kB.c4
            have bz0 := kB.fz 0
            have bz1 := kB.fz 1
            have bz2 := kB.fz 2
            have bz3 := kB.fz 3
            have bz4 := kB.fz 4
            have KB9 := Lib.hid (kB.put5 (.int .i64 q.place) (.slice TY q.vars.length dy) (.string q.status) (.int .i64 q.count) (.int .i64 q.over))
            have HK9 := Lib.hid ((HK.out.ext HEV.out).row (grown_put5 w43 (R + 1) (.int .i64 q.place) (.slice TY q.vars.length dy) (.string q.status) (.int .i64 q.count) (.int .i64 q.over)) (fun b e => .inr (Option.some.inj e).symm))
            clear kB kY kP kG kH E0
            go_wp2_with fail
            go_roundw
            case rel => exact ⟨j + 1, q.place, q.count, q.over, TY, q.vars.length, dy, q.status, q.vars, by omega, by go_num, Lib.hid ⟨HK9.out, KB9.out, HTY.out _ HK9.out, rfl, HQB.out⟩⟩
            case measure => simp [intOf]; omega
          · have E0 : Ext w wv := hJ.out.1.below HEL.out (by omega)
            go_wp2_with fail
            refine (HF.out wv E0).mono ?_
            rintro e wz ⟨rfl, he⟩
            have HEZ := Lib.hid (Ext.trans E0 he)
            clear he
            go_wp2
            go_ret
            exact ⟨rfl, HEZ.out⟩
      · have herB := bq_no he0
        have hTY : ∀ w', Keep (R + 1) w16 w' → Strs w' TY q.vars := fun w' hk => by
          rcases HV1.out with h | h
          · rw [h]; exact Strs.nil _ _
          · exact hk.strs HY1b.out (six_ne HY1b.out h kB)
        have HTY := Lib.hid hTY
        have HEL := Lib.hid E0
        have KPL := Lib.hid kP
        have KBL := Lib.hid kB
        have KYL := Lib.hid kY
        have hYR : R + 1 < Y := by omega
        clear hTY E0 kP kB kY kX kXW kYW
        go_wp2_with fail
        go_loopw [18] (fun i wr => ∃ (j : Nat) (p2 c2 o2 : Int) (T2 : Option Addr) (k2 d2 : Nat) (st2 : ByteArray) (xs2 : List ByteArray), j ≤ 2 ∧ i = .int .i64 j ∧ Hid (Keep (R + 1) w16 wr ∧ Blk wr (R + 1) 27 [.int .i64 p2, .slice T2 k2 d2, .string st2, .int .i64 c2, .int .i64 o2] ∧ Strs wr T2 xs2 ∧ xs2.length = k2 ∧ Bd xs2)) (fun i _ => 2 - (intOf i).toNat)
        case atStart => exact ⟨0, place, count, over, T, k, d, st, xs, by omega, rfl, Lib.hid ⟨Keep.refl _ _, KBL.out, HX.out.ext HEL.out, HXL.out, HXD.out⟩⟩
        case round =>
          obtain ⟨j, p2, c2, o2, T2, k2, d2, st2, xs2, hj, rfl, hJ⟩ := hrel
          obtain ⟨wv, rfl⟩ : ∃ wv, wv = wr := ⟨_, rfl⟩
          by_cases hlt : j < 2
          · obtain ⟨hk, kB, hx2, hl2, hb2⟩ := hJ.out
            have E0 : Ext w wv := hk.below HEL.out (by omega)
            have kP := hk.blk KPL.out (by omega)
            have kY := hk.blk KYL.out (by omega)
            have HK := Lib.hid hk
            have HX2 := Lib.hid hx2
            have HL2 := Lib.hid hl2
            have HB2 := Lib.hid hb2
            have EV := Lib.hid E0
            have HEV := Lib.hid (Ext.refl wv)
            clear hJ hk hx2 hl2 hb2
            have H19 := Lib.hid (fun w' (h : Ext wv w') => give19 nm A n c ss p2 c2 o2 T2 k2 d2 xs2 st2 stt txt w' (HP.out.ext (Ext.trans EV.out h)) HL.out HBS.out (by omega) (HX2.out.ext h) HL2.out HB2.out (by omega) (by omega))
            have H20 := Lib.hid (fun w' (h : Ext wv w') => give20 nm A n c ss p2 c2 o2 T2 k2 d2 xs2 st2 stt txt w' (HP.out.ext (Ext.trans EV.out h)) HL.out HBS.out (by omega) (HX2.out.ext h) HL2.out HB2.out (by omega) (by omega))
            obtain ⟨⟨gr, ge⟩, hG⟩ : ∃ x, giveS ⟨nm, ss⟩ ⟨p2, xs2, st2, c2, o2⟩ stt txt = x := ⟨_, rfl⟩
            simp only [hG] at H19 H20
            unfold runV at H19 H20
            have HGB := Lib.hid (give_bd hG HB2.out trivial)
            have qge : (ge == ge) = true := beq_self_eq_true ge
            clear hG
            have qP0 := kP.c0
            have qP1 := kP.c1
            have qB0 := kB.c0
            have qB1 := kB.c1
            have qB2 := kB.c2
            have qB3 := kB.c3
            have qB4 := kB.c4
            have qY0 := kY.c0
            have qY1 := kY.c1
            have qY2 := kY.c2
            have qY3 := kY.c3
            have qY4 := kY.c4
            have HE := Lib.hid E0
            clear E0
            go_wp2_with fail
            refine (H19.out wv HEV.out).mono ?_
            rintro e w41 ⟨TG, kk, dG, rfl, hgG, hkG, he⟩
            clear qP0 qP1 qB0 qB1 qB2 qB3 qB4 qY0 qY1 qY2 qY3 qY4
            replace kP := kP.ext he
            replace kB := kB.ext he
            replace kY := kY.ext he
            have E0 := Ext.trans HE.out he
            replace HEV := Lib.hid (Ext.trans HEV.out he)
            clear he HE
            subst hkG
            go_upto_region 16 with (fail)
            have eN := Ext.new w41 (.cells #[.int .i64 gr.place, .slice TG gr.vars.length dG, .string gr.status, .int .i64 gr.count, .int .i64 gr.over] 27)
            have kG := Blk.new w41 [.int .i64 gr.place, .slice TG gr.vars.length dG, .string gr.status, .int .i64 gr.count, .int .i64 gr.over] 27
            obtain ⟨G, hG⟩ : ∃ b, w41.heap.size = b := ⟨_, rfl⟩
            rw [hG] at kG
            try simp only [hG]
            replace kP := kP.ext eN
            replace kB := kB.ext eN
            replace kY := kY.ext eN
            replace E0 := Ext.trans E0 eN
            replace HEV := Lib.hid (Ext.trans HEV.out eN)
            replace hgG := hgG.ext eN
            generalize World.alloc _ _ = vG at kP kB kY kG E0 HEV hgG 
            clear eN hG
            have HGG := Lib.hid hgG
            clear hgG
            have qP0 := kP.c0
            have qP1 := kP.c1
            have qB0 := kB.c0
            have qB1 := kB.c1
            have qB2 := kB.c2
            have qB3 := kB.c3
            have qB4 := kB.c4
            have qY0 := kY.c0
            have qY1 := kY.c1
            have qY2 := kY.c2
            have qY3 := kY.c3
            have qY4 := kY.c4
            have qG0 := kG.c0
            have qG1 := kG.c1
            have qG2 := kG.c2
            have qG3 := kG.c3
            have qG4 := kG.c4
            have HE := Lib.hid E0
            clear E0
            go_wp2_with fail
            refine (H20.out vG HEV.out).mono ?_
            rintro e w42 ⟨TH, kk, dH, rfl, hgH, hkH, he⟩
            clear qP0 qP1 qB0 qB1 qB2 qB3 qB4 qY0 qY1 qY2 qY3 qY4 qG0 qG1 qG2 qG3 qG4
            replace kP := kP.ext he
            replace kB := kB.ext he
            replace kY := kY.ext he
            replace kG := kG.ext he
            have E0 := Ext.trans HE.out he
            replace HEV := Lib.hid (Ext.trans HEV.out he)
            have hgG := HGG.out.ext he
            clear he HE
            subst hkH
            clear HGG
            go_upto_region 17 with (fail)
            have eN := Ext.new w42 (.cells #[.int .i64 gr.place, .slice TH gr.vars.length dH, .string gr.status, .int .i64 gr.count, .int .i64 gr.over] 27)
            have kH := Blk.new w42 [.int .i64 gr.place, .slice TH gr.vars.length dH, .string gr.status, .int .i64 gr.count, .int .i64 gr.over] 27
            obtain ⟨H, hH⟩ : ∃ b, w42.heap.size = b := ⟨_, rfl⟩
            rw [hH] at kH
            try simp only [hH]
            replace kP := kP.ext eN
            replace kB := kB.ext eN
            replace kY := kY.ext eN
            replace kG := kG.ext eN
            replace E0 := Ext.trans E0 eN
            replace HEV := Lib.hid (Ext.trans HEV.out eN)
            replace hgH := hgH.ext eN
            replace hgG := hgG.ext eN
            generalize World.alloc _ _ = vH at kP kB kY kG kH E0 HEV hgH hgG
            clear eN hH
            have HGH := Lib.hid hgH
            clear hgH
            have HGG := Lib.hid hgG
            clear hgG
            have qP0 := kP.c0
            have qP1 := kP.c1
            have qB0 := kB.c0
            have qB1 := kB.c1
            have qB2 := kB.c2
            have qB3 := kB.c3
            have qB4 := kB.c4
            have qY0 := kY.c0
            have qY1 := kY.c1
            have qY2 := kY.c2
            have qY3 := kY.c3
            have qY4 := kY.c4
            have qG0 := kG.c0
            have qG1 := kG.c1
            have qG2 := kG.c2
            have qG3 := kG.c3
            have qG4 := kG.c4
            have qH0 := kH.c0
            have qH1 := kH.c1
            have qH2 := kH.c2
            have qH3 := kH.c3
            have qH4 := kH.c4
            have HE := Lib.hid E0
            clear E0
            go_wp2_with fail
            refine (sameRun17 gr.place gr.count gr.over TG gr.vars.length dG gr.status gr.vars gr.place gr.count gr.over TH gr.vars.length dH gr.status gr.vars vH HGG.out HGH.out rfl rfl (by have := HGB.out; omega) (by have := HGB.out; omega)).mono ?_
            rintro e w43 ⟨rfl, he⟩
            clear qP0 qP1 qB0 qB1 qB2 qB3 qB4 qY0 qY1 qY2 qY3 qY4 qG0 qG1 qG2 qG3 qG4 qH0 qH1 qH2 qH3 qH4
            replace kP := kP.ext he
            replace kB := kB.ext he
            replace kY := kY.ext he
            replace kG := kG.ext he
            replace kH := kH.ext he
            have E0 := Ext.trans HE.out he
            replace HEV := Lib.hid (Ext.trans HEV.out he)
            clear he HE
            rw [sameRunS_same]
            have y0 := kY.c0
            have y1 := kY.c1
            have y2 := kY.c2
            have y3 := kY.c3
            have y4 := kY.c4
            have b0 := kB.c0
            have b1 := kB.c1
            have b2 := kB.c2
            have b3 := kB.c3
            have b4 := kB.c4
            have bz0 := kB.fz 0
            have bz1 := kB.fz 1
            have bz2 := kB.fz 2
            have bz3 := kB.fz 3
            have bz4 := kB.fz 4
            have KB9 := Lib.hid (kB.put5 (.int .i64 q.place) (.slice TY q.vars.length dy) (.string q.status) (.int .i64 q.count) (.int .i64 q.over))
            have HK9 := Lib.hid ((HK.out.ext HEV.out).row (grown_put5 w43 (R + 1) (.int .i64 q.place) (.slice TY q.vars.length dy) (.string q.status) (.int .i64 q.count) (.int .i64 q.over)) (fun b e => .inr (Option.some.inj e).symm))
            clear kB kY kP kG kH E0
            go_wp2_with fail
            go_roundw
            case rel => exact ⟨j + 1, q.place, q.count, q.over, TY, q.vars.length, dy, q.status, q.vars, by omega, by go_num, Lib.hid ⟨HK9.out, KB9.out, HTY.out _ HK9.out, rfl, HQB.out⟩⟩
            case measure => simp [intOf]; omega
          · have E0 : Ext w wv := hJ.out.1.below HEL.out (by omega)
            go_wp2_with fail
            refine (HF.out wv E0).mono ?_
            rintro e wz ⟨rfl, he⟩
            have HEZ := Lib.hid (Ext.trans E0 he)
            clear he
            go_wp2
            go_ret
            exact ⟨rfl, HEZ.out⟩
    · rw [hs]
      have HE := Lib.hid E0
      go_wp2_with fail
      refine (HF.out w12 HE.out).mono ?_
      rintro e wz ⟨rfl, he⟩
      have HEZ := Lib.hid (Ext.trans HE.out he)
      clear he
      go_wp2
      go_ret
      exact ⟨rfl, HEZ.out⟩
  · rw [hs]
    have HE := Lib.hid E0
    go_wp2_with fail
    refine (HF.out w11 HE.out).mono ?_
    rintro e wz ⟨rfl, he⟩
    have HEZ := Lib.hid (Ext.trans HE.out he)
    clear he
    go_wp2
    go_ret
    exact ⟨rfl, HEZ.out⟩
end Go.Proofs.YtkdbajpdcadliaaGreatDoor.Pg
