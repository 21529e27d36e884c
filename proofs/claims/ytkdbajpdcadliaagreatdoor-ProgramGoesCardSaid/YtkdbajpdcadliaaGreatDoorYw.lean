/- Walks: the law ProgramGoes. -/
import Derived.Test.YtkdbajpdcadliaaGreatDoorYz
import Derived.Test.YtkdbajpdcadliaaGreatDoorXj
import Derived.Test.YtkdbajpdcadliaaGreatDoorPv
import Derived.Test.YtkdbajpdcadliaaGreatDoorZw
set_option linter.unusedVariables false
namespace Go.Proofs.YtkdbajpdcadliaaGreatDoor.Pg
open Go.RowKit

theorem run_first {n : Nat} : RunOk n ⟨0, six, ⟨#[32, 32]⟩, 0, 0⟩ :=
  ⟨by show (0 : Int) ≤ 0; omega, by show (0 : Int) ≤ n; omega, by show (0 : Int) ≤ 0; omega, by show (0 : Int) ≤ 200; omega, rfl, rfl, by show (0 : Int) ≤ 0; omega, by show (0 : Int) ≤ 2; omega, fun x hx => by
    have : x = ⟨#[]⟩ := by
      unfold six at hx
      simp at hx
      exact hx
    subst this
    decide⟩
theorem there_first (P : Prog) : There P ⟨0, six, ⟨#[32, 32]⟩, 0, 0⟩ := .inr .zero
theorem bd_run {n : Nat} {q : RunS} (h : RunOk n q) : Bd q.vars := ⟨by have := h.six; omega, fun x hx => by have := h.each x hx; omega⟩
theorem give_vars6 {P : Prog} {r gr : RunS} {stt txt : ByteArray} {ge : Int} (h : giveS P r stt txt = (gr, ge)) (h6 : r.vars.length = 6) : gr.vars = [] ∨ gr.vars.length = 6 := by
  unfold giveS at h
  split at h
  · cases h; exact .inl rfl
  · split at h
    · cases h; exact .inl rfl
    · cases h
      right
      show (giveVars _ _ _ _).length = 6
      unfold giveVars
      split
      · split
        · simpa using h6
        · split
          · simpa using h6
          · exact h6
      · exact h6
theorem ext_d {w : World} : Ext w w.drew := Below.drew (Ext.refl _)
theorem ext_nd {w : World} {o : Obj} : Ext w (w.alloc o).drew := Below.drew (Ext.new _ _)
theorem ext_put {w Y : World} (h : Ext w Y) {v0 v1 v2 v3 v4 : Value} : Ext w (((((Y.setCell ⟨w.heap.size, 0, none⟩ v0).setCell ⟨w.heap.size, 1, none⟩ v1).setCell ⟨w.heap.size, 2, none⟩ v2).setCell ⟨w.heap.size, 3, none⟩ v3).setCell ⟨w.heap.size, 4, none⟩ v4) :=
  Ext.grown h (grown_put5 Y w.heap.size v0 v1 v2 v3 v4) (Nat.le_refl _)
theorem kz_of {W Y : World} (h : Ext (W.alloc (.cells #[.int .i64 0, .slice none 0 0, .string ⟨#[]⟩, .int .i64 0, .int .i64 0] 27)) Y) : Blk Y W.heap.size 27 [.int .i64 0, .slice none 0 0, .string ⟨#[]⟩, .int .i64 0, .int .i64 0] := (Blk.new W [.int .i64 0, .slice none 0 0, .string ⟨#[]⟩, .int .i64 0, .int .i64 0] 27).ext h
theorem kz_ofd {W Y : World} (h : Ext (W.alloc (.cells #[.int .i64 0, .slice none 0 0, .string ⟨#[]⟩, .int .i64 0, .int .i64 0] 27)).drew Y) : Blk Y W.heap.size 27 [.int .i64 0, .slice none 0 0, .string ⟨#[]⟩, .int .i64 0, .int .i64 0] := kz_of (Ext.trans ext_d h)
/-- Between two rounds of ProgramGoes. -/
structure Gs (P : Prog) (B Y : Nat) (W wr : World) (r : RunS) (T U : Option Addr) (x y : Nat) : Prop where
  keep : Keep2 B Y W wr
  b : Blk wr B 27 [.int .i64 r.place, .slice T 6 x, .string r.status, .int .i64 r.count, .int .i64 r.over]
  y : Blk wr Y 27 [.int .i64 r.place, .slice U 6 y, .string r.status, .int .i64 r.count, .int .i64 r.over]
  t : Strs wr T r.vars
  u : Strs wr U r.vars
  ok : RunOk P.steps.length r
  there : There P r
theorem Gs.ext {P : Prog} {B Y : Nat} {W wr w2 : World} {r : RunS} {T U : Option Addr} {x y : Nat} (h : Gs P B Y W wr r T U x y) (he : Ext wr w2) : Gs P B Y W w2 r T U x y :=
  ⟨h.keep.ext he, h.b.ext he, h.y.ext he, h.t.ext he, h.u.ext he, h.ok, h.there⟩
/-- Both boxes take a run. -/
theorem Gs.put {P : Prog} {B Y : Nat} {W wr w2 : World} {r q : RunS} {T U T' U' : Option Addr} {x y x' y' : Nat} (h : Gs P B Y W wr r T U x y) (he : Ext wr w2) (hne : B ≠ Y) (hq : RunOk P.steps.length q) (ht : There P q) (h1 : Strs w2 T' q.vars) (h2 : Strs w2 U' q.vars) {w3 : World}
    (h3 : Ext (put5 (put5 w2 B (.int .i64 q.place) (.slice T' 6 x') (.string q.status) (.int .i64 q.count) (.int .i64 q.over)) Y (.int .i64 q.place) (.slice U' 6 y') (.string q.status) (.int .i64 q.count) (.int .i64 q.over)) w3) : Gs P B Y W w3 q T' U' x' y' := by
  have hb := h.b.ext he
  have hy := h.y.ext he
  have hB5 := hb.put5 (.int .i64 q.place) (.slice T' 6 x') (.string q.status) (.int .i64 q.count) (.int .i64 q.over)
  have g1 := grown_put5 w2 B (.int .i64 q.place) (.slice T' 6 x') (.string q.status) (.int .i64 q.count) (.int .i64 q.over)
  have hY1 := hy.kept g1 hne.symm
  have g2 := grown_put5 (put5 w2 B (.int .i64 q.place) (.slice T' 6 x') (.string q.status) (.int .i64 q.count) (.int .i64 q.over)) Y (.int .i64 q.place) (.slice U' 6 y') (.string q.status) (.int .i64 q.count) (.int .i64 q.over)
  have hY5 := hY1.put5 (.int .i64 q.place) (.slice U' 6 y') (.string q.status) (.int .i64 q.count) (.int .i64 q.over)
  have k1 : Keep B w2 _ := (Keep.refl B w2).row g1 (fun b e => .inr (Option.some.inj e).symm)
  have k2 : Keep Y _ _ := (Keep.refl Y _).row g2 (fun b e => .inr (Option.some.inj e).symm)
  have s1 := k1.strs h1 (six_ne h1 hq.six hb)
  have s2 := k1.strs h2 (six_ne h2 hq.six hb)
  have s3 := k2.strs s1 (six_ne s1 hq.six hY1)
  have s4 := k2.strs s2 (six_ne s2 hq.six hY1)
  have kk : Keep2 B Y W _ := ((h.keep.ext he).trans (Keep2.of_keep k1)).trans ⟨k2.os, k2.tape, k2.output, k2.size, fun k hk _ h2 => k2.block k hk h2⟩
  exact ⟨kk.ext h3, (hB5.kept g2 hne).ext h3, hY5.ext h3, s3.ext h3, s4.ext h3, hq, ht⟩

set_option maxRecDepth 100000 in
set_option maxHeartbeats 8000000 in
theorem law8 (nm : ByteArray) (A : Option Addr) (n c : Nat) (ss : List Step) (GL : Option Addr) (m d : Nat) (gs : List (ByteArray × ByteArray)) (w : World) (hp : StepsAt w A ss) (hl : ss.length = n) (hb : BdLS ss) (hnm : (nm.size : Int) ≤ 9223372036854775807)
    (hgv : GivenAt w GL gs) (hgl : gs.length = m) (hgb : BdG gs) (hg : Gl w) (hgw : GlB w.heap.size) :
    Calls Tryz.prog 8 #[.agg #[.string nm, .slice A n c], .slice GL m d] w fun e w' => e = .returned (.bool true) ∧ Ext w w' := by
  have HP := Lib.hid hp
  have HL := Lib.hid hl
  have HB := Lib.hid hb
  have HGV := Lib.hid hgv
  have HGL := Lib.hid hgl
  have HGB := Lib.hid hgb
  have HG := Lib.hid hg
  have HGW := Lib.hid hgw
  have hml : (m : Int) ≤ 9223372036854775807 := by rw [← hgl]; exact hgb.len
  have HF := Lib.hid (fun w' (h : Ext w w') => first14 w' (hg.ext h) (hgw.ext h))
  have E0 := Ext.new w (.cells #[.string nm, .slice A n c] 24)
  have kP := Blk.new w [.string nm, .slice A n c] 24
  obtain ⟨R, hR⟩ : ∃ R, w.heap.size = R := ⟨_, rfl⟩
  clear hp hl hb hgv hgl hgb hg hgw
  go_enter Tryz.func8, Tryz.ntmps8
  go_upto_region 1 with (fail)
  rw [hR] at kP
  try simp only [hR]
  generalize World.alloc _ _ = W0 at E0 kP
  have qP0 := kP.c0
  have qP1 := kP.c1
  have HE := Lib.hid E0
  clear E0
  go_wp2_with fail
  refine (small12 nm A n c ss W0 (HP.out.ext HE.out) HL.out HB.out hnm).mono ?_
  rintro e w1 ⟨rfl, he⟩
  clear qP0 qP1
  replace kP := kP.ext he
  have E0 := Ext.trans HE.out he
  clear he HE
  rcases Bool.eq_false_or_eq_true (smallS ⟨nm, ss⟩) with hs | hs
  · rw [hs]
    obtain ⟨hbs, hnm2⟩ := small_bd hs
    have HBS := Lib.hid hbs
    clear hs hbs
    by_cases h60 : (60 : Int) < (m : Int)
    · have HE := Lib.hid E0
      go_wp2_with fail
      refine (HF.out w1 HE.out).mono ?_
      rintro e wz ⟨rfl, he⟩
      have HEZ := Lib.hid (Ext.trans HE.out he)
      clear he
      go_wp2
      go_ret
      exact ⟨rfl, HEZ.out⟩
    have qP0 := kP.c0
    have qP1 := kP.c1
    have HE := Lib.hid E0
    clear E0
    go_wp2_with fail
    refine (valid21 nm A n c ss w1 (HP.out.ext HE.out) HL.out HBS.out (by omega)).mono ?_
    rintro e w2 ⟨rfl, he⟩
    clear qP0 qP1
    replace kP := kP.ext he
    have E0 := Ext.trans HE.out he
    clear he HE
    rcases Bool.eq_false_or_eq_true (validS ⟨nm, ss⟩) with hv | hv
    · rw [hv]
      have HV := Lib.hid hv
      clear hv
      have qP0 := kP.c0
      have qP1 := kP.c1
      have HE := Lib.hid E0
      clear E0
      go_wp2_with fail
      refine (reached33 nm A n c ss w2 (HP.out.ext HE.out) HL.out HBS.out (by omega)).mono ?_
      rintro e w3 ⟨T3, d3, l3, rfl, hI3, hr3, he⟩
      clear qP0 qP1
      replace kP := kP.ext he
      have E0 := Ext.trans HE.out he
      clear he HE
      rw [if_pos HV.out]
      obtain ⟨bs, hbs, hl3⟩ := hr3.1 HV.out
      have hl3n := hr3.len HBS.out
      have HMK := Lib.hid hbs
      have HL3 := Lib.hid hl3
      have HI3 := Lib.hid hI3
      have EC := Lib.hid E0
      obtain ⟨wc, hwc⟩ : ∃ wc, wc = w3 := ⟨_, rfl⟩
      have hPB : R < wc.heap.size := by rw [hwc]; exact kP.lt
      clear hr3 hbs hl3 hI3
      have H22 := Lib.hid (fun w' (h : Ext w w') => begin22 nm A n c ss w' (HP.out.ext h) HL.out HBS.out (by omega) HV.out)
      have H29 := Lib.hid (fun w' (h : Ext w w') => begin29 nm A n c ss w' (HP.out.ext h) HL.out HBS.out (by omega) HV.out)
      unfold runV at H22 H29
      have qP0 := kP.c0
      have qP1 := kP.c1
      have HE := Lib.hid E0
      clear E0
      go_wp2_with fail
      refine (H22.out w3 HE.out).mono ?_
      rintro e w4 ⟨TB, rfl, hTB, he⟩
      clear qP0 qP1
      replace kP := kP.ext he
      have E0 := Ext.trans HE.out he
      have ECB := Lib.hid he
      clear he HE
      go_upto_region 7 with (fail)
      have eN := Ext.new w4 (.cells #[.int .i64 0, .slice TB 6 6, .string ⟨#[32, 32]⟩, .int .i64 0, .int .i64 0] 27)
      have kB := Blk.new w4 [.int .i64 0, .slice TB 6 6, .string ⟨#[32, 32]⟩, .int .i64 0, .int .i64 0] 27
      obtain ⟨B, hB⟩ : ∃ b, w4.heap.size = b := ⟨_, rfl⟩
      rw [hB] at kB
      try simp only [hB]
      have hBW : wc.heap.size ≤ B := by rw [hwc, ← hB]; exact ECB.out.size
      have hTB2 := hTB.strs.1.ext eN
      replace kP := kP.ext eN
      replace E0 := Ext.trans E0 eN
      have ECD := Lib.hid (Ext.trans ECB.out eN)
      generalize World.alloc _ _ = vB at kP kB E0 hTB2 ECD
      clear eN hB hTB ECB
      have qP0 := kP.c0
      have qP1 := kP.c1
      have qB0 := kB.c0
      have qB1 := kB.c1
      have qB2 := kB.c2
      have qB3 := kB.c3
      have qB4 := kB.c4
      have HE := Lib.hid E0
      clear E0
      go_wp2_with fail
      refine (H29.out vB HE.out).mono ?_
      rintro e w5 ⟨TY, rfl, hTY, he⟩
      clear qP0 qP1 qB0 qB1 qB2 qB3 qB4
      replace kP := kP.ext he
      replace kB := kB.ext he
      have E0 := Ext.trans HE.out he
      replace hTB2 := hTB2.ext he
      replace ECD := Lib.hid (Ext.trans ECD.out he)
      clear he HE
      go_upto_region 8 with (fail)
      have eN := Ext.new w5 (.cells #[.int .i64 0, .slice TY 6 6, .string ⟨#[32, 32]⟩, .int .i64 0, .int .i64 0] 27)
      have kY := Blk.new w5 [.int .i64 0, .slice TY 6 6, .string ⟨#[32, 32]⟩, .int .i64 0, .int .i64 0] 27
      obtain ⟨Y, hY⟩ : ∃ b, w5.heap.size = b := ⟨_, rfl⟩
      rw [hY] at kY
      try simp only [hY]
      have hBY : B < Y := by rw [← hY]; exact kB.lt
      have hTY2 := hTY.strs.1.ext eN
      replace kP := kP.ext eN
      replace kB := kB.ext eN
      replace E0 := Ext.trans E0 eN
      replace hTB2 := hTB2.ext eN
      replace ECD := Lib.hid (Ext.trans ECD.out eN)
      generalize World.alloc _ _ = vY at kP kB kY E0 hTB2 hTY2 ECD
      rw [← hwc] at ECD HI3 EC
      clear eN hY hTY hwc
      have HG0 := Lib.hid (show Gs ⟨nm, ss⟩ B Y vY vY ⟨0, six, ⟨#[32, 32]⟩, 0, 0⟩ TB TY 6 6 from ⟨Keep2.refl _ _ _, kB, kY, hTB2, hTY2, run_first, there_first _⟩)
      have HKP := Lib.hid kP
      clear kP kB kY hTB2 hTY2 E0
      go_upto_region 11 with (fail)
      go_loopw [10] (fun i wr => ∃ (j : Nat) (r : RunS) (T U : Option Addr) (x y : Nat), j ≤ m ∧ i = .int .i64 j ∧ Hid (Gs ⟨nm, ss⟩ B Y vY wr r T U x y)) (fun i _ => m - (intOf i).toNat)
      case atStart => exact ⟨0, _, _, _, _, _, by omega, rfl, HG0⟩
      case round =>
        clear HG0
        obtain ⟨j, r, T, U, x, y, hj, rfl, hJ⟩ := hrel
        obtain ⟨wv, rfl⟩ : ∃ wv, wv = wr := ⟨_, rfl⟩
        have hcv := hJ.out.keep.out ECD.out (by omega) (by omega)
        have HCV := Lib.hid hcv
        have E0 : Ext w wv := Ext.trans EC.out hcv
        clear hcv
        by_cases hlt : j < m
        · have kP := hJ.out.keep.blk HKP.out (by omega) (by omega)
          have kB := hJ.out.b
          have kY := hJ.out.y
          have HST := Lib.hid hJ.out.t
          have HSU := Lib.hid hJ.out.u
          have HOK := Lib.hid hJ.out.ok
          have HTH := Lib.hid hJ.out.there
          obtain ⟨ag, hag, g0, g1⟩ := (HGV.out.ext E0) j (by have := HGL.out; omega)
          subst hag
          have hgz := HGB.out.each _ (List.getElem_mem (by have := HGL.out; omega : j < gs.length))
          obtain ⟨⟨stt, txt⟩, hgg⟩ : ∃ g, gs[j]'(by have := HGL.out; omega) = g := ⟨_, rfl⟩
          rw [hgg] at g0 g1 hgz
          replace g0 : wv.cell? (ag.add (j * 2)) = some (.string stt) := g0
          replace g1 : wv.cell? ⟨(ag.add (j * 2)).block, (ag.add (j * 2)).off + 1, none⟩ = some (.string txt) := g1
          have hz3 : (stt.size : Int) ≤ 9223372036854775807 := hgz.1
          have hz4 : (txt.size : Int) ≤ 9223372036854775807 := hgz.2
          have HGG := Lib.hid hgg
          clear hgz hgg
          by_cases hz1 : (200 : Int) < (txt.size : Int)
          · have HE := Lib.hid E0
            go_wp2_with fail
            refine (HF.out wv HE.out).mono ?_
            rintro e wz ⟨rfl, he⟩
            have HEZ := Lib.hid (Ext.trans HE.out he)
            clear he
            go_wp2
            go_ret
            exact ⟨rfl, HEZ.out⟩
          by_cases hz2 : (200 : Int) < (stt.size : Int)
          · have HE := Lib.hid E0
            go_wp2_with fail
            refine (HF.out wv HE.out).mono ?_
            rintro e wz ⟨rfl, he⟩
            have HEZ := Lib.hid (Ext.trans HE.out he)
            clear he
            go_wp2
            go_ret
            exact ⟨rfl, HEZ.out⟩
          have hR : wantR ⟨nm, ss⟩ ⟨r.place, r.vars, r.status, r.count, r.over⟩ = ((wantS ⟨nm, ss⟩ r).1, (wantS ⟨nm, ss⟩ r).2, 0) := by
            show wantR ⟨nm, ss⟩ r = _
            unfold wantR
            rw [if_pos (asked_zero HV.out HOK.out)]
          have hqo := (wantS_ok HV.out HOK.out).run
          have hqt := wantS_there HV.out HOK.out HTH.out
          have hwk := @wantR_texts ⟨nm, ss⟩ ⟨r.place, r.vars, r.status, r.count, r.over⟩
          have H15 := Lib.hid (fun w' (h : Ext wv w') => want15 nm A n c ss r.place r.count r.over T 6 x r.vars r.status w' (HP.out.ext (Ext.trans E0 h)) HL.out HBS.out (by omega) (HST.out.ext h) HOK.out.six (bd_run HOK.out) (HG.out.ext (Ext.trans E0 h)) (HGW.out.ext (Ext.trans E0 h)))
          have H16 := Lib.hid (fun w' (h : Ext wv w') => want16 nm A n c ss r.place r.count r.over U 6 y r.vars r.status w' (HP.out.ext (Ext.trans E0 h)) HL.out HBS.out (by omega) (HSU.out.ext h) HOK.out.six (bd_run HOK.out) (HG.out.ext (Ext.trans E0 h)) (HGW.out.ext (Ext.trans E0 h)))
          simp only [hR] at H15 H16 hwk
          obtain ⟨⟨q, wq⟩, hW⟩ : ∃ z, wantS ⟨nm, ss⟩ r = z := ⟨_, rfl⟩
          simp only [hW] at H15 H16 hwk hqo hqt
          unfold runV at H15 H16
          have HQO := Lib.hid hqo
          have HQT := Lib.hid hqt
          have HWK := Lib.hid hwk
          have HEV := Lib.hid (Ext.refl wv)
          clear hR hW hqo hqt hwk
          have qP0 := kP.c0
          have qP1 := kP.c1
          have qB0 := kB.c0
          have qB1 := kB.c1
          have qB2 := kB.c2
          have qB3 := kB.c3
          have qB4 := kB.c4
          have qY0 := kY.c0
          have qY1 := kY.c1
          have qY2 := kY.c2
          have qY3 := kY.c3
          have qY4 := kY.c4
          have HE := Lib.hid E0
          clear E0
          go_wp2_with fail
          refine (H15.out wv HEV.out).mono ?_
          rintro e w21 ⟨TX, kx, dx, TXW, nx, cx, rfl, hx1, hx2, hx3, hx4, he⟩
          clear qP0 qP1 qB0 qB1 qB2 qB3 qB4 qY0 qY1 qY2 qY3 qY4
          replace kP := kP.ext he
          replace kB := kB.ext he
          replace kY := kY.ext he
          have E0 := Ext.trans HE.out he
          replace HEV := Lib.hid (Ext.trans HEV.out he)
          clear he HE
          subst hx2 hx4
          go_upto_region 16 with (fail)
          have eN := Ext.new w21 (.cells #[.int .i64 q.place, .slice TX q.vars.length dx, .string q.status, .int .i64 q.count, .int .i64 q.over] 27)
          have eM := Ext.new (w21.alloc (.cells #[.int .i64 q.place, .slice TX q.vars.length dx, .string q.status, .int .i64 q.count, .int .i64 q.over] 27)) (.cells #[.int .i64 wq.op, .int .i64 wq.a, .int .i64 wq.b, .slice TXW wq.texts.length cx] 34)
          have kX := (Blk.new w21 [.int .i64 q.place, .slice TX q.vars.length dx, .string q.status, .int .i64 q.count, .int .i64 q.over] 27).ext eM
          have kXW := Blk.new (w21.alloc (.cells #[.int .i64 q.place, .slice TX q.vars.length dx, .string q.status, .int .i64 q.count, .int .i64 q.over] 27)) [.int .i64 wq.op, .int .i64 wq.a, .int .i64 wq.b, .slice TXW wq.texts.length cx] 34
          obtain ⟨X, hX⟩ : ∃ b, w21.heap.size = b := ⟨_, rfl⟩
          simp only [World.size_alloc] at kXW
          rw [hX] at kX kXW
          try simp only [hX]
          have hYX : Y < X := by rw [← hX]; exact kY.lt
          replace kP := (kP.ext eN).ext eM
          replace kB := (kB.ext eN).ext eM
          replace kY := (kY.ext eN).ext eM
          replace E0 := Ext.trans (Ext.trans E0 eN) eM
          replace HEV := Lib.hid (Ext.trans (Ext.trans HEV.out eN) eM)
          replace hx1 := (hx1.ext eN).ext eM
          replace hx3 := (hx3.ext eN).ext eM
          generalize World.alloc _ _ = vX at kP kB kY kX kXW E0 HEV hx1 hx3
          clear eN eM hX
          have HX1 := Lib.hid hx1
          clear hx1
          have HX3 := Lib.hid hx3
          clear hx3
          have qP0 := kP.c0
          have qP1 := kP.c1
          have qB0 := kB.c0
          have qB1 := kB.c1
          have qB2 := kB.c2
          have qB3 := kB.c3
          have qB4 := kB.c4
          have qY0 := kY.c0
          have qY1 := kY.c1
          have qY2 := kY.c2
          have qY3 := kY.c3
          have qY4 := kY.c4
          have qX0 := kX.c0
          have qX1 := kX.c1
          have qX2 := kX.c2
          have qX3 := kX.c3
          have qX4 := kX.c4
          have qXW0 := kXW.c0
          have qXW1 := kXW.c1
          have qXW2 := kXW.c2
          have qXW3 := kXW.c3
          have HE := Lib.hid E0
          clear E0
          go_wp2_with fail
          refine (H16.out vX HEV.out).mono ?_
          rintro e w22 ⟨TZ, ky, dz, TZW, ny, cz, rfl, hz1', hz2', hz3', hz4', he⟩
          clear qP0 qP1 qB0 qB1 qB2 qB3 qB4 qY0 qY1 qY2 qY3 qY4 qX0 qX1 qX2 qX3 qX4 qXW0 qXW1 qXW2 qXW3
          replace kP := kP.ext he
          replace kB := kB.ext he
          replace kY := kY.ext he
          replace kX := kX.ext he
          replace kXW := kXW.ext he
          have E0 := Ext.trans HE.out he
          replace HEV := Lib.hid (Ext.trans HEV.out he)
          have hx1 := HX1.out.ext he
          have hx3 := HX3.out.ext he
          clear he HE
          subst hz2' hz4'
          clear HX1 HX3
          go_upto_region 17 with (fail)
          have eN := Ext.new w22 (.cells #[.int .i64 q.place, .slice TZ q.vars.length dz, .string q.status, .int .i64 q.count, .int .i64 q.over] 27)
          have eM := Ext.new (w22.alloc (.cells #[.int .i64 q.place, .slice TZ q.vars.length dz, .string q.status, .int .i64 q.count, .int .i64 q.over] 27)) (.cells #[.int .i64 wq.op, .int .i64 wq.a, .int .i64 wq.b, .slice TZW wq.texts.length cz] 34)
          have kZ := (Blk.new w22 [.int .i64 q.place, .slice TZ q.vars.length dz, .string q.status, .int .i64 q.count, .int .i64 q.over] 27).ext eM
          have kZW := Blk.new (w22.alloc (.cells #[.int .i64 q.place, .slice TZ q.vars.length dz, .string q.status, .int .i64 q.count, .int .i64 q.over] 27)) [.int .i64 wq.op, .int .i64 wq.a, .int .i64 wq.b, .slice TZW wq.texts.length cz] 34
          obtain ⟨Z, hZ⟩ : ∃ b, w22.heap.size = b := ⟨_, rfl⟩
          simp only [World.size_alloc] at kZW
          rw [hZ] at kZ kZW
          try simp only [hZ]
          have hYZ : Y < Z := by rw [← hZ]; exact kY.lt
          replace kP := (kP.ext eN).ext eM
          replace kB := (kB.ext eN).ext eM
          replace kY := (kY.ext eN).ext eM
          replace kX := (kX.ext eN).ext eM
          replace kXW := (kXW.ext eN).ext eM
          replace E0 := Ext.trans (Ext.trans E0 eN) eM
          replace HEV := Lib.hid (Ext.trans (Ext.trans HEV.out eN) eM)
          replace hz1' := (hz1'.ext eN).ext eM
          replace hz3' := (hz3'.ext eN).ext eM
          replace hx1 := (hx1.ext eN).ext eM
          replace hx3 := (hx3.ext eN).ext eM
          generalize World.alloc _ _ = vZ at kP kB kY kX kXW kZ kZW E0 HEV hz1' hz3' hx1 hx3
          clear eN eM hZ
          have HZ1' := Lib.hid hz1'
          clear hz1'
          have HZ3' := Lib.hid hz3'
          clear hz3'
          have HX1 := Lib.hid hx1
          clear hx1
          have HX3 := Lib.hid hx3
          clear hx3
          have qP0 := kP.c0
          have qP1 := kP.c1
          have qB0 := kB.c0
          have qB1 := kB.c1
          have qB2 := kB.c2
          have qB3 := kB.c3
          have qB4 := kB.c4
          have qY0 := kY.c0
          have qY1 := kY.c1
          have qY2 := kY.c2
          have qY3 := kY.c3
          have qY4 := kY.c4
          have qX0 := kX.c0
          have qX1 := kX.c1
          have qX2 := kX.c2
          have qX3 := kX.c3
          have qX4 := kX.c4
          have qXW0 := kXW.c0
          have qXW1 := kXW.c1
          have qXW2 := kXW.c2
          have qXW3 := kXW.c3
          have qZ0 := kZ.c0
          have qZ1 := kZ.c1
          have qZ2 := kZ.c2
          have qZ3 := kZ.c3
          have qZ4 := kZ.c4
          have qZW0 := kZW.c0
          have qZW1 := kZW.c1
          have qZW2 := kZW.c2
          have qZW3 := kZW.c3
          have HE := Lib.hid E0
          clear E0
          go_wp2_with fail
          refine (sameRun17 q.place q.count q.over TX q.vars.length dx q.status q.vars q.place q.count q.over TZ q.vars.length dz q.status q.vars vZ HX1.out HZ1'.out rfl rfl (by have := HQO.out.six; omega) (by have := HQO.out.six; omega)).mono ?_
          rintro e w23 ⟨rfl, he⟩
          clear qP0 qP1 qB0 qB1 qB2 qB3 qB4 qY0 qY1 qY2 qY3 qY4 qX0 qX1 qX2 qX3 qX4 qXW0 qXW1 qXW2 qXW3 qZ0 qZ1 qZ2 qZ3 qZ4 qZW0 qZW1 qZW2 qZW3
          replace kP := kP.ext he
          replace kB := kB.ext he
          replace kY := kY.ext he
          replace kX := kX.ext he
          replace kXW := kXW.ext he
          replace kZ := kZ.ext he
          replace kZW := kZW.ext he
          have E0 := Ext.trans HE.out he
          replace HEV := Lib.hid (Ext.trans HEV.out he)
          have KE1 := Lib.hid he
          clear he HE
          rw [sameRunS_same]
          have qP0 := kP.c0
          have qP1 := kP.c1
          have qB0 := kB.c0
          have qB1 := kB.c1
          have qB2 := kB.c2
          have qB3 := kB.c3
          have qB4 := kB.c4
          have qY0 := kY.c0
          have qY1 := kY.c1
          have qY2 := kY.c2
          have qY3 := kY.c3
          have qY4 := kY.c4
          have qX0 := kX.c0
          have qX1 := kX.c1
          have qX2 := kX.c2
          have qX3 := kX.c3
          have qX4 := kX.c4
          have qXW0 := kXW.c0
          have qXW1 := kXW.c1
          have qXW2 := kXW.c2
          have qXW3 := kXW.c3
          have qZ0 := kZ.c0
          have qZ1 := kZ.c1
          have qZ2 := kZ.c2
          have qZ3 := kZ.c3
          have qZ4 := kZ.c4
          have qZW0 := kZW.c0
          have qZW1 := kZW.c1
          have qZW2 := kZW.c2
          have qZW3 := kZW.c3
          have HE := Lib.hid E0
          clear E0
          go_wp2_with fail
          refine (sameWant18 wq.op wq.a wq.b TXW TZW wq.texts.length cx cz wq.texts w23 (HX3.out.ext KE1.out) (HZ3'.out.ext KE1.out) rfl HWK.out).mono ?_
          rintro e w24 ⟨rfl, he⟩
          clear qP0 qP1 qB0 qB1 qB2 qB3 qB4 qY0 qY1 qY2 qY3 qY4 qX0 qX1 qX2 qX3 qX4 qXW0 qXW1 qXW2 qXW3 qZ0 qZ1 qZ2 qZ3 qZ4 qZW0 qZW1 qZW2 qZW3
          replace kP := kP.ext he
          replace kB := kB.ext he
          replace kY := kY.ext he
          replace kX := kX.ext he
          replace kXW := kXW.ext he
          replace kZ := kZ.ext he
          replace kZW := kZW.ext he
          have E0 := Ext.trans HE.out he
          replace HEV := Lib.hid (Ext.trans HEV.out he)
          have KE2 := Lib.hid (Ext.trans KE1.out he)
          clear he HE
          have HX1b := Lib.hid (HX1.out.ext KE2.out)
          have HZ1b := Lib.hid (HZ1'.out.ext KE2.out)
          clear HX1 HX3 HZ1' HZ3' KE1 KE2 H15 H16 kXW kZW
          have hq6 : q.vars.length = 6 := HQO.out.six
          rw [hq6] at kX kZ
          clear hq6
          go_upto_region 19 with (fail)
          have x0 := kX.c0
          have x4 := kX.c4
          have p1 := kP.c1
          go_cut [17] from 106 to 117 (fun s wx => s = .bool (seenB q n l3 0) ∧ wx = w24)
          case first =>
          
            by_cases ho : q.over = 0
            · by_cases hpl : q.place = (n : Int)
              · go_wp2_with fail
                go_meet
                exact ⟨by rw [seenB_zero]; simp [ho, hpl], rfl⟩
              · have hplB := bq_no hpl
                go_wp2_with fail
                go_meet
                exact ⟨by rw [seenB_zero]; simp [ho, hpl], rfl⟩
            · have hoB := bq_no ho
              go_wp2_with fail
              go_meet
              exact ⟨by rw [seenB_zero]; simp [ho], rfl⟩
          case rest =>
          obtain ⟨rfl, hwx⟩ := hcut
          rw [hwx]
          clear hwx
          clear x0 x4 p1
          have HI3b := Lib.hid (HI3.out.ext (Ext.trans HCV.out HEV.out))
          have hl3r : (l3.length : Int) ≤ 9223372036854775807 := by omega
          have KX := Lib.hid kX
          have KZ := Lib.hid kZ
          have KP := Lib.hid kP
          have KB := Lib.hid kB
          have KY := Lib.hid kY
          have HE := Lib.hid E0
          clear kX kZ kP kB kY E0
          go_upto_region 21 with (fail)
          go_loopw [17, 18] (fun s i w2 => ∃ k : Nat, k ≤ l3.length ∧ i = .int .i64 k ∧ s = .bool (seenB q n l3 k) ∧ Hid (Ext w24 w2)) (fun _ i _ => l3.length - (intOf i).toNat)
          case atStart => exact ⟨0, by omega, rfl, rfl, Lib.hid (Ext.refl _)⟩
          case round =>
            obtain ⟨k, hk, rfl, rfl, hX⟩ := hrel
            by_cases hkl : k < l3.length
            · obtain ⟨a3, ha3, hc3⟩ := (HI3b.out.ext hX.out) k hkl
              subst ha3
              have x0 := (KX.out.ext hX.out).c0
              have hsu := seenB_succ (q := q) (n := n) hkl
              obtain ⟨sb, hsb⟩ : ∃ sb, seenB q n l3 k = sb := ⟨_, rfl⟩
              obtain ⟨lk, hlk⟩ : ∃ lk, l3[k] = lk := ⟨_, rfl⟩
              rw [hlk] at hc3 hsu
              rw [hsb] at hsu
              rw [hsb]
              have HSU2 := Lib.hid hsu
              clear hsu hsb hlk
              cases sb with
              | true =>
                go_upto_region 23 with (fail)
                go_quiet (fail)
                go_wp2
                go_roundw
                case rel => exact ⟨k + 1, by omega, by go_num, by rw [HSU2.out]; rfl, Lib.hid (hX.out.drewN _)⟩
                case measure => simp [intOf]; omega
              | false =>
                by_cases hpq : lk = q.place
                · subst hpq
                  go_upto_region 23 with (fail)
                  go_quiet (fail)
                  go_wp2
                  go_roundw
                  case rel => exact ⟨k + 1, by omega, by go_num, by rw [HSU2.out]; simp, Lib.hid (hX.out.drewN _)⟩
                  case measure => simp [intOf]; omega
                · have hpB := bq_no hpq
                  go_upto_region 23 with (fail)
                  go_quiet (fail)
                  go_wp2
                  go_roundw
                  case rel => exact ⟨k + 1, by omega, by go_num, by rw [HSU2.out]; simp [hpq], Lib.hid (hX.out.drewN _)⟩
                  case measure => simp [intOf]; omega
            · obtain rfl : k = l3.length := by omega
              have hall : seenB q n l3 l3.length = true := by rw [HL3.out, ← HL.out]; exact seenB_all HMK.out HQO.out HQT.out
              rw [hall]
              clear hall
              have HEW := Lib.hid (Ext.trans HEV.out hX.out)
              have HX1c := Lib.hid (HX1b.out.ext hX.out)
              have HZ1c := Lib.hid (HZ1b.out.ext hX.out)
              have kX := KX.out.ext hX.out
              have kZ := KZ.out.ext hX.out
              have kP := KP.out.ext hX.out
              have kB := KB.out.ext hX.out
              have kY := KY.out.ext hX.out
              clear HEV HX1b HZ1b KX KZ KP KB KY
              have hqc : ¬ (200 : Int) < q.count := by have := HQO.out.c1; omega
              have x0 := kX.c0
              have x1 := kX.c1
              have x2 := kX.c2
              have x3 := kX.c3
              have x4 := kX.c4
              have z0 := kZ.c0
              have z1 := kZ.c1
              have z2 := kZ.c2
              have z3 := kZ.c3
              have z4 := kZ.c4
              have b0 := kB.fz 0
              have b1 := kB.fz 1
              have b2 := kB.fz 2
              have b3 := kB.fz 3
              have b4 := kB.fz 4
              have y0 := kY.fz 0
              have y1 := kY.fz 1
              have y2 := kY.fz 2
              have y3 := kY.fz 3
              have y4 := kY.fz 4
              have cb0 := kB.c0
              have cy0 := kY.c0
              have cb1 := kB.c1
              have cy1 := kY.c1
              have cb2 := kB.c2
              have cy2 := kY.c2
              have cb3 := kB.c3
              have cy3 := kY.c3
              have cb4 := kB.c4
              have cy4 := kY.c4
              have nBY : B ≠ Y := by omega
              have nXB : B ≠ X := by omega
              have nXY : Y ≠ X := by omega
              have nZB : B ≠ Z := by omega
              have nZY : Y ≠ Z := by omega
              go_upto_region 26 with (fail)
              go_region
              have hG := Gs.put (x' := dx) (y' := dz) hJ.out HEW.out nBY HQO.out HQT.out HX1c.out HZ1c.out (Below.drew (Ext.refl _))
              simp only [put5] at hG
              generalize World.drew _ = W7 at hG ⊢
              clear x0 x1 x2 x3 x4 z0 z1 z2 z3 z4 b0 b1 b2 b3 b4 y0 y1 y2 y3 y4 cb0 cb1 cb2 cb3 cb4 cy0 cy1 cy2 cy3 cy4 kX kZ kP kB kY HEW HX1c HZ1c hqc g0 g1 HE hJ HST HSU HOK HTH nXB nXY nZB nZY HCV
              have HC7 := Lib.hid (hG.keep.out ECD.out (by omega) (by omega))
              have HE7 := Lib.hid (Ext.trans EC.out HC7.out)
              have kP := hG.keep.blk HKP.out (by omega) (by omega)
              have kB := hG.b
              have kY := hG.y
              obtain ⟨ag2, hag2, g0, g1⟩ := (HGV.out.ext HE7.out) j (by have := HGL.out; omega)
              obtain rfl : ag = ag2 := Option.some.inj hag2
              rw [HGG.out] at g0 g1
              replace g0 : W7.cell? (ag.add (j * 2)) = some (.string stt) := g0
              replace g1 : W7.cell? ⟨(ag.add (j * 2)).block, (ag.add (j * 2)).off + 1, none⟩ = some (.string txt) := g1
              have H19 := Lib.hid (fun w' (h : Ext W7 w') => give19 nm A n c ss q.place q.count q.over TX 6 dx q.vars q.status stt txt w' (HP.out.ext (Ext.trans HE7.out h)) HL.out HBS.out (by omega) (hG.t.ext h) hG.ok.six (bd_run hG.ok) (by omega) (by omega))
              have H20 := Lib.hid (fun w' (h : Ext W7 w') => give20 nm A n c ss q.place q.count q.over TZ 6 dz q.vars q.status stt txt w' (HP.out.ext (Ext.trans HE7.out h)) HL.out HBS.out (by omega) (hG.u.ext h) hG.ok.six (bd_run hG.ok) (by omega) (by omega))
              obtain ⟨⟨gr, ge⟩, hGS⟩ : ∃ x, giveS ⟨nm, ss⟩ q stt txt = x := ⟨_, rfl⟩
              have hGS2 : giveS ⟨nm, ss⟩ ⟨q.place, q.vars, q.status, q.count, q.over⟩ stt txt = (gr, ge) := hGS
              simp only [hGS2] at H19 H20
              unfold runV at H19 H20
              have HGB := Lib.hid (give_bd hGS (bd_run hG.ok) trivial)
              have HGS := Lib.hid hGS
              have HV6 := Lib.hid (give_vars6 hGS hG.ok.six)
              have HG7 := Lib.hid hG
              have SC := Lib.hid (show ∀ w', Ext W7 w' → w'.cell? ⟨R, 0, none⟩ = some (.string nm) ∧ w'.cell? ⟨R, 1, none⟩ = some (.slice A n c) ∧ w'.cell? ⟨B, 0, none⟩ = some (.int .i64 q.place) ∧ w'.cell? ⟨B, 1, none⟩ = some (.slice TX 6 dx) ∧ w'.cell? ⟨B, 2, none⟩ = some (.string q.status) ∧ w'.cell? ⟨B, 3, none⟩ = some (.int .i64 q.count) ∧ w'.cell? ⟨B, 4, none⟩ = some (.int .i64 q.over) ∧ w'.cell? (ag.add (j * 2)) = some (.string stt) ∧ w'.cell? ⟨(ag.add (j * 2)).block, (ag.add (j * 2)).off + 1, none⟩ = some (.string txt) from fun w' h => ⟨(kP.ext h).c0, (kP.ext h).c1, (kB.ext h).c0, (kB.ext h).c1, (kB.ext h).c2, (kB.ext h).c3, (kB.ext h).c4, h.cell g0, h.cell g1⟩)
              have SD := Lib.hid (show ∀ w', Ext W7 w' → w'.cell? ⟨R, 0, none⟩ = some (.string nm) ∧ w'.cell? ⟨R, 1, none⟩ = some (.slice A n c) ∧ w'.cell? ⟨Y, 0, none⟩ = some (.int .i64 q.place) ∧ w'.cell? ⟨Y, 1, none⟩ = some (.slice TZ 6 dz) ∧ w'.cell? ⟨Y, 2, none⟩ = some (.string q.status) ∧ w'.cell? ⟨Y, 3, none⟩ = some (.int .i64 q.count) ∧ w'.cell? ⟨Y, 4, none⟩ = some (.int .i64 q.over) ∧ w'.cell? (ag.add (j * 2)) = some (.string stt) ∧ w'.cell? ⟨(ag.add (j * 2)).block, (ag.add (j * 2)).off + 1, none⟩ = some (.string txt) from fun w' h => ⟨(kP.ext h).c0, (kP.ext h).c1, (kY.ext h).c0, (kY.ext h).c1, (kY.ext h).c2, (kY.ext h).c3, (kY.ext h).c4, h.cell g0, h.cell g1⟩)
              have hW7 : B < W7.heap.size := kB.lt
              clear hGS hGS2 hG kP kB kY g0 g1
              go_upto_region 27 with (fail)
              go_cut [13, 19] from 142 to 158 (fun s13 s19 wx => s13 = .int .i64 ge ∧ ∃ (G : Nat) (TG : Option Addr) (dG : Nat), s19 = .pointer (some ⟨G, 0, none⟩) ∧ Hid (W7.heap.size ≤ G ∧ Ext W7 wx ∧ Blk wx G 27 [.int .i64 gr.place, .slice TG gr.vars.length dG, .string gr.status, .int .i64 gr.count, .int .i64 gr.over] ∧ Strs wx TG gr.vars))
              case first =>
                go_region_held3 (fun w' => w'.cell? ⟨R, 0, none⟩ = some (.string nm) ∧ w'.cell? ⟨R, 1, none⟩ = some (.slice A n c) ∧ w'.cell? ⟨B, 0, none⟩ = some (.int .i64 q.place) ∧ w'.cell? ⟨B, 1, none⟩ = some (.slice TX 6 dx) ∧ w'.cell? ⟨B, 2, none⟩ = some (.string q.status) ∧ w'.cell? ⟨B, 3, none⟩ = some (.int .i64 q.count) ∧ w'.cell? ⟨B, 4, none⟩ = some (.int .i64 q.over) ∧ w'.cell? (ag.add (j * 2)) = some (.string stt) ∧ w'.cell? ⟨(ag.add (j * 2)).block, (ag.add (j * 2)).off + 1, none⟩ = some (.string txt)) ((refine SC.out _ ?_; first | with_reducible exact ext_d | with_reducible exact ext_nd | with_reducible exact Ext.refl _ | with_reducible exact Ext.new _ _ | with_reducible exact HW.out | with_reducible exact Ext.trans HW.out (Ext.new _ _) | with_reducible exact ext_put HW.out)) (first | (go_at_call 19; refine (H19.out _ (by first | with_reducible exact Ext.refl _ | with_reducible exact ext_d | with_reducible exact Ext.new _ _ | with_reducible exact ext_nd)).mono ?_; rintro e Y9 ⟨TG, kk, dG, rfl, hg, hk, he⟩; subst hk; have hw : Ext W7 Y9 := Ext.trans (by first | with_reducible exact Ext.refl _ | with_reducible exact ext_d | with_reducible exact Ext.new _ _ | with_reducible exact ext_nd) he; (try (have kz : Blk Y9 W7.heap.size 27 [.int .i64 0, .slice none 0 0, .string ⟨#[]⟩, .int .i64 0, .int .i64 0] := (by first | with_reducible exact kz_of he | with_reducible exact kz_ofd he); have z0 := kz.c0; have z1 := kz.c1; have z2 := kz.c2; have z3 := kz.c3; have z4 := kz.c4; have y0 := kz.fz 0; have y1 := kz.fz 1; have y2 := kz.fz 2; have y3 := kz.fz 3; have y4 := kz.fz 4; have KZ9 := Lib.hid kz; clear kz)); have HW := Lib.hid hw; have HGT := Lib.hid hg; clear hw hg he))
                · go_wp2
                  go_meet
                  exact ⟨rfl, Y9.heap.size, TG, dG, rfl, Lib.hid ⟨HW.out.size, Ext.trans HW.out (Ext.new _ _), Blk.new Y9 [.int .i64 gr.place, .slice TG gr.vars.length dG, .string gr.status, .int .i64 gr.count, .int .i64 gr.over] 27, HGT.out.ext (Ext.new _ _)⟩⟩
                · go_wp2
                  go_meet
                  have hk := KZ9.out.put5 (.int .i64 gr.place) (.slice TG gr.vars.length dG) (.string gr.status) (.int .i64 gr.count) (.int .i64 gr.over)
                  have hgg := grown_put5 Y9 W7.heap.size (.int .i64 gr.place) (.slice TG gr.vars.length dG) (.string gr.status) (.int .i64 gr.count) (.int .i64 gr.over)
                  have hkp := (Keep.refl W7.heap.size Y9).row hgg (fun b e => .inr (Option.some.inj e).symm)
                  have hst : Strs (put5 Y9 W7.heap.size (.int .i64 gr.place) (.slice TG gr.vars.length dG) (.string gr.status) (.int .i64 gr.count) (.int .i64 gr.over)) TG gr.vars := by
                    rcases HV6.out with h | h
                    · rw [h]; exact Strs.nil _ _
                    · exact hkp.strs HGT.out (six_ne HGT.out h KZ9.out)
                  simp only [put5] at hk hst
                  exact ⟨rfl, W7.heap.size, TG, dG, rfl, Lib.hid ⟨Nat.le_refl _, ext_put HW.out, hk, hst⟩⟩
              case rest =>
              obtain ⟨rfl, G, TG, dG, rfl, hJ9⟩ := hcut
              obtain ⟨wx, rfl⟩ : ∃ wx, wx = wc := ⟨_, rfl⟩
              have HE8 := Lib.hid hJ9.out.2.1
              have hGW := hJ9.out.1
              have hwx : W7.heap.size ≤ wx.heap.size := HE8.out.size
              clear H19 SC
              go_upto_region 28 with (fail)
              go_cut [20, 21] from 158 to 174 (fun s20 s21 w8 => s21 = .int .i64 ge ∧ ∃ (H : Nat) (TH : Option Addr) (dH : Nat), s20 = .pointer (some ⟨H, 0, none⟩) ∧ Hid (wx.heap.size ≤ H ∧ Ext wx w8 ∧ Blk w8 H 27 [.int .i64 gr.place, .slice TH gr.vars.length dH, .string gr.status, .int .i64 gr.count, .int .i64 gr.over] ∧ Strs w8 TH gr.vars))
              case first =>
                go_region_held3 (fun w' => w'.cell? ⟨R, 0, none⟩ = some (.string nm) ∧ w'.cell? ⟨R, 1, none⟩ = some (.slice A n c) ∧ w'.cell? ⟨Y, 0, none⟩ = some (.int .i64 q.place) ∧ w'.cell? ⟨Y, 1, none⟩ = some (.slice TZ 6 dz) ∧ w'.cell? ⟨Y, 2, none⟩ = some (.string q.status) ∧ w'.cell? ⟨Y, 3, none⟩ = some (.int .i64 q.count) ∧ w'.cell? ⟨Y, 4, none⟩ = some (.int .i64 q.over) ∧ w'.cell? (ag.add (j * 2)) = some (.string stt) ∧ w'.cell? ⟨(ag.add (j * 2)).block, (ag.add (j * 2)).off + 1, none⟩ = some (.string txt)) ((refine SD.out _ (Ext.trans HE8.out ?_); first | with_reducible exact ext_d | with_reducible exact ext_nd | with_reducible exact Ext.refl _ | with_reducible exact Ext.new _ _ | with_reducible exact HW.out | with_reducible exact Ext.trans HW.out (Ext.new _ _) | with_reducible exact ext_put HW.out)) (first | (go_at_call 20; refine (H20.out _ (Ext.trans HE8.out (by first | with_reducible exact Ext.refl _ | with_reducible exact ext_d | with_reducible exact Ext.new _ _ | with_reducible exact ext_nd))).mono ?_; rintro e Y9 ⟨TH, kk, dH, rfl, hg, hk, he⟩; subst hk; have hw : Ext wx Y9 := Ext.trans (by first | with_reducible exact Ext.refl _ | with_reducible exact ext_d | with_reducible exact Ext.new _ _ | with_reducible exact ext_nd) he; (try (have kz : Blk Y9 wx.heap.size 27 [.int .i64 0, .slice none 0 0, .string ⟨#[]⟩, .int .i64 0, .int .i64 0] := (by first | with_reducible exact kz_of he | with_reducible exact kz_ofd he); have z0 := kz.c0; have z1 := kz.c1; have z2 := kz.c2; have z3 := kz.c3; have z4 := kz.c4; have y0 := kz.fz 0; have y1 := kz.fz 1; have y2 := kz.fz 2; have y3 := kz.fz 3; have y4 := kz.fz 4; have KZ9 := Lib.hid kz; clear kz)); have HW := Lib.hid hw; have HGT := Lib.hid hg; clear hw hg he))
                · go_wp2
                  go_meet
                  exact ⟨rfl, Y9.heap.size, TH, dH, rfl, Lib.hid ⟨HW.out.size, Ext.trans HW.out (Ext.new _ _), Blk.new Y9 [.int .i64 gr.place, .slice TH gr.vars.length dH, .string gr.status, .int .i64 gr.count, .int .i64 gr.over] 27, HGT.out.ext (Ext.new _ _)⟩⟩
                · go_wp2
                  go_meet
                  have hk := KZ9.out.put5 (.int .i64 gr.place) (.slice TH gr.vars.length dH) (.string gr.status) (.int .i64 gr.count) (.int .i64 gr.over)
                  have hgg := grown_put5 Y9 wx.heap.size (.int .i64 gr.place) (.slice TH gr.vars.length dH) (.string gr.status) (.int .i64 gr.count) (.int .i64 gr.over)
                  have hkp := (Keep.refl wx.heap.size Y9).row hgg (fun b e => .inr (Option.some.inj e).symm)
                  have hst : Strs (put5 Y9 wx.heap.size (.int .i64 gr.place) (.slice TH gr.vars.length dH) (.string gr.status) (.int .i64 gr.count) (.int .i64 gr.over)) TH gr.vars := by
                    rcases HV6.out with h | h
                    · rw [h]; exact Strs.nil _ _
                    · exact hkp.strs HGT.out (six_ne HGT.out h KZ9.out)
                  simp only [put5] at hk hst
                  exact ⟨rfl, wx.heap.size, TH, dH, rfl, Lib.hid ⟨Nat.le_refl _, ext_put HW.out, hk, hst⟩⟩
              case rest =>
              obtain ⟨rfl, H, TH, dH, rfl, hJ8⟩ := hcut
              have hHW := hJ8.out.1
              have kG := hJ9.out.2.2.1.ext hJ8.out.2.1
              have kH := hJ8.out.2.2.1
              have HSG := Lib.hid (hJ9.out.2.2.2.ext hJ8.out.2.1)
              have HSH := Lib.hid hJ8.out.2.2.2
              have HE9 := Lib.hid (Ext.trans HE8.out hJ8.out.2.1)
              have qe : (ge == ge) = true := beq_self_eq_true ge
              clear hJ9 hJ8 H20 SD
              have c0 := kG.c0
              have c1 := kG.c1
              have c2 := kG.c2
              have c3 := kG.c3
              have c4 := kG.c4
              have h0 := kH.c0
              have h1 := kH.c1
              have h2 := kH.c2
              have h3 := kH.c3
              have h4 := kH.c4
              go_wp2_with fail
              refine (sameRun17 gr.place gr.count gr.over TG gr.vars.length dG gr.status gr.vars gr.place gr.count gr.over TH gr.vars.length dH gr.status gr.vars _ HSG.out HSH.out rfl rfl (by have := HGB.out; omega) (by have := HGB.out; omega)).mono ?_
              rintro e w9 ⟨rfl, he⟩
              rw [sameRunS_same]
              replace kG := kG.ext he
              replace kH := kH.ext he
              have HSG9 := Lib.hid (HSG.out.ext he)
              have HSH9 := Lib.hid (HSH.out.ext he)
              have HE99 := Lib.hid (Ext.trans HE9.out he)
              clear he c0 c1 c2 c3 c4 h0 h1 h2 h3 h4 HSG HSH HE9
              by_cases hge : ge = 0
              · subst hge
                obtain ⟨hok, hth⟩ := giveS_there HV.out HG7.out.ok HG7.out.there HGS.out
                have h6 := hok.six
                have HOK9 := Lib.hid hok
                have HTH9 := Lib.hid hth
                rw [h6] at kG kH
                clear hok hth h6
                have kB := HG7.out.b.ext HE99.out
                have kY := HG7.out.y.ext HE99.out
                have x0 := kG.c0
                have x1 := kG.c1
                have x2 := kG.c2
                have x3 := kG.c3
                have x4 := kG.c4
                have z0 := kH.c0
                have z1 := kH.c1
                have z2 := kH.c2
                have z3 := kH.c3
                have z4 := kH.c4
                have b0 := kB.fz 0
                have b1 := kB.fz 1
                have b2 := kB.fz 2
                have b3 := kB.fz 3
                have b4 := kB.fz 4
                have y0 := kY.fz 0
                have y1 := kY.fz 1
                have y2 := kY.fz 2
                have y3 := kY.fz 3
                have y4 := kY.fz 4
                have cb0 := kB.c0
                have cb1 := kB.c1
                have cb2 := kB.c2
                have cb3 := kB.c3
                have cb4 := kB.c4
                have cy0 := kY.c0
                have cy1 := kY.c1
                have cy2 := kY.c2
                have cy3 := kY.c3
                have cy4 := kY.c4
                have hY7 : Y < W7.heap.size := HG7.out.y.lt
                have nGB : B ≠ G := by omega
                have nGY : Y ≠ G := by omega
                have nHB : B ≠ H := by omega
                have nHY : Y ≠ H := by omega
                go_upto_region 32 with (fail)
                go_region
                have hG9 := Gs.put (x' := dG) (y' := dH) HG7.out HE99.out nBY HOK9.out HTH9.out HSG9.out HSH9.out (Below.drew (Ext.refl _))
                simp only [put5] at hG9
                generalize World.drew _ = Wz at hG9 ⊢
                go_wp2
                go_roundw
                case rel => exact ⟨j + 1, gr, TG, TH, dG, dH, by omega, by go_num, Lib.hid hG9⟩
                case measure => simp [intOf]; omega
              · have hgeB := bq_no hge
                go_wp2_with fail
                go_roundw
                case rel => exact ⟨j + 1, q, TX, TZ, dx, dz, by omega, by go_num, Lib.hid (HG7.out.ext HE99.out)⟩
                case measure => simp [intOf]; omega
        · have HE := Lib.hid E0
          go_wp2_with fail
          refine (HF.out wv HE.out).mono ?_
          rintro e wz ⟨rfl, he⟩
          have HEZ := Lib.hid (Ext.trans HE.out he)
          clear he
          go_wp2
          go_ret
          exact ⟨rfl, HEZ.out⟩
    · rw [hv]
      have HE := Lib.hid E0
      go_wp2_with fail
      refine (HF.out w2 HE.out).mono ?_
      rintro e wz ⟨rfl, he⟩
      have HEZ := Lib.hid (Ext.trans HE.out he)
      clear he
      go_wp2
      go_ret
      exact ⟨rfl, HEZ.out⟩
  · rw [hs]
    have HE := Lib.hid E0
    go_wp2_with fail
    refine (HF.out w1 HE.out).mono ?_
    rintro e wz ⟨rfl, he⟩
    have HEZ := Lib.hid (Ext.trans HE.out he)
    clear he
    go_wp2
    go_ret
    exact ⟨rfl, HEZ.out⟩
end Go.Proofs.YtkdbajpdcadliaaGreatDoor.Pg
