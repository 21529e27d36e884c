/- Walks: the law ProgramOver. -/
import Derived.Test.YtkdbajpdcadliaaGreatDoorYi
import Derived.Test.YtkdbajpdcadliaaGreatDoorYhA
import Derived.Test.YtkdbajpdcadliaaGreatDoorXb
set_option linter.unusedVariables false
namespace Go.Proofs.YtkdbajpdcadliaaGreatDoor.Pg
open Go.RowKit


/-- Give with two spaces, where all is well. -/
theorem give_blank (nm : ByteArray) (A : Option Addr) (n c : Nat) (ss : List Step) (r : RunS) (T : Option Addr) (k d : Nat) (txt : ByteArray) (w : World) (hp : StepsAt w A ss) (hpl : ss.length = n) (hpb : BdS ss) (hnm : (nm.size : Int) ≤ 1000000) (hx : Strs w T r.vars) (hl : r.vars.length = k) (hb : Bd r.vars) (hs2 : (txt.size : Int) ≤ 1000000000)
    (hask : askedR ⟨nm, ss⟩ r = 0) (hbad : giveBad ⟨nm, ss⟩ r blankS txt = false) :
    Calls Tryz.prog 19 #[.agg #[.string nm, .slice A n c], runV r.place T k d r.status r.count r.over, .string ⟨#[32, 32]⟩, .string txt] w fun e w' => ∃ T' k' d', e = .returned (.tuple #[runV (giveS ⟨nm, ss⟩ r blankS txt).1.place T' k' d' (giveS ⟨nm, ss⟩ r blankS txt).1.status (giveS ⟨nm, ss⟩ r blankS txt).1.count (giveS ⟨nm, ss⟩ r blankS txt).1.over, .int .i64 (giveS ⟨nm, ss⟩ r blankS txt).2]) ∧
      Strs w' T' (giveS ⟨nm, ss⟩ r blankS txt).1.vars ∧ (giveS ⟨nm, ss⟩ r blankS txt).1.vars.length = k' ∧ Ext w w' := by
  obtain ⟨place, xs, st, count, over⟩ := r
  have hs1 : ((blankS : ByteArray).size : Int) ≤ 1000000000 := by decide
  by_cases h1 : (stepAt ⟨nm, ss⟩ place).op = 1
  · exact give19_rd0 nm A n c ss place count over T k d xs st blankS txt w hp hpl hpb hnm hx hl hb hs1 hs2 hask hbad h1 rfl
  by_cases h2 : (stepAt ⟨nm, ss⟩ place).op = 2
  · exact give19_cl0 nm A n c ss place count over T k d xs st blankS txt w hp hpl hpb hnm hx hl hb hs1 hs2 hask hbad h2 rfl
  by_cases h12 : (stepAt ⟨nm, ss⟩ place).op = 12
  · exact give19_fl0 nm A n c ss place count over T k d xs st blankS txt w hp hpl hpb hnm hx hl hb hs1 hs2 hask hbad h12 rfl
  by_cases h13 : (stepAt ⟨nm, ss⟩ place).op = 13
  · exact give19_en0 nm A n c ss place count over T k d xs st blankS txt w hp hpl hpb hnm hx hl hb hs1 hs2 hask hbad h13 rfl
  exact give19_ot0 nm A n c ss place count over T k d xs st blankS txt w hp hpl hpb hnm hx hl hb hs1 hs2 hask hbad ⟨h1, h2, h12, h13⟩ rfl
theorem bd_of_run {n : Nat} {r : RunS} (h : RunOk n r) : Bd r.vars := ⟨by have := h.six; omega, fun x hx => by have := h.each x hx; omega⟩
theorem give_notbad {p : Prog} {r : RunS} {txt : ByteArray} (ht : (txt.size : Int) ≤ 100) (ho : overN p.steps.length r = 0) (ha : aloneS (stepAt p r.place) r = none) : giveBad p r blankS txt = false := by
  unfold giveBad
  have := alone_none ha
  rw [decide_eq_false (show ¬ ((blankS : ByteArray).size : Int) ≠ 2 by decide), decide_eq_false (show ¬ (100 : Int) < txt.size by omega), decide_eq_false (show ¬ overN p.steps.length r ≠ 0 by simp [ho]), decide_eq_false this]
  rfl

/-- Between two rounds of the law. -/
structure Ov (P : Prog) (b : Nat) (w0 wr : World) (j : Nat) (r : RunS) (T : Option Addr) (d : Nat) : Prop where
  blk : Blk wr b 27 [.int .i64 r.place, .slice T 6 d, .string r.status, .int .i64 r.count, .int .i64 r.over]
  vars : Strs wr T r.vars
  ok : RunOk P.steps.length r
  up : (j : Int) ≤ r.count
  keep : Keep b w0 wr

set_option maxRecDepth 100000 in
set_option maxHeartbeats 4000000 in
theorem law4 (nm : ByteArray) (A : Option Addr) (n c : Nat) (ss : List Step) (txt : ByteArray) (w : World) (hp : StepsAt w A ss) (hl : ss.length = n) (hb : BdLS ss) (hnm : (nm.size : Int) ≤ 9223372036854775807) (ht : (txt.size : Int) ≤ 9223372036854775807) (hg : Gl w) (hgw : GlB w.heap.size) :
    Calls Tryz.prog 4 #[.agg #[.string nm, .slice A n c], .string txt] w fun e w' => e = .returned (.bool true) ∧ Ext w w' := by
  have HP := Lib.hid hp
  have HL := Lib.hid hl
  have HB := Lib.hid hb
  have HF := Lib.hid (fun w' (h : Ext w w') => first14 w' (hg.ext h) (hgw.ext h))
  have HG := Lib.hid hg
  have HGW := Lib.hid hgw
  have E0 := Ext.new w (.cells #[.string nm, .slice A n c] 24)
  have kP := Blk.new w [.string nm, .slice A n c] 24
  obtain ⟨R, hR⟩ : ∃ R, w.heap.size = R := ⟨_, rfl⟩
  clear hp hl hb hg hgw
  go_enter Tryz.func4, Tryz.ntmps4
  go_upto_region 1 with (fail)
  rw [hR] at kP
  try simp only [hR]
  generalize World.alloc _ _ = W0 at E0 kP
  have p0 := kP.c0
  have p1 := kP.c1
  go_wp2_with fail
  refine (small12 nm A n c ss W0 (HP.out.ext E0) HL.out HB.out hnm).mono ?_
  rintro e w1 ⟨rfl, he⟩
  clear p0 p1
  replace kP := kP.ext he
  replace E0 := Ext.trans E0 he
  clear he
  have p0 := kP.c0
  have p1 := kP.c1
  rcases Bool.eq_false_or_eq_true (smallS ⟨nm, ss⟩) with hs | hs
  · rw [hs]
    obtain ⟨hbs, hnm2⟩ := small_bd hs
    have HBS := Lib.hid hbs
    have HS := Lib.hid hs
    clear hs hbs
    by_cases h100 : (100 : Int) < (txt.size : Int)
    · have HE := Lib.hid E0
      go_wp2_with fail
      refine (HF.out w1 HE.out).mono ?_
      rintro e w2 ⟨rfl, he⟩
      have HE2 := Lib.hid (Ext.trans HE.out he)
      clear he
      go_wp2
      go_ret
      exact ⟨rfl, HE2.out⟩
    · have HE := Lib.hid E0
      go_wp2_with fail
      refine (valid21 nm A n c ss w1 (HP.out.ext HE.out) HL.out HBS.out (by omega)).mono ?_
      rintro e w2 ⟨rfl, he⟩
      clear p0 p1
      have kP2 := kP.ext he
      have HE2 := Lib.hid (Ext.trans HE.out he)
      have p0 := kP2.c0
      have p1 := kP2.c1
      clear he kP E0 HE
      rcases Bool.eq_false_or_eq_true (validS ⟨nm, ss⟩) with hv | hv
      · rw [hv]
        have HV := Lib.hid hv
        clear hv
        go_wp2_with fail
        refine (begin22 nm A n c ss w2 (HP.out.ext HE2.out) HL.out HBS.out (by omega) HV.out).mono ?_
        rintro e w3 ⟨T0, rfl, ho, he⟩
        unfold runV
        go_upto_region 4 with (fail)
        have kB := Blk.new w3 [.int .i64 0, .slice T0 6 6, .string ⟨#[32, 32]⟩, .int .i64 0, .int .i64 0] 27
        have eN := Ext.new w3 (.cells #[.int .i64 0, .slice T0 6 6, .string ⟨#[32, 32]⟩, .int .i64 0, .int .i64 0] 27)
        obtain ⟨b, hb⟩ : ∃ b, w3.heap.size = b := ⟨_, rfl⟩
        rw [hb] at kB
        try simp only [hb]
        have kP3 := (kP2.ext he).ext eN
        have hRb : R < b := by have := (kP2.ext he).lt; omega
        have hx := (ho.strs.1).ext eN
        have E3 := Ext.trans (Ext.trans HE2.out he) eN
        generalize World.alloc _ _ = wc at kB eN kP3 hx E3
        clear p0 p1 kP2 ho he eN
        have hOV := Lib.hid (show Ov ⟨nm, ss⟩ b wc wc 0 r00 T0 6 from ⟨kB, hx, by
          have hk := validOk HV.out
          exact runOk_iff.1 (by
            have h1 := hk.pos
            unfold isRunS r00 six0
            have e1 : decide ((0 : Int) ≤ ((⟨nm, ss⟩ : Prog).steps.length : Int)) = true := decide_eq_true (by omega)
            simp only [e1]
            decide), by decide, Keep.refl _ _⟩)
        have KP := Lib.hid kP3
        have HE3 := Lib.hid E3
        clear kB hx kP3 E3
        go_wp2_with fail
        go_loopw [7] (fun i wr => ∃ (j : Nat) (r : RunS) (T : Option Addr) (d : Nat), i = .int .i64 j ∧ Hid (Ov ⟨nm, ss⟩ b wc wr j r T d)) (fun i _ => (201 - intOf i).toNat)
        case atStart => exact ⟨0, r00, T0, 6, rfl, hOV⟩
        case round =>
          clear hOV
          obtain ⟨j, r, T, d, rfl, hI⟩ := hrel
          have hok := hI.out.ok
          have hj : (j : Int) ≤ 200 := by have := hI.out.up; have := hok.c1; omega
          have kPr := (hI.out.keep.block R KP.out.lt (by omega)).trans KP.out
          replace kPr : Blk wr R 24 [.string nm, .slice A n c] := kPr
          have E4 := hI.out.keep.below HE3.out (by omega)
          have kBr := hI.out.blk
          have p0 := kPr.c0
          have p1 := kPr.c1
          have b0 := kBr.c0
          have b1 := kBr.c1
          have b2 := kBr.c2
          have b3 := kBr.c3
          have b4 := kBr.c4
          obtain ⟨q, hq⟩ : ∃ q, (wantS ⟨nm, ss⟩ r).1 = q := ⟨_, rfl⟩
          obtain ⟨wt, hwt⟩ : ∃ wt, (wantS ⟨nm, ss⟩ r).2 = wt := ⟨_, rfl⟩
          have hwr : wantR ⟨nm, ss⟩ r = (q, wt, 0) := by
            unfold wantR
            rw [if_pos (asked_zero HV.out hok), hq, hwt]
          have hwo := wantS_ok HV.out hok
          rw [hq, hwt] at hwo
          have hW := want15 nm A n c ss r.place r.count r.over T 6 d r.vars r.status wr (HP.out.ext E4) HL.out HBS.out (by omega) hI.out.vars hok.six (bd_of_run hok) (HG.out.ext E4) (HGW.out.ext E4)
          rw [show wantR ⟨nm, ss⟩ ⟨r.place, r.vars, r.status, r.count, r.over⟩ = (q, wt, 0) from hwr] at hW
          unfold runV at hW
          have HW := Lib.hid hW
          have HWO := Lib.hid hwo
          have HI := Lib.hid hI.out
          have HE4 := Lib.hid E4
          have HJ := Lib.hid hj
          clear hW hwo hq hwt hwr hok hI E4
          go_wp2_with fail
          refine HW.out.mono ?_
          rintro e w5 ⟨T', k', d', Tw, nw, cw, rfl, hx', hk', hw', hnw, he⟩
          clear HW
          obtain rfl : 6 = k' := by rw [← hk']; exact HWO.out.run.six.symm
          have kB5 := kBr.ext he
          have kP5 := kPr.ext he
          have E5 := Ext.trans HE4.out he
          clear p0 p1 b0 b1 b2 b3 b4
          go_upto_region 10 with (fail)
          have eX := Ext.new w5 (.cells #[.int .i64 q.place, .slice T' 6 d', .string q.status, .int .i64 q.count, .int .i64 q.over] 27)
          have eY := Ext.new (w5.alloc (.cells #[.int .i64 q.place, .slice T' 6 d', .string q.status, .int .i64 q.count, .int .i64 q.over] 27)) (.cells #[.int .i64 wt.op, .int .i64 wt.a, .int .i64 wt.b, .slice Tw nw cw] 34)
          have kX := (Blk.new w5 [.int .i64 q.place, .slice T' 6 d', .string q.status, .int .i64 q.count, .int .i64 q.over] 27).ext eY
          have kY := Blk.new (w5.alloc (.cells #[.int .i64 q.place, .slice T' 6 d', .string q.status, .int .i64 q.count, .int .i64 q.over] 27)) [.int .i64 wt.op, .int .i64 wt.a, .int .i64 wt.b, .slice Tw nw cw] 34
          simp only [World.size_alloc] at kY
          obtain ⟨X, hX⟩ : ∃ X, w5.heap.size = X := ⟨_, rfl⟩
          have hbX : b < X := by have := kB5.lt; omega
          rw [hX] at kX kY
          try simp only [hX]
          have kB6 := (kB5.ext eX).ext eY
          have kP6 := (kP5.ext eX).ext eY
          have hx6 := (hx'.ext eX).ext eY
          have E6 := Ext.trans (Ext.trans E5 eX) eY
          have hkeep := ((HI.out.keep.ext he).ext eX).ext eY
          generalize World.alloc _ _ = W6 at kX kY kB6 kP6 hx6 E6 hkeep eY
          clear eX eY kB5 kP5 hx' hw' E5 he
          have n1 : ¬ q.count < r.count := by have := HWO.out.up; omega
          have n2 : ¬ (200 : Int) < q.count := by have := HWO.out.run.c1; omega
          have n3 : 0 ≤ q.count := HWO.out.run.c0
          have HE6 := Lib.hid E6
          have HX6 := Lib.hid hx6
          have HKEEP := Lib.hid hkeep
          clear E6 hx6 hkeep
          by_cases hov : q.over = 0
          · obtain ⟨ho, ha, -⟩ := HWO.out.goes hov
            have hgo := give_ok HV.out HWO.out.run (st := blankS) (text := txt) (by decide) (by omega) ho ha
            obtain ⟨q2, hq2⟩ : ∃ q2, (giveS ⟨nm, ss⟩ q blankS txt).1 = q2 := ⟨_, rfl⟩
            have hG := give_blank nm A n c ss q T' 6 d' txt W6 (HP.out.ext HE6.out) HL.out HBS.out (by omega) HX6.out HWO.out.run.six (bd_of_run HWO.out.run) (by omega) (asked_zero HV.out HWO.out.run) (give_notbad (by omega) ho ha)
            rw [hgo.1, hq2] at hG
            rw [hq2] at hgo
            unfold runV at hG
            rw [hov] at hG kX
            have hcnt := hgo.2.1
            have hok2 := hgo.2.2
            have HG2 := Lib.hid hG
            have HCNT := Lib.hid hcnt
            have HOK2 := Lib.hid hok2
            have x0 := kX.c0
            have x1 := kX.c1
            have x2 := kX.c2
            have x3 := kX.c3
            have x4 := kX.c4
            have b3 := kB6.c3
            have p0 := kP6.c0
            have p1 := kP6.c1
            clear hgo hG hcnt hok2 hq2 ho ha hov
            go_wp2_with fail
            refine HG2.out.mono ?_
            rintro e w7 ⟨T2, k2, d2, rfl, hx7, hk7, he7⟩
            obtain rfl : 6 = k2 := by rw [← hk7]; exact HOK2.out.six.symm
            clear x0 x1 x2 x3 x4 b3 p0 p1
            have kB7 := kB6.ext he7
            have kX7 := kX.ext he7
            have b0 := kB7.c0
            have b1 := kB7.c1
            have b2 := kB7.c2
            have b3 := kB7.c3
            have b4 := kB7.c4
            have bz0 := kB7.fz 0
            have bz1 := kB7.fz 1
            have bz2 := kB7.fz 2
            have bz3 := kB7.fz 3
            have bz4 := kB7.fz 4
            go_upto_region 15 with (fail)
            clear b0 b1 b2 b3 b4 bz0 bz1 bz2 bz3 bz4
            have hg5 := grown_put5 w7 b (.int .i64 q2.place) (.slice T2 6 d2) (.string q2.status) (.int .i64 q2.count) (.int .i64 q2.over)
            have kB8 := kB7.put5 (.int .i64 q2.place) (.slice T2 6 d2) (.string q2.status) (.int .i64 q2.count) (.int .i64 q2.over)
            have kX8 := kX7.kept hg5 (show X ≠ b by omega)
            have hx8 := hx7.kept hg5 (six_ne hx7 HOK2.out.six kB7)
            have hk8 := (HKEEP.out.ext he7).row hg5 (fun b' e => .inr (Option.some.inj e).symm)
            simp only [put5] at kB8 kX8 hx8 hk8
            generalize World.setCell _ _ _ = W8 at kB8 kX8 hx8 hk8
            have HOV := Lib.hid (show Ov ⟨nm, ss⟩ b wc W8 (j + 1) q2 T2 d2 from ⟨kB8, hx8, HOK2.out, by have := HCNT.out; have := HI.out.up; have := HWO.out.up; omega, hk8⟩)
            have b3 := kB8.c3
            rw [HCNT.out] at b3
            have x3 := kX8.c3
            clear hx8 hk8 kB8 kX8 kB7 kX7 hg5 hx7
            go_wp2_with fail
            go_roundw
            case rel => exact ⟨j + 1, q2, T2, d2, by go_num, HOV⟩
            case measure => simp [intOf]; have := HJ.out; omega
          · obtain rfl : wt = zeroWant := HWO.out.done hov
            obtain rfl : 0 = nw := hnw
            have hovB := bq_no hov
            have x3 := kX.c3
            have x4 := kX.c4
            have b3 := kB6.c3
            have y0 : W6.cell? ⟨X + 1, 0, none⟩ = some (.int .i64 0) := kY.c0
            have y3 := kY.c3
            go_wp2_with fail
            refine (HF.out W6 HE6.out).mono ?_
            rintro e w7 ⟨rfl, he7⟩
            have HE7 := Lib.hid (Ext.trans HE6.out he7)
            clear he7
            go_wp2
            go_ret
            exact ⟨rfl, HE7.out⟩
      · rw [hv]
        go_wp2_with fail
        refine (HF.out w2 HE2.out).mono ?_
        rintro e w3 ⟨rfl, he⟩
        have HE3 := Lib.hid (Ext.trans HE2.out he)
        clear he
        go_wp2
        go_ret
        exact ⟨rfl, HE3.out⟩
  · rw [hs]
    have HE := Lib.hid E0
    go_wp2_with fail
    refine (HF.out w1 HE.out).mono ?_
    rintro e w2 ⟨rfl, he⟩
    have HE2 := Lib.hid (Ext.trans HE.out he)
    clear he
    go_wp2
    go_ret
    exact ⟨rfl, HE2.out⟩
end Go.Proofs.YtkdbajpdcadliaaGreatDoor.Pg
