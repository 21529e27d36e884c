/- Walks: the law ProgramRuns. -/
import Derived.Test.YtkdbajpdcadliaaGreatDoorYi
import Derived.Test.YtkdbajpdcadliaaGreatDoorXg
set_option linter.unusedVariables false
namespace Go.Proofs.YtkdbajpdcadliaaGreatDoor.Pg
open Go.RowKit
/-- What Begin gives. -/
def bgK (v : Bool) : Nat := if v then 6 else 0
def bgX (v : Bool) : List ByteArray := if v then six else []
def bgT (v : Bool) : ByteArray := if v then ⟨#[32, 32]⟩ else ⟨#[]⟩
def bgE (v : Bool) : Int := if v then 0 else 230
theorem bg_len : ∀ v, (bgX v).length = bgK v
  | true => rfl
  | false => rfl
theorem bgK_le : ∀ v, (bgK v : Int) ≤ 6
  | true => by decide
  | false => by decide
theorem begin22_all (nm : ByteArray) (A : Option Addr) (n c : Nat) (ss : List Step) (w : World) (hx : StepsAt w A ss) (hl : ss.length = n) (hb : BdS ss) (hnm : (nm.size : Int) ≤ 1000000) :
    Calls Tryz.prog 22 #[.agg #[.string nm, .slice A n c]] w fun e w' => ∃ T, e = .returned (.tuple #[runV 0 T (bgK (validS ⟨nm, ss⟩)) (bgK (validS ⟨nm, ss⟩)) (bgT (validS ⟨nm, ss⟩)) 0 0, .int .i64 (bgE (validS ⟨nm, ss⟩))]) ∧ Strs w' T (bgX (validS ⟨nm, ss⟩)) ∧ Ext w w' := by
  rcases Bool.eq_false_or_eq_true (validS ⟨nm, ss⟩) with hv | hv
  · rw [hv]
    refine (begin22 nm A n c ss w hx hl hb hnm hv).mono ?_
    rintro e w' ⟨T, h1, h2, h3⟩
    exact ⟨T, h1, h2.strs.1, h3⟩
  · rw [hv]
    refine (begin22_no nm A n c ss w hx hl hb hnm hv).mono ?_
    rintro e w' ⟨h1, h3⟩
    exact ⟨none, h1, Strs.nil _ _, h3⟩
theorem begin29_all (nm : ByteArray) (A : Option Addr) (n c : Nat) (ss : List Step) (w : World) (hx : StepsAt w A ss) (hl : ss.length = n) (hb : BdS ss) (hnm : (nm.size : Int) ≤ 1000000) :
    Calls Tryz.prog 29 #[.agg #[.string nm, .slice A n c]] w fun e w' => ∃ T, e = .returned (.tuple #[runV 0 T (bgK (validS ⟨nm, ss⟩)) (bgK (validS ⟨nm, ss⟩)) (bgT (validS ⟨nm, ss⟩)) 0 0, .int .i64 (bgE (validS ⟨nm, ss⟩))]) ∧ Strs w' T (bgX (validS ⟨nm, ss⟩)) ∧ Ext w w' := by
  rcases Bool.eq_false_or_eq_true (validS ⟨nm, ss⟩) with hv | hv
  · rw [hv]
    refine (begin29 nm A n c ss w hx hl hb hnm hv).mono ?_
    rintro e w' ⟨T, h1, h2, h3⟩
    exact ⟨T, h1, h2.strs.1, h3⟩
  · rw [hv]
    refine (begin29_no nm A n c ss w hx hl hb hnm hv).mono ?_
    rintro e w' ⟨h1, h3⟩
    exact ⟨none, h1, Strs.nil _ _, h3⟩
theorem sameRunS_self (p c o : Int) (st : ByteArray) (xs : List ByteArray) : sameRunS p c o st xs p c o st xs = true := by unfold sameRunS; simp

set_option maxRecDepth 100000 in
set_option maxHeartbeats 4000000 in
theorem law7 (nm : ByteArray) (A : Option Addr) (n c : Nat) (ss : List Step) (p1 c1 o1 : Int) (T1 : Option Addr) (n1 d1 : Nat) (st1 : ByteArray) (xs : List ByteArray) (p2 c2 o2 : Int) (T2 : Option Addr) (n2 d2 : Nat) (st2 : ByteArray) (ys : List ByteArray) (w : World) (hp : StepsAt w A ss) (hl : ss.length = n) (hb : BdLS ss) (hnm : (nm.size : Int) ≤ 9223372036854775807)
    (hx : Strs w T1 xs) (hxl : xs.length = n1) (hxb : BdL xs) (hy : Strs w T2 ys) (hyl : ys.length = n2) (hyb : BdL ys) (hg : Gl w) (hgw : GlB w.heap.size) :
    Calls Tryz.prog 7 #[.agg #[.string nm, .slice A n c], runV p1 T1 n1 d1 st1 c1 o1, runV p2 T2 n2 d2 st2 c2 o2] w fun e w' => e = .returned (.bool true) ∧ Ext w w' := by
  have HP := Lib.hid hp
  have HL := Lib.hid hl
  have HB := Lib.hid hb
  have HX := Lib.hid hx
  have HXL := Lib.hid hxl
  have HXB := Lib.hid hxb
  have HY := Lib.hid hy
  have HYL := Lib.hid hyl
  have HYB := Lib.hid hyb
  have HF := Lib.hid (fun w' (h : Ext w w') => first14 w' (hg.ext h) (hgw.ext h))
  have e0 := Ext.new w (.cells #[.string nm, .slice A n c] 24)
  have e1 := Ext.new (w.alloc (.cells #[.string nm, .slice A n c] 24)) (.cells #[.int .i64 p1, .slice T1 n1 d1, .string st1, .int .i64 c1, .int .i64 o1] 27)
  have e2 := Ext.new ((w.alloc (.cells #[.string nm, .slice A n c] 24)).alloc (.cells #[.int .i64 p1, .slice T1 n1 d1, .string st1, .int .i64 c1, .int .i64 o1] 27)) (.cells #[.int .i64 p2, .slice T2 n2 d2, .string st2, .int .i64 c2, .int .i64 o2] 27)
  have kP := ((Blk.new w [.string nm, .slice A n c] 24).ext e1).ext e2
  have kR := (Blk.new (w.alloc (.cells #[.string nm, .slice A n c] 24)) [.int .i64 p1, .slice T1 n1 d1, .string st1, .int .i64 c1, .int .i64 o1] 27).ext e2
  have kS := Blk.new ((w.alloc (.cells #[.string nm, .slice A n c] 24)).alloc (.cells #[.int .i64 p1, .slice T1 n1 d1, .string st1, .int .i64 c1, .int .i64 o1] 27)) [.int .i64 p2, .slice T2 n2 d2, .string st2, .int .i64 c2, .int .i64 o2] 27
  simp only [World.size_alloc] at kR kS
  have E0 := Ext.trans (Ext.trans e0 e1) e2
  obtain ⟨R, hR⟩ : ∃ R, w.heap.size = R := ⟨_, rfl⟩
  clear hp hl hb hx hxl hxb hy hyl hyb hg hgw e0 e1 e2
  unfold runV
  go_enter Tryz.func7, Tryz.ntmps7
  go_upto_region 1 with (fail)
  rw [hR] at kP kR kS
  try simp only [hR]
  generalize World.alloc _ _ = W0 at E0 kP kR kS
  have qP0 := kP.c0
  have qP1 := kP.c1
  have qR0 := kR.c0
  have qR1 := kR.c1
  have qR2 := kR.c2
  have qR3 := kR.c3
  have qR4 := kR.c4
  have qS0 := kS.c0
  have qS1 := kS.c1
  have qS2 := kS.c2
  have qS3 := kS.c3
  have qS4 := kS.c4
  have HE := Lib.hid E0
  clear E0
  go_wp2_with fail
  refine (small12 nm A n c ss W0 (HP.out.ext HE.out) HL.out HB.out hnm).mono ?_
  rintro e w1 ⟨rfl, he⟩
  clear qP0 qP1 qR0 qR1 qR2 qR3 qR4 qS0 qS1 qS2 qS3 qS4
  replace kP := kP.ext he
  replace kR := kR.ext he
  replace kS := kS.ext he
  have E0 := Ext.trans HE.out he
  clear he HE
  rcases Bool.eq_false_or_eq_true (smallS ⟨nm, ss⟩) with hs | hs
  · rw [hs]
    obtain ⟨hbs, hnm2⟩ := small_bd hs
    have HBS := Lib.hid hbs
    clear hs hbs
    have qP0 := kP.c0
    have qP1 := kP.c1
    have qR0 := kR.c0
    have qR1 := kR.c1
    have qR2 := kR.c2
    have qR3 := kR.c3
    have qR4 := kR.c4
    have qS0 := kS.c0
    have qS1 := kS.c1
    have qS2 := kS.c2
    have qS3 := kS.c3
    have qS4 := kS.c4
    have HE := Lib.hid E0
    clear E0
    go_wp2_with fail
    refine (smallRun13 p1 c1 o1 T1 n1 d1 xs st1 w1 (HX.out.ext HE.out) HXL.out HXB.out).mono ?_
    rintro e w2 ⟨rfl, he⟩
    clear qP0 qP1 qR0 qR1 qR2 qR3 qR4 qS0 qS1 qS2 qS3 qS4
    replace kP := kP.ext he
    replace kR := kR.ext he
    replace kS := kS.ext he
    have E0 := Ext.trans HE.out he
    clear he HE
    rcases Bool.eq_false_or_eq_true (smallRunS xs) with hs | hs
    · rw [hs]
      have HXD := Lib.hid (smallRun_bd hs)
      clear hs
      have qP0 := kP.c0
      have qP1 := kP.c1
      have qR0 := kR.c0
      have qR1 := kR.c1
      have qR2 := kR.c2
      have qR3 := kR.c3
      have qR4 := kR.c4
      have qS0 := kS.c0
      have qS1 := kS.c1
      have qS2 := kS.c2
      have qS3 := kS.c3
      have qS4 := kS.c4
      have HE := Lib.hid E0
      clear E0
      go_wp2_with fail
      refine (smallRun13 p2 c2 o2 T2 n2 d2 ys st2 w2 (HY.out.ext HE.out) HYL.out HYB.out).mono ?_
      rintro e w3 ⟨rfl, he⟩
      clear qP0 qP1 qR0 qR1 qR2 qR3 qR4 qS0 qS1 qS2 qS3 qS4
      replace kP := kP.ext he
      replace kR := kR.ext he
      replace kS := kS.ext he
      have E0 := Ext.trans HE.out he
      clear he HE
      rcases Bool.eq_false_or_eq_true (smallRunS ys) with hs | hs
      · rw [hs]
        have HYD := Lib.hid (smallRun_bd hs)
        clear hs
        obtain ⟨v, hv⟩ : ∃ v, validS ⟨nm, ss⟩ = v := ⟨_, rfl⟩
        have hK := bgK_le v
        have hK0 := bg_len v
        obtain ⟨kk, hkk⟩ : ∃ kk, bgK v = kk := ⟨_, rfl⟩
        obtain ⟨bt, hbt⟩ : ∃ bt, bgT v = bt := ⟨_, rfl⟩
        obtain ⟨be, hbe⟩ : ∃ be, bgE v = be := ⟨_, rfl⟩
        obtain ⟨bx, hbx⟩ : ∃ bx, bgX v = bx := ⟨_, rfl⟩
        have HB22 := Lib.hid (fun w' (h : Ext w w') => begin22_all nm A n c ss w' (HP.out.ext h) HL.out HBS.out (by omega))
        have HB29 := Lib.hid (fun w' (h : Ext w w') => begin29_all nm A n c ss w' (HP.out.ext h) HL.out HBS.out (by omega))
        have HI30 := Lib.hid (fun w' (h : Ext w w') => isRunOf30 nm A n c ss p1 c1 o1 T1 n1 d1 xs st1 w' (HP.out.ext h) HL.out HBS.out (by omega) (HX.out.ext h) HXL.out HXD.out)
        have HI31 := Lib.hid (fun w' (h : Ext w w') => isRunOf31 nm A n c ss p1 c1 o1 T1 n1 d1 xs st1 w' (HP.out.ext h) HL.out HBS.out (by omega) (HX.out.ext h) HXL.out HXD.out)
        rw [hv, hkk, hbt, hbe, hbx] at HB22 HB29
        rw [hkk] at hK hK0
        rw [hbx] at hK0
        rw [hv] at HI30 HI31
        obtain ⟨ib, hib⟩ : ∃ ib, (v && isRunS n p1 xs st1 c1 o1) = ib := ⟨_, rfl⟩
        obtain ⟨ie, hie⟩ : ∃ ie : Int, (if v = true then 0 else 230) = ie := ⟨_, rfl⟩
        rw [hib, hie] at HI30 HI31
        unfold runV at HB22 HB29 HI30 HI31
        have HK0 := Lib.hid hK0
        clear hK0 hv hkk hbt hbe hbx hib hie
        have qP0 := kP.c0
        have qP1 := kP.c1
        have qR0 := kR.c0
        have qR1 := kR.c1
        have qR2 := kR.c2
        have qR3 := kR.c3
        have qR4 := kR.c4
        have qS0 := kS.c0
        have qS1 := kS.c1
        have qS2 := kS.c2
        have qS3 := kS.c3
        have qS4 := kS.c4
        have HE := Lib.hid E0
        clear E0
        go_wp2_with fail
        refine (HB22.out w3 HE.out).mono ?_
        rintro e w4 ⟨TX, rfl, hsX, he⟩
        clear qP0 qP1 qR0 qR1 qR2 qR3 qR4 qS0 qS1 qS2 qS3 qS4
        replace kP := kP.ext he
        replace kR := kR.ext he
        replace kS := kS.ext he
        have E0 := Ext.trans HE.out he
        clear he HE
        go_upto_region 4 with (fail)
        have eN := Ext.new w4 (.cells #[.int .i64 0, .slice TX kk kk, .string bt, .int .i64 0, .int .i64 0] 27)
        have kX := Blk.new w4 [.int .i64 0, .slice TX kk kk, .string bt, .int .i64 0, .int .i64 0] 27
        obtain ⟨X, hX⟩ : ∃ b, w4.heap.size = b := ⟨_, rfl⟩
        rw [hX] at kX
        try simp only [hX]
        replace kP := kP.ext eN
        replace kR := kR.ext eN
        replace kS := kS.ext eN
        replace E0 := Ext.trans E0 eN
        replace hsX := hsX.ext eN
        generalize World.alloc _ _ = vX at kP kR kS kX E0 hsX
        clear eN hX
        have HSX := Lib.hid hsX
        clear hsX
        have qP0 := kP.c0
        have qP1 := kP.c1
        have qR0 := kR.c0
        have qR1 := kR.c1
        have qR2 := kR.c2
        have qR3 := kR.c3
        have qR4 := kR.c4
        have qS0 := kS.c0
        have qS1 := kS.c1
        have qS2 := kS.c2
        have qS3 := kS.c3
        have qS4 := kS.c4
        have qX0 := kX.c0
        have qX1 := kX.c1
        have qX2 := kX.c2
        have qX3 := kX.c3
        have qX4 := kX.c4
        have HE := Lib.hid E0
        clear E0
        go_wp2_with fail
        refine (HB29.out vX HE.out).mono ?_
        rintro e w6 ⟨TY, rfl, hsY, he⟩
        clear qP0 qP1 qR0 qR1 qR2 qR3 qR4 qS0 qS1 qS2 qS3 qS4 qX0 qX1 qX2 qX3 qX4
        replace kP := kP.ext he
        replace kR := kR.ext he
        replace kS := kS.ext he
        replace kX := kX.ext he
        have E0 := Ext.trans HE.out he
        have hsX := HSX.out.ext he
        clear he HE
        go_upto_region 5 with (fail)
        have eN := Ext.new w6 (.cells #[.int .i64 0, .slice TY kk kk, .string bt, .int .i64 0, .int .i64 0] 27)
        have kY := Blk.new w6 [.int .i64 0, .slice TY kk kk, .string bt, .int .i64 0, .int .i64 0] 27
        obtain ⟨Y, hY⟩ : ∃ b, w6.heap.size = b := ⟨_, rfl⟩
        rw [hY] at kY
        try simp only [hY]
        replace kP := kP.ext eN
        replace kR := kR.ext eN
        replace kS := kS.ext eN
        replace kX := kX.ext eN
        replace E0 := Ext.trans E0 eN
        replace hsY := hsY.ext eN
        replace hsX := hsX.ext eN
        generalize World.alloc _ _ = vY at kP kR kS kX kY E0 hsX hsY
        clear eN hY
        have HSX2 := Lib.hid hsX
        have HSY := Lib.hid hsY
        have HEV := Lib.hid E0
        clear hsX hsY
        have HBase := Lib.hid (Ext.refl vY)
        have qP0 := kP.c0
        have qP1 := kP.c1
        have qR0 := kR.c0
        have qR1 := kR.c1
        have qR2 := kR.c2
        have qR3 := kR.c3
        have qR4 := kR.c4
        have qS0 := kS.c0
        have qS1 := kS.c1
        have qS2 := kS.c2
        have qS3 := kS.c3
        have qS4 := kS.c4
        have qX0 := kX.c0
        have qX1 := kX.c1
        have qX2 := kX.c2
        have qX3 := kX.c3
        have qX4 := kX.c4
        have qY0 := kY.c0
        have qY1 := kY.c1
        have qY2 := kY.c2
        have qY3 := kY.c3
        have qY4 := kY.c4
        have HE := Lib.hid E0
        clear E0
        go_wp2_with fail
        refine (HI30.out vY HE.out).mono ?_
        rintro e u8 ⟨rfl, he⟩
        clear qP0 qP1 qR0 qR1 qR2 qR3 qR4 qS0 qS1 qS2 qS3 qS4 qX0 qX1 qX2 qX3 qX4 qY0 qY1 qY2 qY3 qY4
        replace kP := kP.ext he
        replace kR := kR.ext he
        replace kS := kS.ext he
        replace kX := kX.ext he
        replace kY := kY.ext he
        have E0 := Ext.trans HE.out he
        replace HBase := Lib.hid (Ext.trans HBase.out he)
        clear he HE
        have qP0 := kP.c0
        have qP1 := kP.c1
        have qR0 := kR.c0
        have qR1 := kR.c1
        have qR2 := kR.c2
        have qR3 := kR.c3
        have qR4 := kR.c4
        have qS0 := kS.c0
        have qS1 := kS.c1
        have qS2 := kS.c2
        have qS3 := kS.c3
        have qS4 := kS.c4
        have qX0 := kX.c0
        have qX1 := kX.c1
        have qX2 := kX.c2
        have qX3 := kX.c3
        have qX4 := kX.c4
        have qY0 := kY.c0
        have qY1 := kY.c1
        have qY2 := kY.c2
        have qY3 := kY.c3
        have qY4 := kY.c4
        have HE := Lib.hid E0
        clear E0
        go_wp2_with fail
        refine (HI31.out u8 HE.out).mono ?_
        rintro e u9 ⟨rfl, he⟩
        clear qP0 qP1 qR0 qR1 qR2 qR3 qR4 qS0 qS1 qS2 qS3 qS4 qX0 qX1 qX2 qX3 qX4 qY0 qY1 qY2 qY3 qY4
        replace kP := kP.ext he
        replace kR := kR.ext he
        replace kS := kS.ext he
        replace kX := kX.ext he
        replace kY := kY.ext he
        have E0 := Ext.trans HE.out he
        replace HBase := Lib.hid (Ext.trans HBase.out he)
        clear he HE
        obtain ⟨sb, hsb⟩ : ∃ sb, sameRunS p1 c1 o1 st1 xs p2 c2 o2 st2 ys = sb := ⟨_, rfl⟩
        have hn1 : (n1 : Int) ≤ 9223372036854775807 := by have h1 := HXB.out.len; have h2 := HXL.out; omega
        have hn2 : (n2 : Int) ≤ 9223372036854775807 := by have h1 := HYB.out.len; have h2 := HYL.out; omega
        have HA := Lib.hid (fun w' (h : Ext u9 w') => sameRun17 0 0 0 TX kk kk bt bx 0 0 0 TY kk kk bt bx w' (HSX2.out.ext (Ext.trans HBase.out h)) (HSY.out.ext (Ext.trans HBase.out h)) HK0.out HK0.out (by omega) (by omega))
        have HS32 := Lib.hid (fun w' (h : Ext u9 w') => sameRun32 p1 c1 o1 T1 n1 d1 st1 xs p2 c2 o2 T2 n2 d2 st2 ys w' (HX.out.ext (Ext.trans E0 h)) (HY.out.ext (Ext.trans E0 h)) HXL.out HYL.out hn1 hn2)
        have HS17 := Lib.hid (fun w' (h : Ext u9 w') => sameRun17 p1 c1 o1 T1 n1 d1 st1 xs p2 c2 o2 T2 n2 d2 st2 ys w' (HX.out.ext (Ext.trans E0 h)) (HY.out.ext (Ext.trans E0 h)) HXL.out HYL.out hn1 hn2)
        have HSS := Lib.hid (fun w' (h : Ext u9 w') => sameRun32 p1 c1 o1 T1 n1 d1 st1 xs p1 c1 o1 T1 n1 d1 st1 xs w' (HX.out.ext (Ext.trans E0 h)) (HX.out.ext (Ext.trans E0 h)) HXL.out HXL.out hn1 hn1)
        have HFF := Lib.hid (fun w' (h : Ext u9 w') => HF.out w' (Ext.trans E0 h))
        rw [hsb] at HS32 HS17
        rw [sameRunS_self] at HSS HA
        unfold runV at HS32 HS17 HSS HA
        have HE0 := Lib.hid E0
        have HKX := Lib.hid kX
        have HKY := Lib.hid kY
        have HKR := Lib.hid kR
        have HKS := Lib.hid kS
        clear hsb E0 kX kY kR kS kP
        have hBB : (ib == ib) = true := beq_self_eq_true ib
        have hSB : (sb == sb) = true := beq_self_eq_true sb
        have hBE : (be == be) = true := beq_self_eq_true be
        have hIE : (ie == ie) = true := beq_self_eq_true ie
        go_upto_region 7 with (fail)
        go_region_held3 (fun w' => w'.cell? ⟨X, 0, none⟩ = some (.int .i64 0) ∧ w'.cell? ⟨X, 1, none⟩ = some (.slice TX kk kk) ∧ w'.cell? ⟨X, 2, none⟩ = some (.string bt) ∧ w'.cell? ⟨X, 3, none⟩ = some (.int .i64 0) ∧ w'.cell? ⟨X, 4, none⟩ = some (.int .i64 0) ∧ w'.cell? ⟨Y, 0, none⟩ = some (.int .i64 0) ∧ w'.cell? ⟨Y, 1, none⟩ = some (.slice TY kk kk) ∧ w'.cell? ⟨Y, 2, none⟩ = some (.string bt) ∧ w'.cell? ⟨Y, 3, none⟩ = some (.int .i64 0) ∧ w'.cell? ⟨Y, 4, none⟩ = some (.int .i64 0) ∧ w'.cell? ⟨(R + 1), 0, none⟩ = some (.int .i64 p1) ∧ w'.cell? ⟨(R + 1), 1, none⟩ = some (.slice T1 n1 d1) ∧ w'.cell? ⟨(R + 1), 2, none⟩ = some (.string st1) ∧ w'.cell? ⟨(R + 1), 3, none⟩ = some (.int .i64 c1) ∧ w'.cell? ⟨(R + 1), 4, none⟩ = some (.int .i64 o1) ∧ w'.cell? ⟨(R + 1 + 1), 0, none⟩ = some (.int .i64 p2) ∧ w'.cell? ⟨(R + 1 + 1), 1, none⟩ = some (.slice T2 n2 d2) ∧ w'.cell? ⟨(R + 1 + 1), 2, none⟩ = some (.string st2) ∧ w'.cell? ⟨(R + 1 + 1), 3, none⟩ = some (.int .i64 c2) ∧ w'.cell? ⟨(R + 1 + 1), 4, none⟩ = some (.int .i64 o2)) (first | exact ⟨(HKX.out.ext HW.out).c0, (HKX.out.ext HW.out).c1, (HKX.out.ext HW.out).c2, (HKX.out.ext HW.out).c3, (HKX.out.ext HW.out).c4, (HKY.out.ext HW.out).c0, (HKY.out.ext HW.out).c1, (HKY.out.ext HW.out).c2, (HKY.out.ext HW.out).c3, (HKY.out.ext HW.out).c4, (HKR.out.ext HW.out).c0, (HKR.out.ext HW.out).c1, (HKR.out.ext HW.out).c2, (HKR.out.ext HW.out).c3, (HKR.out.ext HW.out).c4, (HKS.out.ext HW.out).c0, (HKS.out.ext HW.out).c1, (HKS.out.ext HW.out).c2, (HKS.out.ext HW.out).c3, (HKS.out.ext HW.out).c4⟩ | exact ⟨(HKX.out.ext (Below.drew (Ext.refl _))).c0, (HKX.out.ext (Below.drew (Ext.refl _))).c1, (HKX.out.ext (Below.drew (Ext.refl _))).c2, (HKX.out.ext (Below.drew (Ext.refl _))).c3, (HKX.out.ext (Below.drew (Ext.refl _))).c4, (HKY.out.ext (Below.drew (Ext.refl _))).c0, (HKY.out.ext (Below.drew (Ext.refl _))).c1, (HKY.out.ext (Below.drew (Ext.refl _))).c2, (HKY.out.ext (Below.drew (Ext.refl _))).c3, (HKY.out.ext (Below.drew (Ext.refl _))).c4, (HKR.out.ext (Below.drew (Ext.refl _))).c0, (HKR.out.ext (Below.drew (Ext.refl _))).c1, (HKR.out.ext (Below.drew (Ext.refl _))).c2, (HKR.out.ext (Below.drew (Ext.refl _))).c3, (HKR.out.ext (Below.drew (Ext.refl _))).c4, (HKS.out.ext (Below.drew (Ext.refl _))).c0, (HKS.out.ext (Below.drew (Ext.refl _))).c1, (HKS.out.ext (Below.drew (Ext.refl _))).c2, (HKS.out.ext (Below.drew (Ext.refl _))).c3, (HKS.out.ext (Below.drew (Ext.refl _))).c4⟩ | go_keep) (first | (go_at_call 17; refine (HA.out _ (by first | exact HW.out | exact Below.drew (Ext.refl _))).mono ?_; rintro e Y ⟨rfl, he⟩; have HW := Lib.hid (Ext.trans (show Ext u9 _ from (by first | exact HW.out | exact Below.drew (Ext.refl _))) he); clear he HA) | (go_at_call 17; refine (HS17.out _ (by first | exact HW.out | exact Below.drew (Ext.refl _))).mono ?_; rintro e Y ⟨rfl, he⟩; have HW := Lib.hid (Ext.trans (show Ext u9 _ from (by first | exact HW.out | exact Below.drew (Ext.refl _))) he); clear he HS17) | (go_at_call 32; refine (HS32.out _ (by first | exact HW.out | exact Below.drew (Ext.refl _))).mono ?_; rintro e Y ⟨rfl, he⟩; have HW := Lib.hid (Ext.trans (show Ext u9 _ from (by first | exact HW.out | exact Below.drew (Ext.refl _))) he); clear he HS32) | (go_at_call 32; refine (HSS.out _ (by first | exact HW.out | exact Below.drew (Ext.refl _))).mono ?_; rintro e Y ⟨rfl, he⟩; have HW := Lib.hid (Ext.trans (show Ext u9 _ from (by first | exact HW.out | exact Below.drew (Ext.refl _))) he); clear he HSS) | (go_at_call 14; refine (HFF.out _ (by first | exact HW.out | exact Below.drew (Ext.refl _))).mono ?_; rintro e Y ⟨rfl, he⟩; have HW := Lib.hid (Ext.trans (show Ext u9 _ from (by first | exact HW.out | exact Below.drew (Ext.refl _))) he); clear he HFF))
        have HEZ := Lib.hid (Ext.trans HE0.out HW.out)
        go_wp2
        go_ret
        exact ⟨rfl, HEZ.out⟩
      · rw [hs]
        have HE := Lib.hid E0
        go_wp2_with fail
        refine (HF.out w3 HE.out).mono ?_
        rintro e wz ⟨rfl, he⟩
        have HEZ := Lib.hid (Ext.trans HE.out he)
        clear he
        go_wp2
        go_ret
        exact ⟨rfl, HEZ.out⟩
    · rw [hs]
      have HE := Lib.hid E0
      go_wp2_with fail
      refine (HF.out w2 HE.out).mono ?_
      rintro e wz ⟨rfl, he⟩
      have HEZ := Lib.hid (Ext.trans HE.out he)
      clear he
      go_wp2
      go_ret
      exact ⟨rfl, HEZ.out⟩
  · rw [hs]
    have HE := Lib.hid E0
    go_wp2_with fail
    refine (HF.out w1 HE.out).mono ?_
    rintro e wz ⟨rfl, he⟩
    have HEZ := Lib.hid (Ext.trans HE.out he)
    clear he
    go_wp2
    go_ret
    exact ⟨rfl, HEZ.out⟩
end Go.Proofs.YtkdbajpdcadliaaGreatDoor.Pg
