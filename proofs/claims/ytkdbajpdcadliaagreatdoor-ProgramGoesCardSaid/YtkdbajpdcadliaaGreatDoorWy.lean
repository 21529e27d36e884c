/- Walks: asked and IsRun of both sides. -/
import Derived.Test.YtkdbajpdcadliaaGreatDoorWx
set_option linter.unusedVariables false
namespace Go.Proofs.YtkdbajpdcadliaaGreatDoor.Pg
open Go.RowKit

/-- What is asked of a program and a run. -/
def askedS (p : Prog) (place : Int) (xs : List ByteArray) (st : ByteArray) (count over : Int) : Int :=
  if validS p = false then 230 else if isRunS p.steps.length place xs st count over = false then 231 else 0

set_option maxRecDepth 100000 in
set_option maxHeartbeats 2000000 in
theorem asked45 (nm : ByteArray) (A : Option Addr) (n c : Nat) (ss : List Step) (place count over : Int) (T : Option Addr) (k d : Nat) (xs : List ByteArray) (st : ByteArray) (w : World) (hp : StepsAt w A ss) (hpl : ss.length = n) (hpb : BdS ss) (hnm : (nm.size : Int) ≤ 1000000) (hx : Strs w T xs) (hl : xs.length = k) (hb : Bd xs) :
    Calls Tryz.prog 45 #[.agg #[.string nm, .slice A n c], runV place T k d st count over] w fun e w' => e = .returned (.int .i64 (askedS ⟨nm, ss⟩ place xs st count over)) ∧ Ext w w' := by
  have HP := Lib.hid hp
  have HPL := Lib.hid hpl
  have HX := Lib.hid hx
  have HL := Lib.hid hl
  have HB := Lib.hid hb
  have EA := Ext.al (Ext.new w (.cells #[.string nm, .slice A n c] 24)) (.cells #[.int .i64 place, .slice T k d, .string st, .int .i64 count, .int .i64 over] 27)
  unfold runV
  cases hv : validS ⟨nm, ss⟩ with
  | false =>
    have HV := Lib.hid hv
    have e1 : askedS ⟨nm, ss⟩ place xs st count over = 230 := by unfold askedS; rw [if_pos hv]
    rw [e1]
    clear e1 hv
    go_enter Tryz.func45, Tryz.ntmps45
    go_wp2_with fail
    refine (valid35 nm A n c ss _ (HP.out.ext EA) HPL.out hpb (by omega)).mono ?_
    rintro e w1 ⟨rfl, he⟩
    rw [HV.out]
    have kP := ((Blk.new w [.string nm, .slice A n c] 24).ext (Ext.new _ (.cells #[.int .i64 place, .slice T k d, .string st, .int .i64 count, .int .i64 over] 27))).ext he
    have kR := Blk.new (w.alloc (.cells #[.string nm, .slice A n c] 24)) [.int .i64 place, .slice T k d, .string st, .int .i64 count, .int .i64 over] 27
    rw [show (w.alloc (.cells #[.string nm, .slice A n c] 24)).heap.size = w.heap.size + 1 by simp] at kR
    replace kR := kR.ext he
    have HE := Lib.hid (Ext.trans EA he)
    clear he EA hp hpl hpb hx hl hb
    have p0 := kP.c0
    have p1 := kP.c1
    have r0 := kR.c0
    have r1 := kR.c1
    have r2 := kR.c2
    have r3 := kR.c3
    have r4 := kR.c4
    clear kP kR
    go_wp2
    go_ret
    exact ⟨rfl, HE.out⟩
  | true =>
    have HV := Lib.hid hv
    cases hr : isRunS n place xs st count over with
    | false =>
      have HR := Lib.hid hr
      have e1 : askedS ⟨nm, ss⟩ place xs st count over = 231 := by
        have h2 : isRunS ((⟨nm, ss⟩ : Prog).steps.length : Nat) place xs st count over = false := by rw [show (⟨nm, ss⟩ : Prog).steps.length = n from hpl]; exact hr
        unfold askedS; rw [if_neg (by rw [hv]; decide), if_pos h2]
      rw [e1]
      clear e1 hv hr
      go_enter Tryz.func45, Tryz.ntmps45
      go_wp2_with fail
      refine (valid35 nm A n c ss _ (HP.out.ext EA) HPL.out hpb (by omega)).mono ?_
      rintro e w1 ⟨rfl, he⟩
      rw [HV.out]
      have kP := ((Blk.new w [.string nm, .slice A n c] 24).ext (Ext.new _ (.cells #[.int .i64 place, .slice T k d, .string st, .int .i64 count, .int .i64 over] 27))).ext he
      have kR := Blk.new (w.alloc (.cells #[.string nm, .slice A n c] 24)) [.int .i64 place, .slice T k d, .string st, .int .i64 count, .int .i64 over] 27
      rw [show (w.alloc (.cells #[.string nm, .slice A n c] 24)).heap.size = w.heap.size + 1 by simp] at kR
      replace kR := kR.ext he
      have HE := Lib.hid (Ext.trans EA he)
      clear he EA hp hpl hpb hx hl hb
      have p0 := kP.c0
      have p1 := kP.c1
      have r0 := kR.c0
      have r1 := kR.c1
      have r2 := kR.c2
      have r3 := kR.c3
      have r4 := kR.c4
      clear kP kR
      go_wp2_with fail
      refine (isRun66 nm A n c place count over T k d xs st w1 (HX.out.ext HE.out) HL.out HB.out).mono ?_
      rintro e w2 ⟨rfl, he2⟩
      rw [HR.out]
      have HE2 := Lib.hid (Ext.trans HE.out he2)
      clear he2
      go_wp2
      go_ret
      exact ⟨rfl, HE2.out⟩
    | true =>
      have HR := Lib.hid hr
      have e1 : askedS ⟨nm, ss⟩ place xs st count over = 0 := by
        have h2 : isRunS ((⟨nm, ss⟩ : Prog).steps.length : Nat) place xs st count over = true := by rw [show (⟨nm, ss⟩ : Prog).steps.length = n from hpl]; exact hr
        unfold askedS; rw [if_neg (by rw [hv]; decide), if_neg (by rw [h2]; decide)]
      rw [e1]
      clear e1 hv hr
      go_enter Tryz.func45, Tryz.ntmps45
      go_wp2_with fail
      refine (valid35 nm A n c ss _ (HP.out.ext EA) HPL.out hpb (by omega)).mono ?_
      rintro e w1 ⟨rfl, he⟩
      rw [HV.out]
      have kP := ((Blk.new w [.string nm, .slice A n c] 24).ext (Ext.new _ (.cells #[.int .i64 place, .slice T k d, .string st, .int .i64 count, .int .i64 over] 27))).ext he
      have kR := Blk.new (w.alloc (.cells #[.string nm, .slice A n c] 24)) [.int .i64 place, .slice T k d, .string st, .int .i64 count, .int .i64 over] 27
      rw [show (w.alloc (.cells #[.string nm, .slice A n c] 24)).heap.size = w.heap.size + 1 by simp] at kR
      replace kR := kR.ext he
      have HE := Lib.hid (Ext.trans EA he)
      clear he EA hp hpl hpb hx hl hb
      have p0 := kP.c0
      have p1 := kP.c1
      have r0 := kR.c0
      have r1 := kR.c1
      have r2 := kR.c2
      have r3 := kR.c3
      have r4 := kR.c4
      clear kP kR
      go_wp2_with fail
      refine (isRun66 nm A n c place count over T k d xs st w1 (HX.out.ext HE.out) HL.out HB.out).mono ?_
      rintro e w2 ⟨rfl, he2⟩
      rw [HR.out]
      have HE2 := Lib.hid (Ext.trans HE.out he2)
      clear he2
      go_wp2
      go_ret
      exact ⟨rfl, HE2.out⟩

set_option maxRecDepth 100000 in
set_option maxHeartbeats 2000000 in
theorem asked50 (nm : ByteArray) (A : Option Addr) (n c : Nat) (ss : List Step) (place count over : Int) (T : Option Addr) (k d : Nat) (xs : List ByteArray) (st : ByteArray) (w : World) (hp : StepsAt w A ss) (hpl : ss.length = n) (hpb : BdS ss) (hnm : (nm.size : Int) ≤ 1000000) (hx : Strs w T xs) (hl : xs.length = k) (hb : Bd xs) :
    Calls Tryz.prog 50 #[.agg #[.string nm, .slice A n c], runV place T k d st count over] w fun e w' => e = .returned (.int .i64 (askedS ⟨nm, ss⟩ place xs st count over)) ∧ Ext w w' := by
  have HP := Lib.hid hp
  have HPL := Lib.hid hpl
  have HX := Lib.hid hx
  have HL := Lib.hid hl
  have HB := Lib.hid hb
  have EA := Ext.al (Ext.new w (.cells #[.string nm, .slice A n c] 24)) (.cells #[.int .i64 place, .slice T k d, .string st, .int .i64 count, .int .i64 over] 27)
  unfold runV
  cases hv : validS ⟨nm, ss⟩ with
  | false =>
    have HV := Lib.hid hv
    have e1 : askedS ⟨nm, ss⟩ place xs st count over = 230 := by unfold askedS; rw [if_pos hv]
    rw [e1]
    clear e1 hv
    go_enter Tryz.func50, Tryz.ntmps50
    go_wp2_with fail
    refine (valid21 nm A n c ss _ (HP.out.ext EA) HPL.out hpb (by omega)).mono ?_
    rintro e w1 ⟨rfl, he⟩
    rw [HV.out]
    have kP := ((Blk.new w [.string nm, .slice A n c] 24).ext (Ext.new _ (.cells #[.int .i64 place, .slice T k d, .string st, .int .i64 count, .int .i64 over] 27))).ext he
    have kR := Blk.new (w.alloc (.cells #[.string nm, .slice A n c] 24)) [.int .i64 place, .slice T k d, .string st, .int .i64 count, .int .i64 over] 27
    rw [show (w.alloc (.cells #[.string nm, .slice A n c] 24)).heap.size = w.heap.size + 1 by simp] at kR
    replace kR := kR.ext he
    have HE := Lib.hid (Ext.trans EA he)
    clear he EA hp hpl hpb hx hl hb
    have p0 := kP.c0
    have p1 := kP.c1
    have r0 := kR.c0
    have r1 := kR.c1
    have r2 := kR.c2
    have r3 := kR.c3
    have r4 := kR.c4
    clear kP kR
    go_wp2
    go_ret
    exact ⟨rfl, HE.out⟩
  | true =>
    have HV := Lib.hid hv
    cases hr : isRunS n place xs st count over with
    | false =>
      have HR := Lib.hid hr
      have e1 : askedS ⟨nm, ss⟩ place xs st count over = 231 := by
        have h2 : isRunS ((⟨nm, ss⟩ : Prog).steps.length : Nat) place xs st count over = false := by rw [show (⟨nm, ss⟩ : Prog).steps.length = n from hpl]; exact hr
        unfold askedS; rw [if_neg (by rw [hv]; decide), if_pos h2]
      rw [e1]
      clear e1 hv hr
      go_enter Tryz.func50, Tryz.ntmps50
      go_wp2_with fail
      refine (valid21 nm A n c ss _ (HP.out.ext EA) HPL.out hpb (by omega)).mono ?_
      rintro e w1 ⟨rfl, he⟩
      rw [HV.out]
      have kP := ((Blk.new w [.string nm, .slice A n c] 24).ext (Ext.new _ (.cells #[.int .i64 place, .slice T k d, .string st, .int .i64 count, .int .i64 over] 27))).ext he
      have kR := Blk.new (w.alloc (.cells #[.string nm, .slice A n c] 24)) [.int .i64 place, .slice T k d, .string st, .int .i64 count, .int .i64 over] 27
      rw [show (w.alloc (.cells #[.string nm, .slice A n c] 24)).heap.size = w.heap.size + 1 by simp] at kR
      replace kR := kR.ext he
      have HE := Lib.hid (Ext.trans EA he)
      clear he EA hp hpl hpb hx hl hb
      have p0 := kP.c0
      have p1 := kP.c1
      have r0 := kR.c0
      have r1 := kR.c1
      have r2 := kR.c2
      have r3 := kR.c3
      have r4 := kR.c4
      clear kP kR
      go_wp2_with fail
      refine (isRun67 nm A n c place count over T k d xs st w1 (HX.out.ext HE.out) HL.out HB.out).mono ?_
      rintro e w2 ⟨rfl, he2⟩
      rw [HR.out]
      have HE2 := Lib.hid (Ext.trans HE.out he2)
      clear he2
      go_wp2
      go_ret
      exact ⟨rfl, HE2.out⟩
    | true =>
      have HR := Lib.hid hr
      have e1 : askedS ⟨nm, ss⟩ place xs st count over = 0 := by
        have h2 : isRunS ((⟨nm, ss⟩ : Prog).steps.length : Nat) place xs st count over = true := by rw [show (⟨nm, ss⟩ : Prog).steps.length = n from hpl]; exact hr
        unfold askedS; rw [if_neg (by rw [hv]; decide), if_neg (by rw [h2]; decide)]
      rw [e1]
      clear e1 hv hr
      go_enter Tryz.func50, Tryz.ntmps50
      go_wp2_with fail
      refine (valid21 nm A n c ss _ (HP.out.ext EA) HPL.out hpb (by omega)).mono ?_
      rintro e w1 ⟨rfl, he⟩
      rw [HV.out]
      have kP := ((Blk.new w [.string nm, .slice A n c] 24).ext (Ext.new _ (.cells #[.int .i64 place, .slice T k d, .string st, .int .i64 count, .int .i64 over] 27))).ext he
      have kR := Blk.new (w.alloc (.cells #[.string nm, .slice A n c] 24)) [.int .i64 place, .slice T k d, .string st, .int .i64 count, .int .i64 over] 27
      rw [show (w.alloc (.cells #[.string nm, .slice A n c] 24)).heap.size = w.heap.size + 1 by simp] at kR
      replace kR := kR.ext he
      have HE := Lib.hid (Ext.trans EA he)
      clear he EA hp hpl hpb hx hl hb
      have p0 := kP.c0
      have p1 := kP.c1
      have r0 := kR.c0
      have r1 := kR.c1
      have r2 := kR.c2
      have r3 := kR.c3
      have r4 := kR.c4
      clear kP kR
      go_wp2_with fail
      refine (isRun67 nm A n c place count over T k d xs st w1 (HX.out.ext HE.out) HL.out HB.out).mono ?_
      rintro e w2 ⟨rfl, he2⟩
      rw [HR.out]
      have HE2 := Lib.hid (Ext.trans HE.out he2)
      clear he2
      go_wp2
      go_ret
      exact ⟨rfl, HE2.out⟩

set_option maxRecDepth 100000 in
set_option maxHeartbeats 2000000 in
theorem isRunOf30 (nm : ByteArray) (A : Option Addr) (n c : Nat) (ss : List Step) (place count over : Int) (T : Option Addr) (k d : Nat) (xs : List ByteArray) (st : ByteArray) (w : World) (hp : StepsAt w A ss) (hpl : ss.length = n) (hpb : BdS ss) (hnm : (nm.size : Int) ≤ 1000000) (hx : Strs w T xs) (hl : xs.length = k) (hb : Bd xs) :
    Calls Tryz.prog 30 #[.agg #[.string nm, .slice A n c], runV place T k d st count over] w fun e w' => e = .returned (.tuple #[.bool (validS ⟨nm, ss⟩ && isRunS n place xs st count over), .int .i64 (if validS ⟨nm, ss⟩ then 0 else 230)]) ∧ Ext w w' := by
  have HP := Lib.hid hp
  have HPL := Lib.hid hpl
  have HX := Lib.hid hx
  have HL := Lib.hid hl
  have HB := Lib.hid hb
  have EA := Ext.al (Ext.new w (.cells #[.string nm, .slice A n c] 24)) (.cells #[.int .i64 place, .slice T k d, .string st, .int .i64 count, .int .i64 over] 27)
  unfold runV
  cases hv : validS ⟨nm, ss⟩ with
  | false =>
    have HV := Lib.hid hv
    go_enter Tryz.func30, Tryz.ntmps30
    go_wp2_with fail
    refine (valid35 nm A n c ss _ (HP.out.ext EA) HPL.out hpb (by omega)).mono ?_
    rintro e w1 ⟨rfl, he⟩
    rw [HV.out]
    have kP := ((Blk.new w [.string nm, .slice A n c] 24).ext (Ext.new _ (.cells #[.int .i64 place, .slice T k d, .string st, .int .i64 count, .int .i64 over] 27))).ext he
    have kR := Blk.new (w.alloc (.cells #[.string nm, .slice A n c] 24)) [.int .i64 place, .slice T k d, .string st, .int .i64 count, .int .i64 over] 27
    rw [show (w.alloc (.cells #[.string nm, .slice A n c] 24)).heap.size = w.heap.size + 1 by simp] at kR
    replace kR := kR.ext he
    have HE := Lib.hid (Ext.trans EA he)
    clear he EA hp hpl hpb hx hl hb
    have p0 := kP.c0
    have p1 := kP.c1
    have r0 := kR.c0
    have r1 := kR.c1
    have r2 := kR.c2
    have r3 := kR.c3
    have r4 := kR.c4
    clear kP kR
    go_wp2
    go_ret2
    exact ⟨rfl, HE.out⟩
  | true =>
    have HV := Lib.hid hv
    go_enter Tryz.func30, Tryz.ntmps30
    go_wp2_with fail
    refine (valid35 nm A n c ss _ (HP.out.ext EA) HPL.out hpb (by omega)).mono ?_
    rintro e w1 ⟨rfl, he⟩
    rw [HV.out]
    have kP := ((Blk.new w [.string nm, .slice A n c] 24).ext (Ext.new _ (.cells #[.int .i64 place, .slice T k d, .string st, .int .i64 count, .int .i64 over] 27))).ext he
    have kR := Blk.new (w.alloc (.cells #[.string nm, .slice A n c] 24)) [.int .i64 place, .slice T k d, .string st, .int .i64 count, .int .i64 over] 27
    rw [show (w.alloc (.cells #[.string nm, .slice A n c] 24)).heap.size = w.heap.size + 1 by simp] at kR
    replace kR := kR.ext he
    have HE := Lib.hid (Ext.trans EA he)
    clear he EA hp hpl hpb hx hl hb
    have p0 := kP.c0
    have p1 := kP.c1
    have r0 := kR.c0
    have r1 := kR.c1
    have r2 := kR.c2
    have r3 := kR.c3
    have r4 := kR.c4
    clear kP kR
    go_wp2_with fail
    refine (isRun66 nm A n c place count over T k d xs st w1 (HX.out.ext HE.out) HL.out HB.out).mono ?_
    rintro e w2 ⟨rfl, he2⟩
    have HE2 := Lib.hid (Ext.trans HE.out he2)
    clear he2
    go_wp2
    go_ret2
    exact ⟨rfl, HE2.out⟩

set_option maxRecDepth 100000 in
set_option maxHeartbeats 2000000 in
theorem isRunOf31 (nm : ByteArray) (A : Option Addr) (n c : Nat) (ss : List Step) (place count over : Int) (T : Option Addr) (k d : Nat) (xs : List ByteArray) (st : ByteArray) (w : World) (hp : StepsAt w A ss) (hpl : ss.length = n) (hpb : BdS ss) (hnm : (nm.size : Int) ≤ 1000000) (hx : Strs w T xs) (hl : xs.length = k) (hb : Bd xs) :
    Calls Tryz.prog 31 #[.agg #[.string nm, .slice A n c], runV place T k d st count over] w fun e w' => e = .returned (.tuple #[.bool (validS ⟨nm, ss⟩ && isRunS n place xs st count over), .int .i64 (if validS ⟨nm, ss⟩ then 0 else 230)]) ∧ Ext w w' := by
  have HP := Lib.hid hp
  have HPL := Lib.hid hpl
  have HX := Lib.hid hx
  have HL := Lib.hid hl
  have HB := Lib.hid hb
  have EA := Ext.al (Ext.new w (.cells #[.string nm, .slice A n c] 24)) (.cells #[.int .i64 place, .slice T k d, .string st, .int .i64 count, .int .i64 over] 27)
  unfold runV
  cases hv : validS ⟨nm, ss⟩ with
  | false =>
    have HV := Lib.hid hv
    go_enter Tryz.func31, Tryz.ntmps31
    go_wp2_with fail
    refine (valid21 nm A n c ss _ (HP.out.ext EA) HPL.out hpb (by omega)).mono ?_
    rintro e w1 ⟨rfl, he⟩
    rw [HV.out]
    have kP := ((Blk.new w [.string nm, .slice A n c] 24).ext (Ext.new _ (.cells #[.int .i64 place, .slice T k d, .string st, .int .i64 count, .int .i64 over] 27))).ext he
    have kR := Blk.new (w.alloc (.cells #[.string nm, .slice A n c] 24)) [.int .i64 place, .slice T k d, .string st, .int .i64 count, .int .i64 over] 27
    rw [show (w.alloc (.cells #[.string nm, .slice A n c] 24)).heap.size = w.heap.size + 1 by simp] at kR
    replace kR := kR.ext he
    have HE := Lib.hid (Ext.trans EA he)
    clear he EA hp hpl hpb hx hl hb
    have p0 := kP.c0
    have p1 := kP.c1
    have r0 := kR.c0
    have r1 := kR.c1
    have r2 := kR.c2
    have r3 := kR.c3
    have r4 := kR.c4
    clear kP kR
    go_wp2
    go_ret2
    exact ⟨rfl, HE.out⟩
  | true =>
    have HV := Lib.hid hv
    go_enter Tryz.func31, Tryz.ntmps31
    go_wp2_with fail
    refine (valid21 nm A n c ss _ (HP.out.ext EA) HPL.out hpb (by omega)).mono ?_
    rintro e w1 ⟨rfl, he⟩
    rw [HV.out]
    have kP := ((Blk.new w [.string nm, .slice A n c] 24).ext (Ext.new _ (.cells #[.int .i64 place, .slice T k d, .string st, .int .i64 count, .int .i64 over] 27))).ext he
    have kR := Blk.new (w.alloc (.cells #[.string nm, .slice A n c] 24)) [.int .i64 place, .slice T k d, .string st, .int .i64 count, .int .i64 over] 27
    rw [show (w.alloc (.cells #[.string nm, .slice A n c] 24)).heap.size = w.heap.size + 1 by simp] at kR
    replace kR := kR.ext he
    have HE := Lib.hid (Ext.trans EA he)
    clear he EA hp hpl hpb hx hl hb
    have p0 := kP.c0
    have p1 := kP.c1
    have r0 := kR.c0
    have r1 := kR.c1
    have r2 := kR.c2
    have r3 := kR.c3
    have r4 := kR.c4
    clear kP kR
    go_wp2_with fail
    refine (isRun67 nm A n c place count over T k d xs st w1 (HX.out.ext HE.out) HL.out HB.out).mono ?_
    rintro e w2 ⟨rfl, he2⟩
    have HE2 := Lib.hid (Ext.trans HE.out he2)
    clear he2
    go_wp2
    go_ret2
    exact ⟨rfl, HE2.out⟩

end Go.Proofs.YtkdbajpdcadliaaGreatDoor.Pg
