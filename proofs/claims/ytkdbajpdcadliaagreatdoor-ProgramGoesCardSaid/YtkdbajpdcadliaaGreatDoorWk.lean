/- Walks: what a step must be. -/
import Derived.Test.YtkdbajpdcadliaaGreatDoorWi
set_option linter.unusedVariables false
namespace Go.Proofs.YtkdbajpdcadliaaGreatDoor.Pg
open Go.RowKit

theorem verbs93' (op : Int) (nm : List UInt8) (va vb few all : Int) (ok : Bool) (h : verbS op = (⟨nm, va, vb, few, all⟩, ok)) (w : World) :
    Calls Tryz.prog 93 #[.int .i64 op] w fun e w' => e = .returned (.tuple #[.agg #[.string (mkB nm), .int .u8 va, .int .u8 vb, .int .i64 few, .int .i64 all], .bool ok]) ∧ Ext w w' := by
  have := verbs93 op w
  rw [h] at this
  exact this

set_option maxHeartbeats 4000000 in
theorem isStep73 (op a b many : Int) (T : Option Addr) (n c : Nat) (xs : List ByteArray) (w : World) (hx : Strs w T xs) (hl : xs.length = n) (hb : Bd xs) :
    Calls Tryz.prog 73 #[.agg #[.int .i64 op, .int .i64 a, .int .i64 b, .slice T n c], .int .i64 many] w fun e w' => e = .returned (.bool (isStepS ⟨op, a, b, xs⟩ many)) ∧ Ext w w' := by
  have HX := Lib.hid hx
  have HL := Lib.hid hl
  have HB := Lib.hid hb
  have hn : (n : Int) ≤ 1000000000 := by rw [← hl]; exact hb.len
  clear hx hl hb
  obtain ⟨⟨⟨nm, va, vb, few, all⟩, ok⟩, hv⟩ : ∃ v, verbS op = v := ⟨_, rfl⟩
  have HV := Lib.hid hv
  have hS : isStepS ⟨op, a, b, xs⟩ many = (ok && isM va a many && isM vb b many && decide (few ≤ (n : Int)) && decide ((n : Int) ≤ all) && xs.all isTextS && special ⟨op, a, b, xs⟩) := by
    simp only [isStepS, hv, HL.out]
  have HS := Lib.hid hS
  clear hv hS
  cases ok with
  | false =>
    have hf : isStepS ⟨op, a, b, xs⟩ many = false := by rw [HS.out]; simp
    have H := Lib.hid hf
    clear hf
    go_enter Tryz.func73, Tryz.ntmps73
    go_wp2_with fail
    refine (verbs93' op nm va vb few all _ HV.out _).mono ?_
    rintro e w1 ⟨rfl, he1⟩
    have K1 := (Cells.new w [.int .i64 op, .int .i64 a, .int .i64 b, .slice T n c] 77).ext he1
    have c0 := K1.c0
    have c1 := K1.c1
    have c2 := K1.c2
    have c3 := K1.c3
    have z1 := K1.1
    have X1 := Lib.hid ((Ext.new w _).trans he1)
    have KK := Lib.hid K1
    clear he1 K1
    go_wp2_with fail
    go_ret
    exact ⟨ret_bool H.out.symm, X1.out.al _⟩
  | true =>
    by_cases hA : ¬ isM va a many = true
    · have hf : isStepS ⟨op, a, b, xs⟩ many = false := by rw [HS.out]; simp [hA]
      replace hA : isM va a many = false := by simpa using hA
      have H := Lib.hid hf
      clear hf
      go_enter Tryz.func73, Tryz.ntmps73
      go_wp2_with fail
      refine (verbs93' op nm va vb few all _ HV.out _).mono ?_
      rintro e w1 ⟨rfl, he1⟩
      have K1 := (Cells.new w [.int .i64 op, .int .i64 a, .int .i64 b, .slice T n c] 77).ext he1
      have c0 := K1.c0
      have c1 := K1.c1
      have c2 := K1.c2
      have c3 := K1.c3
      have z1 := K1.1
      have X1 := Lib.hid ((Ext.new w _).trans he1)
      have KK := Lib.hid K1
      clear he1 K1
      go_wp2_with fail
      refine (is105 _ _ _ _).mono ?_
      rintro e w2 ⟨rfl, rfl⟩
      go_wp2_with fail
      go_ret
      exact ⟨ret_bool H.out.symm, X1.out.al _⟩
    replace hA : isM va a many = true := by simpa using hA
    by_cases hB : ¬ isM vb b many = true
    · have hf : isStepS ⟨op, a, b, xs⟩ many = false := by rw [HS.out]; simp [hB]
      replace hB : isM vb b many = false := by simpa using hB
      have H := Lib.hid hf
      clear hf
      go_enter Tryz.func73, Tryz.ntmps73
      go_wp2_with fail
      refine (verbs93' op nm va vb few all _ HV.out _).mono ?_
      rintro e w1 ⟨rfl, he1⟩
      have K1 := (Cells.new w [.int .i64 op, .int .i64 a, .int .i64 b, .slice T n c] 77).ext he1
      have c0 := K1.c0
      have c1 := K1.c1
      have c2 := K1.c2
      have c3 := K1.c3
      have z1 := K1.1
      have X1 := Lib.hid ((Ext.new w _).trans he1)
      have KK := Lib.hid K1
      clear he1 K1
      go_wp2_with fail
      refine (is105 _ _ _ _).mono ?_
      rintro e w2 ⟨rfl, rfl⟩
      go_wp2_with fail
      refine (is105 _ _ _ _).mono ?_
      rintro e w2 ⟨rfl, rfl⟩
      go_wp2_with fail
      go_ret
      exact ⟨ret_bool H.out.symm, X1.out.al _⟩
    replace hB : isM vb b many = true := by simpa using hB
    by_cases hF : ¬ few ≤ (n : Int)
    · have hf : isStepS ⟨op, a, b, xs⟩ many = false := by rw [HS.out]; simp [hF]
      have H := Lib.hid hf
      clear hf
      go_enter Tryz.func73, Tryz.ntmps73
      go_wp2_with fail
      refine (verbs93' op nm va vb few all _ HV.out _).mono ?_
      rintro e w1 ⟨rfl, he1⟩
      have K1 := (Cells.new w [.int .i64 op, .int .i64 a, .int .i64 b, .slice T n c] 77).ext he1
      have c0 := K1.c0
      have c1 := K1.c1
      have c2 := K1.c2
      have c3 := K1.c3
      have z1 := K1.1
      have X1 := Lib.hid ((Ext.new w _).trans he1)
      have KK := Lib.hid K1
      clear he1 K1
      go_wp2_with fail
      refine (is105 _ _ _ _).mono ?_
      rintro e w2 ⟨rfl, rfl⟩
      go_wp2_with fail
      refine (is105 _ _ _ _).mono ?_
      rintro e w2 ⟨rfl, rfl⟩
      go_wp2_with fail
      go_ret
      exact ⟨ret_bool H.out.symm, X1.out.al _⟩
    replace hF : few ≤ (n : Int) := by simpa using hF
    by_cases hG : ¬ (n : Int) ≤ all
    · have hf : isStepS ⟨op, a, b, xs⟩ many = false := by rw [HS.out]; simp [hG]
      have H := Lib.hid hf
      clear hf
      go_enter Tryz.func73, Tryz.ntmps73
      go_wp2_with fail
      refine (verbs93' op nm va vb few all _ HV.out _).mono ?_
      rintro e w1 ⟨rfl, he1⟩
      have K1 := (Cells.new w [.int .i64 op, .int .i64 a, .int .i64 b, .slice T n c] 77).ext he1
      have c0 := K1.c0
      have c1 := K1.c1
      have c2 := K1.c2
      have c3 := K1.c3
      have z1 := K1.1
      have X1 := Lib.hid ((Ext.new w _).trans he1)
      have KK := Lib.hid K1
      clear he1 K1
      go_wp2_with fail
      refine (is105 _ _ _ _).mono ?_
      rintro e w2 ⟨rfl, rfl⟩
      go_wp2_with fail
      refine (is105 _ _ _ _).mono ?_
      rintro e w2 ⟨rfl, rfl⟩
      go_wp2_with fail
      go_ret
      exact ⟨ret_bool H.out.symm, X1.out.al _⟩
    replace hG : (n : Int) ≤ all := by simpa using hG
    by_cases hT : ¬ xs.all isTextS = true
    · have hf : isStepS ⟨op, a, b, xs⟩ many = false := by rw [HS.out]; simp only [Bool.not_eq_true] at hT; simp [hT]
      have hT' : (xs.any fun x => !isTextS x) = true := by rw [List.all_eq_not_any_not] at hT; simpa using hT
      clear hT
      have H := Lib.hid hf
      clear hf
      go_enter Tryz.func73, Tryz.ntmps73
      go_wp2_with fail
      refine (verbs93' op nm va vb few all _ HV.out _).mono ?_
      rintro e w1 ⟨rfl, he1⟩
      have K1 := (Cells.new w [.int .i64 op, .int .i64 a, .int .i64 b, .slice T n c] 77).ext he1
      have c0 := K1.c0
      have c1 := K1.c1
      have c2 := K1.c2
      have c3 := K1.c3
      have z1 := K1.1
      have X1 := Lib.hid ((Ext.new w _).trans he1)
      have KK := Lib.hid K1
      clear he1 K1
      go_wp2_with fail
      refine (is105 _ _ _ _).mono ?_
      rintro e w2 ⟨rfl, rfl⟩
      go_wp2_with fail
      refine (is105 _ _ _ _).mono ?_
      rintro e w2 ⟨rfl, rfl⟩
      go_wp2_with fail
      refine (containsFunc101_106 T n c xs _ (noText106 xs HB.out) ((HX.out.ext X1.out).ext (Ext.new _ _)) HL.out hn).mono ?_
      rintro e w3 ⟨rfl, he3⟩
      have K3 := (KK.out.ext (Ext.new w1 _)).ext he3
      have d0 := K3.c0
      have d3 := K3.c3
      have X3 := Lib.hid ((X1.out.al _).trans he3)
      clear he3 K3
      go_wp2_with fail
      go_ret
      exact ⟨ret_bool H.out.symm, X3.out⟩
    replace hT : xs.all isTextS = true := by simpa using hT
    have hT' : (xs.any fun x => !isTextS x) = false := by rw [List.all_eq_not_any_not] at hT; simpa using hT
    have hq : isStepS ⟨op, a, b, xs⟩ many = special ⟨op, a, b, xs⟩ := by rw [HS.out]; simp [hA, hB, hF, hG, hT]
    have HQ := Lib.hid hq
    clear hq hT
    by_cases h2 : op = 2
    · have hf : special ⟨op, a, b, xs⟩ = isDoS (headT xs) := by subst h2; rfl
      have hpos : 0 < n := by
        have := congrArg (fun v => v.1.few) HV.out
        subst h2
        have e : (verbS 2).1.few = 2 := rfl
        simp only [e] at this
        omega
      have q2 : (op == 2) = true := by rw [h2]; rfl
      have HF := Lib.hid hf
      clear hf h2
      go_enter Tryz.func73, Tryz.ntmps73
      go_wp2_with fail
      refine (verbs93' op nm va vb few all _ HV.out _).mono ?_
      rintro e w1 ⟨rfl, he1⟩
      have K1 := (Cells.new w [.int .i64 op, .int .i64 a, .int .i64 b, .slice T n c] 77).ext he1
      have c0 := K1.c0
      have c1 := K1.c1
      have c2 := K1.c2
      have c3 := K1.c3
      have z1 := K1.1
      have X1 := Lib.hid ((Ext.new w _).trans he1)
      have KK := Lib.hid K1
      clear he1 K1
      go_wp2_with fail
      refine (is105 _ _ _ _).mono ?_
      rintro e w2 ⟨rfl, rfl⟩
      go_wp2_with fail
      refine (is105 _ _ _ _).mono ?_
      rintro e w2 ⟨rfl, rfl⟩
      go_wp2_with fail
      refine (containsFunc101_106 T n c xs _ (noText106 xs HB.out) ((HX.out.ext X1.out).ext (Ext.new _ _)) HL.out hn).mono ?_
      rintro e w3 ⟨rfl, he3⟩
      have K3 := (KK.out.ext (Ext.new w1 _)).ext he3
      have d0 := K3.c0
      have d3 := K3.c3
      have X3 := Lib.hid ((X1.out.al _).trans he3)
      clear he3 K3
      have lx : 0 < xs.length := by have := HL.out; omega
      obtain ⟨ad, hA0, hc0⟩ := (HX.out.ext X3.out) 0 lx
      have hh : headT xs = xs[0] := by cases xs with | nil => simp at lx | cons x l => rfl
      have HH := Lib.hid hh
      clear hh
      subst hA0
      replace hc0 : w3.cell? ad = some (.string xs[0]) := hc0
      go_wp2_with fail
      refine (isCall108 _ _).mono ?_
      rintro e w4 ⟨rfl, he4⟩
      go_wp2_with fail
      go_ret
      exact ⟨ret_bool (by rw [HQ.out, HF.out, HH.out]), X3.out.trans he4⟩
    have q2 := beq_no h2
    by_cases h5 : op = 5
    · have hf : special ⟨op, a, b, xs⟩ = ((headT xs).size == 2) := by subst h5; rfl
      have hpos : 0 < n := by
        have := congrArg (fun v => v.1.few) HV.out
        subst h5
        have e : (verbS 5).1.few = 1 := rfl
        simp only [e] at this
        omega
      have q5 : (op == 5) = true := by rw [h5]; rfl
      have HF := Lib.hid hf
      clear hf h5
      go_enter Tryz.func73, Tryz.ntmps73
      go_wp2_with fail
      refine (verbs93' op nm va vb few all _ HV.out _).mono ?_
      rintro e w1 ⟨rfl, he1⟩
      have K1 := (Cells.new w [.int .i64 op, .int .i64 a, .int .i64 b, .slice T n c] 77).ext he1
      have c0 := K1.c0
      have c1 := K1.c1
      have c2 := K1.c2
      have c3 := K1.c3
      have z1 := K1.1
      have X1 := Lib.hid ((Ext.new w _).trans he1)
      have KK := Lib.hid K1
      clear he1 K1
      go_wp2_with fail
      refine (is105 _ _ _ _).mono ?_
      rintro e w2 ⟨rfl, rfl⟩
      go_wp2_with fail
      refine (is105 _ _ _ _).mono ?_
      rintro e w2 ⟨rfl, rfl⟩
      go_wp2_with fail
      refine (containsFunc101_106 T n c xs _ (noText106 xs HB.out) ((HX.out.ext X1.out).ext (Ext.new _ _)) HL.out hn).mono ?_
      rintro e w3 ⟨rfl, he3⟩
      have K3 := (KK.out.ext (Ext.new w1 _)).ext he3
      have d0 := K3.c0
      have d3 := K3.c3
      have X3 := Lib.hid ((X1.out.al _).trans he3)
      clear he3 K3
      have lx : 0 < xs.length := by have := HL.out; omega
      obtain ⟨ad, hA0, hc0⟩ := (HX.out.ext X3.out) 0 lx
      have hh : headT xs = xs[0] := by cases xs with | nil => simp at lx | cons x l => rfl
      have HH := Lib.hid hh
      clear hh
      subst hA0
      replace hc0 : w3.cell? ad = some (.string xs[0]) := hc0
      go_wp2_with fail
      go_ret
      refine ⟨ret_bool ?_, X3.out⟩
      rw [HQ.out, HF.out, HH.out]
      rw [Bool.eq_iff_iff, beq_iff_eq, beq_iff_eq]; omega
    have q5 := beq_no h5
    by_cases h9 : op = 9
    · have hf : special ⟨op, a, b, xs⟩ = isNameS (headT xs) := by subst h9; rfl
      have hpos : 0 < n := by
        have := congrArg (fun v => v.1.few) HV.out
        subst h9
        have e : (verbS 9).1.few = 2 := rfl
        simp only [e] at this
        omega
      have q9 : (op == 9) = true := by rw [h9]; rfl
      have HF := Lib.hid hf
      clear hf h9
      go_enter Tryz.func73, Tryz.ntmps73
      go_wp2_with fail
      refine (verbs93' op nm va vb few all _ HV.out _).mono ?_
      rintro e w1 ⟨rfl, he1⟩
      have K1 := (Cells.new w [.int .i64 op, .int .i64 a, .int .i64 b, .slice T n c] 77).ext he1
      have c0 := K1.c0
      have c1 := K1.c1
      have c2 := K1.c2
      have c3 := K1.c3
      have z1 := K1.1
      have X1 := Lib.hid ((Ext.new w _).trans he1)
      have KK := Lib.hid K1
      clear he1 K1
      go_wp2_with fail
      refine (is105 _ _ _ _).mono ?_
      rintro e w2 ⟨rfl, rfl⟩
      go_wp2_with fail
      refine (is105 _ _ _ _).mono ?_
      rintro e w2 ⟨rfl, rfl⟩
      go_wp2_with fail
      refine (containsFunc101_106 T n c xs _ (noText106 xs HB.out) ((HX.out.ext X1.out).ext (Ext.new _ _)) HL.out hn).mono ?_
      rintro e w3 ⟨rfl, he3⟩
      have K3 := (KK.out.ext (Ext.new w1 _)).ext he3
      have d0 := K3.c0
      have d3 := K3.c3
      have X3 := Lib.hid ((X1.out.al _).trans he3)
      clear he3 K3
      have lx : 0 < xs.length := by have := HL.out; omega
      obtain ⟨ad, hA0, hc0⟩ := (HX.out.ext X3.out) 0 lx
      have hh : headT xs = xs[0] := by cases xs with | nil => simp at lx | cons x l => rfl
      have HH := Lib.hid hh
      clear hh
      subst hA0
      replace hc0 : w3.cell? ad = some (.string xs[0]) := hc0
      go_wp2_with fail
      refine (isName70 _ _ (le_max (HB.out.at_ 0 lx))).mono ?_
      rintro e w4 ⟨rfl, rfl⟩
      go_wp2_with fail
      go_ret
      exact ⟨ret_bool (by rw [HQ.out, HF.out, HH.out]), X3.out⟩
    have q9 := beq_no h9
    have hf : special ⟨op, a, b, xs⟩ = true := by simp only [special, if_neg h2, if_neg h5, if_neg h9]
    have HF := Lib.hid hf
    clear hf h2 h5 h9
    go_enter Tryz.func73, Tryz.ntmps73
    go_wp2_with fail
    refine (verbs93' op nm va vb few all _ HV.out _).mono ?_
    rintro e w1 ⟨rfl, he1⟩
    have K1 := (Cells.new w [.int .i64 op, .int .i64 a, .int .i64 b, .slice T n c] 77).ext he1
    have c0 := K1.c0
    have c1 := K1.c1
    have c2 := K1.c2
    have c3 := K1.c3
    have z1 := K1.1
    have X1 := Lib.hid ((Ext.new w _).trans he1)
    have KK := Lib.hid K1
    clear he1 K1
    go_wp2_with fail
    refine (is105 _ _ _ _).mono ?_
    rintro e w2 ⟨rfl, rfl⟩
    go_wp2_with fail
    refine (is105 _ _ _ _).mono ?_
    rintro e w2 ⟨rfl, rfl⟩
    go_wp2_with fail
    refine (containsFunc101_106 T n c xs _ (noText106 xs HB.out) ((HX.out.ext X1.out).ext (Ext.new _ _)) HL.out hn).mono ?_
    rintro e w3 ⟨rfl, he3⟩
    have K3 := (KK.out.ext (Ext.new w1 _)).ext he3
    have d0 := K3.c0
    have d3 := K3.c3
    have X3 := Lib.hid ((X1.out.al _).trans he3)
    clear he3 K3
    go_wp2_with fail
    go_ret
    exact ⟨ret_bool (by rw [HQ.out, HF.out]), X3.out⟩
end Go.Proofs.YtkdbajpdcadliaaGreatDoor.Pg
