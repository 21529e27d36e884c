/- Walks: what a step must be, in the reference. -/
import Derived.Test.YtkdbajpdcadliaaGreatDoorWi
import Derived.Deep.DeepCutAuto
set_option linter.unusedVariables false
namespace Go.Proofs.YtkdbajpdcadliaaGreatDoor.Pg
open Go.RowKit

theorem isStepS_at {op a b many : Int} {xs : List ByteArray} {n : Nat} {v : Verb} (hv : verbS op = (v, true)) (hl : xs.length = n) (hT : xs.all isTextS = true) :
    isStepS ⟨op, a, b, xs⟩ many = (isM v.a a many && isM v.b b many && decide (v.few ≤ (n : Int)) && decide ((n : Int) ≤ v.all) && special ⟨op, a, b, xs⟩) := by
  simp only [isStepS, hv, hl, hT, Bool.true_and, Bool.and_true]
theorem headT_at {xs : List ByteArray} (h : 0 < xs.length) : headT xs = xs[0] := by cases xs with | nil => simp at h | cons x l => rfl
theorem alloc_cell {w : World} {p : Addr} {v : Value} (h : w.cell? p = some v) (o : Obj) : (w.alloc o).cell? p = some v := (Ext.new w o).cell h

set_option maxRecDepth 100000 in
set_option maxHeartbeats 16000000 in
theorem isStep57 (op a b many : Int) (T : Option Addr) (n c : Nat) (xs : List ByteArray) (w : World) (hx : Strs w T xs) (hl : xs.length = n) (hb : Bd xs) :
    Calls Tryz.prog 57 #[.agg #[.int .i64 op, .int .i64 a, .int .i64 b, .slice T n c], .int .i64 many] w fun e w' => e = .returned (.bool (isStepS ⟨op, a, b, xs⟩ many)) ∧ Ext w w' := by
  have HX := Lib.hid hx
  have HL := Lib.hid hl
  have HB := Lib.hid hb
  have hn : (n : Int) ≤ 1000000000 := by rw [← hl]; exact hb.len
  clear hx hl hb
  go_enter Tryz.func57, Tryz.ntmps57
  go_wp2_with fail
  go_loop [5] (fun i => ∃ k : Nat, k ≤ n ∧ i = .int .i64 k ∧ Hid (∀ j (h : j < xs.length), j < k → isTextS xs[j] = true)) (fun i => n - (intOf i).toNat)
  case atStart => exact ⟨0, Nat.zero_le _, rfl, fun j h hj => absurd hj (by omega)⟩
  case round =>
    obtain ⟨k, hk, rfl, hall⟩ := hrel
    by_cases hlt : k < n
    · have lx : k < xs.length := by have := HL.out; omega
      obtain ⟨ad, hA, hcx⟩ := HX.out k lx
      subst hA
      have hcx2 := alloc_cell hcx
      go_wp2_with fail
      refine (isText85 _ _ (le_max (HB.out.at_ k lx))).mono ?_
      rintro e w1 ⟨rfl, rfl⟩
      by_cases hp : isTextS xs[k] = true
      · go_wp2_with fail
        go_round
        case rel =>
          refine ⟨k + 1, by omega, by go_num, fun j h hj => ?_⟩
          by_cases e : j < k
          · exact hall.out j h e
          · have : j = k := by omega
            subst this; exact hp
        case measure => simp [intOf]; omega
      · have hp : isTextS xs[k] = false := by simpa using hp
        have hf : isStepS ⟨op, a, b, xs⟩ many = false := by
          have : xs.all isTextS = false := by
            rw [List.all_eq_false]
            exact ⟨_, List.getElem_mem lx, by simp [hp]⟩
          simp [isStepS, this]
        have H := Lib.hid hf
        clear hf
        go_wp2_with fail
        go_ret
        exact ⟨ret_bool H.out.symm, Ext.new _ _⟩
    · have hT : xs.all isTextS = true := by
        rw [List.all_eq_true]
        intro x hx
        obtain ⟨i, hi, rfl⟩ := List.getElem_of_mem hx
        exact hall.out i hi (by have := HL.out; omega)
      have HT := Lib.hid hT
      clear hT
      have ke : k = n := by omega
      have KE := Lib.hid ke
      clear ke
      go_upto_region 6 with fail
      go_cut [6] (fun s6 wx => s6 = .bool (decide (0 ≤ a ∧ a ≤ 5)) ∧ wx = w.alloc (.cells #[.int .i64 op, .int .i64 a, .int .i64 b, .slice T n c] 77))
      case first =>
        by_cases v1 : 0 ≤ a
        · by_cases v2 : a ≤ 5
          all_goals
            go_wp2_with fail
            go_meet
            exact ⟨by first | (simp [*]; done) | (simp [*]; omega), rfl⟩
        · go_wp2_with fail
          go_meet
          exact ⟨by first | (simp [*]; done) | (simp [*]; omega), rfl⟩
      case rest =>
      obtain ⟨rfl, rfl⟩ := hcut
      obtain ⟨bV, hV⟩ : ∃ b, b = decide (0 ≤ a ∧ a ≤ 5) := ⟨_, rfl⟩
      rw [← hV]
      have qV := Lib.hid hV
      clear hV
      go_upto_region 7 with fail
      go_cut [7] (fun s7 wx => s7 = .bool (decide (0 ≤ b ∧ b < many)) ∧ wx = w.alloc (.cells #[.int .i64 op, .int .i64 a, .int .i64 b, .slice T n c] 77))
      case first =>
        by_cases v1 : 0 ≤ b
        · by_cases v2 : b < many
          all_goals
            go_wp2_with fail
            go_meet
            exact ⟨by first | (simp [*]; done) | (simp [*]; omega), rfl⟩
        · go_wp2_with fail
          go_meet
          exact ⟨by first | (simp [*]; done) | (simp [*]; omega), rfl⟩
      case rest =>
      obtain ⟨rfl, rfl⟩ := hcut
      obtain ⟨bP, hP⟩ : ∃ p, p = decide (0 ≤ b ∧ b < many) := ⟨_, rfl⟩
      rw [← hP]
      have qP := Lib.hid hP
      clear hP
      rcases verbs_cases op with hn0 | h1 | h2 | h3 | h4 | h5 | h6 | h7 | h8 | h9 | h10 | h11 | h12 | h13
      · have hf : isStepS ⟨op, a, b, xs⟩ many = false := by simp [isStepS, verbS_none hn0]
        have H := Lib.hid hf
        clear hf
        obtain ⟨h1, h2, h3, h4, h5, h6, h7, h8, h9, h10, h11, h12, h13⟩ := hn0
        replace h1 := beq_no h1
        replace h2 := beq_no h2
        replace h3 := beq_no h3
        replace h4 := beq_no h4
        replace h5 := beq_no h5
        replace h6 := beq_no h6
        replace h7 := beq_no h7
        replace h8 := beq_no h8
        replace h9 := beq_no h9
        replace h10 := beq_no h10
        replace h11 := beq_no h11
        replace h12 := beq_no h12
        replace h13 := beq_no h13
        go_wp2_with fail
        go_ret
        exact ⟨ret_bool H.out.symm, Ext.new _ _⟩
      · have hv : verbS op = (⟨(verbS 1).1.name, 118, 0, 0, 0⟩, true) := by rw [h1]; rfl
        have hs : special ⟨op, a, b, xs⟩ = true := by rw [h1]; rfl
        have hf := isStepS_at (a := a) (b := b) (many := many) hv HL.out HT.out
        rw [hs] at hf
        have H := Lib.hid hf
        clear hf hs hv
        have q1 : (op == 1) = true := by rw [h1]; rfl
        clear h1
        by_cases c0 : 0 ≤ a ∧ a ≤ 5
        · by_cases c1 : b = 0
          · by_cases c2 : n = 0
            · have QV := qV.out.trans (decide_eq_true c0)
              have f1 : (b == 0) = true := by rw [c1]; rfl
              have f2 : ((n : Int) == 0) = true := by rw [c2]; rfl
              have hf : isStepS ⟨op, a, b, xs⟩ many = true := by
                rw [H.out]
                simp [isM]
                omega
              have HF := Lib.hid hf
              clear hf
              have C0 := Lib.hid c0
              clear c0
              have C1 := Lib.hid c1
              clear c1
              have C2 := Lib.hid c2
              clear c2
              go_wp2_with fail
              go_ret
              exact ⟨ret_bool HF.out.symm, Ext.new _ _⟩
            · have QV := qV.out.trans (decide_eq_true c0)
              have f1 : (b == 0) = true := by rw [c1]; rfl
              have f2 : ((n : Int) == 0) = false := by exact beq_no (by omega)
              have hf : isStepS ⟨op, a, b, xs⟩ many = false := by
                rw [H.out]
                simp [isM]
                omega
              have HF := Lib.hid hf
              clear hf
              have C0 := Lib.hid c0
              clear c0
              have C1 := Lib.hid c1
              clear c1
              have C2 := Lib.hid c2
              clear c2
              go_wp2_with fail
              go_ret
              exact ⟨ret_bool HF.out.symm, Ext.new _ _⟩
          · have QV := qV.out.trans (decide_eq_true c0)
            have f1 : (b == 0) = false := by exact beq_no c1
            have hf : isStepS ⟨op, a, b, xs⟩ many = false := by
              rw [H.out]
              simp [isM]
              omega
            have HF := Lib.hid hf
            clear hf
            have C0 := Lib.hid c0
            clear c0
            have C1 := Lib.hid c1
            clear c1
            go_wp2_with fail
            go_ret
            exact ⟨ret_bool HF.out.symm, Ext.new _ _⟩
        · have QV := qV.out.trans (decide_eq_false c0)
          have hf : isStepS ⟨op, a, b, xs⟩ many = false := by
            rw [H.out]
            simp [isM]
            omega
          have HF := Lib.hid hf
          clear hf
          have C0 := Lib.hid c0
          clear c0
          go_wp2_with fail
          go_ret
          exact ⟨ret_bool HF.out.symm, Ext.new _ _⟩
      · have hv : verbS op = (⟨(verbS 2).1.name, 119, 118, 2, 7⟩, true) := by rw [h2]; rfl
        have hs : special ⟨op, a, b, xs⟩ = isDoS (headT xs) := by rw [h2]; rfl
        have hf := isStepS_at (a := a) (b := b) (many := many) hv HL.out HT.out
        rw [hs] at hf
        have H := Lib.hid hf
        clear hf hs hv
        have q1 : (op == 1) = false := by rw [h2]; rfl
        have q2 : (op == 2) = true := by rw [h2]; rfl
        clear h2
        by_cases c0 : 0 ≤ a
        · by_cases c1 : a ≤ 2
          · by_cases c2 : 0 ≤ b
            · by_cases c3 : b ≤ 5
              · by_cases c4 : 2 ≤ n
                · by_cases c5 : n ≤ 7
                  · have f0 : 0 ≤ a := by omega
                    have f1 : a ≤ 2 := by omega
                    have f2 : 0 ≤ b := by omega
                    have f3 : b ≤ 5 := by omega
                    have f4 : 2 ≤ (n : Int) := by omega
                    have f5 : (n : Int) ≤ 7 := by omega
                    have hf : isStepS ⟨op, a, b, xs⟩ many = isDoS (headT xs) := by
                      rw [H.out]
                      simp [isM]
                      omega
                    have HF := Lib.hid hf
                    clear hf
                    have np : 0 < n := by omega
                    have lx : 0 < xs.length := by have := HL.out; omega
                    obtain ⟨ad, hA, hcx⟩ := HX.out 0 lx
                    have HH := Lib.hid (headT_at lx)
                    subst hA
                    replace hcx : w.cell? ad = some (.string xs[0]) := hcx
                    have hcx2 := alloc_cell hcx
                    clear c0
                    clear c1
                    clear c2
                    clear c3
                    clear c4
                    clear c5
                    go_wp2_with fail
                    refine (isDo86 _ _).mono ?_
                    rintro e w1 ⟨rfl, he1⟩
                    go_wp2_with fail
                    go_ret
                    exact ⟨ret_bool (by rw [HF.out, HH.out]), (Ext.new _ _).trans he1⟩
                  · have f0 : 0 ≤ a := by omega
                    have f1 : a ≤ 2 := by omega
                    have f2 : 0 ≤ b := by omega
                    have f3 : b ≤ 5 := by omega
                    have f4 : 2 ≤ (n : Int) := by omega
                    have f5 : ¬ (n : Int) ≤ 7 := by omega
                    have hf : isStepS ⟨op, a, b, xs⟩ many = false := by
                      rw [H.out]
                      simp [isM]
                      omega
                    have HF := Lib.hid hf
                    clear hf
                    clear c0
                    clear c1
                    clear c2
                    clear c3
                    clear c4
                    clear c5
                    go_wp2_with fail
                    go_ret
                    exact ⟨ret_bool HF.out.symm, Ext.new _ _⟩
                · have f0 : 0 ≤ a := by omega
                  have f1 : a ≤ 2 := by omega
                  have f2 : 0 ≤ b := by omega
                  have f3 : b ≤ 5 := by omega
                  have f4 : ¬ 2 ≤ (n : Int) := by omega
                  have hf : isStepS ⟨op, a, b, xs⟩ many = false := by
                    rw [H.out]
                    simp [isM]
                    omega
                  have HF := Lib.hid hf
                  clear hf
                  clear c0
                  clear c1
                  clear c2
                  clear c3
                  clear c4
                  go_wp2_with fail
                  go_ret
                  exact ⟨ret_bool HF.out.symm, Ext.new _ _⟩
              · have f0 : 0 ≤ a := by omega
                have f1 : a ≤ 2 := by omega
                have f2 : 0 ≤ b := by omega
                have f3 : ¬ b ≤ 5 := by omega
                have hf : isStepS ⟨op, a, b, xs⟩ many = false := by
                  rw [H.out]
                  simp [isM]
                  omega
                have HF := Lib.hid hf
                clear hf
                clear c0
                clear c1
                clear c2
                clear c3
                go_wp2_with fail
                go_ret
                exact ⟨ret_bool HF.out.symm, Ext.new _ _⟩
            · have f0 : 0 ≤ a := by omega
              have f1 : a ≤ 2 := by omega
              have f2 : ¬ 0 ≤ b := by omega
              have hf : isStepS ⟨op, a, b, xs⟩ many = false := by
                rw [H.out]
                simp [isM]
                omega
              have HF := Lib.hid hf
              clear hf
              clear c0
              clear c1
              clear c2
              go_wp2_with fail
              go_ret
              exact ⟨ret_bool HF.out.symm, Ext.new _ _⟩
          · have f0 : 0 ≤ a := by omega
            have f1 : ¬ a ≤ 2 := by omega
            have hf : isStepS ⟨op, a, b, xs⟩ many = false := by
              rw [H.out]
              simp [isM]
              omega
            have HF := Lib.hid hf
            clear hf
            clear c0
            clear c1
            go_wp2_with fail
            go_ret
            exact ⟨ret_bool HF.out.symm, Ext.new _ _⟩
        · have f0 : ¬ 0 ≤ a := by omega
          have hf : isStepS ⟨op, a, b, xs⟩ many = false := by
            rw [H.out]
            simp [isM]
            omega
          have HF := Lib.hid hf
          clear hf
          clear c0
          go_wp2_with fail
          go_ret
          exact ⟨ret_bool HF.out.symm, Ext.new _ _⟩
      · have hv : verbS op = (⟨(verbS 3).1.name, 118, 0, 1, 1⟩, true) := by rw [h3]; rfl
        have hs : special ⟨op, a, b, xs⟩ = true := by rw [h3]; rfl
        have hf := isStepS_at (a := a) (b := b) (many := many) hv HL.out HT.out
        rw [hs] at hf
        have H := Lib.hid hf
        clear hf hs hv
        have q1 : (op == 1) = false := by rw [h3]; rfl
        have q2 : (op == 2) = false := by rw [h3]; rfl
        have q3 : (op == 3) = true := by rw [h3]; rfl
        clear h3
        by_cases c0 : 0 ≤ a ∧ a ≤ 5
        · by_cases c1 : b = 0
          · by_cases c2 : n = 1
            · have QV := qV.out.trans (decide_eq_true c0)
              have f1 : (b == 0) = true := by rw [c1]; rfl
              have f2 : ((n : Int) == 1) = true := by rw [c2]; rfl
              have hf : isStepS ⟨op, a, b, xs⟩ many = true := by
                rw [H.out]
                simp [isM]
                omega
              have HF := Lib.hid hf
              clear hf
              have C0 := Lib.hid c0
              clear c0
              have C1 := Lib.hid c1
              clear c1
              have C2 := Lib.hid c2
              clear c2
              go_wp2_with fail
              go_ret
              exact ⟨ret_bool HF.out.symm, Ext.new _ _⟩
            · have QV := qV.out.trans (decide_eq_true c0)
              have f1 : (b == 0) = true := by rw [c1]; rfl
              have f2 : ((n : Int) == 1) = false := by exact beq_no (by omega)
              have hf : isStepS ⟨op, a, b, xs⟩ many = false := by
                rw [H.out]
                simp [isM]
                omega
              have HF := Lib.hid hf
              clear hf
              have C0 := Lib.hid c0
              clear c0
              have C1 := Lib.hid c1
              clear c1
              have C2 := Lib.hid c2
              clear c2
              go_wp2_with fail
              go_ret
              exact ⟨ret_bool HF.out.symm, Ext.new _ _⟩
          · have QV := qV.out.trans (decide_eq_true c0)
            have f1 : (b == 0) = false := by exact beq_no c1
            have hf : isStepS ⟨op, a, b, xs⟩ many = false := by
              rw [H.out]
              simp [isM]
              omega
            have HF := Lib.hid hf
            clear hf
            have C0 := Lib.hid c0
            clear c0
            have C1 := Lib.hid c1
            clear c1
            go_wp2_with fail
            go_ret
            exact ⟨ret_bool HF.out.symm, Ext.new _ _⟩
        · have QV := qV.out.trans (decide_eq_false c0)
          have hf : isStepS ⟨op, a, b, xs⟩ many = false := by
            rw [H.out]
            simp [isM]
            omega
          have HF := Lib.hid hf
          clear hf
          have C0 := Lib.hid c0
          clear c0
          go_wp2_with fail
          go_ret
          exact ⟨ret_bool HF.out.symm, Ext.new _ _⟩
      · have hv : verbS op = (⟨(verbS 4).1.name, 118, 110, 0, 0⟩, true) := by rw [h4]; rfl
        have hs : special ⟨op, a, b, xs⟩ = true := by rw [h4]; rfl
        have hf := isStepS_at (a := a) (b := b) (many := many) hv HL.out HT.out
        rw [hs] at hf
        have H := Lib.hid hf
        clear hf hs hv
        have q1 : (op == 1) = false := by rw [h4]; rfl
        have q2 : (op == 2) = false := by rw [h4]; rfl
        have q3 : (op == 3) = false := by rw [h4]; rfl
        have q4 : (op == 4) = true := by rw [h4]; rfl
        clear h4
        by_cases c0 : 0 ≤ a ∧ a ≤ 5
        · by_cases c1 : -9999 ≤ b
          · by_cases c2 : b ≤ 9999
            · by_cases c3 : n = 0
              · have QV := qV.out.trans (decide_eq_true c0)
                have f1 : -9999 ≤ b := by omega
                have f2 : b ≤ 9999 := by omega
                have f3 : ((n : Int) == 0) = true := by rw [c3]; rfl
                have hf : isStepS ⟨op, a, b, xs⟩ many = true := by
                  rw [H.out]
                  simp [isM]
                  omega
                have HF := Lib.hid hf
                clear hf
                have C0 := Lib.hid c0
                clear c0
                clear c1
                clear c2
                have C3 := Lib.hid c3
                clear c3
                go_wp2_with fail
                go_ret
                exact ⟨ret_bool HF.out.symm, Ext.new _ _⟩
              · have QV := qV.out.trans (decide_eq_true c0)
                have f1 : -9999 ≤ b := by omega
                have f2 : b ≤ 9999 := by omega
                have f3 : ((n : Int) == 0) = false := by exact beq_no (by omega)
                have hf : isStepS ⟨op, a, b, xs⟩ many = false := by
                  rw [H.out]
                  simp [isM]
                  omega
                have HF := Lib.hid hf
                clear hf
                have C0 := Lib.hid c0
                clear c0
                clear c1
                clear c2
                have C3 := Lib.hid c3
                clear c3
                go_wp2_with fail
                go_ret
                exact ⟨ret_bool HF.out.symm, Ext.new _ _⟩
            · have QV := qV.out.trans (decide_eq_true c0)
              have f1 : -9999 ≤ b := by omega
              have f2 : ¬ b ≤ 9999 := by omega
              have hf : isStepS ⟨op, a, b, xs⟩ many = false := by
                rw [H.out]
                simp [isM]
                omega
              have HF := Lib.hid hf
              clear hf
              have C0 := Lib.hid c0
              clear c0
              clear c1
              clear c2
              go_wp2_with fail
              go_ret
              exact ⟨ret_bool HF.out.symm, Ext.new _ _⟩
          · have QV := qV.out.trans (decide_eq_true c0)
            have f1 : ¬ -9999 ≤ b := by omega
            have hf : isStepS ⟨op, a, b, xs⟩ many = false := by
              rw [H.out]
              simp [isM]
              omega
            have HF := Lib.hid hf
            clear hf
            have C0 := Lib.hid c0
            clear c0
            clear c1
            go_wp2_with fail
            go_ret
            exact ⟨ret_bool HF.out.symm, Ext.new _ _⟩
        · have QV := qV.out.trans (decide_eq_false c0)
          have hf : isStepS ⟨op, a, b, xs⟩ many = false := by
            rw [H.out]
            simp [isM]
            omega
          have HF := Lib.hid hf
          clear hf
          have C0 := Lib.hid c0
          clear c0
          go_wp2_with fail
          go_ret
          exact ⟨ret_bool HF.out.symm, Ext.new _ _⟩
      · have hv : verbS op = (⟨(verbS 5).1.name, 0, 112, 1, 1⟩, true) := by rw [h5]; rfl
        have hs : special ⟨op, a, b, xs⟩ = ((headT xs).size == 2) := by rw [h5]; rfl
        have hf := isStepS_at (a := a) (b := b) (many := many) hv HL.out HT.out
        rw [hs] at hf
        have H := Lib.hid hf
        clear hf hs hv
        have q1 : (op == 1) = false := by rw [h5]; rfl
        have q2 : (op == 2) = false := by rw [h5]; rfl
        have q3 : (op == 3) = false := by rw [h5]; rfl
        have q4 : (op == 4) = false := by rw [h5]; rfl
        have q5 : (op == 5) = true := by rw [h5]; rfl
        clear h5
        by_cases c0 : a = 0
        · by_cases c1 : 0 ≤ b ∧ b < many
          · by_cases c2 : n = 1
            · have f0 : (a == 0) = true := by rw [c0]; rfl
              have QP := qP.out.trans (decide_eq_true c1)
              have f2 : ((n : Int) == 1) = true := by rw [c2]; rfl
              have hf : isStepS ⟨op, a, b, xs⟩ many = ((headT xs).size == 2) := by
                rw [H.out]
                simp [isM]
                omega
              have HF := Lib.hid hf
              clear hf
              have np : 0 < n := by omega
              have lx : 0 < xs.length := by have := HL.out; omega
              obtain ⟨ad, hA, hcx⟩ := HX.out 0 lx
              have HH := Lib.hid (headT_at lx)
              subst hA
              replace hcx : w.cell? ad = some (.string xs[0]) := hcx
              have hcx2 := alloc_cell hcx
              have C0 := Lib.hid c0
              clear c0
              have C1 := Lib.hid c1
              clear c1
              have C2 := Lib.hid c2
              clear c2
              go_wp2_with fail
              go_ret
              refine ⟨ret_bool ?_, Ext.new _ _⟩
              rw [HF.out, HH.out, Bool.eq_iff_iff, beq_iff_eq, beq_iff_eq]
              omega
            · have f0 : (a == 0) = true := by rw [c0]; rfl
              have QP := qP.out.trans (decide_eq_true c1)
              have f2 : ((n : Int) == 1) = false := by exact beq_no (by omega)
              have hf : isStepS ⟨op, a, b, xs⟩ many = false := by
                rw [H.out]
                simp [isM]
                omega
              have HF := Lib.hid hf
              clear hf
              have C0 := Lib.hid c0
              clear c0
              have C1 := Lib.hid c1
              clear c1
              have C2 := Lib.hid c2
              clear c2
              go_wp2_with fail
              go_ret
              exact ⟨ret_bool HF.out.symm, Ext.new _ _⟩
          · have f0 : (a == 0) = true := by rw [c0]; rfl
            have QP := qP.out.trans (decide_eq_false c1)
            have hf : isStepS ⟨op, a, b, xs⟩ many = false := by
              rw [H.out]
              simp [isM]
              omega
            have HF := Lib.hid hf
            clear hf
            have C0 := Lib.hid c0
            clear c0
            have C1 := Lib.hid c1
            clear c1
            go_wp2_with fail
            go_ret
            exact ⟨ret_bool HF.out.symm, Ext.new _ _⟩
        · have f0 : (a == 0) = false := by exact beq_no c0
          have hf : isStepS ⟨op, a, b, xs⟩ many = false := by
            rw [H.out]
            simp [isM]
            omega
          have HF := Lib.hid hf
          clear hf
          have C0 := Lib.hid c0
          clear c0
          go_wp2_with fail
          go_ret
          exact ⟨ret_bool HF.out.symm, Ext.new _ _⟩
      · have hv : verbS op = (⟨(verbS 6).1.name, 118, 112, 1, 1⟩, true) := by rw [h6]; rfl
        have hs : special ⟨op, a, b, xs⟩ = true := by rw [h6]; rfl
        have hf := isStepS_at (a := a) (b := b) (many := many) hv HL.out HT.out
        rw [hs] at hf
        have H := Lib.hid hf
        clear hf hs hv
        have q1 : (op == 1) = false := by rw [h6]; rfl
        have q2 : (op == 2) = false := by rw [h6]; rfl
        have q3 : (op == 3) = false := by rw [h6]; rfl
        have q4 : (op == 4) = false := by rw [h6]; rfl
        have q5 : (op == 5) = false := by rw [h6]; rfl
        have q6 : (op == 6) = true := by rw [h6]; rfl
        clear h6
        by_cases c0 : 0 ≤ a ∧ a ≤ 5
        · by_cases c1 : 0 ≤ b ∧ b < many
          · by_cases c2 : n = 1
            · have QV := qV.out.trans (decide_eq_true c0)
              have QP := qP.out.trans (decide_eq_true c1)
              have f2 : ((n : Int) == 1) = true := by rw [c2]; rfl
              have hf : isStepS ⟨op, a, b, xs⟩ many = true := by
                rw [H.out]
                simp [isM]
                omega
              have HF := Lib.hid hf
              clear hf
              have C0 := Lib.hid c0
              clear c0
              have C1 := Lib.hid c1
              clear c1
              have C2 := Lib.hid c2
              clear c2
              go_wp2_with fail
              go_ret
              exact ⟨ret_bool HF.out.symm, Ext.new _ _⟩
            · have QV := qV.out.trans (decide_eq_true c0)
              have QP := qP.out.trans (decide_eq_true c1)
              have f2 : ((n : Int) == 1) = false := by exact beq_no (by omega)
              have hf : isStepS ⟨op, a, b, xs⟩ many = false := by
                rw [H.out]
                simp [isM]
                omega
              have HF := Lib.hid hf
              clear hf
              have C0 := Lib.hid c0
              clear c0
              have C1 := Lib.hid c1
              clear c1
              have C2 := Lib.hid c2
              clear c2
              go_wp2_with fail
              go_ret
              exact ⟨ret_bool HF.out.symm, Ext.new _ _⟩
          · have QV := qV.out.trans (decide_eq_true c0)
            have QP := qP.out.trans (decide_eq_false c1)
            have hf : isStepS ⟨op, a, b, xs⟩ many = false := by
              rw [H.out]
              simp [isM]
              omega
            have HF := Lib.hid hf
            clear hf
            have C0 := Lib.hid c0
            clear c0
            have C1 := Lib.hid c1
            clear c1
            go_wp2_with fail
            go_ret
            exact ⟨ret_bool HF.out.symm, Ext.new _ _⟩
        · have QV := qV.out.trans (decide_eq_false c0)
          have hf : isStepS ⟨op, a, b, xs⟩ many = false := by
            rw [H.out]
            simp [isM]
            omega
          have HF := Lib.hid hf
          clear hf
          have C0 := Lib.hid c0
          clear c0
          go_wp2_with fail
          go_ret
          exact ⟨ret_bool HF.out.symm, Ext.new _ _⟩
      · have hv : verbS op = (⟨(verbS 7).1.name, 0, 112, 0, 0⟩, true) := by rw [h7]; rfl
        have hs : special ⟨op, a, b, xs⟩ = true := by rw [h7]; rfl
        have hf := isStepS_at (a := a) (b := b) (many := many) hv HL.out HT.out
        rw [hs] at hf
        have H := Lib.hid hf
        clear hf hs hv
        have q1 : (op == 1) = false := by rw [h7]; rfl
        have q2 : (op == 2) = false := by rw [h7]; rfl
        have q3 : (op == 3) = false := by rw [h7]; rfl
        have q4 : (op == 4) = false := by rw [h7]; rfl
        have q5 : (op == 5) = false := by rw [h7]; rfl
        have q6 : (op == 6) = false := by rw [h7]; rfl
        have q7 : (op == 7) = true := by rw [h7]; rfl
        clear h7
        by_cases c0 : a = 0
        · by_cases c1 : 0 ≤ b ∧ b < many
          · by_cases c2 : n = 0
            · have f0 : (a == 0) = true := by rw [c0]; rfl
              have QP := qP.out.trans (decide_eq_true c1)
              have f2 : ((n : Int) == 0) = true := by rw [c2]; rfl
              have hf : isStepS ⟨op, a, b, xs⟩ many = true := by
                rw [H.out]
                simp [isM]
                omega
              have HF := Lib.hid hf
              clear hf
              have C0 := Lib.hid c0
              clear c0
              have C1 := Lib.hid c1
              clear c1
              have C2 := Lib.hid c2
              clear c2
              go_wp2_with fail
              go_ret
              exact ⟨ret_bool HF.out.symm, Ext.new _ _⟩
            · have f0 : (a == 0) = true := by rw [c0]; rfl
              have QP := qP.out.trans (decide_eq_true c1)
              have f2 : ((n : Int) == 0) = false := by exact beq_no (by omega)
              have hf : isStepS ⟨op, a, b, xs⟩ many = false := by
                rw [H.out]
                simp [isM]
                omega
              have HF := Lib.hid hf
              clear hf
              have C0 := Lib.hid c0
              clear c0
              have C1 := Lib.hid c1
              clear c1
              have C2 := Lib.hid c2
              clear c2
              go_wp2_with fail
              go_ret
              exact ⟨ret_bool HF.out.symm, Ext.new _ _⟩
          · have f0 : (a == 0) = true := by rw [c0]; rfl
            have QP := qP.out.trans (decide_eq_false c1)
            have hf : isStepS ⟨op, a, b, xs⟩ many = false := by
              rw [H.out]
              simp [isM]
              omega
            have HF := Lib.hid hf
            clear hf
            have C0 := Lib.hid c0
            clear c0
            have C1 := Lib.hid c1
            clear c1
            go_wp2_with fail
            go_ret
            exact ⟨ret_bool HF.out.symm, Ext.new _ _⟩
        · have f0 : (a == 0) = false := by exact beq_no c0
          have hf : isStepS ⟨op, a, b, xs⟩ many = false := by
            rw [H.out]
            simp [isM]
            omega
          have HF := Lib.hid hf
          clear hf
          have C0 := Lib.hid c0
          clear c0
          go_wp2_with fail
          go_ret
          exact ⟨ret_bool HF.out.symm, Ext.new _ _⟩
      · have hv : verbS op = (⟨(verbS 8).1.name, 0, 0, 1, 1⟩, true) := by rw [h8]; rfl
        have hs : special ⟨op, a, b, xs⟩ = true := by rw [h8]; rfl
        have hf := isStepS_at (a := a) (b := b) (many := many) hv HL.out HT.out
        rw [hs] at hf
        have H := Lib.hid hf
        clear hf hs hv
        have q1 : (op == 1) = false := by rw [h8]; rfl
        have q2 : (op == 2) = false := by rw [h8]; rfl
        have q3 : (op == 3) = false := by rw [h8]; rfl
        have q4 : (op == 4) = false := by rw [h8]; rfl
        have q5 : (op == 5) = false := by rw [h8]; rfl
        have q6 : (op == 6) = false := by rw [h8]; rfl
        have q7 : (op == 7) = false := by rw [h8]; rfl
        have q8 : (op == 8) = true := by rw [h8]; rfl
        clear h8
        by_cases c0 : a = 0
        · by_cases c1 : b = 0
          · by_cases c2 : n = 1
            · have f0 : (a == 0) = true := by rw [c0]; rfl
              have f1 : (b == 0) = true := by rw [c1]; rfl
              have f2 : ((n : Int) == 1) = true := by rw [c2]; rfl
              have hf : isStepS ⟨op, a, b, xs⟩ many = true := by
                rw [H.out]
                simp [isM]
                omega
              have HF := Lib.hid hf
              clear hf
              have C0 := Lib.hid c0
              clear c0
              have C1 := Lib.hid c1
              clear c1
              have C2 := Lib.hid c2
              clear c2
              go_wp2_with fail
              go_ret
              exact ⟨ret_bool HF.out.symm, Ext.new _ _⟩
            · have f0 : (a == 0) = true := by rw [c0]; rfl
              have f1 : (b == 0) = true := by rw [c1]; rfl
              have f2 : ((n : Int) == 1) = false := by exact beq_no (by omega)
              have hf : isStepS ⟨op, a, b, xs⟩ many = false := by
                rw [H.out]
                simp [isM]
                omega
              have HF := Lib.hid hf
              clear hf
              have C0 := Lib.hid c0
              clear c0
              have C1 := Lib.hid c1
              clear c1
              have C2 := Lib.hid c2
              clear c2
              go_wp2_with fail
              go_ret
              exact ⟨ret_bool HF.out.symm, Ext.new _ _⟩
          · have f0 : (a == 0) = true := by rw [c0]; rfl
            have f1 : (b == 0) = false := by exact beq_no c1
            have hf : isStepS ⟨op, a, b, xs⟩ many = false := by
              rw [H.out]
              simp [isM]
              omega
            have HF := Lib.hid hf
            clear hf
            have C0 := Lib.hid c0
            clear c0
            have C1 := Lib.hid c1
            clear c1
            go_wp2_with fail
            go_ret
            exact ⟨ret_bool HF.out.symm, Ext.new _ _⟩
        · have f0 : (a == 0) = false := by exact beq_no c0
          have hf : isStepS ⟨op, a, b, xs⟩ many = false := by
            rw [H.out]
            simp [isM]
            omega
          have HF := Lib.hid hf
          clear hf
          have C0 := Lib.hid c0
          clear c0
          go_wp2_with fail
          go_ret
          exact ⟨ret_bool HF.out.symm, Ext.new _ _⟩
      · have hv : verbS op = (⟨(verbS 9).1.name, 0, 0, 2, 2⟩, true) := by rw [h9]; rfl
        have hs : special ⟨op, a, b, xs⟩ = isNameS (headT xs) := by rw [h9]; rfl
        have hf := isStepS_at (a := a) (b := b) (many := many) hv HL.out HT.out
        rw [hs] at hf
        have H := Lib.hid hf
        clear hf hs hv
        have q1 : (op == 1) = false := by rw [h9]; rfl
        have q2 : (op == 2) = false := by rw [h9]; rfl
        have q3 : (op == 3) = false := by rw [h9]; rfl
        have q4 : (op == 4) = false := by rw [h9]; rfl
        have q5 : (op == 5) = false := by rw [h9]; rfl
        have q6 : (op == 6) = false := by rw [h9]; rfl
        have q7 : (op == 7) = false := by rw [h9]; rfl
        have q8 : (op == 8) = false := by rw [h9]; rfl
        have q9 : (op == 9) = true := by rw [h9]; rfl
        clear h9
        by_cases c0 : a = 0
        · by_cases c1 : b = 0
          · by_cases c2 : n = 2
            · have f0 : (a == 0) = true := by rw [c0]; rfl
              have f1 : (b == 0) = true := by rw [c1]; rfl
              have f2 : ((n : Int) == 2) = true := by rw [c2]; rfl
              have hf : isStepS ⟨op, a, b, xs⟩ many = isNameS (headT xs) := by
                rw [H.out]
                simp [isM]
                omega
              have HF := Lib.hid hf
              clear hf
              have np : 0 < n := by omega
              have lx : 0 < xs.length := by have := HL.out; omega
              obtain ⟨ad, hA, hcx⟩ := HX.out 0 lx
              have HH := Lib.hid (headT_at lx)
              subst hA
              replace hcx : w.cell? ad = some (.string xs[0]) := hcx
              have hcx2 := alloc_cell hcx
              have C0 := Lib.hid c0
              clear c0
              have C1 := Lib.hid c1
              clear c1
              have C2 := Lib.hid c2
              clear c2
              go_wp2_with fail
              refine (isName56 _ _ (le_max (HB.out.at_ 0 lx))).mono ?_
              rintro e w1 ⟨rfl, rfl⟩
              go_wp2_with fail
              go_ret
              exact ⟨ret_bool (by rw [HF.out, HH.out]), Ext.new _ _⟩
            · have f0 : (a == 0) = true := by rw [c0]; rfl
              have f1 : (b == 0) = true := by rw [c1]; rfl
              have f2 : ((n : Int) == 2) = false := by exact beq_no (by omega)
              have hf : isStepS ⟨op, a, b, xs⟩ many = false := by
                rw [H.out]
                simp [isM]
                omega
              have HF := Lib.hid hf
              clear hf
              have C0 := Lib.hid c0
              clear c0
              have C1 := Lib.hid c1
              clear c1
              have C2 := Lib.hid c2
              clear c2
              go_wp2_with fail
              go_ret
              exact ⟨ret_bool HF.out.symm, Ext.new _ _⟩
          · have f0 : (a == 0) = true := by rw [c0]; rfl
            have f1 : (b == 0) = false := by exact beq_no c1
            have hf : isStepS ⟨op, a, b, xs⟩ many = false := by
              rw [H.out]
              simp [isM]
              omega
            have HF := Lib.hid hf
            clear hf
            have C0 := Lib.hid c0
            clear c0
            have C1 := Lib.hid c1
            clear c1
            go_wp2_with fail
            go_ret
            exact ⟨ret_bool HF.out.symm, Ext.new _ _⟩
        · have f0 : (a == 0) = false := by exact beq_no c0
          have hf : isStepS ⟨op, a, b, xs⟩ many = false := by
            rw [H.out]
            simp [isM]
            omega
          have HF := Lib.hid hf
          clear hf
          have C0 := Lib.hid c0
          clear c0
          go_wp2_with fail
          go_ret
          exact ⟨ret_bool HF.out.symm, Ext.new _ _⟩
      · have hv : verbS op = (⟨(verbS 10).1.name, 0, 0, 1, 1⟩, true) := by rw [h10]; rfl
        have hs : special ⟨op, a, b, xs⟩ = true := by rw [h10]; rfl
        have hf := isStepS_at (a := a) (b := b) (many := many) hv HL.out HT.out
        rw [hs] at hf
        have H := Lib.hid hf
        clear hf hs hv
        have q1 : (op == 1) = false := by rw [h10]; rfl
        have q2 : (op == 2) = false := by rw [h10]; rfl
        have q3 : (op == 3) = false := by rw [h10]; rfl
        have q4 : (op == 4) = false := by rw [h10]; rfl
        have q5 : (op == 5) = false := by rw [h10]; rfl
        have q6 : (op == 6) = false := by rw [h10]; rfl
        have q7 : (op == 7) = false := by rw [h10]; rfl
        have q8 : (op == 8) = false := by rw [h10]; rfl
        have q9 : (op == 9) = false := by rw [h10]; rfl
        have q10 : (op == 10) = true := by rw [h10]; rfl
        clear h10
        by_cases c0 : a = 0
        · by_cases c1 : b = 0
          · by_cases c2 : n = 1
            · have f0 : (a == 0) = true := by rw [c0]; rfl
              have f1 : (b == 0) = true := by rw [c1]; rfl
              have f2 : ((n : Int) == 1) = true := by rw [c2]; rfl
              have hf : isStepS ⟨op, a, b, xs⟩ many = true := by
                rw [H.out]
                simp [isM]
                omega
              have HF := Lib.hid hf
              clear hf
              have C0 := Lib.hid c0
              clear c0
              have C1 := Lib.hid c1
              clear c1
              have C2 := Lib.hid c2
              clear c2
              go_wp2_with fail
              go_ret
              exact ⟨ret_bool HF.out.symm, Ext.new _ _⟩
            · have f0 : (a == 0) = true := by rw [c0]; rfl
              have f1 : (b == 0) = true := by rw [c1]; rfl
              have f2 : ((n : Int) == 1) = false := by exact beq_no (by omega)
              have hf : isStepS ⟨op, a, b, xs⟩ many = false := by
                rw [H.out]
                simp [isM]
                omega
              have HF := Lib.hid hf
              clear hf
              have C0 := Lib.hid c0
              clear c0
              have C1 := Lib.hid c1
              clear c1
              have C2 := Lib.hid c2
              clear c2
              go_wp2_with fail
              go_ret
              exact ⟨ret_bool HF.out.symm, Ext.new _ _⟩
          · have f0 : (a == 0) = true := by rw [c0]; rfl
            have f1 : (b == 0) = false := by exact beq_no c1
            have hf : isStepS ⟨op, a, b, xs⟩ many = false := by
              rw [H.out]
              simp [isM]
              omega
            have HF := Lib.hid hf
            clear hf
            have C0 := Lib.hid c0
            clear c0
            have C1 := Lib.hid c1
            clear c1
            go_wp2_with fail
            go_ret
            exact ⟨ret_bool HF.out.symm, Ext.new _ _⟩
        · have f0 : (a == 0) = false := by exact beq_no c0
          have hf : isStepS ⟨op, a, b, xs⟩ many = false := by
            rw [H.out]
            simp [isM]
            omega
          have HF := Lib.hid hf
          clear hf
          have C0 := Lib.hid c0
          clear c0
          go_wp2_with fail
          go_ret
          exact ⟨ret_bool HF.out.symm, Ext.new _ _⟩
      · have hv : verbS op = (⟨(verbS 11).1.name, 0, 0, 0, 0⟩, true) := by rw [h11]; rfl
        have hs : special ⟨op, a, b, xs⟩ = true := by rw [h11]; rfl
        have hf := isStepS_at (a := a) (b := b) (many := many) hv HL.out HT.out
        rw [hs] at hf
        have H := Lib.hid hf
        clear hf hs hv
        have q1 : (op == 1) = false := by rw [h11]; rfl
        have q2 : (op == 2) = false := by rw [h11]; rfl
        have q3 : (op == 3) = false := by rw [h11]; rfl
        have q4 : (op == 4) = false := by rw [h11]; rfl
        have q5 : (op == 5) = false := by rw [h11]; rfl
        have q6 : (op == 6) = false := by rw [h11]; rfl
        have q7 : (op == 7) = false := by rw [h11]; rfl
        have q8 : (op == 8) = false := by rw [h11]; rfl
        have q9 : (op == 9) = false := by rw [h11]; rfl
        have q10 : (op == 10) = false := by rw [h11]; rfl
        have q11 : (op == 11) = true := by rw [h11]; rfl
        clear h11
        by_cases c0 : a = 0
        · by_cases c1 : b = 0
          · by_cases c2 : n = 0
            · have f0 : (a == 0) = true := by rw [c0]; rfl
              have f1 : (b == 0) = true := by rw [c1]; rfl
              have f2 : ((n : Int) == 0) = true := by rw [c2]; rfl
              have hf : isStepS ⟨op, a, b, xs⟩ many = true := by
                rw [H.out]
                simp [isM]
                omega
              have HF := Lib.hid hf
              clear hf
              have C0 := Lib.hid c0
              clear c0
              have C1 := Lib.hid c1
              clear c1
              have C2 := Lib.hid c2
              clear c2
              go_wp2_with fail
              go_ret
              exact ⟨ret_bool HF.out.symm, Ext.new _ _⟩
            · have f0 : (a == 0) = true := by rw [c0]; rfl
              have f1 : (b == 0) = true := by rw [c1]; rfl
              have f2 : ((n : Int) == 0) = false := by exact beq_no (by omega)
              have hf : isStepS ⟨op, a, b, xs⟩ many = false := by
                rw [H.out]
                simp [isM]
                omega
              have HF := Lib.hid hf
              clear hf
              have C0 := Lib.hid c0
              clear c0
              have C1 := Lib.hid c1
              clear c1
              have C2 := Lib.hid c2
              clear c2
              go_wp2_with fail
              go_ret
              exact ⟨ret_bool HF.out.symm, Ext.new _ _⟩
          · have f0 : (a == 0) = true := by rw [c0]; rfl
            have f1 : (b == 0) = false := by exact beq_no c1
            have hf : isStepS ⟨op, a, b, xs⟩ many = false := by
              rw [H.out]
              simp [isM]
              omega
            have HF := Lib.hid hf
            clear hf
            have C0 := Lib.hid c0
            clear c0
            have C1 := Lib.hid c1
            clear c1
            go_wp2_with fail
            go_ret
            exact ⟨ret_bool HF.out.symm, Ext.new _ _⟩
        · have f0 : (a == 0) = false := by exact beq_no c0
          have hf : isStepS ⟨op, a, b, xs⟩ many = false := by
            rw [H.out]
            simp [isM]
            omega
          have HF := Lib.hid hf
          clear hf
          have C0 := Lib.hid c0
          clear c0
          go_wp2_with fail
          go_ret
          exact ⟨ret_bool HF.out.symm, Ext.new _ _⟩
      · have hv : verbS op = (⟨(verbS 12).1.name, 0, 0, 0, 0⟩, true) := by rw [h12]; rfl
        have hs : special ⟨op, a, b, xs⟩ = true := by rw [h12]; rfl
        have hf := isStepS_at (a := a) (b := b) (many := many) hv HL.out HT.out
        rw [hs] at hf
        have H := Lib.hid hf
        clear hf hs hv
        have q1 : (op == 1) = false := by rw [h12]; rfl
        have q2 : (op == 2) = false := by rw [h12]; rfl
        have q3 : (op == 3) = false := by rw [h12]; rfl
        have q4 : (op == 4) = false := by rw [h12]; rfl
        have q5 : (op == 5) = false := by rw [h12]; rfl
        have q6 : (op == 6) = false := by rw [h12]; rfl
        have q7 : (op == 7) = false := by rw [h12]; rfl
        have q8 : (op == 8) = false := by rw [h12]; rfl
        have q9 : (op == 9) = false := by rw [h12]; rfl
        have q10 : (op == 10) = false := by rw [h12]; rfl
        have q11 : (op == 11) = false := by rw [h12]; rfl
        have q12 : (op == 12) = true := by rw [h12]; rfl
        clear h12
        by_cases c0 : a = 0
        · by_cases c1 : b = 0
          · by_cases c2 : n = 0
            · have f0 : (a == 0) = true := by rw [c0]; rfl
              have f1 : (b == 0) = true := by rw [c1]; rfl
              have f2 : ((n : Int) == 0) = true := by rw [c2]; rfl
              have hf : isStepS ⟨op, a, b, xs⟩ many = true := by
                rw [H.out]
                simp [isM]
                omega
              have HF := Lib.hid hf
              clear hf
              have C0 := Lib.hid c0
              clear c0
              have C1 := Lib.hid c1
              clear c1
              have C2 := Lib.hid c2
              clear c2
              go_wp2_with fail
              go_ret
              exact ⟨ret_bool HF.out.symm, Ext.new _ _⟩
            · have f0 : (a == 0) = true := by rw [c0]; rfl
              have f1 : (b == 0) = true := by rw [c1]; rfl
              have f2 : ((n : Int) == 0) = false := by exact beq_no (by omega)
              have hf : isStepS ⟨op, a, b, xs⟩ many = false := by
                rw [H.out]
                simp [isM]
                omega
              have HF := Lib.hid hf
              clear hf
              have C0 := Lib.hid c0
              clear c0
              have C1 := Lib.hid c1
              clear c1
              have C2 := Lib.hid c2
              clear c2
              go_wp2_with fail
              go_ret
              exact ⟨ret_bool HF.out.symm, Ext.new _ _⟩
          · have f0 : (a == 0) = true := by rw [c0]; rfl
            have f1 : (b == 0) = false := by exact beq_no c1
            have hf : isStepS ⟨op, a, b, xs⟩ many = false := by
              rw [H.out]
              simp [isM]
              omega
            have HF := Lib.hid hf
            clear hf
            have C0 := Lib.hid c0
            clear c0
            have C1 := Lib.hid c1
            clear c1
            go_wp2_with fail
            go_ret
            exact ⟨ret_bool HF.out.symm, Ext.new _ _⟩
        · have f0 : (a == 0) = false := by exact beq_no c0
          have hf : isStepS ⟨op, a, b, xs⟩ many = false := by
            rw [H.out]
            simp [isM]
            omega
          have HF := Lib.hid hf
          clear hf
          have C0 := Lib.hid c0
          clear c0
          go_wp2_with fail
          go_ret
          exact ⟨ret_bool HF.out.symm, Ext.new _ _⟩
      · have hv : verbS op = (⟨(verbS 13).1.name, 0, 0, 0, 0⟩, true) := by rw [h13]; rfl
        have hs : special ⟨op, a, b, xs⟩ = true := by rw [h13]; rfl
        have hf := isStepS_at (a := a) (b := b) (many := many) hv HL.out HT.out
        rw [hs] at hf
        have H := Lib.hid hf
        clear hf hs hv
        have q1 : (op == 1) = false := by rw [h13]; rfl
        have q2 : (op == 2) = false := by rw [h13]; rfl
        have q3 : (op == 3) = false := by rw [h13]; rfl
        have q4 : (op == 4) = false := by rw [h13]; rfl
        have q5 : (op == 5) = false := by rw [h13]; rfl
        have q6 : (op == 6) = false := by rw [h13]; rfl
        have q7 : (op == 7) = false := by rw [h13]; rfl
        have q8 : (op == 8) = false := by rw [h13]; rfl
        have q9 : (op == 9) = false := by rw [h13]; rfl
        have q10 : (op == 10) = false := by rw [h13]; rfl
        have q11 : (op == 11) = false := by rw [h13]; rfl
        have q12 : (op == 12) = false := by rw [h13]; rfl
        have q13 : (op == 13) = true := by rw [h13]; rfl
        clear h13
        by_cases c0 : a = 0
        · by_cases c1 : b = 0
          · by_cases c2 : n = 0
            · have f0 : (a == 0) = true := by rw [c0]; rfl
              have f1 : (b == 0) = true := by rw [c1]; rfl
              have f2 : ((n : Int) == 0) = true := by rw [c2]; rfl
              have hf : isStepS ⟨op, a, b, xs⟩ many = true := by
                rw [H.out]
                simp [isM]
                omega
              have HF := Lib.hid hf
              clear hf
              have C0 := Lib.hid c0
              clear c0
              have C1 := Lib.hid c1
              clear c1
              have C2 := Lib.hid c2
              clear c2
              go_wp2_with fail
              go_ret
              exact ⟨ret_bool HF.out.symm, Ext.new _ _⟩
            · have f0 : (a == 0) = true := by rw [c0]; rfl
              have f1 : (b == 0) = true := by rw [c1]; rfl
              have f2 : ((n : Int) == 0) = false := by exact beq_no (by omega)
              have hf : isStepS ⟨op, a, b, xs⟩ many = false := by
                rw [H.out]
                simp [isM]
                omega
              have HF := Lib.hid hf
              clear hf
              have C0 := Lib.hid c0
              clear c0
              have C1 := Lib.hid c1
              clear c1
              have C2 := Lib.hid c2
              clear c2
              go_wp2_with fail
              go_ret
              exact ⟨ret_bool HF.out.symm, Ext.new _ _⟩
          · have f0 : (a == 0) = true := by rw [c0]; rfl
            have f1 : (b == 0) = false := by exact beq_no c1
            have hf : isStepS ⟨op, a, b, xs⟩ many = false := by
              rw [H.out]
              simp [isM]
              omega
            have HF := Lib.hid hf
            clear hf
            have C0 := Lib.hid c0
            clear c0
            have C1 := Lib.hid c1
            clear c1
            go_wp2_with fail
            go_ret
            exact ⟨ret_bool HF.out.symm, Ext.new _ _⟩
        · have f0 : (a == 0) = false := by exact beq_no c0
          have hf : isStepS ⟨op, a, b, xs⟩ many = false := by
            rw [H.out]
            simp [isM]
            omega
          have HF := Lib.hid hf
          clear hf
          have C0 := Lib.hid c0
          clear c0
          go_wp2_with fail
          go_ret
          exact ⟨ret_bool HF.out.symm, Ext.new _ _⟩
end Go.Proofs.YtkdbajpdcadliaaGreatDoor.Pg
