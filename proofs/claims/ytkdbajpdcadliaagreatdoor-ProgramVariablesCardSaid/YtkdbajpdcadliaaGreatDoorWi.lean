/- Walks: what a step must be. -/
import Derived.Test.YtkdbajpdcadliaaGreatDoorWa
import Derived.Test.YtkdbajpdcadliaaGreatDoorWc
import Derived.Test.YtkdbajpdcadliaaGreatDoorWd
set_option linter.unusedVariables false
namespace Go.Proofs.YtkdbajpdcadliaaGreatDoor.Pg
open Go.RowKit

theorem beq_no {a b : Int} (h : ¬ a = b) : (a == b) = false := by rw [beq_eq_false_iff_ne]; exact h

set_option maxHeartbeats 1000000 in
theorem is105 (what n steps : Int) (w : World) :
    Calls Tryz.prog 105 #[.int .u8 what, .int .i64 n, .int .i64 steps] w fun e w' => e = .returned (.bool (isM what n steps)) ∧ w = w' := by
  by_cases h1 : what = 118
  · subst h1
    go_enter Tryz.func105, Tryz.ntmps105
    go_wp2
    all_goals
      go_ret
      refine ⟨ret_bool ?_, rfl⟩
      first | (simp [isM, *]; done) | (simp [isM, *]; omega)
  by_cases h2 : what = 112
  · subst h2
    go_enter Tryz.func105, Tryz.ntmps105
    go_wp2
    all_goals
      go_ret
      refine ⟨ret_bool ?_, rfl⟩
      first | (simp [isM, *]; done) | (simp [isM, *]; omega)
  by_cases h3 : what = 119
  · subst h3
    go_enter Tryz.func105, Tryz.ntmps105
    go_wp2
    all_goals
      go_ret
      refine ⟨ret_bool ?_, rfl⟩
      first | (simp [isM, *]; done) | (simp [isM, *]; omega)
  by_cases h4 : what = 110
  · subst h4
    go_enter Tryz.func105, Tryz.ntmps105
    go_wp2
    all_goals
      go_ret
      refine ⟨ret_bool ?_, rfl⟩
      first | (simp [isM, *]; done) | (simp [isM, *]; omega)
  have hf : isM what n steps = (n == 0) := by simp only [isM, if_neg h1, if_neg h2, if_neg h3, if_neg h4]
  have H := Lib.hid hf
  have k1 := beq_no h1
  have k2 := beq_no h2
  have k3 := beq_no h3
  have k4 := beq_no h4
  clear h1 h2 h3 h4 hf
  go_enter Tryz.func105, Tryz.ntmps105
  go_wp2
  go_ret
  exact ⟨ret_bool H.out.symm, rfl⟩

def verbV (v : Verb) : Value := .agg #[.string (mkB v.name), .int .u8 v.a, .int .u8 v.b, .int .i64 v.few, .int .i64 v.all]

theorem verbs_cases (op : Int) : (¬ op = 1 ∧ ¬ op = 2 ∧ ¬ op = 3 ∧ ¬ op = 4 ∧ ¬ op = 5 ∧ ¬ op = 6 ∧ ¬ op = 7 ∧ ¬ op = 8 ∧ ¬ op = 9 ∧ ¬ op = 10 ∧ ¬ op = 11 ∧ ¬ op = 12 ∧ ¬ op = 13) ∨
    op = 1 ∨ op = 2 ∨ op = 3 ∨ op = 4 ∨ op = 5 ∨ op = 6 ∨ op = 7 ∨ op = 8 ∨ op = 9 ∨ op = 10 ∨ op = 11 ∨ op = 12 ∨ op = 13 := by omega
theorem verbS_none {op : Int} (hn : ¬ op = 1 ∧ ¬ op = 2 ∧ ¬ op = 3 ∧ ¬ op = 4 ∧ ¬ op = 5 ∧ ¬ op = 6 ∧ ¬ op = 7 ∧ ¬ op = 8 ∧ ¬ op = 9 ∧ ¬ op = 10 ∧ ¬ op = 11 ∧ ¬ op = 12 ∧ ¬ op = 13) :
    verbS op = (zeroVerb, false) := by
  obtain ⟨h1, h2, h3, h4, h5, h6, h7, h8, h9, h10, h11, h12, h13⟩ := hn
  simp only [verbS, if_neg h1, if_neg h2, if_neg h3, if_neg h4, if_neg h5, if_neg h6, if_neg h7, if_neg h8, if_neg h9, if_neg h10, if_neg h11, if_neg h12, if_neg h13]

set_option maxHeartbeats 2000000 in
theorem verbs93 (op : Int) (w : World) :
    Calls Tryz.prog 93 #[.int .i64 op] w fun e w' => e = .returned (.tuple #[verbV (verbS op).1, .bool (verbS op).2]) ∧ Ext w w' := by
  rcases verbs_cases op with hn | rfl | rfl | rfl | rfl | rfl | rfl | rfl | rfl | rfl | rfl | rfl | rfl | rfl
  · rw [verbS_none hn]
    obtain ⟨h1, h2, h3, h4, h5, h6, h7, h8, h9, h10, h11, h12, h13⟩ := hn
    replace h1 := beq_no h1
    replace h2 := beq_no h2
    replace h3 := beq_no h3
    replace h4 := beq_no h4
    replace h5 := beq_no h5
    replace h6 := beq_no h6
    replace h7 := beq_no h7
    replace h8 := beq_no h8
    replace h9 := beq_no h9
    replace h10 := beq_no h10
    replace h11 := beq_no h11
    replace h12 := beq_no h12
    replace h13 := beq_no h13
    go_enter Tryz.func93, Tryz.ntmps93
    go_wp2
    go_returns
    exact ⟨rfl, (Ext.refl w).alloc (Nat.le_refl _) _⟩
  all_goals
    go_enter Tryz.func93, Tryz.ntmps93
    go_wp2
    go_returns
    exact ⟨rfl, (Ext.refl w).alloc (Nat.le_refl _) _⟩
end Go.Proofs.YtkdbajpdcadliaaGreatDoor.Pg
