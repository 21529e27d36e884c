/- Walks: names, of both sides. -/
import Derived.Test.YtkdbajpdcadliaaGreatDoorBas
set_option linter.unusedVariables false
namespace Go.Proofs.YtkdbajpdcadliaaGreatDoor.Pg
open Go.RowKit

theorem nameOk_iff {k : Nat} {c : UInt8} : nameOk k c = true ↔ ((65 ≤ (c.toNat : Int) ∧ (c.toNat : Int) ≤ 90) ∨ (k ≠ 0 ∧ 48 ≤ (c.toNat : Int) ∧ (c.toNat : Int) ≤ 57)) := by
  unfold nameOk; simp; omega
theorem nameOk_no {k : Nat} {c : UInt8} (h : ¬ nameOk k c = true) : ¬ (65 ≤ (c.toNat : Int) ∧ (c.toNat : Int) ≤ 90) ∧ (k = 0 ∨ (c.toNat : Int) < 48 ∨ 57 < (c.toNat : Int)) := by
  rw [nameOk_iff] at h; omega

set_option maxHeartbeats 800000 in
theorem isName56 (s : ByteArray) (w : World) (hs : s.size ≤ maxLen) :
    Calls Tryz.prog 56 #[.string s] w fun e w' => e = .returned (.bool (isNameS s)) ∧ w = w' := by
  unfold maxLen at hs
  go_enter Tryz.func56, Tryz.ntmps56
  go_wp2
  go_loop [3] (fun i => ∃ k : Nat, k ≤ s.size ∧ i = .int .i64 k ∧ Hid (∀ j (h : j < s.size), j < k → nameOk j s[j] = true)) (fun i => s.size - (intOf i).toNat)
  case atStart => exact ⟨0, Nat.zero_le _, rfl, fun j h hj => absurd hj (by omega)⟩
  case round =>
    obtain ⟨k, hk, rfl, hall⟩ := hrel
    by_cases hlt : k < s.size
    · by_cases hp : nameOk k s[k] = true
      · have hq := nameOk_iff.1 hp
        have rel : ∃ k_1 : Nat, k_1 ≤ s.size ∧ Value.int IntKind.i64 (↑k + 1) = Value.int IntKind.i64 ↑k_1 ∧ Hid (∀ (j : Nat) (h : j < s.size), j < k_1 → nameOk j s[j] = true) := by
          refine ⟨k + 1, by omega, by go_num, fun j h hj => ?_⟩
          by_cases e : j < k
          · exact hall.out j h e
          · have : j = k := by omega
            subst this; exact hp
        have REL := Lib.hid rel
        clear rel
        rcases hq with ⟨q1, q2⟩ | ⟨q0, q1, q2⟩
        · go_wp2
          all_goals
            go_round
            case rel => exact REL.out
            case measure => simp [intOf]; omega
        · have q3 : ¬ (65 : Int) ≤ (s[k].toNat : Int) := by omega
          have q4 : ((k : Int) == 0) = false := by simp; omega
          go_wp2
          all_goals
            go_round
            case rel => exact REL.out
            case measure => simp [intOf]; omega
      · have hf : isNameS s = false := by
          unfold isNameS; rw [allI_not k hlt (by simpa using hp)]; rfl
        have H := Lib.hid hf
        clear hf
        have hq := nameOk_no hp
        have q4 : ((k : Int) == 0) = decide (k = 0) := by simp [Bool.beq_eq_decide_eq]
        by_cases q0 : k = 0
        all_goals
          first | rw [decide_eq_true q0] at q4 | rw [decide_eq_false q0] at q4
          by_cases q1 : (65 : Int) ≤ (s[k].toNat : Int)
        all_goals
          first | (have q2 : decide ((s[k].toNat : Int) ≤ 90) = false := decide_eq_false (by omega)) | (have q2 : True := trivial)
          have q5 : k = 0 ∨ ((s[k].toNat : Int) < 48 ∨ 57 < (s[k].toNat : Int)) := hq.2
          first | (replace q5 := q5.resolve_left q0) | (clear q5)
          have Q0 := Lib.hid q0
          clear q0 hp hq
          go_wp2
          all_goals
            go_ret
            exact ⟨ret_bool H.out.symm, rfl⟩
    · have hf : isNameS s = (decide ((1 : Int) ≤ (s.size : Int)) && decide ((s.size : Int) ≤ 8)) := by
        unfold isNameS
        rw [allI_of (fun i hi => hall.out i hi (by omega)), Bool.true_and]
        congr 1 <;> simp <;> omega
      by_cases hz : (1 : Int) ≤ (s.size : Int)
      · rw [decide_eq_true hz, Bool.true_and] at hf
        have H := Lib.hid hf
        clear hf
        go_wp2
        go_ret
        exact ⟨ret_bool H.out.symm, rfl⟩
      · rw [decide_eq_false hz, Bool.false_and] at hf
        have H := Lib.hid hf
        clear hf
        go_wp2
        go_ret
        exact ⟨ret_bool H.out.symm, rfl⟩

set_option maxHeartbeats 800000 in
theorem isName70 (s : ByteArray) (w : World) (hs : s.size ≤ maxLen) :
    Calls Tryz.prog 70 #[.string s] w fun e w' => e = .returned (.bool (isNameS s)) ∧ w = w' := by
  unfold maxLen at hs
  go_enter Tryz.func70, Tryz.ntmps70
  go_wp2
  go_loop [7] (fun i => ∃ k : Nat, k ≤ s.size ∧ i = .int .i64 k ∧ Hid (∀ j (h : j < s.size), j < k → nameOk j s[j] = true)) (fun i => s.size - (intOf i).toNat)
  case atStart => exact ⟨0, Nat.zero_le _, rfl, fun j h hj => absurd hj (by omega)⟩
  case round =>
    obtain ⟨k, hk, rfl, hall⟩ := hrel
    by_cases hlt : k < s.size
    · by_cases hp : nameOk k s[k] = true
      · have hq := nameOk_iff.1 hp
        have rel : ∃ k_1 : Nat, k_1 ≤ s.size ∧ Value.int IntKind.i64 (↑k + 1) = Value.int IntKind.i64 ↑k_1 ∧ Hid (∀ (j : Nat) (h : j < s.size), j < k_1 → nameOk j s[j] = true) := by
          refine ⟨k + 1, by omega, by go_num, fun j h hj => ?_⟩
          by_cases e : j < k
          · exact hall.out j h e
          · have : j = k := by omega
            subst this; exact hp
        have REL := Lib.hid rel
        clear rel
        rcases hq with ⟨q1, q2⟩ | ⟨q0, q1, q2⟩
        · go_wp2
          all_goals
            go_round
            case rel => exact REL.out
            case measure => simp [intOf]; omega
        · have q3 : ¬ (65 : Int) ≤ (s[k].toNat : Int) := by omega
          have q4 : ((k : Int) == 0) = false := by simp; omega
          go_wp2
          all_goals
            go_round
            case rel => exact REL.out
            case measure => simp [intOf]; omega
      · have hf : isNameS s = false := by
          unfold isNameS; rw [allI_not k hlt (by simpa using hp)]; rfl
        have H := Lib.hid hf
        clear hf
        have hq := nameOk_no hp
        have q4 : ((k : Int) == 0) = decide (k = 0) := by simp [Bool.beq_eq_decide_eq]
        by_cases q0 : k = 0
        all_goals
          first | rw [decide_eq_true q0] at q4 | rw [decide_eq_false q0] at q4
          by_cases q1 : (65 : Int) ≤ (s[k].toNat : Int)
        all_goals
          first | (have q2 : decide ((s[k].toNat : Int) ≤ 90) = false := decide_eq_false (by omega)) | (have q2 : True := trivial)
          have q5 : k = 0 ∨ ((s[k].toNat : Int) < 48 ∨ 57 < (s[k].toNat : Int)) := hq.2
          first | (replace q5 := q5.resolve_left q0) | (clear q5)
          have Q0 := Lib.hid q0
          clear q0 hp hq
          go_wp2
          all_goals
            go_ret
            exact ⟨ret_bool H.out.symm, rfl⟩
    · have hf : isNameS s = (decide ((1 : Int) ≤ (s.size : Int)) && decide ((s.size : Int) ≤ 8)) := by
        unfold isNameS
        rw [allI_of (fun i hi => hall.out i hi (by omega)), Bool.true_and]
        congr 1 <;> simp <;> omega
      by_cases hz : (1 : Int) ≤ (s.size : Int)
      · rw [decide_eq_true hz, Bool.true_and] at hf
        have H := Lib.hid hf
        clear hf
        go_wp2
        go_ret
        exact ⟨ret_bool H.out.symm, rfl⟩
      · rw [decide_eq_false hz, Bool.false_and] at hf
        have H := Lib.hid hf
        clear hf
        go_wp2
        go_ret
        exact ⟨ret_bool H.out.symm, rfl⟩

end Go.Proofs.YtkdbajpdcadliaaGreatDoor.Pg
