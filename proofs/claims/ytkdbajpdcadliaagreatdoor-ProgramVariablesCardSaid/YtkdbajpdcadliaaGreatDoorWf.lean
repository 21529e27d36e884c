/- Walks: numbers out of digits, of both sides. -/
import Derived.Test.YtkdbajpdcadliaaGreatDoorBas
import Derived.Laws.RangeString
import Derived.Laws.RangeAny
set_option linter.unusedVariables false
namespace Go.Proofs.YtkdbajpdcadliaaGreatDoor.Pg
open Go.RowKit

theorem digOk_iff {c : UInt8} : digOk c = true ↔ (48 ≤ (c.toNat : Int) ∧ (c.toNat : Int) ≤ 57) := by
  unfold digOk; simp; omega
theorem digOk_no {c : UInt8} (h : ¬ digOk c = true) : (c.toNat : Int) < 48 ∨ 57 < (c.toNat : Int) := by
  rw [digOk_iff] at h; omega
theorem Ext.iter (w : World) (s : ByteArray) (p : Nat) : Ext w (w.iter s p) :=
  (Ext.refl w).alloc (Nat.le_refl _) _

set_option maxHeartbeats 1000000 in
theorem fromDigits119 (s : ByteArray) (w : World) (hs : s.size ≤ maxLen) :
    Calls Tryz.prog 119 #[.string s] w fun e w' => e = .returned (.tuple #[.int .i64 (fdS s).1, .int .i64 (fdS s).2]) ∧ Ext w w' := by
  unfold maxLen at hs
  by_cases hz : 1 ≤ s.size ∧ s.size ≤ 9
  · obtain ⟨hz1, hz9⟩ := hz
    go_enter Tryz.func119, Tryz.ntmps119
    go_wp2
    go_loop [4, 5] (fun n i => ∃ k : Nat, k ≤ s.size ∧ i = .int .i64 k ∧ n = .int .i64 (valL (s.data.toList.take k)) ∧ Hid (∀ j (h : j < s.size), j < k → digOk s[j] = true)) (fun _ i => s.size - (intOf i).toNat)
    case atStart => exact ⟨0, Nat.zero_le _, rfl, rfl, fun j h hj => absurd hj (by omega)⟩
    case round =>
      obtain ⟨k, hk, rfl, rfl, hall⟩ := hrel
      by_cases hlt : k < s.size
      · have hv0 := valL_lt s k (by omega) hall.out
        have hv : (valL (s.data.toList.take k) : Int) ≤ 99999999 := by
          have : 10 ^ k ≤ 10 ^ 8 := Nat.pow_le_pow_right (by omega) (by omega)
          have e : (10 : Nat) ^ 8 = 100000000 := by decide
          omega
        clear hv0
        by_cases hp : digOk s[k] = true
        · have hq := digOk_iff.1 hp
          have hsn := Lib.hid (valL_snoc s k hlt)
          obtain ⟨q1, q2⟩ := hq
          go_wp2
          go_round
          case rel =>
            refine ⟨k + 1, by omega, by go_num, by rw [hsn.out]; go_num, fun j h hj => ?_⟩
            by_cases e : j < k
            · exact hall.out j h e
            · have : j = k := by omega
              subst this; exact hp
          case measure => simp [intOf]; omega
        · have hf : fdOk s = false := by
            unfold fdOk; rw [allB_not k hlt (by simpa using hp), Bool.and_false]
          have H := Lib.hid (fdS_no hf)
          clear hf
          have hq := digOk_no hp
          rcases hq with hq | hq
          all_goals
            go_wp2
            go_ret2
            exact ⟨by rw [H.out]; rfl, Ext.refl _⟩
      · have hf : fdOk s = true := by
          unfold fdOk
          rw [allB_of (fun i hi => hall.out i hi (by omega))]
          simp; omega
        have hv : fdS s = ((valL (s.data.toList.take k) : Int), 0) := by
          rw [fdS_ok hf, List.take_of_length_le (by simp; omega)]
        have H := Lib.hid hv
        clear hf hv
        go_wp2
        go_ret2
        exact ⟨by rw [H.out]; rfl, Ext.refl _⟩
  · have hf : fdOk s = false := by
      unfold fdOk
      rcases Nat.lt_or_ge s.size 1 with h | h
      · rw [decide_eq_false (by omega), Bool.false_and, Bool.false_and]
      · rw [decide_eq_false (show ¬ s.size ≤ 9 by omega), Bool.and_false, Bool.false_and]
    have H := Lib.hid (fdS_no hf)
    clear hf
    go_enter Tryz.func119, Tryz.ntmps119
    go_wp2
    all_goals
      go_ret2
      exact ⟨by rw [H.out]; rfl, Ext.refl _⟩

set_option maxHeartbeats 1000000 in
theorem fromDigits81 (s : ByteArray) (w : World) (hs : s.size ≤ maxLen) :
    Calls Tryz.prog 81 #[.string s] w fun e w' => e = .returned (.tuple #[.int .i64 (fdS s).1, .int .i64 (fdS s).2]) ∧ Ext w w' := by
  unfold maxLen at hs
  by_cases hz : 1 ≤ s.size ∧ s.size ≤ 9
  · obtain ⟨hz1, hz9⟩ := hz
    go_enter Tryz.func81, Tryz.ntmps81
    go_wp2
    go_loopw [4] (fun n wr => ∃ k : Nat, k ≤ s.size ∧ wr = w.iter s k ∧ n = .int .i64 (valL (s.data.toList.take k)) ∧ Hid (∀ j (h : j < s.size), j < k → digOk s[j] = true)) (fun _ wr => s.size - wr.iterPos w.heap.size)
    case atStart => exact ⟨0, Nat.zero_le _, rfl, rfl, fun j h hj => absurd hj (by omega)⟩
    case round =>
      obtain ⟨k, hk, rfl, rfl, hall⟩ := hrel
      by_cases hlt : k < s.size
      · have hv0 := valL_lt s k (by omega) hall.out
        have hv : (valL (s.data.toList.take k) : Int) ≤ 99999999 := by
          have : 10 ^ k ≤ 10 ^ 8 := Nat.pow_le_pow_right (by omega) (by omega)
          have e : (10 : Nat) ^ 8 = 100000000 := by decide
          omega
        clear hv0
        by_cases hp : digOk s[k] = true
        · have hq := digOk_iff.1 hp
          have hsn := Lib.hid (valL_snoc s k hlt)
          obtain ⟨q1, q2⟩ := hq
          have ha : s[k].toNat < 128 := by omega
          have hnx : ∀ ty, (Instr.next (.pointer (some ⟨w.heap.size, 0, none⟩)) true ty).run Tryz.prog (w.iter s k) = _ := fun ty => run_next_ascii w s k ty hlt ha
          go_wp2
          go_roundw
          case rel =>
            refine ⟨k + 1, by omega, rfl, by rw [hsn.out]; go_num, fun j h hj => ?_⟩
            by_cases e : j < k
            · exact hall.out j h e
            · have : j = k := by omega
              subst this; exact hp
          case measure => simp; omega
        · have hf : fdOk s = false := by
            unfold fdOk; rw [allB_not k hlt (by simpa using hp), Bool.and_false]
          have H := Lib.hid (fdS_no hf)
          clear hf
          have hq := digOk_no hp
          by_cases ha : s[k].toNat < 128
          · have hnx : ∀ ty, (Instr.next (.pointer (some ⟨w.heap.size, 0, none⟩)) true ty).run Tryz.prog (w.iter s k) = _ := fun ty => run_next_ascii w s k ty hlt ha
            rcases hq with hq | hq
            all_goals
              go_wp2
              go_ret2
              exact ⟨by rw [H.out]; rfl, Ext.iter w s _⟩
          · have hnx : ∀ ty, (Instr.next (.pointer (some ⟨w.heap.size, 0, none⟩)) true ty).run Tryz.prog (w.iter s k) = _ := fun ty => run_next_any w s k ty hlt
            have hhi := (decode_high s k hlt (by omega)).1
            go_wp2
            go_ret2
            exact ⟨by rw [H.out]; rfl, Ext.iter w s _⟩
      · have hf : fdOk s = true := by
          unfold fdOk
          rw [allB_of (fun i hi => hall.out i hi (by omega))]
          simp; omega
        have hv : fdS s = ((valL (s.data.toList.take k) : Int), 0) := by
          rw [fdS_ok hf, List.take_of_length_le (by simp; omega)]
        have H := Lib.hid hv
        clear hf hv
        have hnx : ∀ ty, (Instr.next (.pointer (some ⟨w.heap.size, 0, none⟩)) true ty).run Tryz.prog (w.iter s k) = _ := fun ty => run_next_end w s k ty hlt
        go_wp2
        go_ret2
        exact ⟨by rw [H.out]; rfl, Ext.iter w s _⟩
  · have hf : fdOk s = false := by
      unfold fdOk
      rcases Nat.lt_or_ge s.size 1 with h | h
      · rw [decide_eq_false (by omega), Bool.false_and, Bool.false_and]
      · rw [decide_eq_false (show ¬ s.size ≤ 9 by omega), Bool.and_false, Bool.false_and]
    have H := Lib.hid (fdS_no hf)
    clear hf
    go_enter Tryz.func81, Tryz.ntmps81
    go_wp2
    all_goals
      go_ret2
      exact ⟨by rw [H.out]; rfl, Ext.refl _⟩

end Go.Proofs.YtkdbajpdcadliaaGreatDoor.Pg
