/- Walks: digits of a width, plain numbers, first words, both sides. -/
import Derived.Test.YtkdbajpdcadliaaGreatDoorWe
import Derived.Test.YtkdbajpdcadliaaGreatDoorWf
set_option linter.unusedVariables false
namespace Go.Proofs.YtkdbajpdcadliaaGreatDoor.Pg
open Go.RowKit

set_option maxHeartbeats 1000000 in
theorem cut84 (s : ByteArray) (n : Int) (w : World) (hs : s.size ≤ maxLen) (h0 : 0 ≤ n) (hn : n ≤ 1000) :
    Calls Tryz.prog 84 #[.string s, .int .i64 n] w fun e w' => e = .returned (.string (s.extract 0 n.toNat)) ∧ w = w' := by
  unfold maxLen at hs
  by_cases h : n < (s.size : Int)
  · go_enter Tryz.func84, Tryz.ntmps84
    go_wp2
    go_ret
    exact ⟨ret_str rfl, rfl⟩
  · go_enter Tryz.func84, Tryz.ntmps84
    go_wp2
    go_ret
    refine ⟨ret_str ?_, rfl⟩
    apply ext_list
    rw [extract_upto, List.take_of_length_le (by simp; omega)]

theorem natAbs_val (s : ByteArray) : (0 : Int) ≤ (fdS s).1 ∧ (fdS s).1 ≤ 1000000000 := by
  by_cases h : fdOk s = true
  · rw [fdS_ok h]
    unfold fdOk at h
    simp only [Bool.and_eq_true, decide_eq_true_eq] at h
    have hv := valL_lt s s.size (Nat.le_refl _) (fun j hj _ => allB_get h.2 j hj)
    rw [List.take_of_length_le (by simp)] at hv
    have : 10 ^ s.size ≤ 10 ^ 9 := Nat.pow_le_pow_right (by omega) h.1.2
    have e : (10 : Nat) ^ 9 = 1000000000 := by decide
    simp only
    omega
  · rw [fdS_no (by simpa using h)]; decide

set_option maxHeartbeats 1000000 in
theorem plain128 (s : ByteArray) (w : World) (hs : s.size ≤ maxLen) :
    Calls Tryz.prog 128 #[.string s] w fun e w' => e = .returned (.tuple #[.int .i64 (plainS s).1, .bool (plainS s).2]) ∧ Ext w w' := by
  obtain ⟨b1, b2⟩ := natAbs_val s
  by_cases h : fdOk s = true
  · have h2 : ((fdS s).2 != 0) = false := by rw [fdS_ok h]; rfl
    by_cases he : decS (fdS s).1 = s
    · have hf : plainS s = ((fdS s).1, true) := by unfold plainS; rw [if_pos ⟨h, he⟩]
      have H := Lib.hid hf
      have hne := str_eq he
      clear hf h
      have HE := Lib.hid he
      clear he
      go_enter Tryz.func128, Tryz.ntmps128
      go_wp2_with fail
      refine (fromDigits119 s _ hs).mono ?_
      rintro e w1 ⟨rfl, hb1⟩
      go_wp2_with fail
      refine (dec103 _ _ (by omega) (by omega)).mono ?_
      rintro e w2 ⟨rfl, rfl⟩
      go_wp2_with fail
      go_ret2
      exact ⟨by rw [H.out]; rfl, hb1⟩
    · have hf : plainS s = (0, false) := by unfold plainS; rw [if_neg (fun k => he k.2)]
      have H := Lib.hid hf
      have hne := str_ne he
      clear hf h
      have HE := Lib.hid he
      clear he
      go_enter Tryz.func128, Tryz.ntmps128
      go_wp2_with fail
      refine (fromDigits119 s _ hs).mono ?_
      rintro e w1 ⟨rfl, hb1⟩
      go_wp2_with fail
      refine (dec103 _ _ (by omega) (by omega)).mono ?_
      rintro e w2 ⟨rfl, rfl⟩
      go_wp2_with fail
      go_ret2
      exact ⟨by rw [H.out]; rfl, hb1⟩
  · have h2 : ((fdS s).2 != 0) = true := by rw [fdS_no (by simpa using h)]; rfl
    have hf : plainS s = (0, false) := by unfold plainS; rw [if_neg (fun k => h k.1)]
    have H := Lib.hid hf
    clear hf h
    go_enter Tryz.func128, Tryz.ntmps128
    go_wp2_with fail
    refine (fromDigits119 s _ hs).mono ?_
    rintro e w1 ⟨rfl, hb1⟩
    go_wp2_with fail
    go_ret2
    exact ⟨by rw [H.out]; rfl, hb1⟩

theorem plainS_bd (s : ByteArray) : (0 : Int) ≤ (plainS s).1 ∧ (plainS s).1 ≤ 1000000000 := by
  unfold plainS
  split
  · exact natAbs_val s
  · decide

theorem head_at (s : ByteArray) (h : 0 < s.size) : s.data.toList.head? = some s[0] := by
  rw [List.head?_eq_getElem?, List.getElem?_eq_getElem (by simpa using h)]
  rfl

set_option maxHeartbeats 1000000 in
theorem number100 (s : ByteArray) (w : World) (hs : s.size ≤ maxLen) :
    Calls Tryz.prog 100 #[.string s] w fun e w' => e = .returned (.int .i64 (numberS s)) ∧ Ext w w' := by
  obtain ⟨b1, b2⟩ := plainS_bd s
  obtain ⟨b3, b4⟩ := plainS_bd (s.extract 1 s.size)
  have hs2 : (s.extract 1 s.size).size ≤ maxLen := by simp; omega
  have HS := Lib.hid hs2
  clear hs2
  by_cases h : 1 < s.size
  · by_cases hd : ((s[0].toNat : Int) == 45) = true
    · have hf : numberS s = -(plainS (s.extract 1 s.size)).1 := by
        unfold numberS
        rw [if_pos ⟨h, by rw [head_at s (by omega)]; congr 1; apply UInt8.toNat_inj.1; have := beq_iff_eq.1 hd; exact_mod_cast this⟩]
      have H := Lib.hid hf
      clear hf
      go_enter Tryz.func100, Tryz.ntmps100
      go_wp2_with fail
      refine (plain128 _ _ HS.out).mono ?_
      rintro e w1 ⟨rfl, hb1⟩
      go_wp2_with fail
      go_ret
      exact ⟨ret_int (by rw [H.out]), hb1⟩
    · have hd : ((s[0].toNat : Int) == 45) = false := by simpa using hd
      have hf : numberS s = (plainS s).1 := by
        unfold numberS
        rw [if_neg]
        rintro ⟨_, h2⟩
        rw [head_at s (by omega)] at h2
        have := Option.some.inj h2
        rw [this] at hd
        exact absurd hd (by decide)
      have H := Lib.hid hf
      clear hf
      go_enter Tryz.func100, Tryz.ntmps100
      go_wp2_with fail
      refine (plain128 _ _ hs).mono ?_
      rintro e w1 ⟨rfl, hb1⟩
      go_wp2_with fail
      go_ret
      exact ⟨ret_int (by rw [H.out]), hb1⟩
  · have hf : numberS s = (plainS s).1 := by
      unfold numberS
      rw [if_neg (fun k => h k.1)]
    have H := Lib.hid hf
    clear hf
    go_enter Tryz.func100, Tryz.ntmps100
    go_wp2_with fail
    refine (plain128 _ _ hs).mono ?_
    rintro e w1 ⟨rfl, hb1⟩
    go_wp2_with fail
    go_ret
    exact ⟨ret_int (by rw [H.out]), hb1⟩
end Go.Proofs.YtkdbajpdcadliaaGreatDoor.Pg
