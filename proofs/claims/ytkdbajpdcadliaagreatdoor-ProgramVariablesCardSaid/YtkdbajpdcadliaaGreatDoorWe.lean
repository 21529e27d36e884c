/- Walks: numbers as texts. -/
import Derived.Test.YtkdbajpdcadliaaGreatDoorBas
import Derived.Test.YtkdbajpdcadliaaGreatDoorShelf
set_option linter.unusedVariables false
namespace Go.Proofs.YtkdbajpdcadliaaGreatDoor.Pg
open Go.RowKit

theorem decDigits_small (u : Nat) (h : u < 10) : Lib.decDigits u = [UInt8.ofNat (48 + u)] := by rw [Lib.decDigits, dif_pos h]
theorem decDigits_big (u : Nat) (h : ¬ u < 10) : Lib.decDigits u = Lib.decDigits (u / 10) ++ [UInt8.ofNat (48 + u % 10)] := by rw [Lib.decDigits, dif_neg h]
theorem encode_digit (u : Nat) (h : u < 10) : Utf8.encode (48 + (u : Int)) = mkB [UInt8.ofNat (48 + u)] := by
  have : u = 0 ∨ u = 1 ∨ u = 2 ∨ u = 3 ∨ u = 4 ∨ u = 5 ∨ u = 6 ∨ u = 7 ∨ u = 8 ∨ u = 9 := by omega
  rcases this with rfl | rfl | rfl | rfl | rfl | rfl | rfl | rfl | rfl | rfl <;> rfl
theorem decS_nat (u : Nat) : decS (u : Int) = mkB (Lib.decDigits u) := by
  unfold decS Lib.itoa
  rw [if_neg (by omega), Int.toNat_natCast]
theorem mkB_append (a b : List UInt8) : mkB a ++ mkB b = mkB (a ++ b) := by
  apply ext_list
  rw [mkB_toList]
  show ((mkB a).append (mkB b)).data.toList = _
  simp [mkB]

theorem decDigits_len (u : Nat) : (Lib.decDigits u).length ≤ u + 1 := by
  induction u using Nat.strongRecOn with
  | _ u ih =>
    by_cases h : u < 10
    · rw [decDigits_small u h]; simp
    · rw [decDigits_big u h, List.length_append]
      have := ih (u / 10) (by omega)
      simp only [List.length_cons, List.length_nil]
      omega
theorem decS_size (n : Int) : ((decS n).size : Int) ≤ n.natAbs + 2 := by
  unfold decS Lib.itoa
  rw [mkB_size]
  have h1 := decDigits_len n.natAbs
  have h2 := decDigits_len n.toNat
  split
  · rw [List.length_cons]; omega
  · omega
theorem encode_size (u : Nat) (h : u < 10) : (Utf8.encode (48 + (u : Int))).size = 1 := by rw [encode_digit u h]; rfl

theorem decS_negN (u : Nat) (h : 0 < u) : decS (-(u : Int)) = mkB (45 :: Lib.decDigits u) := by
  unfold decS Lib.itoa
  rw [if_pos (by omega)]
  congr 3
  omega
theorem decS_neg1 (u : Nat) (h : 0 < u) : decS (-(u : Int)) = (⟨#[45]⟩ : ByteArray) ++ decS (u : Int) := by
  rw [decS_negN u h, decS_nat]
  exact (mkB_append [45] _).symm
theorem decS_neg2 (u : Nat) (h : ¬ u < 10) : decS (-(u : Int)) = decS (-((u / 10 : Nat) : Int)) ++ decS ((u % 10 : Nat) : Int) := by
  rw [decS_negN u (by omega), decS_negN (u / 10) (by omega), decS_nat, mkB_append, decDigits_big u h, decDigits_small (u % 10) (by omega)]
  rfl

attribute [local irreducible] Utf8.encode

set_option maxHeartbeats 1000000 in
theorem dec_pos (u : Nat) : ∀ (w : World), (u : Int) ≤ 1000000000000 →
    Calls Tryz.prog 103 #[.int .i64 (u : Int)] w fun e w' => e = .returned (.string (decS (u : Int))) ∧ w = w' := by
  induction u using Nat.strongRecOn with
  | _ u ih =>
    intro w hu
    have IH := Lib.hid ih
    clear ih
    by_cases h1 : u < 10
    · have hd : decS (u : Int) = mkB [UInt8.ofNat (48 + u)] := by rw [decS_nat, decDigits_small u h1]
      have H := Lib.hid hd
      clear hd
      go_enter Tryz.func103, Tryz.ntmps103
      go_wp2_with fail
      go_ret
      exact ⟨ret_str (by rw [H.out]; exact encode_digit u h1), rfl⟩
    · have hd : decS (u : Int) = decS ((u / 10 : Nat) : Int) ++ mkB [UInt8.ofNat (48 + u % 10)] := by
        rw [decS_nat, decS_nat, decDigits_big u h1, mkB_append]
      have H := Lib.hid hd
      clear hd
      have hs1 : ((decS ((u : Int) / 10)).size : Int) ≤ 2000000000000 := by have := decS_size ((u : Int) / 10); omega
      have hs2 : ((Utf8.encode (48 + (u : Int) % 10)).size : Int) ≤ 1 := by
        have := encode_size (u % 10) (by omega)
        have e : (48 + ((u % 10 : Nat) : Int)) = 48 + (u : Int) % 10 := by omega
        rw [e] at this; omega
      go_enter Tryz.func103, Tryz.ntmps103
      go_wp2_with fail
      refine (IH.out (u / 10) (by omega) _ (by omega)).mono ?_
      rintro e w1 ⟨rfl, rfl⟩
      go_wp2_with fail
      go_ret
      refine ⟨ret_str ?_, rfl⟩
      rw [H.out, ← encode_digit (u % 10) (by omega)]
      rfl

set_option maxHeartbeats 1000000 in
theorem dec_neg (u : Nat) : ∀ (w : World), (u : Int) ≤ 1000000000000 → 0 < u →
    Calls Tryz.prog 103 #[.int .i64 (-(u : Int))] w fun e w' => e = .returned (.string (decS (-(u : Int)))) ∧ w = w' := by
  induction u using Nat.strongRecOn with
  | _ u ih =>
    intro w hu h0
    have IH := Lib.hid ih
    clear ih
    have hs0 : ((decS (u : Int)).size : Int) ≤ 2000000000000 := by have := decS_size (u : Int); omega
    by_cases h1 : u < 10
    · go_enter Tryz.func103, Tryz.ntmps103
      go_wp2_with fail
      refine (dec_pos u _ (by omega)).mono ?_
      rintro e w1 ⟨rfl, rfl⟩
      go_wp2_with fail
      go_ret
      exact ⟨ret_str (decS_neg1 u h0).symm, rfl⟩
    · have hs1 : ((decS (-((u : Int) / 10))).size : Int) ≤ 2000000000000 := by have := decS_size (-((u : Int) / 10)); omega
      have hs2 : ((decS ((u : Int) % 10)).size : Int) ≤ 2000000000000 := by have := decS_size ((u : Int) % 10); omega
      go_enter Tryz.func103, Tryz.ntmps103
      go_wp2_with fail
      refine (IH.out (u / 10) (by omega) _ (by omega) (by omega)).mono ?_
      rintro e w1 ⟨rfl, rfl⟩
      go_wp2_with fail
      refine (dec_pos (u % 10) _ (by omega)).mono ?_
      rintro e w1 ⟨rfl, rfl⟩
      go_wp2_with fail
      go_ret
      exact ⟨ret_str (decS_neg2 u h1).symm, rfl⟩
theorem dec103 (n : Int) (w : World) (h1 : -1000000000000 ≤ n) (h2 : n ≤ 1000000000000) :
    Calls Tryz.prog 103 #[.int .i64 n] w fun e w' => e = .returned (.string (decS n)) ∧ w = w' := by
  by_cases h : 0 ≤ n
  · obtain ⟨u, rfl⟩ := Int.eq_ofNat_of_zero_le h
    exact dec_pos u w h2
  · obtain ⟨u, hu⟩ := Int.eq_ofNat_of_zero_le (show 0 ≤ -n by omega)
    obtain rfl : n = -(u : Int) := by omega
    exact dec_neg u w (by omega) (by omega)
end Go.Proofs.YtkdbajpdcadliaaGreatDoor.Pg
