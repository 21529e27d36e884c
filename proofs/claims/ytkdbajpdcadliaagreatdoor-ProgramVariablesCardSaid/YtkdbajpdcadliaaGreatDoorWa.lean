/- Walks: isText of both sides. -/
import Derived.Test.YtkdbajpdcadliaaGreatDoorBas
set_option linter.unusedVariables false
namespace Go.Proofs.YtkdbajpdcadliaaGreatDoor.Pg
open Go.RowKit

theorem printable_iff {c : UInt8} : printable c = true ↔ (32 ≤ (c.toNat : Int) ∧ (c.toNat : Int) ≤ 126) := by
  unfold printable; simp; omega

set_option maxHeartbeats 400000 in
theorem isText85 (s : ByteArray) (w : World) (hs : s.size ≤ maxLen) :
    Calls Tryz.prog 85 #[.string s] w fun e w' => e = .returned (.bool (isTextS s)) ∧ w = w' := by
  unfold maxLen at hs
  go_enter Tryz.func85, Tryz.ntmps85
  go_wp2
  go_loop [3] (fun i => ∃ k : Nat, k ≤ s.size ∧ i = .int .i64 k ∧ Hid (∀ j (h : j < s.size), j < k → printable s[j] = true)) (fun i => s.size - (intOf i).toNat)
  case atStart => exact ⟨0, Nat.zero_le _, rfl, fun j h hj => absurd hj (by omega)⟩
  case round =>
    obtain ⟨k, hk, rfl, hall⟩ := hrel
    by_cases hlt : k < s.size
    · by_cases hp : printable s[k] = true
      · obtain ⟨h1, h2⟩ := printable_iff.1 hp
        go_wp2
        go_round
        case rel =>
          refine ⟨k + 1, by omega, by go_num, fun j h hj => ?_⟩
          by_cases e : j < k
          · exact hall.out j h e
          · have : j = k := by omega
            subst this; exact hp
        case measure => simp [intOf]; omega
      · have hf : isTextS s = false := by
          unfold isTextS; rw [allB_not k hlt (by simpa using hp)]; rfl
        have H := Lib.hid hf
        clear hf
        by_cases h1 : (s[k].toNat : Int) < 32
        · go_wp2
          go_ret
          exact ⟨ret_bool H.out.symm, rfl⟩
        · have h2 : 126 < (s[k].toNat : Int) := by
            rw [printable_iff] at hp; omega
          go_wp2
          go_ret
          exact ⟨ret_bool H.out.symm, rfl⟩
    · have hf : isTextS s = decide ((s.size : Int) ≤ 100) := by
        unfold isTextS
        rw [allB_of (fun i hi => hall.out i hi (by omega)), Bool.true_and]
        congr 1; simp; omega
      have H := Lib.hid hf
      clear hf
      go_wp2
      go_ret
      exact ⟨ret_bool H.out.symm, rfl⟩

set_option maxHeartbeats 400000 in
theorem isText107 (s : ByteArray) (w : World) (hs : s.size ≤ maxLen) :
    Calls Tryz.prog 107 #[.string s] w fun e w' => e = .returned (.bool (isTextS s)) ∧ Ext w w' := by
  unfold maxLen at hs
  obtain ⟨cap, W1, hrun, hcell, hext, hsz⟩ := bytes_of w s
  have HC := Lib.hid hcell
  clear hcell
  have HE := Lib.hid hext
  have HZ := Lib.hid hsz
  clear hext hsz
  go_enter Tryz.func107, Tryz.ntmps107
  go_wp2
  clear hrun
  go_loop [8] (fun i => ∃ k : Nat, k ≤ s.size ∧ i = .int .i64 k ∧ Hid (∀ j (h : j < s.size), j < k → printable s[j] = true)) (fun i => s.size - (intOf i).toNat)
  case atStart => exact ⟨0, Nat.zero_le _, rfl, fun j h hj => absurd hj (by omega)⟩
  case round =>
    obtain ⟨k, hk, rfl, hall⟩ := hrel
    by_cases hlt : k < s.size
    · have hc := HC.out k hlt
      by_cases hp : printable s[k] = true
      · obtain ⟨h1, h2⟩ := printable_iff.1 hp
        go_wp2
        go_round
        case rel =>
          refine ⟨k + 1, by omega, by go_num, fun j h hj => ?_⟩
          by_cases e : j < k
          · exact hall.out j h e
          · have : j = k := by omega
            subst this; exact hp
        case measure => simp [intOf]; omega
      · have hf : isTextS s = false := by
          unfold isTextS; rw [allB_not k hlt (by simpa using hp)]; rfl
        have H := Lib.hid hf
        clear hf
        by_cases h1 : (s[k].toNat : Int) < 32
        · go_wp2
          go_ret
          exact ⟨ret_bool H.out.symm, HE.out⟩
        · have h2 : 126 < (s[k].toNat : Int) := by
            rw [printable_iff] at hp; omega
          go_wp2
          go_ret
          exact ⟨ret_bool H.out.symm, HE.out⟩
    · have hf : isTextS s = decide ((s.size : Int) ≤ 100) := by
        unfold isTextS
        rw [allB_of (fun i hi => hall.out i hi (by omega)), Bool.true_and]
        congr 1; simp; omega
      have H := Lib.hid hf
      clear hf
      go_wp2
      go_ret
      exact ⟨ret_bool H.out.symm, HE.out⟩
end Go.Proofs.YtkdbajpdcadliaaGreatDoor.Pg
