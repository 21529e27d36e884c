/- Walks: Cut, word, SameInts. -/
import Derived.Test.YtkdbajpdcadliaaGreatDoorBas
set_option linter.unusedVariables false
namespace Go.Proofs.YtkdbajpdcadliaaGreatDoor.Pg
open Go.RowKit

set_option maxHeartbeats 1000000 in
theorem cut64 (s : ByteArray) (c : UInt8) (w : World) (hs : (s.size : Int) ≤ 1000000000) :
    Calls Tryz.prog 64 #[.string s, .int .u8 (c.toNat : Int)] w fun e w' => ∃ v, e = .returned v ∧ Own w' w.heap.size v (splitS c s) ∧ Ext w w' := by
  go_enter Tryz.func64, Tryz.ntmps64
  go_wp2
  go_loopw [5, 6, 7] (fun v f i wr => ∃ (k from_ : Nat) (done : List ByteArray), k ≤ s.size ∧ from_ ≤ k ∧ i = .int .i64 k ∧ f = .int .i64 from_ ∧ (done.length : Int) ≤ from_ ∧
      Hid (done ++ (splitL c (s.data.toList.drop from_)).map mkB = splitS c s) ∧ Hid (∀ j (h : j < s.size), from_ ≤ j → j < k → s[j] ≠ c) ∧ Own wr w.heap.size v done ∧ Hid (Ext w wr)) (fun _ _ i _ => s.size - (intOf i).toNat)
  case atStart => exact ⟨0, 0, [], Nat.zero_le _, Nat.le_refl _, rfl, rfl, by simp, by unfold splitS; rfl, fun j _ h1 h2 => absurd h2 (by omega), Own.none_ _ _, Ext.refl _⟩
  case round =>
    obtain ⟨k, from_, done, hk, hfk, rfl, rfl, hdl, hsp, hno, hown, he⟩ := hrel
    by_cases hlt : k < s.size
    · by_cases hc : s[k] = c
      · have hq : ((s[k].toNat : Int) == (c.toNat : Int)) = true := by rw [hc]; simp
        have HC := Lib.hid hc
        clear hc
        have HO := Lib.hid hown
        clear hown
        have hd2 : (done.length : Int) ≤ 1000000000000 := by omega
        go_wp2_with (at_builtin; refine app_str w.heap.size rfl (.tmp 19) (.tmp 24) rfl _ done _ rfl rfl HO.out he.out.size hd2 ?_; intro v1 w1 hown1 hb1 hs1)
        go_roundw
        case rel =>
          refine ⟨k + 1, k + 1, done ++ [s.extract from_ k], by omega, Nat.le_refl _, by go_num, by go_num, by simp; omega, ?_, fun j hj h1 h2 => absurd h2 (by omega), hown1, Below.trans he.out hb1⟩
          have := hsp.out
          rw [splitL_step s from_ k hlt hfk hno.out HC.out] at this
          rw [← this, List.append_assoc]
          exact congrArg (done ++ ·) (by rw [List.map_cons, mkB_of]; rfl)
        case measure => simp [intOf]; omega
      · have hq : ((s[k].toNat : Int) == (c.toNat : Int)) = false := by
          rw [beq_eq_false_iff_ne]; intro e; exact hc (UInt8.toNat_inj.1 (by exact_mod_cast e))
        have HC := Lib.hid hc
        clear hc
        have HO := Lib.hid hown
        clear hown
        go_wp2_with fail
        go_roundw
        case rel =>
          refine ⟨k + 1, from_, done, by omega, by omega, by go_num, rfl, hdl, hsp, fun j hj h1 h2 => ?_, HO.out, he⟩
          by_cases e : j < k
          · exact hno.out j hj h1 e
          · have : j = k := by omega
            subst this; exact HC.out
        case measure => simp [intOf]; omega
    · have HO := Lib.hid hown
      clear hown
      have hd2 : (done.length : Int) ≤ 1000000000000 := by omega
      go_wp2_with (at_builtin; refine app_str w.heap.size rfl (.tmp 28) (.tmp 32) rfl _ done _ rfl rfl HO.out he.out.size hd2 ?_; intro v1 w1 hown1 hb1 hs1)
      go_ret
      refine ⟨v1, rfl, ?_, Below.trans he.out hb1⟩
      have := hsp.out
      rw [splitL_last s from_ (fun j hj h1 => hno.out j hj h1 (by omega)), List.map_cons, mkB_of, List.map_nil] at this
      rw [← this]
      exact hown1

theorem lib_index_one (c : UInt8) : ∀ l : List UInt8, (Lib.index l [c] = -1 ∧ cutB c l = (l, [], false)) ∨ (∃ k : Nat, Lib.index l [c] = k ∧ cutB c l = (l.take k, l.drop (k + 1), true))
  | [] => .inl ⟨rfl, rfl⟩
  | b :: l => by
    by_cases hb : b = c
    · subst hb
      exact .inr ⟨0, by simp [Lib.index], by simp [cutB]⟩
    · have hb' : c ≠ b := fun e => hb e.symm
      rcases lib_index_one c l with ⟨h1, h2⟩ | ⟨k, h1, h2⟩
      · exact .inl ⟨by simp [Lib.index, hb', h1], by simp [cutB, hb, h2]⟩
      · refine .inr ⟨k + 1, ?_, by simp [cutB, hb, h2]⟩
        have : ((k : Int) == -1) = false := by rw [beq_eq_false_iff_ne]; omega
        simp [Lib.index, hb', h1]
theorem lib_cut_one (c : UInt8) (l : List UInt8) : Lib.cut l [c] = cutB c l := by
  unfold Lib.cut
  rcases lib_index_one c l with ⟨h1, h2⟩ | ⟨k, h1, h2⟩
  · rw [h1, h2, if_neg (by omega)]
  · rw [h1, h2, if_pos (by omega)]
    simp

set_option maxHeartbeats 1000000 in
theorem word99 (s : ByteArray) (w : World) (hs : s.size ≤ maxLen) :
    Calls Tryz.prog 99 #[.string s] w fun e w' => e = .returned (.tuple #[.string (wordS s).1, .string (wordS s).2]) ∧ Ext w w' := by
  unfold maxLen at hs
  go_enter Tryz.func99, Tryz.ntmps99
  go_wp2
  go_loop [4] (fun i => ∃ k : Nat, k ≤ s.size ∧ i = .int .i64 k ∧ Hid (∀ j (h : j < s.size), j < k → s[j] ≠ 32)) (fun i => s.size - (intOf i).toNat)
  case atStart => exact ⟨0, Nat.zero_le _, rfl, fun j h hj => absurd hj (by omega)⟩
  case round =>
    obtain ⟨k, hk, rfl, hall⟩ := hrel
    by_cases hlt : k < s.size
    · by_cases hc : s[k] = 32
      · have hq : ((s[k].toNat : Int) == 32) = true := by rw [hc]; decide
        have hf : cutB 32 s.data.toList = (s.data.toList.take k, s.data.toList.drop (k + 1), true) :=
          cutB_at k (by simpa using hlt) (fun j hj hjk => hall.out j (by simpa using hj) hjk) hc
        have H : Hid (wordS s = (s.extract 0 k, s.extract (k + 1) s.size)) := by
          unfold wordS
          rw [hf, ← extract_upto, ← extract_from, mkB_of, mkB_of]
          rfl
        clear hf hc
        go_wp2
        go_quiet (fail)
        go_wp2
        go_ret2
        exact ⟨by rw [H.out]; rfl, (Ext.refl w).drewN _⟩
      · have hq : ((s[k].toNat : Int) == 32) = false := by
          rw [beq_eq_false_iff_ne]; intro e; exact hc (UInt8.toNat_inj.1 (by exact_mod_cast e))
        have HC := Lib.hid hc
        clear hc
        go_wp2
        go_round
        case rel =>
          refine ⟨k + 1, by omega, by go_num, fun j h hj => ?_⟩
          by_cases e : j < k
          · exact hall.out j h e
          · have : j = k := by omega
            subst this; exact HC.out
        case measure => simp [intOf]; omega
    · have hf : cutB 32 s.data.toList = (s.data.toList, [], false) := cutB_none fun x hx => by
        obtain ⟨i, hi, rfl⟩ := List.getElem_of_mem hx
        exact hall.out i (by simpa using hi) (by simp at hi; omega)
      have H : Hid (wordS s = (s, ⟨#[]⟩)) := by
        unfold wordS
        rw [hf, mkB_of]
        rfl
      clear hf
      go_wp2
      go_ret2
      exact ⟨by rw [H.out]; rfl, Ext.refl _⟩
end Go.Proofs.YtkdbajpdcadliaaGreatDoor.Pg
