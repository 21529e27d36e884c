/- Walks: isDo, isCall. · Walks: numbers as texts. · Walks: numbers out of digits, of both sides. · Walks: digits of a width, plain numbers, first words, both sides. -/
import Derived.Test.YtkdbajpdcadliaaGreatDoorBas
import Derived.Test.YtkdbajpdcadliaaGreatDoorShelf
import Derived.Laws.RangeString
import Derived.Laws.RangeAny
set_option linter.unusedVariables false
namespace Go.Proofs.YtkdbajpdcadliaaGreatDoor.Pg
open Go.RowKit

set_option maxHeartbeats 1000000 in
theorem isDo86 (s : ByteArray) (w : World) :
    Calls Tryz.prog 86 #[.string s] w fun e w' => e = .returned (.bool (isDoS s)) ∧ Ext w w' := by
  go_enter Tryz.func86, Tryz.ntmps86
  go_wp2
  go_rounds 10
  all_goals
    first
      | (have hf : isDoS s = true := by simp [isDoS, dosL, *])
      | (have hf : isDoS s = false := by simp [isDoS, dosL, *])
    go_ret
    exact ⟨ret_bool hf.symm, (Ext.refl w).alloc (Nat.le_refl _) _⟩

theorem contains_dos (s : ByteArray) : Lib.containsS (dosL.map mkB) s = isDoS s := by
  rw [Bool.eq_iff_iff, Lib.containsS_iff]
  unfold isDoS
  rw [List.any_eq_true, List.mem_map]
  constructor
  · rintro ⟨l, hl, rfl⟩
    exact ⟨l, hl, by rw [ByteArray.toList_eq]; simp [mkB]⟩
  · rintro ⟨l, hl, he⟩
    refine ⟨l, hl, ext_list ?_⟩
    rw [mkB_toList, ← ByteArray.toList_eq]
    exact beq_iff_eq.1 he

set_option maxHeartbeats 1000000 in
theorem isCall108 (s : ByteArray) (w : World) :
    Calls Tryz.prog 108 #[.string s] w fun e w' => e = .returned (.bool (isDoS s)) ∧ Ext w w' := by
  have hcd := contains_dos s
  have H := Lib.hid hcd
  clear hcd
  go_enter Tryz.func108, Tryz.ntmps108
  go_wp2_with fail
  refine (Tryz.slices_Contains_string w.heap.size 0 9 9 (dosL.map mkB) s _ (by decide) (by omega) ?_).mono ?_
  · intro j hj
    have hj : j < 9 := hj
    rw [Nat.zero_add, cell_of_row _ _ _ _ _ _ (heap_alloc_new w _)]
    have : j = 0 ∨ j = 1 ∨ j = 2 ∨ j = 3 ∨ j = 4 ∨ j = 5 ∨ j = 6 ∨ j = 7 ∨ j = 8 := by omega
    rcases this with rfl | rfl | rfl | rfl | rfl | rfl | rfl | rfl | rfl <;> rfl
  · rintro e w1 ⟨rfl, rfl⟩
    go_wp2_with fail
    go_ret
    exact ⟨ret_bool H.out, (Ext.refl w).alloc (Nat.le_refl _) _⟩
end Go.Proofs.YtkdbajpdcadliaaGreatDoor.Pg

set_option linter.unusedVariables false
namespace Go.Proofs.YtkdbajpdcadliaaGreatDoor.Pg
open Go.RowKit

theorem decDigits_small (u : Nat) (h : u < 10) : Lib.decDigits u = [UInt8.ofNat (48 + u)] := by rw [Lib.decDigits, dif_pos h]
theorem decDigits_big (u : Nat) (h : ¬ u < 10) : Lib.decDigits u = Lib.decDigits (u / 10) ++ [UInt8.ofNat (48 + u % 10)] := by rw [Lib.decDigits, dif_neg h]
theorem encode_digit (u : Nat) (h : u < 10) : Utf8.encode (48 + (u : Int)) = mkB [UInt8.ofNat (48 + u)] := by
  have : u = 0 ∨ u = 1 ∨ u = 2 ∨ u = 3 ∨ u = 4 ∨ u = 5 ∨ u = 6 ∨ u = 7 ∨ u = 8 ∨ u = 9 := by omega
  rcases this with rfl | rfl | rfl | rfl | rfl | rfl | rfl | rfl | rfl | rfl <;> rfl
theorem decS_nat (u : Nat) : decS (u : Int) = mkB (Lib.decDigits u) := by
  unfold decS Lib.itoa
  rw [if_neg (by omega), Int.toNat_natCast]
theorem mkB_append (a b : List UInt8) : mkB a ++ mkB b = mkB (a ++ b) := by
  apply ext_list
  rw [mkB_toList]
  show ((mkB a).append (mkB b)).data.toList = _
  simp [mkB]

theorem decDigits_len (u : Nat) : (Lib.decDigits u).length ≤ u + 1 := by
  induction u using Nat.strongRecOn with
  | _ u ih =>
    by_cases h : u < 10
    · rw [decDigits_small u h]; simp
    · rw [decDigits_big u h, List.length_append]
      have := ih (u / 10) (by omega)
      simp only [List.length_cons, List.length_nil]
      omega
theorem decS_size (n : Int) : ((decS n).size : Int) ≤ n.natAbs + 2 := by
  unfold decS Lib.itoa
  rw [mkB_size]
  have h1 := decDigits_len n.natAbs
  have h2 := decDigits_len n.toNat
  split
  · rw [List.length_cons]; omega
  · omega
theorem encode_size (u : Nat) (h : u < 10) : (Utf8.encode (48 + (u : Int))).size = 1 := by rw [encode_digit u h]; rfl

theorem decS_negN (u : Nat) (h : 0 < u) : decS (-(u : Int)) = mkB (45 :: Lib.decDigits u) := by
  unfold decS Lib.itoa
  rw [if_pos (by omega)]
  congr 3
  omega
theorem decS_neg1 (u : Nat) (h : 0 < u) : decS (-(u : Int)) = (⟨#[45]⟩ : ByteArray) ++ decS (u : Int) := by
  rw [decS_negN u h, decS_nat]
  exact (mkB_append [45] _).symm
theorem decS_neg2 (u : Nat) (h : ¬ u < 10) : decS (-(u : Int)) = decS (-((u / 10 : Nat) : Int)) ++ decS ((u % 10 : Nat) : Int) := by
  rw [decS_negN u (by omega), decS_negN (u / 10) (by omega), decS_nat, mkB_append, decDigits_big u h, decDigits_small (u % 10) (by omega)]
  rfl

attribute [local irreducible] Utf8.encode

set_option maxHeartbeats 1000000 in
theorem dec_pos (u : Nat) : ∀ (w : World), (u : Int) ≤ 1000000000000 →
    Calls Tryz.prog 103 #[.int .i64 (u : Int)] w fun e w' => e = .returned (.string (decS (u : Int))) ∧ w = w' := by
  induction u using Nat.strongRecOn with
  | _ u ih =>
    intro w hu
    have IH := Lib.hid ih
    clear ih
    by_cases h1 : u < 10
    · have hd : decS (u : Int) = mkB [UInt8.ofNat (48 + u)] := by rw [decS_nat, decDigits_small u h1]
      have H := Lib.hid hd
      clear hd
      go_enter Tryz.func103, Tryz.ntmps103
      go_wp2_with fail
      go_ret
      exact ⟨ret_str (by rw [H.out]; exact encode_digit u h1), rfl⟩
    · have hd : decS (u : Int) = decS ((u / 10 : Nat) : Int) ++ mkB [UInt8.ofNat (48 + u % 10)] := by
        rw [decS_nat, decS_nat, decDigits_big u h1, mkB_append]
      have H := Lib.hid hd
      clear hd
      have hs1 : ((decS ((u : Int) / 10)).size : Int) ≤ 2000000000000 := by have := decS_size ((u : Int) / 10); omega
      have hs2 : ((Utf8.encode (48 + (u : Int) % 10)).size : Int) ≤ 1 := by
        have := encode_size (u % 10) (by omega)
        have e : (48 + ((u % 10 : Nat) : Int)) = 48 + (u : Int) % 10 := by omega
        rw [e] at this; omega
      go_enter Tryz.func103, Tryz.ntmps103
      go_wp2_with fail
      refine (IH.out (u / 10) (by omega) _ (by omega)).mono ?_
      rintro e w1 ⟨rfl, rfl⟩
      go_wp2_with fail
      go_ret
      refine ⟨ret_str ?_, rfl⟩
      rw [H.out, ← encode_digit (u % 10) (by omega)]
      rfl

set_option maxHeartbeats 1000000 in
theorem dec_neg (u : Nat) : ∀ (w : World), (u : Int) ≤ 1000000000000 → 0 < u →
    Calls Tryz.prog 103 #[.int .i64 (-(u : Int))] w fun e w' => e = .returned (.string (decS (-(u : Int)))) ∧ w = w' := by
  induction u using Nat.strongRecOn with
  | _ u ih =>
    intro w hu h0
    have IH := Lib.hid ih
    clear ih
    have hs0 : ((decS (u : Int)).size : Int) ≤ 2000000000000 := by have := decS_size (u : Int); omega
    by_cases h1 : u < 10
    · go_enter Tryz.func103, Tryz.ntmps103
      go_wp2_with fail
      refine (dec_pos u _ (by omega)).mono ?_
      rintro e w1 ⟨rfl, rfl⟩
      go_wp2_with fail
      go_ret
      exact ⟨ret_str (decS_neg1 u h0).symm, rfl⟩
    · have hs1 : ((decS (-((u : Int) / 10))).size : Int) ≤ 2000000000000 := by have := decS_size (-((u : Int) / 10)); omega
      have hs2 : ((decS ((u : Int) % 10)).size : Int) ≤ 2000000000000 := by have := decS_size ((u : Int) % 10); omega
      go_enter Tryz.func103, Tryz.ntmps103
      go_wp2_with fail
      refine (IH.out (u / 10) (by omega) _ (by omega) (by omega)).mono ?_
      rintro e w1 ⟨rfl, rfl⟩
      go_wp2_with fail
      refine (dec_pos (u % 10) _ (by omega)).mono ?_
      rintro e w1 ⟨rfl, rfl⟩
      go_wp2_with fail
      go_ret
      exact ⟨ret_str (decS_neg2 u h1).symm, rfl⟩
theorem dec103 (n : Int) (w : World) (h1 : -1000000000000 ≤ n) (h2 : n ≤ 1000000000000) :
    Calls Tryz.prog 103 #[.int .i64 n] w fun e w' => e = .returned (.string (decS n)) ∧ w = w' := by
  by_cases h : 0 ≤ n
  · obtain ⟨u, rfl⟩ := Int.eq_ofNat_of_zero_le h
    exact dec_pos u w h2
  · obtain ⟨u, hu⟩ := Int.eq_ofNat_of_zero_le (show 0 ≤ -n by omega)
    obtain rfl : n = -(u : Int) := by omega
    exact dec_neg u w (by omega) (by omega)
end Go.Proofs.YtkdbajpdcadliaaGreatDoor.Pg

set_option linter.unusedVariables false
namespace Go.Proofs.YtkdbajpdcadliaaGreatDoor.Pg
open Go.RowKit

theorem digOk_iff {c : UInt8} : digOk c = true ↔ (48 ≤ (c.toNat : Int) ∧ (c.toNat : Int) ≤ 57) := by
  unfold digOk; simp; omega
theorem digOk_no {c : UInt8} (h : ¬ digOk c = true) : (c.toNat : Int) < 48 ∨ 57 < (c.toNat : Int) := by
  rw [digOk_iff] at h; omega
theorem Ext.iter (w : World) (s : ByteArray) (p : Nat) : Ext w (w.iter s p) :=
  (Ext.refl w).alloc (Nat.le_refl _) _

set_option maxHeartbeats 1000000 in
theorem fromDigits119 (s : ByteArray) (w : World) (hs : s.size ≤ maxLen) :
    Calls Tryz.prog 119 #[.string s] w fun e w' => e = .returned (.tuple #[.int .i64 (fdS s).1, .int .i64 (fdS s).2]) ∧ Ext w w' := by
  unfold maxLen at hs
  by_cases hz : 1 ≤ s.size ∧ s.size ≤ 9
  · obtain ⟨hz1, hz9⟩ := hz
    go_enter Tryz.func119, Tryz.ntmps119
    go_wp2
    go_loop [4, 5] (fun n i => ∃ k : Nat, k ≤ s.size ∧ i = .int .i64 k ∧ n = .int .i64 (valL (s.data.toList.take k)) ∧ Hid (∀ j (h : j < s.size), j < k → digOk s[j] = true)) (fun _ i => s.size - (intOf i).toNat)
    case atStart => exact ⟨0, Nat.zero_le _, rfl, rfl, fun j h hj => absurd hj (by omega)⟩
    case round =>
      obtain ⟨k, hk, rfl, rfl, hall⟩ := hrel
      by_cases hlt : k < s.size
      · have hv0 := valL_lt s k (by omega) hall.out
        have hv : (valL (s.data.toList.take k) : Int) ≤ 99999999 := by
          have : 10 ^ k ≤ 10 ^ 8 := Nat.pow_le_pow_right (by omega) (by omega)
          have e : (10 : Nat) ^ 8 = 100000000 := by decide
          omega
        clear hv0
        by_cases hp : digOk s[k] = true
        · have hq := digOk_iff.1 hp
          have hsn := Lib.hid (valL_snoc s k hlt)
          obtain ⟨q1, q2⟩ := hq
          go_wp2
          go_round
          case rel =>
            refine ⟨k + 1, by omega, by go_num, by rw [hsn.out]; go_num, fun j h hj => ?_⟩
            by_cases e : j < k
            · exact hall.out j h e
            · have : j = k := by omega
              subst this; exact hp
          case measure => simp [intOf]; omega
        · have hf : fdOk s = false := by
            unfold fdOk; rw [allB_not k hlt (by simpa using hp), Bool.and_false]
          have H := Lib.hid (fdS_no hf)
          clear hf
          have hq := digOk_no hp
          rcases hq with hq | hq
          all_goals
            go_wp2
            go_ret2
            exact ⟨by rw [H.out]; rfl, Ext.refl _⟩
      · have hf : fdOk s = true := by
          unfold fdOk
          rw [allB_of (fun i hi => hall.out i hi (by omega))]
          simp; omega
        have hv : fdS s = ((valL (s.data.toList.take k) : Int), 0) := by
          rw [fdS_ok hf, List.take_of_length_le (by simp; omega)]
        have H := Lib.hid hv
        clear hf hv
        go_wp2
        go_ret2
        exact ⟨by rw [H.out]; rfl, Ext.refl _⟩
  · have hf : fdOk s = false := by
      unfold fdOk
      rcases Nat.lt_or_ge s.size 1 with h | h
      · rw [decide_eq_false (by omega), Bool.false_and, Bool.false_and]
      · rw [decide_eq_false (show ¬ s.size ≤ 9 by omega), Bool.and_false, Bool.false_and]
    have H := Lib.hid (fdS_no hf)
    clear hf
    go_enter Tryz.func119, Tryz.ntmps119
    go_wp2
    all_goals
      go_ret2
      exact ⟨by rw [H.out]; rfl, Ext.refl _⟩

set_option maxHeartbeats 1000000 in
theorem fromDigits81 (s : ByteArray) (w : World) (hs : s.size ≤ maxLen) :
    Calls Tryz.prog 81 #[.string s] w fun e w' => e = .returned (.tuple #[.int .i64 (fdS s).1, .int .i64 (fdS s).2]) ∧ Ext w w' := by
  unfold maxLen at hs
  by_cases hz : 1 ≤ s.size ∧ s.size ≤ 9
  · obtain ⟨hz1, hz9⟩ := hz
    go_enter Tryz.func81, Tryz.ntmps81
    go_wp2
    go_loopw [4] (fun n wr => ∃ k : Nat, k ≤ s.size ∧ wr = w.iter s k ∧ n = .int .i64 (valL (s.data.toList.take k)) ∧ Hid (∀ j (h : j < s.size), j < k → digOk s[j] = true)) (fun _ wr => s.size - wr.iterPos w.heap.size)
    case atStart => exact ⟨0, Nat.zero_le _, rfl, rfl, fun j h hj => absurd hj (by omega)⟩
    case round =>
      obtain ⟨k, hk, rfl, rfl, hall⟩ := hrel
      by_cases hlt : k < s.size
      · have hv0 := valL_lt s k (by omega) hall.out
        have hv : (valL (s.data.toList.take k) : Int) ≤ 99999999 := by
          have : 10 ^ k ≤ 10 ^ 8 := Nat.pow_le_pow_right (by omega) (by omega)
          have e : (10 : Nat) ^ 8 = 100000000 := by decide
          omega
        clear hv0
        by_cases hp : digOk s[k] = true
        · have hq := digOk_iff.1 hp
          have hsn := Lib.hid (valL_snoc s k hlt)
          obtain ⟨q1, q2⟩ := hq
          have ha : s[k].toNat < 128 := by omega
          have hnx : ∀ ty, (Instr.next (.pointer (some ⟨w.heap.size, 0, none⟩)) true ty).run Tryz.prog (w.iter s k) = _ := fun ty => run_next_ascii w s k ty hlt ha
          go_wp2
          go_roundw
          case rel =>
            refine ⟨k + 1, by omega, rfl, by rw [hsn.out]; go_num, fun j h hj => ?_⟩
            by_cases e : j < k
            · exact hall.out j h e
            · have : j = k := by omega
              subst this; exact hp
          case measure => simp; omega
        · have hf : fdOk s = false := by
            unfold fdOk; rw [allB_not k hlt (by simpa using hp), Bool.and_false]
          have H := Lib.hid (fdS_no hf)
          clear hf
          have hq := digOk_no hp
          by_cases ha : s[k].toNat < 128
          · have hnx : ∀ ty, (Instr.next (.pointer (some ⟨w.heap.size, 0, none⟩)) true ty).run Tryz.prog (w.iter s k) = _ := fun ty => run_next_ascii w s k ty hlt ha
            rcases hq with hq | hq
            all_goals
              go_wp2
              go_ret2
              exact ⟨by rw [H.out]; rfl, Ext.iter w s _⟩
          · have hnx : ∀ ty, (Instr.next (.pointer (some ⟨w.heap.size, 0, none⟩)) true ty).run Tryz.prog (w.iter s k) = _ := fun ty => run_next_any w s k ty hlt
            have hhi := (decode_high s k hlt (by omega)).1
            go_wp2
            go_ret2
            exact ⟨by rw [H.out]; rfl, Ext.iter w s _⟩
      · have hf : fdOk s = true := by
          unfold fdOk
          rw [allB_of (fun i hi => hall.out i hi (by omega))]
          simp; omega
        have hv : fdS s = ((valL (s.data.toList.take k) : Int), 0) := by
          rw [fdS_ok hf, List.take_of_length_le (by simp; omega)]
        have H := Lib.hid hv
        clear hf hv
        have hnx : ∀ ty, (Instr.next (.pointer (some ⟨w.heap.size, 0, none⟩)) true ty).run Tryz.prog (w.iter s k) = _ := fun ty => run_next_end w s k ty hlt
        go_wp2
        go_ret2
        exact ⟨by rw [H.out]; rfl, Ext.iter w s _⟩
  · have hf : fdOk s = false := by
      unfold fdOk
      rcases Nat.lt_or_ge s.size 1 with h | h
      · rw [decide_eq_false (by omega), Bool.false_and, Bool.false_and]
      · rw [decide_eq_false (show ¬ s.size ≤ 9 by omega), Bool.and_false, Bool.false_and]
    have H := Lib.hid (fdS_no hf)
    clear hf
    go_enter Tryz.func81, Tryz.ntmps81
    go_wp2
    all_goals
      go_ret2
      exact ⟨by rw [H.out]; rfl, Ext.refl _⟩

end Go.Proofs.YtkdbajpdcadliaaGreatDoor.Pg

set_option linter.unusedVariables false
namespace Go.Proofs.YtkdbajpdcadliaaGreatDoor.Pg
open Go.RowKit

set_option maxHeartbeats 1000000 in
theorem cut84 (s : ByteArray) (n : Int) (w : World) (hs : s.size ≤ maxLen) (h0 : 0 ≤ n) (hn : n ≤ 1000) :
    Calls Tryz.prog 84 #[.string s, .int .i64 n] w fun e w' => e = .returned (.string (s.extract 0 n.toNat)) ∧ w = w' := by
  unfold maxLen at hs
  by_cases h : n < (s.size : Int)
  · go_enter Tryz.func84, Tryz.ntmps84
    go_wp2
    go_ret
    exact ⟨ret_str rfl, rfl⟩
  · go_enter Tryz.func84, Tryz.ntmps84
    go_wp2
    go_ret
    refine ⟨ret_str ?_, rfl⟩
    apply ext_list
    rw [extract_upto, List.take_of_length_le (by simp; omega)]

theorem natAbs_val (s : ByteArray) : (0 : Int) ≤ (fdS s).1 ∧ (fdS s).1 ≤ 1000000000 := by
  by_cases h : fdOk s = true
  · rw [fdS_ok h]
    unfold fdOk at h
    simp only [Bool.and_eq_true, decide_eq_true_eq] at h
    have hv := valL_lt s s.size (Nat.le_refl _) (fun j hj _ => allB_get h.2 j hj)
    rw [List.take_of_length_le (by simp)] at hv
    have : 10 ^ s.size ≤ 10 ^ 9 := Nat.pow_le_pow_right (by omega) h.1.2
    have e : (10 : Nat) ^ 9 = 1000000000 := by decide
    simp only
    omega
  · rw [fdS_no (by simpa using h)]; decide

set_option maxHeartbeats 1000000 in
theorem plain128 (s : ByteArray) (w : World) (hs : s.size ≤ maxLen) :
    Calls Tryz.prog 128 #[.string s] w fun e w' => e = .returned (.tuple #[.int .i64 (plainS s).1, .bool (plainS s).2]) ∧ Ext w w' := by
  obtain ⟨b1, b2⟩ := natAbs_val s
  by_cases h : fdOk s = true
  · have h2 : ((fdS s).2 != 0) = false := by rw [fdS_ok h]; rfl
    by_cases he : decS (fdS s).1 = s
    · have hf : plainS s = ((fdS s).1, true) := by unfold plainS; rw [if_pos ⟨h, he⟩]
      have H := Lib.hid hf
      have hne := str_eq he
      clear hf h
      have HE := Lib.hid he
      clear he
      go_enter Tryz.func128, Tryz.ntmps128
      go_wp2_with fail
      refine (fromDigits119 s _ hs).mono ?_
      rintro e w1 ⟨rfl, hb1⟩
      go_wp2_with fail
      refine (dec103 _ _ (by omega) (by omega)).mono ?_
      rintro e w2 ⟨rfl, rfl⟩
      go_wp2_with fail
      go_ret2
      exact ⟨by rw [H.out]; rfl, hb1⟩
    · have hf : plainS s = (0, false) := by unfold plainS; rw [if_neg (fun k => he k.2)]
      have H := Lib.hid hf
      have hne := str_ne he
      clear hf h
      have HE := Lib.hid he
      clear he
      go_enter Tryz.func128, Tryz.ntmps128
      go_wp2_with fail
      refine (fromDigits119 s _ hs).mono ?_
      rintro e w1 ⟨rfl, hb1⟩
      go_wp2_with fail
      refine (dec103 _ _ (by omega) (by omega)).mono ?_
      rintro e w2 ⟨rfl, rfl⟩
      go_wp2_with fail
      go_ret2
      exact ⟨by rw [H.out]; rfl, hb1⟩
  · have h2 : ((fdS s).2 != 0) = true := by rw [fdS_no (by simpa using h)]; rfl
    have hf : plainS s = (0, false) := by unfold plainS; rw [if_neg (fun k => h k.1)]
    have H := Lib.hid hf
    clear hf h
    go_enter Tryz.func128, Tryz.ntmps128
    go_wp2_with fail
    refine (fromDigits119 s _ hs).mono ?_
    rintro e w1 ⟨rfl, hb1⟩
    go_wp2_with fail
    go_ret2
    exact ⟨by rw [H.out]; rfl, hb1⟩

theorem plainS_bd (s : ByteArray) : (0 : Int) ≤ (plainS s).1 ∧ (plainS s).1 ≤ 1000000000 := by
  unfold plainS
  split
  · exact natAbs_val s
  · decide

theorem head_at (s : ByteArray) (h : 0 < s.size) : s.data.toList.head? = some s[0] := by
  rw [List.head?_eq_getElem?, List.getElem?_eq_getElem (by simpa using h)]
  rfl

set_option maxHeartbeats 1000000 in
theorem number100 (s : ByteArray) (w : World) (hs : s.size ≤ maxLen) :
    Calls Tryz.prog 100 #[.string s] w fun e w' => e = .returned (.int .i64 (numberS s)) ∧ Ext w w' := by
  obtain ⟨b1, b2⟩ := plainS_bd s
  obtain ⟨b3, b4⟩ := plainS_bd (s.extract 1 s.size)
  have hs2 : (s.extract 1 s.size).size ≤ maxLen := by simp; omega
  have HS := Lib.hid hs2
  clear hs2
  by_cases h : 1 < s.size
  · by_cases hd : ((s[0].toNat : Int) == 45) = true
    · have hf : numberS s = -(plainS (s.extract 1 s.size)).1 := by
        unfold numberS
        rw [if_pos ⟨h, by rw [head_at s (by omega)]; congr 1; apply UInt8.toNat_inj.1; have := beq_iff_eq.1 hd; exact_mod_cast this⟩]
      have H := Lib.hid hf
      clear hf
      go_enter Tryz.func100, Tryz.ntmps100
      go_wp2_with fail
      refine (plain128 _ _ HS.out).mono ?_
      rintro e w1 ⟨rfl, hb1⟩
      go_wp2_with fail
      go_ret
      exact ⟨ret_int (by rw [H.out]), hb1⟩
    · have hd : ((s[0].toNat : Int) == 45) = false := by simpa using hd
      have hf : numberS s = (plainS s).1 := by
        unfold numberS
        rw [if_neg]
        rintro ⟨_, h2⟩
        rw [head_at s (by omega)] at h2
        have := Option.some.inj h2
        rw [this] at hd
        exact absurd hd (by decide)
      have H := Lib.hid hf
      clear hf
      go_enter Tryz.func100, Tryz.ntmps100
      go_wp2_with fail
      refine (plain128 _ _ hs).mono ?_
      rintro e w1 ⟨rfl, hb1⟩
      go_wp2_with fail
      go_ret
      exact ⟨ret_int (by rw [H.out]), hb1⟩
  · have hf : numberS s = (plainS s).1 := by
      unfold numberS
      rw [if_neg (fun k => h k.1)]
    have H := Lib.hid hf
    clear hf
    go_enter Tryz.func100, Tryz.ntmps100
    go_wp2_with fail
    refine (plain128 _ _ hs).mono ?_
    rintro e w1 ⟨rfl, hb1⟩
    go_wp2_with fail
    go_ret
    exact ⟨ret_int (by rw [H.out]), hb1⟩
end Go.Proofs.YtkdbajpdcadliaaGreatDoor.Pg
