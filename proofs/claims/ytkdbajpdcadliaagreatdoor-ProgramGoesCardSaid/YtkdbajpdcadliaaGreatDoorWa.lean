/- Walks: isText of both sides. · Walks: lists of texts held one against the other. · Walks: names, of both sides. · Walks: Cut, word, SameInts. -/
import Derived.Test.YtkdbajpdcadliaaGreatDoorBas
set_option linter.unusedVariables false
namespace Go.Proofs.YtkdbajpdcadliaaGreatDoor.Pg
open Go.RowKit

theorem printable_iff {c : UInt8} : printable c = true ↔ (32 ≤ (c.toNat : Int) ∧ (c.toNat : Int) ≤ 126) := by
  unfold printable; simp; omega

set_option maxHeartbeats 400000 in
theorem isText85 (s : ByteArray) (w : World) (hs : s.size ≤ maxLen) :
    Calls Tryz.prog 85 #[.string s] w fun e w' => e = .returned (.bool (isTextS s)) ∧ w = w' := by
  unfold maxLen at hs
  go_enter Tryz.func85, Tryz.ntmps85
  go_wp2
  go_loop [3] (fun i => ∃ k : Nat, k ≤ s.size ∧ i = .int .i64 k ∧ Hid (∀ j (h : j < s.size), j < k → printable s[j] = true)) (fun i => s.size - (intOf i).toNat)
  case atStart => exact ⟨0, Nat.zero_le _, rfl, fun j h hj => absurd hj (by omega)⟩
  case round =>
    obtain ⟨k, hk, rfl, hall⟩ := hrel
    by_cases hlt : k < s.size
    · by_cases hp : printable s[k] = true
      · obtain ⟨h1, h2⟩ := printable_iff.1 hp
        go_wp2
        go_round
        case rel =>
          refine ⟨k + 1, by omega, by go_num, fun j h hj => ?_⟩
          by_cases e : j < k
          · exact hall.out j h e
          · have : j = k := by omega
            subst this; exact hp
        case measure => simp [intOf]; omega
      · have hf : isTextS s = false := by
          unfold isTextS; rw [allB_not k hlt (by simpa using hp)]; rfl
        have H := Lib.hid hf
        clear hf
        by_cases h1 : (s[k].toNat : Int) < 32
        · go_wp2
          go_ret
          exact ⟨ret_bool H.out.symm, rfl⟩
        · have h2 : 126 < (s[k].toNat : Int) := by
            rw [printable_iff] at hp; omega
          go_wp2
          go_ret
          exact ⟨ret_bool H.out.symm, rfl⟩
    · have hf : isTextS s = decide ((s.size : Int) ≤ 100) := by
        unfold isTextS
        rw [allB_of (fun i hi => hall.out i hi (by omega)), Bool.true_and]
        congr 1; simp; omega
      have H := Lib.hid hf
      clear hf
      go_wp2
      go_ret
      exact ⟨ret_bool H.out.symm, rfl⟩

set_option maxHeartbeats 400000 in
theorem isText107 (s : ByteArray) (w : World) (hs : s.size ≤ maxLen) :
    Calls Tryz.prog 107 #[.string s] w fun e w' => e = .returned (.bool (isTextS s)) ∧ Ext w w' := by
  unfold maxLen at hs
  obtain ⟨cap, W1, hrun, hcell, hext, hsz⟩ := bytes_of w s
  have HC := Lib.hid hcell
  clear hcell
  have HE := Lib.hid hext
  have HZ := Lib.hid hsz
  clear hext hsz
  go_enter Tryz.func107, Tryz.ntmps107
  go_wp2
  clear hrun
  go_loop [8] (fun i => ∃ k : Nat, k ≤ s.size ∧ i = .int .i64 k ∧ Hid (∀ j (h : j < s.size), j < k → printable s[j] = true)) (fun i => s.size - (intOf i).toNat)
  case atStart => exact ⟨0, Nat.zero_le _, rfl, fun j h hj => absurd hj (by omega)⟩
  case round =>
    obtain ⟨k, hk, rfl, hall⟩ := hrel
    by_cases hlt : k < s.size
    · have hc := HC.out k hlt
      by_cases hp : printable s[k] = true
      · obtain ⟨h1, h2⟩ := printable_iff.1 hp
        go_wp2
        go_round
        case rel =>
          refine ⟨k + 1, by omega, by go_num, fun j h hj => ?_⟩
          by_cases e : j < k
          · exact hall.out j h e
          · have : j = k := by omega
            subst this; exact hp
        case measure => simp [intOf]; omega
      · have hf : isTextS s = false := by
          unfold isTextS; rw [allB_not k hlt (by simpa using hp)]; rfl
        have H := Lib.hid hf
        clear hf
        by_cases h1 : (s[k].toNat : Int) < 32
        · go_wp2
          go_ret
          exact ⟨ret_bool H.out.symm, HE.out⟩
        · have h2 : 126 < (s[k].toNat : Int) := by
            rw [printable_iff] at hp; omega
          go_wp2
          go_ret
          exact ⟨ret_bool H.out.symm, HE.out⟩
    · have hf : isTextS s = decide ((s.size : Int) ≤ 100) := by
        unfold isTextS
        rw [allB_of (fun i hi => hall.out i hi (by omega)), Bool.true_and]
        congr 1; simp; omega
      have H := Lib.hid hf
      clear hf
      go_wp2
      go_ret
      exact ⟨ret_bool H.out.symm, HE.out⟩
end Go.Proofs.YtkdbajpdcadliaaGreatDoor.Pg

set_option linter.unusedVariables false
namespace Go.Proofs.YtkdbajpdcadliaaGreatDoor.Pg
open Go.RowKit

set_option maxHeartbeats 400000 in
theorem sameTexts55 (A C : Option Addr) (n m c d : Nat) (xs ys : List ByteArray) (w : World) (hx : Strs w A xs) (hy : Strs w C ys) (hl : xs.length = n) (hm : ys.length = m) (hb : n ≤ 9223372036854775807) (hb2 : m ≤ 9223372036854775807) :
    Calls Tryz.prog 55 #[.slice A n c, .slice C m d] w fun e w' => e = .returned (.bool (decide (xs = ys))) ∧ Ext w w' := by
  have HX := Lib.hid hx
  have HY := Lib.hid hy
  have HL := Lib.hid hl
  have HM := Lib.hid hm
  clear hx hy hl hm
  by_cases hn : n = m
  · obtain rfl := hn
    go_enter Tryz.func55, Tryz.ntmps55
    go_wp2
    go_loopw [5] (fun i wr => ∃ k : Nat, k ≤ n ∧ i = .int .i64 k ∧ Hid (∀ j, j < k → xs[j]? = ys[j]?) ∧ Hid (Ext w wr)) (fun i _ => n - (intOf i).toNat)
    case atStart => exact ⟨0, Nat.zero_le _, rfl, fun j hj => absurd hj (by omega), Ext.refl _⟩
    case round =>
      obtain ⟨k, hk, rfl, hall, he⟩ := hrel
      by_cases hlt : k < n
      · obtain ⟨ad, hA, hcx⟩ := (HX.out.ext he.out) k (by have := HL.out; omega)
        obtain ⟨bd, hC, hcy⟩ := (HY.out.ext he.out) k (by have := HM.out; omega)
        subst hA hC
        have lx : k < xs.length := by have := HL.out; omega
        have ly : k < ys.length := by have := HM.out; omega
        by_cases e : xs[k] = ys[k]
        · have hne := str_eq e
          have E := Lib.hid e
          clear e
          go_wp2
          go_quiet (fail)
          go_wp2
          go_round
          case rel =>
            refine ⟨k + 1, by omega, by go_num, fun j hj => ?_, he.out.drewN _⟩
            by_cases e : j < k
            · exact hall.out j e
            · have : j = k := by omega
              subst this
              rw [List.getElem?_eq_getElem lx, List.getElem?_eq_getElem ly, E.out]
          case measure => simp [intOf]; omega
        · have hne := str_ne e
          have hf : decide (xs = ys) = false := by
            rw [decide_eq_false_iff_not]; rintro rfl; exact e rfl
          have H := Lib.hid hf
          clear hf
          go_wp2
          go_quiet (fail)
          go_wp2
          go_ret
          exact ⟨ret_bool H.out.symm, he.out.drewN _⟩
      · have hf : decide (xs = ys) = true := by
          rw [decide_eq_true_iff]
          refine List.ext_getElem? fun j => ?_
          by_cases hj : j < k
          · exact hall.out j hj
          · have := HL.out
            have := HM.out
            rw [List.getElem?_eq_none (by omega), List.getElem?_eq_none (by omega)]
        have H := Lib.hid hf
        clear hf
        go_wp2
        go_ret
        exact ⟨ret_bool H.out.symm, he.out⟩
  · have hf : decide (xs = ys) = false := by
      rw [decide_eq_false_iff_not]; rintro rfl; exact hn (HL.out.symm.trans HM.out)
    have H := Lib.hid hf
    clear hf
    have hne : ((n : Int) != (m : Int)) = true := by simp; omega
    go_enter Tryz.func55, Tryz.ntmps55
    go_wp2
    go_ret
    exact ⟨ret_bool H.out.symm, Ext.refl _⟩
end Go.Proofs.YtkdbajpdcadliaaGreatDoor.Pg

set_option linter.unusedVariables false
namespace Go.Proofs.YtkdbajpdcadliaaGreatDoor.Pg
open Go.RowKit

theorem nameOk_iff {k : Nat} {c : UInt8} : nameOk k c = true ↔ ((65 ≤ (c.toNat : Int) ∧ (c.toNat : Int) ≤ 90) ∨ (k ≠ 0 ∧ 48 ≤ (c.toNat : Int) ∧ (c.toNat : Int) ≤ 57)) := by
  unfold nameOk; simp; omega
theorem nameOk_no {k : Nat} {c : UInt8} (h : ¬ nameOk k c = true) : ¬ (65 ≤ (c.toNat : Int) ∧ (c.toNat : Int) ≤ 90) ∧ (k = 0 ∨ (c.toNat : Int) < 48 ∨ 57 < (c.toNat : Int)) := by
  rw [nameOk_iff] at h; omega

set_option maxHeartbeats 800000 in
theorem isName56 (s : ByteArray) (w : World) (hs : s.size ≤ maxLen) :
    Calls Tryz.prog 56 #[.string s] w fun e w' => e = .returned (.bool (isNameS s)) ∧ w = w' := by
  unfold maxLen at hs
  go_enter Tryz.func56, Tryz.ntmps56
  go_wp2
  go_loop [3] (fun i => ∃ k : Nat, k ≤ s.size ∧ i = .int .i64 k ∧ Hid (∀ j (h : j < s.size), j < k → nameOk j s[j] = true)) (fun i => s.size - (intOf i).toNat)
  case atStart => exact ⟨0, Nat.zero_le _, rfl, fun j h hj => absurd hj (by omega)⟩
  case round =>
    obtain ⟨k, hk, rfl, hall⟩ := hrel
    by_cases hlt : k < s.size
    · by_cases hp : nameOk k s[k] = true
      · have hq := nameOk_iff.1 hp
        have rel : ∃ k_1 : Nat, k_1 ≤ s.size ∧ Value.int IntKind.i64 (↑k + 1) = Value.int IntKind.i64 ↑k_1 ∧ Hid (∀ (j : Nat) (h : j < s.size), j < k_1 → nameOk j s[j] = true) := by
          refine ⟨k + 1, by omega, by go_num, fun j h hj => ?_⟩
          by_cases e : j < k
          · exact hall.out j h e
          · have : j = k := by omega
            subst this; exact hp
        have REL := Lib.hid rel
        clear rel
        rcases hq with ⟨q1, q2⟩ | ⟨q0, q1, q2⟩
        · go_wp2
          all_goals
            go_round
            case rel => exact REL.out
            case measure => simp [intOf]; omega
        · have q3 : ¬ (65 : Int) ≤ (s[k].toNat : Int) := by omega
          have q4 : ((k : Int) == 0) = false := by simp; omega
          go_wp2
          all_goals
            go_round
            case rel => exact REL.out
            case measure => simp [intOf]; omega
      · have hf : isNameS s = false := by
          unfold isNameS; rw [allI_not k hlt (by simpa using hp)]; rfl
        have H := Lib.hid hf
        clear hf
        have hq := nameOk_no hp
        have q4 : ((k : Int) == 0) = decide (k = 0) := by simp [Bool.beq_eq_decide_eq]
        by_cases q0 : k = 0
        all_goals
          first | rw [decide_eq_true q0] at q4 | rw [decide_eq_false q0] at q4
          by_cases q1 : (65 : Int) ≤ (s[k].toNat : Int)
        all_goals
          first | (have q2 : decide ((s[k].toNat : Int) ≤ 90) = false := decide_eq_false (by omega)) | (have q2 : True := trivial)
          have q5 : k = 0 ∨ ((s[k].toNat : Int) < 48 ∨ 57 < (s[k].toNat : Int)) := hq.2
          first | (replace q5 := q5.resolve_left q0) | (clear q5)
          have Q0 := Lib.hid q0
          clear q0 hp hq
          go_wp2
          all_goals
            go_ret
            exact ⟨ret_bool H.out.symm, rfl⟩
    · have hf : isNameS s = (decide ((1 : Int) ≤ (s.size : Int)) && decide ((s.size : Int) ≤ 8)) := by
        unfold isNameS
        rw [allI_of (fun i hi => hall.out i hi (by omega)), Bool.true_and]
        congr 1 <;> simp <;> omega
      by_cases hz : (1 : Int) ≤ (s.size : Int)
      · rw [decide_eq_true hz, Bool.true_and] at hf
        have H := Lib.hid hf
        clear hf
        go_wp2
        go_ret
        exact ⟨ret_bool H.out.symm, rfl⟩
      · rw [decide_eq_false hz, Bool.false_and] at hf
        have H := Lib.hid hf
        clear hf
        go_wp2
        go_ret
        exact ⟨ret_bool H.out.symm, rfl⟩

set_option maxHeartbeats 800000 in
theorem isName70 (s : ByteArray) (w : World) (hs : s.size ≤ maxLen) :
    Calls Tryz.prog 70 #[.string s] w fun e w' => e = .returned (.bool (isNameS s)) ∧ w = w' := by
  unfold maxLen at hs
  go_enter Tryz.func70, Tryz.ntmps70
  go_wp2
  go_loop [7] (fun i => ∃ k : Nat, k ≤ s.size ∧ i = .int .i64 k ∧ Hid (∀ j (h : j < s.size), j < k → nameOk j s[j] = true)) (fun i => s.size - (intOf i).toNat)
  case atStart => exact ⟨0, Nat.zero_le _, rfl, fun j h hj => absurd hj (by omega)⟩
  case round =>
    obtain ⟨k, hk, rfl, hall⟩ := hrel
    by_cases hlt : k < s.size
    · by_cases hp : nameOk k s[k] = true
      · have hq := nameOk_iff.1 hp
        have rel : ∃ k_1 : Nat, k_1 ≤ s.size ∧ Value.int IntKind.i64 (↑k + 1) = Value.int IntKind.i64 ↑k_1 ∧ Hid (∀ (j : Nat) (h : j < s.size), j < k_1 → nameOk j s[j] = true) := by
          refine ⟨k + 1, by omega, by go_num, fun j h hj => ?_⟩
          by_cases e : j < k
          · exact hall.out j h e
          · have : j = k := by omega
            subst this; exact hp
        have REL := Lib.hid rel
        clear rel
        rcases hq with ⟨q1, q2⟩ | ⟨q0, q1, q2⟩
        · go_wp2
          all_goals
            go_round
            case rel => exact REL.out
            case measure => simp [intOf]; omega
        · have q3 : ¬ (65 : Int) ≤ (s[k].toNat : Int) := by omega
          have q4 : ((k : Int) == 0) = false := by simp; omega
          go_wp2
          all_goals
            go_round
            case rel => exact REL.out
            case measure => simp [intOf]; omega
      · have hf : isNameS s = false := by
          unfold isNameS; rw [allI_not k hlt (by simpa using hp)]; rfl
        have H := Lib.hid hf
        clear hf
        have hq := nameOk_no hp
        have q4 : ((k : Int) == 0) = decide (k = 0) := by simp [Bool.beq_eq_decide_eq]
        by_cases q0 : k = 0
        all_goals
          first | rw [decide_eq_true q0] at q4 | rw [decide_eq_false q0] at q4
          by_cases q1 : (65 : Int) ≤ (s[k].toNat : Int)
        all_goals
          first | (have q2 : decide ((s[k].toNat : Int) ≤ 90) = false := decide_eq_false (by omega)) | (have q2 : True := trivial)
          have q5 : k = 0 ∨ ((s[k].toNat : Int) < 48 ∨ 57 < (s[k].toNat : Int)) := hq.2
          first | (replace q5 := q5.resolve_left q0) | (clear q5)
          have Q0 := Lib.hid q0
          clear q0 hp hq
          go_wp2
          all_goals
            go_ret
            exact ⟨ret_bool H.out.symm, rfl⟩
    · have hf : isNameS s = (decide ((1 : Int) ≤ (s.size : Int)) && decide ((s.size : Int) ≤ 8)) := by
        unfold isNameS
        rw [allI_of (fun i hi => hall.out i hi (by omega)), Bool.true_and]
        congr 1 <;> simp <;> omega
      by_cases hz : (1 : Int) ≤ (s.size : Int)
      · rw [decide_eq_true hz, Bool.true_and] at hf
        have H := Lib.hid hf
        clear hf
        go_wp2
        go_ret
        exact ⟨ret_bool H.out.symm, rfl⟩
      · rw [decide_eq_false hz, Bool.false_and] at hf
        have H := Lib.hid hf
        clear hf
        go_wp2
        go_ret
        exact ⟨ret_bool H.out.symm, rfl⟩

end Go.Proofs.YtkdbajpdcadliaaGreatDoor.Pg

set_option linter.unusedVariables false
namespace Go.Proofs.YtkdbajpdcadliaaGreatDoor.Pg
open Go.RowKit

set_option maxHeartbeats 1000000 in
theorem cut64 (s : ByteArray) (c : UInt8) (w : World) (hs : (s.size : Int) ≤ 1000000000) :
    Calls Tryz.prog 64 #[.string s, .int .u8 (c.toNat : Int)] w fun e w' => ∃ v, e = .returned v ∧ Own w' w.heap.size v (splitS c s) ∧ Ext w w' := by
  go_enter Tryz.func64, Tryz.ntmps64
  go_wp2
  go_loopw [5, 6, 7] (fun v f i wr => ∃ (k from_ : Nat) (done : List ByteArray), k ≤ s.size ∧ from_ ≤ k ∧ i = .int .i64 k ∧ f = .int .i64 from_ ∧ (done.length : Int) ≤ from_ ∧
      Hid (done ++ (splitL c (s.data.toList.drop from_)).map mkB = splitS c s) ∧ Hid (∀ j (h : j < s.size), from_ ≤ j → j < k → s[j] ≠ c) ∧ Own wr w.heap.size v done ∧ Hid (Ext w wr)) (fun _ _ i _ => s.size - (intOf i).toNat)
  case atStart => exact ⟨0, 0, [], Nat.zero_le _, Nat.le_refl _, rfl, rfl, by simp, by unfold splitS; rfl, fun j _ h1 h2 => absurd h2 (by omega), Own.none_ _ _, Ext.refl _⟩
  case round =>
    obtain ⟨k, from_, done, hk, hfk, rfl, rfl, hdl, hsp, hno, hown, he⟩ := hrel
    by_cases hlt : k < s.size
    · by_cases hc : s[k] = c
      · have hq : ((s[k].toNat : Int) == (c.toNat : Int)) = true := by rw [hc]; simp
        have HC := Lib.hid hc
        clear hc
        have HO := Lib.hid hown
        clear hown
        have hd2 : (done.length : Int) ≤ 1000000000000 := by omega
        go_wp2_with (at_builtin; refine app_str w.heap.size rfl (.tmp 19) (.tmp 24) rfl _ done _ rfl rfl HO.out he.out.size hd2 ?_; intro v1 w1 hown1 hb1 hs1)
        go_roundw
        case rel =>
          refine ⟨k + 1, k + 1, done ++ [s.extract from_ k], by omega, Nat.le_refl _, by go_num, by go_num, by simp; omega, ?_, fun j hj h1 h2 => absurd h2 (by omega), hown1, Below.trans he.out hb1⟩
          have := hsp.out
          rw [splitL_step s from_ k hlt hfk hno.out HC.out] at this
          rw [← this, List.append_assoc]
          exact congrArg (done ++ ·) (by rw [List.map_cons, mkB_of]; rfl)
        case measure => simp [intOf]; omega
      · have hq : ((s[k].toNat : Int) == (c.toNat : Int)) = false := by
          rw [beq_eq_false_iff_ne]; intro e; exact hc (UInt8.toNat_inj.1 (by exact_mod_cast e))
        have HC := Lib.hid hc
        clear hc
        have HO := Lib.hid hown
        clear hown
        go_wp2_with fail
        go_roundw
        case rel =>
          refine ⟨k + 1, from_, done, by omega, by omega, by go_num, rfl, hdl, hsp, fun j hj h1 h2 => ?_, HO.out, he⟩
          by_cases e : j < k
          · exact hno.out j hj h1 e
          · have : j = k := by omega
            subst this; exact HC.out
        case measure => simp [intOf]; omega
    · have HO := Lib.hid hown
      clear hown
      have hd2 : (done.length : Int) ≤ 1000000000000 := by omega
      go_wp2_with (at_builtin; refine app_str w.heap.size rfl (.tmp 28) (.tmp 32) rfl _ done _ rfl rfl HO.out he.out.size hd2 ?_; intro v1 w1 hown1 hb1 hs1)
      go_ret
      refine ⟨v1, rfl, ?_, Below.trans he.out hb1⟩
      have := hsp.out
      rw [splitL_last s from_ (fun j hj h1 => hno.out j hj h1 (by omega)), List.map_cons, mkB_of, List.map_nil] at this
      rw [← this]
      exact hown1

theorem lib_index_one (c : UInt8) : ∀ l : List UInt8, (Lib.index l [c] = -1 ∧ cutB c l = (l, [], false)) ∨ (∃ k : Nat, Lib.index l [c] = k ∧ cutB c l = (l.take k, l.drop (k + 1), true))
  | [] => .inl ⟨rfl, rfl⟩
  | b :: l => by
    by_cases hb : b = c
    · subst hb
      exact .inr ⟨0, by simp [Lib.index], by simp [cutB]⟩
    · have hb' : c ≠ b := fun e => hb e.symm
      rcases lib_index_one c l with ⟨h1, h2⟩ | ⟨k, h1, h2⟩
      · exact .inl ⟨by simp [Lib.index, hb', h1], by simp [cutB, hb, h2]⟩
      · refine .inr ⟨k + 1, ?_, by simp [cutB, hb, h2]⟩
        have : ((k : Int) == -1) = false := by rw [beq_eq_false_iff_ne]; omega
        simp [Lib.index, hb', h1]
theorem lib_cut_one (c : UInt8) (l : List UInt8) : Lib.cut l [c] = cutB c l := by
  unfold Lib.cut
  rcases lib_index_one c l with ⟨h1, h2⟩ | ⟨k, h1, h2⟩
  · rw [h1, h2, if_neg (by omega)]
  · rw [h1, h2, if_pos (by omega)]
    simp

set_option maxHeartbeats 1000000 in
theorem word99 (s : ByteArray) (w : World) (hs : s.size ≤ maxLen) :
    Calls Tryz.prog 99 #[.string s] w fun e w' => e = .returned (.tuple #[.string (wordS s).1, .string (wordS s).2]) ∧ Ext w w' := by
  unfold maxLen at hs
  go_enter Tryz.func99, Tryz.ntmps99
  go_wp2
  go_loop [4] (fun i => ∃ k : Nat, k ≤ s.size ∧ i = .int .i64 k ∧ Hid (∀ j (h : j < s.size), j < k → s[j] ≠ 32)) (fun i => s.size - (intOf i).toNat)
  case atStart => exact ⟨0, Nat.zero_le _, rfl, fun j h hj => absurd hj (by omega)⟩
  case round =>
    obtain ⟨k, hk, rfl, hall⟩ := hrel
    by_cases hlt : k < s.size
    · by_cases hc : s[k] = 32
      · have hq : ((s[k].toNat : Int) == 32) = true := by rw [hc]; decide
        have hf : cutB 32 s.data.toList = (s.data.toList.take k, s.data.toList.drop (k + 1), true) :=
          cutB_at k (by simpa using hlt) (fun j hj hjk => hall.out j (by simpa using hj) hjk) hc
        have H : Hid (wordS s = (s.extract 0 k, s.extract (k + 1) s.size)) := by
          unfold wordS
          rw [hf, ← extract_upto, ← extract_from, mkB_of, mkB_of]
          rfl
        clear hf hc
        go_wp2
        go_quiet (fail)
        go_wp2
        go_ret2
        exact ⟨by rw [H.out]; rfl, (Ext.refl w).drewN _⟩
      · have hq : ((s[k].toNat : Int) == 32) = false := by
          rw [beq_eq_false_iff_ne]; intro e; exact hc (UInt8.toNat_inj.1 (by exact_mod_cast e))
        have HC := Lib.hid hc
        clear hc
        go_wp2
        go_round
        case rel =>
          refine ⟨k + 1, by omega, by go_num, fun j h hj => ?_⟩
          by_cases e : j < k
          · exact hall.out j h e
          · have : j = k := by omega
            subst this; exact HC.out
        case measure => simp [intOf]; omega
    · have hf : cutB 32 s.data.toList = (s.data.toList, [], false) := cutB_none fun x hx => by
        obtain ⟨i, hi, rfl⟩ := List.getElem_of_mem hx
        exact hall.out i (by simpa using hi) (by simp at hi; omega)
      have H : Hid (wordS s = (s, ⟨#[]⟩)) := by
        unfold wordS
        rw [hf, mkB_of]
        rfl
      clear hf
      go_wp2
      go_ret2
      exact ⟨by rw [H.out]; rfl, Ext.refl _⟩
end Go.Proofs.YtkdbajpdcadliaaGreatDoor.Pg
