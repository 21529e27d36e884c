/- Walks: what a step must be. · Walks: lists looked through by a function (texts). -/
import Derived.Test.YtkdbajpdcadliaaGreatDoorWa
import Derived.Test.YtkdbajpdcadliaaGreatDoorWe
set_option linter.unusedVariables false
namespace Go.Proofs.YtkdbajpdcadliaaGreatDoor.Pg
open Go.RowKit

theorem beq_no {a b : Int} (h : ¬ a = b) : (a == b) = false := by rw [beq_eq_false_iff_ne]; exact h

set_option maxHeartbeats 1000000 in
theorem is105 (what n steps : Int) (w : World) :
    Calls Tryz.prog 105 #[.int .u8 what, .int .i64 n, .int .i64 steps] w fun e w' => e = .returned (.bool (isM what n steps)) ∧ w = w' := by
  by_cases h1 : what = 118
  · subst h1
    go_enter Tryz.func105, Tryz.ntmps105
    go_wp2
    all_goals
      go_ret
      refine ⟨ret_bool ?_, rfl⟩
      first | (simp [isM, *]; done) | (simp [isM, *]; omega)
  by_cases h2 : what = 112
  · subst h2
    go_enter Tryz.func105, Tryz.ntmps105
    go_wp2
    all_goals
      go_ret
      refine ⟨ret_bool ?_, rfl⟩
      first | (simp [isM, *]; done) | (simp [isM, *]; omega)
  by_cases h3 : what = 119
  · subst h3
    go_enter Tryz.func105, Tryz.ntmps105
    go_wp2
    all_goals
      go_ret
      refine ⟨ret_bool ?_, rfl⟩
      first | (simp [isM, *]; done) | (simp [isM, *]; omega)
  by_cases h4 : what = 110
  · subst h4
    go_enter Tryz.func105, Tryz.ntmps105
    go_wp2
    all_goals
      go_ret
      refine ⟨ret_bool ?_, rfl⟩
      first | (simp [isM, *]; done) | (simp [isM, *]; omega)
  have hf : isM what n steps = (n == 0) := by simp only [isM, if_neg h1, if_neg h2, if_neg h3, if_neg h4]
  have H := Lib.hid hf
  have k1 := beq_no h1
  have k2 := beq_no h2
  have k3 := beq_no h3
  have k4 := beq_no h4
  clear h1 h2 h3 h4 hf
  go_enter Tryz.func105, Tryz.ntmps105
  go_wp2
  go_ret
  exact ⟨ret_bool H.out.symm, rfl⟩

def verbV (v : Verb) : Value := .agg #[.string (mkB v.name), .int .u8 v.a, .int .u8 v.b, .int .i64 v.few, .int .i64 v.all]

theorem verbs_cases (op : Int) : (¬ op = 1 ∧ ¬ op = 2 ∧ ¬ op = 3 ∧ ¬ op = 4 ∧ ¬ op = 5 ∧ ¬ op = 6 ∧ ¬ op = 7 ∧ ¬ op = 8 ∧ ¬ op = 9 ∧ ¬ op = 10 ∧ ¬ op = 11 ∧ ¬ op = 12 ∧ ¬ op = 13) ∨
    op = 1 ∨ op = 2 ∨ op = 3 ∨ op = 4 ∨ op = 5 ∨ op = 6 ∨ op = 7 ∨ op = 8 ∨ op = 9 ∨ op = 10 ∨ op = 11 ∨ op = 12 ∨ op = 13 := by omega
theorem verbS_none {op : Int} (hn : ¬ op = 1 ∧ ¬ op = 2 ∧ ¬ op = 3 ∧ ¬ op = 4 ∧ ¬ op = 5 ∧ ¬ op = 6 ∧ ¬ op = 7 ∧ ¬ op = 8 ∧ ¬ op = 9 ∧ ¬ op = 10 ∧ ¬ op = 11 ∧ ¬ op = 12 ∧ ¬ op = 13) :
    verbS op = (zeroVerb, false) := by
  obtain ⟨h1, h2, h3, h4, h5, h6, h7, h8, h9, h10, h11, h12, h13⟩ := hn
  simp only [verbS, if_neg h1, if_neg h2, if_neg h3, if_neg h4, if_neg h5, if_neg h6, if_neg h7, if_neg h8, if_neg h9, if_neg h10, if_neg h11, if_neg h12, if_neg h13]

set_option maxHeartbeats 2000000 in
theorem verbs93 (op : Int) (w : World) :
    Calls Tryz.prog 93 #[.int .i64 op] w fun e w' => e = .returned (.tuple #[verbV (verbS op).1, .bool (verbS op).2]) ∧ Ext w w' := by
  rcases verbs_cases op with hn | rfl | rfl | rfl | rfl | rfl | rfl | rfl | rfl | rfl | rfl | rfl | rfl | rfl
  · rw [verbS_none hn]
    obtain ⟨h1, h2, h3, h4, h5, h6, h7, h8, h9, h10, h11, h12, h13⟩ := hn
    replace h1 := beq_no h1
    replace h2 := beq_no h2
    replace h3 := beq_no h3
    replace h4 := beq_no h4
    replace h5 := beq_no h5
    replace h6 := beq_no h6
    replace h7 := beq_no h7
    replace h8 := beq_no h8
    replace h9 := beq_no h9
    replace h10 := beq_no h10
    replace h11 := beq_no h11
    replace h12 := beq_no h12
    replace h13 := beq_no h13
    go_enter Tryz.func93, Tryz.ntmps93
    go_wp2
    go_returns
    exact ⟨rfl, (Ext.refl w).alloc (Nat.le_refl _) _⟩
  all_goals
    go_enter Tryz.func93, Tryz.ntmps93
    go_wp2
    go_returns
    exact ⟨rfl, (Ext.refl w).alloc (Nat.le_refl _) _⟩
end Go.Proofs.YtkdbajpdcadliaaGreatDoor.Pg

set_option linter.unusedVariables false
namespace Go.Proofs.YtkdbajpdcadliaaGreatDoor.Pg
open Go.RowKit

/-- A function value that answers p of a text. -/
def TextPred (f : FuncId) (p : ByteArray → Bool) (xs : List ByteArray) : Prop :=
  ∀ x ∈ xs, ∀ w : World, Calls Tryz.prog f #[.string x] w fun e w' => e = .returned (.bool (p x)) ∧ Ext w w'

set_option maxHeartbeats 1000000 in
theorem noText106 (xs : List ByteArray) (hb : Bd xs) : TextPred 106 (fun x => !isTextS x) xs := by
  intro x hx w
  have hs := le_max (hb.each x hx)
  go_enter Tryz.func106, Tryz.ntmps106
  go_wp2_with fail
  refine (isText107 x _ hs).mono ?_
  rintro e w1 ⟨rfl, he⟩
  go_wp2_with fail
  go_ret
  exact ⟨ret_bool rfl, he⟩

set_option maxHeartbeats 1000000 in
theorem tooLong102 (xs : List ByteArray) : TextPred 102 (fun x => decide ((100 : Int) < (x.size : Int))) xs := by
  intro x hx w
  go_enter Tryz.func102, Tryz.ntmps102
  go_wp2_with fail
  go_ret
  exact ⟨ret_bool rfl, Ext.refl _⟩

set_option maxHeartbeats 1000000 in
theorem indexFunc129_106 (A : Option Addr) (n c : Nat) (xs : List ByteArray) (w : World) (hp : TextPred 106 (fun x => !isTextS x) xs) (hx : Strs w A xs) (hl : xs.length = n) (hn : (n : Int) ≤ 1000000000) :
    Calls Tryz.prog 129 #[.slice A n c, .func (.func 106) #[] #[]] w fun e w' => ∃ i, e = .returned (.int .i64 i) ∧ decide (0 ≤ i) = xs.any (fun x => !isTextS x) ∧ Ext w w' := by
  have HP := Lib.hid hp
  have HX := Lib.hid hx
  have HL := Lib.hid hl
  clear hp hx hl
  go_enter Tryz.func129, Tryz.ntmps129
  go_wp2_with fail
  go_loopw [8] (fun i wr => ∃ k : Nat, k ≤ n ∧ i = .int .i64 k ∧ Hid (∀ j (h : j < xs.length), j < k → (fun x => !isTextS x) xs[j] = false) ∧ Hid (Ext w wr)) (fun i _ => n - (intOf i).toNat)
  case atStart => exact ⟨0, Nat.zero_le _, rfl, fun j h hj => absurd hj (by omega), Ext.refl _⟩
  case round =>
    obtain ⟨k, hk, rfl, hall, he⟩ := hrel
    by_cases hlt : k < n
    · have lx : k < xs.length := by have := HL.out; omega
      obtain ⟨ad, hA, hcx⟩ := (HX.out.ext he.out) k lx
      subst hA
      go_wp2_with fail
      refine (HP.out _ (List.getElem_mem lx) _).mono ?_
      rintro e w1 ⟨rfl, he1⟩
      have HE1 := Lib.hid he1
      clear he1
      by_cases hb : (fun x => !isTextS x) xs[k] = true
      · have hr : xs.any (fun x => !isTextS x) = true := List.any_eq_true.2 ⟨_, List.getElem_mem lx, hb⟩
        have HR := Lib.hid hr
        clear hr
        go_wp2_with fail
        go_ret
        exact ⟨k, rfl, by rw [HR.out]; simp, he.out.trans HE1.out⟩
      · have hb : (fun x => !isTextS x) xs[k] = false := by simpa using hb
        go_wp2_with fail
        go_roundw
        case rel =>
          refine ⟨k + 1, by omega, by go_num, fun j h hj => ?_, he.out.trans HE1.out⟩
          by_cases e : j < k
          · exact hall.out j h e
          · have : j = k := by omega
            subst this; exact hb
        case measure => simp [intOf]; omega
    · have hr : xs.any (fun x => !isTextS x) = false := by
        rw [List.any_eq_false]
        intro x hx
        obtain ⟨i, hi, rfl⟩ := List.getElem_of_mem hx
        have := hall.out i hi (by have := HL.out; omega)
        simp [this]
      have HR := Lib.hid hr
      clear hr
      go_wp2_with fail
      go_ret
      exact ⟨-1, rfl, by rw [HR.out]; simp, he.out⟩

set_option maxHeartbeats 1000000 in
theorem containsFunc101_106 (A : Option Addr) (n c : Nat) (xs : List ByteArray) (w : World) (hp : TextPred 106 (fun x => !isTextS x) xs) (hx : Strs w A xs) (hl : xs.length = n) (hn : (n : Int) ≤ 1000000000) :
    Calls Tryz.prog 101 #[.slice A n c, .func (.func 106) #[] #[]] w fun e w' => e = .returned (.bool (xs.any (fun x => !isTextS x))) ∧ Ext w w' := by
  have HP := Lib.hid hp
  have HX := Lib.hid hx
  have HL := Lib.hid hl
  clear hp hx hl
  go_enter Tryz.func101, Tryz.ntmps101
  go_wp2_with fail
  refine (indexFunc129_106 A n c xs _ HP.out HX.out HL.out hn).mono ?_
  rintro e w1 ⟨i, rfl, hi, he⟩
  have HI := Lib.hid hi
  clear hi
  go_wp2_with fail
  go_ret
  exact ⟨ret_bool HI.out, he⟩
set_option maxHeartbeats 1000000 in
theorem indexFunc129_102 (A : Option Addr) (n c : Nat) (xs : List ByteArray) (w : World) (hp : TextPred 102 (fun x => decide ((100 : Int) < (x.size : Int))) xs) (hx : Strs w A xs) (hl : xs.length = n) (hn : (n : Int) ≤ 1000000000) :
    Calls Tryz.prog 129 #[.slice A n c, .func (.func 102) #[] #[]] w fun e w' => ∃ i, e = .returned (.int .i64 i) ∧ decide (0 ≤ i) = xs.any (fun x => decide ((100 : Int) < (x.size : Int))) ∧ Ext w w' := by
  have HP := Lib.hid hp
  have HX := Lib.hid hx
  have HL := Lib.hid hl
  clear hp hx hl
  go_enter Tryz.func129, Tryz.ntmps129
  go_wp2_with fail
  go_loopw [8] (fun i wr => ∃ k : Nat, k ≤ n ∧ i = .int .i64 k ∧ Hid (∀ j (h : j < xs.length), j < k → (fun x => decide ((100 : Int) < (x.size : Int))) xs[j] = false) ∧ Hid (Ext w wr)) (fun i _ => n - (intOf i).toNat)
  case atStart => exact ⟨0, Nat.zero_le _, rfl, fun j h hj => absurd hj (by omega), Ext.refl _⟩
  case round =>
    obtain ⟨k, hk, rfl, hall, he⟩ := hrel
    by_cases hlt : k < n
    · have lx : k < xs.length := by have := HL.out; omega
      obtain ⟨ad, hA, hcx⟩ := (HX.out.ext he.out) k lx
      subst hA
      go_wp2_with fail
      refine (HP.out _ (List.getElem_mem lx) _).mono ?_
      rintro e w1 ⟨rfl, he1⟩
      have HE1 := Lib.hid he1
      clear he1
      by_cases hb : (fun x => decide ((100 : Int) < (x.size : Int))) xs[k] = true
      · have hr : xs.any (fun x => decide ((100 : Int) < (x.size : Int))) = true := List.any_eq_true.2 ⟨_, List.getElem_mem lx, hb⟩
        have HR := Lib.hid hr
        clear hr
        go_wp2_with fail
        go_ret
        exact ⟨k, rfl, by rw [HR.out]; simp, he.out.trans HE1.out⟩
      · have hb : (fun x => decide ((100 : Int) < (x.size : Int))) xs[k] = false := by simpa using hb
        go_wp2_with fail
        go_roundw
        case rel =>
          refine ⟨k + 1, by omega, by go_num, fun j h hj => ?_, he.out.trans HE1.out⟩
          by_cases e : j < k
          · exact hall.out j h e
          · have : j = k := by omega
            subst this; exact hb
        case measure => simp [intOf]; omega
    · have hr : xs.any (fun x => decide ((100 : Int) < (x.size : Int))) = false := by
        rw [List.any_eq_false]
        intro x hx
        obtain ⟨i, hi, rfl⟩ := List.getElem_of_mem hx
        have := hall.out i hi (by have := HL.out; omega)
        simp [this]
      have HR := Lib.hid hr
      clear hr
      go_wp2_with fail
      go_ret
      exact ⟨-1, rfl, by rw [HR.out]; simp, he.out⟩

set_option maxHeartbeats 1000000 in
theorem containsFunc101_102 (A : Option Addr) (n c : Nat) (xs : List ByteArray) (w : World) (hp : TextPred 102 (fun x => decide ((100 : Int) < (x.size : Int))) xs) (hx : Strs w A xs) (hl : xs.length = n) (hn : (n : Int) ≤ 1000000000) :
    Calls Tryz.prog 101 #[.slice A n c, .func (.func 102) #[] #[]] w fun e w' => e = .returned (.bool (xs.any (fun x => decide ((100 : Int) < (x.size : Int))))) ∧ Ext w w' := by
  have HP := Lib.hid hp
  have HX := Lib.hid hx
  have HL := Lib.hid hl
  clear hp hx hl
  go_enter Tryz.func101, Tryz.ntmps101
  go_wp2_with fail
  refine (indexFunc129_102 A n c xs _ HP.out HX.out HL.out hn).mono ?_
  rintro e w1 ⟨i, rfl, hi, he⟩
  have HI := Lib.hid hi
  clear hi
  go_wp2_with fail
  go_ret
  exact ⟨ret_bool HI.out, he⟩
end Go.Proofs.YtkdbajpdcadliaaGreatDoor.Pg
