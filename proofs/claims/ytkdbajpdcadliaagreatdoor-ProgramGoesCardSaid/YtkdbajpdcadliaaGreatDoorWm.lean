/- Walks: Valid of both sides. -/
import Derived.Test.YtkdbajpdcadliaaGreatDoorWk
import Derived.Test.YtkdbajpdcadliaaGreatDoorWl
set_option linter.unusedVariables false
namespace Go.Proofs.YtkdbajpdcadliaaGreatDoor.Pg
open Go.RowKit

set_option maxHeartbeats 2000000 in
theorem valid72 (op a b many : Int) (T : Option Addr) (n c : Nat) (xs : List ByteArray) (q : Addr) (w : World) (hx : Strs w T xs) (hl : xs.length = n) (hb : Bd xs) (hq : w.cell? q = some (.int .i64 many)) :
    Calls Tryz.prog 72 #[.agg #[.int .i64 op, .int .i64 a, .int .i64 b, .slice T n c], .pointer (some q)] w fun e w' => e = .returned (.bool (!isStepS ⟨op, a, b, xs⟩ many)) ∧ Ext w w' := by
  have HX := Lib.hid hx
  have HL := Lib.hid hl
  have HB := Lib.hid hb
  clear hx hl hb
  have hq2 : ∀ o, (w.alloc o).cell? q = some (.int .i64 many) := fun o => (Ext.new w o).cell hq
  go_enter Tryz.func72, Tryz.ntmps72
  go_wp2_with fail
  refine (isStep73 _ _ _ _ _ _ _ _ _ (HX.out.ext (Ext.new _ _)) HL.out HB.out).mono ?_
  rintro e w1 ⟨rfl, he1⟩
  go_wp2_with fail
  go_ret
  exact ⟨ret_bool rfl, (Ext.new _ _).trans he1⟩

set_option maxHeartbeats 2000000 in
theorem indexFunc104 (many : Int) (q : Addr) (A : Option Addr) (n c : Nat) (ss : List Step) (w : World) (hq : w.cell? q = some (.int .i64 many)) (hx : StepsAt w A ss) (hl : ss.length = n) (hb : BdS ss) :
    Calls Tryz.prog 104 #[.slice A n c, .func (.func 72) #[] #[.pointer (some q)]] w fun e w' => ∃ i, e = .returned (.int .i64 i) ∧ decide (0 ≤ i) = (ss.any fun s => !isStepS s many) ∧ Ext w w' := by
  have HX := Lib.hid hx
  have HL := Lib.hid hl
  have HB := Lib.hid hb
  have HQ := Lib.hid hq
  have hn : (n : Int) ≤ 1000000000 := by rw [← hl]; exact hb.len
  clear hx hl hb hq
  go_enter Tryz.func104, Tryz.ntmps104
  go_wp2_with fail
  go_loopw [8] (fun i wr => ∃ k : Nat, k ≤ n ∧ i = .int .i64 k ∧ Hid (∀ j (h : j < ss.length), j < k → (fun s => !isStepS s many) ss[j] = false) ∧ Hid (Ext w wr)) (fun i _ => n - (intOf i).toNat)
  case atStart => exact ⟨0, Nat.zero_le _, rfl, fun j h hj => absurd hj (by omega), Ext.refl _⟩
  case round =>
    obtain ⟨k, hk, rfl, hall, he⟩ := hrel
    by_cases hlt : k < n
    · have lx : k < ss.length := by have := HL.out; omega
      obtain ⟨ad, T, c', hA, hc0, hc1, hc2, hc3, hcc, hT⟩ := (HX.out.ext he.out) k lx
      subst hA
      have HT := Lib.hid hT
      clear hT
      go_wp2_with fail
      refine (valid72 _ _ _ many _ _ _ _ q _ HT.out rfl (HB.out.at_ k lx) (he.out.cell HQ.out)).mono ?_
      rintro e w1 ⟨rfl, he1⟩
      have HE1 := Lib.hid he1
      clear he1
      by_cases hb : (fun s => !isStepS s many) ss[k] = true
      · have hr : ss.any (fun s => !isStepS s many) = true := List.any_eq_true.2 ⟨_, List.getElem_mem lx, hb⟩
        have HR := Lib.hid hr
        clear hr
        replace hb : isStepS ⟨ss[k].op, ss[k].a, ss[k].b, ss[k].texts⟩ many = false := by simpa using hb
        go_wp2_with fail
        go_ret
        exact ⟨k, rfl, by rw [HR.out]; simp, he.out.trans HE1.out⟩
      · have hb0 : (fun s => !isStepS s many) ss[k] = false := by simpa using hb
        replace hb : isStepS ⟨ss[k].op, ss[k].a, ss[k].b, ss[k].texts⟩ many = true := by simpa using hb
        have HB0 := Lib.hid hb0
        clear hb0
        go_wp2_with fail
        go_roundw
        case rel =>
          refine ⟨k + 1, by omega, by go_num, fun j h hj => ?_, he.out.trans HE1.out⟩
          by_cases e : j < k
          · exact hall.out j h e
          · have : j = k := by omega
            subst this; exact HB0.out
        case measure => simp [intOf]; omega
    · have hr : ss.any (fun s => !isStepS s many) = false := by
        rw [List.any_eq_false]
        intro x hx
        obtain ⟨i, hi, rfl⟩ := List.getElem_of_mem hx
        have := hall.out i hi (by have := HL.out; omega)
        simpa using this
      have HR := Lib.hid hr
      clear hr
      go_wp2_with fail
      go_ret
      exact ⟨-1, rfl, by rw [HR.out]; simp, he.out⟩

set_option maxHeartbeats 2000000 in
theorem containsFunc71 (many : Int) (q : Addr) (A : Option Addr) (n c : Nat) (ss : List Step) (w : World) (hq : w.cell? q = some (.int .i64 many)) (hx : StepsAt w A ss) (hl : ss.length = n) (hb : BdS ss) :
    Calls Tryz.prog 71 #[.slice A n c, .func (.func 72) #[] #[.pointer (some q)]] w fun e w' => e = .returned (.bool (ss.any fun s => !isStepS s many)) ∧ Ext w w' := by
  have HX := Lib.hid hx
  have HL := Lib.hid hl
  have HB := Lib.hid hb
  have HQ := Lib.hid hq
  clear hx hl hb hq
  go_enter Tryz.func71, Tryz.ntmps71
  go_wp2_with fail
  refine (indexFunc104 many q A n c ss _ HQ.out HX.out HL.out HB.out).mono ?_
  rintro e w1 ⟨i, rfl, hi, he⟩
  have HI := Lib.hid hi
  clear hi
  go_wp2_with fail
  go_ret
  exact ⟨ret_bool HI.out, he⟩

theorem any_not {ss : List Step} (m : Int) : (ss.any fun s => !isStepS s m) = !(ss.all fun s => isStepS s m) := by
  rw [List.all_eq_not_any_not, Bool.not_not]

set_option maxHeartbeats 2000000 in
theorem valid35 (nm : ByteArray) (A : Option Addr) (n c : Nat) (ss : List Step) (w : World) (hx : StepsAt w A ss) (hl : ss.length = n) (hb : BdS ss) (hnm : (nm.size : Int) ≤ 1000000000) :
    Calls Tryz.prog 35 #[.agg #[.string nm, .slice A n c]] w fun e w' => e = .returned (.bool (validS ⟨nm, ss⟩)) ∧ Ext w w' := by
  have HX := Lib.hid hx
  have HL := Lib.hid hl
  have HB := Lib.hid hb
  have hn : (n : Int) ≤ 1000000000 := by rw [← hl]; exact hb.len
  clear hx hl hb
  have hS : validS ⟨nm, ss⟩ = (isNameS nm && decide (1 ≤ (n : Int)) && decide ((n : Int) ≤ 40) && ss.all fun s => isStepS s n) := by
    have e1 : decide (1 ≤ n) = decide (1 ≤ (n : Int)) := decide_eq_decide.2 (by omega)
    have e2 : decide (n ≤ 40) = decide ((n : Int) ≤ 40) := decide_eq_decide.2 (by omega)
    simp only [validS, HL.out, e1, e2]
  have HS := Lib.hid hS
  clear hS
  by_cases h0 : isNameS nm = true
  · by_cases h1 : 1 ≤ (n : Int)
    · by_cases h2 : (n : Int) ≤ 40
      · have hf : validS ⟨nm, ss⟩ = ss.all fun s => isStepS s n := by rw [HS.out]; simp only [h0, decide_eq_true h1, decide_eq_true h2, Bool.true_and]
        have H := Lib.hid hf
        clear hf
        go_enter Tryz.func35, Tryz.ntmps35
        go_wp2_with fail
        refine (isName70 _ _ (le_max hnm)).mono ?_
        rintro e w1 ⟨rfl, rfl⟩
        go_wp2_with fail
        refine (containsFunc71 n _ A n c ss _ ?_ ((HX.out.ext (Ext.new _ _)).ext (Ext.new _ _)) HL.out HB.out).mono ?_
        · have := (Cells.new (w.alloc (.cells #[.string nm, .slice A n c] 24)) [.int .i64 (n : Int)] 3).c0
          rwa [World.size_alloc] at this
        · rintro e w1 ⟨rfl, he⟩
          go_wp2_with fail
          go_ret
          exact ⟨ret_bool (by rw [H.out, any_not]; simp), (Ext.new _ _).trans ((Ext.new _ _).trans he)⟩
      · have hf : validS ⟨nm, ss⟩ = false := by rw [HS.out]; simp only [decide_eq_false h2, Bool.and_false, Bool.false_and]
        have H := Lib.hid hf
        clear hf
        go_enter Tryz.func35, Tryz.ntmps35
        go_wp2_with fail
        refine (isName70 _ _ (le_max hnm)).mono ?_
        rintro e w1 ⟨rfl, rfl⟩
        go_wp2_with fail
        go_ret
        exact ⟨ret_bool H.out.symm, (Ext.new _ _).trans (Ext.new _ _)⟩
    · have hf : validS ⟨nm, ss⟩ = false := by rw [HS.out]; simp only [decide_eq_false h1, Bool.and_false, Bool.false_and]
      have H := Lib.hid hf
      clear hf
      go_enter Tryz.func35, Tryz.ntmps35
      go_wp2_with fail
      refine (isName70 _ _ (le_max hnm)).mono ?_
      rintro e w1 ⟨rfl, rfl⟩
      go_wp2_with fail
      go_ret
      exact ⟨ret_bool H.out.symm, (Ext.new _ _).trans (Ext.new _ _)⟩
  · replace h0 : isNameS nm = false := by simpa using h0
    have hf : validS ⟨nm, ss⟩ = false := by rw [HS.out]; simp only [h0, Bool.false_and]
    have H := Lib.hid hf
    clear hf
    go_enter Tryz.func35, Tryz.ntmps35
    go_wp2_with fail
    refine (isName70 _ _ (le_max hnm)).mono ?_
    rintro e w1 ⟨rfl, rfl⟩
    go_wp2_with fail
    go_ret
    exact ⟨ret_bool H.out.symm, (Ext.new _ _).trans (Ext.new _ _)⟩

set_option maxRecDepth 100000 in
set_option maxHeartbeats 2000000 in
theorem valid21 (nm : ByteArray) (A : Option Addr) (n c : Nat) (ss : List Step) (w : World) (hx : StepsAt w A ss) (hl : ss.length = n) (hb : BdS ss) (hnm : (nm.size : Int) ≤ 1000000000) :
    Calls Tryz.prog 21 #[.agg #[.string nm, .slice A n c]] w fun e w' => e = .returned (.bool (validS ⟨nm, ss⟩)) ∧ Ext w w' := by
  have HX := Lib.hid hx
  have HL := Lib.hid hl
  have HB := Lib.hid hb
  have hn : (n : Int) ≤ 1000000000 := by rw [← hl]; exact hb.len
  clear hx hl hb
  have hS : validS ⟨nm, ss⟩ = (isNameS nm && decide (1 ≤ (n : Int)) && decide ((n : Int) ≤ 40) && ss.all fun s => isStepS s n) := by
    have e1 : decide (1 ≤ n) = decide (1 ≤ (n : Int)) := decide_eq_decide.2 (by omega)
    have e2 : decide (n ≤ 40) = decide ((n : Int) ≤ 40) := decide_eq_decide.2 (by omega)
    simp only [validS, HL.out, e1, e2]
  have HS := Lib.hid hS
  clear hS
  by_cases h0 : isNameS nm = true
  · by_cases h1 : 1 ≤ (n : Int)
    · by_cases h2 : (n : Int) ≤ 40
      · have hf : validS ⟨nm, ss⟩ = ss.all fun s => isStepS s n := by rw [HS.out]; simp only [h0, decide_eq_true h1, decide_eq_true h2, Bool.true_and]
        have H := Lib.hid hf
        clear hf
        go_enter Tryz.func21, Tryz.ntmps21
        go_wp2_with fail
        refine (isName56 _ _ (le_max hnm)).mono ?_
        rintro e w1 ⟨rfl, rfl⟩
        go_wp2_with fail
        have K := Lib.hid (Cells.new w [.string nm, .slice A n c] 24)
        go_loopw [3] (fun i wr => ∃ k : Nat, k ≤ n ∧ i = .int .i64 k ∧ Hid (∀ j (h : j < ss.length), j < k → isStepS ss[j] n = true) ∧ Hid (Ext (w.alloc (.cells #[.string nm, .slice A n c] 24)) wr)) (fun i _ => n - (intOf i).toNat)
        case atStart => exact ⟨0, Nat.zero_le _, rfl, fun j h hj => absurd hj (by omega), Ext.refl _⟩
        case round =>
          obtain ⟨k, hk, rfl, hall, he⟩ := hrel
          have k0 := (K.out.ext he.out).c0
          have k1 := (K.out.ext he.out).c1
          by_cases hlt : k < n
          · have lx : k < ss.length := by have := HL.out; omega
            obtain ⟨ad, T, c', hA, hc0, hc1, hc2, hc3, hcc, hT⟩ := (HX.out.ext ((Ext.new _ _).trans he.out)) k lx
            subst hA
            have HT := Lib.hid hT
            clear hT
            go_wp2_with fail
            go_still_tail 8, (by kernel_rfl)
            change wpList _ _ _ _ _ wr.drew
            have he2 : Ext (w.alloc (.cells #[.string nm, .slice (some ad) n c] 24)) wr.drew := Below.drew he.out
            have HE2 := Lib.hid he2
            have HT2 := Lib.hid (HT.out.ext (Below.drew (Ext.refl wr)))
            clear he2
            generalize wr.drew = w2 at HE2 HT2
            go_wp2_with fail
            refine (isStep57 _ _ _ _ _ _ _ _ _ HT2.out rfl (HB.out.at_ k lx)).mono ?_
            rintro e w3 ⟨rfl, he3⟩
            have HE3 := Lib.hid he3
            clear he3
            by_cases hb : isStepS ss[k] n = true
            · have hb2 : isStepS ⟨ss[k].op, ss[k].a, ss[k].b, ss[k].texts⟩ n = true := hb
              have HB2 := Lib.hid hb
              clear hb
              go_wp2_with fail
              go_roundw
              case rel =>
                refine ⟨k + 1, by omega, by go_num, fun j h hj => ?_, HE2.out.trans HE3.out⟩
                by_cases e : j < k
                · exact hall.out j h e
                · have : j = k := by omega
                  subst this; exact HB2.out
              case measure => simp [intOf]; omega
            · have hb2 : isStepS ⟨ss[k].op, ss[k].a, ss[k].b, ss[k].texts⟩ n = false := by simpa using hb
              have hr : (ss.all fun s => isStepS s n) = false := by
                rw [List.all_eq_false]
                exact ⟨_, List.getElem_mem lx, hb⟩
              have HR := Lib.hid hr
              clear hb hr
              go_wp2_with fail
              go_ret
              exact ⟨ret_bool (by rw [H.out, HR.out]), (Ext.new _ _).trans (HE2.out.trans HE3.out)⟩
          · have hr : (ss.all fun s => isStepS s n) = true := by
              rw [List.all_eq_true]
              intro x hx
              obtain ⟨i, hi, rfl⟩ := List.getElem_of_mem hx
              exact hall.out i hi (by have := HL.out; omega)
            have HR := Lib.hid hr
            clear hr
            go_wp2_with fail
            go_ret
            exact ⟨ret_bool (by rw [H.out, HR.out]), (Ext.new _ _).trans he.out⟩
      · have hf : validS ⟨nm, ss⟩ = false := by rw [HS.out]; simp only [decide_eq_false h2, Bool.and_false, Bool.false_and]
        have H := Lib.hid hf
        clear hf
        go_enter Tryz.func21, Tryz.ntmps21
        go_wp2_with fail
        refine (isName56 _ _ (le_max hnm)).mono ?_
        rintro e w1 ⟨rfl, rfl⟩
        go_wp2_with fail
        go_ret
        exact ⟨ret_bool H.out.symm, (Ext.new _ _)⟩
    · have hf : validS ⟨nm, ss⟩ = false := by rw [HS.out]; simp only [decide_eq_false h1, Bool.and_false, Bool.false_and]
      have H := Lib.hid hf
      clear hf
      go_enter Tryz.func21, Tryz.ntmps21
      go_wp2_with fail
      refine (isName56 _ _ (le_max hnm)).mono ?_
      rintro e w1 ⟨rfl, rfl⟩
      go_wp2_with fail
      go_ret
      exact ⟨ret_bool H.out.symm, (Ext.new _ _)⟩
  · replace h0 : isNameS nm = false := by simpa using h0
    have hf : validS ⟨nm, ss⟩ = false := by rw [HS.out]; simp only [h0, Bool.false_and]
    have H := Lib.hid hf
    clear hf
    go_enter Tryz.func21, Tryz.ntmps21
    go_wp2_with fail
    refine (isName56 _ _ (le_max hnm)).mono ?_
    rintro e w1 ⟨rfl, rfl⟩
    go_wp2_with fail
    go_ret
    exact ⟨ret_bool H.out.symm, (Ext.new _ _)⟩
end Go.Proofs.YtkdbajpdcadliaaGreatDoor.Pg
