/- Walks: smallRun of the law. · Walks: Small of the law. -/
import Derived.Test.YtkdbajpdcadliaaGreatDoorWx
set_option linter.unusedVariables false
namespace Go.Proofs.YtkdbajpdcadliaaGreatDoor.Pg
open Go.RowKit

/-- Texts as long as they may be. -/
structure BdL (xs : List ByteArray) : Prop where
  len : (xs.length : Int) ≤ 9223372036854775807
  each : ∀ x ∈ xs, (x.size : Int) ≤ 9223372036854775807
theorem BdL.at_ {xs : List ByteArray} (h : BdL xs) (i : Nat) (hi : i < xs.length) : (xs[i].size : Int) ≤ 9223372036854775807 := h.each _ (List.getElem_mem hi)
def smallRunS (xs : List ByteArray) : Bool := decide ((xs.length : Int) ≤ 20) && !(xs.any fun x => decide ((200 : Int) < (x.size : Int)))

set_option maxRecDepth 100000 in
set_option maxHeartbeats 2000000 in
theorem smallRun13 (place count over : Int) (T : Option Addr) (k d : Nat) (xs : List ByteArray) (st : ByteArray) (w : World) (hx : Strs w T xs) (hl : xs.length = k) (hb : BdL xs) :
    Calls Tryz.prog 13 #[runV place T k d st count over] w fun e w' => e = .returned (.bool (smallRunS xs)) ∧ Ext w w' := by
  have HX := Lib.hid hx
  have HL := Lib.hid hl
  have HB := Lib.hid hb
  have hk : (k : Int) ≤ 9223372036854775807 := by have := hb.len; omega
  have EA := Lib.hid (Ext.new w (.cells #[.int .i64 place, .slice T k d, .string st, .int .i64 count, .int .i64 over] 27))
  have hS : smallRunS xs = (decide ((k : Int) ≤ 20) && !(xs.any fun x => decide ((200 : Int) < (x.size : Int)))) := by unfold smallRunS; rw [hl]
  unfold runV
  rw [hS]
  clear hx hl hb hS
  go_enter Tryz.func13, Tryz.ntmps13
  go_wp2_with fail
  have KR := Lib.hid (Blk.new w [.int .i64 place, .slice T k d, .string st, .int .i64 count, .int .i64 over] 27)
  go_loop [3] (fun i => ∃ j : Nat, j ≤ k ∧ i = .int .i64 j ∧ Hid (∀ q (h : q < xs.length), q < j → ¬ (200 : Int) < (xs[q].size : Int))) (fun i => k - (intOf i).toNat)
  case atStart => exact ⟨0, Nat.zero_le _, rfl, fun q h hq => absurd hq (by omega)⟩
  case round =>
    obtain ⟨j, hj, rfl, hall⟩ := hrel
    by_cases hlt : j < k
    · have lx : j < xs.length := by have := HL.out; omega
      obtain ⟨ad, hA, hc⟩ := (HX.out.ext EA.out) j lx
      subst hA
      have sx := HB.out.at_ j lx
      by_cases hbig : (200 : Int) < (xs[j].size : Int)
      · have hany : (xs.any fun x => decide ((200 : Int) < (x.size : Int))) = true := List.any_eq_true.2 ⟨_, List.getElem_mem lx, decide_eq_true hbig⟩
        have HN := Lib.hid hany
        clear hany
        go_wp2
        go_ret
        exact ⟨ret_bool (by rw [HN.out, Bool.not_true, Bool.and_false]), EA.out⟩
      · have HBG := Lib.hid hbig
        go_wp2
        go_round
        case rel =>
          refine ⟨j + 1, by omega, by go_num, fun q h hq => ?_⟩
          by_cases e : q < j
          · exact hall.out q h e
          · obtain rfl : q = j := by omega
            exact HBG.out
        case measure => simp [intOf]; omega
    · have hany : (xs.any fun x => decide ((200 : Int) < (x.size : Int))) = false := by
        rw [List.any_eq_false]
        intro x hx
        obtain ⟨q, hq, rfl⟩ := List.getElem_of_mem hx
        simpa using hall.out q hq (by have := HL.out; omega)
      have HN := Lib.hid hany
      clear hany
      by_cases h20 : (k : Int) ≤ 20
      · have B20 : decide ((k : Int) ≤ 20) = true := decide_eq_true h20
        go_wp2
        go_ret
        exact ⟨ret_bool (by simp [HN.out]), EA.out⟩
      · have B20 : decide ((k : Int) ≤ 20) = false := decide_eq_false h20
        go_wp2
        go_ret
        exact ⟨ret_bool (by simp []), EA.out⟩
end Go.Proofs.YtkdbajpdcadliaaGreatDoor.Pg

set_option linter.unusedVariables false
namespace Go.Proofs.YtkdbajpdcadliaaGreatDoor.Pg
open Go.RowKit

structure BdLS (ss : List Step) : Prop where
  len : (ss.length : Int) ≤ 9223372036854775807
  each : ∀ s ∈ ss, BdL s.texts
theorem BdLS.at_ {ss : List Step} (h : BdLS ss) (i : Nat) (hi : i < ss.length) : BdL ss[i].texts := h.each _ (List.getElem_mem hi)
def smallStep (s : Step) : Bool := decide ((s.texts.length : Int) ≤ 10) && !(s.texts.any fun x => decide ((200 : Int) < (x.size : Int)))
def smallS (p : Prog) : Bool := (p.steps.all smallStep) && (decide ((p.steps.length : Int) ≤ 60) && decide ((p.name.size : Int) ≤ 200))

set_option maxRecDepth 100000 in
set_option maxHeartbeats 4000000 in
theorem small12 (nm : ByteArray) (A : Option Addr) (n c : Nat) (ss : List Step) (w : World) (hx : StepsAt w A ss) (hl : ss.length = n) (hb : BdLS ss) (hnm : (nm.size : Int) ≤ 9223372036854775807) :
    Calls Tryz.prog 12 #[.agg #[.string nm, .slice A n c]] w fun e w' => e = .returned (.bool (smallS ⟨nm, ss⟩)) ∧ Ext w w' := by
  have HX := Lib.hid hx
  have HL := Lib.hid hl
  have HB := Lib.hid hb
  have hn : (n : Int) ≤ 9223372036854775807 := by rw [← hl]; exact hb.len
  have EA := Lib.hid (Ext.new w (.cells #[.string nm, .slice A n c] 24))
  have hS : smallS ⟨nm, ss⟩ = ((ss.all smallStep) && (decide ((n : Int) ≤ 60) && decide ((nm.size : Int) ≤ 200))) := by unfold smallS; rw [← hl]
  rw [hS]
  clear hx hl hb hS
  go_enter Tryz.func12, Tryz.ntmps12
  go_wp2_with fail
  go_loop [3] (fun i => ∃ j : Nat, j ≤ n ∧ i = .int .i64 j ∧ Hid (∀ q (h : q < ss.length), q < j → smallStep ss[q] = true)) (fun i => n - (intOf i).toNat)
  case atStart => exact ⟨0, Nat.zero_le _, rfl, fun q h hq => absurd hq (by omega)⟩
  case round =>
    obtain ⟨j, hj, rfl, hall⟩ := hrel
    by_cases hlt : j < n
    · have lx : j < ss.length := by have := HL.out; omega
      obtain ⟨ad, T, c', hA, hc0, hc1, hc2, hc3, hcc, hT⟩ := (HX.out.ext EA.out) j lx
      subst hA
      have HT := Lib.hid hT
      have hbt := (HB.out.at_ j lx).len
      have HBT := Lib.hid (HB.out.at_ j lx)
      clear hT
      by_cases h10 : (10 : Int) < (ss[j].texts.length : Int)
      · have hs1 : smallStep ss[j] = false := by unfold smallStep; rw [decide_eq_false (by omega)]; rfl
        have hr : ss.all smallStep = false := by rw [List.all_eq_false]; exact ⟨_, List.getElem_mem lx, by rw [hs1]; decide⟩
        have HR := Lib.hid hr
        clear hs1 hr
        go_wp2_with fail
        go_ret
        exact ⟨ret_bool (by rw [HR.out, Bool.false_and]), EA.out⟩
      · go_wp2_with fail
        go_loop [4] (fun i => ∃ m : Nat, m ≤ ss[j].texts.length ∧ i = .int .i64 m ∧ Hid (∀ q (h : q < ss[j].texts.length), q < m → ¬ (200 : Int) < (ss[j].texts[q].size : Int))) (fun i => ss[j].texts.length - (intOf i).toNat)
        case atStart => exact ⟨0, Nat.zero_le _, rfl, fun q h hq => absurd hq (by omega)⟩
        case round =>
          obtain ⟨m, hm, rfl, hin⟩ := hrel
          by_cases hlm : m < ss[j].texts.length
          · obtain ⟨ad2, hA2, hcx⟩ := HT.out m hlm
            subst hA2
            have sx := HBT.out.at_ m hlm
            by_cases hbig : (200 : Int) < (ss[j].texts[m].size : Int)
            · have hs1 : smallStep ss[j] = false := by
                unfold smallStep
                rw [List.any_eq_true.2 ⟨_, List.getElem_mem hlm, decide_eq_true hbig⟩, Bool.not_true, Bool.and_false]
              have hr : ss.all smallStep = false := by rw [List.all_eq_false]; exact ⟨_, List.getElem_mem lx, by rw [hs1]; decide⟩
              have HR := Lib.hid hr
              clear hs1 hr
              go_wp2_with fail
              go_ret
              exact ⟨ret_bool (by rw [HR.out, Bool.false_and]), EA.out⟩
            · have HBG := Lib.hid hbig
              go_wp2_with fail
              go_round
              case rel =>
                refine ⟨m + 1, by omega, by go_num, fun q h hq => ?_⟩
                by_cases e : q < m
                · exact hin.out q h e
                · obtain rfl : q = m := by omega
                  exact HBG.out
              case measure => simp [intOf]; omega
          · have hs1 : smallStep ss[j] = true := by
              unfold smallStep
              have ha : (ss[j].texts.any fun x => decide ((200 : Int) < (x.size : Int))) = false := by
                rw [List.any_eq_false]
                intro x hx
                obtain ⟨q, hq, rfl⟩ := List.getElem_of_mem hx
                simpa using hin.out q hq (by omega)
              rw [ha, decide_eq_true (by omega)]
              rfl
            have HS1 := Lib.hid hs1
            clear hs1
            go_wp2_with fail
            go_round
            case rel =>
              refine ⟨j + 1, by omega, by go_num, fun q h hq => ?_⟩
              by_cases e : q < j
              · exact hall.out q h e
              · obtain rfl : q = j := by omega
                exact HS1.out
            case measure => simp [intOf]; omega
    · have hr : ss.all smallStep = true := by
        rw [List.all_eq_true]
        intro x hx
        obtain ⟨q, hq, rfl⟩ := List.getElem_of_mem hx
        exact hall.out q hq (by have := HL.out; omega)
      have HR := Lib.hid hr
      clear hr
      by_cases h60 : (n : Int) ≤ 60
      · by_cases h200 : (nm.size : Int) ≤ 200
        · go_wp2_with fail
          go_ret
          exact ⟨ret_bool (by simp [HR.out] <;> omega), EA.out⟩
        · go_wp2_with fail
          go_ret
          exact ⟨ret_bool (by simp [HR.out] <;> omega), EA.out⟩
      · go_wp2_with fail
        go_ret
        exact ⟨ret_bool (by simp [HR.out] <;> omega), EA.out⟩
theorem small_bd {nm : ByteArray} {ss : List Step} (h : smallS ⟨nm, ss⟩ = true) : BdS ss ∧ (nm.size : Int) ≤ 200 := by
  unfold smallS at h
  simp only [Bool.and_eq_true, List.all_eq_true, decide_eq_true_eq] at h
  obtain ⟨h1, h2, h3⟩ := h
  refine ⟨⟨by omega, fun s hs => ?_⟩, h3⟩
  have := h1 s hs
  unfold smallStep at this
  simp only [Bool.and_eq_true, decide_eq_true_eq, Bool.not_eq_true', List.any_eq_false] at this
  exact ⟨by omega, fun x hx => by have := this.2 x hx; omega⟩
theorem smallRun_bd {xs : List ByteArray} (h : smallRunS xs = true) : Bd xs := by
  unfold smallRunS at h
  simp only [Bool.and_eq_true, decide_eq_true_eq, Bool.not_eq_true', List.any_eq_false] at h
  exact ⟨by omega, fun x hx => by have := h.2 x hx; omega⟩
end Go.Proofs.YtkdbajpdcadliaaGreatDoor.Pg
