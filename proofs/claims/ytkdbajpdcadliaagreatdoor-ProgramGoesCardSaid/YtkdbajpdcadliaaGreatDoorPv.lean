/- Plain: a run of a program is over, or at a place that is reached. -/
import Derived.Test.YtkdbajpdcadliaaGreatDoorPr
import Derived.Test.YtkdbajpdcadliaaGreatDoorPs
set_option linter.unusedVariables false
namespace Go.Proofs.YtkdbajpdcadliaaGreatDoor.Pg

def There (P : Prog) (r : RunS) : Prop := r.over ≠ 0 ∨ Re P.steps r.place.toNat
theorem stepAt_get {P : Prog} {i : Int} (h1 : i.toNat < P.steps.length) : stepAt P i = P.steps[i.toNat] := by
  unfold stepAt
  rw [List.getD_eq_getElem?_getD, List.getElem?_eq_getElem h1]
  rfl
theorem leads_next {P : Prog} {i : Int} (h0 : 0 ≤ i) (h1 : i < P.steps.length) (h : ¬ ((stepAt P i).op = 7 ∨ (stepAt P i).op = 12 ∨ (stepAt P i).op = 13)) : Leads P.steps i.toNat (i + 1).toNat := by
  have hi : i.toNat < P.steps.length := by omega
  rw [stepAt_get hi] at h
  exact ⟨hi, .inl ⟨h, by omega⟩⟩
theorem leads_b {P : Prog} {i : Int} (h0 : 0 ≤ i) (h1 : i < P.steps.length) (h : 5 ≤ (stepAt P i).op ∧ (stepAt P i).op ≤ 7) (hb : 0 ≤ (stepAt P i).b) : Leads P.steps i.toNat (stepAt P i).b.toNat := by
  have hi : i.toNat < P.steps.length := by omega
  refine ⟨hi, .inr ?_⟩
  rw [stepAt_get hi] at h hb ⊢
  exact ⟨h, by omega⟩
theorem alone_re {P : Prog} {r q : RunS} (hs : StepOk (stepAt P r.place) P.steps.length) (h0 : 0 ≤ r.place) (h1 : r.place < P.steps.length) (hr : Re P.steps r.place.toNat) (h : aloneS (stepAt P r.place) r = some q) : Re P.steps q.place.toNat := by
  unfold aloneS at h
  split at h
  · rename_i e
    cases h
    exact .step _ _ hr (leads_next h0 h1 (by omega))
  split at h
  · rename_i e
    cases h
    exact .step _ _ hr (leads_next h0 h1 (by omega))
  split at h
  · rename_i e
    cases h
    have hb := place_of hs (.inl e)
    show Re P.steps (if r.status = headT (stepAt P r.place).texts then (stepAt P r.place).b else r.place + 1).toNat
    split
    · exact .step _ _ hr (leads_b h0 h1 (by omega) hb.1)
    · exact .step _ _ hr (leads_next h0 h1 (by omega))
  split at h
  · rename_i e
    cases h
    have hb := place_of hs (.inr (.inl e))
    show Re P.steps (if varAt r.vars (stepAt P r.place).a = fillS r.vars (headT (stepAt P r.place).texts) then (stepAt P r.place).b else r.place + 1).toNat
    split
    · exact .step _ _ hr (leads_b h0 h1 (by omega) hb.1)
    · exact .step _ _ hr (leads_next h0 h1 (by omega))
  split at h
  · rename_i e
    cases h
    have hb := place_of hs (.inr (.inr e))
    exact .step _ _ hr (leads_b h0 h1 (by omega) hb.1)
  · cases h
theorem wantF_there {P : Prog} (hv : ∀ s ∈ P.steps, StepOk s P.steps.length) : ∀ (f : Nat) (r : RunS), RunOk P.steps.length r → There P r → There P (wantF f P r).1
  | 0, r, hr, ht => ht
  | f + 1, r, hr, ht => by
    unfold wantF
    by_cases ho : overN P.steps.length r = 0
    · rw [if_neg (by omega)]
      obtain ⟨o1, o2, o3⟩ := over0 ho hr
      cases ha : aloneS (stepAt P r.place) r with
      | some q =>
        simp only []
        obtain ⟨hq, hc, he⟩ := aloneS_ok hr (stepAt_ok hv hr.p0 o2) o2 o3 ha
        refine wantF_there hv f q hq (.inr ?_)
        refine alone_re (stepAt_ok hv hr.p0 o2) hr.p0 o2 ?_ ha
        rcases ht with k | k
        · exact absurd o1 k
        · exact k
      | none => exact ht
    · rw [if_pos ho]
      exact .inl ho
theorem wantS_there {P : Prog} (hv : validS P = true) {r : RunS} (hr : RunOk P.steps.length r) (ht : There P r) : There P (wantS P r).1 :=
  wantF_there (validOk hv).each _ r hr ht
theorem alone_of {s : Step} {r : RunS} (h : ¬ (3 ≤ s.op ∧ s.op ≤ 7)) : aloneS s r = none := by
  unfold aloneS
  rw [if_neg (by omega), if_neg (by omega), if_neg (by omega), if_neg (by omega), if_neg (by omega)]
theorem giveS_there {P : Prog} (hv : validS P = true) {r gr : RunS} {st t : ByteArray} (hr : RunOk P.steps.length r) (ht : There P r) (h : giveS P r st t = (gr, 0)) : RunOk P.steps.length gr ∧ There P gr := by
  have h9 := h
  unfold giveS at h
  rw [if_neg (by rw [asked_zero hv hr]; simp)] at h
  by_cases hb : giveBad P r st t = true
  · rw [if_pos hb] at h
    have := congrArg Prod.snd h
    simp at this
  · rw [if_neg hb] at h
    have hb2 : giveBad P r st t = false := by simpa using hb
    unfold giveBad at hb2
    simp only [Bool.or_eq_false_iff, decide_eq_false_iff_not] at hb2
    obtain ⟨⟨⟨b1, b2⟩, b3⟩, b4⟩ := hb2
    have hr3 : overN P.steps.length r = 0 := by omega
    obtain ⟨o1, o2, o3⟩ := over0 hr3 hr
    have hok := give_ok hv hr (st := st) (text := t) (by omega) (by omega) hr3 (alone_of b4)
    rw [h9] at hok
    refine ⟨hok.2.2, ?_⟩
    have e : giveRun (stepAt P r.place) r st t = gr := congrArg Prod.fst h
    subst e
    have hre : Re P.steps r.place.toNat := by
      rcases ht with k | k
      · exact absurd o1 k
      · exact k
    by_cases e1 : (stepAt P r.place).op = 12
    · left
      show giveOver _ _ ≠ 0
      unfold giveOver
      rw [if_pos e1]
      decide
    by_cases e2 : (stepAt P r.place).op = 13
    · left
      show giveOver _ _ ≠ 0
      unfold giveOver
      rw [if_neg e1, if_pos e2]
      decide
    · right
      exact .step _ _ hre (leads_next hr.p0 o2 (by omega))
theorem re_in {ss : List Step} {bs : List Bool} (h : Marks ss bs) {i : Nat} (hi : i < ss.length) (hr : Re ss i) : (i : Int) ∈ placesU bs ss.length := by
  unfold placesU
  rw [List.mem_map]
  exact ⟨i, by rw [List.mem_filter]; exact ⟨List.mem_range.2 hi, (h i hi).2 hr⟩, rfl⟩
theorem there_in {P : Prog} {bs : List Bool} (h : Marks P.steps bs) {q : RunS} (hq : RunOk P.steps.length q) (ht : There P q) : q.over ≠ 0 ∨ q.place = P.steps.length ∨ q.place ∈ placesU bs P.steps.length := by
  rcases ht with k | k
  · exact .inl k
  · by_cases e : q.place = P.steps.length
    · exact .inr (.inl e)
    · have h0 := hq.p0
      have h1 := hq.p1
      have := re_in h (i := q.place.toNat) (by omega) k
      rw [show ((q.place.toNat : Nat) : Int) = q.place by omega] at this
      exact .inr (.inr this)
/-- The run is over, or its place is among the first k. -/
def seenB (q : RunS) (n : Nat) (l : List Int) (k : Nat) : Bool := decide (q.over ≠ 0 ∨ q.place = n) || decide (q.place ∈ l.take k)
theorem seenB_zero (q : RunS) (n : Nat) (l : List Int) : seenB q n l 0 = decide (q.over ≠ 0 ∨ q.place = n) := by
  unfold seenB
  simp
theorem seenB_succ {q : RunS} {n : Nat} {l : List Int} {k : Nat} (h : k < l.length) : seenB q n l (k + 1) = (seenB q n l k || decide (l[k] = q.place)) := by
  unfold seenB
  rw [List.take_succ_eq_append_getElem h, Bool.or_assoc]
  congr 1
  rw [← Bool.decide_or]
  refine decide_eq_decide.2 ?_
  rw [List.mem_append, List.mem_singleton]
  exact or_congr Iff.rfl ⟨fun e => e.symm, fun e => e.symm⟩
theorem seenB_all {P : Prog} {bs : List Bool} (h : Marks P.steps bs) {q : RunS} (hq : RunOk P.steps.length q) (ht : There P q) : seenB q P.steps.length (placesU bs P.steps.length) (placesU bs P.steps.length).length = true := by
  unfold seenB
  rw [List.take_length]
  rcases there_in h hq ht with k | k | k
  · simp [k]
  · simp [k]
  · simp [k]
end Go.Proofs.YtkdbajpdcadliaaGreatDoor.Pg
