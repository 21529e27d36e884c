/- Plain: the places of a program that are reached: what both sides keep on their way, and what that comes to. -/
import Derived.Test.YtkdbajpdcadliaaGreatDoorSp
set_option linter.unusedVariables false
namespace Go.Proofs.YtkdbajpdcadliaaGreatDoor.Pg

/-- A step leads from place i to place j. -/
def Leads (ss : List Step) (i j : Nat) : Prop :=
  ∃ h : i < ss.length, (¬ (ss[i].op = 7 ∨ ss[i].op = 12 ∨ ss[i].op = 13) ∧ j = i + 1) ∨ ((5 ≤ ss[i].op ∧ ss[i].op ≤ 7) ∧ (j : Int) = ss[i].b)
inductive Re (ss : List Step) : Nat → Prop where
  | zero : Re ss 0
  | step (i j : Nat) (h : Re ss i) (k : Leads ss i j) : Re ss j
/-- The mark of a place. -/
def mk (bs : List Bool) (i : Nat) : Bool := bs.getD i false
theorem mk_set {bs : List Bool} {i : Nat} (h : i < bs.length) (j : Nat) : mk (bs.set i true) j = if j = i then true else mk bs j := by
  unfold mk
  simp only [List.getD_eq_getElem?_getD, List.getElem?_set]
  by_cases e : i = j
  · subst e; simp [h]
  · rw [if_neg e, if_neg (fun k => e k.symm)]
theorem mk_get {bs : List Bool} {i : Nat} (h : i < bs.length) : mk bs i = bs[i] := by
  unfold mk
  simp [List.getD_eq_getElem?_getD, List.getElem?_eq_getElem h]
/-- How many places bear no mark. -/
def left (bs : List Bool) : Nat := bs.count false
theorem left_set {bs : List Bool} {i : Nat} (h : i < bs.length) (hf : mk bs i = false) : left (bs.set i true) + 1 = left bs := by
  rw [mk_get h] at hf
  unfold left
  rw [List.count_set h]
  have : 0 < bs.count false := List.count_pos_iff.2 (by rw [← hf]; exact List.getElem_mem h)
  simp [hf]
  omega
theorem left_le (bs : List Bool) : left bs ≤ bs.length := List.count_le_length
/-- The marked places below k. -/
def placesU (bs : List Bool) (k : Nat) : List Int := ((List.range k).filter fun i => mk bs i).map fun i : Nat => (i : Int)
theorem placesU_zero (bs : List Bool) : placesU bs 0 = [] := rfl
theorem placesU_yes {bs : List Bool} {k : Nat} (h : mk bs k = true) : placesU bs (k + 1) = placesU bs k ++ [(k : Int)] := by
  unfold placesU
  rw [List.range_succ, List.filter_append, List.map_append]
  simp [h]
theorem placesU_no {bs : List Bool} {k : Nat} (h : mk bs k = false) : placesU bs (k + 1) = placesU bs k := by
  unfold placesU
  rw [List.range_succ, List.filter_append, List.map_append]
  simp [h]
theorem placesU_len (bs : List Bool) (k : Nat) : (placesU bs k).length ≤ k := by
  unfold placesU
  rw [List.length_map]
  have := List.length_filter_le (fun i => mk bs i) (List.range k)
  rwa [List.length_range] at this
theorem placesU_ext {bs cs : List Bool} : ∀ (k : Nat), (∀ i, i < k → mk bs i = mk cs i) → placesU bs k = placesU cs k
  | 0, _ => rfl
  | k + 1, h => by
    have ih := placesU_ext k (fun i hi => h i (by omega))
    have hk := h k (by omega)
    cases e : mk cs k
    · rw [placesU_no (by rw [hk, e]), placesU_no e, ih]
    · rw [placesU_yes (by rw [hk, e]), placesU_yes e, ih]
/-- The marks are the places that are reached. -/
def Marks (ss : List Step) (bs : List Bool) : Prop := ∀ i, i < ss.length → (mk bs i = true ↔ Re ss i)
theorem marks_eq {ss : List Step} {bs cs : List Bool} (h : Marks ss bs) (k : Marks ss cs) : placesU bs ss.length = placesU cs ss.length :=
  placesU_ext _ fun i hi => by
    have h1 := h i hi
    have h2 := k i hi
    cases e : mk bs i <;> cases e2 : mk cs i <;> simp_all
theorem re_marked {ss : List Step} {bs : List Bool} (h0 : mk bs 0 = true) (hc : ∀ i j, mk bs i = true → Leads ss i j → j < ss.length → mk bs j = true) : ∀ j, Re ss j → j < ss.length → mk bs j = true := by
  intro j h
  induction h with
  | zero => exact fun _ => h0
  | step i j hi k ih =>
    intro hj
    exact hc i j (ih k.1) k hj

/-- What the program keeps: marks, and places to go to. -/
structure Inv33 (ss : List Step) (bs : List Bool) (todo : List Int) : Prop where
  len : bs.length = ss.length
  sound : ∀ i, mk bs i = true → Re ss i
  goes : ∀ x ∈ todo, ∃ i : Nat, x = (i : Int) ∧ i ≤ ss.length ∧ Re ss i
  start : mk bs 0 = true ∨ (0 : Int) ∈ todo
  closed : ∀ i j, mk bs i = true → Leads ss i j → j < ss.length → mk bs j = true ∨ (j : Int) ∈ todo
theorem inv33_start (ss : List Step) : Inv33 ss (List.replicate ss.length false) [0] := by
  have hm : ∀ i, mk (List.replicate ss.length false) i = false := fun i => by
    unfold mk
    simp only [List.getD_eq_getElem?_getD, List.getElem?_replicate]
    split <;> rfl
  refine ⟨by simp, fun i h => ?_, fun x hx => ?_, .inr (by simp), fun i j h => ?_⟩
  · rw [hm] at h; cases h
  · simp at hx; exact ⟨0, hx, by omega, .zero⟩
  · rw [hm] at h; cases h
theorem inv33_skip {ss : List Step} {bs : List Bool} {i : Nat} {rest : List Int} (h : Inv33 ss bs ((i : Int) :: rest)) (hi : ss.length ≤ i ∨ mk bs i = true) (h1 : 0 < ss.length) : Inv33 ss bs rest := by
  refine ⟨h.len, h.sound, fun x hx => h.goes x (by simp [hx]), ?_, fun a j ha hl hj => ?_⟩
  · rcases h.start with k | k
    · exact .inl k
    · rcases List.mem_cons.1 k with e | e
      · rcases hi with q | q
        · omega
        · obtain rfl : i = 0 := by omega
          exact .inl q
      · exact .inr e
  · rcases h.closed a j ha hl hj with k | k
    · exact .inl k
    · rcases List.mem_cons.1 k with e | e
      · obtain rfl : j = i := by omega
        rcases hi with q | q
        · omega
        · exact .inl q
      · exact .inr e
/-- The places a step leads to, as the program lays them. -/
def toB (s : Step) : List Int := if 5 ≤ s.op ∧ s.op ≤ 7 then [s.b] else []
def toN (s : Step) (i : Nat) : List Int := if s.op = 7 ∨ s.op = 12 ∨ s.op = 13 then [] else [(i : Int) + 1]
theorem inv33_mark {ss : List Step} {bs : List Bool} {i : Nat} {rest : List Int} (h : Inv33 ss bs ((i : Int) :: rest)) (hi : i < ss.length) (hb : 5 ≤ ss[i].op → ss[i].op ≤ 7 → 0 ≤ ss[i].b ∧ ss[i].b < ss.length) :
    Inv33 ss (bs.set i true) (rest ++ toB ss[i] ++ toN ss[i] i) := by
  have hib : i < bs.length := by rw [h.len]; exact hi
  have hre : Re ss i := by
    obtain ⟨k, e, _, hk⟩ := h.goes (i : Int) (by simp)
    obtain rfl : i = k := by omega
    exact hk
  refine ⟨by simp [h.len], fun j hj => ?_, fun x hx => ?_, ?_, fun a j ha hl hj => ?_⟩
  · rw [mk_set hib] at hj
    by_cases e : j = i
    · subst e; exact hre
    · rw [if_neg e] at hj; exact h.sound j hj
  · rcases List.mem_append.1 hx with hx | hx
    · rcases List.mem_append.1 hx with hx | hx
      · exact h.goes x (by simp [hx])
      · unfold toB at hx
        split at hx
        · rename_i e
          obtain ⟨b0, b1⟩ := hb e.1 e.2
          simp at hx
          subst hx
          refine ⟨ss[i].b.toNat, by omega, by omega, .step i _ hre ⟨hi, .inr ⟨e, by omega⟩⟩⟩
        · cases hx
    · unfold toN at hx
      split at hx
      · cases hx
      · rename_i e
        simp at hx
        subst hx
        exact ⟨i + 1, by omega, by omega, .step i _ hre ⟨hi, .inl ⟨e, rfl⟩⟩⟩
  · rw [mk_set hib]
    by_cases e : 0 = i
    · left; rw [if_pos e]
    · rw [if_neg e]
      rcases h.start with k | k
      · exact .inl k
      · rcases List.mem_cons.1 k with q | q
        · omega
        · right; simp [q]
  · rw [mk_set hib] at ha ⊢
    by_cases e : j = i
    · left; rw [if_pos e]
    rw [if_neg e]
    by_cases ea : a = i
    · subst ea
      obtain ⟨_, hl⟩ := hl
      rcases hl with ⟨q, rfl⟩ | ⟨q, e⟩
      · right; unfold toN; rw [if_neg q]; simp
      · right; unfold toB; rw [if_pos q]; simp [e]
    · rw [if_neg ea] at ha
      rcases h.closed a j ha hl hj with k | k
      · exact .inl k
      · rcases List.mem_cons.1 k with q | q
        · omega
        · right; simp [q]
theorem inv33_done {ss : List Step} {bs : List Bool} (h : Inv33 ss bs []) : Marks ss bs := fun i hi =>
  ⟨h.sound i, fun hr => re_marked (by rcases h.start with k | k; exact k; cases k) (fun a j ha hl hj => by rcases h.closed a j ha hl hj with k | k; exact k; cases k) i hr hi⟩

/-- What the reference keeps: marks. -/
structure Inv39 (ss : List Step) (bs : List Bool) : Prop where
  len : bs.length = ss.length + 1
  sound : ∀ i, mk bs i = true → Re ss i
  start : mk bs 0 = true
theorem inv39_start (ss : List Step) : Inv39 ss ((List.replicate (ss.length + 1) false).set 0 true) := by
  have hm : ∀ i, mk (List.replicate (ss.length + 1) false) i = false := fun i => by
    unfold mk
    simp only [List.getD_eq_getElem?_getD, List.getElem?_replicate]
    split <;> rfl
  refine ⟨by simp, fun i h => ?_, ?_⟩
  · rw [mk_set (by simp), hm] at h
    by_cases e : i = 0
    · subst e; exact .zero
    · rw [if_neg e] at h; cases h
  · rw [mk_set (by simp)]; rfl
theorem inv39_mark {ss : List Step} {bs : List Bool} {i j : Nat} (h : Inv39 ss bs) (hi : mk bs i = true) (hl : Leads ss i j) (hj : j ≤ ss.length) : Inv39 ss (bs.set j true) := by
  have hjb : j < bs.length := by rw [h.len]; omega
  refine ⟨by simp [h.len], fun k hk => ?_, ?_⟩
  · rw [mk_set hjb] at hk
    by_cases e : k = j
    · subst e; exact .step i _ (h.sound i hi) hl
    · rw [if_neg e] at hk; exact h.sound k hk
  · rw [mk_set hjb]
    split
    · rfl
    · exact h.start
/-- Whatever leads on from a marked place below k leads to a marked one. -/
def Shut (ss : List Step) (bs : List Bool) (k : Nat) : Prop := ∀ i j, i < k → mk bs i = true → Leads ss i j → mk bs j = true
theorem shut_zero (ss : List Step) (bs : List Bool) : Shut ss bs 0 := fun i j h => absurd h (by omega)
theorem inv39_done {ss : List Step} {bs : List Bool} (h : Inv39 ss bs) (hs : Shut ss bs ss.length) : Marks ss bs := fun i hi =>
  ⟨h.sound i, fun hr => re_marked h.start (fun a j ha hl _ => hs a j hl.1 ha hl) i hr hi⟩
theorem shut_succ {ss : List Step} {bs : List Bool} {k : Nat} (h : Shut ss bs k) (hk : mk bs k = true → ∀ j, Leads ss k j → mk bs j = true) : Shut ss bs (k + 1) := fun i j hi hb hl => by
  by_cases e : i = k
  · subst e; exact hk hb j hl
  · exact h i j (by omega) hb hl
end Go.Proofs.YtkdbajpdcadliaaGreatDoor.Pg
