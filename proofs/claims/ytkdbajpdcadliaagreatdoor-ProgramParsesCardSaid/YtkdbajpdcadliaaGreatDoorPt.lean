/- Plain: the reference's reading of a text, line by line. -/
import Derived.Test.YtkdbajpdcadliaaGreatDoorPq
set_option linter.unusedVariables false
namespace Go.Proofs.YtkdbajpdcadliaaGreatDoor.Pg

theorem splitL_len (c : UInt8) : ∀ (l : List UInt8), (splitL c l).length ≤ l.length + 1 ∧ ∀ x ∈ splitL c l, x.length ≤ l.length
  | [] => ⟨by simp [splitL], fun x hx => by simp [splitL] at hx; simp [hx]⟩
  | b :: l => by
    obtain ⟨h1, h2⟩ := splitL_len c l
    unfold splitL
    split
    · refine ⟨by simp; exact h1, fun x hx => ?_⟩
      rcases List.mem_cons.1 hx with rfl | hx
      · simp
      · have := h2 x hx; simp; omega
    · split
      · refine ⟨by simp, fun x hx => ?_⟩
        obtain rfl : x = _ := by simpa using hx
        simp
      · rename_i y ys e
        rw [e] at h1 h2
        refine ⟨by simp at h1 ⊢; omega, fun x hx => ?_⟩
        rcases List.mem_cons.1 hx with rfl | hx
        · have := h2 y (by simp); simp; exact this
        · have := h2 x (by simp [hx]); simp; omega
/-- Bounds of what has been read. -/
structure BR (ss : List Step) (M k : Nat) : Prop where
  len : ss.length ≤ k
  each : ∀ s ∈ ss, s.texts.length ≤ k + 2 ∧ ∀ x ∈ s.texts, x.size ≤ M
theorem c1_len (l : List UInt8) : (c1 l).length ≤ l.length := (cutB_len 32 l).1
theorem c2_len (l : List UInt8) : (c2 l).length ≤ l.length := (cutB_len 32 l).2
def SmallS (r : List UInt8) (st : Step) : Prop := st.texts.length ≤ 2 ∧ ∀ x ∈ st.texts, x.size ≤ r.length
theorem smallS0 (r : List UInt8) (o a b : Int) : SmallS r ⟨o, a, b, []⟩ := ⟨Nat.zero_le _, fun x hx => by cases hx⟩
theorem smallS1 {r u : List UInt8} (o a b : Int) (h : u.length ≤ r.length) : SmallS r ⟨o, a, b, [mkB u]⟩ := ⟨by show (1 : Nat) ≤ 2; omega, fun x hx => by
  obtain rfl := List.mem_singleton.1 hx
  rw [mkB_size]; exact h⟩
theorem smallS2 {r u v : List UInt8} (o a b : Int) (h : u.length ≤ r.length) (k : v.length ≤ r.length) : SmallS r ⟨o, a, b, [mkB u, mkB v]⟩ := ⟨by show (2 : Nat) ≤ 2; omega, fun x hx => by
  rcases List.mem_cons.1 hx with rfl | hx
  · rw [mkB_size]; exact h
  · obtain rfl := List.mem_singleton.1 hx
    rw [mkB_size]; exact k⟩
theorem stepQ_bd (op : Int) (r : List UInt8) : SmallS r (stepQ op r) := by
  have a1 := c1_len r
  have a2 := c2_len r
  have a3 := c1_len (c2 r)
  have a4 := c2_len (c2 r)
  have a5 : (r.take 2).length ≤ r.length := by rw [List.length_take]; omega
  unfold stepQ
  repeat' (refine iteInduction (motive := SmallS r) (fun _ => ?_) (fun _ => ?_))
  all_goals first
    | exact smallS0 _ _ _ _
    | exact smallS1 _ _ _ (by omega)
    | exact smallS2 _ _ _ (by omega) (by omega)
theorem stepR_bd (l : List UInt8) : (stepR l).texts.length ≤ 2 ∧ ∀ x ∈ (stepR l).texts, x.size ≤ l.length := by
  obtain ⟨h1, h2⟩ := stepQ_bd (opOf (c1 l)) (c2 l)
  exact ⟨h1, fun x hx => Nat.le_trans (h2 x hx) (c2_len l)⟩
theorem lastOp_get {ss : List Step} (h : 0 < ss.length) : lastOp ss = (ss[ss.length - 1]).op := by
  obtain ⟨l, s, rfl⟩ : ∃ l s, ss = l ++ [s] := ⟨ss.dropLast, ss.getLast (List.length_pos_iff.1 h), (List.dropLast_concat_getLast _).symm⟩
  rw [lastOp_snoc]
  simp
theorem lineR_bd {ss : List Step} {M k : Nat} {l : List UInt8} (h : BR ss M k) (hl : l.length ≤ M) : BR (lineR ss l) M (k + 1) := by
  have hk := h.len
  unfold lineR
  split
  · by_cases h0 : 0 < ss.length
    · rw [addText_set h0]
      refine ⟨by rw [List.length_set]; omega, fun s hs => ?_⟩
      rcases List.mem_or_eq_of_mem_set hs with h3 | h3
      · exact ⟨by have := (h.each s h3).1; omega, (h.each s h3).2⟩
      · subst h3
        have h4 := h.each _ (List.getElem_mem (by omega : ss.length - 1 < ss.length))
        refine ⟨by simp only [List.length_append, List.length_cons, List.length_nil]; omega, fun x hx => ?_⟩
        rcases List.mem_append.1 hx with h5 | h5
        · exact h4.2 x h5
        · obtain rfl : x = _ := by simpa using h5
          rw [mkB_size, List.length_drop]
          omega
    · obtain rfl : ss = [] := List.eq_nil_of_length_eq_zero (by omega)
      exact ⟨Nat.zero_le _, fun s hs => by cases hs⟩
  · refine ⟨by simp; omega, fun s hs => ?_⟩
    rcases List.mem_append.1 hs with h3 | h3
    · exact ⟨by have := (h.each s h3).1; omega, (h.each s h3).2⟩
    · obtain rfl : s = _ := by simpa using h3
      obtain ⟨h4, h5⟩ := stepR_bd l
      exact ⟨by omega, fun x hx => by have := h5 x hx; omega⟩
theorem linesR_take (ss : List Step) (ls : List (List UInt8)) (k : Nat) (h : k < ls.length) : linesR ss (ls.take (k + 1)) = lineR (linesR ss (ls.take k)) ls[k] := by
  unfold linesR
  rw [List.take_succ_eq_append_getElem h, List.foldl_append]
  rfl
theorem fixS_same {s : Step} (h2 : s.op = 2) (hl : 1 < s.texts.length) (hp : Lib.hasPrefix (s.texts[s.texts.length - 1]).data.toList [61, 32] = false) : fixS s = s := by
  have hg : s.texts.getLast? = some (s.texts[s.texts.length - 1]) := by rw [List.getLast?_eq_getElem?, List.getElem?_eq_getElem]
  have ht : s.texts.dropLast ++ [s.texts[s.texts.length - 1]] = s.texts := by
    obtain ⟨l, x, e⟩ : ∃ l x, s.texts = l ++ [x] := ⟨s.texts.dropLast, s.texts.getLast (List.length_pos_iff.1 (by omega)), (List.dropLast_concat_getLast _).symm⟩
    simp [e]
  unfold fixS
  rw [hg]
  simp only []
  rw [if_pos ⟨h2, hl⟩]
  have e : mkB (Lib.trimPrefix (s.texts[s.texts.length - 1]).data.toList [61, 32]) = s.texts[s.texts.length - 1] := by
    unfold Lib.trimPrefix
    rw [hp]
    rfl
  rw [e, ht]
theorem tentR_yes {s : ByteArray} {L : List (List UInt8)} (hL : splitL 10 s.data.toList = L) (h1 : 1 < L.length) (h2 : 8 < L[0].length) (h3 : Lib.hasPrefix L[0] pgmL = true) : tentR s = ⟨mkB (L[0].drop 8), (linesR [] ((L.drop 1).take (L.length - 2))).map fixS⟩ := by
  match L, h1 with
  | l0 :: l1 :: ls, _ =>
    unfold tentR
    rw [hL]
    simp only []
    rw [if_pos ⟨h2, h3⟩, List.dropLast_eq_take]
    simp
theorem tentR_no {s : ByteArray} {L : List (List UInt8)} (hL : splitL 10 s.data.toList = L) (h : ∀ (h1 : 1 < L.length), 8 < (L[0]'(by omega)).length → Lib.hasPrefix (L[0]'(by omega)) pgmL = false) : tentR s = ⟨⟨#[]⟩, []⟩ := by
  unfold tentR
  rw [hL]
  match L, h with
  | [], _ => rfl
  | [l0], _ => rfl
  | l0 :: l1 :: ls, h =>
    simp only []
    rw [if_neg]
    rintro ⟨a, b⟩
    have := h (by simp) a
    simp only [List.getElem_cons_zero] at this
    rw [b] at this
    cases this
theorem parseR_no {s : ByteArray} (h : tentR s = ⟨⟨#[]⟩, []⟩) : parseR s = (⟨⟨#[]⟩, []⟩, 3) := by
  unfold parseR
  rw [h, if_neg]
  rintro ⟨a, _⟩
  revert a
  decide
end Go.Proofs.YtkdbajpdcadliaaGreatDoor.Pg
