/- Plain: how long the texts are that program.Parse keeps. -/
import Derived.Test.YtkdbajpdcadliaaGreatDoorPa
set_option linter.unusedVariables false
namespace Go.Proofs.YtkdbajpdcadliaaGreatDoor.Pg

theorem linesP_app : ∀ (l m : List (List UInt8)) (p : Prog) (i : Nat), linesP p i (l ++ m) = linesP (linesP p i l) (i + l.length) m
  | [], m, p, i => rfl
  | x :: l, m, p, i => by
    have := linesP_app l m (lineP p i x) (i + 1)
    simp only [List.cons_append, linesP, this, List.length_cons]
    congr 1
    omega
theorem linesP_take (l : List (List UInt8)) (p : Prog) (k : Nat) (h : k < l.length) : linesP p 0 (l.take (k + 1)) = lineP (linesP p 0 (l.take k)) k l[k] := by
  rw [List.take_succ_eq_append_getElem h, linesP_app]
  have e : 0 + (l.take k).length = k := by simp; omega
  rw [e]
  rfl
theorem stepP_bd (op : Int) (r : List UInt8) : (stepP op r).texts.length ≤ 2 ∧ ∀ x ∈ (stepP op r).texts, x.size ≤ r.length := by
  have h1 := cutB_len 32 r
  have h2 := cutB_len 32 (cutB 32 r).2.1
  unfold stepP
  split
  · refine ⟨by simp, fun x hx => ?_⟩
    obtain rfl : x = _ := by simpa using hx
    rw [mkB_size]; omega
  split
  · split
    · refine ⟨by simp, fun x hx => ?_⟩
      obtain rfl : x = _ := by simpa using hx
      rw [mkB_size, List.length_take]; omega
    · exact ⟨by simp, fun x hx => by simp at hx⟩
  split
  · refine ⟨by simp, fun x hx => ?_⟩
    simp only [List.mem_cons, List.not_mem_nil, or_false] at hx
    rcases hx with rfl | rfl
    · rw [mkB_size]; omega
    · rw [mkB_size]; omega
  · simp only []
    split
    · refine ⟨by simp, fun x hx => ?_⟩
      obtain rfl : x = _ := by simpa using hx
      rw [mkB_size]
      split
      · split
        · omega
        · omega
      · split
        · omega
        · omega
    · exact ⟨by simp, fun x hx => by simp at hx⟩
theorem readS_bd (l : List UInt8) : (readS l).texts.length ≤ 2 ∧ ∀ x ∈ (readS l).texts, x.size ≤ l.length := by
  unfold readS
  split
  · exact ⟨by simp, fun x hx => by simp at hx⟩
  · obtain ⟨h1, h2⟩ := stepP_bd (opOf (cutB 32 l).1) (cutB 32 l).2.1
    have h3 := cutB_len 32 l
    exact ⟨h1, fun x hx => by have := h2 x hx; omega⟩
theorem trimP_len (l p : List UInt8) : (Lib.trimPrefix l p).length ≤ l.length := by
  unfold Lib.trimPrefix
  split
  · simp
  · exact Nat.le_refl _
theorem bare_len (l : List UInt8) : (bareL l).length ≤ l.length := by
  unfold bareL Lib.trimSuffix
  split
  · rw [List.length_take]; omega
  · exact Nat.le_refl _
structure BP (p : Prog) (M k : Nat) : Prop where
  name : p.name.size ≤ M
  len : p.steps.length ≤ k
  each : ∀ s ∈ p.steps, s.texts.length ≤ k + 2 ∧ ∀ x ∈ s.texts, x.size ≤ M
theorem addText_set {ss : List Step} {t : ByteArray} (h : 0 < ss.length) : addText ss t = ss.set (ss.length - 1) ⟨(ss[ss.length - 1]).op, (ss[ss.length - 1]).a, (ss[ss.length - 1]).b, (ss[ss.length - 1]).texts ++ [t]⟩ := by
  obtain ⟨l, s, rfl⟩ : ∃ l s, ss = l ++ [s] := ⟨ss.dropLast, ss.getLast (List.length_pos_iff.1 h), (List.dropLast_concat_getLast _).symm⟩
  unfold addText
  simp
theorem lineP_bd {p : Prog} {M k i : Nat} {l : List UInt8} (h : BP p M k) (hl : l.length ≤ M) : BP (lineP p i l) M (k + 1) := by
  have hb := bare_len l
  unfold lineP
  split
  · exact ⟨by show (mkB _).size ≤ M; rw [mkB_size]; have := trimP_len (bareL l) [80, 82, 79, 71, 82, 65, 77, 32]; omega, by have := h.len; show p.steps.length ≤ _; omega, fun s hs => ⟨by have := (h.each s hs).1; omega, (h.each s hs).2⟩⟩
  split
  · rename_i h1 h2
    refine ⟨h.name, ?_, fun s hs => ?_⟩
    · show (addText _ _).length ≤ _
      rw [addText_set h2.2, List.length_set]
      have := h.len
      omega
    · have hs : s ∈ addText p.steps _ := hs
      rw [addText_set h2.2] at hs
      rcases List.mem_or_eq_of_mem_set hs with h3 | h3
      · exact ⟨by have := (h.each s h3).1; omega, (h.each s h3).2⟩
      · subst h3
        have h4 := h.each _ (List.getElem_mem (by omega : p.steps.length - 1 < p.steps.length))
        refine ⟨by simp only [List.length_append, List.length_cons, List.length_nil]; omega, fun x hx => ?_⟩
        rcases List.mem_append.1 hx with h5 | h5
        · exact h4.2 x h5
        · obtain rfl : x = _ := by simpa using h5
          rw [mkB_size]
          have := trimP_len (bareL l) [32, 32]
          omega
  · refine ⟨h.name, ?_, fun s hs => ?_⟩
    · show (p.steps ++ [_]).length ≤ _
      have := h.len
      simp
      omega
    · rcases List.mem_append.1 hs with h3 | h3
      · exact ⟨by have := (h.each s h3).1; omega, (h.each s h3).2⟩
      · obtain rfl : s = _ := by simpa using h3
        obtain ⟨h4, h5⟩ := readS_bd (bareL l)
        exact ⟨by omega, fun x hx => by have := h5 x hx; omega⟩
theorem linesL_len : ∀ (l : List UInt8), (linesL l).length ≤ l.length ∧ ∀ x ∈ linesL l, x.length ≤ l.length
  | [] => ⟨by simp [linesL], fun x hx => by simp [linesL] at hx⟩
  | c :: l => by
    obtain ⟨h1, h2⟩ := linesL_len l
    unfold linesL
    split
    · refine ⟨by simp; exact h1, fun x hx => ?_⟩
      rcases List.mem_cons.1 hx with rfl | hx
      · simp
      · have := h2 x hx; simp; omega
    · split
      · refine ⟨by simp, fun x hx => ?_⟩
        obtain rfl : x = _ := by simpa using hx
        simp
      · rename_i y ys e
        rw [e] at h1 h2
        refine ⟨by simp at h1 ⊢; omega, fun x hx => ?_⟩
        rcases List.mem_cons.1 hx with rfl | hx
        · have := h2 y (by simp); simp; exact this
        · have := h2 x (by simp [hx]); simp; omega
theorem fixS_bd (s : Step) (M k : Nat) (h : s.texts.length ≤ k ∧ ∀ x ∈ s.texts, x.size ≤ M) : (fixS s).texts.length ≤ k ∧ ∀ x ∈ (fixS s).texts, x.size ≤ M := by
  unfold fixS
  split
  · exact h
  · rename_i t ht
    have htm : t ∈ s.texts := List.mem_of_getLast? ht
    split
    · refine ⟨?_, fun x hx => ?_⟩
      · have := List.length_pos_of_mem htm
        simp only [List.length_append, List.length_dropLast, List.length_cons, List.length_nil]
        omega
      · rcases List.mem_append.1 hx with h5 | h5
        · exact h.2 x ((List.dropLast_sublist _).subset h5)
        · obtain rfl : x = _ := by simpa using h5
          rw [mkB_size]
          have h6 := trimP_len t.data.toList [61, 32]
          have h7 := h.2 t htm
          have h8 : t.data.toList.length = t.size := Array.length_toList
          omega
    · exact h
/-- The steps when the first i are repaired. -/
def fixUp (ss : List Step) (i : Nat) : List Step := (ss.take i).map fixS ++ ss.drop i
theorem fixUp_zero (ss : List Step) : fixUp ss 0 = ss := by simp [fixUp]
theorem fixUp_all (ss : List Step) : fixUp ss ss.length = ss.map fixS := by simp [fixUp]
theorem fixUp_len (ss : List Step) (i : Nat) (h : i ≤ ss.length) : (fixUp ss i).length = ss.length := by simp [fixUp]; omega
theorem fixUp_at (ss : List Step) (i : Nat) (h : i < ss.length) : (fixUp ss i)[i]'(by rw [fixUp_len ss i (by omega)]; exact h) = ss[i] := by
  unfold fixUp
  rw [List.getElem_append_right (by simp; omega)]
  simp
  congr 1
  omega
theorem fixUp_succ (ss : List Step) (i : Nat) (h : i < ss.length) : fixUp ss (i + 1) = (fixUp ss i).set i (fixS ss[i]) := by
  unfold fixUp
  rw [List.take_succ_eq_append_getElem h, List.map_append, List.set_append_right _ _ (by simp; omega)]
  have e : i - (List.map fixS (ss.take i)).length = 0 := by simp; omega
  rw [e, List.drop_eq_getElem_cons h, List.set_cons_zero]
  simp only [List.map_cons, List.map_nil, List.append_assoc, List.cons_append, List.nil_append]
end Go.Proofs.YtkdbajpdcadliaaGreatDoor.Pg
