/- Plain: what program.Parse makes of a text ahead of its last test. · Plain: how long the texts are that program.Parse keeps. · Plain: the text of a valid program is read back by program.Parse's rules. -/
import Derived.Test.YtkdbajpdcadliaaGreatDoorWr
import Derived.Test.YtkdbajpdcadliaaGreatDoorWt
import Derived.Test.YtkdbajpdcadliaaGreatDoorWu
set_option linter.unusedVariables false
namespace Go.Proofs.YtkdbajpdcadliaaGreatDoor.Pg

/-- A line without its line feed. -/
def bareL (l : List UInt8) : List UInt8 := Lib.trimSuffix l [10]
/-- One more text for the last step. -/
def addText (ss : List Step) (t : ByteArray) : List Step :=
  match ss.getLast? with
  | none => ss
  | some s => ss.dropLast ++ [⟨s.op, s.a, s.b, s.texts ++ [t]⟩]
/-- What line number i does. -/
def lineP (p : Prog) (i : Nat) (l : List UInt8) : Prog :=
  if i = 0 then ⟨mkB (Lib.trimPrefix (bareL l) [80, 82, 79, 71, 82, 65, 77, 32]), p.steps⟩
  else if Lib.hasPrefix (bareL l) [32, 32] = true ∧ 0 < p.steps.length then ⟨p.name, addText p.steps (mkB (Lib.trimPrefix (bareL l) [32, 32]))⟩
  else ⟨p.name, p.steps ++ [readS (bareL l)]⟩
/-- .. the lines from number i on. -/
def linesP (p : Prog) (i : Nat) : List (List UInt8) → Prog
  | [] => p
  | l :: ls => linesP (lineP p i l) (i + 1) ls
/-- A CALL's result has '= ' ahead of it. -/
def fixS (s : Step) : Step :=
  match s.texts.getLast? with
  | none => s
  | some t => if s.op = 2 ∧ 1 < s.texts.length then ⟨s.op, s.a, s.b, s.texts.dropLast ++ [mkB (Lib.trimPrefix t.data.toList [61, 32])]⟩ else s
def tentP (s : ByteArray) : Prog :=
  let p := linesP ⟨⟨#[]⟩, []⟩ 0 (linesL s.data.toList)
  ⟨p.name, p.steps.map fixS⟩
/-- What Parse hands back. -/
def parseS (s : ByteArray) : Prog × Int :=
  if validS (tentP s) = true ∧ formatS (tentP s) = s then (tentP s, 0) else (⟨⟨#[]⟩, []⟩, 3)
end Go.Proofs.YtkdbajpdcadliaaGreatDoor.Pg

set_option linter.unusedVariables false
namespace Go.Proofs.YtkdbajpdcadliaaGreatDoor.Pg

theorem linesP_app : ∀ (l m : List (List UInt8)) (p : Prog) (i : Nat), linesP p i (l ++ m) = linesP (linesP p i l) (i + l.length) m
  | [], m, p, i => rfl
  | x :: l, m, p, i => by
    have := linesP_app l m (lineP p i x) (i + 1)
    simp only [List.cons_append, linesP, this, List.length_cons]
    congr 1
    omega
theorem linesP_take (l : List (List UInt8)) (p : Prog) (k : Nat) (h : k < l.length) : linesP p 0 (l.take (k + 1)) = lineP (linesP p 0 (l.take k)) k l[k] := by
  rw [List.take_succ_eq_append_getElem h, linesP_app]
  have e : 0 + (l.take k).length = k := by simp; omega
  rw [e]
  rfl
theorem stepP_bd (op : Int) (r : List UInt8) : (stepP op r).texts.length ≤ 2 ∧ ∀ x ∈ (stepP op r).texts, x.size ≤ r.length := by
  have h1 := cutB_len 32 r
  have h2 := cutB_len 32 (cutB 32 r).2.1
  unfold stepP
  split
  · refine ⟨by simp, fun x hx => ?_⟩
    obtain rfl : x = _ := by simpa using hx
    rw [mkB_size]; omega
  split
  · split
    · refine ⟨by simp, fun x hx => ?_⟩
      obtain rfl : x = _ := by simpa using hx
      rw [mkB_size, List.length_take]; omega
    · exact ⟨by simp, fun x hx => by simp at hx⟩
  split
  · refine ⟨by simp, fun x hx => ?_⟩
    simp only [List.mem_cons, List.not_mem_nil, or_false] at hx
    rcases hx with rfl | rfl
    · rw [mkB_size]; omega
    · rw [mkB_size]; omega
  · simp only []
    split
    · refine ⟨by simp, fun x hx => ?_⟩
      obtain rfl : x = _ := by simpa using hx
      rw [mkB_size]
      split
      · split
        · omega
        · omega
      · split
        · omega
        · omega
    · exact ⟨by simp, fun x hx => by simp at hx⟩
theorem readS_bd (l : List UInt8) : (readS l).texts.length ≤ 2 ∧ ∀ x ∈ (readS l).texts, x.size ≤ l.length := by
  unfold readS
  split
  · exact ⟨by simp, fun x hx => by simp at hx⟩
  · obtain ⟨h1, h2⟩ := stepP_bd (opOf (cutB 32 l).1) (cutB 32 l).2.1
    have h3 := cutB_len 32 l
    exact ⟨h1, fun x hx => by have := h2 x hx; omega⟩
theorem trimP_len (l p : List UInt8) : (Lib.trimPrefix l p).length ≤ l.length := by
  unfold Lib.trimPrefix
  split
  · simp
  · exact Nat.le_refl _
theorem bare_len (l : List UInt8) : (bareL l).length ≤ l.length := by
  unfold bareL Lib.trimSuffix
  split
  · rw [List.length_take]; omega
  · exact Nat.le_refl _
structure BP (p : Prog) (M k : Nat) : Prop where
  name : p.name.size ≤ M
  len : p.steps.length ≤ k
  each : ∀ s ∈ p.steps, s.texts.length ≤ k + 2 ∧ ∀ x ∈ s.texts, x.size ≤ M
theorem addText_set {ss : List Step} {t : ByteArray} (h : 0 < ss.length) : addText ss t = ss.set (ss.length - 1) ⟨(ss[ss.length - 1]).op, (ss[ss.length - 1]).a, (ss[ss.length - 1]).b, (ss[ss.length - 1]).texts ++ [t]⟩ := by
  obtain ⟨l, s, rfl⟩ : ∃ l s, ss = l ++ [s] := ⟨ss.dropLast, ss.getLast (List.length_pos_iff.1 h), (List.dropLast_concat_getLast _).symm⟩
  unfold addText
  simp
theorem lineP_bd {p : Prog} {M k i : Nat} {l : List UInt8} (h : BP p M k) (hl : l.length ≤ M) : BP (lineP p i l) M (k + 1) := by
  have hb := bare_len l
  unfold lineP
  split
  · exact ⟨by show (mkB _).size ≤ M; rw [mkB_size]; have := trimP_len (bareL l) [80, 82, 79, 71, 82, 65, 77, 32]; omega, by have := h.len; show p.steps.length ≤ _; omega, fun s hs => ⟨by have := (h.each s hs).1; omega, (h.each s hs).2⟩⟩
  split
  · rename_i h1 h2
    refine ⟨h.name, ?_, fun s hs => ?_⟩
    · show (addText _ _).length ≤ _
      rw [addText_set h2.2, List.length_set]
      have := h.len
      omega
    · have hs : s ∈ addText p.steps _ := hs
      rw [addText_set h2.2] at hs
      rcases List.mem_or_eq_of_mem_set hs with h3 | h3
      · exact ⟨by have := (h.each s h3).1; omega, (h.each s h3).2⟩
      · subst h3
        have h4 := h.each _ (List.getElem_mem (by omega : p.steps.length - 1 < p.steps.length))
        refine ⟨by simp only [List.length_append, List.length_cons, List.length_nil]; omega, fun x hx => ?_⟩
        rcases List.mem_append.1 hx with h5 | h5
        · exact h4.2 x h5
        · obtain rfl : x = _ := by simpa using h5
          rw [mkB_size]
          have := trimP_len (bareL l) [32, 32]
          omega
  · refine ⟨h.name, ?_, fun s hs => ?_⟩
    · show (p.steps ++ [_]).length ≤ _
      have := h.len
      simp
      omega
    · rcases List.mem_append.1 hs with h3 | h3
      · exact ⟨by have := (h.each s h3).1; omega, (h.each s h3).2⟩
      · obtain rfl : s = _ := by simpa using h3
        obtain ⟨h4, h5⟩ := readS_bd (bareL l)
        exact ⟨by omega, fun x hx => by have := h5 x hx; omega⟩
theorem linesL_len : ∀ (l : List UInt8), (linesL l).length ≤ l.length ∧ ∀ x ∈ linesL l, x.length ≤ l.length
  | [] => ⟨by simp [linesL], fun x hx => by simp [linesL] at hx⟩
  | c :: l => by
    obtain ⟨h1, h2⟩ := linesL_len l
    unfold linesL
    split
    · refine ⟨by simp; exact h1, fun x hx => ?_⟩
      rcases List.mem_cons.1 hx with rfl | hx
      · simp
      · have := h2 x hx; simp; omega
    · split
      · refine ⟨by simp, fun x hx => ?_⟩
        obtain rfl : x = _ := by simpa using hx
        simp
      · rename_i y ys e
        rw [e] at h1 h2
        refine ⟨by simp at h1 ⊢; omega, fun x hx => ?_⟩
        rcases List.mem_cons.1 hx with rfl | hx
        · have := h2 y (by simp); simp; exact this
        · have := h2 x (by simp [hx]); simp; omega
theorem fixS_bd (s : Step) (M k : Nat) (h : s.texts.length ≤ k ∧ ∀ x ∈ s.texts, x.size ≤ M) : (fixS s).texts.length ≤ k ∧ ∀ x ∈ (fixS s).texts, x.size ≤ M := by
  unfold fixS
  split
  · exact h
  · rename_i t ht
    have htm : t ∈ s.texts := List.mem_of_getLast? ht
    split
    · refine ⟨?_, fun x hx => ?_⟩
      · have := List.length_pos_of_mem htm
        simp only [List.length_append, List.length_dropLast, List.length_cons, List.length_nil]
        omega
      · rcases List.mem_append.1 hx with h5 | h5
        · exact h.2 x ((List.dropLast_sublist _).subset h5)
        · obtain rfl : x = _ := by simpa using h5
          rw [mkB_size]
          have h6 := trimP_len t.data.toList [61, 32]
          have h7 := h.2 t htm
          have h8 : t.data.toList.length = t.size := Array.length_toList
          omega
    · exact h
/-- The steps when the first i are repaired. -/
def fixUp (ss : List Step) (i : Nat) : List Step := (ss.take i).map fixS ++ ss.drop i
theorem fixUp_zero (ss : List Step) : fixUp ss 0 = ss := by simp [fixUp]
theorem fixUp_all (ss : List Step) : fixUp ss ss.length = ss.map fixS := by simp [fixUp]
theorem fixUp_len (ss : List Step) (i : Nat) (h : i ≤ ss.length) : (fixUp ss i).length = ss.length := by simp [fixUp]; omega
theorem fixUp_at (ss : List Step) (i : Nat) (h : i < ss.length) : (fixUp ss i)[i]'(by rw [fixUp_len ss i (by omega)]; exact h) = ss[i] := by
  unfold fixUp
  rw [List.getElem_append_right (by simp; omega)]
  simp
  congr 1
  omega
theorem fixUp_succ (ss : List Step) (i : Nat) (h : i < ss.length) : fixUp ss (i + 1) = (fixUp ss i).set i (fixS ss[i]) := by
  unfold fixUp
  rw [List.take_succ_eq_append_getElem h, List.map_append, List.set_append_right _ _ (by simp; omega)]
  have e : i - (List.map fixS (ss.take i)).length = 0 := by simp; omega
  rw [e, List.drop_eq_getElem_cons h, List.set_cons_zero]
  simp only [List.map_cons, List.map_nil, List.append_assoc, List.cons_append, List.nil_append]
end Go.Proofs.YtkdbajpdcadliaaGreatDoor.Pg

set_option linter.unusedVariables false
namespace Go.Proofs.YtkdbajpdcadliaaGreatDoor.Pg

/-! ### numbers -/
theorem parse_app : ∀ (l r : List UInt8) (acc v : Nat), Lib.parseUint10 acc l = .ok v → Lib.parseUint10 acc (l ++ r) = Lib.parseUint10 v r
  | [], r, acc, v, h => by simp only [Lib.parseUint10, Lib.NumEnd.ok.injEq] at h; subst h; rfl
  | c :: l, r, acc, v, h => by
    simp only [List.cons_append, Lib.parseUint10] at h ⊢
    split at h
    · rename_i h1
      split at h
      · cases h
      · rename_i h2
        split at h
        · cases h
        · rename_i h3
          rw [if_pos h1, if_neg h2, if_neg h3]
          exact parse_app l r _ v h
    · cases h
theorem u8_dig (d : Nat) (h : d < 10) : (UInt8.ofNat (48 + d)).toNat = 48 + d := by simp; omega
theorem parse_one (acc d : Nat) (hd : d < 10) (ha : acc < 1000000000) : Lib.parseUint10 acc [UInt8.ofNat (48 + d)] = .ok (acc * 10 + d) := by
  have e := u8_dig d hd
  unfold Lib.parseUint10
  rw [e, if_pos (by omega), if_neg (by omega), if_neg (by omega)]
  unfold Lib.parseUint10
  congr 1
  omega
theorem parse_dec : ∀ (u : Nat), u < 1000000000 → Lib.parseUint10 0 (Lib.decDigits u) = .ok u := by
  intro u
  induction u using Nat.strongRecOn with
  | ind u ih =>
    intro h
    by_cases hu : u < 10
    · rw [decDigits_small u hu, parse_one 0 u hu (by omega)]
      congr 1
      omega
    · rw [decDigits_big u hu, parse_app _ _ _ (u / 10) (ih (u / 10) (by omega) (by omega)), parse_one (u / 10) (u % 10) (by omega) (by omega)]
      congr 1
      omega
theorem dec_dig : ∀ (u : Nat), ∀ c ∈ Lib.decDigits u, 48 ≤ c.toNat ∧ c.toNat ≤ 57 := by
  intro u
  induction u using Nat.strongRecOn with
  | ind u ih =>
    intro c hc
    by_cases hu : u < 10
    · rw [decDigits_small u hu] at hc
      rw [List.mem_singleton] at hc
      rw [hc, u8_dig u hu]; omega
    · rw [decDigits_big u hu] at hc
      rcases List.mem_append.1 hc with h | h
      · exact ih (u / 10) (by omega) c h
      · rw [List.mem_singleton] at h
        rw [h, u8_dig (u % 10) (by omega)]; omega
theorem dec_ne (u : Nat) : Lib.decDigits u ≠ [] := by
  by_cases hu : u < 10
  · rw [decDigits_small u hu]; simp
  · rw [decDigits_big u hu]; simp
theorem dl_no (n : Int) (c : UInt8) (hc : c.toNat < 45) : ∀ x ∈ dl n, x ≠ c := by
  intro x hx e
  subst e
  unfold dl Lib.itoa at hx
  split at hx
  · rcases List.mem_cons.1 hx with h | h
    · subst h; exact absurd hc (by decide)
    · have := dec_dig _ _ h; omega
  · have := dec_dig _ _ hx; omega
theorem dl_pos (n : Int) : 0 < (dl n).length := by
  unfold dl Lib.itoa
  split
  · simp
  · exact List.length_pos_iff.2 (dec_ne _)
theorem numL_dl (n : Int) (h1 : -9999 ≤ n) (h2 : n ≤ 9999) : numL (dl n) = n := by
  have ha : Lib.atoiAll (dl n) = .ok n := by
    unfold dl Lib.itoa
    split
    · rename_i hn
      unfold Lib.atoiAll
      simp only [show (45 : UInt8).toNat = 45 from rfl, or_true, if_true, Lib.parseMag, if_neg (dec_ne _), parse_dec n.natAbs (by omega)]
      rw [if_neg (by simp), if_neg (by omega)]
      congr 1
      omega
    · rename_i hn
      cases hd : Lib.decDigits n.toNat with
      | nil => exact absurd hd (dec_ne _)
      | cons c r =>
        have hc := dec_dig n.toNat c (by rw [hd]; simp)
        unfold Lib.atoiAll
        simp only []
        rw [if_neg (by omega)]
        have hp : Lib.parseMag (c :: r) = .ok n.toNat := by
          rw [← hd]
          unfold Lib.parseMag
          rw [if_neg (dec_ne _)]
          exact parse_dec n.toNat (by omega)
        rw [hp]
        simp only []
        rw [if_neg (by omega), if_neg (by omega), if_neg (by omega)]
        congr 1
        omega
  unfold numL
  rw [ha]
  simp only []
  rw [if_neg (by omega)]

/-! ### cutting -/
theorem cutB_app {c : UInt8} : ∀ (u r : List UInt8), (∀ x ∈ u, x ≠ c) → cutB c (u ++ c :: r) = (u, r, true)
  | [], r, _ => by simp [cutB]
  | b :: u, r, h => by
    have hb : b ≠ c := h b (by simp)
    have ih := cutB_app u r (fun x hx => h x (by simp [hx]))
    simp [cutB, hb, ih]

/-! ### the forms of steps -/
structure Txt (x : ByteArray) : Prop where
  nf : ∀ c ∈ x.data.toList, c ≠ 10
theorem txt_of {x : ByteArray} (h : isTextS x = true) : Txt x := by
  refine ⟨fun c hc e => ?_⟩
  unfold isTextS at h
  simp only [Bool.and_eq_true] at h
  have := h.1
  unfold allB at this
  rw [List.all_eq_true] at this
  have := this c hc
  subst e
  exact absurd this (by decide)
theorem name_no {x : ByteArray} (h : isNameS x = true) (k : UInt8) (hk : k.toNat < 48) : ∀ c ∈ x.data.toList, c ≠ k := by
  intro c hc e
  subst e
  unfold isNameS at h
  simp only [Bool.and_eq_true] at h
  obtain ⟨i, hi, e⟩ := List.getElem_of_mem hc
  have hi' : i < x.size := by simpa using hi
  have h1 := allI_get h.1.1 i hi'
  have e2 : x[i] = c := by rw [← e]; rfl
  rw [e2] at h1
  unfold nameOk at h1
  simp only [Bool.or_eq_true, Bool.and_eq_true, decide_eq_true_eq] at h1
  omega
theorem do_no {x : ByteArray} (h : isDoS x = true) (k : UInt8) (hk : k.toNat < 48) : ∀ c ∈ x.data.toList, c ≠ k := by
  unfold isDoS at h
  rw [List.any_eq_true] at h
  obtain ⟨l, hl, he⟩ := h
  have he : l = x.toList := by simpa using he
  rw [ByteArray.toList_eq] at he
  rw [← he]
  have : ∀ l ∈ dosL, ∀ c ∈ l, 48 ≤ c.toNat := by decide
  intro c hc e
  subst e
  have := this l hl c hc
  omega
inductive FormOf : Step → Prop where
  | read (a : Int) : -9999 ≤ a → a ≤ 9999 → FormOf ⟨1, a, 0, []⟩
  | call (a b : Int) (x y : ByteArray) (m : List ByteArray) : -9999 ≤ a → a ≤ 9999 → -9999 ≤ b → b ≤ 9999 → isDoS x = true → (∀ z ∈ m, Txt z) → Txt y → FormOf ⟨2, a, b, x :: (m ++ [y])⟩
  | set (a : Int) (x : ByteArray) : -9999 ≤ a → a ≤ 9999 → Txt x → FormOf ⟨3, a, 0, [x]⟩
  | add (a b : Int) : -9999 ≤ a → a ≤ 9999 → -9999 ≤ b → b ≤ 9999 → FormOf ⟨4, a, b, []⟩
  | when (b : Int) (x : ByteArray) : -9999 ≤ b → b ≤ 9999 → x.size = 2 → Txt x → FormOf ⟨5, 0, b, [x]⟩
  | same (a b : Int) (x : ByteArray) : -9999 ≤ a → a ≤ 9999 → -9999 ≤ b → b ≤ 9999 → Txt x → FormOf ⟨6, a, b, [x]⟩
  | goTo (b : Int) : -9999 ≤ b → b ≤ 9999 → FormOf ⟨7, 0, b, []⟩
  | send (x : ByteArray) : Txt x → FormOf ⟨8, 0, 0, [x]⟩
  | pass (x y : ByteArray) : isNameS x = true → Txt x → Txt y → FormOf ⟨9, 0, 0, [x, y]⟩
  | keep (x : ByteArray) : Txt x → FormOf ⟨10, 0, 0, [x]⟩
  | back : FormOf ⟨11, 0, 0, []⟩
  | fail : FormOf ⟨12, 0, 0, []⟩
  | fin : FormOf ⟨13, 0, 0, []⟩
theorem isM0 {n many : Int} (h : isM 0 n many = true) : n = 0 := by simpa [isM] using h
theorem formOf {s : Step} {many : Int} (h : StepOk s many) (hm : many ≤ 9999) : FormOf s := by
  obtain ⟨a1, a2⟩ := isM_bd h.a hm
  obtain ⟨b1, b2⟩ := isM_bd h.b hm
  have ht : ∀ x ∈ s.texts, Txt x := fun x hx => txt_of (h.text x hx)
  obtain ⟨op, a, b, xs⟩ := s
  have hv := h.verb
  have hA := h.a
  have hB := h.b
  have hf := h.few
  have hl := h.all
  have hsp := h.special
  simp only at *
  rcases verb_cases hv with rfl | rfl | rfl | rfl | rfl | rfl | rfl | rfl | rfl | rfl | rfl | rfl | rfl
  · obtain rfl := list0 hl; obtain rfl := isM0 hB; exact .read a a1 a2
  · have hf : (2 : Int) ≤ xs.length := hf
    match xs, hf, ht, hsp with
    | [x], hf, _, _ => simp at hf
    | x :: z :: l, _, ht, hsp =>
      have hsp : isDoS x = true := hsp
      have e : z :: l = (z :: l).dropLast ++ [(z :: l).getLast (by simp)] := (List.dropLast_concat_getLast (by simp)).symm
      rw [e]
      refine .call a b x _ _ a1 a2 b1 b2 hsp (fun y hy => ht y ?_) (ht _ ?_)
      · exact List.mem_cons_of_mem _ ((List.dropLast_sublist _).subset hy)
      · exact List.mem_cons_of_mem _ (List.getLast_mem _)
  · obtain ⟨x, rfl⟩ := list1 hf hl; obtain rfl := isM0 hB; exact .set a x a1 a2 (ht x (by simp))
  · obtain rfl := list0 hl; exact .add a b a1 a2 b1 b2
  · obtain ⟨x, rfl⟩ := list1 hf hl; obtain rfl := isM0 hA
    have hsp : (x.size == 2) = true := hsp
    exact .when b x b1 b2 (by simpa using hsp) (ht x (by simp))
  · obtain ⟨x, rfl⟩ := list1 hf hl; exact .same a b x a1 a2 b1 b2 (ht x (by simp))
  · obtain rfl := list0 hl; obtain rfl := isM0 hA; exact .goTo b b1 b2
  · obtain ⟨x, rfl⟩ := list1 hf hl; obtain rfl := isM0 hA; obtain rfl := isM0 hB; exact .send x (ht x (by simp))
  · obtain ⟨x, y, rfl⟩ := list2 hf hl; obtain rfl := isM0 hA; obtain rfl := isM0 hB
    have hsp : isNameS x = true := hsp
    exact .pass x y hsp (ht x (by simp)) (ht y (by simp))
  · obtain ⟨x, rfl⟩ := list1 hf hl; obtain rfl := isM0 hA; obtain rfl := isM0 hB; exact .keep x (ht x (by simp))
  · obtain rfl := list0 hl; obtain rfl := isM0 hA; obtain rfl := isM0 hB; exact .back
  · obtain rfl := list0 hl; obtain rfl := isM0 hA; obtain rfl := isM0 hB; exact .fail
  · obtain rfl := list0 hl; obtain rfl := isM0 hA; obtain rfl := isM0 hB; exact .fin

/-! ### the lines of a step -/
/-- The first line of a step, without its line feed. -/
def headL (s : Step) : List UInt8 :=
  if s.op = 1 then [82, 69, 65, 68] ++ 32 :: dl s.a
  else if s.op = 2 then [67, 65, 76, 76] ++ 32 :: (dl s.a ++ 32 :: (tx s.texts 0 ++ 32 :: dl s.b))
  else if s.op = 3 then [83, 69, 84] ++ 32 :: (dl s.a ++ 32 :: tx s.texts 0)
  else if s.op = 4 then [65, 68, 68] ++ 32 :: (dl s.a ++ 32 :: dl s.b)
  else if s.op = 5 then [87, 72, 69, 78] ++ 32 :: (tx s.texts 0 ++ 32 :: dl s.b)
  else if s.op = 6 then [83, 65, 77, 69] ++ 32 :: (dl s.a ++ 32 :: (dl s.b ++ 32 :: tx s.texts 0))
  else if s.op = 7 then [71, 79] ++ 32 :: dl s.b
  else if s.op = 8 then [83, 69, 78, 68] ++ 32 :: tx s.texts 0
  else if s.op = 9 then [80, 65, 83, 83] ++ 32 :: (tx s.texts 0 ++ 32 :: tx s.texts 1)
  else if s.op = 10 then [75, 69, 69, 80] ++ 32 :: tx s.texts 0
  else if s.op = 11 then [66, 65, 67, 75]
  else if s.op = 12 then [70, 65, 73, 76]
  else [69, 78, 68]
/-- The lines behind it. -/
def tailT (s : Step) : List ByteArray :=
  if s.op = 2 then (s.texts.take (s.texts.length - 1)).drop 1 ++ [mkB ([61, 32] ++ tx s.texts (s.texts.length - 1))] else []
def indL (x : ByteArray) : List UInt8 := 32 :: 32 :: x.data.toList
def linesOf (s : Step) : List (List UInt8) := headL s :: (tailT s).map indL
def lf (l : List UInt8) : List UInt8 := l ++ [10]
theorem lineL_lines {s : Step} (h : FormOf s) : lineL s = (linesOf s).flatMap lf := by
  cases h with
  | call a b x y m _ _ _ _ hx _ _ =>
    have e1 : ((x :: (m ++ [y])).take ((x :: (m ++ [y])).length - 1)).drop 1 = m := by simp
    have e2 : tx (x :: (m ++ [y])) ((x :: (m ++ [y])).length - 1) = y.data.toList := by simp [tx]
    have e3 : midL m = (m.map indL).flatMap lf := by simp [midL, indL, lf, List.flatMap_map]
    simp only [lineL, linesOf, headL, tailT, e1, e2, e3]
    simp [lf, indL, mkB_toList]
  | _ => simp [lineL, linesOf, headL, tailT, lf]
theorem indL_mk (l : List UInt8) : indL (mkB l) = 32 :: 32 :: l := by unfold indL; rw [mkB_toList]
theorem linesOf_nf {s : Step} (h : FormOf s) : ∀ l ∈ linesOf s, ∀ c ∈ l, c ≠ 10 := by
  have hd : ∀ n : Int, ∀ c ∈ dl n, c ≠ 10 := fun n => dl_no n 10 (by decide)
  intro l hl c hc e
  subst e
  have ht : ∀ {x : ByteArray}, Txt x → (10 : UInt8) ∈ x.data.toList → False := fun hx h => hx.nf _ h rfl
  have hd' : ∀ n : Int, (10 : UInt8) ∈ dl n → False := fun n h => hd n _ h rfl
  cases h with
  | call a b x y m _ _ _ _ hx hm hy =>
    have e1 : ((x :: (m ++ [y])).take ((x :: (m ++ [y])).length - 1)).drop 1 = m := by simp
    have e2 : tx (x :: (m ++ [y])) ((x :: (m ++ [y])).length - 1) = y.data.toList := by simp [tx]
    simp only [linesOf, tailT, e1, e2, if_true, List.map_append, List.map_cons, List.map_nil, List.mem_cons, List.mem_append, List.mem_map, List.not_mem_nil, or_false] at hl
    rcases hl with rfl | ⟨z, hz, rfl⟩ | rfl
    · simp only [headL, tx] at hc
      simp at hc
      rcases hc with h | h | h
      · exact hd' _ h
      · exact do_no hx 10 (by decide) _ (by simpa using h) rfl
      · exact hd' _ h
    · simp [indL] at hc
      exact ht (hm z hz) (by simpa using hc)
    · rw [indL_mk] at hc
      simp at hc
      exact ht hy (by simpa using hc)
  | when b x _ _ _ hx =>
    obtain rfl : l = _ := by simpa [linesOf, tailT] using hl
    simp [headL, tx] at hc
    rcases hc with h | h
    · exact ht hx (by simpa using h)
    · exact hd' _ h
  | same a b x _ _ _ _ hx =>
    obtain rfl : l = _ := by simpa [linesOf, tailT] using hl
    simp [headL, tx] at hc
    rcases hc with h | h | h
    · exact hd' _ h
    · exact hd' _ h
    · exact ht hx (by simpa using h)
  | set a x _ _ hx =>
    obtain rfl : l = _ := by simpa [linesOf, tailT] using hl
    simp [headL, tx] at hc
    rcases hc with h | h
    · exact hd' _ h
    · exact ht hx (by simpa using h)
  | add a b =>
    obtain rfl : l = _ := by simpa [linesOf, tailT] using hl
    simp [headL] at hc
    rcases hc with h | h
    · exact hd' _ h
    · exact hd' _ h
  | read a =>
    obtain rfl : l = _ := by simpa [linesOf, tailT] using hl
    simp [headL] at hc
    exact hd' _ hc
  | goTo b =>
    obtain rfl : l = _ := by simpa [linesOf, tailT] using hl
    simp [headL] at hc
    exact hd' _ hc
  | send x hx =>
    obtain rfl : l = _ := by simpa [linesOf, tailT] using hl
    simp [headL, tx] at hc
    exact ht hx (by simpa using hc)
  | keep x hx =>
    obtain rfl : l = _ := by simpa [linesOf, tailT] using hl
    simp [headL, tx] at hc
    exact ht hx (by simpa using hc)
  | pass x y _ hx hy =>
    obtain rfl : l = _ := by simpa [linesOf, tailT] using hl
    simp [headL, tx] at hc
    rcases hc with h | h
    · exact ht hx (by simpa using h)
    · exact ht hy (by simpa using h)
  | _ =>
    obtain rfl : l = _ := by simpa [linesOf, tailT] using hl
    revert hc
    decide

/-! ### reading a step back -/
/-- What the first line of a step reads as. -/
def headS (s : Step) : Step := if s.op = 2 then ⟨2, s.a, s.b, [headT s.texts]⟩ else s
theorem tx0 (x : ByteArray) (l : List ByteArray) : tx (x :: l) 0 = x.data.toList := rfl
theorem cut_dl (n : Int) (r : List UInt8) : cutB 32 (dl n ++ 32 :: r) = (dl n, r, true) := cutB_app _ _ (dl_no n 32 (by decide))
theorem cut_dl1 (n : Int) : cutB 32 (dl n) = (dl n, [], false) := cutB_none (dl_no n 32 (by decide))
theorem readS_head {s : Step} (h : FormOf s) : readS (headL s) = headS s := by
  have w : ∀ (u r : List UInt8), (∀ x ∈ u, x ≠ 32) → cutB 32 (u ++ 32 :: r) = (u, r, true) := fun u r h => cutB_app u r h
  cases h with
  | read a h1 h2 =>
    have e : headL ⟨1, a, 0, []⟩ = [82, 69, 65, 68] ++ 32 :: dl a := rfl
    rw [e, readS, w _ _ (by decide)]
    simp [opOf, stepP, verbS, headS, cut_dl1, numL_dl a h1 h2]
  | call a b x y m h1 h2 h3 h4 hx hm hy =>
    have e : headL ⟨2, a, b, x :: (m ++ [y])⟩ = [67, 65, 76, 76] ++ 32 :: (dl a ++ 32 :: (x.data.toList ++ 32 :: dl b)) := rfl
    have ex := w x.data.toList (dl b) (do_no hx 32 (by decide))
    rw [e, readS, w _ _ (by decide)]
    simp [opOf, stepP, headS, headT, cut_dl, ex, cut_dl1, numL_dl a h1 h2, numL_dl b h3 h4, mkB_of]
  | set a x h1 h2 hx =>
    have e : headL ⟨3, a, 0, [x]⟩ = [83, 69, 84] ++ 32 :: (dl a ++ 32 :: x.data.toList) := rfl
    rw [e, readS, w _ _ (by decide)]
    simp [opOf, stepP, verbS, headS, cut_dl, numL_dl a h1 h2, mkB_of]
  | add a b h1 h2 h3 h4 =>
    have e : headL ⟨4, a, b, []⟩ = [65, 68, 68] ++ 32 :: (dl a ++ 32 :: dl b) := rfl
    rw [e, readS, w _ _ (by decide)]
    simp [opOf, stepP, verbS, headS, cut_dl, cut_dl1, numL_dl a h1 h2, numL_dl b h3 h4]
  | when b x h3 h4 h5 hx =>
    have e : headL ⟨5, 0, b, [x]⟩ = [87, 72, 69, 78] ++ 32 :: (x.data.toList ++ 32 :: dl b) := rfl
    have hl : x.data.toList.length = 2 := by simpa using h5
    have hd : (x.data.toList ++ 32 :: dl b).drop 3 = dl b := by
      rw [List.drop_append, hl, List.drop_eq_nil_of_le (by omega)]
      rfl
    have ht : (x.data.toList ++ 32 :: dl b).take 2 = x.data.toList := by
      rw [List.take_append, hl, List.take_of_length_le (by omega)]
      simp
    have hlen : 3 < (x.data.toList ++ 32 :: dl b).length := by
      have := dl_pos b
      rw [List.length_append, List.length_cons, hl]
      omega
    rw [e, readS, w _ _ (by decide)]
    have e5 : opOf [87, 72, 69, 78] = 5 := rfl
    simp only [e5, stepP, hd, ht, if_pos hlen, numL_dl b h3 h4, mkB_of]
    rfl
  | same a b x h1 h2 h3 h4 hx =>
    have e : headL ⟨6, a, b, [x]⟩ = [83, 65, 77, 69] ++ 32 :: (dl a ++ 32 :: (dl b ++ 32 :: x.data.toList)) := rfl
    rw [e, readS, w _ _ (by decide)]
    simp [opOf, stepP, verbS, headS, cut_dl, numL_dl a h1 h2, numL_dl b h3 h4, mkB_of]
  | goTo b h3 h4 =>
    have e : headL ⟨7, 0, b, []⟩ = [71, 79] ++ 32 :: dl b := rfl
    rw [e, readS, w _ _ (by decide)]
    simp [opOf, stepP, verbS, headS, cut_dl1, numL_dl b h3 h4]
  | send x hx =>
    have e : headL ⟨8, 0, 0, [x]⟩ = [83, 69, 78, 68] ++ 32 :: x.data.toList := rfl
    rw [e, readS, w _ _ (by decide)]
    simp [opOf, stepP, verbS, headS, mkB_of]
  | pass x y hn hx hy =>
    have e : headL ⟨9, 0, 0, [x, y]⟩ = [80, 65, 83, 83] ++ 32 :: (x.data.toList ++ 32 :: y.data.toList) := rfl
    rw [e, readS, w _ _ (by decide)]
    have ex := w x.data.toList y.data.toList (name_no hn 32 (by decide))
    simp [opOf, stepP, headS, ex, mkB_of]
  | keep x hx =>
    have e : headL ⟨10, 0, 0, [x]⟩ = [75, 69, 69, 80] ++ 32 :: x.data.toList := rfl
    rw [e, readS, w _ _ (by decide)]
    simp [opOf, stepP, verbS, headS, mkB_of]
  | back => rfl
  | fail => rfl
  | fin => rfl
theorem head_ind {s : Step} : Lib.hasPrefix (headL s) [32, 32] = false := by
  unfold headL
  by_cases h1 : s.op = 1
  · rw [if_pos h1]; rfl
  rw [if_neg h1]
  by_cases h2 : s.op = 2
  · rw [if_pos h2]; rfl
  rw [if_neg h2]
  by_cases h3 : s.op = 3
  · rw [if_pos h3]; rfl
  rw [if_neg h3]
  by_cases h4 : s.op = 4
  · rw [if_pos h4]; rfl
  rw [if_neg h4]
  by_cases h5 : s.op = 5
  · rw [if_pos h5]; rfl
  rw [if_neg h5]
  by_cases h6 : s.op = 6
  · rw [if_pos h6]; rfl
  rw [if_neg h6]
  by_cases h7 : s.op = 7
  · rw [if_pos h7]; rfl
  rw [if_neg h7]
  by_cases h8 : s.op = 8
  · rw [if_pos h8]; rfl
  rw [if_neg h8]
  by_cases h9 : s.op = 9
  · rw [if_pos h9]; rfl
  rw [if_neg h9]
  by_cases h10 : s.op = 10
  · rw [if_pos h10]; rfl
  rw [if_neg h10]
  by_cases h11 : s.op = 11
  · rw [if_pos h11]; rfl
  rw [if_neg h11]
  by_cases h12 : s.op = 12
  · rw [if_pos h12]; rfl
  rw [if_neg h12]
  rfl

/-! ### the lines one after the other -/
theorem bare_lf (l : List UInt8) : bareL (lf l) = l := by
  unfold bareL lf Lib.trimSuffix Lib.hasSuffix
  rw [if_pos (by rw [List.isSuffixOf_iff_suffix]; exact List.suffix_append _ _)]
  simp
theorem lineP_head {s : Step} (h : FormOf s) (nm : ByteArray) (ss : List Step) (i : Nat) (hi : 0 < i) : lineP ⟨nm, ss⟩ i (lf (headL s)) = ⟨nm, ss ++ [headS s]⟩ := by
  unfold lineP
  rw [bare_lf, if_neg (by omega), head_ind, if_neg (by simp), readS_head h]
theorem lineP_ind (nm : ByteArray) (ss : List Step) (s : Step) (x : ByteArray) (i : Nat) (hi : 0 < i) : lineP ⟨nm, ss ++ [s]⟩ i (lf (indL x)) = ⟨nm, ss ++ [⟨s.op, s.a, s.b, s.texts ++ [x]⟩]⟩ := by
  have h1 : Lib.hasPrefix (indL x) [32, 32] = true := by simp [Lib.hasPrefix, indL]
  have h2 : Lib.trimPrefix (indL x) [32, 32] = x.data.toList := by unfold Lib.trimPrefix; rw [h1]; rfl
  unfold lineP
  rw [bare_lf, if_neg (by omega), h1, if_pos (by simp), h2, mkB_of]
  simp [addText]
theorem linesP_inds (nm : ByteArray) (ss : List Step) : ∀ (xs : List ByteArray) (s : Step) (i : Nat), 0 < i → linesP ⟨nm, ss ++ [s]⟩ i ((xs.map indL).map lf) = ⟨nm, ss ++ [⟨s.op, s.a, s.b, s.texts ++ xs⟩]⟩
  | [], s, i, _ => by simp [linesP]
  | x :: xs, s, i, hi => by
    simp only [List.map_cons, linesP]
    rw [lineP_ind nm ss s x i hi, linesP_inds nm ss xs _ (i + 1) (by omega)]
    simp
/-- A step ahead of the last repair. -/
def preS (s : Step) : Step := ⟨s.op, s.a, s.b, (headS s).texts ++ tailT s⟩
theorem linesP_step {s : Step} (h : FormOf s) (nm : ByteArray) (ss : List Step) (i : Nat) (hi : 0 < i) : linesP ⟨nm, ss⟩ i ((linesOf s).map lf) = ⟨nm, ss ++ [preS s]⟩ := by
  unfold linesOf
  simp only [List.map_cons, linesP]
  rw [lineP_head h nm ss i hi, linesP_inds nm ss _ _ (i + 1) (by omega)]
  have e : (headS s).op = s.op ∧ (headS s).a = s.a ∧ (headS s).b = s.b := by
    unfold headS
    split
    · rename_i h2; exact ⟨h2.symm, rfl, rfl⟩
    · exact ⟨rfl, rfl, rfl⟩
  rw [e.1, e.2.1, e.2.2]
  rfl
theorem linesP_steps (nm : ByteArray) : ∀ (ts : List Step), (∀ s ∈ ts, FormOf s) → ∀ (ss : List Step) (i : Nat), 0 < i → linesP ⟨nm, ss⟩ i ((ts.flatMap linesOf).map lf) = ⟨nm, ss ++ ts.map preS⟩
  | [], _, ss, i, _ => by simp [linesP]
  | s :: ts, h, ss, i, hi => by
    rw [List.flatMap_cons, List.map_append, linesP_app, linesP_step (h s (by simp)) nm ss i hi, linesP_steps nm ts (fun t ht => h t (by simp [ht])) _ _ (by omega)]
    simp
theorem fix_pre {s : Step} (h : FormOf s) : fixS (preS s) = s := by
  cases h with
  | call a b x y m _ _ _ _ hx hm hy =>
    have e1 : ((x :: (m ++ [y])).take ((x :: (m ++ [y])).length - 1)).drop 1 = m := by simp
    have e2 : tx (x :: (m ++ [y])) ((x :: (m ++ [y])).length - 1) = y.data.toList := by simp [tx]
    have e : preS ⟨2, a, b, x :: (m ++ [y])⟩ = ⟨2, a, b, (x :: m) ++ [mkB ([61, 32] ++ y.data.toList)]⟩ := by
      unfold preS headS tailT
      simp only [e1, e2, if_true]
      rfl
    rw [e]
    have h1 : Lib.trimPrefix (mkB ([61, 32] ++ y.data.toList)).data.toList [61, 32] = y.data.toList := by
      rw [mkB_toList]
      unfold Lib.trimPrefix
      rw [if_pos (by simp [Lib.hasPrefix])]
      simp
    unfold fixS
    simp only [List.getLast?_append, List.getLast?_singleton, Option.some_or]
    rw [if_pos ⟨trivial, by simp⟩, h1, mkB_of, List.dropLast_concat]
    rfl
  | _ => rfl
theorem linesL_all : ∀ (L : List (List UInt8)), (∀ l ∈ L, ∀ c ∈ l, c ≠ 10) → linesL (L.flatMap lf) = L.map lf
  | [], _ => rfl
  | l :: L, h => by
    have h1 := linesL_all L (fun m hm => h m (by simp [hm]))
    rw [List.flatMap_cons, show lf l ++ L.flatMap lf = l ++ 10 :: L.flatMap lf by simp [lf], linesL_cut l _ (h l (by simp)), h1]
    rfl
theorem format_lines {p : Prog} (h : ∀ s ∈ p.steps, FormOf s) : formatL p = (([80, 82, 79, 71, 82, 65, 77, 32] ++ p.name.data.toList) :: p.steps.flatMap linesOf).flatMap lf := by
  have : ∀ ts : List Step, (∀ s ∈ ts, FormOf s) → ts.flatMap lineL = (ts.flatMap linesOf).flatMap lf := by
    intro ts
    induction ts with
    | nil => intro _; rfl
    | cons t ts ih =>
      intro h
      rw [List.flatMap_cons, List.flatMap_cons, List.flatMap_append, lineL_lines (h t (by simp)), ih (fun s hs => h s (by simp [hs]))]
  unfold formatL
  rw [List.flatMap_cons, this p.steps h]
  simp [lf]
theorem valid_forms {p : Prog} (h : validS p = true) : ∀ s ∈ p.steps, FormOf s := fun s hs => by
  have hk := validOk h
  have := hk.len
  exact formOf (hk.each s hs) (by omega)
/-- The text of a valid program is read as it was. -/
theorem tentP_format {p : Prog} (h : validS p = true) : tentP (formatS p) = p := by
  have hf := valid_forms h
  have hn := (validOk h).name
  unfold tentP formatS
  rw [mkB_toList, format_lines hf, linesL_all]
  · have hl : lineP ⟨⟨#[]⟩, []⟩ 0 (lf ([80, 82, 79, 71, 82, 65, 77, 32] ++ p.name.data.toList)) = ⟨p.name, []⟩ := by
      unfold lineP
      rw [if_pos rfl, bare_lf]
      unfold Lib.trimPrefix
      rw [if_pos (by simp [Lib.hasPrefix])]
      simp [mkB_of]
    simp only [List.map_cons, linesP]
    rw [hl, linesP_steps p.name p.steps hf [] 1 (by omega)]
    simp only [List.nil_append, List.map_map]
    have : p.steps.map (fixS ∘ preS) = p.steps := by
      conv => rhs; rw [← List.map_id p.steps]
      exact List.map_congr_left fun s hs => fix_pre (hf s hs)
    rw [this]
  · intro l hl c hc
    rcases List.mem_cons.1 hl with rfl | hl
    · rcases List.mem_append.1 hc with h | h
      · intro e; subst e; revert h; decide
      · exact name_no hn 10 (by decide) c h
    · obtain ⟨s, hs, hls⟩ := List.mem_flatMap.1 hl
      exact linesOf_nf (hf s hs) l hls c hc
theorem parseS_format {p : Prog} (h : validS p = true) : parseS (formatS p) = (p, 0) := by
  unfold parseS
  rw [tentP_format h, if_pos ⟨h, rfl⟩]
theorem parseS_ok {s : ByteArray} (h : (parseS s).2 = 0) : validS (parseS s).1 = true ∧ formatS (parseS s).1 = s := by
  unfold parseS at h ⊢
  split
  · rename_i k; exact k
  · rename_i k
    rw [if_neg k] at h
    cases h
end Go.Proofs.YtkdbajpdcadliaaGreatDoor.Pg
