/- Plain: the text of a valid program is read back by the reference's rules, too; how long it is. -/
import Derived.Test.YtkdbajpdcadliaaGreatDoorPb
set_option linter.unusedVariables false
namespace Go.Proofs.YtkdbajpdcadliaaGreatDoor.Pg

/-- A number as the reference reads it. -/
def numR (u : List UInt8) : Int := numberS (mkB u)
def c1 (l : List UInt8) : List UInt8 := (cutB 32 l).1
def c2 (l : List UInt8) : List UInt8 := (cutB 32 l).2.1
/-- What a line says, its first word known. -/
def stepQ (op : Int) (rest : List UInt8) : Step :=
  if op = 1 then ⟨1, numR rest, 0, []⟩
  else if op = 2 then ⟨2, numR (c1 rest), numR (c2 (c2 rest)), [mkB (c1 (c2 rest))]⟩
  else if op = 3 then ⟨3, numR (c1 rest), 0, [mkB (c2 rest)]⟩
  else if op = 4 then ⟨4, numR (c1 rest), numR (c2 rest), []⟩
  else if op = 5 then (if 3 < rest.length then ⟨5, 0, numR (rest.drop 3), [mkB (rest.take 2)]⟩ else ⟨0, 0, 0, []⟩)
  else if op = 6 then ⟨6, numR (c1 rest), numR (c1 (c2 rest)), [mkB (c2 (c2 rest))]⟩
  else if op = 7 then ⟨7, 0, numR rest, []⟩
  else if op = 8 then ⟨8, 0, 0, [mkB rest]⟩
  else if op = 9 then ⟨9, 0, 0, [mkB (c1 rest), mkB (c2 rest)]⟩
  else if op = 10 then ⟨10, 0, 0, [mkB rest]⟩
  else if op = 11 then ⟨11, 0, 0, []⟩
  else if op = 12 then ⟨12, 0, 0, []⟩
  else if op = 13 then ⟨13, 0, 0, []⟩
  else ⟨0, 0, 0, []⟩
def stepR (l : List UInt8) : Step := stepQ (opOf (c1 l)) (c2 l)
def lastOp (ss : List Step) : Int := match ss.getLast? with
  | some s => s.op
  | none => 0
def lineR (ss : List Step) (l : List UInt8) : List Step :=
  if Lib.hasPrefix l [32, 32] = true ∧ lastOp ss = 2 then addText ss (mkB (l.drop 2)) else ss ++ [stepR l]
def linesR (ss : List Step) (ls : List (List UInt8)) : List Step := ls.foldl lineR ss
def pgmL : List UInt8 := [80, 82, 79, 71, 82, 65, 77, 32]
def tentR (s : ByteArray) : Prog :=
  match splitL 10 s.data.toList with
  | l0 :: l1 :: ls => if 8 < l0.length ∧ Lib.hasPrefix l0 pgmL = true then ⟨mkB (l0.drop 8), (linesR [] (l1 :: ls).dropLast).map fixS⟩ else ⟨⟨#[]⟩, []⟩
  | _ => ⟨⟨#[]⟩, []⟩
def parseR (s : ByteArray) : Prog × Int :=
  if validS (tentR s) = true ∧ formatS (tentR s) = s then (tentR s, 0) else (⟨⟨#[]⟩, []⟩, 3)

theorem valL_app (l : List UInt8) (c : UInt8) : valL (l ++ [c]) = 10 * valL l + (c.toNat - 48) := by
  unfold valL; rw [List.foldl_append]; rfl
theorem valL_dec : ∀ u : Nat, valL (Lib.decDigits u) = u := by
  intro u
  induction u using Nat.strongRecOn with
  | ind u ih =>
    by_cases hu : u < 10
    · rw [decDigits_small u hu]
      show 10 * 0 + ((UInt8.ofNat (48 + u)).toNat - 48) = u
      rw [u8_dig u hu]; omega
    · rw [decDigits_big u hu, valL_app, ih (u / 10) (by omega), u8_dig (u % 10) (by omega)]
      omega
theorem dec_len : ∀ (k u : Nat), u < 10 ^ (k + 1) → (Lib.decDigits u).length ≤ k + 1
  | 0, u, h => by rw [decDigits_small u (by simpa using h)]; simp
  | k + 1, u, h => by
    by_cases hu : u < 10
    · rw [decDigits_small u hu]; simp
    · rw [decDigits_big u hu, List.length_append]
      have := dec_len k (u / 10) (by rw [Nat.pow_succ] at h; omega)
      simp; omega
theorem plain_dec (u : Nat) (h : u < 100000) : plainS (mkB (Lib.decDigits u)) = ((u : Int), true) := by
  have hl := dec_len 4 u (by simpa using h)
  have hp : 0 < (Lib.decDigits u).length := List.length_pos_iff.2 (dec_ne u)
  have hok : fdOk (mkB (Lib.decDigits u)) = true := by
    unfold fdOk
    simp only [Bool.and_eq_true, decide_eq_true_eq, mkB_size]
    refine ⟨⟨by omega, by omega⟩, ?_⟩
    unfold allB
    rw [mkB_toList, List.all_eq_true]
    intro c hc
    have := dec_dig u c hc
    unfold digOk
    simp only [Bool.and_eq_true, decide_eq_true_eq]
    exact this
  have hv : fdS (mkB (Lib.decDigits u)) = ((u : Int), 0) := by rw [fdS_ok hok, mkB_toList, valL_dec]
  unfold plainS
  rw [hv, if_pos ⟨hok, by unfold decS Lib.itoa; rw [if_neg (by simp), Int.toNat_natCast]⟩]
theorem numR_dl (n : Int) (h1 : -9999 ≤ n) (h2 : n ≤ 9999) : numR (dl n) = n := by
  unfold numR numberS dl Lib.itoa
  by_cases hn : n < 0
  · rw [if_pos hn]
    have hp : 0 < (Lib.decDigits n.natAbs).length := List.length_pos_iff.2 (dec_ne _)
    rw [if_pos ⟨by rw [mkB_size, List.length_cons]; omega, by rw [mkB_toList]; rfl⟩]
    have e : (mkB (45 :: Lib.decDigits n.natAbs)).extract 1 (mkB (45 :: Lib.decDigits n.natAbs)).size = mkB (Lib.decDigits n.natAbs) := ext_list (by rw [extract_from, mkB_toList, mkB_toList]; rfl)
    rw [e, plain_dec _ (by omega)]
    show -((n.natAbs : Nat) : Int) = n
    omega
  · rw [if_neg hn]
    rw [if_neg ?_, plain_dec _ (by omega)]
    · show ((n.toNat : Nat) : Int) = n
      omega
    · rintro ⟨_, h⟩
      rw [mkB_toList] at h
      cases hd : Lib.decDigits n.toNat with
      | nil => exact absurd hd (dec_ne _)
      | cons c r =>
        rw [hd] at h
        have hc := dec_dig n.toNat c (by rw [hd]; simp)
        simp at h
        subst h
        revert hc
        decide
theorem stepR_head {s : Step} (h : FormOf s) : stepR (headL s) = headS s := by
  have w : ∀ (u r : List UInt8), (∀ x ∈ u, x ≠ 32) → cutB 32 (u ++ 32 :: r) = (u, r, true) := fun u r h => cutB_app u r h
  cases h with
  | read a h1 h2 =>
    have e : headL ⟨1, a, 0, []⟩ = [82, 69, 65, 68] ++ 32 :: dl a := rfl
    rw [e, stepR, c1, c2, w _ _ (by decide)]
    simp [opOf, stepQ, headS, numR_dl a h1 h2]
  | call a b x y m h1 h2 h3 h4 hx hm hy =>
    have e : headL ⟨2, a, b, x :: (m ++ [y])⟩ = [67, 65, 76, 76] ++ 32 :: (dl a ++ 32 :: (x.data.toList ++ 32 :: dl b)) := rfl
    have ex := w x.data.toList (dl b) (do_no hx 32 (by decide))
    rw [e, stepR, c1, c2, w _ _ (by decide)]
    simp [opOf, stepQ, c1, c2, headS, headT, cut_dl, ex, numR_dl a h1 h2, numR_dl b h3 h4, mkB_of]
  | set a x h1 h2 hx =>
    have e : headL ⟨3, a, 0, [x]⟩ = [83, 69, 84] ++ 32 :: (dl a ++ 32 :: x.data.toList) := rfl
    rw [e, stepR, c1, c2, w _ _ (by decide)]
    simp [opOf, stepQ, c1, c2, headS, cut_dl, numR_dl a h1 h2, mkB_of]
  | add a b h1 h2 h3 h4 =>
    have e : headL ⟨4, a, b, []⟩ = [65, 68, 68] ++ 32 :: (dl a ++ 32 :: dl b) := rfl
    rw [e, stepR, c1, c2, w _ _ (by decide)]
    simp [opOf, stepQ, c1, c2, headS, cut_dl, numR_dl a h1 h2, numR_dl b h3 h4]
  | when b x h3 h4 h5 hx =>
    have e : headL ⟨5, 0, b, [x]⟩ = [87, 72, 69, 78] ++ 32 :: (x.data.toList ++ 32 :: dl b) := rfl
    have hl : x.data.toList.length = 2 := by simpa using h5
    have hd : (x.data.toList ++ 32 :: dl b).drop 3 = dl b := by
      rw [List.drop_append, hl, List.drop_eq_nil_of_le (by omega)]
      rfl
    have ht : (x.data.toList ++ 32 :: dl b).take 2 = x.data.toList := by
      rw [List.take_append, hl, List.take_of_length_le (by omega)]
      simp
    have hlen : 3 < (x.data.toList ++ 32 :: dl b).length := by
      have := dl_pos b
      rw [List.length_append, List.length_cons, hl]
      omega
    rw [e, stepR, c1, c2, w _ _ (by decide)]
    have e5 : opOf [87, 72, 69, 78] = 5 := rfl
    simp only [e5, stepQ, hd, ht, if_pos hlen, numR_dl b h3 h4, mkB_of]
    rfl
  | same a b x h1 h2 h3 h4 hx =>
    have e : headL ⟨6, a, b, [x]⟩ = [83, 65, 77, 69] ++ 32 :: (dl a ++ 32 :: (dl b ++ 32 :: x.data.toList)) := rfl
    rw [e, stepR, c1, c2, w _ _ (by decide)]
    simp [opOf, stepQ, c1, c2, headS, cut_dl, numR_dl a h1 h2, numR_dl b h3 h4, mkB_of]
  | goTo b h3 h4 =>
    have e : headL ⟨7, 0, b, []⟩ = [71, 79] ++ 32 :: dl b := rfl
    rw [e, stepR, c1, c2, w _ _ (by decide)]
    simp [opOf, stepQ, headS, numR_dl b h3 h4]
  | send x hx =>
    have e : headL ⟨8, 0, 0, [x]⟩ = [83, 69, 78, 68] ++ 32 :: x.data.toList := rfl
    rw [e, stepR, c1, c2, w _ _ (by decide)]
    simp [opOf, stepQ, headS, mkB_of]
  | pass x y hn hx hy =>
    have e : headL ⟨9, 0, 0, [x, y]⟩ = [80, 65, 83, 83] ++ 32 :: (x.data.toList ++ 32 :: y.data.toList) := rfl
    rw [e, stepR, c1, c2, w _ _ (by decide)]
    have ex := w x.data.toList y.data.toList (name_no hn 32 (by decide))
    simp [opOf, stepQ, c1, c2, headS, ex, mkB_of]
  | keep x hx =>
    have e : headL ⟨10, 0, 0, [x]⟩ = [75, 69, 69, 80] ++ 32 :: x.data.toList := rfl
    rw [e, stepR, c1, c2, w _ _ (by decide)]
    simp [opOf, stepQ, headS, mkB_of]
  | back => rfl
  | fail => rfl
  | fin => rfl
theorem lastOp_snoc (ss : List Step) (s : Step) : lastOp (ss ++ [s]) = s.op := by unfold lastOp; simp
theorem lineR_head {s : Step} (h : FormOf s) (ss : List Step) : lineR ss (headL s) = ss ++ [headS s] := by
  unfold lineR
  rw [head_ind, if_neg (by simp), stepR_head h]
theorem linesR_inds (ss : List Step) : ∀ (xs : List ByteArray) (s : Step), s.op = 2 → linesR (ss ++ [s]) (xs.map indL) = ss ++ [⟨s.op, s.a, s.b, s.texts ++ xs⟩]
  | [], s, _ => by simp [linesR]
  | x :: xs, s, h => by
    have h1 : Lib.hasPrefix (indL x) [32, 32] = true := by simp [Lib.hasPrefix, indL]
    have e : lineR (ss ++ [s]) (indL x) = ss ++ [⟨s.op, s.a, s.b, s.texts ++ [x]⟩] := by
      unfold lineR
      rw [if_pos ⟨h1, by rw [lastOp_snoc, h]⟩]
      have h2 : (indL x).drop 2 = x.data.toList := rfl
      rw [h2, mkB_of]
      simp [addText]
    have ih := linesR_inds ss xs ⟨s.op, s.a, s.b, s.texts ++ [x]⟩ h
    unfold linesR at ih ⊢
    rw [List.map_cons, List.foldl_cons, e, ih]
    simp
theorem linesR_step {s : Step} (h : FormOf s) (ss : List Step) : linesR ss (linesOf s) = ss ++ [preS s] := by
  have e1 : linesR ss (linesOf s) = linesR (ss ++ [headS s]) ((tailT s).map indL) := by
    unfold linesR linesOf
    rw [List.foldl_cons, lineR_head h]
  rw [e1]
  by_cases h2 : s.op = 2
  · have e : (headS s).op = 2 ∧ (headS s).a = s.a ∧ (headS s).b = s.b := by unfold headS; rw [if_pos h2]; exact ⟨rfl, rfl, rfl⟩
    rw [linesR_inds ss _ _ e.1, e.1, e.2.1, e.2.2]
    unfold preS
    rw [h2]
  · have e2 : tailT s = [] := by unfold tailT; rw [if_neg h2]
    have e3 : headS s = s := by unfold headS; rw [if_neg h2]
    unfold preS
    rw [e2, e3]
    simp [linesR]
theorem linesR_steps : ∀ (ts : List Step), (∀ s ∈ ts, FormOf s) → ∀ (ss : List Step), linesR ss (ts.flatMap linesOf) = ss ++ ts.map preS
  | [], _, ss => by simp [linesR]
  | s :: ts, h, ss => by
    have e : linesR ss ((s :: ts).flatMap linesOf) = linesR (linesR ss (linesOf s)) (ts.flatMap linesOf) := by
      unfold linesR
      rw [List.flatMap_cons, List.foldl_append]
    rw [e, linesR_step (h s (by simp)) ss, linesR_steps ts (fun t ht => h t (by simp [ht]))]
    simp
theorem splitL_all : ∀ (L : List (List UInt8)), (∀ l ∈ L, ∀ c ∈ l, c ≠ 10) → splitL 10 (L.flatMap lf) = L ++ [[]]
  | [], _ => rfl
  | l :: L, h => by
    rw [List.flatMap_cons, show lf l ++ L.flatMap lf = l ++ 10 :: L.flatMap lf by simp [lf], splitL_at _ (h l (by simp)), splitL_all L (fun m hm => h m (by simp [hm]))]
    rfl
theorem linesOf_pos : ∀ {ts : List Step}, 0 < ts.length → ts.flatMap linesOf ≠ []
  | [], h => by simp at h
  | t :: ts, _ => by rw [List.flatMap_cons]; simp [linesOf]
theorem tentR_format {p : Prog} (h : validS p = true) : tentR (formatS p) = p := by
  have hf := valid_forms h
  have hn := (validOk h).name
  have hsz : 1 ≤ p.name.size := by
    unfold isNameS at hn
    simp only [Bool.and_eq_true, decide_eq_true_eq] at hn
    exact hn.1.2
  have hs : splitL 10 (formatS p).data.toList = (pgmL ++ p.name.data.toList) :: (p.steps.flatMap linesOf ++ [[]]) := by
    unfold formatS
    rw [mkB_toList, format_lines hf, splitL_all]
    · rfl
    · intro l hl c hc
      rcases List.mem_cons.1 hl with rfl | hl
      · rcases List.mem_append.1 hc with h | h
        · intro e; subst e; revert h; decide
        · exact name_no hn 10 (by decide) c h
      · obtain ⟨s, hs, hls⟩ := List.mem_flatMap.1 hl
        exact linesOf_nf (hf s hs) l hls c hc
  unfold tentR
  rw [hs]
  have hlen : 0 < p.steps.length := by
    unfold validS at h
    simp only [Bool.and_eq_true, decide_eq_true_eq] at h
    exact h.1.1.2
  obtain ⟨l1, ls, hl⟩ : ∃ l1 ls, p.steps.flatMap linesOf ++ [[]] = l1 :: ls := by
    cases hq : p.steps.flatMap linesOf with
    | nil => exact absurd hq (linesOf_pos hlen)
    | cons a l => exact ⟨a, l ++ [[]], rfl⟩
  have hsz2 : p.name.data.toList.length = p.name.size := Array.length_toList
  rw [hl]
  simp only []
  rw [if_pos ⟨by rw [List.length_append, hsz2]; simp [pgmL]; omega, by simp [Lib.hasPrefix, pgmL]⟩, ← hl, List.dropLast_concat, linesR_steps p.steps hf []]
  have e1 : (pgmL ++ p.name.data.toList).drop 8 = p.name.data.toList := rfl
  rw [e1, mkB_of, List.nil_append, List.map_map]
  have : p.steps.map (fixS ∘ preS) = p.steps := by
    conv => rhs; rw [← List.map_id p.steps]
    exact List.map_congr_left fun s hs => fix_pre (hf s hs)
  rw [this]
/-- Both sides read alike. -/
theorem parseR_eq (s : ByteArray) : parseR s = parseS s := by
  by_cases h : validS (tentP s) = true ∧ formatS (tentP s) = s
  · have e := tentR_format h.1
    rw [h.2] at e
    unfold parseR parseS
    rw [e]
  · by_cases k : validS (tentR s) = true ∧ formatS (tentR s) = s
    · have e := tentP_format k.1
      rw [k.2] at e
      unfold parseR parseS
      rw [e]
    · unfold parseR parseS
      rw [if_neg h, if_neg k]
/-! ### how long a text is -/
theorem dl_len5 (n : Int) (h1 : -9999 ≤ n) (h2 : n ≤ 9999) : (dl n).length ≤ 6 := by
  unfold dl Lib.itoa
  split
  · have := dec_len 4 n.natAbs (by omega)
    simp; omega
  · have := dec_len 4 n.toNat (by omega)
    omega
theorem midL_len5 : ∀ (xs : List ByteArray), (∀ x ∈ xs, (x.size : Int) ≤ 100) → (midL xs).length ≤ 103 * xs.length
  | [], _ => by simp [midL]
  | x :: xs, h => by
    have ih := midL_len5 xs (fun y hy => h y (by simp [hy]))
    have hx := h x (by simp)
    have hsz : x.data.toList.length = x.size := Array.length_toList
    unfold midL at ih ⊢
    rw [List.flatMap_cons, List.length_append, List.length_append, List.length_append, hsz]
    have e1 : ([32, 32] : List UInt8).length = 2 := rfl
    have e2 : ([10] : List UInt8).length = 1 := rfl
    rw [e1, e2, List.length_cons]
    omega
theorem lineL_len5 {s : Step} {many : Int} (h : StepOk s many) (hm : many ≤ 9999) : (lineL s).length ≤ 1500 := by
  obtain ⟨a1, a2⟩ := isM_bd h.a hm
  obtain ⟨b1, b2⟩ := isM_bd h.b hm
  have ha := dl_len5 s.a a1 a2
  have hb := dl_len5 s.b b1 b2
  have ht : ∀ i, (tx s.texts i).length ≤ 100 := by
    intro i
    unfold tx
    rcases Nat.lt_or_ge i s.texts.length with hi | hi
    · have e : s.texts.getD i ⟨#[]⟩ = s.texts[i] := by simp [List.getD_eq_getElem?_getD, List.getElem?_eq_getElem hi]
      have hx := h.size _ (List.getElem_mem hi)
      have hsz : s.texts[i].data.toList.length = s.texts[i].size := Array.length_toList
      rw [e, hsz]
      omega
    · have e : s.texts.getD i ⟨#[]⟩ = ⟨#[]⟩ := by simp [List.getD_eq_getElem?_getD, List.getElem?_eq_none hi]
      rw [e]
      simp
  have hl : s.texts.length ≤ 7 := by
    have h1 := h.all
    have h2 : (verbS s.op).1.all ≤ 7 := by
      rcases verb_cases h.verb with e | e | e | e | e | e | e | e | e | e | e | e | e <;> rw [e] <;> decide
    omega
  have t0 := ht 0
  have t1 := ht 1
  have tl := ht (s.texts.length - 1)
  have hmid := midL_len5 ((s.texts.take (s.texts.length - 1)).drop 1) (fun x hx => h.size x (List.take_subset _ _ (List.drop_subset _ _ hx)))
  have hml : ((s.texts.take (s.texts.length - 1)).drop 1).length ≤ 7 := by rw [List.length_drop, List.length_take]; omega
  have hn : ∀ (b : UInt8) (l : List UInt8), (b :: l).length = l.length + 1 := fun b l => rfl
  have h0 : ([] : List UInt8).length = 0 := rfl
  have hs : ∀ (c : Prop) [Decidable c] (x y : List UInt8), x.length ≤ 1500 → y.length ≤ 1500 → (if c then x else y).length ≤ 1500 := by
    intro c _ x y h1 h2
    split
    · exact h1
    · exact h2
  unfold lineL
  repeat' apply hs
  all_goals
    simp only [List.length_append, hn, h0]
    omega
theorem formatL_len {p : Prog} (h : validS p = true) : (formatL p).length ≤ 70000 := by
  have hk := validOk h
  have hn := hk.name
  have hsz : p.name.size ≤ 8 := by
    unfold isNameS at hn
    simp only [Bool.and_eq_true, decide_eq_true_eq] at hn
    exact hn.2
  have hsz2 : p.name.data.toList.length = p.name.size := Array.length_toList
  have hlen := hk.len
  have hall : ∀ ts : List Step, (∀ s ∈ ts, (lineL s).length ≤ 1500) → (ts.flatMap lineL).length ≤ 1500 * ts.length := by
    intro ts
    induction ts with
    | nil => intro _; simp
    | cons t ts ih =>
      intro h
      have h1 := ih (fun s hs => h s (by simp [hs]))
      have h2 := h t (by simp)
      rw [List.flatMap_cons, List.length_append, List.length_cons]
      omega
  have := hall p.steps (fun s hs => lineL_len5 (hk.each s hs) (by omega))
  unfold formatL
  simp only [List.length_append, List.length_cons, List.length_nil, hsz2]
  omega
theorem formatS_len {p : Prog} (h : validS p = true) : ((formatS p).size : Int) ≤ 70000 := by
  unfold formatS
  rw [mkB_size]
  have := formatL_len h
  omega
end Go.Proofs.YtkdbajpdcadliaaGreatDoor.Pg
