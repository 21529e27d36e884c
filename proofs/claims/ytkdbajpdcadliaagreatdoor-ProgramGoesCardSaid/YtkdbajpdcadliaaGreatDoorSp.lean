/- The plain words of layer 25 (program): texts, steps, programs, runs; no Go and no memory here. · The plain words of layer 25, second part: the lines of steps, the text of a program. -/
import Derived.Lib.ItoaNum
namespace Go.Proofs.YtkdbajpdcadliaaGreatDoor.Pg

/-! ### bytes of a text -/
def allB (p : UInt8 → Bool) (s : ByteArray) : Bool := s.data.toList.all p

theorem allB_of {p : UInt8 → Bool} {s : ByteArray} (h : ∀ i (hi : i < s.size), p s[i] = true) : allB p s = true := by
  unfold allB
  rw [List.all_eq_true]
  intro x hx
  obtain ⟨i, hi, rfl⟩ := List.getElem_of_mem hx
  exact h i (by simpa using hi)

theorem allB_not {p : UInt8 → Bool} {s : ByteArray} (i : Nat) (hi : i < s.size) (h : p s[i] = false) : allB p s = false := by
  unfold allB
  rw [List.all_eq_false]
  refine ⟨s[i], ?_, by simp [h]⟩
  have : s[i] = s.data.toList[i]'(by simpa using hi) := by
    simp [ByteArray.getElem_eq_getElem_data]
  rw [this]
  exact List.getElem_mem _

theorem allB_get {p : UInt8 → Bool} {s : ByteArray} (h : allB p s = true) (i : Nat) (hi : i < s.size) : p s[i] = true := by
  unfold allB at h
  rw [List.all_eq_true] at h
  apply h
  have : s[i] = s.data.toList[i]'(by simpa using hi) := by
    simp [ByteArray.getElem_eq_getElem_data]
  rw [this]
  exact List.getElem_mem _

def printable (c : UInt8) : Bool := decide (32 ≤ c.toNat) && decide (c.toNat ≤ 126)
def isTextS (s : ByteArray) : Bool := allB printable s && decide (s.size ≤ 100)

/-- Each byte is right at its place. -/
def allI (p : Nat → UInt8 → Bool) (s : ByteArray) : Bool := decide (∀ i, (h : i < s.size) → p i s[i] = true)
theorem allI_of {p : Nat → UInt8 → Bool} {s : ByteArray} (h : ∀ i (hi : i < s.size), p i s[i] = true) : allI p s = true := decide_eq_true h
theorem allI_not {p : Nat → UInt8 → Bool} {s : ByteArray} (i : Nat) (hi : i < s.size) (h : p i s[i] = false) : allI p s = false :=
  decide_eq_false fun k => by have := k i hi; rw [h] at this; cases this
theorem allI_get {p : Nat → UInt8 → Bool} {s : ByteArray} (h : allI p s = true) (i : Nat) (hi : i < s.size) : p i s[i] = true := of_decide_eq_true h i hi

def nameOk (i : Nat) (c : UInt8) : Bool := (decide (65 ≤ c.toNat) && decide (c.toNat ≤ 90)) || (decide (i ≠ 0) && decide (48 ≤ c.toNat) && decide (c.toNat ≤ 57))
def isNameS (s : ByteArray) : Bool := allI nameOk s && decide (1 ≤ s.size) && decide (s.size ≤ 8)
def mkB (l : List UInt8) : ByteArray := ⟨l.toArray⟩
theorem mkB_toList (l : List UInt8) : (mkB l).data.toList = l := by simp [mkB]
theorem mkB_size (l : List UInt8) : (mkB l).size = l.length := by simp [mkB, ByteArray.size]
theorem ext_list {a b : ByteArray} (h : a.data.toList = b.data.toList) : a = b := ByteArray.ext (Array.toList_inj.mp h)
theorem mkB_of (s : ByteArray) : mkB s.data.toList = s := ext_list (mkB_toList _)

theorem extract_list (s : ByteArray) (a b : Nat) : (s.extract a b).data.toList = (s.data.toList.take b).drop a := by
  rw [ByteArray.data_extract, Array.toList_extract, List.extract_eq_take_drop, List.drop_take]
theorem extract_upto (s : ByteArray) (b : Nat) : (s.extract 0 b).data.toList = s.data.toList.take b := by rw [extract_list]; rfl
theorem extract_from (s : ByteArray) (a : Nat) : (s.extract a s.size).data.toList = s.data.toList.drop a := by
  rw [extract_list, List.take_of_length_le (by simp)]

/-- The nine calls. -/
def dosL : List (List UInt8) := [[71, 85], [71, 78], [71, 78, 80], [71, 72, 85], [71, 72, 78], [71, 72, 78, 80], [73, 83, 82, 84], [82, 69, 80, 76], [68, 76, 69, 84]]
def isDoS (s : ByteArray) : Bool := dosL.any (· == s.toList)
/-- A number in decimal digits. -/
def decS (n : Int) : ByteArray := mkB (Lib.itoa n)
/-! ### numbers out of digits -/
def digOk (c : UInt8) : Bool := decide (48 ≤ c.toNat) && decide (c.toNat ≤ 57)
def valL (l : List UInt8) : Nat := l.foldl (fun n c => 10 * n + (c.toNat - 48)) 0
def fdOk (s : ByteArray) : Bool := decide (1 ≤ s.size) && decide (s.size ≤ 9) && allB digOk s
/-- FromDigits: the number, and the error. -/
def fdS (s : ByteArray) : Int × Int := if fdOk s then ((valL s.data.toList : Int), 0) else (0, 3)
theorem fdS_ok {s : ByteArray} (h : fdOk s = true) : fdS s = ((valL s.data.toList : Int), 0) := by unfold fdS; rw [if_pos h]
theorem fdS_no {s : ByteArray} (h : fdOk s = false) : fdS s = (0, 3) := by unfold fdS; rw [if_neg (by rw [h]; decide)]

theorem take_snoc (s : ByteArray) (k : Nat) (h : k < s.size) : s.data.toList.take (k + 1) = s.data.toList.take k ++ [s[k]] := by
  rw [List.take_succ_eq_append_getElem (by simpa using h)]; rfl
theorem valL_snoc (s : ByteArray) (k : Nat) (h : k < s.size) : valL (s.data.toList.take (k + 1)) = 10 * valL (s.data.toList.take k) + (s[k].toNat - 48) := by
  rw [take_snoc s k h]
  unfold valL
  rw [List.foldl_append]
  rfl
theorem valL_lt (s : ByteArray) (k : Nat) (h : k ≤ s.size) (hd : ∀ j (hj : j < s.size), j < k → digOk s[j] = true) : valL (s.data.toList.take k) < 10 ^ k := by
  induction k with
  | zero => simp [valL]
  | succ k ih =>
    rw [valL_snoc s k (by omega)]
    have h1 := ih (by omega) (fun j hj hk => hd j hj (by omega))
    have h2 := hd k (by omega) (by omega)
    unfold digOk at h2
    simp only [Bool.and_eq_true, decide_eq_true_eq] at h2
    rw [Nat.pow_succ]
    omega
/-! ### digits of a width; plain numbers; the first word -/
def digitsS (n width : Int) : ByteArray × Int :=
  if n < 0 ∨ width < 1 ∨ 9 < width ∨ width < (decS n).size then (⟨#[]⟩, 2) else (mkB (List.replicate (width.toNat - (decS n).size) 48 ++ (decS n).data.toList), 0)
def plainS (s : ByteArray) : Int × Bool := if fdOk s = true ∧ decS (fdS s).1 = s then ((fdS s).1, true) else (0, false)
def numberS (s : ByteArray) : Int := if 1 < s.size ∧ s.data.toList.head? = some 45 then -(plainS (s.extract 1 s.size)).1 else (plainS s).1

/-- A text cut at the first byte c. -/
def cutB (c : UInt8) : List UInt8 → List UInt8 × List UInt8 × Bool
  | [] => ([], [], false)
  | b :: l => if b = c then ([], l, true) else (b :: (cutB c l).1, (cutB c l).2.1, (cutB c l).2.2)
theorem cutB_none {c : UInt8} : ∀ {l : List UInt8}, (∀ x ∈ l, x ≠ c) → cutB c l = (l, [], false)
  | [], _ => rfl
  | b :: l, h => by
    have hb : b ≠ c := h b (by simp)
    have ih := cutB_none (c := c) (l := l) (fun x hx => h x (by simp [hx]))
    simp [cutB, hb, ih]
theorem cutB_at {c : UInt8} : ∀ {l : List UInt8} (k : Nat) (hk : k < l.length), (∀ j (hj : j < l.length), j < k → l[j] ≠ c) → l[k] = c → cutB c l = (l.take k, l.drop (k + 1), true)
  | b :: l, 0, _, _, h => by
    have hb : b = c := h
    simp [cutB, hb]
  | b :: l, k + 1, hk, hj, h => by
    have hb : b ≠ c := hj 0 (by simp) (by omega)
    have ih := cutB_at (c := c) (l := l) k (by simpa using hk) (fun j hj' hjk => hj (j + 1) (by simpa using hj') (by omega)) (by simpa using h)
    simp [cutB, hb, ih]
/-- A text cut at each byte c. -/
def splitL (c : UInt8) : List UInt8 → List (List UInt8)
  | [] => [[]]
  | b :: l => if b = c then [] :: splitL c l else match splitL c l with
    | [] => [[b]]
    | p :: ps => (b :: p) :: ps
theorem splitL_ne (c : UInt8) : ∀ l, splitL c l ≠ []
  | [] => by simp [splitL]
  | b :: l => by
    unfold splitL
    split
    · simp
    · split <;> simp
theorem splitL_none {c : UInt8} : ∀ {l : List UInt8}, (∀ x ∈ l, x ≠ c) → splitL c l = [l]
  | [], _ => rfl
  | b :: l, h => by
    have hb : b ≠ c := h b (by simp)
    have ih := splitL_none (c := c) (l := l) (fun x hx => h x (by simp [hx]))
    simp [splitL, hb, ih]
theorem splitL_at {c : UInt8} (r : List UInt8) : ∀ {a : List UInt8}, (∀ x ∈ a, x ≠ c) → splitL c (a ++ c :: r) = a :: splitL c r
  | [], _ => by simp [splitL]
  | b :: l, h => by
    have hb : b ≠ c := h b (by simp)
    have ih := splitL_at (c := c) r (a := l) (fun x hx => h x (by simp [hx]))
    simp [splitL, hb, ih]
theorem seg_ne {c : UInt8} (s : ByteArray) (a k : Nat) (h : ∀ j (hj : j < s.size), a ≤ j → j < k → s[j] ≠ c) : ∀ x ∈ (s.extract a k).data.toList, x ≠ c := by
  intro x hx
  rw [extract_list] at hx
  obtain ⟨i, hi, rfl⟩ := List.getElem_of_mem hx
  simp only [List.length_drop, List.length_take, Array.length_toList] at hi
  have hi' : i < min k s.size - a := hi
  rw [List.getElem_drop, List.getElem_take]
  exact h (a + i) (by omega) (by omega) (by omega)
theorem splitL_step {c : UInt8} (s : ByteArray) (a k : Nat) (hk : k < s.size) (ha : a ≤ k) (h : ∀ j (hj : j < s.size), a ≤ j → j < k → s[j] ≠ c) (hc : s[k] = c) :
    splitL c (s.data.toList.drop a) = (s.extract a k).data.toList :: splitL c (s.data.toList.drop (k + 1)) := by
  have e : s.data.toList.drop a = (s.extract a k).data.toList ++ c :: s.data.toList.drop (k + 1) := by
    rw [extract_list]
    have h1 : s.data.toList.drop k = c :: s.data.toList.drop (k + 1) := by
      rw [List.drop_eq_getElem_cons (by simpa using hk)]
      congr 1
    rw [← h1, List.drop_take]
    conv => lhs; rw [← List.take_append_drop (k - a) (s.data.toList.drop a)]
    rw [List.drop_drop]
    congr 2
    omega
  rw [e, splitL_at _ (seg_ne s a k h)]
theorem splitL_last {c : UInt8} (s : ByteArray) (a : Nat) (h : ∀ j (hj : j < s.size), a ≤ j → s[j] ≠ c) :
    splitL c (s.data.toList.drop a) = [(s.extract a s.size).data.toList] := by
  rw [← extract_from, splitL_none (seg_ne s a s.size (fun j hj h1 _ => h j hj h1))]
def splitS (c : UInt8) (s : ByteArray) : List ByteArray := (splitL c s.data.toList).map mkB
def wordS (s : ByteArray) : ByteArray × ByteArray := (mkB (cutB 32 s.data.toList).1, mkB (cutB 32 s.data.toList).2.1)

/-! ### steps and programs -/
structure Step where
  op : Int
  a : Int
  b : Int
  texts : List ByteArray
structure Prog where
  name : ByteArray
  steps : List Step
structure Verb where
  name : List UInt8
  a : Int
  b : Int
  few : Int
  all : Int
def zeroVerb : Verb := ⟨[], 0, 0, 0, 0⟩
/-- The kinds of steps. -/
def verbS (op : Int) : Verb × Bool :=
  if op = 1 then (⟨[82, 69, 65, 68], 118, 0, 0, 0⟩, true)
  else if op = 2 then (⟨[67, 65, 76, 76], 119, 118, 2, 7⟩, true)
  else if op = 3 then (⟨[83, 69, 84], 118, 0, 1, 1⟩, true)
  else if op = 4 then (⟨[65, 68, 68], 118, 110, 0, 0⟩, true)
  else if op = 5 then (⟨[87, 72, 69, 78], 0, 112, 1, 1⟩, true)
  else if op = 6 then (⟨[83, 65, 77, 69], 118, 112, 1, 1⟩, true)
  else if op = 7 then (⟨[71, 79], 0, 112, 0, 0⟩, true)
  else if op = 8 then (⟨[83, 69, 78, 68], 0, 0, 1, 1⟩, true)
  else if op = 9 then (⟨[80, 65, 83, 83], 0, 0, 2, 2⟩, true)
  else if op = 10 then (⟨[75, 69, 69, 80], 0, 0, 1, 1⟩, true)
  else if op = 11 then (⟨[66, 65, 67, 75], 0, 0, 0, 0⟩, true)
  else if op = 12 then (⟨[70, 65, 73, 76], 0, 0, 0, 0⟩, true)
  else if op = 13 then (⟨[69, 78, 68], 0, 0, 0, 0⟩, true)
  else (zeroVerb, false)
/-- What a number must be. -/
def isM (what n steps : Int) : Bool :=
  if what = 118 then decide (0 ≤ n) && decide (n < 6)
  else if what = 112 then decide (0 ≤ n) && decide (n < steps)
  else if what = 119 then decide (0 ≤ n) && decide (n < 3)
  else if what = 110 then decide (-9999 ≤ n) && decide (n ≤ 9999)
  else n == 0
def headT (xs : List ByteArray) : ByteArray := xs.headD ⟨#[]⟩
def special (s : Step) : Bool :=
  if s.op = 2 then isDoS (headT s.texts) else if s.op = 5 then (headT s.texts).size == 2 else if s.op = 9 then isNameS (headT s.texts) else true
def isStepS (s : Step) (many : Int) : Bool :=
  (verbS s.op).2 && isM (verbS s.op).1.a s.a many && isM (verbS s.op).1.b s.b many && decide ((verbS s.op).1.few ≤ s.texts.length) && decide ((s.texts.length : Int) ≤ (verbS s.op).1.all)
    && s.texts.all isTextS && special s
def validS (p : Prog) : Bool :=
  isNameS p.name && decide (1 ≤ p.steps.length) && decide (p.steps.length ≤ 40) && p.steps.all fun s => isStepS s p.steps.length
end Go.Proofs.YtkdbajpdcadliaaGreatDoor.Pg

namespace Go.Proofs.YtkdbajpdcadliaaGreatDoor.Pg

def tx (xs : List ByteArray) (i : Nat) : List UInt8 := (xs.getD i ⟨#[]⟩).data.toList
def dl (n : Int) : List UInt8 := Lib.itoa n
/-- The lines of the texts between the first and the last. -/
def midL (xs : List ByteArray) : List UInt8 := xs.flatMap fun x => [32, 32] ++ x.data.toList ++ [10]
/-- The text of a step. -/
def lineL (s : Step) : List UInt8 :=
  if s.op = 1 then [82, 69, 65, 68, 32] ++ dl s.a ++ [10]
  else if s.op = 2 then [67, 65, 76, 76, 32] ++ dl s.a ++ [32] ++ tx s.texts 0 ++ [32] ++ dl s.b ++ [10] ++ midL ((s.texts.take (s.texts.length - 1)).drop 1) ++ [32, 32, 61, 32] ++ tx s.texts (s.texts.length - 1) ++ [10]
  else if s.op = 3 then [83, 69, 84, 32] ++ dl s.a ++ [32] ++ tx s.texts 0 ++ [10]
  else if s.op = 4 then [65, 68, 68, 32] ++ dl s.a ++ [32] ++ dl s.b ++ [10]
  else if s.op = 5 then [87, 72, 69, 78, 32] ++ tx s.texts 0 ++ [32] ++ dl s.b ++ [10]
  else if s.op = 6 then [83, 65, 77, 69, 32] ++ dl s.a ++ [32] ++ dl s.b ++ [32] ++ tx s.texts 0 ++ [10]
  else if s.op = 7 then [71, 79, 32] ++ dl s.b ++ [10]
  else if s.op = 8 then [83, 69, 78, 68, 32] ++ tx s.texts 0 ++ [10]
  else if s.op = 9 then [80, 65, 83, 83, 32] ++ tx s.texts 0 ++ [32] ++ tx s.texts 1 ++ [10]
  else if s.op = 10 then [75, 69, 69, 80, 32] ++ tx s.texts 0 ++ [10]
  else if s.op = 11 then [66, 65, 67, 75] ++ [10]
  else if s.op = 12 then [70, 65, 73, 76] ++ [10]
  else [69, 78, 68] ++ [10]
def lineS (s : Step) : ByteArray := mkB (lineL s)
/-- The text of a program. -/
def formatL (p : Prog) : List UInt8 := [80, 82, 79, 71, 82, 65, 77, 32] ++ p.name.data.toList ++ [10] ++ p.steps.flatMap lineL
def formatS (p : Prog) : ByteArray := mkB (formatL p)

/-- What a step that is one is known by. -/
structure StepOk (s : Step) (many : Int) : Prop where
  verb : (verbS s.op).2 = true
  a : isM (verbS s.op).1.a s.a many = true
  b : isM (verbS s.op).1.b s.b many = true
  few : (verbS s.op).1.few ≤ s.texts.length
  all : (s.texts.length : Int) ≤ (verbS s.op).1.all
  texts : s.texts.all isTextS = true
  special : special s = true
theorem stepOk {s : Step} {many : Int} (h : isStepS s many = true) : StepOk s many := by
  unfold isStepS at h
  simp only [Bool.and_eq_true, decide_eq_true_eq] at h
  obtain ⟨⟨⟨⟨⟨⟨h1, h2⟩, h3⟩, h4⟩, h5⟩, h6⟩, h7⟩ := h
  exact ⟨h1, h2, h3, h4, h5, h6, h7⟩
theorem StepOk.text {s : Step} {many : Int} (h : StepOk s many) : ∀ x ∈ s.texts, isTextS x = true := by
  have := h.texts
  rwa [List.all_eq_true] at this
theorem isTextS_size {x : ByteArray} (h : isTextS x = true) : (x.size : Int) ≤ 100 := by
  unfold isTextS at h
  simp only [Bool.and_eq_true, decide_eq_true_eq] at h
  omega
theorem StepOk.size {s : Step} {many : Int} (h : StepOk s many) (x : ByteArray) (hx : x ∈ s.texts) : (x.size : Int) ≤ 100 := isTextS_size (h.text x hx)
theorem isM_bd {what n many : Int} (h : isM what n many = true) (hm : many ≤ 9999) : -9999 ≤ n ∧ n ≤ 9999 := by
  unfold isM at h
  split at h
  · simp at h; omega
  split at h
  · simp at h; omega
  split at h
  · simp at h; omega
  split at h
  · simp at h; omega
  · simp at h; omega
theorem verb_ok {op : Int} (h : (verbS op).2 = true) : 1 ≤ op ∧ op ≤ 13 := by
  unfold verbS at h
  by_cases h1 : 1 ≤ op ∧ op ≤ 13
  · exact h1
  · have : ∀ k : Int, 1 ≤ k → k ≤ 13 → op ≠ k := fun k a b e => h1 (by omega)
    rw [if_neg (this 1 (by omega) (by omega)), if_neg (this 2 (by omega) (by omega)), if_neg (this 3 (by omega) (by omega)), if_neg (this 4 (by omega) (by omega)), if_neg (this 5 (by omega) (by omega)), if_neg (this 6 (by omega) (by omega)), if_neg (this 7 (by omega) (by omega)), if_neg (this 8 (by omega) (by omega)), if_neg (this 9 (by omega) (by omega)), if_neg (this 10 (by omega) (by omega)), if_neg (this 11 (by omega) (by omega)), if_neg (this 12 (by omega) (by omega)), if_neg (this 13 (by omega) (by omega))] at h
    cases h
theorem verb_cases {op : Int} (h : (verbS op).2 = true) : op = 1 ∨ op = 2 ∨ op = 3 ∨ op = 4 ∨ op = 5 ∨ op = 6 ∨ op = 7 ∨ op = 8 ∨ op = 9 ∨ op = 10 ∨ op = 11 ∨ op = 12 ∨ op = 13 := by
  have := verb_ok h; omega
theorem list0 {xs : List ByteArray} (h : (xs.length : Int) ≤ 0) : xs = [] := List.eq_nil_of_length_eq_zero (by omega)
theorem list1 {xs : List ByteArray} (h1 : (1 : Int) ≤ xs.length) (h : (xs.length : Int) ≤ 1) : ∃ x, xs = [x] := by
  match xs, h1, h with
  | [x], _, _ => exact ⟨x, rfl⟩
  | x :: y :: l, _, h => simp at h; omega
theorem list2 {xs : List ByteArray} (h1 : (2 : Int) ≤ xs.length) (h : (xs.length : Int) ≤ 2) : ∃ x y, xs = [x, y] := by
  match xs, h1, h with
  | [x], h, _ => simp at h
  | [x, y], _, _ => exact ⟨x, y, rfl⟩
  | x :: y :: z :: l, _, h => simp at h; omega
end Go.Proofs.YtkdbajpdcadliaaGreatDoor.Pg
