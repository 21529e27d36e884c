/- Plain: runs of programs: what a run wants, and what comes of what it is given. -/
import Derived.Test.YtkdbajpdcadliaaGreatDoorWz
import Derived.Test.YtkdbajpdcadliaaGreatDoorWy
import Derived.Test.YtkdbajpdcadliaaGreatDoorWu
set_option linter.unusedVariables false
namespace Go.Proofs.YtkdbajpdcadliaaGreatDoor.Pg

structure RunS where
  place : Int
  vars : List ByteArray
  status : ByteArray
  count : Int
  over : Int
structure WantS where
  op : Int
  a : Int
  b : Int
  texts : List ByteArray
def zeroWant : WantS := ⟨0, 0, 0, []⟩
def zeroRun : RunS := ⟨0, [], ⟨#[]⟩, 0, 0⟩
def ndS : ByteArray := ⟨#[78, 68]⟩
def blankS : ByteArray := ⟨#[32, 32]⟩
def varAt (xs : List ByteArray) (i : Int) : ByteArray := xs.getD i.toNat ⟨#[]⟩
/-- The sum, if there is one. -/
def sumS (x : ByteArray) (d : Int) : Option ByteArray :=
  if (fdS x).2 = 0 ∧ (digitsS ((fdS x).1 + d) x.size).2 = 0 then some (digitsS ((fdS x).1 + d) x.size).1 else none
def addVars (r : RunS) (v d : Int) : List ByteArray := match sumS (varAt r.vars v) d with
  | some y => r.vars.set v.toNat y
  | none => r.vars
def addStatus (r : RunS) (v d : Int) : ByteArray := match sumS (varAt r.vars v) d with
  | some _ => blankS
  | none => ndS
/-- A step that a run does by itself. -/
def aloneS (s : Step) (r : RunS) : Option RunS :=
  if s.op = 3 then some ⟨r.place + 1, r.vars.set s.a.toNat (fillS r.vars (headT s.texts)), r.status, r.count + 1, r.over⟩
  else if s.op = 4 then some ⟨r.place + 1, addVars r s.a s.b, addStatus r s.a s.b, r.count + 1, r.over⟩
  else if s.op = 5 then some ⟨if r.status = headT s.texts then s.b else r.place + 1, r.vars, r.status, r.count + 1, r.over⟩
  else if s.op = 6 then some ⟨if varAt r.vars s.a = fillS r.vars (headT s.texts) then s.b else r.place + 1, r.vars, r.status, r.count + 1, r.over⟩
  else if s.op = 7 then some ⟨s.b, r.vars, r.status, r.count + 1, r.over⟩
  else none
/-- How a run is over: 0 if it is not. -/
def overN (n : Nat) (r : RunS) : Int := if 0 < r.over then r.over else if r.place = n then 1 else if r.count = 200 then 2 else 0
def RunS.ends (r : RunS) (k : Int) : RunS := ⟨r.place, r.vars, r.status, r.count, k⟩
def zeroStep : Step := ⟨0, 0, 0, []⟩
def stepAt (p : Prog) (i : Int) : Step := p.steps.getD i.toNat zeroStep
/-- The texts of a want: the first one of a call or a message to pass as it is. -/
def wantT (vs : List ByteArray) (op : Int) : List ByteArray → List ByteArray
  | [] => []
  | x :: xs => (if op = 2 ∨ op = 9 then x else fillS vs x) :: xs.map (fillS vs)
def wantOf (s : Step) (r : RunS) : WantS := ⟨s.op, s.a, s.b, wantT r.vars s.op s.texts⟩
def wantF : Nat → Prog → RunS → RunS × WantS
  | 0, _, r => (r, zeroWant)
  | f + 1, p, r =>
    if overN p.steps.length r ≠ 0 then (r.ends (overN p.steps.length r), zeroWant)
    else match aloneS (stepAt p r.place) r with
      | some q => wantF f p q
      | none => (r, wantOf (stepAt p r.place) r)
def wantS (p : Prog) (r : RunS) : RunS × WantS := wantF (201 - r.count).toNat p r
def gkS : ByteArray := ⟨#[71, 75]⟩
def gaS : ByteArray := ⟨#[71, 65]⟩
def giveVars (s : Step) (r : RunS) (st text : ByteArray) : List ByteArray :=
  if st = blankS ∨ st = gaS ∨ st = gkS then (if s.op = 1 then r.vars.set s.a.toNat text else if s.op = 2 then r.vars.set s.b.toNat text else r.vars) else r.vars
def giveOver (s : Step) (r : RunS) : Int := if s.op = 12 then 2 else if s.op = 13 then 1 else r.over
def giveRun (s : Step) (r : RunS) (st text : ByteArray) : RunS := ⟨r.place + 1, giveVars s r st text, st, r.count + 1, giveOver s r⟩
def askedR (p : Prog) (r : RunS) : Int := askedS p r.place r.vars r.status r.count r.over
def giveBad (p : Prog) (r : RunS) (st text : ByteArray) : Bool :=
  decide ((st.size : Int) ≠ 2) || decide ((100 : Int) < text.size) || decide (overN p.steps.length r ≠ 0) || decide (3 ≤ (stepAt p r.place).op ∧ (stepAt p r.place).op ≤ 7)
def giveS (p : Prog) (r : RunS) (st text : ByteArray) : RunS × Int :=
  if askedR p r ≠ 0 then (zeroRun, askedR p r) else if giveBad p r st text = true then (zeroRun, 2) else (giveRun (stepAt p r.place) r st text, 0)

/-- A run that is one. -/
structure RunOk (n : Nat) (r : RunS) : Prop where
  p0 : 0 ≤ r.place
  p1 : r.place ≤ n
  c0 : 0 ≤ r.count
  c1 : r.count ≤ 200
  six : r.vars.length = 6
  st : (r.status.size : Int) = 2
  o0 : 0 ≤ r.over
  o1 : r.over ≤ 2
  each : ∀ x ∈ r.vars, (x.size : Int) ≤ 100
theorem runOk_iff {n : Nat} {r : RunS} : isRunS n r.place r.vars r.status r.count r.over = true ↔ RunOk n r := by
  unfold isRunS
  simp only [Bool.and_eq_true, decide_eq_true_eq, beq_iff_eq, Bool.not_eq_true', List.any_eq_false]
  constructor
  · rintro ⟨⟨⟨⟨⟨⟨⟨⟨h1, h2⟩, h3⟩, h4⟩, h5⟩, h6⟩, h7⟩, h8⟩, h9⟩
    exact ⟨h1, h2, h3, h4, by omega, h6, h7, h8, fun x hx => by have := h9 x hx; omega⟩
  · intro h
    exact ⟨⟨⟨⟨⟨⟨⟨⟨h.p0, h.p1⟩, h.c0⟩, h.c1⟩, by have := h.six; omega⟩, h.st⟩, h.o0⟩, h.o1⟩, fun x hx => by have := h.each x hx; omega⟩
theorem asked_ok {p : Prog} {r : RunS} (h : askedR p r = 0) : validS p = true ∧ RunOk p.steps.length r := by
  unfold askedR askedS at h
  split at h
  · cases h
  · rename_i h1
    split at h
    · cases h
    · rename_i h2
      exact ⟨by simpa using h1, runOk_iff.1 (by simpa using h2)⟩
theorem asked_zero {p : Prog} {r : RunS} (h : validS p = true) (hr : RunOk p.steps.length r) : askedR p r = 0 := by
  unfold askedR askedS
  rw [if_neg (by rw [h]; simp), if_neg (by rw [runOk_iff.2 hr]; simp)]
theorem fillS_size (vs : List ByteArray) (s : ByteArray) : ((fillS vs s).size : Int) ≤ 100 := by
  unfold fillS
  rw [mkB_size, List.length_take]
  omega
theorem digitsS_size (n k : Int) : ((digitsS n k).1.size : Int) ≤ 9 := by
  unfold digitsS
  split
  · simp
    show ((0 : Nat) : Int) ≤ 9
    decide
  · rename_i h
    have h3 : (decS n).data.toList.length = (decS n).size := Array.length_toList
    simp only [mkB_size, List.length_append, List.length_replicate, h3]
    omega
theorem mem_set {xs : List ByteArray} {i : Nat} {y x : ByteArray} (h : x ∈ xs.set i y) : x ∈ xs ∨ x = y := List.mem_or_eq_of_mem_set h
theorem addVars_ok {r : RunS} {v d : Int} (h6 : r.vars.length = 6) (he : ∀ x ∈ r.vars, (x.size : Int) ≤ 100) : (addVars r v d).length = 6 ∧ ∀ x ∈ addVars r v d, (x.size : Int) ≤ 100 := by
  unfold addVars
  split
  · rename_i y hy
    refine ⟨by simpa using h6, fun x hx => ?_⟩
    rcases mem_set hx with h | h
    · exact he x h
    · subst h
      unfold sumS at hy
      split at hy
      · simp only [Option.some.injEq] at hy
        subst hy
        have := digitsS_size ((fdS (varAt r.vars v)).1 + d) (varAt r.vars v).size
        omega
      · cases hy
  · exact ⟨h6, he⟩
theorem addStatus_size (r : RunS) (v d : Int) : ((addStatus r v d).size : Int) = 2 := by
  unfold addStatus
  split <;> rfl
/-- The places to which steps lead. -/
theorem place_of {s : Step} {n : Nat} (h : StepOk s n) (hop : s.op = 5 ∨ s.op = 6 ∨ s.op = 7) : 0 ≤ s.b ∧ s.b < n := by
  have hb := h.b
  rcases hop with e | e | e
  all_goals
    rw [e] at hb
    simpa [verbS, isM] using hb
theorem aloneS_ok {n : Nat} {s : Step} {r q : RunS} (hr : RunOk n r) (hs : StepOk s n) (hp : r.place < n) (hc : r.count < 200) (h : aloneS s r = some q) : RunOk n q ∧ q.count = r.count + 1 ∧ q.over = r.over := by
  have h0 := hr.p0
  have c0 := hr.c0
  unfold aloneS at h
  split at h
  · cases h
    refine ⟨⟨by show 0 ≤ r.place + 1; omega, by show r.place + 1 ≤ n; omega, by show 0 ≤ r.count + 1; omega, by show r.count + 1 ≤ 200; omega, by simpa using hr.six, hr.st, hr.o0, hr.o1, fun x hx => ?_⟩, rfl, rfl⟩
    rcases mem_set hx with h | h
    · exact hr.each x h
    · subst h; exact fillS_size _ _
  split at h
  · cases h
    obtain ⟨a1, a2⟩ := addVars_ok (v := s.a) (d := s.b) hr.six hr.each
    exact ⟨⟨by show 0 ≤ r.place + 1; omega, by show r.place + 1 ≤ n; omega, by show 0 ≤ r.count + 1; omega, by show r.count + 1 ≤ 200; omega, a1, addStatus_size _ _ _, hr.o0, hr.o1, a2⟩, rfl, rfl⟩
  split at h
  · rename_i e
    cases h
    obtain ⟨b1, b2⟩ := place_of hs (.inl e)
    refine ⟨⟨?_, ?_, by show 0 ≤ r.count + 1; omega, by show r.count + 1 ≤ 200; omega, hr.six, hr.st, hr.o0, hr.o1, hr.each⟩, rfl, rfl⟩
    · show (0 : Int) ≤ (if r.status = headT s.texts then s.b else r.place + 1); split <;> omega
    · show (if r.status = headT s.texts then s.b else r.place + 1) ≤ (n : Int); split <;> omega
  split at h
  · rename_i e
    cases h
    obtain ⟨b1, b2⟩ := place_of hs (.inr (.inl e))
    refine ⟨⟨?_, ?_, by show 0 ≤ r.count + 1; omega, by show r.count + 1 ≤ 200; omega, hr.six, hr.st, hr.o0, hr.o1, hr.each⟩, rfl, rfl⟩
    · show (0 : Int) ≤ (if varAt r.vars s.a = fillS r.vars (headT s.texts) then s.b else r.place + 1); split <;> omega
    · show (if varAt r.vars s.a = fillS r.vars (headT s.texts) then s.b else r.place + 1) ≤ (n : Int); split <;> omega
  split at h
  · rename_i e
    cases h
    obtain ⟨b1, b2⟩ := place_of hs (.inr (.inr e))
    exact ⟨⟨b1, by show s.b ≤ n; omega, by show 0 ≤ r.count + 1; omega, by show r.count + 1 ≤ 200; omega, hr.six, hr.st, hr.o0, hr.o1, hr.each⟩, rfl, rfl⟩
  · cases h
theorem alone_none {s : Step} {r : RunS} (h : aloneS s r = none) : ¬ (3 ≤ s.op ∧ s.op ≤ 7) := by
  unfold aloneS at h
  intro k
  split at h
  · cases h
  split at h
  · cases h
  split at h
  · cases h
  split at h
  · cases h
  split at h
  · cases h
  omega
theorem over0 {n : Nat} {r : RunS} (h : overN n r = 0) (hr : RunOk n r) : r.over = 0 ∧ r.place < n ∧ r.count < 200 := by
  have h0 := hr.p1
  have h1 := hr.c1
  have h2 := hr.o0
  unfold overN at h
  split at h
  · omega
  split at h
  · cases h
  split at h
  · cases h
  omega
theorem over_pos {n : Nat} {r : RunS} (hr : RunOk n r) : 0 ≤ overN n r ∧ overN n r ≤ 2 := by
  have := hr.o1
  unfold overN
  split
  · omega
  split
  · omega
  split <;> omega
theorem stepAt_ok {p : Prog} (hv : ∀ s ∈ p.steps, StepOk s p.steps.length) {i : Int} (h0 : 0 ≤ i) (h1 : i < p.steps.length) : StepOk (stepAt p i) p.steps.length := by
  unfold stepAt
  rw [List.getD_eq_getElem?_getD, List.getElem?_eq_getElem (by omega)]
  exact hv _ (List.getElem_mem _)
/-- What is known of the run that wants. -/
structure WantOk (p : Prog) (r : RunS) (q : RunS) (w : WantS) : Prop where
  run : RunOk p.steps.length q
  up : r.count ≤ q.count
  done : q.over ≠ 0 → w = zeroWant
  goes : q.over = 0 → overN p.steps.length q = 0 ∧ aloneS (stepAt p q.place) q = none ∧ w = wantOf (stepAt p q.place) q
theorem wantF_ok {p : Prog} (hv : ∀ s ∈ p.steps, StepOk s p.steps.length) : ∀ (f : Nat) (r : RunS), RunOk p.steps.length r → 200 - r.count < f → WantOk p r (wantF f p r).1 (wantF f p r).2
  | 0, r, hr, hf => by have := hr.c1; omega
  | f + 1, r, hr, hf => by
    unfold wantF
    by_cases ho : overN p.steps.length r = 0
    · rw [if_neg (by omega)]
      obtain ⟨o1, o2, o3⟩ := over0 ho hr
      cases ha : aloneS (stepAt p r.place) r with
      | some q =>
        simp only []
        obtain ⟨hq, hc, _⟩ := aloneS_ok hr (stepAt_ok hv hr.p0 o2) o2 o3 ha
        have := wantF_ok hv f q hq (by omega)
        exact ⟨this.run, by have := this.up; omega, this.done, this.goes⟩
      | none =>
        simp only []
        exact ⟨hr, Int.le_refl _, fun h => absurd o1 h, fun _ => ⟨ho, ha, rfl⟩⟩
    · rw [if_pos ho]
      obtain ⟨k0, k1⟩ := over_pos hr
      exact ⟨⟨hr.p0, hr.p1, hr.c0, hr.c1, hr.six, hr.st, k0, k1, hr.each⟩, Int.le_refl _, fun _ => rfl, fun h => absurd h ho⟩
theorem wantS_ok {p : Prog} (hv : validS p = true) {r : RunS} (hr : RunOk p.steps.length r) : WantOk p r (wantS p r).1 (wantS p r).2 :=
  wantF_ok (validOk hv).each _ r hr (by have := hr.c1; omega)
/-- What a run is given that wants. -/
theorem give_ok {p : Prog} (hv : validS p = true) {r : RunS} (hr : RunOk p.steps.length r) {st text : ByteArray} (hst : (st.size : Int) = 2) (ht : (text.size : Int) ≤ 100) (ho : overN p.steps.length r = 0) (ha : aloneS (stepAt p r.place) r = none) :
    (giveS p r st text).2 = 0 ∧ (giveS p r st text).1.count = r.count + 1 ∧ RunOk p.steps.length (giveS p r st text).1 := by
  have hb : giveBad p r st text = false := by
    unfold giveBad
    have := alone_none ha
    simp [hst, ho]
    omega
  obtain ⟨o1, o2, o3⟩ := over0 ho hr
  have e : giveS p r st text = (giveRun (stepAt p r.place) r st text, 0) := by
    unfold giveS
    rw [if_neg (by rw [asked_zero hv hr]; simp), if_neg (by rw [hb]; simp)]
  rw [e]
  have h0 := hr.p0
  have c0 := hr.c0
  refine ⟨rfl, rfl, ⟨by show 0 ≤ r.place + 1; omega, by show r.place + 1 ≤ _; omega, by show 0 ≤ r.count + 1; omega, by show r.count + 1 ≤ 200; omega, ?_, hst, ?_, ?_, ?_⟩⟩
  · show (giveVars _ _ _ _).length = 6
    unfold giveVars
    have := hr.six
    split
    · split
      · simpa using this
      · split
        · simpa using this
        · exact this
    · exact this
  · show 0 ≤ giveOver _ _
    unfold giveOver
    have := hr.o0
    split <;> (try split) <;> omega
  · show giveOver _ _ ≤ 2
    unfold giveOver
    have := hr.o1
    split <;> (try split) <;> omega
  · show ∀ x ∈ giveVars _ _ _ _, _
    intro x hx
    unfold giveVars at hx
    split at hx
    · split at hx
      · rcases mem_set hx with h | h
        · exact hr.each x h
        · subst h; exact ht
      · split at hx
        · rcases mem_set hx with h | h
          · exact hr.each x h
          · subst h; exact ht
        · exact hr.each x hx
    · exact hr.each x hx
end Go.Proofs.YtkdbajpdcadliaaGreatDoor.Pg
