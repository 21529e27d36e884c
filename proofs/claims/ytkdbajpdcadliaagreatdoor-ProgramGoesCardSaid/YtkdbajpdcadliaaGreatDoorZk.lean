/- ProgramGoes, the row and the card: for every program and every list of answers the law returns true, and each argument reads behind the call as before. Condition: none beyond the card's own: the listed variables of the library (two tables of math/bits, one of strconv, strconv.ErrRange, strconv.ErrSyntax) are tied to the program's text. -/
import Derived.Test.YtkdbajpdcadliaaGreatDoorZa
import Derived.Test.YtkdbajpdcadliaaGreatDoorYw
import Derived.Test.YtkdbajpdcadliaaGreatDoorZw
import Derived.Test.YtkdbajpdcadliaaGreatDoorTie
import Derived.Test.YtkdbajpdcadliaaGreatDoorCards
import Derived.SevenTiedAt
set_option linter.unusedVariables false
namespace Go.Proofs.YtkdbajpdcadliaaGreatDoor
open Go.ChangeShapes Go.WideShapes Go.RowKit
open Go.ChangeMaps (open_string shut_string)

set_option maxRecDepth 100000 in
theorem goes_lifted (os : Os) (started : os.Started) (H : Type) (enc : TypeId × Value → H) :
    ReturnsInHanded {} Tryz.checked os 8 .any (fun w args => (Rows.programGoesSpec.pre enc Tryz.prog Tryz.f8 [] false w args ∧ laidMetH Tryz.prog Rows.programGoesRow.laid w) ∧ sizedMet enc Tryz.prog Tryz.f8 (OpenSpec.ofChange Rows.programGoesSpec) false w args)
      (Rows.programGoesSpec.post enc Tryz.prog Tryz.f8 false true false false) := by
  refine returnsInHanded_of_calls (C := Tryz.checked) Tryz.own started (by kernel_rfl)
    (ChangeSpec.witness_at (enc := enc) (C := Tryz.checked) (os := os) (X := fun w _ => laidMetH Tryz.prog LAID w) false (laidWorld os) #[.agg #[.string ⟨#[]⟩, .slice none 0 0], .slice none 0 0] 8 rfl (by kernel_rfl) (by kernel_rfl) (by kernel_rfl) (by kernel_rfl) (by kernel_rfl) (laidWorld_met os _)) ?_
  intro w tape i _ hsh _ hok hpre _
  obtain ⟨_, _, _, fn', hfn', _, _, _, _, hval0⟩ := hok
  obtain rfl : fn' = Tryz.f8 := Option.some.inj (hfn'.symm.trans Tryz.func8)
  obtain ⟨⟨⟨ds, gs, before, hw, hc⟩, hlaid⟩, hz⟩ := hpre
  have hW0 := DataW.Whole.of_heap (w' := w.forCall tape i) (by rfl) hw
  have hlaid2 : laidMetH Tryz.prog LAID (w.forCall tape i) := hlaid.of_heap (by rfl)
  obtain ⟨hgl, hgb⟩ := gl_of hlaid2 hsh
  obtain ⟨W, hWe⟩ : ∃ W, w.forCall tape i = W := ⟨_, rfl⟩
  obtain ⟨args, hae⟩ : ∃ args, i.args = args := ⟨_, rfl⟩
  rw [hWe] at hW0 hgl hgb ⊢
  rw [hae] at hW0 ⊢
  have hval : ∀ (j : Nat) t v, Tryz.f8.params[j]? = some t → args[j]? = some v → Value.okWide Tryz.prog W .any w.heap.size t v := by
    intro j t v h1 h2
    have := hval0 j t v h1 (by rw [hae]; exact h2)
    rwa [hWe] at this
  have hW' := hW0
  obtain ⟨p, q, hA0, hV0, rfl, hfz, hnd⟩ := hW0
  have hA : DataW.TrodAll enc Tryz.prog W 0 (fun _ => true) true Tryz.f8.params.toList args.toList ds p := hA0
  have hV : DataW.TrodVars enc Tryz.prog W (fun _ => true) [] gs q := hV0
  rw [Tryz.params8] at hA hval
  obtain ⟨v0, v1, d0, d1, p0, p1, rfl, rfl, rfl, h0, h1⟩ := trodAll_two hA
  obtain ⟨rfl, rfl⟩ : gs = [] ∧ q = [] := by
    cases gs with
    | nil => exact ⟨rfl, hV⟩
    | cons g r => exact absurd hV (by intro h; cases h)
  have hlt : ∀ x ∈ p0 ++ p1, x.block < W.heap.size := fun x hx => by simpa using hW'.lt x (List.mem_append_left _ hx)
  have h0k := h0
  have h1k := h1
  obtain ⟨nm0, A0, n0, c0, ss0, rfl, hst0, hlen0, hbd0, hnm0⟩ := prog_of (hval 0 24 v0 rfl rfl) h0
  obtain ⟨GA1, gn1, gc1, gl1, rfl, ga1, gk1, gb1⟩ := givens_of (hval 1 56 v1 rfl rfl) h1
  refine (Pg.law8 nm0 A0 n0 c0 ss0 GA1 gn1 gc1 gl1 W hst0 hlen0 hbd0 hnm0 ga1 gk1 gb1 hgl hgb).mono fun e W' ⟨he, hb⟩ => ?_
  subst he
  have e1 : Rows.programGoesSpec.fn H ([d0, d1] ++ []) = { results := [.lit (.bool true)], args := [d0, d1] } := rfl
  have hpost : Rows.programGoesSpec.post enc Tryz.prog Tryz.f8 false true false false W #[.agg #[.string nm0, .slice A0 n0 c0], .slice GA1 gn1 gc1] (.bool true) W' := by
    refine ⟨_, _, _, [], p0 ++ p1, [], hW', ?_, ?_, ?_, hb.frame _, fun h => by cases h⟩
    · rw [e1]; exact trodAll_mk1 (shut_bool Tryz.underlying4 true)
    · rw [e1]; exact trodAll_mk2 (Below.trod Tryz.laidOut (by kernel_rfl) (of_decide_eq_true (by kernel_rfl)) h0k hb (fun x hx => hlt x (List.mem_append_left _ hx))) (Below.trod Tryz.laidOut (by kernel_rfl) (of_decide_eq_true (by kernel_rfl)) h1k hb (fun x hx => hlt x (List.mem_append_right _ hx)))
    · rw [e1]; rfl
  exact ChangeSpec.post_blind hpost

theorem goes_holds : Rows.ProgramGoesSaid :=
  OpenClaim.holds_of_wide 8 Tryz.f8 rfl rfl rfl rfl rfl rfl rfl ⟨rfl, rfl, rfl, rfl, rfl⟩ rfl rfl rfl rfl rfl (by kernel_rfl) Tryz.func8 (by kernel_rfl)
    (of_decide_eq_true (by kernel_rfl)) (by unfold Func.isWrapper; rw [if_neg (of_decide_eq_false (by kernel_rfl))]; exact ⟨rfl, rfl⟩)
    (fun os started H enc _ => goes_lifted os started H enc)

theorem goes_card : Rows.ProgramGoesCardSaid :=
  Claim7.holds_tied_plain_at .later [] [.data, .data, .data, .sentinel, .sentinel] true (true, "5de20683868cadf78a5dc1f7739e1e6a8e5ca7eed5583478de021fbaccc91779") true
    goes_holds (fun _ h => by cases h) (by kernel_rfl) (fun _ h => by cases h) programGoes_row_tie rfl ⟨rfl, rfl⟩ (by kernel_rfl) rfl
    (fun f fn hf hfn => by
      obtain rfl : f = 8 := Option.some.inj ((show Tryz.prog.funcNamed "progeny/progenylaw25.ProgramGoes" = some 8 by kernel_rfl).symm.trans hf) |>.symm
      obtain rfl : fn = Tryz.f8 := (Option.some.inj (Tryz.func8.symm.trans hfn)).symm
      exact ⟨by kernel_rfl, fun j t ht => by
        rw [Tryz.params8] at ht
        match j, ht with
        | 0, ht =>
          have h : t = 24 := by simpa using ht.symm
          subst h
          exact (show Tryz.prog.wantsStandIn 24 = false by kernel_rfl)
        | 1, ht =>
          have h : t = 56 := by simpa using ht.symm
          subst h
          exact (show Tryz.prog.wantsStandIn 56 = false by kernel_rfl)
        | j + 2, ht => simp at ht⟩)
    (by kernel_rfl)
#print axioms goes_card
end Go.Proofs.YtkdbajpdcadliaaGreatDoor
