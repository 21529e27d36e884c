/- ProgramPlaces, the row and the card: for every program the law returns true, and each argument reads behind the call as before. Condition: none beyond the card's own: the listed variables of the library (two tables of math/bits, one of strconv, strconv.ErrRange, strconv.ErrSyntax) are tied to the program's text. -/
import Derived.Test.YtkdbajpdcadliaaGreatDoorZa
import Derived.Test.YtkdbajpdcadliaaGreatDoorYp
import Derived.Test.YtkdbajpdcadliaaGreatDoorTie
import Derived.Test.YtkdbajpdcadliaaGreatDoorCards
import Derived.SevenTiedAt
set_option linter.unusedVariables false
namespace Go.Proofs.YtkdbajpdcadliaaGreatDoor
open Go.ChangeShapes Go.WideShapes Go.RowKit
open Go.ChangeMaps (open_string shut_string)

set_option maxRecDepth 100000 in
theorem places_lifted (os : Os) (started : os.Started) (H : Type) (enc : TypeId × Value → H) :
    ReturnsInHanded {} Tryz.checked os 10 .any (fun w args => (Rows.programPlacesSpec.pre enc Tryz.prog Tryz.f10 [] false w args ∧ laidMetH Tryz.prog Rows.programPlacesRow.laid w) ∧ sizedMet enc Tryz.prog Tryz.f10 (OpenSpec.ofChange Rows.programPlacesSpec) false w args)
      (Rows.programPlacesSpec.post enc Tryz.prog Tryz.f10 false true false false) := by
  refine returnsInHanded_of_calls (C := Tryz.checked) Tryz.own started (by kernel_rfl)
    (ChangeSpec.witness_at (enc := enc) (C := Tryz.checked) (os := os) (X := fun w _ => laidMetH Tryz.prog LAID w) false (laidWorld os) #[.agg #[.string ⟨#[]⟩, .slice none 0 0]] 8 rfl (by kernel_rfl) (by kernel_rfl) (by kernel_rfl) (by kernel_rfl) (by kernel_rfl) (laidWorld_met os _)) ?_
  intro w tape i _ hsh _ hok hpre _
  obtain ⟨_, _, _, fn', hfn', _, _, _, _, hval0⟩ := hok
  obtain rfl : fn' = Tryz.f10 := Option.some.inj (hfn'.symm.trans Tryz.func10)
  obtain ⟨⟨⟨ds, gs, before, hw, hc⟩, hlaid⟩, hz⟩ := hpre
  have hW0 := DataW.Whole.of_heap (w' := w.forCall tape i) (by rfl) hw
  have hlaid2 : laidMetH Tryz.prog LAID (w.forCall tape i) := hlaid.of_heap (by rfl)
  obtain ⟨hgl, hgb⟩ := gl_of hlaid2 hsh
  obtain ⟨W, hWe⟩ : ∃ W, w.forCall tape i = W := ⟨_, rfl⟩
  obtain ⟨args, hae⟩ : ∃ args, i.args = args := ⟨_, rfl⟩
  rw [hWe] at hW0 hgl hgb ⊢
  rw [hae] at hW0 ⊢
  have hval : ∀ (j : Nat) t v, Tryz.f10.params[j]? = some t → args[j]? = some v → Value.okWide Tryz.prog W .any w.heap.size t v := by
    intro j t v h1 h2
    have := hval0 j t v h1 (by rw [hae]; exact h2)
    rwa [hWe] at this
  have hW' := hW0
  obtain ⟨p, q, hA0, hV0, rfl, hfz, hnd⟩ := hW0
  have hA : DataW.TrodAll enc Tryz.prog W 0 (fun _ => true) true Tryz.f10.params.toList args.toList ds p := hA0
  have hV : DataW.TrodVars enc Tryz.prog W (fun _ => true) [] gs q := hV0
  rw [Tryz.params10] at hA hval
  obtain ⟨v0, d0, rfl, rfl, h0⟩ := trodAll_one hA
  obtain ⟨rfl, rfl⟩ : gs = [] ∧ q = [] := by
    cases gs with
    | nil => exact ⟨rfl, hV⟩
    | cons g r => exact absurd hV (by intro h; cases h)
  have hlt : ∀ x ∈ p, x.block < W.heap.size := fun x hx => by simpa using hW'.lt x (List.mem_append_left _ hx)
  have h0k := h0
  obtain ⟨nm0, A0, n0, c0, ss0, rfl, hst0, hlen0, hbd0, hnm0⟩ := prog_of (hval 0 24 v0 rfl rfl) h0
  refine (Pg.law10 nm0 A0 n0 c0 ss0 W hst0 hlen0 hbd0 hnm0 hgl hgb).mono fun e W' ⟨he, hb⟩ => ?_
  subst he
  have e1 : Rows.programPlacesSpec.fn H ([d0] ++ []) = { results := [.lit (.bool true)], args := [d0] } := rfl
  have hpost : Rows.programPlacesSpec.post enc Tryz.prog Tryz.f10 false true false false W #[.agg #[.string nm0, .slice A0 n0 c0]] (.bool true) W' := by
    refine ⟨_, _, _, [], p, [], hW', ?_, ?_, ?_, hb.frame _, fun h => by cases h⟩
    · rw [e1]; exact trodAll_mk1 (shut_bool Tryz.underlying4 true)
    · rw [e1]; exact trodAll_mk1 (Below.trod Tryz.laidOut (by kernel_rfl) (of_decide_eq_true (by kernel_rfl)) h0k hb (fun x hx => hlt x (hx)))
    · rw [e1]; rfl
  exact ChangeSpec.post_blind hpost

theorem places_holds : Rows.ProgramPlacesSaid :=
  OpenClaim.holds_of_wide 10 Tryz.f10 rfl rfl rfl rfl rfl rfl rfl ⟨rfl, rfl, rfl, rfl, rfl⟩ rfl rfl rfl rfl rfl (by kernel_rfl) Tryz.func10 (by kernel_rfl)
    (of_decide_eq_true (by kernel_rfl)) (by unfold Func.isWrapper; rw [if_neg (of_decide_eq_false (by kernel_rfl))]; exact ⟨rfl, rfl⟩)
    (fun os started H enc _ => places_lifted os started H enc)

theorem places_card : Rows.ProgramPlacesCardSaid :=
  Claim7.holds_tied_plain_at .later [] [.data, .data, .data, .sentinel, .sentinel] true (true, "5de20683868cadf78a5dc1f7739e1e6a8e5ca7eed5583478de021fbaccc91779") true
    places_holds (fun _ h => by cases h) (by kernel_rfl) (fun _ h => by cases h) programPlaces_row_tie rfl ⟨rfl, rfl⟩ (by kernel_rfl) rfl
    (fun f fn hf hfn => by
      obtain rfl : f = 10 := Option.some.inj ((show Tryz.prog.funcNamed "progeny/progenylaw25.ProgramPlaces" = some 10 by kernel_rfl).symm.trans hf) |>.symm
      obtain rfl : fn = Tryz.f10 := (Option.some.inj (Tryz.func10.symm.trans hfn)).symm
      exact ⟨by kernel_rfl, fun j t ht => by
        rw [Tryz.params10] at ht
        match j, ht with
        | 0, ht =>
          have h : t = 24 := by simpa using ht.symm
          subst h
          exact (show Tryz.prog.wantsStandIn 24 = false by kernel_rfl)
        | j + 1, ht => simp at ht⟩)
    (by kernel_rfl)
#print axioms places_card
end Go.Proofs.YtkdbajpdcadliaaGreatDoor
