/- ProgramParses, the row and the card: for every text the law returns true, and each argument reads behind the call as before. Condition: none beyond the card's own: the listed variables of the library (two tables of math/bits, one of strconv, strconv.ErrRange, strconv.ErrSyntax) are tied to the program's text. -/
import Derived.Test.YtkdbajpdcadliaaGreatDoorZa
import Derived.Test.YtkdbajpdcadliaaGreatDoorYy
import Derived.Test.YtkdbajpdcadliaaGreatDoorTie
import Derived.Test.YtkdbajpdcadliaaGreatDoorCards
import Derived.SevenTiedAt
set_option linter.unusedVariables false
namespace Go.Proofs.YtkdbajpdcadliaaGreatDoor
open Go.ChangeShapes Go.WideShapes Go.RowKit
open Go.ChangeMaps (open_string shut_string)

set_option maxRecDepth 100000 in
theorem parses_lifted (os : Os) (started : os.Started) (H : Type) (enc : TypeId × Value → H) :
    ReturnsInHanded {} Tryz.checked os 5 .any (fun w args => (Rows.programParsesSpec.pre enc Tryz.prog Tryz.f5 [] false w args ∧ laidMetH Tryz.prog Rows.programParsesRow.laid w) ∧ sizedMet enc Tryz.prog Tryz.f5 (OpenSpec.ofChange Rows.programParsesSpec) false w args)
      (Rows.programParsesSpec.post enc Tryz.prog Tryz.f5 false true false false) := by
  refine returnsInHanded_of_calls (C := Tryz.checked) Tryz.own started (by kernel_rfl)
    (ChangeSpec.witness_at (enc := enc) (C := Tryz.checked) (os := os) (X := fun w _ => laidMetH Tryz.prog LAID w) false (laidWorld os) #[.string ⟨#[]⟩] 8 rfl (by kernel_rfl) (by kernel_rfl) (by kernel_rfl) (by kernel_rfl) (by kernel_rfl) (laidWorld_met os _)) ?_
  intro w tape i _ hsh _ hok hpre _
  obtain ⟨_, _, _, fn', hfn', _, _, _, _, hval0⟩ := hok
  obtain rfl : fn' = Tryz.f5 := Option.some.inj (hfn'.symm.trans Tryz.func5)
  obtain ⟨⟨⟨ds, gs, before, hw, hc⟩, hlaid⟩, hz⟩ := hpre
  have hW0 := DataW.Whole.of_heap (w' := w.forCall tape i) (by rfl) hw
  have hlaid2 : laidMetH Tryz.prog LAID (w.forCall tape i) := hlaid.of_heap (by rfl)
  obtain ⟨hgl, hgb⟩ := gl_of hlaid2 hsh
  obtain ⟨W, hWe⟩ : ∃ W, w.forCall tape i = W := ⟨_, rfl⟩
  obtain ⟨args, hae⟩ : ∃ args, i.args = args := ⟨_, rfl⟩
  rw [hWe] at hW0 hgl hgb ⊢
  rw [hae] at hW0 ⊢
  have hval : ∀ (j : Nat) t v, Tryz.f5.params[j]? = some t → args[j]? = some v → Value.okWide Tryz.prog W .any w.heap.size t v := by
    intro j t v h1 h2
    have := hval0 j t v h1 (by rw [hae]; exact h2)
    rwa [hWe] at this
  have hW' := hW0
  obtain ⟨p, q, hA0, hV0, rfl, hfz, hnd⟩ := hW0
  have hA : DataW.TrodAll enc Tryz.prog W 0 (fun _ => true) true Tryz.f5.params.toList args.toList ds p := hA0
  have hV : DataW.TrodVars enc Tryz.prog W (fun _ => true) [] gs q := hV0
  rw [Tryz.params5] at hA hval
  obtain ⟨v0, d0, rfl, rfl, h0⟩ := trodAll_one hA
  obtain ⟨rfl, rfl⟩ : gs = [] ∧ q = [] := by
    cases gs with
    | nil => exact ⟨rfl, hV⟩
    | cons g r => exact absurd hV (by intro h; cases h)
  have hlt : ∀ x ∈ p, x.block < W.heap.size := fun x hx => by simpa using hW'.lt x (List.mem_append_left _ hx)
  have h0k := h0
  obtain ⟨s0, rfl, rfl, rfl, ws0⟩ := open_string Tryz.underlying9 (hval 0 9 v0 rfl rfl) h0
  have hsz0 : (s0.size : Int) ≤ 9223372036854775807 := by unfold maxLen at ws0; omega
  refine (Pg.law5 s0 W hsz0 hgl hgb).mono fun e W' ⟨he, hb⟩ => ?_
  subst he
  have e1 : Rows.programParsesSpec.fn H ([.lit (.string s0.data.toList)] ++ []) = { results := [.lit (.bool true)], args := [.lit (.string s0.data.toList)] } := rfl
  have hpost : Rows.programParsesSpec.post enc Tryz.prog Tryz.f5 false true false false W #[.string s0] (.bool true) W' := by
    refine ⟨_, _, _, [], [], [], hW', ?_, ?_, ?_, hb.frame _, fun h => by cases h⟩
    · rw [e1]; exact trodAll_mk1 (shut_bool Tryz.underlying4 true)
    · rw [e1]; exact trodAll_mk1 (shut_string Tryz.underlying9 ws0)
    · rw [e1]; rfl
  exact ChangeSpec.post_blind hpost

theorem parses_holds : Rows.ProgramParsesSaid :=
  OpenClaim.holds_of_wide 5 Tryz.f5 rfl rfl rfl rfl rfl rfl rfl ⟨rfl, rfl, rfl, rfl, rfl⟩ rfl rfl rfl rfl rfl (by kernel_rfl) Tryz.func5 (by kernel_rfl)
    (of_decide_eq_true (by kernel_rfl)) (by unfold Func.isWrapper; rw [if_neg (of_decide_eq_false (by kernel_rfl))]; exact ⟨rfl, rfl⟩)
    (fun os started H enc _ => parses_lifted os started H enc)

theorem parses_card : Rows.ProgramParsesCardSaid :=
  Claim7.holds_tied_plain_at .later [] [.data, .data, .data, .sentinel, .sentinel] true (true, "5de20683868cadf78a5dc1f7739e1e6a8e5ca7eed5583478de021fbaccc91779") true
    parses_holds (fun _ h => by cases h) (by kernel_rfl) (fun _ h => by cases h) programParses_row_tie rfl ⟨rfl, rfl⟩ (by kernel_rfl) rfl
    (fun f fn hf hfn => by
      obtain rfl : f = 5 := Option.some.inj ((show Tryz.prog.funcNamed "progeny/progenylaw25.ProgramParses" = some 5 by kernel_rfl).symm.trans hf) |>.symm
      obtain rfl : fn = Tryz.f5 := (Option.some.inj (Tryz.func5.symm.trans hfn)).symm
      exact ⟨by kernel_rfl, fun j t ht => by
        rw [Tryz.params5] at ht
        match j, ht with
        | 0, ht =>
          have h : t = 9 := by simpa using ht.symm
          subst h
          exact (show Tryz.prog.wantsStandIn 9 = false by kernel_rfl)
        | j + 1, ht => simp at ht⟩)
    (by kernel_rfl)
#print axioms parses_card
end Go.Proofs.YtkdbajpdcadliaaGreatDoor
