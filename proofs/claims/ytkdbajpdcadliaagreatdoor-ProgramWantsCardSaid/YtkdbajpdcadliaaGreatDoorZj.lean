/- ProgramWants, the row and the card: for every program and every run and every answer the law returns true, and each argument reads behind the call as before. Condition: none beyond the card's own: the listed variables of the library (two tables of math/bits, one of strconv, strconv.ErrRange, strconv.ErrSyntax) are tied to the program's text. -/
import Derived.Test.YtkdbajpdcadliaaGreatDoorZa
import Derived.Test.YtkdbajpdcadliaaGreatDoorYu
import Derived.Test.YtkdbajpdcadliaaGreatDoorZw
import Derived.Test.YtkdbajpdcadliaaGreatDoorTie
import Derived.Test.YtkdbajpdcadliaaGreatDoorCards
import Derived.SevenTiedAt
set_option linter.unusedVariables false
namespace Go.Proofs.YtkdbajpdcadliaaGreatDoor
open Go.ChangeShapes Go.WideShapes Go.RowKit
open Go.ChangeMaps (open_string shut_string)

set_option maxRecDepth 100000 in
theorem wants_lifted (os : Os) (started : os.Started) (H : Type) (enc : TypeId × Value → H) :
    ReturnsInHanded {} Tryz.checked os 3 .any (fun w args => (Rows.programWantsSpec.pre enc Tryz.prog Tryz.f3 [] false w args ∧ laidMetH Tryz.prog Rows.programWantsRow.laid w) ∧ sizedMet enc Tryz.prog Tryz.f3 (OpenSpec.ofChange Rows.programWantsSpec) false w args)
      (Rows.programWantsSpec.post enc Tryz.prog Tryz.f3 false true false false) := by
  refine returnsInHanded_of_calls (C := Tryz.checked) Tryz.own started (by kernel_rfl)
    (ChangeSpec.witness_at (enc := enc) (C := Tryz.checked) (os := os) (X := fun w _ => laidMetH Tryz.prog LAID w) false (laidWorld os) #[.agg #[.string ⟨#[]⟩, .slice none 0 0], .agg #[.int .i64 0, .slice none 0 0, .string ⟨#[]⟩, .int .i64 0, .int .i64 0], .agg #[.string ⟨#[]⟩, .string ⟨#[]⟩]] 8 rfl (by kernel_rfl) (by kernel_rfl) (by kernel_rfl) (by kernel_rfl) (by kernel_rfl) (laidWorld_met os _)) ?_
  intro w tape i _ hsh _ hok hpre _
  obtain ⟨_, _, _, fn', hfn', _, _, _, _, hval0⟩ := hok
  obtain rfl : fn' = Tryz.f3 := Option.some.inj (hfn'.symm.trans Tryz.func3)
  obtain ⟨⟨⟨ds, gs, before, hw, hc⟩, hlaid⟩, hz⟩ := hpre
  have hW0 := DataW.Whole.of_heap (w' := w.forCall tape i) (by rfl) hw
  have hlaid2 : laidMetH Tryz.prog LAID (w.forCall tape i) := hlaid.of_heap (by rfl)
  obtain ⟨hgl, hgb⟩ := gl_of hlaid2 hsh
  obtain ⟨W, hWe⟩ : ∃ W, w.forCall tape i = W := ⟨_, rfl⟩
  obtain ⟨args, hae⟩ : ∃ args, i.args = args := ⟨_, rfl⟩
  rw [hWe] at hW0 hgl hgb ⊢
  rw [hae] at hW0 ⊢
  have hval : ∀ (j : Nat) t v, Tryz.f3.params[j]? = some t → args[j]? = some v → Value.okWide Tryz.prog W .any w.heap.size t v := by
    intro j t v h1 h2
    have := hval0 j t v h1 (by rw [hae]; exact h2)
    rwa [hWe] at this
  have hW' := hW0
  obtain ⟨p, q, hA0, hV0, rfl, hfz, hnd⟩ := hW0
  have hA : DataW.TrodAll enc Tryz.prog W 0 (fun _ => true) true Tryz.f3.params.toList args.toList ds p := hA0
  have hV : DataW.TrodVars enc Tryz.prog W (fun _ => true) [] gs q := hV0
  rw [Tryz.params3] at hA hval
  obtain ⟨v0, v1, v2, d0, d1, d2, p0, p1, p2, rfl, rfl, rfl, h0, h1, h2⟩ := trodAll_three hA
  obtain ⟨rfl, rfl⟩ : gs = [] ∧ q = [] := by
    cases gs with
    | nil => exact ⟨rfl, hV⟩
    | cons g r => exact absurd hV (by intro h; cases h)
  have hlt : ∀ x ∈ p0 ++ p1 ++ p2, x.block < W.heap.size := fun x hx => by simpa using hW'.lt x (List.mem_append_left _ hx)
  have h0k := h0
  have h1k := h1
  have h2k := h2
  obtain ⟨nm0, A0, n0, c0, ss0, rfl, hst0, hlen0, hbd0, hnm0⟩ := prog_of (hval 0 24 v0 rfl rfl) h0
  obtain ⟨pl1, T1, k1, cp1, st1, ct1, ov1, xs1, rfl, hxs1, hxl1, hxb1⟩ := run_of (hval 1 27 v1 rfl rfl) h1
  obtain ⟨gs2, gt2, rfl, gz2, gy2⟩ := given_of (hval 2 29 v2 rfl rfl) h2
  refine (Pg.law3 nm0 A0 n0 c0 ss0 pl1 ct1 ov1 T1 k1 cp1 st1 xs1 gs2 gt2 W hst0 hlen0 hbd0 hnm0 hxs1 hxl1 hxb1 gz2 gy2 hgl hgb).mono fun e W' ⟨he, hb⟩ => ?_
  subst he
  have e1 : Rows.programWantsSpec.fn H ([d0, d1, d2] ++ []) = { results := [.lit (.bool true)], args := [d0, d1, d2] } := rfl
  have hpost : Rows.programWantsSpec.post enc Tryz.prog Tryz.f3 false true false false W #[.agg #[.string nm0, .slice A0 n0 c0], Pg.runV pl1 T1 k1 cp1 st1 ct1 ov1, .agg #[.string gs2, .string gt2]] (.bool true) W' := by
    refine ⟨_, _, _, [], p0 ++ (p1 ++ p2), [], hW', ?_, ?_, ?_, hb.frame _, fun h => by cases h⟩
    · rw [e1]; exact trodAll_mk1 (shut_bool Tryz.underlying4 true)
    · rw [e1]; exact trodAll_mk3 (Below.trod Tryz.laidOut (by kernel_rfl) (of_decide_eq_true (by kernel_rfl)) h0k hb (fun x hx => hlt x (List.mem_append_left _ (List.mem_append_left _ hx)))) (Below.trod Tryz.laidOut (by kernel_rfl) (of_decide_eq_true (by kernel_rfl)) h1k hb (fun x hx => hlt x (List.mem_append_left _ (List.mem_append_right _ hx)))) (Below.trod Tryz.laidOut (by kernel_rfl) (of_decide_eq_true (by kernel_rfl)) h2k hb (fun x hx => hlt x (List.mem_append_right _ hx)))
    · rw [e1]; rfl
  exact ChangeSpec.post_blind hpost

theorem wants_holds : Rows.ProgramWantsSaid :=
  OpenClaim.holds_of_wide 3 Tryz.f3 rfl rfl rfl rfl rfl rfl rfl ⟨rfl, rfl, rfl, rfl, rfl⟩ rfl rfl rfl rfl rfl (by kernel_rfl) Tryz.func3 (by kernel_rfl)
    (of_decide_eq_true (by kernel_rfl)) (by unfold Func.isWrapper; rw [if_neg (of_decide_eq_false (by kernel_rfl))]; exact ⟨rfl, rfl⟩)
    (fun os started H enc _ => wants_lifted os started H enc)

theorem wants_card : Rows.ProgramWantsCardSaid :=
  Claim7.holds_tied_plain_at .later [] [.data, .data, .data, .sentinel, .sentinel] true (true, "5de20683868cadf78a5dc1f7739e1e6a8e5ca7eed5583478de021fbaccc91779") true
    wants_holds (fun _ h => by cases h) (by kernel_rfl) (fun _ h => by cases h) programWants_row_tie rfl ⟨rfl, rfl⟩ (by kernel_rfl) rfl
    (fun f fn hf hfn => by
      obtain rfl : f = 3 := Option.some.inj ((show Tryz.prog.funcNamed "progeny/progenylaw25.ProgramWants" = some 3 by kernel_rfl).symm.trans hf) |>.symm
      obtain rfl : fn = Tryz.f3 := (Option.some.inj (Tryz.func3.symm.trans hfn)).symm
      exact ⟨by kernel_rfl, fun j t ht => by
        rw [Tryz.params3] at ht
        match j, ht with
        | 0, ht =>
          have h : t = 24 := by simpa using ht.symm
          subst h
          exact (show Tryz.prog.wantsStandIn 24 = false by kernel_rfl)
        | 1, ht =>
          have h : t = 27 := by simpa using ht.symm
          subst h
          exact (show Tryz.prog.wantsStandIn 27 = false by kernel_rfl)
        | 2, ht =>
          have h : t = 29 := by simpa using ht.symm
          subst h
          exact (show Tryz.prog.wantsStandIn 29 = false by kernel_rfl)
        | j + 3, ht => simp at ht⟩)
    (by kernel_rfl)
#print axioms wants_card
end Go.Proofs.YtkdbajpdcadliaaGreatDoor
