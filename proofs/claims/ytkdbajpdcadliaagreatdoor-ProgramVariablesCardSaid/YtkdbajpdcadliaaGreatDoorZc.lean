/- ProgramVariables, the card: for every list of variables and every text the law returns true, and both read behind the call as before. Condition: none beyond the card's own: the listed variables of the library are tied to the program's text. -/
import Derived.Test.YtkdbajpdcadliaaGreatDoorZb
import Derived.Test.YtkdbajpdcadliaaGreatDoorTie
import Derived.Test.YtkdbajpdcadliaaGreatDoorCards
import Derived.SevenTiedAt
set_option linter.unusedVariables false
namespace Go.Proofs.YtkdbajpdcadliaaGreatDoor

theorem variables_card : Rows.ProgramVariablesCardSaid :=
  Claim7.holds_tied_plain_at .later [] [.data, .data, .data, .sentinel, .sentinel] true (true, "5de20683868cadf78a5dc1f7739e1e6a8e5ca7eed5583478de021fbaccc91779") true
    variables_holds (fun _ h => by cases h) (by kernel_rfl) (fun _ h => by cases h) programVariables_row_tie rfl ⟨rfl, rfl⟩ (by kernel_rfl) rfl
    (fun f fn hf hfn => by
      obtain rfl : f = 6 := Option.some.inj ((show Tryz.prog.funcNamed "progeny/progenylaw25.ProgramVariables" = some 6 by kernel_rfl).symm.trans hf) |>.symm
      obtain rfl : fn = Tryz.f6 := (Option.some.inj (Tryz.func6.symm.trans hfn)).symm
      exact ⟨by kernel_rfl, fun j t ht => by
        rw [Tryz.params6] at ht
        match j, ht with
        | 0, ht =>
          have h : t = 25 := by simpa using ht.symm
          subst h
          exact (show Tryz.prog.wantsStandIn 25 = false by kernel_rfl)
        | 1, ht =>
          have h : t = 9 := by simpa using ht.symm
          subst h
          exact (show Tryz.prog.wantsStandIn 9 = false by kernel_rfl)
        | j + 2, ht => simp at ht⟩)
    (by kernel_rfl)
#print axioms variables_card
end Go.Proofs.YtkdbajpdcadliaaGreatDoor
