/-
  DERIVED. GIVEN WITH THE SEED: THE CARDS: each row of YtkdbajpdcadliaaGreatDoorRows.lean that lists a variable, with what it lists TIED to the program's text (the seventh form; the later family's looks); each row that meets fmt, with fmt's text TOLD by the authors' own Lean function (tested against real Go, not proved from fmt's source: count such statements apart). THE CARD IS WHAT COUNTS. Prove the row's statement (the work); the ties are given (YtkdbajpdcadliaaGreatDoorTie.lean); close each card by the builder's one call (the guide's Derived/Test/ToyasCard.lean, 'card_holds'). Laid BY PROGRAM, IN A SANDBOX (cutbox-door.mjs). By AI agents, Wed Nov 11 2026. No macro, syntax, notation, axiom, sorry.
-/
import Derived.Test.YtkdbajpdcadliaaGreatDoorRows
import GoSem.ClaimSeven
namespace Go.Proofs.YtkdbajpdcadliaaGreatDoor
namespace Rows

/-- THE TIED CARD OF 'progenylaw25.ProgramWants'. -/
def programWantsCard : Claim7 := { stood := { row := programWantsRow, standIns := [], harness := (true, "5de20683868cadf78a5dc1f7739e1e6a8e5ca7eed5583478de021fbaccc91779"), looks := true }, kinds := [], alts := [], laidByText := true, laidKinds := [.data, .data, .data, .sentinel, .sentinel], laidTests := true, laidLooks := .later }
def ProgramWantsCardSaid : Prop := Claim7.holds Tryz.pinned (.plain (OpenSpec.ofChange programWantsSpec)) programWantsCard

/-- THE TIED CARD OF 'progenylaw25.ProgramOver'. -/
def programOverCard : Claim7 := { stood := { row := programOverRow, standIns := [], harness := (true, "5de20683868cadf78a5dc1f7739e1e6a8e5ca7eed5583478de021fbaccc91779"), looks := true }, kinds := [], alts := [], laidByText := true, laidKinds := [.data, .data, .data, .sentinel, .sentinel], laidTests := true, laidLooks := .later }
def ProgramOverCardSaid : Prop := Claim7.holds Tryz.pinned (.plain (OpenSpec.ofChange programOverSpec)) programOverCard

/-- THE TIED CARD OF 'progenylaw25.ProgramParses'. -/
def programParsesCard : Claim7 := { stood := { row := programParsesRow, standIns := [], harness := (true, "5de20683868cadf78a5dc1f7739e1e6a8e5ca7eed5583478de021fbaccc91779"), looks := true }, kinds := [], alts := [], laidByText := true, laidKinds := [.data, .data, .data, .sentinel, .sentinel], laidTests := true, laidLooks := .later }
def ProgramParsesCardSaid : Prop := Claim7.holds Tryz.pinned (.plain (OpenSpec.ofChange programParsesSpec)) programParsesCard

/-- THE TIED CARD OF 'progenylaw25.ProgramVariables'. -/
def programVariablesCard : Claim7 := { stood := { row := programVariablesRow, standIns := [], harness := (true, "5de20683868cadf78a5dc1f7739e1e6a8e5ca7eed5583478de021fbaccc91779"), looks := true }, kinds := [], alts := [], laidByText := true, laidKinds := [.data, .data, .data, .sentinel, .sentinel], laidTests := true, laidLooks := .later }
def ProgramVariablesCardSaid : Prop := Claim7.holds Tryz.pinned (.plain (OpenSpec.ofChange programVariablesSpec)) programVariablesCard

/-- THE TIED CARD OF 'progenylaw25.ProgramRuns'. -/
def programRunsCard : Claim7 := { stood := { row := programRunsRow, standIns := [], harness := (true, "5de20683868cadf78a5dc1f7739e1e6a8e5ca7eed5583478de021fbaccc91779"), looks := true }, kinds := [], alts := [], laidByText := true, laidKinds := [.data, .data, .data, .sentinel, .sentinel], laidTests := true, laidLooks := .later }
def ProgramRunsCardSaid : Prop := Claim7.holds Tryz.pinned (.plain (OpenSpec.ofChange programRunsSpec)) programRunsCard

/-- THE TIED CARD OF 'progenylaw25.ProgramGoes'. -/
def programGoesCard : Claim7 := { stood := { row := programGoesRow, standIns := [], harness := (true, "5de20683868cadf78a5dc1f7739e1e6a8e5ca7eed5583478de021fbaccc91779"), looks := true }, kinds := [], alts := [], laidByText := true, laidKinds := [.data, .data, .data, .sentinel, .sentinel], laidTests := true, laidLooks := .later }
def ProgramGoesCardSaid : Prop := Claim7.holds Tryz.pinned (.plain (OpenSpec.ofChange programGoesSpec)) programGoesCard

/-- THE TIED CARD OF 'progenylaw25.ProgramTexts'. -/
def programTextsCard : Claim7 := { stood := { row := programTextsRow, standIns := [], harness := (true, "5de20683868cadf78a5dc1f7739e1e6a8e5ca7eed5583478de021fbaccc91779"), looks := true }, kinds := [], alts := [], laidByText := true, laidKinds := [.data, .data, .data, .sentinel, .sentinel], laidTests := true, laidLooks := .later }
def ProgramTextsCardSaid : Prop := Claim7.holds Tryz.pinned (.plain (OpenSpec.ofChange programTextsSpec)) programTextsCard

/-- THE TIED CARD OF 'progenylaw25.ProgramPlaces'. -/
def programPlacesCard : Claim7 := { stood := { row := programPlacesRow, standIns := [], harness := (true, "5de20683868cadf78a5dc1f7739e1e6a8e5ca7eed5583478de021fbaccc91779"), looks := true }, kinds := [], alts := [], laidByText := true, laidKinds := [.data, .data, .data, .sentinel, .sentinel], laidTests := true, laidLooks := .later }
def ProgramPlacesCardSaid : Prop := Claim7.holds Tryz.pinned (.plain (OpenSpec.ofChange programPlacesSpec)) programPlacesCard

/-- THE TIED CARD OF 'progenylaw25.ProgramCalls'. -/
def programCallsCard : Claim7 := { stood := { row := programCallsRow, standIns := [], harness := (true, "5de20683868cadf78a5dc1f7739e1e6a8e5ca7eed5583478de021fbaccc91779"), looks := true }, kinds := [], alts := [], laidByText := true, laidKinds := [.data, .data, .data, .data, .sentinel, .sentinel, .pinned], laidTests := true, laidLooks := .later }
def ProgramCallsCardSaid : Prop := Claim7.holds Tryz.pinned (.plain (OpenSpec.ofChange programCallsSpec)) programCallsCard

/-- THE SECOND FORM's CARD OF 'progenylaw25.ProgramWants'. -/
def programWantsUptoCard : Claim7 := { stood := { row := programWantsUptoRow, standIns := [], harness := (true, "5de20683868cadf78a5dc1f7739e1e6a8e5ca7eed5583478de021fbaccc91779"), looks := true }, kinds := [], alts := [], laidByText := true, laidKinds := [.data, .data, .data, .sentinel, .sentinel], laidTests := true, laidLooks := .later }
def ProgramWantsUptoCardSaid : Prop := Claim7.holds Tryz.pinned (.plain (OpenSpec.upto programWantsSpec)) programWantsUptoCard

/-- THE SECOND FORM's CARD OF 'progenylaw25.ProgramOver'. -/
def programOverUptoCard : Claim7 := { stood := { row := programOverUptoRow, standIns := [], harness := (true, "5de20683868cadf78a5dc1f7739e1e6a8e5ca7eed5583478de021fbaccc91779"), looks := true }, kinds := [], alts := [], laidByText := true, laidKinds := [.data, .data, .data, .sentinel, .sentinel], laidTests := true, laidLooks := .later }
def ProgramOverUptoCardSaid : Prop := Claim7.holds Tryz.pinned (.plain (OpenSpec.upto programOverSpec)) programOverUptoCard

/-- THE SECOND FORM's CARD OF 'progenylaw25.ProgramParses'. -/
def programParsesUptoCard : Claim7 := { stood := { row := programParsesUptoRow, standIns := [], harness := (true, "5de20683868cadf78a5dc1f7739e1e6a8e5ca7eed5583478de021fbaccc91779"), looks := true }, kinds := [], alts := [], laidByText := true, laidKinds := [.data, .data, .data, .sentinel, .sentinel], laidTests := true, laidLooks := .later }
def ProgramParsesUptoCardSaid : Prop := Claim7.holds Tryz.pinned (.plain (OpenSpec.upto programParsesSpec)) programParsesUptoCard

/-- THE SECOND FORM's CARD OF 'progenylaw25.ProgramVariables'. -/
def programVariablesUptoCard : Claim7 := { stood := { row := programVariablesUptoRow, standIns := [], harness := (true, "5de20683868cadf78a5dc1f7739e1e6a8e5ca7eed5583478de021fbaccc91779"), looks := true }, kinds := [], alts := [], laidByText := true, laidKinds := [.data, .data, .data, .sentinel, .sentinel], laidTests := true, laidLooks := .later }
def ProgramVariablesUptoCardSaid : Prop := Claim7.holds Tryz.pinned (.plain (OpenSpec.upto programVariablesSpec)) programVariablesUptoCard

/-- THE SECOND FORM's CARD OF 'progenylaw25.ProgramRuns'. -/
def programRunsUptoCard : Claim7 := { stood := { row := programRunsUptoRow, standIns := [], harness := (true, "5de20683868cadf78a5dc1f7739e1e6a8e5ca7eed5583478de021fbaccc91779"), looks := true }, kinds := [], alts := [], laidByText := true, laidKinds := [.data, .data, .data, .sentinel, .sentinel], laidTests := true, laidLooks := .later }
def ProgramRunsUptoCardSaid : Prop := Claim7.holds Tryz.pinned (.plain (OpenSpec.upto programRunsSpec)) programRunsUptoCard

/-- THE SECOND FORM's CARD OF 'progenylaw25.ProgramGoes'. -/
def programGoesUptoCard : Claim7 := { stood := { row := programGoesUptoRow, standIns := [], harness := (true, "5de20683868cadf78a5dc1f7739e1e6a8e5ca7eed5583478de021fbaccc91779"), looks := true }, kinds := [], alts := [], laidByText := true, laidKinds := [.data, .data, .data, .sentinel, .sentinel], laidTests := true, laidLooks := .later }
def ProgramGoesUptoCardSaid : Prop := Claim7.holds Tryz.pinned (.plain (OpenSpec.upto programGoesSpec)) programGoesUptoCard

/-- THE SECOND FORM's CARD OF 'progenylaw25.ProgramTexts'. -/
def programTextsUptoCard : Claim7 := { stood := { row := programTextsUptoRow, standIns := [], harness := (true, "5de20683868cadf78a5dc1f7739e1e6a8e5ca7eed5583478de021fbaccc91779"), looks := true }, kinds := [], alts := [], laidByText := true, laidKinds := [.data, .data, .data, .sentinel, .sentinel], laidTests := true, laidLooks := .later }
def ProgramTextsUptoCardSaid : Prop := Claim7.holds Tryz.pinned (.plain (OpenSpec.upto programTextsSpec)) programTextsUptoCard

/-- THE SECOND FORM's CARD OF 'progenylaw25.ProgramPlaces'. -/
def programPlacesUptoCard : Claim7 := { stood := { row := programPlacesUptoRow, standIns := [], harness := (true, "5de20683868cadf78a5dc1f7739e1e6a8e5ca7eed5583478de021fbaccc91779"), looks := true }, kinds := [], alts := [], laidByText := true, laidKinds := [.data, .data, .data, .sentinel, .sentinel], laidTests := true, laidLooks := .later }
def ProgramPlacesUptoCardSaid : Prop := Claim7.holds Tryz.pinned (.plain (OpenSpec.upto programPlacesSpec)) programPlacesUptoCard

/-- THE SECOND FORM's CARD OF 'progenylaw25.ProgramCalls'. -/
def programCallsUptoCard : Claim7 := { stood := { row := programCallsUptoRow, standIns := [], harness := (true, "5de20683868cadf78a5dc1f7739e1e6a8e5ca7eed5583478de021fbaccc91779"), looks := true }, kinds := [], alts := [], laidByText := true, laidKinds := [.data, .data, .data, .data, .sentinel, .sentinel, .pinned], laidTests := true, laidLooks := .later }
def ProgramCallsUptoCardSaid : Prop := Claim7.holds Tryz.pinned (.plain (OpenSpec.upto programCallsSpec)) programCallsUptoCard
end Rows
end Go.Proofs.YtkdbajpdcadliaaGreatDoor
