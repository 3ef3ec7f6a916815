/-
  DERIVED. GIVEN WITH THE SEED: THE CARDS: each row of YtccnpeggnhbpjaaGreatDoorRows.lean that lists a variable, with what it lists TIED to the program's text (the seventh form; the later family's looks); each row that meets fmt, with fmt's text TOLD by the authors' own Lean function (tested against real Go, not proved from fmt's source: count such statements apart). THE CARD IS WHAT COUNTS. Prove the row's statement (the work); the ties are given (YtccnpeggnhbpjaaGreatDoorTie.lean); close each card by the builder's one call (the guide's Derived/Test/ToyasCard.lean, 'card_holds'). Laid BY PROGRAM, IN A SANDBOX (cutbox-door.mjs). By AI agents, Wed Nov 11 2026. No macro, syntax, notation, axiom, sorry.
-/
import Derived.Test.YtccnpeggnhbpjaaGreatDoorRows
import GoSem.ClaimSeven
namespace Go.Proofs.YtccnpeggnhbpjaaGreatDoor
namespace Rows

/-- THE TIED CARD OF 'laws.FnExactCountUnsafe'. -/
def fnExactCountUnsafeCard : Claim7 := { stood := { row := fnExactCountUnsafeRow, standIns := [], harness := (true, "8f86da18190f5c7fe8e0c751f738260f9d4550469df40a187be7f598f3c55781"), looks := true }, kinds := [], alts := [], laidByText := true, laidKinds := [.data, .data, .data, .data], laidTests := true, laidLooks := .later }
def FnExactCountUnsafeCardSaid : Prop := Claim7.holds Tryz.pinned (.plain (OpenSpec.ofChange fnExactCountUnsafeSpec)) fnExactCountUnsafeCard

/-- THE TIED CARD OF 'laws.FnExactIsRideSafe'. -/
def fnExactIsRideSafeCard : Claim7 := { stood := { row := fnExactIsRideSafeRow, standIns := [], harness := (true, "8f86da18190f5c7fe8e0c751f738260f9d4550469df40a187be7f598f3c55781"), looks := true }, kinds := [], alts := [], laidByText := true, laidKinds := [.data, .data, .data, .data], laidTests := true, laidLooks := .later }
def FnExactIsRideSafeCardSaid : Prop := Claim7.holds Tryz.pinned (.plain (OpenSpec.ofChange fnExactIsRideSafeSpec)) fnExactIsRideSafeCard

/-- THE TIED CARD OF 'laws.FnExactFirstUnsafeTrace'. -/
def fnExactFirstUnsafeTraceCard : Claim7 := { stood := { row := fnExactFirstUnsafeTraceRow, standIns := [], harness := (true, "8f86da18190f5c7fe8e0c751f738260f9d4550469df40a187be7f598f3c55781"), looks := true }, kinds := [], alts := [], laidByText := true, laidKinds := [.data, .data, .data, .data], laidTests := true, laidLooks := .later }
def FnExactFirstUnsafeTraceCardSaid : Prop := Claim7.holds Tryz.pinned (.plain (OpenSpec.ofChange fnExactFirstUnsafeTraceSpec)) fnExactFirstUnsafeTraceCard

/-- THE TIED CARD OF 'laws.FnRideSafe'. -/
def fnRideSafeCard : Claim7 := { stood := { row := fnRideSafeRow, standIns := [], harness := (true, "8f86da18190f5c7fe8e0c751f738260f9d4550469df40a187be7f598f3c55781"), looks := true }, kinds := [], alts := [], laidByText := true, laidKinds := [.data, .data, .data, .data], laidTests := true, laidLooks := .later }
def FnRideSafeCardSaid : Prop := Claim7.holds Tryz.pinned (.plain (OpenSpec.ofChange fnRideSafeSpec)) fnRideSafeCard

/-- THE TIED CARD OF 'laws.FnUnsafeTraces'. -/
def fnUnsafeTracesCard : Claim7 := { stood := { row := fnUnsafeTracesRow, standIns := [], harness := (true, "8f86da18190f5c7fe8e0c751f738260f9d4550469df40a187be7f598f3c55781"), looks := true }, kinds := [], alts := [], laidByText := true, laidKinds := [.data, .data, .data, .data], laidTests := true, laidLooks := .later }
def FnUnsafeTracesCardSaid : Prop := Claim7.holds Tryz.pinned (.plain (OpenSpec.ofChange fnUnsafeTracesSpec)) fnUnsafeTracesCard

/-- THE TIED CARD OF 'laws.FnRideRules'. -/
def fnRideRulesCard : Claim7 := { stood := { row := fnRideRulesRow, standIns := [], harness := (true, "8f86da18190f5c7fe8e0c751f738260f9d4550469df40a187be7f598f3c55781"), looks := true }, kinds := [], alts := [], laidByText := true, laidKinds := [.data, .data, .data, .data], laidTests := true, laidLooks := .later }
def FnRideRulesCardSaid : Prop := Claim7.holds Tryz.pinned (.plain (OpenSpec.ofChange fnRideRulesSpec)) fnRideRulesCard

/-- THE TIED CARD OF 'laws.FnExactShortestReplay'. -/
def fnExactShortestReplayCard : Claim7 := { stood := { row := fnExactShortestReplayRow, standIns := [], harness := (true, "8f86da18190f5c7fe8e0c751f738260f9d4550469df40a187be7f598f3c55781"), looks := true }, kinds := [], alts := [], laidByText := true, laidKinds := [.data, .data, .data, .data], laidTests := true, laidLooks := .later }
def FnExactShortestReplayCardSaid : Prop := Claim7.holds Tryz.pinned (.plain (OpenSpec.ofChange fnExactShortestReplaySpec)) fnExactShortestReplayCard

/-- THE TIED CARD OF 'laws.FnReplayTexts'. -/
def fnReplayTextsCard : Claim7 := { stood := { row := fnReplayTextsRow, standIns := [], harness := (true, "8f86da18190f5c7fe8e0c751f738260f9d4550469df40a187be7f598f3c55781"), looks := true }, kinds := [], alts := [], laidByText := true, laidKinds := [.data, .data, .data, .data, .sentinel, .sentinel, .widerDeep, .pinned], laidTests := true, laidLooks := .later }
def FnReplayTextsCardSaid : Prop := Claim7.holds Tryz.pinned (.plain (OpenSpec.ofChange fnReplayTextsSpec)) fnReplayTextsCard

/-- THE SECOND FORM's CARD OF 'laws.FnExactCountUnsafe'. -/
def fnExactCountUnsafeUptoCard : Claim7 := { stood := { row := fnExactCountUnsafeUptoRow, standIns := [], harness := (true, "8f86da18190f5c7fe8e0c751f738260f9d4550469df40a187be7f598f3c55781"), looks := true }, kinds := [], alts := [], laidByText := true, laidKinds := [.data, .data, .data, .data], laidTests := true, laidLooks := .later }
def FnExactCountUnsafeUptoCardSaid : Prop := Claim7.holds Tryz.pinned (.plain (OpenSpec.upto fnExactCountUnsafeSpec)) fnExactCountUnsafeUptoCard

/-- THE SECOND FORM's CARD OF 'laws.FnExactIsRideSafe'. -/
def fnExactIsRideSafeUptoCard : Claim7 := { stood := { row := fnExactIsRideSafeUptoRow, standIns := [], harness := (true, "8f86da18190f5c7fe8e0c751f738260f9d4550469df40a187be7f598f3c55781"), looks := true }, kinds := [], alts := [], laidByText := true, laidKinds := [.data, .data, .data, .data], laidTests := true, laidLooks := .later }
def FnExactIsRideSafeUptoCardSaid : Prop := Claim7.holds Tryz.pinned (.plain (OpenSpec.upto fnExactIsRideSafeSpec)) fnExactIsRideSafeUptoCard

/-- THE SECOND FORM's CARD OF 'laws.FnExactFirstUnsafeTrace'. -/
def fnExactFirstUnsafeTraceUptoCard : Claim7 := { stood := { row := fnExactFirstUnsafeTraceUptoRow, standIns := [], harness := (true, "8f86da18190f5c7fe8e0c751f738260f9d4550469df40a187be7f598f3c55781"), looks := true }, kinds := [], alts := [], laidByText := true, laidKinds := [.data, .data, .data, .data], laidTests := true, laidLooks := .later }
def FnExactFirstUnsafeTraceUptoCardSaid : Prop := Claim7.holds Tryz.pinned (.plain (OpenSpec.upto fnExactFirstUnsafeTraceSpec)) fnExactFirstUnsafeTraceUptoCard

/-- THE SECOND FORM's CARD OF 'laws.FnRideSafe'. -/
def fnRideSafeUptoCard : Claim7 := { stood := { row := fnRideSafeUptoRow, standIns := [], harness := (true, "8f86da18190f5c7fe8e0c751f738260f9d4550469df40a187be7f598f3c55781"), looks := true }, kinds := [], alts := [], laidByText := true, laidKinds := [.data, .data, .data, .data], laidTests := true, laidLooks := .later }
def FnRideSafeUptoCardSaid : Prop := Claim7.holds Tryz.pinned (.plain (OpenSpec.upto fnRideSafeSpec)) fnRideSafeUptoCard

/-- THE SECOND FORM's CARD OF 'laws.FnUnsafeTraces'. -/
def fnUnsafeTracesUptoCard : Claim7 := { stood := { row := fnUnsafeTracesUptoRow, standIns := [], harness := (true, "8f86da18190f5c7fe8e0c751f738260f9d4550469df40a187be7f598f3c55781"), looks := true }, kinds := [], alts := [], laidByText := true, laidKinds := [.data, .data, .data, .data], laidTests := true, laidLooks := .later }
def FnUnsafeTracesUptoCardSaid : Prop := Claim7.holds Tryz.pinned (.plain (OpenSpec.upto fnUnsafeTracesSpec)) fnUnsafeTracesUptoCard

/-- THE SECOND FORM's CARD OF 'laws.FnRideRules'. -/
def fnRideRulesUptoCard : Claim7 := { stood := { row := fnRideRulesUptoRow, standIns := [], harness := (true, "8f86da18190f5c7fe8e0c751f738260f9d4550469df40a187be7f598f3c55781"), looks := true }, kinds := [], alts := [], laidByText := true, laidKinds := [.data, .data, .data, .data], laidTests := true, laidLooks := .later }
def FnRideRulesUptoCardSaid : Prop := Claim7.holds Tryz.pinned (.plain (OpenSpec.upto fnRideRulesSpec)) fnRideRulesUptoCard

/-- THE SECOND FORM's CARD OF 'laws.FnExactShortestReplay'. -/
def fnExactShortestReplayUptoCard : Claim7 := { stood := { row := fnExactShortestReplayUptoRow, standIns := [], harness := (true, "8f86da18190f5c7fe8e0c751f738260f9d4550469df40a187be7f598f3c55781"), looks := true }, kinds := [], alts := [], laidByText := true, laidKinds := [.data, .data, .data, .data], laidTests := true, laidLooks := .later }
def FnExactShortestReplayUptoCardSaid : Prop := Claim7.holds Tryz.pinned (.plain (OpenSpec.upto fnExactShortestReplaySpec)) fnExactShortestReplayUptoCard

/-- THE SECOND FORM's CARD OF 'laws.FnReplayTexts'. -/
def fnReplayTextsUptoCard : Claim7 := { stood := { row := fnReplayTextsUptoRow, standIns := [], harness := (true, "8f86da18190f5c7fe8e0c751f738260f9d4550469df40a187be7f598f3c55781"), looks := true }, kinds := [], alts := [], laidByText := true, laidKinds := [.data, .data, .data, .data, .sentinel, .sentinel, .widerDeep, .pinned], laidTests := true, laidLooks := .later }
def FnReplayTextsUptoCardSaid : Prop := Claim7.holds Tryz.pinned (.plain (OpenSpec.upto fnReplayTextsSpec)) fnReplayTextsUptoCard
end Rows
end Go.Proofs.YtccnpeggnhbpjaaGreatDoor
