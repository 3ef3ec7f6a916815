/-
  DERIVED. GIVEN WITH THE SEED: THE CARDS: each row of YtoaccicfmfiemaaDoorRows.lean that lists a variable, with what it lists TIED to the program's text (the seventh form; the later family's looks); each row that meets fmt, with fmt's text TOLD by the authors' own Lean function (tested against real Go, not proved from fmt's source: count such statements apart). THE CARD IS WHAT COUNTS. Prove the row's statement (the work); the ties are given (YtoaccicfmfiemaaDoorTie.lean); close each card by the builder's one call (the guide's Derived/Test/ToyasCard.lean, 'card_holds'). Laid BY PROGRAM, IN A SANDBOX (cutbox-door.mjs). By AI agents, Wed Nov 11 2026. No macro, syntax, notation, axiom, sorry.
-/
import Derived.Test.YtoaccicfmfiemaaDoorRows
import GoSem.ClaimSeven
namespace Go.Proofs.YtoaccicfmfiemaaDoor
namespace Rows

/-- THE TIED CARD OF 'laws.FnModeNames'. -/
def fnModeNamesCard : Claim7 := { stood := { row := fnModeNamesRow, standIns := [], harness := (true, "9b3674e620cf3cde5dba5822066c67f6c04208d22cf48c5b47258ead9957eab5"), looks := false }, kinds := [], alts := [], laidByText := true, laidKinds := [.widerDeep], laidTests := true, laidLooks := .later }
def FnModeNamesCardSaid : Prop := Claim7.holds Tryd.pinned (.plain (OpenSpec.ofChange fnModeNamesSpec)) fnModeNamesCard

/-- THE TIED CARD OF 'laws.FnExactLeastCommands'. -/
def fnExactLeastCommandsCard : Claim7 := { stood := { row := fnExactLeastCommandsRow, standIns := [], harness := (true, "9b3674e620cf3cde5dba5822066c67f6c04208d22cf48c5b47258ead9957eab5"), looks := false }, kinds := [], alts := [], laidByText := true, laidKinds := [.data], laidTests := true, laidLooks := .later }
def FnExactLeastCommandsCardSaid : Prop := Claim7.holds Tryd.pinned (.plain (OpenSpec.ofChange fnExactLeastCommandsSpec)) fnExactLeastCommandsCard

/-- THE TIED CARD OF 'laws.FnExactRideRule'. -/
def fnExactRideRuleCard : Claim7 := { stood := { row := fnExactRideRuleRow, standIns := [], harness := (true, "9b3674e620cf3cde5dba5822066c67f6c04208d22cf48c5b47258ead9957eab5"), looks := false }, kinds := [], alts := [], laidByText := true, laidKinds := [.data, .data, .data, .data], laidTests := true, laidLooks := .later }
def FnExactRideRuleCardSaid : Prop := Claim7.holds Tryd.pinned (.plain (OpenSpec.ofChange fnExactRideRuleSpec)) fnExactRideRuleCard

/-- THE TIED CARD OF 'laws.FnExactEventsOfTrace'. -/
def fnExactEventsOfTraceCard : Claim7 := { stood := { row := fnExactEventsOfTraceRow, standIns := [], harness := (true, "9b3674e620cf3cde5dba5822066c67f6c04208d22cf48c5b47258ead9957eab5"), looks := false }, kinds := [], alts := [], laidByText := true, laidKinds := [.data, .data, .data, .data], laidTests := true, laidLooks := .later }
def FnExactEventsOfTraceCardSaid : Prop := Claim7.holds Tryd.pinned (.plain (OpenSpec.ofChange fnExactEventsOfTraceSpec)) fnExactEventsOfTraceCard

/-- THE SECOND FORM's CARD OF 'laws.FnModeNames'. -/
def fnModeNamesUptoCard : Claim7 := { stood := { row := fnModeNamesUptoRow, standIns := [], harness := (true, "9b3674e620cf3cde5dba5822066c67f6c04208d22cf48c5b47258ead9957eab5"), looks := false }, kinds := [], alts := [], laidByText := true, laidKinds := [.widerDeep], laidTests := true, laidLooks := .later }
def FnModeNamesUptoCardSaid : Prop := Claim7.holds Tryd.pinned (.plain (OpenSpec.upto fnModeNamesSpec)) fnModeNamesUptoCard

/-- THE SECOND FORM's CARD OF 'laws.FnExactLeastCommands'. -/
def fnExactLeastCommandsUptoCard : Claim7 := { stood := { row := fnExactLeastCommandsUptoRow, standIns := [], harness := (true, "9b3674e620cf3cde5dba5822066c67f6c04208d22cf48c5b47258ead9957eab5"), looks := false }, kinds := [], alts := [], laidByText := true, laidKinds := [.data], laidTests := true, laidLooks := .later }
def FnExactLeastCommandsUptoCardSaid : Prop := Claim7.holds Tryd.pinned (.plain (OpenSpec.upto fnExactLeastCommandsSpec)) fnExactLeastCommandsUptoCard

/-- THE SECOND FORM's CARD OF 'laws.FnExactRideRule'. -/
def fnExactRideRuleUptoCard : Claim7 := { stood := { row := fnExactRideRuleUptoRow, standIns := [], harness := (true, "9b3674e620cf3cde5dba5822066c67f6c04208d22cf48c5b47258ead9957eab5"), looks := false }, kinds := [], alts := [], laidByText := true, laidKinds := [.data, .data, .data, .data], laidTests := true, laidLooks := .later }
def FnExactRideRuleUptoCardSaid : Prop := Claim7.holds Tryd.pinned (.plain (OpenSpec.upto fnExactRideRuleSpec)) fnExactRideRuleUptoCard

/-- THE SECOND FORM's CARD OF 'laws.FnExactEventsOfTrace'. -/
def fnExactEventsOfTraceUptoCard : Claim7 := { stood := { row := fnExactEventsOfTraceUptoRow, standIns := [], harness := (true, "9b3674e620cf3cde5dba5822066c67f6c04208d22cf48c5b47258ead9957eab5"), looks := false }, kinds := [], alts := [], laidByText := true, laidKinds := [.data, .data, .data, .data], laidTests := true, laidLooks := .later }
def FnExactEventsOfTraceUptoCardSaid : Prop := Claim7.holds Tryd.pinned (.plain (OpenSpec.upto fnExactEventsOfTraceSpec)) fnExactEventsOfTraceUptoCard
end Rows
end Go.Proofs.YtoaccicfmfiemaaDoor
