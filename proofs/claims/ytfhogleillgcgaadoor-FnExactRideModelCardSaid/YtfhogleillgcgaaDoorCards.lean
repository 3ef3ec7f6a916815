/-
  DERIVED. GIVEN WITH THE SEED: THE CARDS: each row of YtfhogleillgcgaaDoorRows.lean that lists a variable, with what it lists TIED to the program's text (the seventh form; the later family's looks); each row that meets fmt, with fmt's text TOLD by the authors' own Lean function (tested against real Go, not proved from fmt's source: count such statements apart). THE CARD IS WHAT COUNTS. Prove the row's statement (the work); the ties are given (YtfhogleillgcgaaDoorTie.lean); close each card by the builder's one call (the guide's Derived/Test/ToyasCard.lean, 'card_holds'). Laid BY PROGRAM, IN A SANDBOX (cutbox-door.mjs). By AI agents, Wed Nov 11 2026. No macro, syntax, notation, axiom, sorry.
-/
import Derived.Test.YtfhogleillgcgaaDoorRows
import GoSem.ClaimSeven
namespace Go.Proofs.YtfhogleillgcgaaDoor
namespace Rows

/-- THE TIED CARD OF 'laws.FnExactLeastCommands'. -/
def fnExactLeastCommandsCard : Claim7 := { stood := { row := fnExactLeastCommandsRow, standIns := [], harness := (true, "0368c1e29f06f64d60a6734e8b879c6c3a070b5420ddfdd23ad86d20684b960f"), looks := true }, kinds := [], alts := [], laidByText := true, laidKinds := [.data], laidTests := true, laidLooks := .later }
def FnExactLeastCommandsCardSaid : Prop := Claim7.holds Tryd.pinned (.plain (OpenSpec.ofChange fnExactLeastCommandsSpec)) fnExactLeastCommandsCard

/-- THE TIED CARD OF 'laws.FnExactRideRule'. -/
def fnExactRideRuleCard : Claim7 := { stood := { row := fnExactRideRuleRow, standIns := [], harness := (true, "0368c1e29f06f64d60a6734e8b879c6c3a070b5420ddfdd23ad86d20684b960f"), looks := true }, kinds := [], alts := [], laidByText := true, laidKinds := [.data, .data, .data, .data], laidTests := true, laidLooks := .later }
def FnExactRideRuleCardSaid : Prop := Claim7.holds Tryd.pinned (.plain (OpenSpec.ofChange fnExactRideRuleSpec)) fnExactRideRuleCard

/-- THE TIED CARD OF 'laws.FnExactReplayText'. -/
def fnExactReplayTextCard : Claim7 := { stood := { row := fnExactReplayTextRow, standIns := [], harness := (true, "0368c1e29f06f64d60a6734e8b879c6c3a070b5420ddfdd23ad86d20684b960f"), looks := true }, kinds := [], alts := [], laidByText := true, laidKinds := [.data, .data, .data, .widerDeep], laidTests := true, laidLooks := .later }
def FnExactReplayTextCardSaid : Prop := Claim7.holds Tryd.pinned (.plain (OpenSpec.ofChange fnExactReplayTextSpec)) fnExactReplayTextCard

/-- THE TIED CARD OF 'laws.FnExactEventsOfTrace'. -/
def fnExactEventsOfTraceCard : Claim7 := { stood := { row := fnExactEventsOfTraceRow, standIns := [], harness := (true, "0368c1e29f06f64d60a6734e8b879c6c3a070b5420ddfdd23ad86d20684b960f"), looks := true }, kinds := [], alts := [], laidByText := true, laidKinds := [.data, .data, .data, .data], laidTests := true, laidLooks := .later }
def FnExactEventsOfTraceCardSaid : Prop := Claim7.holds Tryd.pinned (.plain (OpenSpec.ofChange fnExactEventsOfTraceSpec)) fnExactEventsOfTraceCard

/-- THE TIED CARD OF 'laws.FnExactFirstBadByte'. -/
def fnExactFirstBadByteCard : Claim7 := { stood := { row := fnExactFirstBadByteRow, standIns := [], harness := (true, "0368c1e29f06f64d60a6734e8b879c6c3a070b5420ddfdd23ad86d20684b960f"), looks := true }, kinds := [], alts := [], laidByText := true, laidKinds := [.data, .data, .data, .sentinel, .sentinel], laidTests := true, laidLooks := .later }
def FnExactFirstBadByteCardSaid : Prop := Claim7.holds Tryd.pinned (.plain (OpenSpec.ofChange fnExactFirstBadByteSpec)) fnExactFirstBadByteCard

/-- THE TIED CARD OF 'laws.FnExactReadTokens'. -/
def fnExactReadTokensCard : Claim7 := { stood := { row := fnExactReadTokensRow, standIns := [], harness := (true, "0368c1e29f06f64d60a6734e8b879c6c3a070b5420ddfdd23ad86d20684b960f"), looks := true }, kinds := [], alts := [], laidByText := true, laidKinds := [.data, .data, .data, .sentinel, .sentinel], laidTests := true, laidLooks := .later }
def FnExactReadTokensCardSaid : Prop := Claim7.holds Tryd.pinned (.plain (OpenSpec.ofChange fnExactReadTokensSpec)) fnExactReadTokensCard

/-- THE TIED CARD OF 'laws.FnExactRideModel'. -/
def fnExactRideModelCard : Claim7 := { stood := { row := fnExactRideModelRow, standIns := [], harness := (true, "0368c1e29f06f64d60a6734e8b879c6c3a070b5420ddfdd23ad86d20684b960f"), looks := true }, kinds := [], alts := [], laidByText := true, laidKinds := [.data, .data, .data, .data], laidTests := true, laidLooks := .later }
def FnExactRideModelCardSaid : Prop := Claim7.holds Tryd.pinned (.plain (OpenSpec.ofChange fnExactRideModelSpec)) fnExactRideModelCard

/-- THE SECOND FORM's CARD OF 'laws.FnExactLeastCommands'. -/
def fnExactLeastCommandsUptoCard : Claim7 := { stood := { row := fnExactLeastCommandsUptoRow, standIns := [], harness := (true, "0368c1e29f06f64d60a6734e8b879c6c3a070b5420ddfdd23ad86d20684b960f"), looks := true }, kinds := [], alts := [], laidByText := true, laidKinds := [.data], laidTests := true, laidLooks := .later }
def FnExactLeastCommandsUptoCardSaid : Prop := Claim7.holds Tryd.pinned (.plain (OpenSpec.upto fnExactLeastCommandsSpec)) fnExactLeastCommandsUptoCard

/-- THE SECOND FORM's CARD OF 'laws.FnExactRideRule'. -/
def fnExactRideRuleUptoCard : Claim7 := { stood := { row := fnExactRideRuleUptoRow, standIns := [], harness := (true, "0368c1e29f06f64d60a6734e8b879c6c3a070b5420ddfdd23ad86d20684b960f"), looks := true }, kinds := [], alts := [], laidByText := true, laidKinds := [.data, .data, .data, .data], laidTests := true, laidLooks := .later }
def FnExactRideRuleUptoCardSaid : Prop := Claim7.holds Tryd.pinned (.plain (OpenSpec.upto fnExactRideRuleSpec)) fnExactRideRuleUptoCard

/-- THE SECOND FORM's CARD OF 'laws.FnExactReplayText'. -/
def fnExactReplayTextUptoCard : Claim7 := { stood := { row := fnExactReplayTextUptoRow, standIns := [], harness := (true, "0368c1e29f06f64d60a6734e8b879c6c3a070b5420ddfdd23ad86d20684b960f"), looks := true }, kinds := [], alts := [], laidByText := true, laidKinds := [.data, .data, .data, .widerDeep], laidTests := true, laidLooks := .later }
def FnExactReplayTextUptoCardSaid : Prop := Claim7.holds Tryd.pinned (.plain (OpenSpec.upto fnExactReplayTextSpec)) fnExactReplayTextUptoCard

/-- THE SECOND FORM's CARD OF 'laws.FnExactEventsOfTrace'. -/
def fnExactEventsOfTraceUptoCard : Claim7 := { stood := { row := fnExactEventsOfTraceUptoRow, standIns := [], harness := (true, "0368c1e29f06f64d60a6734e8b879c6c3a070b5420ddfdd23ad86d20684b960f"), looks := true }, kinds := [], alts := [], laidByText := true, laidKinds := [.data, .data, .data, .data], laidTests := true, laidLooks := .later }
def FnExactEventsOfTraceUptoCardSaid : Prop := Claim7.holds Tryd.pinned (.plain (OpenSpec.upto fnExactEventsOfTraceSpec)) fnExactEventsOfTraceUptoCard

/-- THE SECOND FORM's CARD OF 'laws.FnExactFirstBadByte'. -/
def fnExactFirstBadByteUptoCard : Claim7 := { stood := { row := fnExactFirstBadByteUptoRow, standIns := [], harness := (true, "0368c1e29f06f64d60a6734e8b879c6c3a070b5420ddfdd23ad86d20684b960f"), looks := true }, kinds := [], alts := [], laidByText := true, laidKinds := [.data, .data, .data, .sentinel, .sentinel], laidTests := true, laidLooks := .later }
def FnExactFirstBadByteUptoCardSaid : Prop := Claim7.holds Tryd.pinned (.plain (OpenSpec.upto fnExactFirstBadByteSpec)) fnExactFirstBadByteUptoCard

/-- THE SECOND FORM's CARD OF 'laws.FnExactReadTokens'. -/
def fnExactReadTokensUptoCard : Claim7 := { stood := { row := fnExactReadTokensUptoRow, standIns := [], harness := (true, "0368c1e29f06f64d60a6734e8b879c6c3a070b5420ddfdd23ad86d20684b960f"), looks := true }, kinds := [], alts := [], laidByText := true, laidKinds := [.data, .data, .data, .sentinel, .sentinel], laidTests := true, laidLooks := .later }
def FnExactReadTokensUptoCardSaid : Prop := Claim7.holds Tryd.pinned (.plain (OpenSpec.upto fnExactReadTokensSpec)) fnExactReadTokensUptoCard

/-- THE SECOND FORM's CARD OF 'laws.FnExactRideModel'. -/
def fnExactRideModelUptoCard : Claim7 := { stood := { row := fnExactRideModelUptoRow, standIns := [], harness := (true, "0368c1e29f06f64d60a6734e8b879c6c3a070b5420ddfdd23ad86d20684b960f"), looks := true }, kinds := [], alts := [], laidByText := true, laidKinds := [.data, .data, .data, .data], laidTests := true, laidLooks := .later }
def FnExactRideModelUptoCardSaid : Prop := Claim7.holds Tryd.pinned (.plain (OpenSpec.upto fnExactRideModelSpec)) fnExactRideModelUptoCard
end Rows
end Go.Proofs.YtfhogleillgcgaaDoor
