/-
  DERIVED. GIVEN WITH THE SEED: THE CARDS: each row of YtfnamjkmkoldeaaGreatDoorRows.lean that lists a variable, with what it lists TIED to the program's text (the seventh form; the later family's looks); each row that meets fmt, with fmt's text TOLD by the authors' own Lean function (tested against real Go, not proved from fmt's source: count such statements apart). THE CARD IS WHAT COUNTS. Prove the row's statement (the work); the ties are given (YtfnamjkmkoldeaaGreatDoorTie.lean); close each card by the builder's one call (the guide's Derived/Test/ToyasCard.lean, 'card_holds'). Laid BY PROGRAM, IN A SANDBOX (cutbox-door.mjs). By AI agents, Wed Nov 11 2026. No macro, syntax, notation, axiom, sorry.
-/
import Derived.Test.YtfnamjkmkoldeaaGreatDoorRows
import GoSem.ClaimSeven
namespace Go.Proofs.YtfnamjkmkoldeaaGreatDoor
namespace Rows

/-- THE TIED CARD OF 'laws.FnExactCountUnsafe'. -/
def fnExactCountUnsafeCard : Claim7 := { stood := { row := fnExactCountUnsafeRow, standIns := [], harness := (true, "afda73fcd515ac35cac1f4e2e6a5ca806c0011c2e513ef6f8f2e270a14c1b8be"), looks := false }, kinds := [], alts := [], laidByText := true, laidKinds := [.data, .data, .data, .data], laidTests := true, laidLooks := .later }
def FnExactCountUnsafeCardSaid : Prop := Claim7.holds Tryz.pinned (.plain (OpenSpec.ofChange fnExactCountUnsafeSpec)) fnExactCountUnsafeCard

/-- THE TIED CARD OF 'laws.FnExactIsRideSafe'. -/
def fnExactIsRideSafeCard : Claim7 := { stood := { row := fnExactIsRideSafeRow, standIns := [], harness := (true, "afda73fcd515ac35cac1f4e2e6a5ca806c0011c2e513ef6f8f2e270a14c1b8be"), looks := false }, kinds := [], alts := [], laidByText := true, laidKinds := [.data, .data, .data, .data], laidTests := true, laidLooks := .later }
def FnExactIsRideSafeCardSaid : Prop := Claim7.holds Tryz.pinned (.plain (OpenSpec.ofChange fnExactIsRideSafeSpec)) fnExactIsRideSafeCard

/-- THE TIED CARD OF 'laws.FnRideSafe'. -/
def fnRideSafeCard : Claim7 := { stood := { row := fnRideSafeRow, standIns := [], harness := (true, "afda73fcd515ac35cac1f4e2e6a5ca806c0011c2e513ef6f8f2e270a14c1b8be"), looks := false }, kinds := [], alts := [], laidByText := true, laidKinds := [.data, .data, .data, .data], laidTests := true, laidLooks := .later }
def FnRideSafeCardSaid : Prop := Claim7.holds Tryz.pinned (.plain (OpenSpec.ofChange fnRideSafeSpec)) fnRideSafeCard

/-- THE TIED CARD OF 'laws.FnUnsafeTraces'. -/
def fnUnsafeTracesCard : Claim7 := { stood := { row := fnUnsafeTracesRow, standIns := [], harness := (true, "afda73fcd515ac35cac1f4e2e6a5ca806c0011c2e513ef6f8f2e270a14c1b8be"), looks := false }, kinds := [], alts := [], laidByText := true, laidKinds := [.data, .data, .data, .data], laidTests := true, laidLooks := .later }
def FnUnsafeTracesCardSaid : Prop := Claim7.holds Tryz.pinned (.plain (OpenSpec.ofChange fnUnsafeTracesSpec)) fnUnsafeTracesCard

/-- THE TIED CARD OF 'laws.FnRideRules'. -/
def fnRideRulesCard : Claim7 := { stood := { row := fnRideRulesRow, standIns := [], harness := (true, "afda73fcd515ac35cac1f4e2e6a5ca806c0011c2e513ef6f8f2e270a14c1b8be"), looks := false }, kinds := [], alts := [], laidByText := true, laidKinds := [.data, .data, .data, .data], laidTests := true, laidLooks := .later }
def FnRideRulesCardSaid : Prop := Claim7.holds Tryz.pinned (.plain (OpenSpec.ofChange fnRideRulesSpec)) fnRideRulesCard

/-- THE TIED CARD OF 'laws.FnRideModels'. -/
def fnRideModelsCard : Claim7 := { stood := { row := fnRideModelsRow, standIns := [], harness := (true, "afda73fcd515ac35cac1f4e2e6a5ca806c0011c2e513ef6f8f2e270a14c1b8be"), looks := false }, kinds := [], alts := [], laidByText := true, laidKinds := [.data, .data, .data, .data], laidTests := true, laidLooks := .later }
def FnRideModelsCardSaid : Prop := Claim7.holds Tryz.pinned (.plain (OpenSpec.ofChange fnRideModelsSpec)) fnRideModelsCard

/-- THE SECOND FORM's CARD OF 'laws.FnExactCountUnsafe'. -/
def fnExactCountUnsafeUptoCard : Claim7 := { stood := { row := fnExactCountUnsafeUptoRow, standIns := [], harness := (true, "afda73fcd515ac35cac1f4e2e6a5ca806c0011c2e513ef6f8f2e270a14c1b8be"), looks := false }, kinds := [], alts := [], laidByText := true, laidKinds := [.data, .data, .data, .data], laidTests := true, laidLooks := .later }
def FnExactCountUnsafeUptoCardSaid : Prop := Claim7.holds Tryz.pinned (.plain (OpenSpec.upto fnExactCountUnsafeSpec)) fnExactCountUnsafeUptoCard

/-- THE SECOND FORM's CARD OF 'laws.FnExactIsRideSafe'. -/
def fnExactIsRideSafeUptoCard : Claim7 := { stood := { row := fnExactIsRideSafeUptoRow, standIns := [], harness := (true, "afda73fcd515ac35cac1f4e2e6a5ca806c0011c2e513ef6f8f2e270a14c1b8be"), looks := false }, kinds := [], alts := [], laidByText := true, laidKinds := [.data, .data, .data, .data], laidTests := true, laidLooks := .later }
def FnExactIsRideSafeUptoCardSaid : Prop := Claim7.holds Tryz.pinned (.plain (OpenSpec.upto fnExactIsRideSafeSpec)) fnExactIsRideSafeUptoCard

/-- THE SECOND FORM's CARD OF 'laws.FnRideSafe'. -/
def fnRideSafeUptoCard : Claim7 := { stood := { row := fnRideSafeUptoRow, standIns := [], harness := (true, "afda73fcd515ac35cac1f4e2e6a5ca806c0011c2e513ef6f8f2e270a14c1b8be"), looks := false }, kinds := [], alts := [], laidByText := true, laidKinds := [.data, .data, .data, .data], laidTests := true, laidLooks := .later }
def FnRideSafeUptoCardSaid : Prop := Claim7.holds Tryz.pinned (.plain (OpenSpec.upto fnRideSafeSpec)) fnRideSafeUptoCard

/-- THE SECOND FORM's CARD OF 'laws.FnUnsafeTraces'. -/
def fnUnsafeTracesUptoCard : Claim7 := { stood := { row := fnUnsafeTracesUptoRow, standIns := [], harness := (true, "afda73fcd515ac35cac1f4e2e6a5ca806c0011c2e513ef6f8f2e270a14c1b8be"), looks := false }, kinds := [], alts := [], laidByText := true, laidKinds := [.data, .data, .data, .data], laidTests := true, laidLooks := .later }
def FnUnsafeTracesUptoCardSaid : Prop := Claim7.holds Tryz.pinned (.plain (OpenSpec.upto fnUnsafeTracesSpec)) fnUnsafeTracesUptoCard

/-- THE SECOND FORM's CARD OF 'laws.FnRideRules'. -/
def fnRideRulesUptoCard : Claim7 := { stood := { row := fnRideRulesUptoRow, standIns := [], harness := (true, "afda73fcd515ac35cac1f4e2e6a5ca806c0011c2e513ef6f8f2e270a14c1b8be"), looks := false }, kinds := [], alts := [], laidByText := true, laidKinds := [.data, .data, .data, .data], laidTests := true, laidLooks := .later }
def FnRideRulesUptoCardSaid : Prop := Claim7.holds Tryz.pinned (.plain (OpenSpec.upto fnRideRulesSpec)) fnRideRulesUptoCard

/-- THE SECOND FORM's CARD OF 'laws.FnRideModels'. -/
def fnRideModelsUptoCard : Claim7 := { stood := { row := fnRideModelsUptoRow, standIns := [], harness := (true, "afda73fcd515ac35cac1f4e2e6a5ca806c0011c2e513ef6f8f2e270a14c1b8be"), looks := false }, kinds := [], alts := [], laidByText := true, laidKinds := [.data, .data, .data, .data], laidTests := true, laidLooks := .later }
def FnRideModelsUptoCardSaid : Prop := Claim7.holds Tryz.pinned (.plain (OpenSpec.upto fnRideModelsSpec)) fnRideModelsUptoCard
end Rows
end Go.Proofs.YtfnamjkmkoldeaaGreatDoor
