/-
  DERIVED. GIVEN WITH THE SEED: THE CARDS: each row of YtipkncjjkkijfaaGreatDoorRows.lean that lists a variable, with what it lists TIED to the program's text (the seventh form; the later family's looks); each row that meets fmt, with fmt's text TOLD by the authors' own Lean function (tested against real Go, not proved from fmt's source: count such statements apart). THE CARD IS WHAT COUNTS. Prove the row's statement (the work); the ties are given (YtipkncjjkkijfaaGreatDoorTie.lean); close each card by the builder's one call (the guide's Derived/Test/ToyasCard.lean, 'card_holds'). Laid BY PROGRAM, IN A SANDBOX (cutbox-door.mjs). By AI agents, Wed Nov 11 2026. No macro, syntax, notation, axiom, sorry.
-/
import Derived.Test.YtipkncjjkkijfaaGreatDoorRows
import GoSem.ClaimSeven
namespace Go.Proofs.YtipkncjjkkijfaaGreatDoor
namespace Rows

/-- THE TIED CARD OF 'laws.FnReplayTexts'. -/
def fnReplayTextsCard : Claim7 := { stood := { row := fnReplayTextsRow, standIns := [], harness := (true, "4d04156f66763ab4c49f72f66dc923cf3212f7f49c1993f831ce5496aafb3dff"), looks := true }, kinds := [], alts := [], laidByText := true, laidKinds := [.data, .data, .data, .data, .sentinel, .sentinel, .widerDeep, .pinned], laidTests := true, laidLooks := .later }
def FnReplayTextsCardSaid : Prop := Claim7.holds Tryz.pinned (.plain (OpenSpec.ofChange fnReplayTextsSpec)) fnReplayTextsCard

/-- THE SECOND FORM's CARD OF 'laws.FnReplayTexts'. -/
def fnReplayTextsUptoCard : Claim7 := { stood := { row := fnReplayTextsUptoRow, standIns := [], harness := (true, "4d04156f66763ab4c49f72f66dc923cf3212f7f49c1993f831ce5496aafb3dff"), looks := true }, kinds := [], alts := [], laidByText := true, laidKinds := [.data, .data, .data, .data, .sentinel, .sentinel, .widerDeep, .pinned], laidTests := true, laidLooks := .later }
def FnReplayTextsUptoCardSaid : Prop := Claim7.holds Tryz.pinned (.plain (OpenSpec.upto fnReplayTextsSpec)) fnReplayTextsUptoCard
end Rows
end Go.Proofs.YtipkncjjkkijfaaGreatDoor
