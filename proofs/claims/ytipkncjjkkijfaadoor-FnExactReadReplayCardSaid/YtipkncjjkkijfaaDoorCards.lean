/-
  DERIVED. GIVEN WITH THE SEED: THE CARDS: each row of YtipkncjjkkijfaaDoorRows.lean that lists a variable, with what it lists TIED to the program's text (the seventh form; the later family's looks); each row that meets fmt, with fmt's text TOLD by the authors' own Lean function (tested against real Go, not proved from fmt's source: count such statements apart). THE CARD IS WHAT COUNTS. Prove the row's statement (the work); the ties are given (YtipkncjjkkijfaaDoorTie.lean); close each card by the builder's one call (the guide's Derived/Test/ToyasCard.lean, 'card_holds'). Laid BY PROGRAM, IN A SANDBOX (cutbox-door.mjs). By AI agents, Wed Nov 11 2026. No macro, syntax, notation, axiom, sorry.
-/
import Derived.Test.YtipkncjjkkijfaaDoorRows
import GoSem.ClaimSeven
namespace Go.Proofs.YtipkncjjkkijfaaDoor
namespace Rows

/-- THE TIED CARD OF 'laws.FnExactReadReplay'. -/
def fnExactReadReplayCard : Claim7 := { stood := { row := fnExactReadReplayRow, standIns := [], harness := (true, "864f0cc607fa0927cbffe6833583323e25852778028adbce81b7aedcc8f2df01"), looks := true }, kinds := [], alts := [], laidByText := true, laidKinds := [.data, .data, .data, .data, .sentinel, .sentinel, .widerDeep, .pinned], laidTests := true, laidLooks := .later }
def FnExactReadReplayCardSaid : Prop := Claim7.holds Tryd.pinned (.plain (OpenSpec.ofChange fnExactReadReplaySpec)) fnExactReadReplayCard

/-- THE SECOND FORM's CARD OF 'laws.FnExactReadReplay'. -/
def fnExactReadReplayUptoCard : Claim7 := { stood := { row := fnExactReadReplayUptoRow, standIns := [], harness := (true, "864f0cc607fa0927cbffe6833583323e25852778028adbce81b7aedcc8f2df01"), looks := true }, kinds := [], alts := [], laidByText := true, laidKinds := [.data, .data, .data, .data, .sentinel, .sentinel, .widerDeep, .pinned], laidTests := true, laidLooks := .later }
def FnExactReadReplayUptoCardSaid : Prop := Claim7.holds Tryd.pinned (.plain (OpenSpec.upto fnExactReadReplaySpec)) fnExactReadReplayUptoCard
end Rows
end Go.Proofs.YtipkncjjkkijfaaDoor
