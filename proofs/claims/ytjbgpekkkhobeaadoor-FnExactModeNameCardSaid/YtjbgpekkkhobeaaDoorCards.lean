/-
  DERIVED. GIVEN WITH THE SEED: THE CARDS: each row of YtjbgpekkkhobeaaDoorRows.lean that lists a variable, with what it lists TIED to the program's text (the seventh form; the later family's looks); each row that meets fmt, with fmt's text TOLD by the authors' own Lean function (tested against real Go, not proved from fmt's source: count such statements apart). THE CARD IS WHAT COUNTS. Prove the row's statement (the work); the ties are given (YtjbgpekkkhobeaaDoorTie.lean); close each card by the builder's one call (the guide's Derived/Test/ToyasCard.lean, 'card_holds'). Laid BY PROGRAM, IN A SANDBOX (cutbox-door.mjs). By AI agents, Wed Nov 11 2026. No macro, syntax, notation, axiom, sorry.
-/
import Derived.Test.YtjbgpekkkhobeaaDoorRows
import GoSem.ClaimSeven
namespace Go.Proofs.YtjbgpekkkhobeaaDoor
namespace Rows

/-- THE TIED CARD OF 'laws.FnExactModeName'. -/
def fnExactModeNameCard : Claim7 := { stood := { row := fnExactModeNameRow, standIns := [], harness := (true, "402cee12ae95cdd43f2d4bbe94cf4400865f77777a78236f53da78d148a069b1"), looks := false }, kinds := [], alts := [], laidByText := true, laidKinds := [.widerDeep], laidTests := true, laidLooks := .later }
def FnExactModeNameCardSaid : Prop := Claim7.holds Tryd.pinned (.plain (OpenSpec.ofChange fnExactModeNameSpec)) fnExactModeNameCard

/-- THE TIED CARD OF 'laws.FnExactModeNamed'. -/
def fnExactModeNamedCard : Claim7 := { stood := { row := fnExactModeNamedRow, standIns := [], harness := (true, "402cee12ae95cdd43f2d4bbe94cf4400865f77777a78236f53da78d148a069b1"), looks := false }, kinds := [], alts := [], laidByText := true, laidKinds := [.widerDeep], laidTests := true, laidLooks := .later }
def FnExactModeNamedCardSaid : Prop := Claim7.holds Tryd.pinned (.plain (OpenSpec.ofChange fnExactModeNamedSpec)) fnExactModeNamedCard

/-- THE SECOND FORM's CARD OF 'laws.FnExactModeName'. -/
def fnExactModeNameUptoCard : Claim7 := { stood := { row := fnExactModeNameUptoRow, standIns := [], harness := (true, "402cee12ae95cdd43f2d4bbe94cf4400865f77777a78236f53da78d148a069b1"), looks := false }, kinds := [], alts := [], laidByText := true, laidKinds := [.widerDeep], laidTests := true, laidLooks := .later }
def FnExactModeNameUptoCardSaid : Prop := Claim7.holds Tryd.pinned (.plain (OpenSpec.upto fnExactModeNameSpec)) fnExactModeNameUptoCard

/-- THE SECOND FORM's CARD OF 'laws.FnExactModeNamed'. -/
def fnExactModeNamedUptoCard : Claim7 := { stood := { row := fnExactModeNamedUptoRow, standIns := [], harness := (true, "402cee12ae95cdd43f2d4bbe94cf4400865f77777a78236f53da78d148a069b1"), looks := false }, kinds := [], alts := [], laidByText := true, laidKinds := [.widerDeep], laidTests := true, laidLooks := .later }
def FnExactModeNamedUptoCardSaid : Prop := Claim7.holds Tryd.pinned (.plain (OpenSpec.upto fnExactModeNamedSpec)) fnExactModeNamedUptoCard
end Rows
end Go.Proofs.YtjbgpekkkhobeaaDoor
