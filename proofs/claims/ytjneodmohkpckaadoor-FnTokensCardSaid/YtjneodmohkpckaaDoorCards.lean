/-
  DERIVED. GIVEN WITH THE SEED: THE CARDS: each row of YtjneodmohkpckaaDoorRows.lean that lists a variable, with what it lists TIED to the program's text (the seventh form; the later family's looks); each row that meets fmt, with fmt's text TOLD by the authors' own Lean function (tested against real Go, not proved from fmt's source: count such statements apart). THE CARD IS WHAT COUNTS. Prove the row's statement (the work); the ties are given (YtjneodmohkpckaaDoorTie.lean); close each card by the builder's one call (the guide's Derived/Test/ToyasCard.lean, 'card_holds'). Laid BY PROGRAM, IN A SANDBOX (cutbox-door.mjs). By AI agents, Wed Nov 11 2026. No macro, syntax, notation, axiom, sorry.
-/
import Derived.Test.YtjneodmohkpckaaDoorRows
import GoSem.ClaimSeven
namespace Go.Proofs.YtjneodmohkpckaaDoor
namespace Rows

/-- THE TIED CARD OF 'laws.FnTokens'. -/
def fnTokensCard : Claim7 := { stood := { row := fnTokensRow, standIns := [], harness := (true, "b6cee026518b5e101e5e647e4ed72574b4a6956a922c5d92e17fc1bd4d12bcbf"), looks := true }, kinds := [], alts := [], laidByText := true, laidKinds := [.data, .data, .data, .sentinel, .sentinel, .widerDeep], laidTests := true, laidLooks := .later }
def FnTokensCardSaid : Prop := Claim7.holds Tryd.pinned (.plain (OpenSpec.ofChange fnTokensSpec)) fnTokensCard

/-- THE TIED CARD OF 'laws.FnExactParseExpression'. -/
def fnExactParseExpressionCard : Claim7 := { stood := { row := fnExactParseExpressionRow, standIns := [], harness := (true, "b6cee026518b5e101e5e647e4ed72574b4a6956a922c5d92e17fc1bd4d12bcbf"), looks := true }, kinds := [], alts := [], laidByText := true, laidKinds := [.data, .data, .data, .sentinel, .sentinel, .widerDeep], laidTests := true, laidLooks := .later }
def FnExactParseExpressionCardSaid : Prop := Claim7.holds Tryd.pinned (.plain (OpenSpec.ofChange fnExactParseExpressionSpec)) fnExactParseExpressionCard

/-- THE SECOND FORM's CARD OF 'laws.FnTokens'. -/
def fnTokensUptoCard : Claim7 := { stood := { row := fnTokensUptoRow, standIns := [], harness := (true, "b6cee026518b5e101e5e647e4ed72574b4a6956a922c5d92e17fc1bd4d12bcbf"), looks := true }, kinds := [], alts := [], laidByText := true, laidKinds := [.data, .data, .data, .sentinel, .sentinel, .widerDeep], laidTests := true, laidLooks := .later }
def FnTokensUptoCardSaid : Prop := Claim7.holds Tryd.pinned (.plain (OpenSpec.upto fnTokensSpec)) fnTokensUptoCard

/-- THE SECOND FORM's CARD OF 'laws.FnExactParseExpression'. -/
def fnExactParseExpressionUptoCard : Claim7 := { stood := { row := fnExactParseExpressionUptoRow, standIns := [], harness := (true, "b6cee026518b5e101e5e647e4ed72574b4a6956a922c5d92e17fc1bd4d12bcbf"), looks := true }, kinds := [], alts := [], laidByText := true, laidKinds := [.data, .data, .data, .sentinel, .sentinel, .widerDeep], laidTests := true, laidLooks := .later }
def FnExactParseExpressionUptoCardSaid : Prop := Claim7.holds Tryd.pinned (.plain (OpenSpec.upto fnExactParseExpressionSpec)) fnExactParseExpressionUptoCard
end Rows
end Go.Proofs.YtjneodmohkpckaaDoor
