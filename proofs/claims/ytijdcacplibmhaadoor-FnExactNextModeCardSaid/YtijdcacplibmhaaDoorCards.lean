/-
  DERIVED. GIVEN WITH THE SEED: THE CARDS: each row of YtijdcacplibmhaaDoorRows.lean that lists a variable, with what it lists TIED to the program's text (the seventh form; the later family's looks); each row that meets fmt, with fmt's text TOLD by the authors' own Lean function (tested against real Go, not proved from fmt's source: count such statements apart). THE CARD IS WHAT COUNTS. Prove the row's statement (the work); the ties are given (YtijdcacplibmhaaDoorTie.lean); close each card by the builder's one call (the guide's Derived/Test/ToyasCard.lean, 'card_holds'). Laid BY PROGRAM, IN A SANDBOX (cutbox-door.mjs). By AI agents, Wed Nov 11 2026. No macro, syntax, notation, axiom, sorry.
-/
import Derived.Test.YtijdcacplibmhaaDoorRows
import GoSem.ClaimSeven
namespace Go.Proofs.YtijdcacplibmhaaDoor
namespace Rows

/-- THE TIED CARD OF 'laws.FnExactCommandVerdict'. -/
def fnExactCommandVerdictCard : Claim7 := { stood := { row := fnExactCommandVerdictRow, standIns := [], harness := (true, "83f112a1bf0a16290a734a46240d58e41bf46f412af57b0261e4119b97ccd873"), looks := false }, kinds := [], alts := [], laidByText := true, laidKinds := [.data], laidTests := true, laidLooks := .later }
def FnExactCommandVerdictCardSaid : Prop := Claim7.holds Tryd.pinned (.plain (OpenSpec.ofChange fnExactCommandVerdictSpec)) fnExactCommandVerdictCard

/-- THE TIED CARD OF 'laws.FnExactNextMode'. -/
def fnExactNextModeCard : Claim7 := { stood := { row := fnExactNextModeRow, standIns := [], harness := (true, "83f112a1bf0a16290a734a46240d58e41bf46f412af57b0261e4119b97ccd873"), looks := false }, kinds := [], alts := [], laidByText := true, laidKinds := [.data], laidTests := true, laidLooks := .later }
def FnExactNextModeCardSaid : Prop := Claim7.holds Tryd.pinned (.plain (OpenSpec.ofChange fnExactNextModeSpec)) fnExactNextModeCard

/-- THE SECOND FORM's CARD OF 'laws.FnExactCommandVerdict'. -/
def fnExactCommandVerdictUptoCard : Claim7 := { stood := { row := fnExactCommandVerdictUptoRow, standIns := [], harness := (true, "83f112a1bf0a16290a734a46240d58e41bf46f412af57b0261e4119b97ccd873"), looks := false }, kinds := [], alts := [], laidByText := true, laidKinds := [.data], laidTests := true, laidLooks := .later }
def FnExactCommandVerdictUptoCardSaid : Prop := Claim7.holds Tryd.pinned (.plain (OpenSpec.upto fnExactCommandVerdictSpec)) fnExactCommandVerdictUptoCard

/-- THE SECOND FORM's CARD OF 'laws.FnExactNextMode'. -/
def fnExactNextModeUptoCard : Claim7 := { stood := { row := fnExactNextModeUptoRow, standIns := [], harness := (true, "83f112a1bf0a16290a734a46240d58e41bf46f412af57b0261e4119b97ccd873"), looks := false }, kinds := [], alts := [], laidByText := true, laidKinds := [.data], laidTests := true, laidLooks := .later }
def FnExactNextModeUptoCardSaid : Prop := Claim7.holds Tryd.pinned (.plain (OpenSpec.upto fnExactNextModeSpec)) fnExactNextModeUptoCard
end Rows
end Go.Proofs.YtijdcacplibmhaaDoor
