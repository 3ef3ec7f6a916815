/- Rules and models of the exact laws: sizes. -/
import Derived.Test.YtfhogleillgcgaaDoorFl
namespace Go.Proofs.YtfhogleillgcgaaDoor
open Go.RowKit
set_option linter.unusedVariables false
set_option linter.unusedSimpArgs false
def szN (m : Int) (x : Nat) : Int := if m < (x : Int) then -1 else m - x
theorem szN_lt {m : Int} {x : Nat} (h : m < (x : Int)) : szN m x = -1 := if_pos h
theorem szN_ge {m : Int} {x : Nat} (h : ¬ m < (x : Int)) : szN m x = m - x := if_neg h
end Go.Proofs.YtfhogleillgcgaaDoor
