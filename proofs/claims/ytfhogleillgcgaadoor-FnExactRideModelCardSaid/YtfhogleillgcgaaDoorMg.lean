/- Rules and models of the exact laws: copies. -/
import Derived.Test.YtfhogleillgcgaaDoorMf
namespace Go.Proofs.YtfhogleillgcgaaDoor
open Go.RowKit
set_option linter.unusedVariables false
set_option linter.unusedSimpArgs false
end Go.Proofs.YtfhogleillgcgaaDoor
