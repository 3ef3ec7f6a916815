/- Models: tests, walked. -/
import Derived.Test.YtfhogleillgcgaaDoorL20b
namespace Go.Proofs.YtfhogleillgcgaaDoor
open Go.RowKit
set_option linter.unusedVariables false
set_option linter.unusedSimpArgs false
end Go.Proofs.YtfhogleillgcgaaDoor
