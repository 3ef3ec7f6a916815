/- Rules of models, walked: the reference. -/
import Derived.Test.YtfhogleillgcgaaDoorL20f
namespace Go.Proofs.YtfhogleillgcgaaDoor
open Go.RowKit
set_option linter.unusedVariables false
set_option linter.unusedSimpArgs false
end Go.Proofs.YtfhogleillgcgaaDoor
