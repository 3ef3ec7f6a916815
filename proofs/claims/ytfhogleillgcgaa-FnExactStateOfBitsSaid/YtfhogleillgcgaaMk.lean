/- Rules of the exact laws: marks that are held. -/
import Derived.Test.YtfhogleillgcgaaMj
import Derived.Test.YtfhogleillgcgaaMf
namespace Go.Proofs.Ytfhogleillgcgaa
open Go.RowKit
set_option linter.unusedVariables false
set_option linter.unusedSimpArgs false
end Go.Proofs.Ytfhogleillgcgaa
