/- Models: tests of the reference, walked. -/
import Derived.Test.YtfhogleillgcgaaDoorL20c
namespace Go.Proofs.YtfhogleillgcgaaDoor
open Go.RowKit
set_option linter.unusedVariables false
set_option linter.unusedSimpArgs false
theorem testsB_any {sz : List Int} {g : List I2b} : testsB sz g = (decide (g.length ≤ 24) && !(g.any fun x => !hasB sz x.a x.b)) := by
  rw [testsB, List.not_any_eq_all_not]; simp
end Go.Proofs.YtfhogleillgcgaaDoor
