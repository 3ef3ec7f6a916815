/- Models: states and tests, walked. -/
import Derived.Test.YtfhogleillgcgaaDoorL20a
namespace Go.Proofs.YtfhogleillgcgaaDoor
open Go.RowKit
set_option linter.unusedVariables false
set_option linter.unusedSimpArgs false
def stateB (sz vs : List Int) : Bool := decide (vs.length = sz.length) && upB (fun i => hasB sz (i : Int) (vs.getD i 0)) vs.length
def testsB (sz : List Int) (g : List I2b) : Bool := decide (g.length ≤ 24) && g.all fun t => hasB sz t.a t.b
theorem getD_of {l : List Int} {k : Nat} {x : Int} (h : l[k]? = some x) : l.getD k 0 = x := by rw [List.getD_eq_getElem?_getD, h]; rfl
theorem stateB_ne {sz vs : List Int} (h : vs.length ≠ sz.length) : stateB sz vs = false := by rw [stateB, decide_eq_false h]; rfl
theorem stateB_eq {sz vs : List Int} (h : vs.length = sz.length) : stateB sz vs = upB (fun i => hasB sz (i : Int) (vs.getD i 0)) vs.length := by rw [stateB, decide_eq_true h, Bool.true_and]
end Go.Proofs.YtfhogleillgcgaaDoor
