/- Rules of models, walked: the program. -/
import Derived.Test.YtfhogleillgcgaaDoorL20d
import Derived.Test.YtfhogleillgcgaaDoorL20e
namespace Go.Proofs.YtfhogleillgcgaaDoor
open Go.RowKit
set_option linter.unusedVariables false
set_option linter.unusedSimpArgs false
def effAt (sz : List Int) (e : List I2) (i : Nat) : Bool := hasB sz (e.getD i ⟨0, 0⟩).a (e.getD i ⟨0, 0⟩).b && (decide (i = 0) || decide ((e.getD (i - 1) ⟨0, 0⟩).a < (e.getD i ⟨0, 0⟩).a))
def effB (sz : List Int) (e : List I2) : Bool := upB (effAt sz e) e.length
def ruleB (sz : List Int) (r : RuD) : Bool := effB sz r.e && (nameB r.nm && (testsB sz r.g && decide (r.e.length ≤ 4)))
theorem getD2_of {l : List I2} {k : Nat} {x : I2} (h : l[k]? = some x) : l.getD k ⟨0, 0⟩ = x := by rw [List.getD_eq_getElem?_getD, h]; rfl
theorem effAt_no {sz : List Int} {e : List I2} {k : Nat} {x : I2} (hx : e[k]? = some x) (h : hasB sz x.a x.b = false) : effAt sz e k = false := by rw [effAt, getD2_of hx, h]; rfl
theorem effAt_zero {sz : List Int} {e : List I2} {k : Nat} {x : I2} (hx : e[k]? = some x) (h : hasB sz x.a x.b = true) (hk : k = 0) : effAt sz e k = true := by rw [effAt, getD2_of hx, h, decide_eq_true hk]; rfl
theorem effAt_succ {sz : List Int} {e : List I2} {k q : Nat} {x y : I2} (hx : e[k]? = some x) (h : hasB sz x.a x.b = true) (hk : q + 1 = k) (hy : e[q]? = some y) : effAt sz e k = decide (y.a < x.a) := by
  rw [effAt, getD2_of hx, h, decide_eq_false (by omega), show k - 1 = q by omega, getD2_of hy]; rfl
end Go.Proofs.YtfhogleillgcgaaDoor
