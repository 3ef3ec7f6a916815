/- Traffics of layer 10, walked. -/
import Derived.Test.YtcnjnkjnpfpaeaaSl
import Derived.Test.YtcnjnkjnpfpaeaaEx
namespace Go.Proofs.Ytcnjnkjnpfpaeaa
open Go.RowKit
set_option linter.unusedVariables false
set_option linter.unusedSimpArgs false
/-- a valid traffic -/
def trafB (b : Int) (l : List Int) : Bool := inB b 2 8 && inB l.length 1 4 && allIn 0 (3 * b - 1) l
theorem trafB_split {b : Int} {l : List Int} (h : trafB b l = true) : 2 ≤ b ∧ b ≤ 8 ∧ 1 ≤ l.length ∧ l.length ≤ 4 ∧ ∀ x ∈ l, 0 ≤ x ∧ x ≤ 3 * b - 1 := by
  simp only [trafB, inB, allIn, Bool.and_eq_true, decide_eq_true_eq, List.all_eq_true] at h
  obtain ⟨⟨⟨h1, h2⟩, h3, h4⟩, h5⟩ := h
  exact ⟨h1, h2, by omega, by omega, h5⟩
theorem any_not_allIn (lo hi : Int) (l : List Int) : (l.any fun p => !inB p lo hi) = !allIn lo hi l := by
  rw [allIn, List.not_all_eq_any_not]
end Go.Proofs.Ytcnjnkjnpfpaeaa
