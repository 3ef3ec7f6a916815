/- Height rules and commands of the exact laws, walked. -/
import Derived.Test.YtfhogleillgcgaaDoorL01
import Derived.Test.YtfhogleillgcgaaDoorEx
namespace Go.Proofs.YtfhogleillgcgaaDoor
open Go.RowKit
set_option linter.unusedVariables false
set_option linter.unusedSimpArgs false
def heightB (l a m : Int) : Bool := decide (1 ≤ l) && decide (l ≤ a) && decide (a ≤ m) && decide (m ≤ 3000)
def commandB (k r : Int) : Bool := inB k 0 9 && inB r 0 3
theorem and_eqB {a b : Bool} : (a && b) = (match a with | true => b | false => false) := by cases a <;> rfl
theorem spec_l27Role {r : Int} {w : World} : Calls Tryd.prog 44 #[.int .i64 r] w fun e w' => e = .returned (.bool (inB r 0 3)) ∧ w = w' := by
  go_enter Tryd.func44, Tryd.ntmps44
  go_wp2_with fail
  refine Calls.mono (spec_l01In) ?_
  rintro e _ ⟨rfl, rfl⟩
  go_wp2
  go_ret
  exact ⟨rfl, rfl⟩
theorem impl_isRole {r : Int} {w : World} : Calls Tryd.prog 47 #[.int .i64 r] w fun e w' => e = .returned (.bool (inB r 0 3)) ∧ w = w' := by
  go_enter Tryd.func47, Tryd.ntmps47
  go_wp2_with fail
  refine Calls.mono (impl_within) ?_
  rintro e _ ⟨rfl, rfl⟩
  go_wp2
  go_ret
  exact ⟨rfl, rfl⟩
end Go.Proofs.YtfhogleillgcgaaDoor
