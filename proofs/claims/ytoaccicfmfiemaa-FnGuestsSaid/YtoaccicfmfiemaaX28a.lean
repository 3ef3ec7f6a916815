/- Height rules and commands of the exact laws, walked. -/
import Derived.Test.YtoaccicfmfiemaaL01
import Derived.Test.YtoaccicfmfiemaaEx
namespace Go.Proofs.Ytoaccicfmfiemaa
open Go.RowKit
set_option linter.unusedVariables false
set_option linter.unusedSimpArgs false
def heightB (l a m : Int) : Bool := decide (1 ≤ l) && decide (l ≤ a) && decide (a ≤ m) && decide (m ≤ 3000)
theorem impl_IsHeightRule {l a m : Int} {w : World} : Calls Try.prog 15 #[.agg #[.int .i64 l, .int .i64 a, .int .i64 m]] w fun e w' => e = .returned (.bool (heightB l a m)) ∧ Below w.heap.size w w' := by
  go_enter Try.func15, Try.ntmps15
  go_wp2
  all_goals
    go_ret
    exact ⟨ret_bool (by simp [heightB]; omega), (Below.refl _ _).alloc (Nat.le_refl _) _⟩
theorem spec_IsHeightRule {l a m : Int} {w : World} : Calls Try.prog 16 #[.agg #[.int .i64 l, .int .i64 a, .int .i64 m]] w fun e w' => e = .returned (.bool (heightB l a m)) ∧ Below w.heap.size w w' := by
  go_enter Try.func16, Try.ntmps16
  go_wp2
  all_goals
    go_ret
    exact ⟨ret_bool (by simp [heightB]; omega), (Below.refl _ _).alloc (Nat.le_refl _) _⟩
def commandB (k r : Int) : Bool := inB k 0 9 && inB r 0 3
theorem and_eqB {a b : Bool} : (a && b) = (match a with | true => b | false => false) := by cases a <;> rfl
end Go.Proofs.Ytoaccicfmfiemaa
