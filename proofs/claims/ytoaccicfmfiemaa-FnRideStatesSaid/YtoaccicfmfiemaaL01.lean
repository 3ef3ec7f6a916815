/- The scalar helpers of layer 1, walked once: each returns what its Lean function says and leaves the world alone. -/
import Derived.Test.YtoaccicfmfiemaaBase
namespace Go.Proofs.Ytoaccicfmfiemaa
open Go.RowKit
set_option linter.unusedVariables false
set_option linter.unusedSimpArgs false
theorem spec_l01In {x lo hi : Int} {w : World} : Calls Try.prog 76 #[.int .i64 x, .int .i64 lo, .int .i64 hi] w fun e w' => e = .returned (.bool (inB x lo hi)) ∧ w = w' := by
  go_enter Try.func76, Try.ntmps76
  go_wp2
  all_goals
    go_ret
    exact ⟨ret_bool (by simp [inB]; omega), rfl⟩
theorem impl_within {x lo hi : Int} {w : World} : Calls Try.prog 85 #[.int .i64 x, .int .i64 lo, .int .i64 hi] w fun e w' => e = .returned (.bool (inB x lo hi)) ∧ w = w' := by
  go_enter Try.func85, Try.ntmps85
  go_wp2
  all_goals
    go_ret
    exact ⟨ret_bool (by simp [inB]; omega), rfl⟩
theorem impl_length_i64 {a : Option Addr} {n c : Nat} {w : World} : Calls Try.prog 82 #[.slice a n c] w fun e w' => e = .returned (.int .i64 n) ∧ w = w' := by
  go_enter Try.func82, Try.ntmps82
  go_wp2
  go_ret
  exact ⟨rfl, rfl⟩
theorem impl_truth {b : Bool} {w : World} : Calls Try.prog 133 #[.bool b] w fun e w' => e = .returned (.int .i64 (if b = true then 1 else 0)) ∧ w = w' := by
  cases b
  all_goals
    go_enter Try.func133, Try.ntmps133
    go_wp2
    go_ret
    exact ⟨rfl, rfl⟩
end Go.Proofs.Ytoaccicfmfiemaa
