/- The scalar helpers of layer 1, walked once: each returns what its Lean function says and leaves the world alone. -/
import Derived.Test.YtcnjnkjnpfpaeaaBase
namespace Go.Proofs.Ytcnjnkjnpfpaeaa
open Go.RowKit
set_option linter.unusedVariables false
set_option linter.unusedSimpArgs false
theorem spec_l01In {x lo hi : Int} {w : World} : Calls Try.prog 39 #[.int .i64 x, .int .i64 lo, .int .i64 hi] w fun e w' => e = .returned (.bool (inB x lo hi)) ∧ w = w' := by
  go_enter Try.func39, Try.ntmps39
  go_wp2
  all_goals
    go_ret
    exact ⟨ret_bool (by simp [inB]; omega), rfl⟩
theorem impl_within {x lo hi : Int} {w : World} : Calls Try.prog 41 #[.int .i64 x, .int .i64 lo, .int .i64 hi] w fun e w' => e = .returned (.bool (inB x lo hi)) ∧ w = w' := by
  go_enter Try.func41, Try.ntmps41
  go_wp2
  all_goals
    go_ret
    exact ⟨ret_bool (by simp [inB]; omega), rfl⟩
theorem impl_length_i64 {a : Option Addr} {n c : Nat} {w : World} : Calls Try.prog 42 #[.slice a n c] w fun e w' => e = .returned (.int .i64 n) ∧ w = w' := by
  go_enter Try.func42, Try.ntmps42
  go_wp2
  go_ret
  exact ⟨rfl, rfl⟩
end Go.Proofs.Ytcnjnkjnpfpaeaa
