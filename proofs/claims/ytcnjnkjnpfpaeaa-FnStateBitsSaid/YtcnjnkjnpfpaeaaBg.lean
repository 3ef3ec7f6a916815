/- Whether a code is too long, walked. -/
import Derived.Test.YtcnjnkjnpfpaeaaBase
namespace Go.Proofs.Ytcnjnkjnpfpaeaa
open Go.RowKit
set_option linter.unusedVariables false
set_option linter.unusedSimpArgs false
theorem laws_big_no {a : Option Addr} {n c : Nat} {w : World} (hn : n ≤ 4096) : Calls Try.prog 4 #[.slice a n c] w fun e w' => e = .returned (.bool false) ∧ w = w' := by
  have h : ¬ (4096 : Int) < (n : Int) := by omega
  go_enter Try.func4, Try.ntmps4
  go_wp2
  go_ret
  exact ⟨ret_bool (by first | rfl | (simp; done) | (simp; omega)), rfl⟩
theorem laws_big_yes {a : Option Addr} {n c : Nat} {w : World} (hn : ¬ n ≤ 4096) : Calls Try.prog 4 #[.slice a n c] w fun e w' => e = .returned (.bool true) ∧ w = w' := by
  have h : (4096 : Int) < (n : Int) := by omega
  go_enter Try.func4, Try.ntmps4
  go_wp2
  go_ret
  exact ⟨ret_bool (by first | rfl | (simp; done) | (simp; omega)), rfl⟩
end Go.Proofs.Ytcnjnkjnpfpaeaa
