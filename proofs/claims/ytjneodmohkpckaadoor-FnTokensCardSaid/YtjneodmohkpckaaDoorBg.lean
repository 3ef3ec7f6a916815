/- Whether a code is too long, walked. -/
import Derived.Test.YtjneodmohkpckaaDoorBase
namespace Go.Proofs.YtjneodmohkpckaaDoor
open Go.RowKit
set_option linter.unusedVariables false
set_option linter.unusedSimpArgs false
theorem laws_big_no {a : Option Addr} {n c : Nat} {w : World} (hn : n ≤ 4096) : Calls Tryd.prog 5 #[.slice a n c] w fun e w' => e = .returned (.bool false) ∧ w = w' := by
  have h : ¬ (4096 : Int) < (n : Int) := by omega
  go_enter Tryd.func5, Tryd.ntmps5
  go_wp2
  go_ret
  exact ⟨ret_bool (by first | rfl | (simp; done) | (simp; omega)), rfl⟩
theorem laws_big_yes {a : Option Addr} {n c : Nat} {w : World} (hn : ¬ n ≤ 4096) : Calls Tryd.prog 5 #[.slice a n c] w fun e w' => e = .returned (.bool true) ∧ w = w' := by
  have h : (4096 : Int) < (n : Int) := by omega
  go_enter Tryd.func5, Tryd.ntmps5
  go_wp2
  go_ret
  exact ⟨ret_bool (by first | rfl | (simp; done) | (simp; omega)), rfl⟩
end Go.Proofs.YtjneodmohkpckaaDoor
