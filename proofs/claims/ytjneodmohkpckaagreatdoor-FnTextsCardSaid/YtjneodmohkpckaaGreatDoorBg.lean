/- Whether a code is too long, walked. -/
import Derived.Test.YtjneodmohkpckaaGreatDoorBase
namespace Go.Proofs.YtjneodmohkpckaaGreatDoor
open Go.RowKit
set_option linter.unusedVariables false
set_option linter.unusedSimpArgs false
theorem laws_big_no {a : Option Addr} {n c : Nat} {w : World} (hn : n ≤ 4096) : Calls Tryz.prog 7 #[.slice a n c] w fun e w' => e = .returned (.bool false) ∧ w = w' := by
  have h : ¬ (4096 : Int) < (n : Int) := by omega
  go_enter Tryz.func7, Tryz.ntmps7
  go_wp2
  go_ret
  exact ⟨ret_bool (by first | rfl | (simp; done) | (simp; omega)), rfl⟩
theorem laws_big_yes {a : Option Addr} {n c : Nat} {w : World} (hn : ¬ n ≤ 4096) : Calls Tryz.prog 7 #[.slice a n c] w fun e w' => e = .returned (.bool true) ∧ w = w' := by
  have h : (4096 : Int) < (n : Int) := by omega
  go_enter Tryz.func7, Tryz.ntmps7
  go_wp2
  go_ret
  exact ⟨ret_bool (by first | rfl | (simp; done) | (simp; omega)), rfl⟩
end Go.Proofs.YtjneodmohkpckaaGreatDoor
