/- A number of one digit in decimal, walked: some text of one byte. -/
import Derived.Test.YtipkncjjkkijfaaGreatDoorL24k
namespace Go.Proofs.YtipkncjjkkijfaaGreatDoor
open Go.RowKit
set_option linter.unusedVariables false
set_option linter.unusedSimpArgs false
def digStr (n : Nat) : ByteArray := ⟨#[UInt8.ofNat (48 + n)]⟩
theorem lt10 {n : Nat} (h : n < 10) : n = 0 ∨ n = 1 ∨ n = 2 ∨ n = 3 ∨ n = 4 ∨ n = 5 ∨ n = 6 ∨ n = 7 ∨ n = 8 ∨ n = 9 := by omega
set_option maxRecDepth 100000 in
set_option maxHeartbeats 2000000 in
theorem impl_decimal {n : Nat} {w : World} (hn : n < 10) : Calls Tryz.prog 17 #[.int .i64 (n : Int)] w fun e w' => e = .returned (.string (digStr n)) ∧ w = w' := by
  rcases lt10 hn with rfl | rfl | rfl | rfl | rfl | rfl | rfl | rfl | rfl | rfl
  all_goals
    clear hn
    go_enter Tryz.func17, Tryz.ntmps17
    go_wp2
    go_ret
    exact ⟨by kernel_rfl, rfl⟩
end Go.Proofs.YtipkncjjkkijfaaGreatDoor
