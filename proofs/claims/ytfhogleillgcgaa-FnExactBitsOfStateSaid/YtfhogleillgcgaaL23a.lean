/- Widths of variables, walked. -/
import Derived.Test.YtfhogleillgcgaaL01
import Derived.Test.YtfhogleillgcgaaSh
namespace Go.Proofs.Ytfhogleillgcgaa
open Go.RowKit
set_option linter.unusedVariables false
set_option linter.unusedSimpArgs false
def wN (z : Int) : Int := if z ≤ 1 then 0 else if z ≤ 2 then 1 else if z ≤ 4 then 2 else if z ≤ 8 then 3 else if z ≤ 16 then 4 else 5
theorem wN_cases {z : Int} (h1 : 1 ≤ z) (h2 : z ≤ 32) : (z = 1 ∧ wN z = 0) ∨ (z = 2 ∧ wN z = 1) ∨ (2 < z ∧ z ≤ 4 ∧ wN z = 2) ∨ (4 < z ∧ z ≤ 8 ∧ wN z = 3) ∨ (8 < z ∧ z ≤ 16 ∧ wN z = 4) ∨ (16 < z ∧ z ≤ 32 ∧ wN z = 5) := by
  unfold wN; omega
theorem wN_len {z : Int} (h1 : 1 ≤ z) (h2 : z ≤ 32) : (Lib.bitLen (z - 1).toNat : Int) = wN z := by
  have h : ∀ k : Fin 32, ((Lib.bitLen k.val : Nat) : Int) = wN ((k.val : Int) + 1) := by decide +kernel
  have := h ⟨(z - 1).toNat, by omega⟩
  simp only at this
  rw [this]; congr 1; omega
set_option maxHeartbeats 1000000 in
theorem spec_l23Width {z : Int} {w : World} (h1 : 1 ≤ z) (h2 : z ≤ 32) : Calls Try.prog 30 #[.int .i64 z] w fun e w' => e = .returned (.int .i64 (wN z)) ∧ w = w' := by
  have hc := wN_cases h1 h2
  generalize wN z = r at *
  go_enter Try.func30, Try.ntmps30
  go_wp2_with fail
  go_loop [3] (fun s3 => ∃ n : Int, s3 = .int .i64 n ∧ 0 ≤ n ∧ n ≤ r) (fun s3 => (r - intOf s3).toNat)
  case atStart => exact ⟨0, rfl, by omega, by omega⟩
  case round =>
    obtain ⟨n, rfl, hn0, hn⟩ := hrel
    by_cases hnr : n < r
    · rcases (show n = 0 ∨ n = 1 ∨ n = 2 ∨ n = 3 ∨ n = 4 by omega) with rfl | rfl | rfl | rfl | rfl
      all_goals
        first | have f0 : (1 : Int) < z := (by omega) | have f0 : ¬ (1 : Int) < z := (by omega) | skip
        first | have f1 : (2 : Int) < z := (by omega) | have f1 : ¬ (2 : Int) < z := (by omega) | skip
        first | have f2 : (4 : Int) < z := (by omega) | have f2 : ¬ (4 : Int) < z := (by omega) | skip
        first | have f3 : (8 : Int) < z := (by omega) | have f3 : ¬ (8 : Int) < z := (by omega) | skip
        first | have f4 : (16 : Int) < z := (by omega) | have f4 : ¬ (16 : Int) < z := (by omega) | skip
        have f5 : ¬ (32 : Int) < z := by omega
        clear hc
        go_wp2_with fail
        go_round
        case rel => exact ⟨_, rfl, by omega, by omega⟩
        case measure => simp [intOf]; omega
    · obtain rfl : n = r := by omega
      rcases (show n = 0 ∨ n = 1 ∨ n = 2 ∨ n = 3 ∨ n = 4 ∨ n = 5 by omega) with rfl | rfl | rfl | rfl | rfl | rfl
      all_goals
        first | have f0 : (1 : Int) < z := (by omega) | have f0 : ¬ (1 : Int) < z := (by omega) | skip
        first | have f1 : (2 : Int) < z := (by omega) | have f1 : ¬ (2 : Int) < z := (by omega) | skip
        first | have f2 : (4 : Int) < z := (by omega) | have f2 : ¬ (4 : Int) < z := (by omega) | skip
        first | have f3 : (8 : Int) < z := (by omega) | have f3 : ¬ (8 : Int) < z := (by omega) | skip
        first | have f4 : (16 : Int) < z := (by omega) | have f4 : ¬ (16 : Int) < z := (by omega) | skip
        have f5 : ¬ (32 : Int) < z := by omega
        clear hc
        go_wp2
        go_ret
        exact ⟨rfl, rfl⟩
end Go.Proofs.Ytfhogleillgcgaa
