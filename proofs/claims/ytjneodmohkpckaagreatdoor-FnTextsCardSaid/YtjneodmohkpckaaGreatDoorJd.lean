/- likeTokens5 of equal lists, walked. -/
import Derived.Test.YtjneodmohkpckaaGreatDoorTk
namespace Go.Proofs.YtjneodmohkpckaaGreatDoor
open Go.RowKit
set_option linter.unusedVariables false
set_option linter.unusedSimpArgs false
set_option maxHeartbeats 1000000 in
theorem laws_likeTokens5 {a a' : Option Addr} {n c n' c' : Nat} {l : List TR} {w : World} (hI : FT w a n c l) (hI' : FT w a' n' c' l) (hn : n ≤ 1048576) :
    Calls Tryz.prog 24 #[.slice a n c, .slice a' n' c'] w fun e w' => e = .returned (.bool true) ∧ Below w.heap.size w w' := by
  obtain rfl : n = n' := by have := hI.len; have := hI'.len; omega
  have HI := Lib.hid hI
  have HI' := Lib.hid hI'
  clear hI hI'
  go_enter Tryz.func24, Tryz.ntmps24
  go_wp2_with fail
  go_loopw [5] (fun s3 wr => ∃ k : Nat, s3 = .int .i64 (k : Int) ∧ k ≤ n ∧ Below w.heap.size w wr) (fun s3 _ => n - (intOf s3).toNat)
  case atStart => exact ⟨0, rfl, by omega, Below.refl _ _⟩
  case round =>
    obtain ⟨k, rfl, hk, hbl⟩ := hrel
    by_cases hlt : k < n
    · obtain ⟨b, off, x, rfl, hb, hx, hwf, hc0, hc1⟩ := FT.get (HI.out.keep hbl) hlt
      obtain ⟨b', off', x', rfl, hb', hx', _, hc0', hc1'⟩ := FT.get (HI'.out.keep hbl) hlt
      obtain rfl : x = x' := by rw [hx] at hx'; simpa using hx'
      clear hx hx' hwf
      have hlt' : (k : Int) < (n : Int) := by omega
      have hpos : (0 : Int) ≤ (k : Int) := by omega
      go_wp2_with fail
      go_quiet (fail)
      go_wp2_with fail
      go_roundw
      case rel => exact ⟨k + 1, by go_num, by omega, by first | exact hbl | exact below_drewN hbl _⟩
      case measure => simp only [intOf]; omega
    · have hlt' : ¬ (k : Int) < (n : Int) := by omega
      go_wp2
      go_ret
      exact ⟨rfl, hbl⟩
end Go.Proofs.YtjneodmohkpckaaGreatDoor
