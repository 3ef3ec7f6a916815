/- The comparisons of the laws, walked: faults, traffics. -/
import Derived.Test.YtoaccicfmfiemaaLk
namespace Go.Proofs.Ytoaccicfmfiemaa
open Go.RowKit
set_option linter.unusedVariables false
set_option linter.unusedSimpArgs false
set_option maxHeartbeats 1000000 in
theorem laws_likeFaults9 {a a' : Option Addr} {n c n' c' : Nat} {l : List I3} {w : World} (hI : F3 w a n c l) (hI' : F3 w a' n' c' l) (hn : n ≤ 1048576) :
    Calls Try.prog 60 #[.slice a n c, .slice a' n' c'] w fun e w' => e = .returned (.bool true) ∧ Below w.heap.size w w' := by
  obtain rfl : n' = n := by rw [← hI.len, ← hI'.len]
  have HI := Lib.hid hI
  have HI' := Lib.hid hI'
  clear hI hI'
  have hq : ((n' : Int) != (n' : Int)) = false := by simp
  go_enter Try.func60, Try.ntmps60
  go_wp2
  go_loopw [5] (fun i wr => ∃ k : Nat, k ≤ n' ∧ i = .int .i64 k ∧ Below w.heap.size w wr) (fun i _ => n' - (intOf i).toNat)
  case atStart => exact ⟨0, Nat.zero_le _, rfl, Below.refl _ _⟩
  case round =>
    obtain ⟨k, hk, rfl, hbl⟩ := hrel
    by_cases hlt : k < n'
    · obtain ⟨b, off, x, rfl, hb, hx, hwf, hc0, hc1, hc2⟩ := F3.get (HI.out.keep hbl) hlt
      obtain ⟨b', off', x', rfl, hb', hx', hwf', hc0', hc1', hc2'⟩ := F3.get (HI'.out.keep hbl) hlt
      obtain rfl : x = x' := by rw [hx] at hx'; exact Option.some.inj hx'
      clear hx hx'
      have hlt' : (k : Int) < (n' : Int) := by omega
      have hpos : (0 : Int) ≤ (k : Int) := by omega
      go_wp2
      go_quiet (fail)
      go_wp2
      go_roundw
      case rel => exact ⟨k + 1, by omega, by go_num, below_drewN hbl _⟩
      case measure => simp [intOf]; omega
    · go_wp2
      go_ret
      exact ⟨rfl, hbl⟩
set_option maxHeartbeats 1000000 in
theorem laws_likeTraffic9 {b : Int} {a1 a2 : Option Addr} {n1 n2 c1 c2 : Nat} {l : List Int} {w : World} (h1 : Ints w a1 n1 c1 l) (h2 : Ints w a2 n2 c2 l) (m1 : n1 ≤ 1048576) (m2 : n2 ≤ 1048576) :
    Calls Try.prog 61 #[.agg #[.int .i64 b, .slice a1 n1 c1], .agg #[.int .i64 b, .slice a2 n2 c2]] w fun e w' => e = .returned (.bool true) ∧ Below w.heap.size w w' := by
  have k1 := fun (wx : World) (hb : Below w.heap.size w wx) => laws_likeInts (h1.keep hb) (h2.keep hb) m1 m2
  simp only [decide_true] at k1
  have K1 := Lib.hid k1
  clear k1 h1 h2
  have hq : (b == b) = true := by simp
  go_enter Try.func61, Try.ntmps61
  go_wp2_with fail
  refine Calls.mono (K1.out _ (by repeat (first | exact Below.refl _ _ | assumption | refine below_allocS ?_ _ | refine below_callS ?_ (by assumption) | (refine Below.alloc ?_ (by first | omega | (simp; done) | (simp; omega)) _) | (refine Below.setCell ?_ (by first | omega | (simp; done) | (simp; omega)) _) | refine Below.drew ?_ | refine below_drewN ?_ _ | (refine below_call ?_ (by assumption) (by first | omega | (simp; done) | (simp; omega))) | (refine Below.trans ?_ (by assumption))))) ?_
  rintro e w1 ⟨rfl, hb_w1⟩
  obtain ⟨hc_w1, hf_w1⟩ := bcell hb_w1
  have hs_w1 := hb_w1.size
  go_wp2
  go_ret
  exact ⟨rfl, by repeat (first | exact Below.refl _ _ | assumption | refine below_allocS ?_ _ | refine below_callS ?_ (by assumption) | (refine Below.alloc ?_ (by first | omega | (simp; done) | (simp; omega)) _) | (refine Below.setCell ?_ (by first | omega | (simp; done) | (simp; omega)) _) | refine Below.drew ?_ | refine below_drewN ?_ _ | (refine below_call ?_ (by assumption) (by first | omega | (simp; done) | (simp; omega))) | (refine Below.trans ?_ (by assumption)))⟩
end Go.Proofs.Ytoaccicfmfiemaa
