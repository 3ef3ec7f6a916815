/- The comparisons of the laws, walked: faults, traffics. -/
import Derived.Test.YtfnamjkmkoldeaaGreatDoorLk
namespace Go.Proofs.YtfnamjkmkoldeaaGreatDoor
open Go.RowKit
set_option linter.unusedVariables false
set_option linter.unusedSimpArgs false
set_option maxHeartbeats 1000000 in
theorem laws_likeTraffic9 {b : Int} {a1 a2 : Option Addr} {n1 n2 c1 c2 : Nat} {l : List Int} {w : World} (h1 : Ints w a1 n1 c1 l) (h2 : Ints w a2 n2 c2 l) (m1 : n1 ≤ 1048576) (m2 : n2 ≤ 1048576) :
    Calls Tryz.prog 39 #[.agg #[.int .i64 b, .slice a1 n1 c1], .agg #[.int .i64 b, .slice a2 n2 c2]] w fun e w' => e = .returned (.bool true) ∧ Below w.heap.size w w' := by
  have k1 := fun (wx : World) (hb : Below w.heap.size w wx) => laws_likeInts (h1.keep hb) (h2.keep hb) m1 m2
  simp only [decide_true] at k1
  have K1 := Lib.hid k1
  clear k1 h1 h2
  have hq : (b == b) = true := by simp
  go_enter Tryz.func39, Tryz.ntmps39
  go_wp2_with fail
  refine Calls.mono (K1.out _ (by repeat (first | exact Below.refl _ _ | assumption | refine below_allocS ?_ _ | refine below_callS ?_ (by assumption) | (refine Below.alloc ?_ (by first | omega | (simp; done) | (simp; omega)) _) | (refine Below.setCell ?_ (by first | omega | (simp; done) | (simp; omega)) _) | refine Below.drew ?_ | refine below_drewN ?_ _ | (refine below_call ?_ (by assumption) (by first | omega | (simp; done) | (simp; omega))) | (refine Below.trans ?_ (by assumption))))) ?_
  rintro e w1 ⟨rfl, hb_w1⟩
  obtain ⟨hc_w1, hf_w1⟩ := bcell hb_w1
  have hs_w1 := hb_w1.size
  go_wp2
  go_ret
  exact ⟨rfl, by repeat (first | exact Below.refl _ _ | assumption | refine below_allocS ?_ _ | refine below_callS ?_ (by assumption) | (refine Below.alloc ?_ (by first | omega | (simp; done) | (simp; omega)) _) | (refine Below.setCell ?_ (by first | omega | (simp; done) | (simp; omega)) _) | refine Below.drew ?_ | refine below_drewN ?_ _ | (refine below_call ?_ (by assumption) (by first | omega | (simp; done) | (simp; omega))) | (refine Below.trans ?_ (by assumption)))⟩
end Go.Proofs.YtfnamjkmkoldeaaGreatDoor
