/- Marks in traffics. -/
import Derived.Test.YtoaccicfmfiemaaL10
namespace Go.Proofs.Ytoaccicfmfiemaa
open Go.RowKit
set_option linter.unusedVariables false
set_option linter.unusedSimpArgs false
set_option maxHeartbeats 1000000 in
theorem laws_markTraffic {b : Int} {a : Option Addr} {n c base : Nat} {l : List Int} {q : Int} {w : World} (hI : OwnI 2 w base a n c l) (hn : n ≤ 1048576) (hq0 : 0 ≤ q) (hq1 : q ≤ 1099511627776) :
    Calls Try.prog 51 #[.agg #[.int .i64 b, .slice a n c], .int .i64 q] w fun e w' => e = .returned (.int .i64 (q + n)) ∧ Touch w w' n a ∧ OwnI 2 w' base a n c (marksI q n) := by
  have HI := Lib.hid hI
  clear hI
  go_enter Try.func51, Try.ntmps51
  go_wp2_with fail
  refine Calls.mono (laws_markInt64S (HI.out.keep (by repeat (first | exact Below.refl _ _ | assumption | refine below_allocS ?_ _ | refine below_callS ?_ (by assumption) | (refine Below.alloc ?_ (by first | omega | (simp; done) | (simp; omega)) _) | (refine Below.setCell ?_ (by first | omega | (simp; done) | (simp; omega)) _) | refine Below.drew ?_ | refine below_drewN ?_ _ | (refine below_call ?_ (by assumption) (by first | omega | (simp; done) | (simp; omega))) | (refine Below.trans ?_ (by assumption))))) hn hq0 hq1) ?_
  rintro e w1 ⟨rfl, ht, ho⟩
  have HO := Lib.hid ho
  clear ho
  go_wp2
  go_ret
  obtain ⟨r, hg, hr⟩ := ht
  exact ⟨rfl, ⟨r, grownBy_trans (World.grownBy_alloc _ _ _) hg, hr⟩, HO.out⟩
theorem laws_heldTraffic {b : Int} {a : Option Addr} {n c : Nat} {q : Int} {w : World} (hI : Ints w a n c (marksI q n)) (hn : n ≤ 1048576) (hq0 : 0 ≤ q) (hq1 : q ≤ 1099511627776) :
    Calls Try.prog 53 #[.agg #[.int .i64 b, .slice a n c], .int .i64 q] w fun e w' => e = .returned (.int .i64 (q + n)) ∧ Below w.heap.size w w' := by
  have HI := Lib.hid hI
  clear hI
  have hqn : decide (q + (n : Int) < 0) = false := by simp; omega
  go_enter Try.func53, Try.ntmps53
  go_wp2_with fail
  refine Calls.mono (laws_heldInt64S (HI.out.keep (by repeat (first | exact Below.refl _ _ | assumption | refine below_allocS ?_ _ | refine below_callS ?_ (by assumption) | (refine Below.alloc ?_ (by first | omega | (simp; done) | (simp; omega)) _) | (refine Below.setCell ?_ (by first | omega | (simp; done) | (simp; omega)) _) | refine Below.drew ?_ | refine below_drewN ?_ _ | (refine below_call ?_ (by assumption) (by first | omega | (simp; done) | (simp; omega))) | (refine Below.trans ?_ (by assumption))))) hn hq0 hq1) ?_
  rintro e _ ⟨rfl, rfl⟩
  go_wp2
  go_ret
  exact ⟨rfl, by repeat (first | exact Below.refl _ _ | assumption | refine below_allocS ?_ _ | refine below_callS ?_ (by assumption) | (refine Below.alloc ?_ (by first | omega | (simp; done) | (simp; omega)) _) | (refine Below.setCell ?_ (by first | omega | (simp; done) | (simp; omega)) _) | refine Below.drew ?_ | refine below_drewN ?_ _ | (refine below_call ?_ (by assumption) (by first | omega | (simp; done) | (simp; omega))) | (refine Below.trans ?_ (by assumption)))⟩
end Go.Proofs.Ytoaccicfmfiemaa
