/- Marks in traffics. -/
import Derived.Test.YtfhogleillgcgaaDoorL10
namespace Go.Proofs.YtfhogleillgcgaaDoor
open Go.RowKit
set_option linter.unusedVariables false
set_option linter.unusedSimpArgs false
set_option maxHeartbeats 1000000 in
theorem laws_markTraffic {b : Int} {a : Option Addr} {n c base : Nat} {l : List Int} {q : Int} {w : World} (hI : OwnI 2 w base a n c l) (hn : n ≤ 1048576) (hq0 : 0 ≤ q) (hq1 : q ≤ 1099511627776) :
    Calls Tryd.prog 28 #[.agg #[.int .i64 b, .slice a n c], .int .i64 q] w fun e w' => e = .returned (.int .i64 (q + n)) ∧ Touch w w' n a ∧ OwnI 2 w' base a n c (marksI q n) := by
  have HI := Lib.hid hI
  clear hI
  go_enter Tryd.func28, Tryd.ntmps28
  go_wp2_with fail
  refine Calls.mono (laws_markInt64S (HI.out.keep (by repeat (first | exact Below.refl _ _ | assumption | refine below_allocS ?_ _ | refine below_callS ?_ (by assumption) | (refine Below.alloc ?_ (by first | omega | (simp; done) | (simp; omega)) _) | (refine Below.setCell ?_ (by first | omega | (simp; done) | (simp; omega)) _) | refine Below.drew ?_ | refine below_drewN ?_ _ | (refine below_call ?_ (by assumption) (by first | omega | (simp; done) | (simp; omega))) | (refine Below.trans ?_ (by assumption))))) hn hq0 hq1) ?_
  rintro e w1 ⟨rfl, ht, ho⟩
  have HO := Lib.hid ho
  clear ho
  go_wp2
  go_ret
  obtain ⟨r, hg, hr⟩ := ht
  exact ⟨rfl, ⟨r, grownBy_trans (World.grownBy_alloc _ _ _) hg, hr⟩, HO.out⟩
end Go.Proofs.YtfhogleillgcgaaDoor
