/- Marks in traffics. -/
import Derived.Test.YtipkncjjkkijfaaDoorL10
namespace Go.Proofs.YtipkncjjkkijfaaDoor
open Go.RowKit
set_option linter.unusedVariables false
set_option linter.unusedSimpArgs false
set_option maxHeartbeats 1000000 in
theorem laws_markTraffic {b : Int} {a : Option Addr} {n c base : Nat} {l : List Int} {q : Int} {w : World} (hI : OwnI 2 w base a n c l) (hn : n ≤ 1048576) (hq0 : 0 ≤ q) (hq1 : q ≤ 1099511627776) :
    Calls Tryd.prog 10 #[.agg #[.int .i64 b, .slice a n c], .int .i64 q] w fun e w' => e = .returned (.int .i64 (q + n)) ∧ Touch w w' n a ∧ OwnI 2 w' base a n c (marksI q n) := by
  have HI := Lib.hid hI
  clear hI
  go_enter Tryd.func10, Tryd.ntmps10
  go_wp2_with fail
  refine Calls.mono (laws_markInt64S (HI.out.keep bel) hn hq0 hq1) ?_
  rintro e w1 ⟨rfl, ht, ho⟩
  have HO := Lib.hid ho
  clear ho
  go_wp2
  go_ret
  obtain ⟨r, hg, hr⟩ := ht
  exact ⟨rfl, ⟨r, grownBy_trans (World.grownBy_alloc _ _ _) hg, hr⟩, HO.out⟩
end Go.Proofs.YtipkncjjkkijfaaDoor
