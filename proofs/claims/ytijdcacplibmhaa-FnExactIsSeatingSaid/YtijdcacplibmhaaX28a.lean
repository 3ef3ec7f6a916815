/- Height rules and commands of the exact laws, walked. -/
import Derived.Test.YtijdcacplibmhaaL01
import Derived.Test.YtijdcacplibmhaaEx
namespace Go.Proofs.Ytijdcacplibmhaa
open Go.RowKit
set_option linter.unusedVariables false
set_option linter.unusedSimpArgs false
def heightB (l a m : Int) : Bool := decide (1 ≤ l) && decide (l ≤ a) && decide (a ≤ m) && decide (m ≤ 3000)
theorem impl_IsHeightRule {l a m : Int} {w : World} : Calls Try.prog 87 #[.agg #[.int .i64 l, .int .i64 a, .int .i64 m]] w fun e w' => e = .returned (.bool (heightB l a m)) ∧ Below w.heap.size w w' := by
  go_enter Try.func87, Try.ntmps87
  go_wp2
  all_goals
    go_ret
    exact ⟨ret_bool (by simp [heightB]; omega), (Below.refl _ _).alloc (Nat.le_refl _) _⟩
theorem spec_IsHeightRule {l a m : Int} {w : World} : Calls Try.prog 57 #[.agg #[.int .i64 l, .int .i64 a, .int .i64 m]] w fun e w' => e = .returned (.bool (heightB l a m)) ∧ Below w.heap.size w w' := by
  go_enter Try.func57, Try.ntmps57
  go_wp2
  all_goals
    go_ret
    exact ⟨ret_bool (by simp [heightB]; omega), (Below.refl _ _).alloc (Nat.le_refl _) _⟩
theorem laws_toHeightRule {l a m : Int} {w : World} : Calls Try.prog 18 #[.agg #[.int .i64 l, .int .i64 a, .int .i64 m]] w fun e w' => e = .returned (.agg #[.int .i64 l, .int .i64 a, .int .i64 m]) ∧ Below w.heap.size w w' := by
  go_enter Try.func18, Try.ntmps18
  go_wp2
  exact bodyPost_ret (v := .agg #[.int .i64 l, .int .i64 a, .int .i64 m]) (by simp [results, Try.results18, go_sem]) rfl ⟨rfl, by repeat (first | exact Below.refl _ _ | assumption | refine below_allocS ?_ _ | refine below_callS ?_ (by assumption) | (refine Below.alloc ?_ (by first | omega | (simp; done) | (simp; omega)) _) | (refine Below.setCell ?_ (by first | omega | (simp; done) | (simp; omega)) _) | refine Below.drew ?_ | refine below_drewN ?_ _ | (refine below_call ?_ (by assumption) (by first | omega | (simp; done) | (simp; omega))) | (refine Below.trans ?_ (by assumption)))⟩
def commandB (k r : Int) : Bool := inB k 0 9 && inB r 0 3
theorem and_eqB {a b : Bool} : (a && b) = (match a with | true => b | false => false) := by cases a <;> rfl
end Go.Proofs.Ytijdcacplibmhaa
