/- Height rules and commands of the exact laws, walked. -/
import Derived.Test.YtijdcacplibmhaaDoorL01
import Derived.Test.YtijdcacplibmhaaDoorEx
namespace Go.Proofs.YtijdcacplibmhaaDoor
open Go.RowKit
set_option linter.unusedVariables false
set_option linter.unusedSimpArgs false
def heightB (l a m : Int) : Bool := decide (1 ≤ l) && decide (l ≤ a) && decide (a ≤ m) && decide (m ≤ 3000)
def commandB (k r : Int) : Bool := inB k 0 9 && inB r 0 3
theorem and_eqB {a b : Bool} : (a && b) = (match a with | true => b | false => false) := by cases a <;> rfl
theorem spec_l27Role {r : Int} {w : World} : Calls Tryd.prog 28 #[.int .i64 r] w fun e w' => e = .returned (.bool (inB r 0 3)) ∧ w = w' := by
  go_enter Tryd.func28, Tryd.ntmps28
  go_wp2_with fail
  refine Calls.mono (spec_l01In) ?_
  rintro e _ ⟨rfl, rfl⟩
  go_wp2
  go_ret
  exact ⟨rfl, rfl⟩
theorem impl_isRole {r : Int} {w : World} : Calls Tryd.prog 31 #[.int .i64 r] w fun e w' => e = .returned (.bool (inB r 0 3)) ∧ w = w' := by
  go_enter Tryd.func31, Tryd.ntmps31
  go_wp2_with fail
  refine Calls.mono (impl_within) ?_
  rintro e _ ⟨rfl, rfl⟩
  go_wp2
  go_ret
  exact ⟨rfl, rfl⟩
theorem spec_IsCommand {k r : Int} {b : Bool} {w : World} : Calls Tryd.prog 16 #[.agg #[.int .i64 k, .int .i64 r, .bool b]] w fun e w' => e = .returned (.bool (commandB k r)) ∧ Below w.heap.size w w' := by
  cases hk : inB k 0 9
  all_goals
    have Hk := Lib.hid hk
    clear hk
    go_enter Tryd.func16, Tryd.ntmps16
    go_wp2_with fail
    refine Calls.mono (spec_l01In) ?_
    rintro e _ ⟨rfl, rfl⟩
    rw [Hk.out]
  · go_wp2
    go_ret
    exact ⟨ret_bool (by rw [commandB, Hk.out]; rfl), by repeat (first | exact Below.refl _ _ | assumption | refine below_allocS ?_ _ | refine below_callS ?_ (by assumption) | (refine Below.alloc ?_ (by first | omega | (simp; done) | (simp; omega)) _) | (refine Below.setCell ?_ (by first | omega | (simp; done) | (simp; omega)) _) | refine Below.drew ?_ | refine below_drewN ?_ _ | (refine below_call ?_ (by assumption) (by first | omega | (simp; done) | (simp; omega))) | (refine Below.trans ?_ (by assumption)))⟩
  · go_wp2_with fail
    refine Calls.mono (spec_l27Role) ?_
    rintro e _ ⟨rfl, rfl⟩
    go_wp2
    go_ret
    exact ⟨ret_bool (by rw [commandB, Hk.out]; rfl), by repeat (first | exact Below.refl _ _ | assumption | refine below_allocS ?_ _ | refine below_callS ?_ (by assumption) | (refine Below.alloc ?_ (by first | omega | (simp; done) | (simp; omega)) _) | (refine Below.setCell ?_ (by first | omega | (simp; done) | (simp; omega)) _) | refine Below.drew ?_ | refine below_drewN ?_ _ | (refine below_call ?_ (by assumption) (by first | omega | (simp; done) | (simp; omega))) | (refine Below.trans ?_ (by assumption)))⟩
theorem impl_IsCommand {k r : Int} {b : Bool} {w : World} : Calls Tryd.prog 24 #[.agg #[.int .i64 k, .int .i64 r, .bool b]] w fun e w' => e = .returned (.bool (commandB k r)) ∧ Below w.heap.size w w' := by
  cases hk : inB k 0 9
  all_goals
    have Hk := Lib.hid hk
    clear hk
    go_enter Tryd.func24, Tryd.ntmps24
    go_wp2_with fail
    refine Calls.mono (impl_within) ?_
    rintro e _ ⟨rfl, rfl⟩
    rw [Hk.out]
  · go_wp2
    go_ret
    exact ⟨ret_bool (by rw [commandB, Hk.out]; rfl), by repeat (first | exact Below.refl _ _ | assumption | refine below_allocS ?_ _ | refine below_callS ?_ (by assumption) | (refine Below.alloc ?_ (by first | omega | (simp; done) | (simp; omega)) _) | (refine Below.setCell ?_ (by first | omega | (simp; done) | (simp; omega)) _) | refine Below.drew ?_ | refine below_drewN ?_ _ | (refine below_call ?_ (by assumption) (by first | omega | (simp; done) | (simp; omega))) | (refine Below.trans ?_ (by assumption)))⟩
  · go_wp2_with fail
    refine Calls.mono (impl_isRole) ?_
    rintro e _ ⟨rfl, rfl⟩
    go_wp2
    go_ret
    exact ⟨ret_bool (by rw [commandB, Hk.out]; rfl), by repeat (first | exact Below.refl _ _ | assumption | refine below_allocS ?_ _ | refine below_callS ?_ (by assumption) | (refine Below.alloc ?_ (by first | omega | (simp; done) | (simp; omega)) _) | (refine Below.setCell ?_ (by first | omega | (simp; done) | (simp; omega)) _) | refine Below.drew ?_ | refine below_drewN ?_ _ | (refine below_call ?_ (by assumption) (by first | omega | (simp; done) | (simp; omega))) | (refine Below.trans ?_ (by assumption)))⟩
theorem laws_toCommand {k r : Int} {b : Bool} {w : World} : Calls Tryd.prog 6 #[.agg #[.int .i64 k, .int .i64 r, .bool b]] w fun e w' => e = .returned (.agg #[.int .i64 k, .int .i64 r, .bool b]) ∧ Below w.heap.size w w' := by
  go_enter Tryd.func6, Tryd.ntmps6
  go_wp2
  exact bodyPost_ret (v := .agg #[.int .i64 k, .int .i64 r, .bool b]) (by simp [results, Tryd.results6, go_sem]) rfl ⟨rfl, by repeat (first | exact Below.refl _ _ | assumption | refine below_allocS ?_ _ | refine below_callS ?_ (by assumption) | (refine Below.alloc ?_ (by first | omega | (simp; done) | (simp; omega)) _) | (refine Below.setCell ?_ (by first | omega | (simp; done) | (simp; omega)) _) | refine Below.drew ?_ | refine below_drewN ?_ _ | (refine below_call ?_ (by assumption) (by first | omega | (simp; done) | (simp; omega))) | (refine Below.trans ?_ (by assumption)))⟩
end Go.Proofs.YtijdcacplibmhaaDoor
