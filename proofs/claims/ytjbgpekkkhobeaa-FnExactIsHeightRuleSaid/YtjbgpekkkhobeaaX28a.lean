/- Height rules and commands of the exact laws, walked. -/
import Derived.Test.YtjbgpekkkhobeaaL01
import Derived.Test.YtjbgpekkkhobeaaEx
namespace Go.Proofs.Ytjbgpekkkhobeaa
open Go.RowKit
set_option linter.unusedVariables false
set_option linter.unusedSimpArgs false
def heightB (l a m : Int) : Bool := decide (1 ≤ l) && decide (l ≤ a) && decide (a ≤ m) && decide (m ≤ 3000)
theorem impl_IsHeightRule {l a m : Int} {w : World} : Calls Try.prog 9 #[.agg #[.int .i64 l, .int .i64 a, .int .i64 m]] w fun e w' => e = .returned (.bool (heightB l a m)) ∧ Below w.heap.size w w' := by
  go_enter Try.func9, Try.ntmps9
  go_wp2
  all_goals
    go_ret
    exact ⟨ret_bool (by simp [heightB]; omega), (Below.refl _ _).alloc (Nat.le_refl _) _⟩
theorem spec_IsHeightRule {l a m : Int} {w : World} : Calls Try.prog 7 #[.agg #[.int .i64 l, .int .i64 a, .int .i64 m]] w fun e w' => e = .returned (.bool (heightB l a m)) ∧ Below w.heap.size w w' := by
  go_enter Try.func7, Try.ntmps7
  go_wp2
  all_goals
    go_ret
    exact ⟨ret_bool (by simp [heightB]; omega), (Below.refl _ _).alloc (Nat.le_refl _) _⟩
theorem laws_toHeightRule {l a m : Int} {w : World} : Calls Try.prog 8 #[.agg #[.int .i64 l, .int .i64 a, .int .i64 m]] w fun e w' => e = .returned (.agg #[.int .i64 l, .int .i64 a, .int .i64 m]) ∧ Below w.heap.size w w' := by
  go_enter Try.func8, Try.ntmps8
  go_wp2
  exact bodyPost_ret (v := .agg #[.int .i64 l, .int .i64 a, .int .i64 m]) (by simp [results, Try.results8, go_sem]) rfl ⟨rfl, by repeat (first | exact Below.refl _ _ | assumption | (refine Below.alloc ?_ (by first | omega | (simp; done) | (simp; omega)) _) | (refine Below.setCell ?_ (by first | omega | (simp; done) | (simp; omega)) _) | refine Below.drew ?_ | refine below_drewN ?_ _ | (refine below_call ?_ (by assumption) (by first | omega | (simp; done) | (simp; omega))))⟩
theorem law_IsHeightRule {l a m : Int} {w : World} (_ : I64 l) (_ : I64 a) (_ : I64 m) : Calls Try.prog 3 #[.agg #[.int .i64 l, .int .i64 a, .int .i64 m]] w fun e w' => e = .returned (.bool true) ∧ Below w.heap.size w w' := by
  go_enter Try.func3, Try.ntmps3
  go_wp2_with fail
  refine Calls.mono (laws_toHeightRule) ?_
  rintro e w1 ⟨rfl, hb_w1⟩
  obtain ⟨hc_w1, hf_w1⟩ := bcell hb_w1
  have hs_w1 := hb_w1.size
  have hz1 : w.heap.size < w1.heap.size := by simp at hs_w1; omega
  go_wp2_with fail
  refine Calls.mono (spec_IsHeightRule) ?_
  rintro e w2 ⟨rfl, hb_w2⟩
  obtain ⟨hc_w2, hf_w2⟩ := bcell hb_w2
  have hs_w2 := hb_w2.size
  have hz2 : w.heap.size < w2.heap.size := by omega
  go_wp2_with fail
  refine Calls.mono (laws_toHeightRule) ?_
  rintro e w3 ⟨rfl, hb_w3⟩
  obtain ⟨hc_w3, hf_w3⟩ := bcell hb_w3
  have hs_w3 := hb_w3.size
  go_wp2_with fail
  refine Calls.mono (impl_IsHeightRule) ?_
  rintro e w4 ⟨rfl, hb_w4⟩
  obtain ⟨hc_w4, hf_w4⟩ := bcell hb_w4
  have hs_w4 := hb_w4.size
  go_wp2
  go_ret
  simp at hs_w1
  exact ⟨rfl, by repeat (first | exact Below.refl _ _ | assumption | (refine Below.alloc ?_ (by first | omega | (simp; done) | (simp; omega)) _) | (refine Below.setCell ?_ (by first | omega | (simp; done) | (simp; omega)) _) | refine Below.drew ?_ | refine below_drewN ?_ _ | (refine below_call ?_ (by assumption) (by first | omega | (simp; done) | (simp; omega))))⟩
def commandB (k r : Int) : Bool := inB k 0 9 && inB r 0 3
theorem and_eqB {a b : Bool} : (a && b) = (match a with | true => b | false => false) := by cases a <;> rfl
theorem spec_l27Role {r : Int} {w : World} : Calls Try.prog 20 #[.int .i64 r] w fun e w' => e = .returned (.bool (inB r 0 3)) ∧ w = w' := by
  go_enter Try.func20, Try.ntmps20
  go_wp2_with fail
  refine Calls.mono (spec_l01In) ?_
  rintro e _ ⟨rfl, rfl⟩
  go_wp2
  go_ret
  exact ⟨rfl, rfl⟩
theorem impl_isRole {r : Int} {w : World} : Calls Try.prog 22 #[.int .i64 r] w fun e w' => e = .returned (.bool (inB r 0 3)) ∧ w = w' := by
  go_enter Try.func22, Try.ntmps22
  go_wp2_with fail
  refine Calls.mono (impl_within) ?_
  rintro e _ ⟨rfl, rfl⟩
  go_wp2
  go_ret
  exact ⟨rfl, rfl⟩
theorem spec_IsCommand {k r : Int} {b : Bool} {w : World} : Calls Try.prog 10 #[.agg #[.int .i64 k, .int .i64 r, .bool b]] w fun e w' => e = .returned (.bool (commandB k r)) ∧ Below w.heap.size w w' := by
  cases hk : inB k 0 9
  all_goals
    have Hk := Lib.hid hk
    clear hk
    go_enter Try.func10, Try.ntmps10
    go_wp2_with fail
    refine Calls.mono (spec_l01In) ?_
    rintro e _ ⟨rfl, rfl⟩
    rw [Hk.out]
  · go_wp2
    go_ret
    exact ⟨ret_bool (by rw [commandB, Hk.out]; rfl), by repeat (first | exact Below.refl _ _ | assumption | (refine Below.alloc ?_ (by first | omega | (simp; done) | (simp; omega)) _) | (refine Below.setCell ?_ (by first | omega | (simp; done) | (simp; omega)) _) | refine Below.drew ?_ | refine below_drewN ?_ _ | (refine below_call ?_ (by assumption) (by first | omega | (simp; done) | (simp; omega))))⟩
  · go_wp2_with fail
    refine Calls.mono (spec_l27Role) ?_
    rintro e _ ⟨rfl, rfl⟩
    go_wp2
    go_ret
    exact ⟨ret_bool (by rw [commandB, Hk.out]; rfl), by repeat (first | exact Below.refl _ _ | assumption | (refine Below.alloc ?_ (by first | omega | (simp; done) | (simp; omega)) _) | (refine Below.setCell ?_ (by first | omega | (simp; done) | (simp; omega)) _) | refine Below.drew ?_ | refine below_drewN ?_ _ | (refine below_call ?_ (by assumption) (by first | omega | (simp; done) | (simp; omega))))⟩
theorem impl_IsCommand {k r : Int} {b : Bool} {w : World} : Calls Try.prog 12 #[.agg #[.int .i64 k, .int .i64 r, .bool b]] w fun e w' => e = .returned (.bool (commandB k r)) ∧ Below w.heap.size w w' := by
  cases hk : inB k 0 9
  all_goals
    have Hk := Lib.hid hk
    clear hk
    go_enter Try.func12, Try.ntmps12
    go_wp2_with fail
    refine Calls.mono (impl_within) ?_
    rintro e _ ⟨rfl, rfl⟩
    rw [Hk.out]
  · go_wp2
    go_ret
    exact ⟨ret_bool (by rw [commandB, Hk.out]; rfl), by repeat (first | exact Below.refl _ _ | assumption | (refine Below.alloc ?_ (by first | omega | (simp; done) | (simp; omega)) _) | (refine Below.setCell ?_ (by first | omega | (simp; done) | (simp; omega)) _) | refine Below.drew ?_ | refine below_drewN ?_ _ | (refine below_call ?_ (by assumption) (by first | omega | (simp; done) | (simp; omega))))⟩
  · go_wp2_with fail
    refine Calls.mono (impl_isRole) ?_
    rintro e _ ⟨rfl, rfl⟩
    go_wp2
    go_ret
    exact ⟨ret_bool (by rw [commandB, Hk.out]; rfl), by repeat (first | exact Below.refl _ _ | assumption | (refine Below.alloc ?_ (by first | omega | (simp; done) | (simp; omega)) _) | (refine Below.setCell ?_ (by first | omega | (simp; done) | (simp; omega)) _) | refine Below.drew ?_ | refine below_drewN ?_ _ | (refine below_call ?_ (by assumption) (by first | omega | (simp; done) | (simp; omega))))⟩
theorem laws_toCommand {k r : Int} {b : Bool} {w : World} : Calls Try.prog 11 #[.agg #[.int .i64 k, .int .i64 r, .bool b]] w fun e w' => e = .returned (.agg #[.int .i64 k, .int .i64 r, .bool b]) ∧ Below w.heap.size w w' := by
  go_enter Try.func11, Try.ntmps11
  go_wp2
  exact bodyPost_ret (v := .agg #[.int .i64 k, .int .i64 r, .bool b]) (by simp [results, Try.results11, go_sem]) rfl ⟨rfl, by repeat (first | exact Below.refl _ _ | assumption | (refine Below.alloc ?_ (by first | omega | (simp; done) | (simp; omega)) _) | (refine Below.setCell ?_ (by first | omega | (simp; done) | (simp; omega)) _) | refine Below.drew ?_ | refine below_drewN ?_ _ | (refine below_call ?_ (by assumption) (by first | omega | (simp; done) | (simp; omega))))⟩
theorem law_IsCommand {k r : Int} {b : Bool} {w : World} (_ : I64 k) (_ : I64 r) : Calls Try.prog 4 #[.agg #[.int .i64 k, .int .i64 r, .bool b]] w fun e w' => e = .returned (.bool true) ∧ Below w.heap.size w w' := by
  go_enter Try.func4, Try.ntmps4
  go_wp2_with fail
  refine Calls.mono (laws_toCommand) ?_
  rintro e w1 ⟨rfl, hb_w1⟩
  obtain ⟨hc_w1, hf_w1⟩ := bcell hb_w1
  have hs_w1 := hb_w1.size
  have hz1 : w.heap.size < w1.heap.size := by simp at hs_w1; omega
  go_wp2_with fail
  refine Calls.mono (spec_IsCommand) ?_
  rintro e w2 ⟨rfl, hb_w2⟩
  obtain ⟨hc_w2, hf_w2⟩ := bcell hb_w2
  have hs_w2 := hb_w2.size
  have hz2 : w.heap.size < w2.heap.size := by omega
  go_wp2_with fail
  refine Calls.mono (laws_toCommand) ?_
  rintro e w3 ⟨rfl, hb_w3⟩
  obtain ⟨hc_w3, hf_w3⟩ := bcell hb_w3
  have hs_w3 := hb_w3.size
  go_wp2_with fail
  refine Calls.mono (impl_IsCommand) ?_
  rintro e w4 ⟨rfl, hb_w4⟩
  obtain ⟨hc_w4, hf_w4⟩ := bcell hb_w4
  have hs_w4 := hb_w4.size
  go_wp2
  go_ret
  simp at hs_w1
  exact ⟨rfl, by repeat (first | exact Below.refl _ _ | assumption | (refine Below.alloc ?_ (by first | omega | (simp; done) | (simp; omega)) _) | (refine Below.setCell ?_ (by first | omega | (simp; done) | (simp; omega)) _) | refine Below.drew ?_ | refine below_drewN ?_ _ | (refine below_call ?_ (by assumption) (by first | omega | (simp; done) | (simp; omega))))⟩
end Go.Proofs.Ytjbgpekkkhobeaa
