/- The exact law of AreRestraints, walked. -/
import Derived.Test.YtjbgpekkkhobeaaL26
import Derived.Test.YtjbgpekkkhobeaaEx
namespace Go.Proofs.Ytjbgpekkkhobeaa
open Go.RowKit
set_option linter.unusedVariables false
set_option linter.unusedSimpArgs false
set_option maxHeartbeats 1000000 in
theorem law_AreRestraints {a : Option Addr} {n c : Nat} {l : List Int} {w : World} (hI : Ints w a n c l) : Calls Try.prog 5 #[.slice a n c] w fun e w' => e = .returned (.bool true) ∧ Below w.heap.size w w' := by
  by_cases hn : n ≤ 1048576
  · have HI := Lib.hid hI
    clear hI
    go_enter Try.func5, Try.ntmps5
    go_wp2_with fail
    refine Calls.mono (laws_toInt64S HI.out hn) ?_
    rintro e w1 ⟨rfl, hb_w1, HO1⟩
    obtain ⟨hc_w1, hf_w1⟩ := bcell hb_w1
    have hs_w1 := hb_w1.size
    have HO1 := Lib.hid HO1
    go_wp2_with fail
    refine Calls.mono (spec_AreRestraints HO1.out.ints hn) ?_
    rintro e _ ⟨rfl, rfl⟩
    go_wp2_with fail
    refine Calls.mono (laws_toInt64S (HI.out.keep (by repeat (first | exact Below.refl _ _ | assumption | (refine Below.alloc ?_ (by first | omega | (simp; done) | (simp; omega)) _) | (refine Below.setCell ?_ (by first | omega | (simp; done) | (simp; omega)) _) | refine Below.drew ?_ | refine below_drewN ?_ _ | (refine below_call ?_ (by assumption) (by first | omega | (simp; done) | (simp; omega)))))) hn) ?_
    rintro e w2 ⟨rfl, hb_w2, HO2⟩
    obtain ⟨hc_w2, hf_w2⟩ := bcell hb_w2
    have hs_w2 := hb_w2.size
    have HO2 := Lib.hid HO2
    go_wp2_with fail
    refine Calls.mono (impl_AreRestraints HO2.out.ints hn) ?_
    rintro e w3 ⟨rfl, hb_w3⟩
    obtain ⟨hc_w3, hf_w3⟩ := bcell hb_w3
    have hs_w3 := hb_w3.size
    go_wp2_with fail
    refine Calls.mono (laws_toInt64S (HI.out.keep (by repeat (first | exact Below.refl _ _ | assumption | (refine Below.alloc ?_ (by first | omega | (simp; done) | (simp; omega)) _) | (refine Below.setCell ?_ (by first | omega | (simp; done) | (simp; omega)) _) | refine Below.drew ?_ | refine below_drewN ?_ _ | (refine below_call ?_ (by assumption) (by first | omega | (simp; done) | (simp; omega)))))) hn) ?_
    rintro e w4 ⟨rfl, hb_w4, HO4⟩
    obtain ⟨hc_w4, hf_w4⟩ := bcell hb_w4
    have hs_w4 := hb_w4.size
    have HO4 := Lib.hid HO4
    go_wp2_with fail
    refine Calls.mono (laws_eqInt64S (HO2.out.ints.keep (by repeat (first | exact Below.refl _ _ | assumption | (refine Below.alloc ?_ (by first | omega | (simp; done) | (simp; omega)) _) | (refine Below.setCell ?_ (by first | omega | (simp; done) | (simp; omega)) _) | refine Below.drew ?_ | refine below_drewN ?_ _ | (refine below_call ?_ (by assumption) (by first | omega | (simp; done) | (simp; omega)))))) HO4.out.ints hn hn) ?_
    rintro e w5 ⟨rfl, hb_w5⟩
    obtain ⟨hc_w5, hf_w5⟩ := bcell hb_w5
    have hs_w5 := hb_w5.size
    go_wp2
    go_ret
    exact ⟨rfl, by repeat (first | exact Below.refl _ _ | assumption | (refine Below.alloc ?_ (by first | omega | (simp; done) | (simp; omega)) _) | (refine Below.setCell ?_ (by first | omega | (simp; done) | (simp; omega)) _) | refine Below.drew ?_ | refine below_drewN ?_ _ | (refine below_call ?_ (by assumption) (by first | omega | (simp; done) | (simp; omega))))⟩
  · go_enter Try.func5, Try.ntmps5
    go_wp2
    go_ret
    exact ⟨rfl, Below.refl _ _⟩
set_option maxHeartbeats 1000000 in
theorem law_AllLocked {a : Option Addr} {n c : Nat} {l : List Int} {w : World} (hI : Ints w a n c l) : Calls Try.prog 6 #[.slice a n c] w fun e w' => e = .returned (.bool true) ∧ Below w.heap.size w w' := by
  by_cases hn : n ≤ 1048576
  · have HI := Lib.hid hI
    clear hI
    go_enter Try.func6, Try.ntmps6
    go_wp2_with fail
    refine Calls.mono (laws_toInt64S HI.out hn) ?_
    rintro e w1 ⟨rfl, hb_w1, HO1⟩
    obtain ⟨hc_w1, hf_w1⟩ := bcell hb_w1
    have hs_w1 := hb_w1.size
    have HO1 := Lib.hid HO1
    go_wp2_with fail
    refine Calls.mono (spec_AllLocked HO1.out.ints hn) ?_
    rintro e _ ⟨rfl, rfl⟩
    go_wp2_with fail
    refine Calls.mono (laws_toInt64S (HI.out.keep (by repeat (first | exact Below.refl _ _ | assumption | (refine Below.alloc ?_ (by first | omega | (simp; done) | (simp; omega)) _) | (refine Below.setCell ?_ (by first | omega | (simp; done) | (simp; omega)) _) | refine Below.drew ?_ | refine below_drewN ?_ _ | (refine below_call ?_ (by assumption) (by first | omega | (simp; done) | (simp; omega)))))) hn) ?_
    rintro e w2 ⟨rfl, hb_w2, HO2⟩
    obtain ⟨hc_w2, hf_w2⟩ := bcell hb_w2
    have hs_w2 := hb_w2.size
    have HO2 := Lib.hid HO2
    go_wp2_with fail
    refine Calls.mono (impl_AllLocked HO2.out.ints hn) ?_
    rintro e w3 ⟨rfl, hb_w3⟩
    obtain ⟨hc_w3, hf_w3⟩ := bcell hb_w3
    have hs_w3 := hb_w3.size
    go_wp2_with fail
    refine Calls.mono (laws_toInt64S (HI.out.keep (by repeat (first | exact Below.refl _ _ | assumption | (refine Below.alloc ?_ (by first | omega | (simp; done) | (simp; omega)) _) | (refine Below.setCell ?_ (by first | omega | (simp; done) | (simp; omega)) _) | refine Below.drew ?_ | refine below_drewN ?_ _ | (refine below_call ?_ (by assumption) (by first | omega | (simp; done) | (simp; omega)))))) hn) ?_
    rintro e w4 ⟨rfl, hb_w4, HO4⟩
    obtain ⟨hc_w4, hf_w4⟩ := bcell hb_w4
    have hs_w4 := hb_w4.size
    have HO4 := Lib.hid HO4
    go_wp2_with fail
    refine Calls.mono (laws_eqInt64S (HO2.out.ints.keep (by repeat (first | exact Below.refl _ _ | assumption | (refine Below.alloc ?_ (by first | omega | (simp; done) | (simp; omega)) _) | (refine Below.setCell ?_ (by first | omega | (simp; done) | (simp; omega)) _) | refine Below.drew ?_ | refine below_drewN ?_ _ | (refine below_call ?_ (by assumption) (by first | omega | (simp; done) | (simp; omega)))))) HO4.out.ints hn hn) ?_
    rintro e w5 ⟨rfl, hb_w5⟩
    obtain ⟨hc_w5, hf_w5⟩ := bcell hb_w5
    have hs_w5 := hb_w5.size
    go_wp2
    go_ret
    exact ⟨rfl, by repeat (first | exact Below.refl _ _ | assumption | (refine Below.alloc ?_ (by first | omega | (simp; done) | (simp; omega)) _) | (refine Below.setCell ?_ (by first | omega | (simp; done) | (simp; omega)) _) | refine Below.drew ?_ | refine below_drewN ?_ _ | (refine below_call ?_ (by assumption) (by first | omega | (simp; done) | (simp; omega))))⟩
  · go_enter Try.func6, Try.ntmps6
    go_wp2
    go_ret
    exact ⟨rfl, Below.refl _ _⟩
end Go.Proofs.Ytjbgpekkkhobeaa
