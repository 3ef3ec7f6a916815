/- The exact laws of guests, walked. -/
import Derived.Test.YtijdcacplibmhaaL28
namespace Go.Proofs.Ytijdcacplibmhaa
open Go.RowKit
set_option linter.unusedVariables false
set_option linter.unusedSimpArgs false
set_option maxHeartbeats 1000000 in
theorem law_GuestVerdict {l a m h : Int} {w : World} (_ : I64 l) (_ : I64 a) (_ : I64 m) (hh : I64 h) : Calls Try.prog 4 #[.agg #[.int .i64 l, .int .i64 a, .int .i64 m], .int .i64 h] w fun e w' => e = .returned (.bool true) ∧ Below w.heap.size w w' := by
  go_enter Try.func4, Try.ntmps4
  go_wp2_with fail
  refine Calls.mono (laws_toHeightRule) ?_
  rintro e w1 ⟨rfl, hb_w1⟩
  obtain ⟨hc_w1, hf_w1⟩ := bcell hb_w1
  have hs_w1 := hb_w1.size
  simp at hs_w1
  have hz1 : w.heap.size < w1.heap.size := by omega
  go_wp2_with fail
  refine Calls.mono (spec_GuestVerdict) ?_
  rintro e w2 ⟨rfl, hb_w2⟩
  obtain ⟨hc_w2, hf_w2⟩ := bcell hb_w2
  have hs_w2 := hb_w2.size
  have hz2 : w.heap.size < w2.heap.size := by omega
  go_wp2_with fail
  refine Calls.mono (laws_toHeightRule) ?_
  rintro e w3 ⟨rfl, hb_w3⟩
  obtain ⟨hc_w3, hf_w3⟩ := bcell hb_w3
  have hs_w3 := hb_w3.size
  go_wp2_with fail
  refine Calls.mono (impl_GuestVerdict hh) ?_
  rintro e w4 ⟨rfl, hb_w4⟩
  obtain ⟨hc_w4, hf_w4⟩ := bcell hb_w4
  have hs_w4 := hb_w4.size
  go_wp2
  go_ret
  exact ⟨rfl, by repeat (first | exact Below.refl _ _ | assumption | refine below_allocS ?_ _ | refine below_callS ?_ (by assumption) | (refine Below.alloc ?_ (by first | omega | (simp; done) | (simp; omega)) _) | (refine Below.setCell ?_ (by first | omega | (simp; done) | (simp; omega)) _) | refine Below.drew ?_ | refine below_drewN ?_ _ | (refine below_call ?_ (by assumption) (by first | omega | (simp; done) | (simp; omega))) | (refine Below.trans ?_ (by assumption)))⟩
set_option maxHeartbeats 1000000 in
theorem law_RowsNeeded {l a m : Int} {ad : Option Addr} {n c : Nat} {hs : List Int} {w : World} (_ : I64 l) (_ : I64 a) (_ : I64 m) (hI : Ints w ad n c hs) (_ : n ≤ maxLen) : Calls Try.prog 7 #[.agg #[.int .i64 l, .int .i64 a, .int .i64 m], .slice ad n c] w fun e w' => e = .returned (.bool true) ∧ Below w.heap.size w w' := by
  by_cases hn : n ≤ 1048576
  · have HI := Lib.hid hI
    clear hI
    go_enter Try.func7, Try.ntmps7
    go_wp2_with fail
    refine Calls.mono (laws_toHeightRule) ?_
    rintro e w1 ⟨rfl, hb_w1⟩
    obtain ⟨hc_w1, hf_w1⟩ := bcell hb_w1
    have hs_w1 := hb_w1.size
    simp at hs_w1
    have hz1 : w.heap.size < w1.heap.size := by omega
    go_wp2_with fail
    refine Calls.mono (laws_toInt64S (HI.out.keep (by repeat (first | exact Below.refl _ _ | assumption | refine below_allocS ?_ _ | refine below_callS ?_ (by assumption) | (refine Below.alloc ?_ (by first | omega | (simp; done) | (simp; omega)) _) | (refine Below.setCell ?_ (by first | omega | (simp; done) | (simp; omega)) _) | refine Below.drew ?_ | refine below_drewN ?_ _ | (refine below_call ?_ (by assumption) (by first | omega | (simp; done) | (simp; omega))) | (refine Below.trans ?_ (by assumption))))) hn) ?_
    rintro e w2 ⟨rfl, hb_w2, HO2⟩
    obtain ⟨hc_w2, hf_w2⟩ := bcell hb_w2
    have hs_w2 := hb_w2.size
    have HO2 := Lib.hid HO2
    have hz2 : w.heap.size < w2.heap.size := by omega
    go_wp2_with fail
    refine Calls.mono (spec_RowsNeeded HO2.out.ints hn) ?_
    rintro e w3 ⟨rfl, hb_w3⟩
    obtain ⟨hc_w3, hf_w3⟩ := bcell hb_w3
    have hs_w3 := hb_w3.size
    have hz3 : w.heap.size < w3.heap.size := by omega
    go_wp2_with fail
    refine Calls.mono (laws_toInt64S (HI.out.keep (by repeat (first | exact Below.refl _ _ | assumption | refine below_allocS ?_ _ | refine below_callS ?_ (by assumption) | (refine Below.alloc ?_ (by first | omega | (simp; done) | (simp; omega)) _) | (refine Below.setCell ?_ (by first | omega | (simp; done) | (simp; omega)) _) | refine Below.drew ?_ | refine below_drewN ?_ _ | (refine below_call ?_ (by assumption) (by first | omega | (simp; done) | (simp; omega))) | (refine Below.trans ?_ (by assumption))))) hn) ?_
    rintro e w4 ⟨rfl, hb_w4, HO4⟩
    obtain ⟨hc_w4, hf_w4⟩ := bcell hb_w4
    have hs_w4 := hb_w4.size
    have HO4 := Lib.hid HO4
    have hz4 : w.heap.size < w4.heap.size := by omega
    go_wp2_with fail
    refine Calls.mono (laws_toHeightRule) ?_
    rintro e w5 ⟨rfl, hb_w5⟩
    obtain ⟨hc_w5, hf_w5⟩ := bcell hb_w5
    have hs_w5 := hb_w5.size
    go_wp2_with fail
    refine Calls.mono (impl_RowsNeeded (HO4.out.ints.keep (by repeat (first | exact Below.refl _ _ | assumption | refine below_allocS ?_ _ | refine below_callS ?_ (by assumption) | (refine Below.alloc ?_ (by first | omega | (simp; done) | (simp; omega)) _) | (refine Below.setCell ?_ (by first | omega | (simp; done) | (simp; omega)) _) | refine Below.drew ?_ | refine below_drewN ?_ _ | (refine below_call ?_ (by assumption) (by first | omega | (simp; done) | (simp; omega))) | (refine Below.trans ?_ (by assumption))))) hn) ?_
    rintro e w6 ⟨rfl, hb_w6⟩
    obtain ⟨hc_w6, hf_w6⟩ := bcell hb_w6
    have hs_w6 := hb_w6.size
    go_wp2_with fail
    refine Calls.mono (laws_toInt64S (HI.out.keep (by repeat (first | exact Below.refl _ _ | assumption | refine below_allocS ?_ _ | refine below_callS ?_ (by assumption) | (refine Below.alloc ?_ (by first | omega | (simp; done) | (simp; omega)) _) | (refine Below.setCell ?_ (by first | omega | (simp; done) | (simp; omega)) _) | refine Below.drew ?_ | refine below_drewN ?_ _ | (refine below_call ?_ (by assumption) (by first | omega | (simp; done) | (simp; omega))) | (refine Below.trans ?_ (by assumption))))) hn) ?_
    rintro e w7 ⟨rfl, hb_w7, HO7⟩
    obtain ⟨hc_w7, hf_w7⟩ := bcell hb_w7
    have hs_w7 := hb_w7.size
    have HO7 := Lib.hid HO7
    go_wp2_with fail
    refine Calls.mono (laws_eqInt64S (HO4.out.ints.keep (by repeat (first | exact Below.refl _ _ | assumption | refine below_allocS ?_ _ | refine below_callS ?_ (by assumption) | (refine Below.alloc ?_ (by first | omega | (simp; done) | (simp; omega)) _) | (refine Below.setCell ?_ (by first | omega | (simp; done) | (simp; omega)) _) | refine Below.drew ?_ | refine below_drewN ?_ _ | (refine below_call ?_ (by assumption) (by first | omega | (simp; done) | (simp; omega))) | (refine Below.trans ?_ (by assumption))))) HO7.out.ints hn hn) ?_
    rintro e w8 ⟨rfl, hb_w8⟩
    obtain ⟨hc_w8, hf_w8⟩ := bcell hb_w8
    have hs_w8 := hb_w8.size
    go_wp2
    go_ret
    exact ⟨rfl, by repeat (first | exact Below.refl _ _ | assumption | refine below_allocS ?_ _ | refine below_callS ?_ (by assumption) | (refine Below.alloc ?_ (by first | omega | (simp; done) | (simp; omega)) _) | (refine Below.setCell ?_ (by first | omega | (simp; done) | (simp; omega)) _) | refine Below.drew ?_ | refine below_drewN ?_ _ | (refine below_call ?_ (by assumption) (by first | omega | (simp; done) | (simp; omega))) | (refine Below.trans ?_ (by assumption)))⟩
  · go_enter Try.func7, Try.ntmps7
    go_wp2
    go_ret
    exact ⟨rfl, by repeat (first | exact Below.refl _ _ | assumption | refine below_allocS ?_ _ | refine below_callS ?_ (by assumption) | (refine Below.alloc ?_ (by first | omega | (simp; done) | (simp; omega)) _) | (refine Below.setCell ?_ (by first | omega | (simp; done) | (simp; omega)) _) | refine Below.drew ?_ | refine below_drewN ?_ _ | (refine below_call ?_ (by assumption) (by first | omega | (simp; done) | (simp; omega))) | (refine Below.trans ?_ (by assumption)))⟩
end Go.Proofs.Ytijdcacplibmhaa
