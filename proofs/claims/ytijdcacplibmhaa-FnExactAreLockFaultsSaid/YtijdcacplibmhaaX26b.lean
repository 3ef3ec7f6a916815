/- The exact laws of the faults of locks, walked. -/
import Derived.Test.YtijdcacplibmhaaL26b
namespace Go.Proofs.Ytijdcacplibmhaa
open Go.RowKit
set_option linter.unusedVariables false
set_option linter.unusedSimpArgs false
set_option maxHeartbeats 1000000 in
theorem law_AreLockFaults {rows : Int} {a : Option Addr} {n c : Nat} {l : List I3} {w : World} (_ : I64 rows) (hI : F3 w a n c l) (hmax : n ≤ maxLen) : Calls Try.prog 5 #[.int .i64 rows, .slice a n c] w fun e w' => e = .returned (.bool true) ∧ Below w.heap.size w w' := by
  have hmax' : (n : Int) ≤ 9223372036854775807 := by unfold maxLen at hmax; omega
  have HI := Lib.hid hI
  clear hI hmax
  by_cases hn : n ≤ 1048576
  · have hsz : (if (1048576 : Int) < (n : Int) then -1 else 1048576 - (n : Int)) = 1048576 - (n : Int) := if_neg (by omega)
    go_enter Try.func5, Try.ntmps5
    go_wp2_with fail
    refine Calls.mono (laws_szLockFaultS hmax' (by omega) (by omega)) ?_
    rintro e _ ⟨rfl, rfl⟩
    rw [hsz]
    clear hsz
    go_wp2_with fail
    refine Calls.mono (laws_toLockFaultS HI.out hn) ?_
    rintro e w1 ⟨rfl, hb_w1, HO1⟩
    obtain ⟨hc_w1, hf_w1⟩ := bcell hb_w1
    have hs_w1 := hb_w1.size
    have HO1 := Lib.hid HO1
    go_wp2_with fail
    refine Calls.mono (spec_AreLockFaults HO1.out.flats hn) ?_
    rintro e w2 ⟨rfl, hb_w2⟩
    obtain ⟨hc_w2, hf_w2⟩ := bcell hb_w2
    have hs_w2 := hb_w2.size
    go_wp2_with fail
    refine Calls.mono (laws_toLockFaultS (HI.out.keep (by repeat (first | exact Below.refl _ _ | assumption | refine below_allocS ?_ _ | refine below_callS ?_ (by assumption) | (refine Below.alloc ?_ (by first | omega | (simp; done) | (simp; omega)) _) | (refine Below.setCell ?_ (by first | omega | (simp; done) | (simp; omega)) _) | refine Below.drew ?_ | refine below_drewN ?_ _ | (refine below_call ?_ (by assumption) (by first | omega | (simp; done) | (simp; omega))) | (refine Below.trans ?_ (by assumption))))) hn) ?_
    rintro e w3 ⟨rfl, hb_w3, HO3⟩
    obtain ⟨hc_w3, hf_w3⟩ := bcell hb_w3
    have hs_w3 := hb_w3.size
    have HO3 := Lib.hid HO3
    go_wp2_with fail
    refine Calls.mono (impl_AreLockFaults HO3.out.flats hn) ?_
    rintro e w4 ⟨rfl, hb_w4⟩
    obtain ⟨hc_w4, hf_w4⟩ := bcell hb_w4
    have hs_w4 := hb_w4.size
    go_wp2_with fail
    refine Calls.mono (laws_toLockFaultS (HI.out.keep (by repeat (first | exact Below.refl _ _ | assumption | refine below_allocS ?_ _ | refine below_callS ?_ (by assumption) | (refine Below.alloc ?_ (by first | omega | (simp; done) | (simp; omega)) _) | (refine Below.setCell ?_ (by first | omega | (simp; done) | (simp; omega)) _) | refine Below.drew ?_ | refine below_drewN ?_ _ | (refine below_call ?_ (by assumption) (by first | omega | (simp; done) | (simp; omega))) | (refine Below.trans ?_ (by assumption))))) hn) ?_
    rintro e w5 ⟨rfl, hb_w5, HO5⟩
    obtain ⟨hc_w5, hf_w5⟩ := bcell hb_w5
    have hs_w5 := hb_w5.size
    have HO5 := Lib.hid HO5
    go_wp2_with fail
    refine Calls.mono (laws_eqLockFaultS (HO3.out.flats.keep (by repeat (first | exact Below.refl _ _ | assumption | refine below_allocS ?_ _ | refine below_callS ?_ (by assumption) | (refine Below.alloc ?_ (by first | omega | (simp; done) | (simp; omega)) _) | (refine Below.setCell ?_ (by first | omega | (simp; done) | (simp; omega)) _) | refine Below.drew ?_ | refine below_drewN ?_ _ | (refine below_call ?_ (by assumption) (by first | omega | (simp; done) | (simp; omega))) | (refine Below.trans ?_ (by assumption))))) HO5.out.flats hn) ?_
    rintro e w6 ⟨rfl, hb_w6⟩
    obtain ⟨hc_w6, hf_w6⟩ := bcell hb_w6
    have hs_w6 := hb_w6.size
    go_wp2
    go_ret
    exact ⟨rfl, by repeat (first | exact Below.refl _ _ | assumption | refine below_allocS ?_ _ | refine below_callS ?_ (by assumption) | (refine Below.alloc ?_ (by first | omega | (simp; done) | (simp; omega)) _) | (refine Below.setCell ?_ (by first | omega | (simp; done) | (simp; omega)) _) | refine Below.drew ?_ | refine below_drewN ?_ _ | (refine below_call ?_ (by assumption) (by first | omega | (simp; done) | (simp; omega))) | (refine Below.trans ?_ (by assumption)))⟩
  · have hsz : (if (1048576 : Int) < (n : Int) then -1 else 1048576 - (n : Int)) = -1 := if_pos (by omega)
    go_enter Try.func5, Try.ntmps5
    go_wp2_with fail
    refine Calls.mono (laws_szLockFaultS hmax' (by omega) (by omega)) ?_
    rintro e _ ⟨rfl, rfl⟩
    rw [hsz]
    go_wp2
    go_ret
    exact ⟨rfl, by repeat (first | exact Below.refl _ _ | assumption | refine below_allocS ?_ _ | refine below_callS ?_ (by assumption) | (refine Below.alloc ?_ (by first | omega | (simp; done) | (simp; omega)) _) | (refine Below.setCell ?_ (by first | omega | (simp; done) | (simp; omega)) _) | refine Below.drew ?_ | refine below_drewN ?_ _ | (refine below_call ?_ (by assumption) (by first | omega | (simp; done) | (simp; omega))) | (refine Below.trans ?_ (by assumption)))⟩
set_option maxHeartbeats 1000000 in
theorem law_AreLockFaultsTolerated {rows : Int} {a : Option Addr} {n c : Nat} {l : List I3} {w : World} (_ : I64 rows) (hI : F3 w a n c l) (hmax : n ≤ maxLen) : Calls Try.prog 6 #[.int .i64 rows, .slice a n c] w fun e w' => e = .returned (.bool true) ∧ Below w.heap.size w w' := by
  have hmax' : (n : Int) ≤ 9223372036854775807 := by unfold maxLen at hmax; omega
  have HI := Lib.hid hI
  clear hI hmax
  by_cases hn : n ≤ 1048576
  · have hsz : (if (1048576 : Int) < (n : Int) then -1 else 1048576 - (n : Int)) = 1048576 - (n : Int) := if_neg (by omega)
    go_enter Try.func6, Try.ntmps6
    go_wp2_with fail
    refine Calls.mono (laws_szLockFaultS hmax' (by omega) (by omega)) ?_
    rintro e _ ⟨rfl, rfl⟩
    rw [hsz]
    clear hsz
    go_wp2_with fail
    refine Calls.mono (laws_toLockFaultS HI.out hn) ?_
    rintro e w1 ⟨rfl, hb_w1, HO1⟩
    obtain ⟨hc_w1, hf_w1⟩ := bcell hb_w1
    have hs_w1 := hb_w1.size
    have HO1 := Lib.hid HO1
    go_wp2_with fail
    refine Calls.mono (spec_AreLockFaultsTolerated HO1.out.flats hn) ?_
    rintro e w2 ⟨rfl, hb_w2⟩
    obtain ⟨hc_w2, hf_w2⟩ := bcell hb_w2
    have hs_w2 := hb_w2.size
    go_wp2_with fail
    refine Calls.mono (laws_toLockFaultS (HI.out.keep (by repeat (first | exact Below.refl _ _ | assumption | refine below_allocS ?_ _ | refine below_callS ?_ (by assumption) | (refine Below.alloc ?_ (by first | omega | (simp; done) | (simp; omega)) _) | (refine Below.setCell ?_ (by first | omega | (simp; done) | (simp; omega)) _) | refine Below.drew ?_ | refine below_drewN ?_ _ | (refine below_call ?_ (by assumption) (by first | omega | (simp; done) | (simp; omega))) | (refine Below.trans ?_ (by assumption))))) hn) ?_
    rintro e w3 ⟨rfl, hb_w3, HO3⟩
    obtain ⟨hc_w3, hf_w3⟩ := bcell hb_w3
    have hs_w3 := hb_w3.size
    have HO3 := Lib.hid HO3
    go_wp2_with fail
    refine Calls.mono (impl_AreLockFaultsTolerated HO3.out.flats hn) ?_
    rintro e w4 ⟨rfl, hb_w4⟩
    obtain ⟨hc_w4, hf_w4⟩ := bcell hb_w4
    have hs_w4 := hb_w4.size
    go_wp2_with fail
    refine Calls.mono (laws_toLockFaultS (HI.out.keep (by repeat (first | exact Below.refl _ _ | assumption | refine below_allocS ?_ _ | refine below_callS ?_ (by assumption) | (refine Below.alloc ?_ (by first | omega | (simp; done) | (simp; omega)) _) | (refine Below.setCell ?_ (by first | omega | (simp; done) | (simp; omega)) _) | refine Below.drew ?_ | refine below_drewN ?_ _ | (refine below_call ?_ (by assumption) (by first | omega | (simp; done) | (simp; omega))) | (refine Below.trans ?_ (by assumption))))) hn) ?_
    rintro e w5 ⟨rfl, hb_w5, HO5⟩
    obtain ⟨hc_w5, hf_w5⟩ := bcell hb_w5
    have hs_w5 := hb_w5.size
    have HO5 := Lib.hid HO5
    go_wp2_with fail
    refine Calls.mono (laws_eqLockFaultS (HO3.out.flats.keep (by repeat (first | exact Below.refl _ _ | assumption | refine below_allocS ?_ _ | refine below_callS ?_ (by assumption) | (refine Below.alloc ?_ (by first | omega | (simp; done) | (simp; omega)) _) | (refine Below.setCell ?_ (by first | omega | (simp; done) | (simp; omega)) _) | refine Below.drew ?_ | refine below_drewN ?_ _ | (refine below_call ?_ (by assumption) (by first | omega | (simp; done) | (simp; omega))) | (refine Below.trans ?_ (by assumption))))) HO5.out.flats hn) ?_
    rintro e w6 ⟨rfl, hb_w6⟩
    obtain ⟨hc_w6, hf_w6⟩ := bcell hb_w6
    have hs_w6 := hb_w6.size
    go_wp2
    go_ret
    exact ⟨rfl, by repeat (first | exact Below.refl _ _ | assumption | refine below_allocS ?_ _ | refine below_callS ?_ (by assumption) | (refine Below.alloc ?_ (by first | omega | (simp; done) | (simp; omega)) _) | (refine Below.setCell ?_ (by first | omega | (simp; done) | (simp; omega)) _) | refine Below.drew ?_ | refine below_drewN ?_ _ | (refine below_call ?_ (by assumption) (by first | omega | (simp; done) | (simp; omega))) | (refine Below.trans ?_ (by assumption)))⟩
  · have hsz : (if (1048576 : Int) < (n : Int) then -1 else 1048576 - (n : Int)) = -1 := if_pos (by omega)
    go_enter Try.func6, Try.ntmps6
    go_wp2_with fail
    refine Calls.mono (laws_szLockFaultS hmax' (by omega) (by omega)) ?_
    rintro e _ ⟨rfl, rfl⟩
    rw [hsz]
    go_wp2
    go_ret
    exact ⟨rfl, by repeat (first | exact Below.refl _ _ | assumption | refine below_allocS ?_ _ | refine below_callS ?_ (by assumption) | (refine Below.alloc ?_ (by first | omega | (simp; done) | (simp; omega)) _) | (refine Below.setCell ?_ (by first | omega | (simp; done) | (simp; omega)) _) | refine Below.drew ?_ | refine below_drewN ?_ _ | (refine below_call ?_ (by assumption) (by first | omega | (simp; done) | (simp; omega))) | (refine Below.trans ?_ (by assumption)))⟩
end Go.Proofs.Ytijdcacplibmhaa
