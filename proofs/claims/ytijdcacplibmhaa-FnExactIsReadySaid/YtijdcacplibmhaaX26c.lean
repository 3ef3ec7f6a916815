/- The exact laws of the reports of locks, walked. -/
import Derived.Test.YtijdcacplibmhaaL26c
namespace Go.Proofs.Ytijdcacplibmhaa
open Go.RowKit
set_option linter.unusedVariables false
set_option linter.unusedSimpArgs false
set_option maxHeartbeats 1000000 in
theorem law_IsReady {a af : Option Addr} {n c nf cf : Nat} {l : List Int} {fs : List I3} {w : World} (hI : Ints w a n c l) (_ : n ≤ maxLen) (hF : F3 w af nf cf fs) (hmax : nf ≤ maxLen) : Calls Try.prog 10 #[.slice a n c, .slice af nf cf] w fun e w' => e = .returned (.bool true) ∧ Below w.heap.size w w' := by
  have hmax' : (nf : Int) ≤ 9223372036854775807 := by unfold maxLen at hmax; omega
  have HI := Lib.hid hI
  have HF := Lib.hid hF
  clear hI hF hmax
  by_cases hn : n ≤ 1048576
  · by_cases hnf : nf ≤ 1048576
    · have hsz : (if (1048576 : Int) < (nf : Int) then -1 else 1048576 - (nf : Int)) = 1048576 - (nf : Int) := if_neg (by omega)
      go_enter Try.func10, Try.ntmps10
      go_wp2_with fail
      refine Calls.mono (laws_szLockFaultS hmax' (by omega) (by omega)) ?_
      rintro e _ ⟨rfl, rfl⟩
      rw [hsz]
      clear hsz
      go_wp2_with fail
      refine Calls.mono (laws_toInt64S HI.out hn) ?_
      rintro e w1 ⟨rfl, hb_w1, HO1⟩
      obtain ⟨hc_w1, hf_w1⟩ := bcell hb_w1
      have hs_w1 := hb_w1.size
      have HO1 := Lib.hid HO1
      go_wp2_with fail
      refine Calls.mono (laws_toLockFaultS (HF.out.keep (by repeat (first | exact Below.refl _ _ | assumption | refine below_allocS ?_ _ | refine below_callS ?_ (by assumption) | (refine Below.alloc ?_ (by first | omega | (simp; done) | (simp; omega)) _) | (refine Below.setCell ?_ (by first | omega | (simp; done) | (simp; omega)) _) | refine Below.drew ?_ | refine below_drewN ?_ _ | (refine below_call ?_ (by assumption) (by first | omega | (simp; done) | (simp; omega))) | (refine Below.trans ?_ (by assumption))))) hnf) ?_
      rintro e w2 ⟨rfl, hb_w2, HO2⟩
      obtain ⟨hc_w2, hf_w2⟩ := bcell hb_w2
      have hs_w2 := hb_w2.size
      have HO2 := Lib.hid HO2
      go_wp2_with fail
      refine Calls.mono (spec_IsReady (HO1.out.ints.keep (by repeat (first | exact Below.refl _ _ | assumption | refine below_allocS ?_ _ | refine below_callS ?_ (by assumption) | (refine Below.alloc ?_ (by first | omega | (simp; done) | (simp; omega)) _) | (refine Below.setCell ?_ (by first | omega | (simp; done) | (simp; omega)) _) | refine Below.drew ?_ | refine below_drewN ?_ _ | (refine below_call ?_ (by assumption) (by first | omega | (simp; done) | (simp; omega))) | (refine Below.trans ?_ (by assumption))))) HO2.out.flats hn hnf) ?_
      rintro e w3 ⟨rfl, hb_w3⟩
      obtain ⟨hc_w3, hf_w3⟩ := bcell hb_w3
      have hs_w3 := hb_w3.size
      go_wp2_with fail
      refine Calls.mono (laws_toInt64S (HI.out.keep (by repeat (first | exact Below.refl _ _ | assumption | refine below_allocS ?_ _ | refine below_callS ?_ (by assumption) | (refine Below.alloc ?_ (by first | omega | (simp; done) | (simp; omega)) _) | (refine Below.setCell ?_ (by first | omega | (simp; done) | (simp; omega)) _) | refine Below.drew ?_ | refine below_drewN ?_ _ | (refine below_call ?_ (by assumption) (by first | omega | (simp; done) | (simp; omega))) | (refine Below.trans ?_ (by assumption))))) hn) ?_
      rintro e w4 ⟨rfl, hb_w4, HO4⟩
      obtain ⟨hc_w4, hf_w4⟩ := bcell hb_w4
      have hs_w4 := hb_w4.size
      have HO4 := Lib.hid HO4
      go_wp2_with fail
      refine Calls.mono (laws_toLockFaultS (HF.out.keep (by repeat (first | exact Below.refl _ _ | assumption | refine below_allocS ?_ _ | refine below_callS ?_ (by assumption) | (refine Below.alloc ?_ (by first | omega | (simp; done) | (simp; omega)) _) | (refine Below.setCell ?_ (by first | omega | (simp; done) | (simp; omega)) _) | refine Below.drew ?_ | refine below_drewN ?_ _ | (refine below_call ?_ (by assumption) (by first | omega | (simp; done) | (simp; omega))) | (refine Below.trans ?_ (by assumption))))) hnf) ?_
      rintro e w5 ⟨rfl, hb_w5, HO5⟩
      obtain ⟨hc_w5, hf_w5⟩ := bcell hb_w5
      have hs_w5 := hb_w5.size
      have HO5 := Lib.hid HO5
      go_wp2_with fail
      refine Calls.mono (impl_IsReady (HO4.out.ints.keep (by repeat (first | exact Below.refl _ _ | assumption | refine below_allocS ?_ _ | refine below_callS ?_ (by assumption) | (refine Below.alloc ?_ (by first | omega | (simp; done) | (simp; omega)) _) | (refine Below.setCell ?_ (by first | omega | (simp; done) | (simp; omega)) _) | refine Below.drew ?_ | refine below_drewN ?_ _ | (refine below_call ?_ (by assumption) (by first | omega | (simp; done) | (simp; omega))) | (refine Below.trans ?_ (by assumption))))) HO5.out.flats hn hnf) ?_
      rintro e w6 ⟨rfl, hb_w6⟩
      obtain ⟨hc_w6, hf_w6⟩ := bcell hb_w6
      have hs_w6 := hb_w6.size
      go_wp2_with fail
      refine Calls.mono (laws_toInt64S (HI.out.keep (by repeat (first | exact Below.refl _ _ | assumption | refine below_allocS ?_ _ | refine below_callS ?_ (by assumption) | (refine Below.alloc ?_ (by first | omega | (simp; done) | (simp; omega)) _) | (refine Below.setCell ?_ (by first | omega | (simp; done) | (simp; omega)) _) | refine Below.drew ?_ | refine below_drewN ?_ _ | (refine below_call ?_ (by assumption) (by first | omega | (simp; done) | (simp; omega))) | (refine Below.trans ?_ (by assumption))))) hn) ?_
      rintro e w7 ⟨rfl, hb_w7, HO7⟩
      obtain ⟨hc_w7, hf_w7⟩ := bcell hb_w7
      have hs_w7 := hb_w7.size
      have HO7 := Lib.hid HO7
      go_wp2_with fail
      refine Calls.mono (laws_eqInt64S (HO4.out.ints.keep (by repeat (first | exact Below.refl _ _ | assumption | refine below_allocS ?_ _ | refine below_callS ?_ (by assumption) | (refine Below.alloc ?_ (by first | omega | (simp; done) | (simp; omega)) _) | (refine Below.setCell ?_ (by first | omega | (simp; done) | (simp; omega)) _) | refine Below.drew ?_ | refine below_drewN ?_ _ | (refine below_call ?_ (by assumption) (by first | omega | (simp; done) | (simp; omega))) | (refine Below.trans ?_ (by assumption))))) HO7.out.ints hn hn) ?_
      rintro e w8 ⟨rfl, hb_w8⟩
      obtain ⟨hc_w8, hf_w8⟩ := bcell hb_w8
      have hs_w8 := hb_w8.size
      go_wp2_with fail
      refine Calls.mono (laws_toLockFaultS (HF.out.keep (by repeat (first | exact Below.refl _ _ | assumption | refine below_allocS ?_ _ | refine below_callS ?_ (by assumption) | (refine Below.alloc ?_ (by first | omega | (simp; done) | (simp; omega)) _) | (refine Below.setCell ?_ (by first | omega | (simp; done) | (simp; omega)) _) | refine Below.drew ?_ | refine below_drewN ?_ _ | (refine below_call ?_ (by assumption) (by first | omega | (simp; done) | (simp; omega))) | (refine Below.trans ?_ (by assumption))))) hnf) ?_
      rintro e w9 ⟨rfl, hb_w9, HO9⟩
      obtain ⟨hc_w9, hf_w9⟩ := bcell hb_w9
      have hs_w9 := hb_w9.size
      have HO9 := Lib.hid HO9
      go_wp2_with fail
      refine Calls.mono (laws_eqLockFaultS (HO5.out.flats.keep (by repeat (first | exact Below.refl _ _ | assumption | refine below_allocS ?_ _ | refine below_callS ?_ (by assumption) | (refine Below.alloc ?_ (by first | omega | (simp; done) | (simp; omega)) _) | (refine Below.setCell ?_ (by first | omega | (simp; done) | (simp; omega)) _) | refine Below.drew ?_ | refine below_drewN ?_ _ | (refine below_call ?_ (by assumption) (by first | omega | (simp; done) | (simp; omega))) | (refine Below.trans ?_ (by assumption))))) HO9.out.flats hnf) ?_
      rintro e w10 ⟨rfl, hb_w10⟩
      obtain ⟨hc_w10, hf_w10⟩ := bcell hb_w10
      have hs_w10 := hb_w10.size
      go_wp2
      go_ret
      exact ⟨rfl, by repeat (first | exact Below.refl _ _ | assumption | refine below_allocS ?_ _ | refine below_callS ?_ (by assumption) | (refine Below.alloc ?_ (by first | omega | (simp; done) | (simp; omega)) _) | (refine Below.setCell ?_ (by first | omega | (simp; done) | (simp; omega)) _) | refine Below.drew ?_ | refine below_drewN ?_ _ | (refine below_call ?_ (by assumption) (by first | omega | (simp; done) | (simp; omega))) | (refine Below.trans ?_ (by assumption)))⟩
    · have hsz : (if (1048576 : Int) < (nf : Int) then -1 else 1048576 - (nf : Int)) = -1 := if_pos (by omega)
      go_enter Try.func10, Try.ntmps10
      go_wp2_with fail
      refine Calls.mono (laws_szLockFaultS hmax' (by omega) (by omega)) ?_
      rintro e _ ⟨rfl, rfl⟩
      rw [hsz]
      go_wp2
      go_ret
      exact ⟨rfl, by repeat (first | exact Below.refl _ _ | assumption | refine below_allocS ?_ _ | refine below_callS ?_ (by assumption) | (refine Below.alloc ?_ (by first | omega | (simp; done) | (simp; omega)) _) | (refine Below.setCell ?_ (by first | omega | (simp; done) | (simp; omega)) _) | refine Below.drew ?_ | refine below_drewN ?_ _ | (refine below_call ?_ (by assumption) (by first | omega | (simp; done) | (simp; omega))) | (refine Below.trans ?_ (by assumption)))⟩
  · go_enter Try.func10, Try.ntmps10
    go_wp2
    go_ret
    exact ⟨rfl, by repeat (first | exact Below.refl _ _ | assumption | refine below_allocS ?_ _ | refine below_callS ?_ (by assumption) | (refine Below.alloc ?_ (by first | omega | (simp; done) | (simp; omega)) _) | (refine Below.setCell ?_ (by first | omega | (simp; done) | (simp; omega)) _) | refine Below.drew ?_ | refine below_drewN ?_ _ | (refine below_call ?_ (by assumption) (by first | omega | (simp; done) | (simp; omega))) | (refine Below.trans ?_ (by assumption)))⟩
end Go.Proofs.Ytijdcacplibmhaa
