/- Events of replays of layer 25, walked. -/
import Derived.Test.YtoaccicfmfiemaaL10
import Derived.Test.YtoaccicfmfiemaaFl
namespace Go.Proofs.Ytoaccicfmfiemaa
open Go.RowKit
set_option linter.unusedVariables false
set_option linter.unusedSimpArgs false
def eventB (b : Int) (n : Nat) (x y z : Int) : Bool := if x = 0 then inB y 0 ((n : Int) - 1) && (z == 0) else if x = 1 then inB y 0 (b - 1) && inB z 1 3 else false
theorem eventB_0 {b : Int} {n : Nat} {y z : Int} : eventB b n 0 y z = (inB y 0 ((n : Int) - 1) && (z == 0)) := rfl
theorem eventB_1 {b : Int} {n : Nat} {y z : Int} : eventB b n 1 y z = (inB y 0 (b - 1) && inB z 1 3) := rfl
theorem eventB_2 {b : Int} {n : Nat} {x y z : Int} (h0 : x ≠ 0) (h1 : x ≠ 1) : eventB b n x y z = false := by rw [eventB, if_neg h0, if_neg h1]
theorem impl_hasTrain {b t : Int} {a : Option Addr} {n c : Nat} {w : World} (hn : n ≤ 1048576) :
    Calls Try.prog 140 #[.agg #[.int .i64 b, .slice a n c], .int .i64 t] w fun e w' => e = .returned (.bool (inB t 0 ((n : Int) - 1))) ∧ Below w.heap.size w w' := by
  go_enter Try.func140, Try.ntmps140
  go_wp2_with fail
  refine Calls.mono (impl_length_i64) ?_
  rintro e _ ⟨rfl, rfl⟩
  go_wp2_with fail
  refine Calls.mono (impl_within) ?_
  rintro e _ ⟨rfl, rfl⟩
  go_wp2
  go_ret
  exact ⟨rfl, by repeat (first | exact Below.refl _ _ | assumption | refine below_allocS ?_ _ | refine below_callS ?_ (by assumption) | (refine Below.alloc ?_ (by first | omega | (simp; done) | (simp; omega)) _) | (refine Below.setCell ?_ (by first | omega | (simp; done) | (simp; omega)) _) | refine Below.drew ?_ | refine below_drewN ?_ _ | (refine below_call ?_ (by assumption) (by first | omega | (simp; done) | (simp; omega))) | (refine Below.trans ?_ (by assumption)))⟩
set_option maxHeartbeats 1000000 in
theorem impl_isEvent {b x y z : Int} {a : Option Addr} {n c : Nat} {w : World} (hn : n ≤ 1048576) (hb0 : 2 ≤ b) (hb1 : b ≤ 8) :
    Calls Try.prog 108 #[.agg #[.int .i64 b, .slice a n c], .agg #[.int .i64 x, .int .i64 y, .int .i64 z]] w fun e w' => e = .returned (.bool (eventB b n x y z)) ∧ Below w.heap.size w w' := by
  by_cases h0 : x = 0
  · subst h0
    cases t1 : inB y 0 ((n : Int) - 1)
    · have T1 := Lib.hid t1
      clear t1
      go_enter Try.func108, Try.ntmps108
      go_wp2_with fail
      refine Calls.mono (impl_hasTrain hn) ?_
      rintro e w1 ⟨rfl, hb_w1⟩
      obtain ⟨hc_w1, hf_w1⟩ := bcell hb_w1
      have hs_w1 := hb_w1.size
      rw [T1.out]
      go_wp2
      go_ret
      exact ⟨ret_bool (by rw [eventB_0, T1.out]; rfl), by repeat (first | exact Below.refl _ _ | assumption | refine below_allocS ?_ _ | refine below_callS ?_ (by assumption) | (refine Below.alloc ?_ (by first | omega | (simp; done) | (simp; omega)) _) | (refine Below.setCell ?_ (by first | omega | (simp; done) | (simp; omega)) _) | refine Below.drew ?_ | refine below_drewN ?_ _ | (refine below_call ?_ (by assumption) (by first | omega | (simp; done) | (simp; omega))) | (refine Below.trans ?_ (by assumption)))⟩
    · have T1 := Lib.hid t1
      clear t1
      cases t2 : (z == 0)
      all_goals
        have T2 := Lib.hid t2
        go_enter Try.func108, Try.ntmps108
        go_wp2_with fail
        refine Calls.mono (impl_hasTrain hn) ?_
        rintro e w1 ⟨rfl, hb_w1⟩
        obtain ⟨hc_w1, hf_w1⟩ := bcell hb_w1
        have hs_w1 := hb_w1.size
        rw [T1.out]
        go_wp2
        go_ret
        exact ⟨ret_bool (by rw [eventB_0, T1.out, T2.out]; rfl), by repeat (first | exact Below.refl _ _ | assumption | refine below_allocS ?_ _ | refine below_callS ?_ (by assumption) | (refine Below.alloc ?_ (by first | omega | (simp; done) | (simp; omega)) _) | (refine Below.setCell ?_ (by first | omega | (simp; done) | (simp; omega)) _) | refine Below.drew ?_ | refine below_drewN ?_ _ | (refine below_call ?_ (by assumption) (by first | omega | (simp; done) | (simp; omega))) | (refine Below.trans ?_ (by assumption)))⟩
  · by_cases h1 : x = 1
    · subst h1
      clear h0
      cases t1 : inB y 0 (b - 1)
      · have T1 := Lib.hid t1
        clear t1
        go_enter Try.func108, Try.ntmps108
        go_wp2_with fail
        refine Calls.mono (impl_within) ?_
        rintro e _ ⟨rfl, rfl⟩
        rw [T1.out]
        go_wp2
        go_ret
        exact ⟨ret_bool (by rw [eventB_1, T1.out]; rfl), by repeat (first | exact Below.refl _ _ | assumption | refine below_allocS ?_ _ | refine below_callS ?_ (by assumption) | (refine Below.alloc ?_ (by first | omega | (simp; done) | (simp; omega)) _) | (refine Below.setCell ?_ (by first | omega | (simp; done) | (simp; omega)) _) | refine Below.drew ?_ | refine below_drewN ?_ _ | (refine below_call ?_ (by assumption) (by first | omega | (simp; done) | (simp; omega))) | (refine Below.trans ?_ (by assumption)))⟩
      · have T1 := Lib.hid t1
        clear t1
        go_enter Try.func108, Try.ntmps108
        go_wp2_with fail
        refine Calls.mono (impl_within) ?_
        rintro e _ ⟨rfl, rfl⟩
        rw [T1.out]
        go_wp2_with fail
        refine Calls.mono (impl_within) ?_
        rintro e _ ⟨rfl, rfl⟩
        go_wp2
        go_ret
        exact ⟨ret_bool (by rw [eventB_1, T1.out]; rfl), by repeat (first | exact Below.refl _ _ | assumption | refine below_allocS ?_ _ | refine below_callS ?_ (by assumption) | (refine Below.alloc ?_ (by first | omega | (simp; done) | (simp; omega)) _) | (refine Below.setCell ?_ (by first | omega | (simp; done) | (simp; omega)) _) | refine Below.drew ?_ | refine below_drewN ?_ _ | (refine below_call ?_ (by assumption) (by first | omega | (simp; done) | (simp; omega))) | (refine Below.trans ?_ (by assumption)))⟩
    · have HE := Lib.hid (eventB_2 (b := b) (n := n) (y := y) (z := z) h0 h1)
      have t0 : (x == 0) = false := by simpa using h0
      have t1 : (x == 1) = false := by simpa using h1
      clear h0 h1
      go_enter Try.func108, Try.ntmps108
      go_wp2
      go_ret
      exact ⟨ret_bool HE.out.symm, by repeat (first | exact Below.refl _ _ | assumption | refine below_allocS ?_ _ | refine below_callS ?_ (by assumption) | (refine Below.alloc ?_ (by first | omega | (simp; done) | (simp; omega)) _) | (refine Below.setCell ?_ (by first | omega | (simp; done) | (simp; omega)) _) | refine Below.drew ?_ | refine below_drewN ?_ _ | (refine below_call ?_ (by assumption) (by first | omega | (simp; done) | (simp; omega))) | (refine Below.trans ?_ (by assumption)))⟩
set_option maxHeartbeats 1000000 in
theorem impl_IsReplayEvent {b x y z : Int} {a : Option Addr} {n c : Nat} {l : List Int} {w : World} (hI : Ints w a n c l) (hn : n ≤ 1048576) :
    Calls Try.prog 45 #[.agg #[.int .i64 b, .slice a n c], .agg #[.int .i64 x, .int .i64 y, .int .i64 z]] w fun e w' => e = .returned (.bool (trafB b l && eventB b n x y z)) ∧ Below w.heap.size w w' := by
  have HI := Lib.hid hI
  clear hI
  cases t1 : trafB b l
  · have T1 := Lib.hid t1
    clear t1
    go_enter Try.func45, Try.ntmps45
    go_wp2_with fail
    refine Calls.mono (impl_IsTraffic (HI.out.keep (by repeat (first | exact Below.refl _ _ | assumption | refine below_allocS ?_ _ | refine below_callS ?_ (by assumption) | (refine Below.alloc ?_ (by first | omega | (simp; done) | (simp; omega)) _) | (refine Below.setCell ?_ (by first | omega | (simp; done) | (simp; omega)) _) | refine Below.drew ?_ | refine below_drewN ?_ _ | (refine below_call ?_ (by assumption) (by first | omega | (simp; done) | (simp; omega))) | (refine Below.trans ?_ (by assumption))))) hn) ?_
    rintro e w1 ⟨rfl, hb_w1⟩
    obtain ⟨hc_w1, hf_w1⟩ := bcell hb_w1
    have hs_w1 := hb_w1.size
    rw [T1.out]
    go_wp2
    go_ret
    exact ⟨rfl, by repeat (first | exact Below.refl _ _ | assumption | refine below_allocS ?_ _ | refine below_callS ?_ (by assumption) | (refine Below.alloc ?_ (by first | omega | (simp; done) | (simp; omega)) _) | (refine Below.setCell ?_ (by first | omega | (simp; done) | (simp; omega)) _) | refine Below.drew ?_ | refine below_drewN ?_ _ | (refine below_call ?_ (by assumption) (by first | omega | (simp; done) | (simp; omega))) | (refine Below.trans ?_ (by assumption)))⟩
  · have T1 := Lib.hid t1
    obtain ⟨hb0, hb1, _⟩ := trafB_split t1
    clear t1
    go_enter Try.func45, Try.ntmps45
    go_wp2_with fail
    refine Calls.mono (impl_IsTraffic (HI.out.keep (by repeat (first | exact Below.refl _ _ | assumption | refine below_allocS ?_ _ | refine below_callS ?_ (by assumption) | (refine Below.alloc ?_ (by first | omega | (simp; done) | (simp; omega)) _) | (refine Below.setCell ?_ (by first | omega | (simp; done) | (simp; omega)) _) | refine Below.drew ?_ | refine below_drewN ?_ _ | (refine below_call ?_ (by assumption) (by first | omega | (simp; done) | (simp; omega))) | (refine Below.trans ?_ (by assumption))))) hn) ?_
    rintro e w1 ⟨rfl, hb_w1⟩
    obtain ⟨hc_w1, hf_w1⟩ := bcell hb_w1
    have hs_w1 := hb_w1.size
    rw [T1.out]
    simp at hs_w1
    have hz1 : w.heap.size < w1.heap.size := by omega
    have hz2 : w.heap.size + 1 < w1.heap.size := by omega
    go_wp2_with fail
    refine Calls.mono (impl_isEvent hn hb0 hb1) ?_
    rintro e w2 ⟨rfl, hb_w2⟩
    obtain ⟨hc_w2, hf_w2⟩ := bcell hb_w2
    have hs_w2 := hb_w2.size
    go_wp2
    go_ret
    exact ⟨by simp, by repeat (first | exact Below.refl _ _ | assumption | refine below_allocS ?_ _ | refine below_callS ?_ (by assumption) | (refine Below.alloc ?_ (by first | omega | (simp; done) | (simp; omega)) _) | (refine Below.setCell ?_ (by first | omega | (simp; done) | (simp; omega)) _) | refine Below.drew ?_ | refine below_drewN ?_ _ | (refine below_call ?_ (by assumption) (by first | omega | (simp; done) | (simp; omega))) | (refine Below.trans ?_ (by assumption)))⟩
set_option maxHeartbeats 1000000 in
theorem spec_IsReplayEvent {b x y z : Int} {a : Option Addr} {n c : Nat} {l : List Int} {w : World} (hI : Ints w a n c l) (hn : n ≤ 1048576) :
    Calls Try.prog 42 #[.agg #[.int .i64 b, .slice a n c], .agg #[.int .i64 x, .int .i64 y, .int .i64 z]] w fun e w' => e = .returned (.bool (trafB b l && eventB b n x y z)) ∧ Below w.heap.size w w' := by
  have HI := Lib.hid hI
  clear hI
  cases t1 : trafB b l
  · have T1 := Lib.hid t1
    clear t1
    go_enter Try.func42, Try.ntmps42
    go_wp2_with fail
    refine Calls.mono (spec_IsTraffic (HI.out.keep (by repeat (first | exact Below.refl _ _ | assumption | refine below_allocS ?_ _ | refine below_callS ?_ (by assumption) | (refine Below.alloc ?_ (by first | omega | (simp; done) | (simp; omega)) _) | (refine Below.setCell ?_ (by first | omega | (simp; done) | (simp; omega)) _) | refine Below.drew ?_ | refine below_drewN ?_ _ | (refine below_call ?_ (by assumption) (by first | omega | (simp; done) | (simp; omega))) | (refine Below.trans ?_ (by assumption))))) hn) ?_
    rintro e w1 ⟨rfl, hb_w1⟩
    obtain ⟨hc_w1, hf_w1⟩ := bcell hb_w1
    have hs_w1 := hb_w1.size
    rw [T1.out]
    go_wp2
    go_ret
    exact ⟨rfl, by repeat (first | exact Below.refl _ _ | assumption | refine below_allocS ?_ _ | refine below_callS ?_ (by assumption) | (refine Below.alloc ?_ (by first | omega | (simp; done) | (simp; omega)) _) | (refine Below.setCell ?_ (by first | omega | (simp; done) | (simp; omega)) _) | refine Below.drew ?_ | refine below_drewN ?_ _ | (refine below_call ?_ (by assumption) (by first | omega | (simp; done) | (simp; omega))) | (refine Below.trans ?_ (by assumption)))⟩
  · have T1 := Lib.hid t1
    obtain ⟨hb0, hb1, _⟩ := trafB_split t1
    clear t1
    by_cases h0 : x = 0
    · subst h0
      cases t1 : inB y 0 ((n : Int) - 1)
      · have T2 := Lib.hid t1
        clear t1
        go_enter Try.func42, Try.ntmps42
        go_wp2_with fail
        refine Calls.mono (spec_IsTraffic (HI.out.keep (by repeat (first | exact Below.refl _ _ | assumption | refine below_allocS ?_ _ | refine below_callS ?_ (by assumption) | (refine Below.alloc ?_ (by first | omega | (simp; done) | (simp; omega)) _) | (refine Below.setCell ?_ (by first | omega | (simp; done) | (simp; omega)) _) | refine Below.drew ?_ | refine below_drewN ?_ _ | (refine below_call ?_ (by assumption) (by first | omega | (simp; done) | (simp; omega))) | (refine Below.trans ?_ (by assumption))))) hn) ?_
        rintro e w1 ⟨rfl, hb_w1⟩
        obtain ⟨hc_w1, hf_w1⟩ := bcell hb_w1
        have hs_w1 := hb_w1.size
        rw [T1.out]
        simp at hs_w1
        have hz1 : w.heap.size < w1.heap.size := by omega
        have hz2 : w.heap.size + 1 < w1.heap.size := by omega
        go_wp2_with fail
        refine Calls.mono (spec_l01In) ?_
        rintro e _ ⟨rfl, rfl⟩
        rw [T2.out]
        go_wp2
        go_ret
        exact ⟨ret_bool (by rw [eventB_0, T2.out]; rfl), by repeat (first | exact Below.refl _ _ | assumption | refine below_allocS ?_ _ | refine below_callS ?_ (by assumption) | (refine Below.alloc ?_ (by first | omega | (simp; done) | (simp; omega)) _) | (refine Below.setCell ?_ (by first | omega | (simp; done) | (simp; omega)) _) | refine Below.drew ?_ | refine below_drewN ?_ _ | (refine below_call ?_ (by assumption) (by first | omega | (simp; done) | (simp; omega))) | (refine Below.trans ?_ (by assumption)))⟩
      · have T2 := Lib.hid t1
        clear t1
        cases t2 : (z == 0)
        all_goals
          have T3 := Lib.hid t2
          go_enter Try.func42, Try.ntmps42
          go_wp2_with fail
          refine Calls.mono (spec_IsTraffic (HI.out.keep (by repeat (first | exact Below.refl _ _ | assumption | refine below_allocS ?_ _ | refine below_callS ?_ (by assumption) | (refine Below.alloc ?_ (by first | omega | (simp; done) | (simp; omega)) _) | (refine Below.setCell ?_ (by first | omega | (simp; done) | (simp; omega)) _) | refine Below.drew ?_ | refine below_drewN ?_ _ | (refine below_call ?_ (by assumption) (by first | omega | (simp; done) | (simp; omega))) | (refine Below.trans ?_ (by assumption))))) hn) ?_
          rintro e w1 ⟨rfl, hb_w1⟩
          obtain ⟨hc_w1, hf_w1⟩ := bcell hb_w1
          have hs_w1 := hb_w1.size
          rw [T1.out]
          simp at hs_w1
          have hz1 : w.heap.size < w1.heap.size := by omega
          have hz2 : w.heap.size + 1 < w1.heap.size := by omega
          go_wp2_with fail
          refine Calls.mono (spec_l01In) ?_
          rintro e _ ⟨rfl, rfl⟩
          rw [T2.out]
          go_wp2
          go_ret
          exact ⟨ret_bool (by rw [eventB_0, T2.out, T3.out]; rfl), by repeat (first | exact Below.refl _ _ | assumption | refine below_allocS ?_ _ | refine below_callS ?_ (by assumption) | (refine Below.alloc ?_ (by first | omega | (simp; done) | (simp; omega)) _) | (refine Below.setCell ?_ (by first | omega | (simp; done) | (simp; omega)) _) | refine Below.drew ?_ | refine below_drewN ?_ _ | (refine below_call ?_ (by assumption) (by first | omega | (simp; done) | (simp; omega))) | (refine Below.trans ?_ (by assumption)))⟩
    · by_cases h1 : x = 1
      · subst h1
        clear h0
        cases t1 : inB y 0 (b - 1)
        · have T2 := Lib.hid t1
          clear t1
          go_enter Try.func42, Try.ntmps42
          go_wp2_with fail
          refine Calls.mono (spec_IsTraffic (HI.out.keep (by repeat (first | exact Below.refl _ _ | assumption | refine below_allocS ?_ _ | refine below_callS ?_ (by assumption) | (refine Below.alloc ?_ (by first | omega | (simp; done) | (simp; omega)) _) | (refine Below.setCell ?_ (by first | omega | (simp; done) | (simp; omega)) _) | refine Below.drew ?_ | refine below_drewN ?_ _ | (refine below_call ?_ (by assumption) (by first | omega | (simp; done) | (simp; omega))) | (refine Below.trans ?_ (by assumption))))) hn) ?_
          rintro e w1 ⟨rfl, hb_w1⟩
          obtain ⟨hc_w1, hf_w1⟩ := bcell hb_w1
          have hs_w1 := hb_w1.size
          rw [T1.out]
          simp at hs_w1
          have hz1 : w.heap.size < w1.heap.size := by omega
          have hz2 : w.heap.size + 1 < w1.heap.size := by omega
          go_wp2_with fail
          refine Calls.mono (spec_l01In) ?_
          rintro e _ ⟨rfl, rfl⟩
          rw [T2.out]
          go_wp2
          go_ret
          exact ⟨ret_bool (by rw [eventB_1, T2.out]; rfl), by repeat (first | exact Below.refl _ _ | assumption | refine below_allocS ?_ _ | refine below_callS ?_ (by assumption) | (refine Below.alloc ?_ (by first | omega | (simp; done) | (simp; omega)) _) | (refine Below.setCell ?_ (by first | omega | (simp; done) | (simp; omega)) _) | refine Below.drew ?_ | refine below_drewN ?_ _ | (refine below_call ?_ (by assumption) (by first | omega | (simp; done) | (simp; omega))) | (refine Below.trans ?_ (by assumption)))⟩
        · have T2 := Lib.hid t1
          clear t1
          go_enter Try.func42, Try.ntmps42
          go_wp2_with fail
          refine Calls.mono (spec_IsTraffic (HI.out.keep (by repeat (first | exact Below.refl _ _ | assumption | refine below_allocS ?_ _ | refine below_callS ?_ (by assumption) | (refine Below.alloc ?_ (by first | omega | (simp; done) | (simp; omega)) _) | (refine Below.setCell ?_ (by first | omega | (simp; done) | (simp; omega)) _) | refine Below.drew ?_ | refine below_drewN ?_ _ | (refine below_call ?_ (by assumption) (by first | omega | (simp; done) | (simp; omega))) | (refine Below.trans ?_ (by assumption))))) hn) ?_
          rintro e w1 ⟨rfl, hb_w1⟩
          obtain ⟨hc_w1, hf_w1⟩ := bcell hb_w1
          have hs_w1 := hb_w1.size
          rw [T1.out]
          simp at hs_w1
          have hz1 : w.heap.size < w1.heap.size := by omega
          have hz2 : w.heap.size + 1 < w1.heap.size := by omega
          go_wp2_with fail
          refine Calls.mono (spec_l01In) ?_
          rintro e _ ⟨rfl, rfl⟩
          rw [T2.out]
          go_wp2_with fail
          refine Calls.mono (spec_l01In) ?_
          rintro e _ ⟨rfl, rfl⟩
          go_wp2
          go_ret
          exact ⟨ret_bool (by rw [eventB_1, T2.out]; rfl), by repeat (first | exact Below.refl _ _ | assumption | refine below_allocS ?_ _ | refine below_callS ?_ (by assumption) | (refine Below.alloc ?_ (by first | omega | (simp; done) | (simp; omega)) _) | (refine Below.setCell ?_ (by first | omega | (simp; done) | (simp; omega)) _) | refine Below.drew ?_ | refine below_drewN ?_ _ | (refine below_call ?_ (by assumption) (by first | omega | (simp; done) | (simp; omega))) | (refine Below.trans ?_ (by assumption)))⟩
      · have HE := Lib.hid (eventB_2 (b := b) (n := n) (y := y) (z := z) h0 h1)
        have t0 : (x == 0) = false := by simpa using h0
        have t1 : (x == 1) = false := by simpa using h1
        clear h0 h1
        go_enter Try.func42, Try.ntmps42
        go_wp2_with fail
        refine Calls.mono (spec_IsTraffic (HI.out.keep (by repeat (first | exact Below.refl _ _ | assumption | refine below_allocS ?_ _ | refine below_callS ?_ (by assumption) | (refine Below.alloc ?_ (by first | omega | (simp; done) | (simp; omega)) _) | (refine Below.setCell ?_ (by first | omega | (simp; done) | (simp; omega)) _) | refine Below.drew ?_ | refine below_drewN ?_ _ | (refine below_call ?_ (by assumption) (by first | omega | (simp; done) | (simp; omega))) | (refine Below.trans ?_ (by assumption))))) hn) ?_
        rintro e w1 ⟨rfl, hb_w1⟩
        obtain ⟨hc_w1, hf_w1⟩ := bcell hb_w1
        have hs_w1 := hb_w1.size
        rw [T1.out]
        simp at hs_w1
        have hz1 : w.heap.size < w1.heap.size := by omega
        have hz2 : w.heap.size + 1 < w1.heap.size := by omega
        go_wp2
        go_ret
        exact ⟨ret_bool (by rw [HE.out]; rfl), by repeat (first | exact Below.refl _ _ | assumption | refine below_allocS ?_ _ | refine below_callS ?_ (by assumption) | (refine Below.alloc ?_ (by first | omega | (simp; done) | (simp; omega)) _) | (refine Below.setCell ?_ (by first | omega | (simp; done) | (simp; omega)) _) | refine Below.drew ?_ | refine below_drewN ?_ _ | (refine below_call ?_ (by assumption) (by first | omega | (simp; done) | (simp; omega))) | (refine Below.trans ?_ (by assumption)))⟩
set_option maxHeartbeats 1000000 in
theorem law_IsReplayEvent {b x y z : Int} {a : Option Addr} {n c : Nat} {l : List Int} {w : World} (_ : I64 b) (hI : Ints w a n c l) (hnm : n ≤ maxLen) (_ : I64 x) (_ : I64 y) (_ : I64 z) :
    Calls Try.prog 6 #[.agg #[.int .i64 b, .slice a n c], .agg #[.int .i64 x, .int .i64 y, .int .i64 z]] w fun e w' => e = .returned (.bool true) ∧ Below w.heap.size w w' := by
  have HI := Lib.hid hI
  have hn9 : (n : Int) ≤ 9223372036854775807 := by unfold maxLen at hnm; omega
  clear hI hnm
  by_cases hn : n ≤ 1048576
  · have h3 := fun (wx : World) (a' : Option Addr) (hX : Ints wx a' n n l) => spec_IsReplayEvent (b := b) (x := x) (y := y) (z := z) hX hn
    have h4 := fun (wx : World) (a' : Option Addr) (hX : Ints wx a' n n l) => impl_IsReplayEvent (b := b) (x := x) (y := y) (z := z) hX hn
    generalize (trafB b l && eventB b n x y z) = v at *
    have H3 := Lib.hid h3
    have H4 := Lib.hid h4
    have hv : (v != v) = false := by simp
    clear h3 h4
    go_enter Try.func6, Try.ntmps6
    go_wp2_with fail
    refine Calls.mono (laws_szTraffic hn9 (by omega) (by omega)) ?_
    rintro e w1 ⟨rfl, hb_w1⟩
    obtain ⟨hc_w1, hf_w1⟩ := bcell hb_w1
    have hs_w1 := hb_w1.size
    simp at hs_w1
    have B1 := Lib.hid (((Blk.made w #[.int .i64 b, .slice a n c] 61).keep (show Below _ _ ((w.alloc (.cells #[.int .i64 b, .slice a n c] 61)).alloc (.cells #[.int .i64 x, .int .i64 y, .int .i64 z] 63)) by repeat (first | exact Below.refl _ _ | assumption | refine below_allocS ?_ _ | refine below_callS ?_ (by assumption) | (refine Below.alloc ?_ (by first | omega | (simp; done) | (simp; omega)) _) | (refine Below.setCell ?_ (by first | omega | (simp; done) | (simp; omega)) _) | refine Below.drew ?_ | refine below_drewN ?_ _ | (refine below_call ?_ (by assumption) (by first | omega | (simp; done) | (simp; omega))) | (refine Below.trans ?_ (by assumption))))).keep hb_w1)
    have B2 := Lib.hid (show Blk w1 (w.heap.size + 1) #[.int .i64 x, .int .i64 y, .int .i64 z] 63 by have h := (Blk.made (w.alloc (.cells #[.int .i64 b, .slice a n c] 61)) #[.int .i64 x, .int .i64 y, .int .i64 z] 63).keep hb_w1; simpa using h)
    have hB1 : Below w.heap.size w w1 := by repeat (first | exact Below.refl _ _ | assumption | refine below_allocS ?_ _ | refine below_callS ?_ (by assumption) | (refine Below.alloc ?_ (by first | omega | (simp; done) | (simp; omega)) _) | (refine Below.setCell ?_ (by first | omega | (simp; done) | (simp; omega)) _) | refine Below.drew ?_ | refine below_drewN ?_ _ | (refine below_call ?_ (by assumption) (by first | omega | (simp; done) | (simp; omega))) | (refine Below.trans ?_ (by assumption)))
    have k1 := B1.out
    have k2 := B2.out
    have z1 := B1.out.lt
    have z2 := B2.out.lt
    have c0 := B1.out.cell 0
    have c1 := B1.out.cell 1
    have d0 := B2.out.cell 0
    have d1 := B2.out.cell 1
    have d2 := B2.out.cell 2
    simp at c0 c1 d0 d1 d2
    clear hb_w1 hc_w1 hf_w1
    go_wp2
    go_region_held3 (fun wx => Blk wx w.heap.size #[.int .i64 b, .slice a n c] 61 ∧ wx.cell? ⟨w.heap.size, 0, none⟩ = some (.int .i64 b) ∧ wx.cell? ⟨w.heap.size, 1, none⟩ = some (.slice a n c) ∧ Blk wx (w.heap.size + 1) #[.int .i64 x, .int .i64 y, .int .i64 z] 63 ∧ wx.cell? ⟨w.heap.size + 1, 0, none⟩ = some (.int .i64 x) ∧ wx.cell? ⟨w.heap.size + 1, 1, none⟩ = some (.int .i64 y) ∧ wx.cell? ⟨w.heap.size + 1, 2, none⟩ = some (.int .i64 z) ∧ w.heap.size < wx.heap.size ∧ w.heap.size + 1 < wx.heap.size ∧ Below w.heap.size w wx) (((try go_split_ands); (repeat' apply And.intro) <;> first | assumption | exact Below.drew (Below.refl _ _) | exact Blk.keep (by assumption) hbx | exact Blk.drew (by assumption) | exact Blk.drew (Blk.made _ _ _) | exact Below.drew (by assumption) | exact Below.drew (below_allocS (by first | exact Below.refl _ _ | assumption) _) | exact below_callS (by assumption) hbx | exact below_call (by assumption) hbx (Below.size (by assumption)) | exact (hcx _ _ (by assumption)).trans (by assumption) | omega | (simp [*]; done) | (simp; omega))) (first | (go_at_call 43; go_split_ands; refine Calls.mono (laws_toTraffic (HI.out.keep (by assumption)) hn) ?_; rintro e w2 ⟨g2, rfl, hbx, ho2⟩; have HO2 := Lib.hid ho2; obtain ⟨hcx, hfx⟩ := bcell hbx; have hsx := hbx.size) | (go_at_call 44; refine Calls.mono (laws_toReplayEvent (x := ⟨x, y, z⟩)) ?_; rintro e w3 ⟨rfl, hbx⟩; obtain ⟨hcx, hfx⟩ := bcell hbx; have hsx := hbx.size) | (go_at_call 42; refine Calls.mono (H3.out _ _ (HO2.out.ints.keep (by repeat (first | exact Below.refl _ _ | assumption | refine below_allocS ?_ _ | refine below_callS ?_ (by assumption) | (refine Below.alloc ?_ (by first | omega | (simp; done) | (simp; omega)) _) | (refine Below.setCell ?_ (by first | omega | (simp; done) | (simp; omega)) _) | refine Below.drew ?_ | refine below_drewN ?_ _ | (refine below_call ?_ (by assumption) (by first | omega | (simp; done) | (simp; omega))) | (refine Below.trans ?_ (by assumption)))))) ?_; rintro e w4 ⟨rfl, hbx⟩; obtain ⟨hcx, hfx⟩ := bcell hbx; have hsx := hbx.size))
    go_split_ands
    have hB4 : Below w.heap.size w w4 := by assumption
    have B1w := Lib.hid (show Blk w4 w.heap.size #[.int .i64 b, .slice a n c] 61 by assumption)
    have B2w := Lib.hid (show Blk w4 (w.heap.size + 1) #[.int .i64 x, .int .i64 y, .int .i64 z] 63 by assumption)
    have hz4 : w.heap.size < w4.heap.size := by assumption
    have hz4' : w.heap.size + 1 < w4.heap.size := by assumption
    go_wp2_with fail
    refine Calls.mono (laws_toTraffic (HI.out.keep (by assumption)) hn) ?_
    rintro e w5 ⟨g5, rfl, hb_w5, ho5⟩
    obtain ⟨hc_w5, hf_w5⟩ := bcell hb_w5
    have hs_w5 := hb_w5.size
    have HO5 := Lib.hid ho5
    clear ho5
    have hB5 : Below w.heap.size w w5 := by repeat (first | exact Below.refl _ _ | assumption | refine below_allocS ?_ _ | refine below_callS ?_ (by assumption) | (refine Below.alloc ?_ (by first | omega | (simp; done) | (simp; omega)) _) | (refine Below.setCell ?_ (by first | omega | (simp; done) | (simp; omega)) _) | refine Below.drew ?_ | refine below_drewN ?_ _ | (refine below_call ?_ (by assumption) (by first | omega | (simp; done) | (simp; omega))) | (refine Below.trans ?_ (by assumption)))
    have j0 := Blk.made w5 #[.int .i64 b, .slice (some ⟨g5, 0, none⟩) n n] 66
    have j1 : Blk (w5.alloc (.cells #[.int .i64 b, .slice (some ⟨g5, 0, none⟩) n n] 66)) w.heap.size #[.int .i64 b, .slice a n c] 61 := (B1w.out.keep hb_w5).keep (by repeat (first | exact Below.refl _ _ | assumption | refine below_allocS ?_ _ | refine below_callS ?_ (by assumption) | (refine Below.alloc ?_ (by first | omega | (simp; done) | (simp; omega)) _) | (refine Below.setCell ?_ (by first | omega | (simp; done) | (simp; omega)) _) | refine Below.drew ?_ | refine below_drewN ?_ _ | (refine below_call ?_ (by assumption) (by first | omega | (simp; done) | (simp; omega))) | (refine Below.trans ?_ (by assumption))))
    have j2 : Blk (w5.alloc (.cells #[.int .i64 b, .slice (some ⟨g5, 0, none⟩) n n] 66)) (w.heap.size + 1) #[.int .i64 x, .int .i64 y, .int .i64 z] 63 := (B2w.out.keep hb_w5).keep (by repeat (first | exact Below.refl _ _ | assumption | refine below_allocS ?_ _ | refine below_callS ?_ (by assumption) | (refine Below.alloc ?_ (by first | omega | (simp; done) | (simp; omega)) _) | (refine Below.setCell ?_ (by first | omega | (simp; done) | (simp; omega)) _) | refine Below.drew ?_ | refine below_drewN ?_ _ | (refine below_call ?_ (by assumption) (by first | omega | (simp; done) | (simp; omega))) | (refine Below.trans ?_ (by assumption))))
    have q0 := j0.cell 0
    have q1 := j0.cell 1
    have q2 := j1.cell 0
    have q3 := j1.cell 1
    have q4 := j2.cell 0
    have q5 := j2.cell 1
    have q6 := j2.cell 2
    have y0 := j0.lt
    have y1 := j1.lt
    have y2 := j2.lt
    have n1 : Below w.heap.size w (w5.alloc (.cells #[.int .i64 b, .slice (some ⟨g5, 0, none⟩) n n] 66)) := by repeat (first | exact Below.refl _ _ | assumption | refine below_allocS ?_ _ | refine below_callS ?_ (by assumption) | (refine Below.alloc ?_ (by first | omega | (simp; done) | (simp; omega)) _) | (refine Below.setCell ?_ (by first | omega | (simp; done) | (simp; omega)) _) | refine Below.drew ?_ | refine below_drewN ?_ _ | (refine below_call ?_ (by assumption) (by first | omega | (simp; done) | (simp; omega))) | (refine Below.trans ?_ (by assumption)))
    have n2 : Below w5.heap.size w5 (w5.alloc (.cells #[.int .i64 b, .slice (some ⟨g5, 0, none⟩) n n] 66)) := by repeat (first | exact Below.refl _ _ | assumption | refine below_allocS ?_ _ | refine below_callS ?_ (by assumption) | (refine Below.alloc ?_ (by first | omega | (simp; done) | (simp; omega)) _) | (refine Below.setCell ?_ (by first | omega | (simp; done) | (simp; omega)) _) | refine Below.drew ?_ | refine below_drewN ?_ _ | (refine below_call ?_ (by assumption) (by first | omega | (simp; done) | (simp; omega))) | (refine Below.trans ?_ (by assumption)))
    simp at q0 q1 q2 q3 q4 q5 q6
    clear hc_w5 hf_w5 hb_w5 c0 c1 d0 d1 d2 z1 z2 k1 k2
    go_wp2
    go_region_held3 (fun wx => Blk wx w5.heap.size #[.int .i64 b, .slice (some ⟨g5, 0, none⟩) n n] 66 ∧ wx.cell? ⟨w5.heap.size, 0, none⟩ = some (.int .i64 b) ∧ wx.cell? ⟨w5.heap.size, 1, none⟩ = some (.slice (some ⟨g5, 0, none⟩) n n) ∧ Blk wx w.heap.size #[.int .i64 b, .slice a n c] 61 ∧ wx.cell? ⟨w.heap.size, 0, none⟩ = some (.int .i64 b) ∧ wx.cell? ⟨w.heap.size, 1, none⟩ = some (.slice a n c) ∧ Blk wx (w.heap.size + 1) #[.int .i64 x, .int .i64 y, .int .i64 z] 63 ∧ wx.cell? ⟨w.heap.size + 1, 0, none⟩ = some (.int .i64 x) ∧ wx.cell? ⟨w.heap.size + 1, 1, none⟩ = some (.int .i64 y) ∧ wx.cell? ⟨w.heap.size + 1, 2, none⟩ = some (.int .i64 z) ∧ w5.heap.size < wx.heap.size ∧ w.heap.size < wx.heap.size ∧ w.heap.size + 1 < wx.heap.size ∧ Below w5.heap.size w5 wx ∧ Below w.heap.size w wx) (((try go_split_ands); (repeat' apply And.intro) <;> first | assumption | exact Below.drew (Below.refl _ _) | exact Blk.keep (by assumption) hbx | exact Blk.drew (by assumption) | exact Blk.drew (Blk.made _ _ _) | exact Below.drew (by assumption) | exact Below.drew (below_allocS (by first | exact Below.refl _ _ | assumption) _) | exact below_callS (by assumption) hbx | exact below_call (by assumption) hbx (Below.size (by assumption)) | exact (hcx _ _ (by assumption)).trans (by assumption) | omega | (simp [*]; done) | (simp; omega))) (first | (go_at_call 44; refine Calls.mono (laws_toReplayEvent (x := ⟨x, y, z⟩)) ?_; rintro e w6 ⟨rfl, hbx⟩; obtain ⟨hcx, hfx⟩ := bcell hbx; have hsx := hbx.size) | (go_at_call 45; go_split_ands; refine Calls.mono (H4.out _ _ (HO5.out.ints.keep (by assumption))) ?_; rintro e w7 ⟨rfl, hbx⟩; obtain ⟨hcx, hfx⟩ := bcell hbx; have hsx := hbx.size))
    go_split_ands
    go_wp2
    go_region_held3 (fun wx => wx.cell? ⟨w5.heap.size, 0, none⟩ = some (.int .i64 b) ∧ wx.cell? ⟨w5.heap.size, 1, none⟩ = some (.slice (some ⟨g5, 0, none⟩) n n) ∧ wx.cell? ⟨w.heap.size, 0, none⟩ = some (.int .i64 b) ∧ wx.cell? ⟨w.heap.size, 1, none⟩ = some (.slice a n c) ∧ w5.heap.size < wx.heap.size ∧ w.heap.size < wx.heap.size ∧ Below w5.heap.size w5 wx ∧ Below w.heap.size w wx) (((try go_split_ands); (repeat' apply And.intro) <;> first | assumption | exact Below.drew (Below.refl _ _) | exact Blk.keep (by assumption) hbx | exact Blk.drew (by assumption) | exact Blk.drew (Blk.made _ _ _) | exact Below.drew (by assumption) | exact Below.drew (below_allocS (by first | exact Below.refl _ _ | assumption) _) | exact below_callS (by assumption) hbx | exact below_call (by assumption) hbx (Below.size (by assumption)) | exact (hcx _ _ (by assumption)).trans (by assumption) | omega | (simp [*]; done) | (simp; omega))) (first | (go_at_call 43; go_split_ands; refine Calls.mono (laws_toTraffic (HI.out.keep (by assumption)) hn) ?_; rintro e w8 ⟨g8, rfl, hbx, ho8⟩; have HO8 := Lib.hid ho8; obtain ⟨hcx, hfx⟩ := bcell hbx; have hsx := hbx.size) | (go_at_call 46; go_split_ands; refine Calls.mono (laws_eqTraffic (HO5.out.ints.keep (by assumption)) (HO8.out.ints.keep (by repeat (first | exact Below.refl _ _ | assumption | refine below_allocS ?_ _ | refine below_callS ?_ (by assumption) | (refine Below.alloc ?_ (by first | omega | (simp; done) | (simp; omega)) _) | (refine Below.setCell ?_ (by first | omega | (simp; done) | (simp; omega)) _) | refine Below.drew ?_ | refine below_drewN ?_ _ | (refine below_call ?_ (by assumption) (by first | omega | (simp; done) | (simp; omega))) | (refine Below.trans ?_ (by assumption))))) hn hn) ?_; rintro e w9 ⟨rfl, hbx⟩; obtain ⟨hcx, hfx⟩ := bcell hbx; have hsx := hbx.size))
    go_split_ands
    go_wp2
    go_ret
    exact ⟨rfl, by assumption⟩
  · go_enter Try.func6, Try.ntmps6
    go_wp2_with fail
    refine Calls.mono (laws_szTraffic hn9 (by omega) (by omega)) ?_
    rintro e w1 ⟨rfl, hb_w1⟩
    obtain ⟨hc_w1, hf_w1⟩ := bcell hb_w1
    have hs_w1 := hb_w1.size
    go_wp2
    go_ret
    exact ⟨rfl, by repeat (first | exact Below.refl _ _ | assumption | refine below_allocS ?_ _ | refine below_callS ?_ (by assumption) | (refine Below.alloc ?_ (by first | omega | (simp; done) | (simp; omega)) _) | (refine Below.setCell ?_ (by first | omega | (simp; done) | (simp; omega)) _) | refine Below.drew ?_ | refine below_drewN ?_ _ | (refine below_call ?_ (by assumption) (by first | omega | (simp; done) | (simp; omega))) | (refine Below.trans ?_ (by assumption)))⟩
end Go.Proofs.Ytoaccicfmfiemaa
