/- Events of replays of layer 25, walked. -/
import Derived.Test.YtipkncjjkkijfaaGreatDoorL10
import Derived.Test.YtipkncjjkkijfaaGreatDoorFl
namespace Go.Proofs.YtipkncjjkkijfaaGreatDoor
open Go.RowKit
set_option linter.unusedVariables false
set_option linter.unusedSimpArgs false
def eventB (b : Int) (n : Nat) (x y z : Int) : Bool := if x = 0 then inB y 0 ((n : Int) - 1) && (z == 0) else if x = 1 then inB y 0 (b - 1) && inB z 1 3 else false
theorem eventB_0 {b : Int} {n : Nat} {y z : Int} : eventB b n 0 y z = (inB y 0 ((n : Int) - 1) && (z == 0)) := rfl
theorem eventB_1 {b : Int} {n : Nat} {y z : Int} : eventB b n 1 y z = (inB y 0 (b - 1) && inB z 1 3) := rfl
theorem eventB_2 {b : Int} {n : Nat} {x y z : Int} (h0 : x ≠ 0) (h1 : x ≠ 1) : eventB b n x y z = false := by rw [eventB, if_neg h0, if_neg h1]
theorem impl_hasTrain {b t : Int} {a : Option Addr} {n c : Nat} {w : World} (hn : n ≤ 1048576) :
    Calls Tryz.prog 51 #[.agg #[.int .i64 b, .slice a n c], .int .i64 t] w fun e w' => e = .returned (.bool (inB t 0 ((n : Int) - 1))) ∧ Below w.heap.size w w' := by
  go_enter Tryz.func51, Tryz.ntmps51
  go_wp2_with fail
  refine Calls.mono (impl_length_i64) ?_
  rintro e _ ⟨rfl, rfl⟩
  go_wp2_with fail
  refine Calls.mono (impl_within) ?_
  rintro e _ ⟨rfl, rfl⟩
  go_wp2
  go_ret
  exact ⟨rfl, bel⟩
set_option maxHeartbeats 1000000 in
theorem impl_isEvent {b x y z : Int} {a : Option Addr} {n c : Nat} {w : World} (hn : n ≤ 1048576) (hb0 : 2 ≤ b) (hb1 : b ≤ 8) :
    Calls Tryz.prog 30 #[.agg #[.int .i64 b, .slice a n c], .agg #[.int .i64 x, .int .i64 y, .int .i64 z]] w fun e w' => e = .returned (.bool (eventB b n x y z)) ∧ Below w.heap.size w w' := by
  by_cases h0 : x = 0
  · subst h0
    cases t1 : inB y 0 ((n : Int) - 1)
    · have T1 := Lib.hid t1
      clear t1
      go_enter Tryz.func30, Tryz.ntmps30
      go_wp2_with fail
      refine Calls.mono (impl_hasTrain hn) ?_
      rintro e w1 ⟨rfl, hb_w1⟩
      obtain ⟨hc_w1, hf_w1⟩ := bcell hb_w1
      have hs_w1 := hb_w1.size
      rw [T1.out]
      go_wp2
      go_ret
      exact ⟨ret_bool (by rw [eventB_0, T1.out]; rfl), bel⟩
    · have T1 := Lib.hid t1
      clear t1
      cases t2 : (z == 0)
      all_goals
        have T2 := Lib.hid t2
        go_enter Tryz.func30, Tryz.ntmps30
        go_wp2_with fail
        refine Calls.mono (impl_hasTrain hn) ?_
        rintro e w1 ⟨rfl, hb_w1⟩
        obtain ⟨hc_w1, hf_w1⟩ := bcell hb_w1
        have hs_w1 := hb_w1.size
        rw [T1.out]
        go_wp2
        go_ret
        exact ⟨ret_bool (by rw [eventB_0, T1.out, T2.out]; rfl), bel⟩
  · by_cases h1 : x = 1
    · subst h1
      clear h0
      cases t1 : inB y 0 (b - 1)
      · have T1 := Lib.hid t1
        clear t1
        go_enter Tryz.func30, Tryz.ntmps30
        go_wp2_with fail
        refine Calls.mono (impl_within) ?_
        rintro e _ ⟨rfl, rfl⟩
        rw [T1.out]
        go_wp2
        go_ret
        exact ⟨ret_bool (by rw [eventB_1, T1.out]; rfl), bel⟩
      · have T1 := Lib.hid t1
        clear t1
        go_enter Tryz.func30, Tryz.ntmps30
        go_wp2_with fail
        refine Calls.mono (impl_within) ?_
        rintro e _ ⟨rfl, rfl⟩
        rw [T1.out]
        go_wp2_with fail
        refine Calls.mono (impl_within) ?_
        rintro e _ ⟨rfl, rfl⟩
        go_wp2
        go_ret
        exact ⟨ret_bool (by rw [eventB_1, T1.out]; rfl), bel⟩
    · have HE := Lib.hid (eventB_2 (b := b) (n := n) (y := y) (z := z) h0 h1)
      have t0 : (x == 0) = false := by simpa using h0
      have t1 : (x == 1) = false := by simpa using h1
      clear h0 h1
      go_enter Tryz.func30, Tryz.ntmps30
      go_wp2
      go_ret
      exact ⟨ret_bool HE.out.symm, bel⟩
set_option maxHeartbeats 1000000 in
theorem impl_IsReplayEvent {b x y z : Int} {a : Option Addr} {n c : Nat} {l : List Int} {w : World} (hI : Ints w a n c l) (hn : n ≤ 1048576) :
    Calls Tryz.prog 12 #[.agg #[.int .i64 b, .slice a n c], .agg #[.int .i64 x, .int .i64 y, .int .i64 z]] w fun e w' => e = .returned (.bool (trafB b l && eventB b n x y z)) ∧ Below w.heap.size w w' := by
  have HI := Lib.hid hI
  clear hI
  cases t1 : trafB b l
  · have T1 := Lib.hid t1
    clear t1
    go_enter Tryz.func12, Tryz.ntmps12
    go_wp2_with fail
    refine Calls.mono (impl_IsTraffic (HI.out.keep bel) hn) ?_
    rintro e w1 ⟨rfl, hb_w1⟩
    obtain ⟨hc_w1, hf_w1⟩ := bcell hb_w1
    have hs_w1 := hb_w1.size
    rw [T1.out]
    go_wp2
    go_ret
    exact ⟨rfl, bel⟩
  · have T1 := Lib.hid t1
    obtain ⟨hb0, hb1, _⟩ := trafB_split t1
    clear t1
    go_enter Tryz.func12, Tryz.ntmps12
    go_wp2_with fail
    refine Calls.mono (impl_IsTraffic (HI.out.keep bel) hn) ?_
    rintro e w1 ⟨rfl, hb_w1⟩
    obtain ⟨hc_w1, hf_w1⟩ := bcell hb_w1
    have hs_w1 := hb_w1.size
    rw [T1.out]
    simp at hs_w1
    have hz1 : w.heap.size < w1.heap.size := by omega
    have hz2 : w.heap.size + 1 < w1.heap.size := by omega
    go_wp2_with fail
    refine Calls.mono (impl_isEvent hn hb0 hb1) ?_
    rintro e w2 ⟨rfl, hb_w2⟩
    obtain ⟨hc_w2, hf_w2⟩ := bcell hb_w2
    have hs_w2 := hb_w2.size
    go_wp2
    go_ret
    exact ⟨by simp, bel⟩
set_option maxHeartbeats 1000000 in
theorem spec_IsReplayEvent {b x y z : Int} {a : Option Addr} {n c : Nat} {l : List Int} {w : World} (hI : Ints w a n c l) (hn : n ≤ 1048576) :
    Calls Tryz.prog 13 #[.agg #[.int .i64 b, .slice a n c], .agg #[.int .i64 x, .int .i64 y, .int .i64 z]] w fun e w' => e = .returned (.bool (trafB b l && eventB b n x y z)) ∧ Below w.heap.size w w' := by
  have HI := Lib.hid hI
  clear hI
  cases t1 : trafB b l
  · have T1 := Lib.hid t1
    clear t1
    go_enter Tryz.func13, Tryz.ntmps13
    go_wp2_with fail
    refine Calls.mono (spec_IsTraffic (HI.out.keep bel) hn) ?_
    rintro e w1 ⟨rfl, hb_w1⟩
    obtain ⟨hc_w1, hf_w1⟩ := bcell hb_w1
    have hs_w1 := hb_w1.size
    rw [T1.out]
    go_wp2
    go_ret
    exact ⟨rfl, bel⟩
  · have T1 := Lib.hid t1
    obtain ⟨hb0, hb1, _⟩ := trafB_split t1
    clear t1
    by_cases h0 : x = 0
    · subst h0
      cases t1 : inB y 0 ((n : Int) - 1)
      · have T2 := Lib.hid t1
        clear t1
        go_enter Tryz.func13, Tryz.ntmps13
        go_wp2_with fail
        refine Calls.mono (spec_IsTraffic (HI.out.keep bel) hn) ?_
        rintro e w1 ⟨rfl, hb_w1⟩
        obtain ⟨hc_w1, hf_w1⟩ := bcell hb_w1
        have hs_w1 := hb_w1.size
        rw [T1.out]
        simp at hs_w1
        have hz1 : w.heap.size < w1.heap.size := by omega
        have hz2 : w.heap.size + 1 < w1.heap.size := by omega
        go_wp2_with fail
        refine Calls.mono (spec_l01In) ?_
        rintro e _ ⟨rfl, rfl⟩
        rw [T2.out]
        go_wp2
        go_ret
        exact ⟨ret_bool (by rw [eventB_0, T2.out]; rfl), bel⟩
      · have T2 := Lib.hid t1
        clear t1
        cases t2 : (z == 0)
        all_goals
          have T3 := Lib.hid t2
          go_enter Tryz.func13, Tryz.ntmps13
          go_wp2_with fail
          refine Calls.mono (spec_IsTraffic (HI.out.keep bel) hn) ?_
          rintro e w1 ⟨rfl, hb_w1⟩
          obtain ⟨hc_w1, hf_w1⟩ := bcell hb_w1
          have hs_w1 := hb_w1.size
          rw [T1.out]
          simp at hs_w1
          have hz1 : w.heap.size < w1.heap.size := by omega
          have hz2 : w.heap.size + 1 < w1.heap.size := by omega
          go_wp2_with fail
          refine Calls.mono (spec_l01In) ?_
          rintro e _ ⟨rfl, rfl⟩
          rw [T2.out]
          go_wp2
          go_ret
          exact ⟨ret_bool (by rw [eventB_0, T2.out, T3.out]; rfl), bel⟩
    · by_cases h1 : x = 1
      · subst h1
        clear h0
        cases t1 : inB y 0 (b - 1)
        · have T2 := Lib.hid t1
          clear t1
          go_enter Tryz.func13, Tryz.ntmps13
          go_wp2_with fail
          refine Calls.mono (spec_IsTraffic (HI.out.keep bel) hn) ?_
          rintro e w1 ⟨rfl, hb_w1⟩
          obtain ⟨hc_w1, hf_w1⟩ := bcell hb_w1
          have hs_w1 := hb_w1.size
          rw [T1.out]
          simp at hs_w1
          have hz1 : w.heap.size < w1.heap.size := by omega
          have hz2 : w.heap.size + 1 < w1.heap.size := by omega
          go_wp2_with fail
          refine Calls.mono (spec_l01In) ?_
          rintro e _ ⟨rfl, rfl⟩
          rw [T2.out]
          go_wp2
          go_ret
          exact ⟨ret_bool (by rw [eventB_1, T2.out]; rfl), bel⟩
        · have T2 := Lib.hid t1
          clear t1
          go_enter Tryz.func13, Tryz.ntmps13
          go_wp2_with fail
          refine Calls.mono (spec_IsTraffic (HI.out.keep bel) hn) ?_
          rintro e w1 ⟨rfl, hb_w1⟩
          obtain ⟨hc_w1, hf_w1⟩ := bcell hb_w1
          have hs_w1 := hb_w1.size
          rw [T1.out]
          simp at hs_w1
          have hz1 : w.heap.size < w1.heap.size := by omega
          have hz2 : w.heap.size + 1 < w1.heap.size := by omega
          go_wp2_with fail
          refine Calls.mono (spec_l01In) ?_
          rintro e _ ⟨rfl, rfl⟩
          rw [T2.out]
          go_wp2_with fail
          refine Calls.mono (spec_l01In) ?_
          rintro e _ ⟨rfl, rfl⟩
          go_wp2
          go_ret
          exact ⟨ret_bool (by rw [eventB_1, T2.out]; rfl), bel⟩
      · have HE := Lib.hid (eventB_2 (b := b) (n := n) (y := y) (z := z) h0 h1)
        have t0 : (x == 0) = false := by simpa using h0
        have t1 : (x == 1) = false := by simpa using h1
        clear h0 h1
        go_enter Tryz.func13, Tryz.ntmps13
        go_wp2_with fail
        refine Calls.mono (spec_IsTraffic (HI.out.keep bel) hn) ?_
        rintro e w1 ⟨rfl, hb_w1⟩
        obtain ⟨hc_w1, hf_w1⟩ := bcell hb_w1
        have hs_w1 := hb_w1.size
        rw [T1.out]
        simp at hs_w1
        have hz1 : w.heap.size < w1.heap.size := by omega
        have hz2 : w.heap.size + 1 < w1.heap.size := by omega
        go_wp2
        go_ret
        exact ⟨ret_bool (by rw [HE.out]; rfl), bel⟩
end Go.Proofs.YtipkncjjkkijfaaGreatDoor
