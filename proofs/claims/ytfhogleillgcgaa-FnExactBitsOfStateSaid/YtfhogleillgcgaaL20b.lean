/- Models: states and tests, walked. -/
import Derived.Test.YtfhogleillgcgaaL20a
namespace Go.Proofs.Ytfhogleillgcgaa
open Go.RowKit
set_option linter.unusedVariables false
set_option linter.unusedSimpArgs false
def stateB (sz vs : List Int) : Bool := decide (vs.length = sz.length) && upB (fun i => hasB sz (i : Int) (vs.getD i 0)) vs.length
def testsB (sz : List Int) (g : List I2b) : Bool := decide (g.length ≤ 24) && g.all fun t => hasB sz t.a t.b
theorem getD_of {l : List Int} {k : Nat} {x : Int} (h : l[k]? = some x) : l.getD k 0 = x := by rw [List.getD_eq_getElem?_getD, h]; rfl
theorem stateB_ne {sz vs : List Int} (h : vs.length ≠ sz.length) : stateB sz vs = false := by rw [stateB, decide_eq_false h]; rfl
theorem stateB_eq {sz vs : List Int} (h : vs.length = sz.length) : stateB sz vs = upB (fun i => hasB sz (i : Int) (vs.getD i 0)) vs.length := by rw [stateB, decide_eq_true h, Bool.true_and]
set_option maxHeartbeats 1000000 in
theorem impl_isState {sa ta ra va : Option Addr} {sn sc tn tc rn rc vn vc : Nat} {sz vs : List Int} {w : World} (hI : Ints w sa sn sc sz) (hV : Ints w va vn vc vs) (hn : sn ≤ 1048576) (hv : vn ≤ 1048576) (hs : allIn 1 32 sz = true) :
    Calls Try.prog 49 #[.agg #[.slice sa sn sc, .slice ta tn tc, .slice ra rn rc], .slice va vn vc] w fun e w' => e = .returned (.bool (stateB sz vs)) ∧ Below w.heap.size w w' := by
  have hl := hI.len
  have hvl := hV.len
  have HI := Lib.hid hI
  have HV := Lib.hid hV
  have HS := Lib.hid hs
  clear hI hV hs
  by_cases hne : vn = sn
  · subst hne
    have hd : ((vn : Int) != (vn : Int)) = false := by simp
    have HB := Lib.hid (stateB_eq (sz := sz) (vs := vs) (by omega))
    have X := Lib.hid (Blk.made w #[.slice sa vn sc, .slice ta tn tc, .slice ra rn rc] 31)
    obtain ⟨wA, hwA⟩ : ∃ wA : World, wA = w.alloc (.cells #[.slice sa vn sc, .slice ta tn tc, .slice ra rn rc] 31) := ⟨_, rfl⟩
    have hbA : Below w.heap.size w wA := by rw [hwA]; repeat (first | exact Below.refl _ _ | assumption | refine below_allocS ?_ _ | refine below_callS ?_ (by assumption) | (refine Below.alloc ?_ (by first | omega | (simp; done) | (simp; omega)) _) | (refine Below.setCell ?_ (by first | omega | (simp; done) | (simp; omega)) _) | refine Below.drew ?_ | refine below_drewN ?_ _ | (refine below_call ?_ (by assumption) (by first | omega | (simp; done) | (simp; omega))) | (refine Below.trans ?_ (by assumption)))
    rw [← hwA] at X
    have HwA := Lib.hid hwA
    have HL := Lib.hid hvl
    clear hwA hvl hl
    go_enter Try.func49, Try.ntmps49
    go_wp2_with fail
    rw [← HwA.out]
    clear HwA
    go_loopw [15] (fun s15 wr => ∃ k : Nat, s15 = .int .i64 k ∧ k ≤ vn ∧ Below w.heap.size w wr ∧ Hid (upB (fun i => hasB sz (i : Int) (vs.getD i 0)) k = true) ∧ Hid (Blk wr w.heap.size #[.slice sa vn sc, .slice ta tn tc, .slice ra rn rc] 31)) (fun s15 _ => vn - (intOf s15).toNat)
    case atStart => exact ⟨0, rfl, by omega, hbA, Lib.hid (upB_zero _), X⟩
    case round =>
      clear X hbA
      obtain ⟨k, rfl, hk, hbl, A, X⟩ := hrel
      by_cases hlt : k < vn
      · have hlt' : (k : Int) < (vn : Int) := by omega
        have hk0 : (0 : Int) ≤ (k : Int) := by omega
        obtain ⟨b, off, x, rfl, hb, hx, hcell, hwf⟩ := (HV.out.keep hbl).at hlt
        have Hx := Lib.hid (getD_of hx)
        clear hx
        have x0 := X.out.cell 0
        have x1 := X.out.cell 1
        have x2 := X.out.cell 2
        have xl := X.out.lt
        simp at x0 x1 x2
        have hcall := impl_has (v := (k : Int)) (x := x) (ta := ta) (tn := tn) (tc := tc) (ra := ra) (rn := rn) (rc := rc) (HI.out.keep hbl) hn HS.out
        cases hq : hasB sz (k : Int) x
        all_goals
          rw [hq] at hcall
          have HC := Lib.hid hcall
          have HQ := Lib.hid hq
          clear hcall hq
          go_wp2_with fail
          refine Calls.mono HC.out ?_
          rintro e w1 ⟨rfl, hb1⟩
          have X := Lib.hid (X.out.keep hb1)
          replace hbl : Below w.heap.size w w1 := below_callS hbl hb1
          clear hb1 x0 x1 x2 xl
        · go_wp2
          go_ret
          exact ⟨ret_bool (by rw [HB.out, HL.out, upB_false hlt (by rw [Hx.out]; exact HQ.out)]), hbl⟩
        · go_wp2_with fail
          go_roundw
          case rel => exact ⟨k + 1, by go_num, by omega, hbl, Lib.hid (upB_step A.out (by rw [Hx.out]; exact HQ.out)), X⟩
          case measure => simp [intOf]; omega
      · obtain rfl : vn = k := by omega
        have hlt' : ¬ (vn : Int) < (vn : Int) := by omega
        go_wp2
        go_ret
        exact ⟨ret_bool (by rw [HB.out, HL.out, A.out]), hbl⟩
  · have hd : ((vn : Int) != (sn : Int)) = true := by rw [bne_iff_ne]; omega
    have HB := Lib.hid (stateB_ne (sz := sz) (vs := vs) (by omega))
    clear hne hl hvl
    go_enter Try.func49, Try.ntmps49
    go_wp2
    go_ret
    exact ⟨ret_bool HB.out.symm, by repeat (first | exact Below.refl _ _ | assumption | refine below_allocS ?_ _ | refine below_callS ?_ (by assumption) | (refine Below.alloc ?_ (by first | omega | (simp; done) | (simp; omega)) _) | (refine Below.setCell ?_ (by first | omega | (simp; done) | (simp; omega)) _) | refine Below.drew ?_ | refine below_drewN ?_ _ | (refine below_call ?_ (by assumption) (by first | omega | (simp; done) | (simp; omega))) | (refine Below.trans ?_ (by assumption)))⟩
set_option maxHeartbeats 1000000 in
theorem spec_l20State {sa ta ra va : Option Addr} {sn sc tn tc rn rc vn vc : Nat} {sz vs : List Int} {w : World} (hI : Ints w sa sn sc sz) (hV : Ints w va vn vc vs) (hn : sn ≤ 1048576) (hv : vn ≤ 1048576) (hs : allIn 1 32 sz = true) :
    Calls Try.prog 54 #[.agg #[.slice sa sn sc, .slice ta tn tc, .slice ra rn rc], .slice va vn vc] w fun e w' => e = .returned (.bool (stateB sz vs)) ∧ Below w.heap.size w w' := by
  have hl := hI.len
  have hvl := hV.len
  have HI := Lib.hid hI
  have HV := Lib.hid hV
  have HS := Lib.hid hs
  clear hI hV hs
  have X := Lib.hid (Blk.made w #[.slice sa sn sc, .slice ta tn tc, .slice ra rn rc] 31)
  obtain ⟨wA, hwA⟩ : ∃ wA : World, wA = w.alloc (.cells #[.slice sa sn sc, .slice ta tn tc, .slice ra rn rc] 31) := ⟨_, rfl⟩
  have hbA : Below w.heap.size w wA := by rw [hwA]; repeat (first | exact Below.refl _ _ | assumption | refine below_allocS ?_ _ | refine below_callS ?_ (by assumption) | (refine Below.alloc ?_ (by first | omega | (simp; done) | (simp; omega)) _) | (refine Below.setCell ?_ (by first | omega | (simp; done) | (simp; omega)) _) | refine Below.drew ?_ | refine below_drewN ?_ _ | (refine below_call ?_ (by assumption) (by first | omega | (simp; done) | (simp; omega))) | (refine Below.trans ?_ (by assumption)))
  rw [← hwA] at X
  have HwA := Lib.hid hwA
  have HLV := Lib.hid hvl
  have HLS := Lib.hid hl
  clear hwA hvl hl
  go_enter Try.func54, Try.ntmps54
  go_wp2_with fail
  rw [← HwA.out]
  clear HwA
  go_loopw [5] (fun s5 wr => ∃ k : Nat, s5 = .int .i64 k ∧ k ≤ vn ∧ k ≤ sn ∧ Below w.heap.size w wr ∧ Hid (upB (fun i => hasB sz (i : Int) (vs.getD i 0)) k = true) ∧ Hid (Blk wr w.heap.size #[.slice sa sn sc, .slice ta tn tc, .slice ra rn rc] 31)) (fun s5 _ => vn - (intOf s5).toNat)
  case atStart => exact ⟨0, rfl, by omega, by omega, hbA, Lib.hid (upB_zero _), X⟩
  case round =>
    clear X hbA
    obtain ⟨k, rfl, hk, hks, hbl, A, X⟩ := hrel
    have x0 := X.out.cell 0
    have x1 := X.out.cell 1
    have x2 := X.out.cell 2
    have xl := X.out.lt
    simp at x0 x1 x2
    by_cases hlt : k < vn
    · have hlt' : (k : Int) < (vn : Int) := by omega
      have hk0 : (0 : Int) ≤ (k : Int) := by omega
      by_cases hls : k < sn
      · have hls' : (k : Int) < (sn : Int) := by omega
        obtain ⟨b, off, x, rfl, hb, hx, hcell, hwf⟩ := (HV.out.keep hbl).at hlt
        obtain ⟨b', off', z, rfl, hb', hz, hcell', hwf'⟩ := (HI.out.keep hbl).at hls
        have hz12 := allIn_at HS.out hz
        have hz1 := hz12.1
        have hz2 := hz12.2
        have e2 : IntKind.i64.wrap (z - 1) = z - 1 := IntWalk.i64_in _ (by omega)
        have hhas := hasB_yes (x := x) hz
        have Hx := Lib.hid (getD_of hx)
        have hin := fun (wx : World) => (spec_l01In (x := x) (lo := 0) (hi := z - 1) (w := wx)).mono (fun e w' h => (⟨h.1, h.2.symm⟩ : e = .returned (.bool (inB x 0 (z - 1))) ∧ w' = wx))
        cases hq : inB x 0 (z - 1)
        all_goals
          rw [hq] at hin hhas
          have HH := Lib.hid hhas
          have HIN := Lib.hid hin
          clear hx hz hz12 hq hhas hin
          go_wp2_with fail
          go_quiet ((go_at_call 53; exact Calls.quiet_of_same (HIN.out _)))
        · go_wp2
          go_ret
          refine ⟨ret_bool ?_, below_drewN hbl _⟩
          by_cases hne : vn = sn
          · rw [stateB_eq (by rw [HLV.out, HLS.out, hne]), HLV.out, upB_false hlt (by rw [Hx.out]; exact HH.out)]
          · rw [stateB_ne (by rw [HLV.out, HLS.out]; exact hne)]
        · go_wp2_with fail
          go_roundw
          case rel => exact ⟨k + 1, by go_num, by omega, by omega, below_drewN hbl _, Lib.hid (upB_step A.out (by rw [Hx.out]; exact HH.out)), Lib.hid X.out⟩
          case measure => simp [intOf]; omega
      · obtain rfl : sn = k := by omega
        have hls' : ¬ (sn : Int) < (sn : Int) := by omega
        have hd : ((vn : Int) == (sn : Int)) = false := by rw [beq_eq_false_iff_ne]; omega
        go_wp2
        go_ret
        exact ⟨ret_bool (by rw [stateB_ne (by rw [HLV.out, HLS.out]; omega)]), hbl⟩
    · obtain rfl : vn = k := by omega
      have hlt' : ¬ (vn : Int) < (vn : Int) := by omega
      by_cases hne : vn = sn
      · have hd : ((vn : Int) == (sn : Int)) = true := by rw [beq_iff_eq]; omega
        have HB := Lib.hid (show stateB sz vs = true by rw [stateB_eq (by rw [HLV.out, HLS.out, hne]), HLV.out, A.out])
        clear hne
        go_wp2
        go_ret
        exact ⟨ret_bool HB.out.symm, hbl⟩
      · have hd : ((vn : Int) == (sn : Int)) = false := by rw [beq_eq_false_iff_ne]; omega
        have HB := Lib.hid (show stateB sz vs = false by rw [stateB_ne (by rw [HLV.out, HLS.out]; exact hne)])
        clear hne
        go_wp2
        go_ret
        exact ⟨ret_bool HB.out.symm, hbl⟩
end Go.Proofs.Ytfhogleillgcgaa
