/- Valid models, walked: IsModel of the program. -/
import Derived.Test.YtcnjnkjnpfpaeaaL20h
namespace Go.Proofs.Ytcnjnkjnpfpaeaa
open Go.RowKit
set_option linter.unusedVariables false
set_option linter.unusedSimpArgs false
set_option maxHeartbeats 2000000 in
theorem impl_IsModel {sa ta ra : Option Addr} {sn sc tn tc rn rc : Nat} {sz st : List Int} {l : List (RM × RuD)} {w : World} (hI : Ints w sa sn sc sz) (hn : sn ≤ 1048576) (hT : Ints w ta tn tc st) (ht : tn ≤ 1048576) (hR : FR w w ra rn rc l) (hr : rn ≤ 1048576) :
    Calls Try.prog 28 #[.agg #[.slice sa sn sc, .slice ta tn tc, .slice ra rn rc]] w fun e w' => e = .returned (.bool (modelB sz st l)) ∧ Below w.heap.size w w' := by
  have hil := hI.len
  have hrl := hR.len
  have HM := Lib.hid (show modelB sz st l = (inB (sn : Int) 1 16 && (allIn 1 32 sz && (stateB sz st && (decide (rn ≤ 200) && rulesB sz l)))) by rw [modelB, hil, hrl])
  have hB := Blk.made w #[.slice sa sn sc, .slice ta tn tc, .slice ra rn rc] 27
  have hbA : Below w.heap.size w (w.alloc (.cells #[.slice sa sn sc, .slice ta tn tc, .slice ra rn rc] 27)) := (Below.refl _ _).alloc (Nat.le_refl _) _
  obtain ⟨wA, hwA⟩ : ∃ wA : World, wA = w.alloc (.cells #[.slice sa sn sc, .slice ta tn tc, .slice ra rn rc] 27) := ⟨_, rfl⟩
  rw [← hwA] at hB hbA
  have HwA := Lib.hid hwA
  have X := Lib.hid hB
  clear hwA hB hil hrl
  have x0 := X.out.cell 0
  have x1 := X.out.cell 1
  have x2 := X.out.cell 2
  have xl := X.out.lt
  simp at x0 x1 x2
  cases h1 : inB (sn : Int) 1 16
  · have H1 := Lib.hid h1
    clear h1 hI hT hR
    go_enter Try.func28, Try.ntmps28
    go_wp2_with fail
    rw [← HwA.out]
    go_wp2_with fail
    refine Calls.mono (impl_length_i64) ?_
    rintro e _ ⟨rfl, rfl⟩
    go_wp2_with fail
    refine Calls.mono (impl_within) ?_
    rintro e _ ⟨rfl, rfl⟩
    rw [H1.out]
    go_wp2
    go_ret
    exact ⟨ret_bool (by rw [HM.out, H1.out]; rfl), hbA⟩
  · have H1 := Lib.hid h1
    clear h1
    have hcf := slices_ContainsFunc_i64 (g := 44) (lb := #[]) (p := fun x => !inB x 1 32) (w := wA) (enters_of Try.func44 (by kernel_rfl) rfl) (fun W x hx hb => Calls.mono (impl_IsModel_1 (x := x) (w := W)) (fun e w' h => ⟨h.1, h.2 ▸ Below.refl _ _⟩)) (hI.keep hbA) hn
    rw [allIn_any] at hcf
    cases h2 : allIn 1 32 sz
    · rw [h2] at hcf
      have H2 := Lib.hid h2
      have HCF := Lib.hid hcf
      clear h2 hI hT hR hcf
      go_enter Try.func28, Try.ntmps28
      go_wp2_with fail
      rw [← HwA.out]
      go_wp2_with fail
      refine Calls.mono (impl_length_i64) ?_
      rintro e _ ⟨rfl, rfl⟩
      go_wp2_with fail
      refine Calls.mono (impl_within) ?_
      rintro e _ ⟨rfl, rfl⟩
      rw [H1.out]
      go_wp2_with fail
      refine Calls.mono HCF.out ?_
      rintro e w1 ⟨rfl, hb1⟩
      go_wp2
      go_ret
      exact ⟨ret_bool (by rw [HM.out, H1.out, H2.out]; rfl), below_call hbA hb1 hbA.size⟩
    · rw [h2] at hcf
      have HS := Lib.hid (fun (wx : World) (hb : Below w.heap.size w wx) => impl_isState (ta := ta) (tn := tn) (tc := tc) (ra := ra) (rn := rn) (rc := rc) (hI.keep hb) (hT.keep hb) hn ht h2)
      have HP := Lib.hid (fun (wx : World) (hb : Below w.heap.size w wx) (hB : Blk wx w.heap.size #[.slice sa sn sc, .slice ta tn tc, .slice ra rn rc] 27) => slices_ContainsFunc_Rule (g := 46) (lb := #[.pointer (some ⟨w.heap.size, 0, none⟩)]) (p := fun x => !ruleB sz x.2) (w := wx) (w0 := w) (enters_of Try.func46 (by kernel_rfl) rfl) (fun W x hx hb' => impl_IsModel_2 (hB.keep hb') (hI.keep (below_callS hb hb')) hn h2 hx (below_callS hb hb')) (Flats.keep hR hb) hr)
      have H2 := Lib.hid h2
      have HCF := Lib.hid hcf
      clear h2 hI hT hR hcf
      have hst := HS.out
      cases h3 : stateB sz st
      · rw [h3] at hst
        have H3 := Lib.hid h3
        have HST := Lib.hid hst
        clear h3 hst
        go_enter Try.func28, Try.ntmps28
        go_wp2_with fail
        rw [← HwA.out]
        go_wp2_with fail
        refine Calls.mono (impl_length_i64) ?_
        rintro e _ ⟨rfl, rfl⟩
        go_wp2_with fail
        refine Calls.mono (impl_within) ?_
        rintro e _ ⟨rfl, rfl⟩
        rw [H1.out]
        go_wp2_with fail
        refine Calls.mono HCF.out ?_
        rintro e w1 ⟨rfl, hb1⟩
        have hbl1 : Below w.heap.size w w1 := below_call hbA hb1 hbA.size
        have X1 := Lib.hid (X.out.keep hb1)
        clear x0 x1 x2 xl hb1
        have x0 := X1.out.cell 0
        have x1 := X1.out.cell 1
        have x2 := X1.out.cell 2
        have xl := X1.out.lt
        simp at x0 x1 x2
        go_wp2_with fail
        refine Calls.mono (HST.out _ hbl1) ?_
        rintro e w2 ⟨rfl, hb2⟩
        go_wp2
        go_ret
        exact ⟨ret_bool (by rw [HM.out, H1.out, H2.out, H3.out]; rfl), below_callS hbl1 hb2⟩
      · rw [h3] at hst
        have H3 := Lib.hid h3
        have HST := Lib.hid hst
        clear h3 hst
        by_cases h4 : rn ≤ 200
        · have h4' : (rn : Int) ≤ 200 := by omega
          have H4 := Lib.hid (decide_eq_true h4)
          have hp := HP.out
          rw [show (l.any fun x => !ruleB sz x.2) = !rulesB sz l by rw [rulesB_any, Bool.not_not]] at hp
          cases h5 : rulesB sz l
          all_goals
            rw [h5] at hp
            have H5 := Lib.hid h5
            have HPP := Lib.hid hp
            clear h5 hp
            go_enter Try.func28, Try.ntmps28
            go_wp2_with fail
            rw [← HwA.out]
            go_wp2_with fail
            refine Calls.mono (impl_length_i64) ?_
            rintro e _ ⟨rfl, rfl⟩
            go_wp2_with fail
            refine Calls.mono (impl_within) ?_
            rintro e _ ⟨rfl, rfl⟩
            rw [H1.out]
            go_wp2_with fail
            refine Calls.mono HCF.out ?_
            rintro e w1 ⟨rfl, hb1⟩
            have hbl1 : Below w.heap.size w w1 := below_call hbA hb1 hbA.size
            have X1 := Lib.hid (X.out.keep hb1)
            clear x0 x1 x2 xl hb1
            have x0 := X1.out.cell 0
            have x1 := X1.out.cell 1
            have x2 := X1.out.cell 2
            have xl := X1.out.lt
            simp at x0 x1 x2
            go_wp2_with fail
            refine Calls.mono (HST.out _ hbl1) ?_
            rintro e w2 ⟨rfl, hb2⟩
            have hbl2 : Below w.heap.size w w2 := below_callS hbl1 hb2
            have X2 := Lib.hid (X1.out.keep hb2)
            clear x0 x1 x2 xl hb2 hbl1
            have x0 := X2.out.cell 0
            have x1 := X2.out.cell 1
            have x2 := X2.out.cell 2
            have xl := X2.out.lt
            simp at x0 x1 x2
            go_wp2_with fail
            refine Calls.mono (HPP.out _ hbl2 X2.out) ?_
            rintro e w3 ⟨rfl, hb3⟩
            go_wp2
            go_ret
            exact ⟨ret_bool (by rw [HM.out, H1.out, H2.out, H3.out, H4.out, H5.out]; rfl), below_callS hbl2 hb3⟩
        · have h4' : ¬ (rn : Int) ≤ 200 := by omega
          have H4 := Lib.hid (decide_eq_false h4)
          clear HP
          go_enter Try.func28, Try.ntmps28
          go_wp2_with fail
          rw [← HwA.out]
          go_wp2_with fail
          refine Calls.mono (impl_length_i64) ?_
          rintro e _ ⟨rfl, rfl⟩
          go_wp2_with fail
          refine Calls.mono (impl_within) ?_
          rintro e _ ⟨rfl, rfl⟩
          rw [H1.out]
          go_wp2_with fail
          refine Calls.mono HCF.out ?_
          rintro e w1 ⟨rfl, hb1⟩
          have hbl1 : Below w.heap.size w w1 := below_call hbA hb1 hbA.size
          have X1 := Lib.hid (X.out.keep hb1)
          clear x0 x1 x2 xl hb1
          have x0 := X1.out.cell 0
          have x1 := X1.out.cell 1
          have x2 := X1.out.cell 2
          have xl := X1.out.lt
          simp at x0 x1 x2
          go_wp2_with fail
          refine Calls.mono (HST.out _ hbl1) ?_
          rintro e w2 ⟨rfl, hb2⟩
          have hbl2 : Below w.heap.size w w2 := below_callS hbl1 hb2
          have X2 := Lib.hid (X1.out.keep hb2)
          clear x0 x1 x2 xl hb2 hbl1
          have x2 := X2.out.cell 2
          have xl := X2.out.lt
          simp at x2
          go_wp2
          go_ret
          exact ⟨ret_bool (by rw [HM.out, H1.out, H2.out, H3.out, H4.out]; rfl), hbl2⟩
end Go.Proofs.Ytcnjnkjnpfpaeaa
