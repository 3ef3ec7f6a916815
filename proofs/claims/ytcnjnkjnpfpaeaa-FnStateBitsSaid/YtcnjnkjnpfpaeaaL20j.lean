/- Valid models, walked: IsModel of the reference. -/
import Derived.Test.YtcnjnkjnpfpaeaaL20i
namespace Go.Proofs.Ytcnjnkjnpfpaeaa
open Go.RowKit
set_option linter.unusedVariables false
set_option linter.unusedSimpArgs false
set_option maxHeartbeats 4000000 in
theorem spec_IsModel {sa ta ra : Option Addr} {sn sc tn tc rn rc : Nat} {sz st : List Int} {l : List (RM × RuD)} {w : World} (hI : Ints w sa sn sc sz) (hn : sn ≤ 1048576) (hT : Ints w ta tn tc st) (ht : tn ≤ 1048576) (hR : FR w w ra rn rc l) (hr : rn ≤ 1048576) :
    Calls Try.prog 25 #[.agg #[.slice sa sn sc, .slice ta tn tc, .slice ra rn rc]] w fun e w' => e = .returned (.bool (modelB sz st l)) ∧ Below w.heap.size w w' := by
  have hil := hI.len
  have hrl := hR.len
  have HM := Lib.hid (show modelB sz st l = (inB (sn : Int) 1 16 && (allIn 1 32 sz && (stateB sz st && (decide (rn ≤ 200) && rulesB sz l)))) by rw [modelB, hil, hrl])
  have HA := Lib.hid (show allIn 1 32 sz = sz.all (fun x => inB x 1 32) from rfl)
  have HIL := Lib.hid hil
  have HRL := Lib.hid hrl
  have hB := Blk.made w #[.slice sa sn sc, .slice ta tn tc, .slice ra rn rc] 27
  have hbA : Below w.heap.size w (w.alloc (.cells #[.slice sa sn sc, .slice ta tn tc, .slice ra rn rc] 27)) := (Below.refl _ _).alloc (Nat.le_refl _) _
  obtain ⟨wA, hwA⟩ : ∃ wA : World, wA = w.alloc (.cells #[.slice sa sn sc, .slice ta tn tc, .slice ra rn rc] 27) := ⟨_, rfl⟩
  rw [← hwA] at hB hbA
  have HwA := Lib.hid hwA
  have X := Lib.hid hB
  have HI := Lib.hid hI
  have HT := Lib.hid hT
  have HR := Lib.hid hR
  clear hwA hB hil hrl hI hT hR
  go_enter Try.func25, Try.ntmps25
  go_wp2_with fail
  rw [← HwA.out]
  clear HwA
  go_loopw [3] (fun s3 wr => ∃ k : Nat, s3 = .int .i64 k ∧ k ≤ sn ∧ Below w.heap.size w wr ∧ Hid ((sz.take k).all (fun x => inB x 1 32) = true) ∧ Hid (Blk wr w.heap.size #[.slice sa sn sc, .slice ta tn tc, .slice ra rn rc] 27)) (fun s3 _ => sn - (intOf s3).toNat)
  case atStart => exact ⟨0, rfl, by omega, hbA, Lib.hid rfl, X⟩
  case round =>
    clear X hbA
    obtain ⟨k, rfl, hk, hbl, A, X⟩ := hrel
    have x0 := X.out.cell 0
    have x1 := X.out.cell 1
    have x2 := X.out.cell 2
    have xl := X.out.lt
    simp at x0 x1 x2
    by_cases hlt : k < sn
    · have hlt' : (k : Int) < (sn : Int) := by omega
      have hk0 : (0 : Int) ≤ (k : Int) := by omega
      obtain ⟨b, off, x, rfl, hb, hx, hcell, hwf⟩ := (HI.out.keep hbl).at hlt
      have Hx := Lib.hid hx
      clear hx
      cases hq : inB x 1 32
      all_goals
        have HQ := Lib.hid hq
        clear hq
        go_wp2_with fail
        go_wp2_with fail
        refine Calls.mono (spec_l01In) ?_
        rintro e _ ⟨rfl, rfl⟩
        rw [HQ.out]
      · go_wp2
        go_ret
        exact ⟨ret_bool (by rw [HM.out, HA.out, all_take_false Hx.out HQ.out]; simp), hbl⟩
      · go_wp2_with fail
        go_roundw
        case rel => exact ⟨k + 1, by go_num, by omega, hbl, Lib.hid (all_take_step Hx.out A.out HQ.out), X⟩
        case measure => simp [intOf]; omega
    · obtain rfl : sn = k := by omega
      have hlt' : ¬ (sn : Int) < (sn : Int) := by omega
      have h2 : allIn 1 32 sz = true := by rw [HA.out]; have := A.out; rwa [take_len HIL.out] at this
      have H2 := Lib.hid h2
      have hst := spec_l20State (ta := ta) (tn := tn) (tc := tc) (ra := ra) (rn := rn) (rc := rc) (HI.out.keep hbl) (HT.out.keep hbl) hn ht h2
      clear A h2
      cases h1 : inB (sn : Int) 1 16
      · have H1 := Lib.hid h1
        clear h1 hst
        go_wp2_with fail
        go_wp2_with fail
        refine Calls.mono (spec_l01In) ?_
        rintro e _ ⟨rfl, rfl⟩
        rw [H1.out]
        go_wp2
        go_ret
        exact ⟨ret_bool (by rw [HM.out, H1.out]; rfl), hbl⟩
      · have H1 := Lib.hid h1
        clear h1
        cases h3 : stateB sz st
        · rw [h3] at hst
          have H3 := Lib.hid h3
          have HST := Lib.hid hst
          clear h3 hst
          go_wp2_with fail
          go_wp2_with fail
          refine Calls.mono (spec_l01In) ?_
          rintro e _ ⟨rfl, rfl⟩
          rw [H1.out]
          go_wp2_with fail
          refine Calls.mono HST.out ?_
          rintro e w2 ⟨rfl, hb2⟩
          go_wp2
          go_ret
          exact ⟨ret_bool (by rw [HM.out, H1.out, H2.out, H3.out]; rfl), below_callS hbl hb2⟩
        · rw [h3] at hst
          have H3 := Lib.hid h3
          have HST := Lib.hid hst
          clear h3 hst
          by_cases h4 : rn ≤ 200
          · have h4' : ¬ (200 : Int) < (rn : Int) := by omega
            have h4'' : ¬ 200 < rn := by omega
            have HB := Lib.hid (show modelB sz st l = rulesB sz l by rw [HM.out, H1.out, H2.out, H3.out, decide_eq_true h4]; simp)
            go_wp2_with fail
            go_wp2_with fail
            refine Calls.mono (spec_l01In) ?_
            rintro e _ ⟨rfl, rfl⟩
            rw [H1.out]
            go_wp2_with fail
            refine Calls.mono HST.out ?_
            rintro e w2 ⟨rfl, hb2⟩
            have hbl2 : Below w.heap.size w w2 := below_callS hbl hb2
            have X2 := Lib.hid (X.out.keep hb2)
            clear x0 x1 x2 xl hb2 hbl X
            have x2 := X2.out.cell 2
            have xl := X2.out.lt
            simp at x2
            go_wp2_with fail
            clear x2 xl
            go_loopw [4] (fun s4 wr => ∃ i : Nat, s4 = .int .i64 i ∧ i ≤ rn ∧ Below w.heap.size w wr ∧ Hid ((l.take i).all (fun x => ruleB sz x.2) = true) ∧ Hid (Blk wr w.heap.size #[.slice sa sn sc, .slice ta tn tc, .slice ra rn rc] 27)) (fun s4 _ => rn - (intOf s4).toNat)
            case atStart => exact ⟨0, rfl, by omega, hbl2, Lib.hid rfl, X2⟩
            case round =>
              clear X2 hbl2
              obtain ⟨i, rfl, hi, hbl, A, X⟩ := hrel
              have x0 := X.out.cell 0
              have x1 := X.out.cell 1
              have x2 := X.out.cell 2
              have xl := X.out.lt
              simp at x0 x1 x2
              by_cases hil : i < rn
              · have hil' : (i : Int) < (rn : Int) := by omega
                have hi0 : (0 : Int) ≤ (i : Int) := by omega
                obtain ⟨b', off', R, r, rfl, hb', hx, hwf, c0, c1, c2⟩ := FR.get (Flats.keep HR.out hbl) hil
                obtain ⟨e1, hs2, hg, hgn, he, hen⟩ := hwf
                simp only at e1 hs2 hg hgn he hen
                have hcall := fun (wx : World) (hb : Below w.heap.size w wx) => spec_l20Rule (r := r) (ta := ta) (tn := tn) (tc := tc) (ra := some ⟨b', off', none⟩) (rn := rn) (rc := rc) (HI.out.keep hb) hn H2.out (hg.keep hb) hgn (he.keep hb) hen hs2
                rw [← e1] at hcall
                have Hx := Lib.hid hx
                clear hx hg he e1 hs2
                cases hq : ruleB sz r
                all_goals
                  rw [hq] at hcall
                  have HQ := Lib.hid hq
                  have HC := Lib.hid hcall
                  clear hq hcall
                  go_wp2_with fail
                  go_region_held3 (fun wx => wx.cell? ⟨b', off' + i * 3, none⟩ = some (.string R.nm) ∧ wx.cell? ⟨b', off' + i * 3 + 1, none⟩ = some (.slice R.ga R.gn R.gc) ∧ wx.cell? ⟨b', off' + i * 3 + 2, none⟩ = some (.slice R.ea R.en R.ec) ∧ wx.cell? ⟨w.heap.size, 0, none⟩ = some (.slice sa sn sc) ∧ wx.cell? ⟨w.heap.size, 1, none⟩ = some (.slice ta tn tc) ∧ wx.cell? ⟨w.heap.size, 2, none⟩ = some (.slice (some ⟨b', off', none⟩) rn rc) ∧ b' < wx.heap.size ∧ w.heap.size < wx.heap.size ∧ Blk wx w.heap.size #[.slice sa sn sc, .slice ta tn tc, .slice (some ⟨b', off', none⟩) rn rc] 27 ∧ Below w.heap.size w wx) (((try go_split_ands); (repeat' apply And.intro) <;> first | assumption | exact Blk.keep (by assumption) hbx | exact Blk.drew (by assumption) | exact Blk.drew (Blk.made _ _ _) | exact Below.drew (by assumption) | exact Below.drew (below_allocS (by first | exact Below.refl _ _ | assumption) _) | exact below_callS (by assumption) hbx | exact below_call (by assumption) hbx (Below.size (by assumption)) | exact (hcx _ _ (by assumption)).trans (by assumption) | omega | (simp [*]; done) | (simp; omega))) (first | (go_at_call 40; refine Calls.mono (HC.out _ (by first | assumption | (go_split_ands; assumption))) ?_; rintro e wx2 ⟨rfl, hbx⟩; obtain ⟨hcx, hfx⟩ := bcell hbx; have hsx := hbx.size))
                  go_split_ands
                · go_wp2
                  go_ret
                  exact ⟨ret_bool (by rw [HB.out, rulesB, all_take_false (p := fun x => ruleB sz x.2) Hx.out HQ.out]), by assumption⟩
                · go_wp2_with fail
                  go_roundw
                  case rel => exact ⟨i + 1, by go_num, by omega, by assumption, Lib.hid (all_take_step (p := fun x => ruleB sz x.2) Hx.out A.out HQ.out), Lib.hid (by assumption)⟩
                  case measure => simp [intOf]; omega
              · obtain rfl : rn = i := by omega
                have hil' : ¬ (rn : Int) < (rn : Int) := by omega
                have HRB := Lib.hid (show rulesB sz l = true by rw [rulesB]; have := A.out; rwa [take_len HRL.out] at this)
                go_wp2
                go_ret
                exact ⟨ret_bool (by rw [HB.out, HRB.out]), hbl⟩
          · have h4' : (200 : Int) < (rn : Int) := by omega
            have h4'' : 200 < rn := by omega
            have H4 := Lib.hid (decide_eq_false h4)
            go_wp2_with fail
            go_wp2_with fail
            refine Calls.mono (spec_l01In) ?_
            rintro e _ ⟨rfl, rfl⟩
            rw [H1.out]
            go_wp2_with fail
            refine Calls.mono HST.out ?_
            rintro e w2 ⟨rfl, hb2⟩
            have hbl2 : Below w.heap.size w w2 := below_callS hbl hb2
            have X2 := Lib.hid (X.out.keep hb2)
            clear x0 x1 x2 xl hb2 hbl X
            have x2 := X2.out.cell 2
            have xl := X2.out.lt
            simp at x2
            go_wp2
            go_ret
            exact ⟨ret_bool (by rw [HM.out, H1.out, H2.out, H3.out, H4.out]; rfl), hbl2⟩
end Go.Proofs.Ytcnjnkjnpfpaeaa
