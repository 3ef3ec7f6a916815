/- Valid models, walked: IsModel of the reference.; Widths of variables, walked.; Widths of variables, walked: the program.; Widths of variables, walked: lists.; BitsOfModel, both functions walked.; Traffics of layer 10, walked.; Models of the exact laws: what the generated walks of the laws use.; Bits of states: what they are, and the program's small models and codes, walked. -/
import Derived.Test.YtkaikbaagajckaaGreatN07
import Derived.Test.YtkaikbaagajckaaGreatN01
import Derived.Test.YtkaikbaagajckaaGreatSh
import Derived.Test.YtkaikbaagajckaaGreatN02
namespace Go.Proofs.YtkaikbaagajckaaGreat
open Go.RowKit
set_option linter.unusedVariables false
set_option linter.unusedSimpArgs false
set_option maxHeartbeats 4000000 in
theorem spec_IsModel {sa ta ra : Option Addr} {sn sc tn tc rn rc : Nat} {sz st : List Int} {l : List (RM × RuD)} {w : World} (hI : Ints w sa sn sc sz) (hn : sn ≤ 1048576) (hT : Ints w ta tn tc st) (ht : tn ≤ 1048576) (hR : FR w w ra rn rc l) (hr : rn ≤ 1048576) :
    Calls Tryz.prog 61 #[.agg #[.slice sa sn sc, .slice ta tn tc, .slice ra rn rc]] w fun e w' => e = .returned (.bool (modelB sz st l)) ∧ Below w.heap.size w w' := by
  have hil := hI.len
  have hrl := hR.len
  have HM := Lib.hid (show modelB sz st l = (inB (sn : Int) 1 16 && (allIn 1 32 sz && (stateB sz st && (decide (rn ≤ 200) && rulesB sz l)))) by rw [modelB, hil, hrl])
  have HA := Lib.hid (show allIn 1 32 sz = sz.all (fun x => inB x 1 32) from rfl)
  have HIL := Lib.hid hil
  have HRL := Lib.hid hrl
  have hB := Blk.made w #[.slice sa sn sc, .slice ta tn tc, .slice ra rn rc] 36
  have hbA : Below w.heap.size w (w.alloc (.cells #[.slice sa sn sc, .slice ta tn tc, .slice ra rn rc] 36)) := (Below.refl _ _).alloc (Nat.le_refl _) _
  obtain ⟨wA, hwA⟩ : ∃ wA : World, wA = w.alloc (.cells #[.slice sa sn sc, .slice ta tn tc, .slice ra rn rc] 36) := ⟨_, rfl⟩
  rw [← hwA] at hB hbA
  have HwA := Lib.hid hwA
  have X := Lib.hid hB
  have HI := Lib.hid hI
  have HT := Lib.hid hT
  have HR := Lib.hid hR
  clear hwA hB hil hrl hI hT hR
  go_enter Tryz.func61, Tryz.ntmps61
  go_wp2_with fail
  rw [← HwA.out]
  clear HwA
  go_loopw [3] (fun s3 wr => ∃ k : Nat, s3 = .int .i64 k ∧ k ≤ sn ∧ Below w.heap.size w wr ∧ Hid ((sz.take k).all (fun x => inB x 1 32) = true) ∧ Hid (Blk wr w.heap.size #[.slice sa sn sc, .slice ta tn tc, .slice ra rn rc] 36)) (fun s3 _ => sn - (intOf s3).toNat)
  case atStart => exact ⟨0, rfl, by omega, hbA, Lib.hid rfl, X⟩
  case round =>
    clear X hbA
    obtain ⟨k, rfl, hk, hbl, A, X⟩ := hrel
    have x0 := X.out.cell 0
    have x1 := X.out.cell 1
    have x2 := X.out.cell 2
    have xl := X.out.lt
    simp at x0 x1 x2
    by_cases hlt : k < sn
    · have hlt' : (k : Int) < (sn : Int) := by omega
      have hk0 : (0 : Int) ≤ (k : Int) := by omega
      obtain ⟨b, off, x, rfl, hb, hx, hcell, hwf⟩ := (HI.out.keep hbl).at hlt
      have Hx := Lib.hid hx
      clear hx
      cases hq : inB x 1 32
      all_goals
        have HQ := Lib.hid hq
        clear hq
        go_wp2_with fail
        go_wp2_with fail
        refine Calls.mono (spec_l01In) ?_
        rintro e _ ⟨rfl, rfl⟩
        rw [HQ.out]
      · go_wp2
        go_ret
        exact ⟨ret_bool (by rw [HM.out, HA.out, all_take_false Hx.out HQ.out]; simp), hbl⟩
      · go_wp2_with fail
        go_roundw
        case rel => exact ⟨k + 1, by go_num, by omega, hbl, Lib.hid (all_take_step Hx.out A.out HQ.out), X⟩
        case measure => simp [intOf]; omega
    · obtain rfl : sn = k := by omega
      have hlt' : ¬ (sn : Int) < (sn : Int) := by omega
      have h2 : allIn 1 32 sz = true := by rw [HA.out]; have := A.out; rwa [take_len HIL.out] at this
      have H2 := Lib.hid h2
      have hst := spec_l20State (ta := ta) (tn := tn) (tc := tc) (ra := ra) (rn := rn) (rc := rc) (HI.out.keep hbl) (HT.out.keep hbl) hn ht h2
      clear A h2
      cases h1 : inB (sn : Int) 1 16
      · have H1 := Lib.hid h1
        clear h1 hst
        go_wp2_with fail
        go_wp2_with fail
        refine Calls.mono (spec_l01In) ?_
        rintro e _ ⟨rfl, rfl⟩
        rw [H1.out]
        go_wp2
        go_ret
        exact ⟨ret_bool (by rw [HM.out, H1.out]; rfl), hbl⟩
      · have H1 := Lib.hid h1
        clear h1
        cases h3 : stateB sz st
        · rw [h3] at hst
          have H3 := Lib.hid h3
          have HST := Lib.hid hst
          clear h3 hst
          go_wp2_with fail
          go_wp2_with fail
          refine Calls.mono (spec_l01In) ?_
          rintro e _ ⟨rfl, rfl⟩
          rw [H1.out]
          go_wp2_with fail
          refine Calls.mono HST.out ?_
          rintro e w2 ⟨rfl, hb2⟩
          go_wp2
          go_ret
          exact ⟨ret_bool (by rw [HM.out, H1.out, H2.out, H3.out]; rfl), below_callS hbl hb2⟩
        · rw [h3] at hst
          have H3 := Lib.hid h3
          have HST := Lib.hid hst
          clear h3 hst
          by_cases h4 : rn ≤ 200
          · have h4' : ¬ (200 : Int) < (rn : Int) := by omega
            have h4'' : ¬ 200 < rn := by omega
            have HB := Lib.hid (show modelB sz st l = rulesB sz l by rw [HM.out, H1.out, H2.out, H3.out, decide_eq_true h4]; simp)
            go_wp2_with fail
            go_wp2_with fail
            refine Calls.mono (spec_l01In) ?_
            rintro e _ ⟨rfl, rfl⟩
            rw [H1.out]
            go_wp2_with fail
            refine Calls.mono HST.out ?_
            rintro e w2 ⟨rfl, hb2⟩
            have hbl2 : Below w.heap.size w w2 := below_callS hbl hb2
            have X2 := Lib.hid (X.out.keep hb2)
            clear x0 x1 x2 xl hb2 hbl X
            have x2 := X2.out.cell 2
            have xl := X2.out.lt
            simp at x2
            go_wp2_with fail
            clear x2 xl
            go_loopw [4] (fun s4 wr => ∃ i : Nat, s4 = .int .i64 i ∧ i ≤ rn ∧ Below w.heap.size w wr ∧ Hid ((l.take i).all (fun x => ruleB sz x.2) = true) ∧ Hid (Blk wr w.heap.size #[.slice sa sn sc, .slice ta tn tc, .slice ra rn rc] 36)) (fun s4 _ => rn - (intOf s4).toNat)
            case atStart => exact ⟨0, rfl, by omega, hbl2, Lib.hid rfl, X2⟩
            case round =>
              clear X2 hbl2
              obtain ⟨i, rfl, hi, hbl, A, X⟩ := hrel
              have x0 := X.out.cell 0
              have x1 := X.out.cell 1
              have x2 := X.out.cell 2
              have xl := X.out.lt
              simp at x0 x1 x2
              by_cases hil : i < rn
              · have hil' : (i : Int) < (rn : Int) := by omega
                have hi0 : (0 : Int) ≤ (i : Int) := by omega
                obtain ⟨b', off', R, r, rfl, hb', hx, hwf, c0, c1, c2⟩ := FR.get (Flats.keep HR.out hbl) hil
                obtain ⟨e1, hs2, hg, hgn, he, hen⟩ := hwf
                simp only at e1 hs2 hg hgn he hen
                have hcall := fun (wx : World) (hb : Below w.heap.size w wx) => spec_l20Rule (r := r) (ta := ta) (tn := tn) (tc := tc) (ra := some ⟨b', off', none⟩) (rn := rn) (rc := rc) (HI.out.keep hb) hn H2.out (hg.keep hb) hgn (he.keep hb) hen hs2
                rw [← e1] at hcall
                have Hx := Lib.hid hx
                clear hx hg he e1 hs2
                cases hq : ruleB sz r
                all_goals
                  rw [hq] at hcall
                  have HQ := Lib.hid hq
                  have HC := Lib.hid hcall
                  clear hq hcall
                  go_wp2_with fail
                  go_region_held3 (fun wx => wx.cell? ⟨b', off' + i * 3, none⟩ = some (.string R.nm) ∧ wx.cell? ⟨b', off' + i * 3 + 1, none⟩ = some (.slice R.ga R.gn R.gc) ∧ wx.cell? ⟨b', off' + i * 3 + 2, none⟩ = some (.slice R.ea R.en R.ec) ∧ wx.cell? ⟨w.heap.size, 0, none⟩ = some (.slice sa sn sc) ∧ wx.cell? ⟨w.heap.size, 1, none⟩ = some (.slice ta tn tc) ∧ wx.cell? ⟨w.heap.size, 2, none⟩ = some (.slice (some ⟨b', off', none⟩) rn rc) ∧ b' < wx.heap.size ∧ w.heap.size < wx.heap.size ∧ Blk wx w.heap.size #[.slice sa sn sc, .slice ta tn tc, .slice (some ⟨b', off', none⟩) rn rc] 36 ∧ Below w.heap.size w wx) (((try go_split_ands); (repeat' apply And.intro) <;> first | assumption | exact Blk.keep (by assumption) hbx | exact Blk.drew (by assumption) | exact Blk.drew (Blk.made _ _ _) | exact Below.drew (by assumption) | exact Below.drew (below_allocS (by first | exact Below.refl _ _ | assumption) _) | exact below_callS (by assumption) hbx | exact below_call (by assumption) hbx (Below.size (by assumption)) | exact (hcx _ _ (by assumption)).trans (by assumption) | omega | (simp [*]; done) | (simp; omega))) (first | (go_at_call 119; refine Calls.mono (HC.out _ (by first | assumption | (go_split_ands; assumption))) ?_; rintro e wx2 ⟨rfl, hbx⟩; obtain ⟨hcx, hfx⟩ := bcell hbx; have hsx := hbx.size))
                  go_split_ands
                · go_wp2
                  go_ret
                  exact ⟨ret_bool (by rw [HB.out, rulesB, all_take_false (p := fun x => ruleB sz x.2) Hx.out HQ.out]), by assumption⟩
                · go_wp2_with fail
                  go_roundw
                  case rel => exact ⟨i + 1, by go_num, by omega, by assumption, Lib.hid (all_take_step (p := fun x => ruleB sz x.2) Hx.out A.out HQ.out), Lib.hid (by assumption)⟩
                  case measure => simp [intOf]; omega
              · obtain rfl : rn = i := by omega
                have hil' : ¬ (rn : Int) < (rn : Int) := by omega
                have HRB := Lib.hid (show rulesB sz l = true by rw [rulesB]; have := A.out; rwa [take_len HRL.out] at this)
                go_wp2
                go_ret
                exact ⟨ret_bool (by rw [HB.out, HRB.out]), hbl⟩
          · have h4' : (200 : Int) < (rn : Int) := by omega
            have h4'' : 200 < rn := by omega
            have H4 := Lib.hid (decide_eq_false h4)
            go_wp2_with fail
            go_wp2_with fail
            refine Calls.mono (spec_l01In) ?_
            rintro e _ ⟨rfl, rfl⟩
            rw [H1.out]
            go_wp2_with fail
            refine Calls.mono HST.out ?_
            rintro e w2 ⟨rfl, hb2⟩
            have hbl2 : Below w.heap.size w w2 := below_callS hbl hb2
            have X2 := Lib.hid (X.out.keep hb2)
            clear x0 x1 x2 xl hb2 hbl X
            have x2 := X2.out.cell 2
            have xl := X2.out.lt
            simp at x2
            go_wp2
            go_ret
            exact ⟨ret_bool (by rw [HM.out, H1.out, H2.out, H3.out, H4.out]; rfl), hbl2⟩
def wN (z : Int) : Int := if z ≤ 1 then 0 else if z ≤ 2 then 1 else if z ≤ 4 then 2 else if z ≤ 8 then 3 else if z ≤ 16 then 4 else 5
theorem wN_cases {z : Int} (h1 : 1 ≤ z) (h2 : z ≤ 32) : (z = 1 ∧ wN z = 0) ∨ (z = 2 ∧ wN z = 1) ∨ (2 < z ∧ z ≤ 4 ∧ wN z = 2) ∨ (4 < z ∧ z ≤ 8 ∧ wN z = 3) ∨ (8 < z ∧ z ≤ 16 ∧ wN z = 4) ∨ (16 < z ∧ z ≤ 32 ∧ wN z = 5) := by
  unfold wN; omega
theorem wN_len {z : Int} (h1 : 1 ≤ z) (h2 : z ≤ 32) : (Lib.bitLen (z - 1).toNat : Int) = wN z := by
  have h : ∀ k : Fin 32, ((Lib.bitLen k.val : Nat) : Int) = wN ((k.val : Int) + 1) := by decide +kernel
  have := h ⟨(z - 1).toNat, by omega⟩
  simp only at this
  rw [this]; congr 1; omega
set_option maxHeartbeats 1000000 in
theorem spec_l23Width {z : Int} {w : World} (h1 : 1 ≤ z) (h2 : z ≤ 32) : Calls Tryz.prog 149 #[.int .i64 z] w fun e w' => e = .returned (.int .i64 (wN z)) ∧ w = w' := by
  have hc := wN_cases h1 h2
  generalize wN z = r at *
  go_enter Tryz.func149, Tryz.ntmps149
  go_wp2_with fail
  go_loop [3] (fun s3 => ∃ n : Int, s3 = .int .i64 n ∧ 0 ≤ n ∧ n ≤ r) (fun s3 => (r - intOf s3).toNat)
  case atStart => exact ⟨0, rfl, by omega, by omega⟩
  case round =>
    obtain ⟨n, rfl, hn0, hn⟩ := hrel
    by_cases hnr : n < r
    · rcases (show n = 0 ∨ n = 1 ∨ n = 2 ∨ n = 3 ∨ n = 4 by omega) with rfl | rfl | rfl | rfl | rfl
      all_goals
        first | have f0 : (1 : Int) < z := (by omega) | have f0 : ¬ (1 : Int) < z := (by omega) | skip
        first | have f1 : (2 : Int) < z := (by omega) | have f1 : ¬ (2 : Int) < z := (by omega) | skip
        first | have f2 : (4 : Int) < z := (by omega) | have f2 : ¬ (4 : Int) < z := (by omega) | skip
        first | have f3 : (8 : Int) < z := (by omega) | have f3 : ¬ (8 : Int) < z := (by omega) | skip
        first | have f4 : (16 : Int) < z := (by omega) | have f4 : ¬ (16 : Int) < z := (by omega) | skip
        have f5 : ¬ (32 : Int) < z := by omega
        clear hc
        go_wp2_with fail
        go_round
        case rel => exact ⟨_, rfl, by omega, by omega⟩
        case measure => simp [intOf]; omega
    · obtain rfl : n = r := by omega
      rcases (show n = 0 ∨ n = 1 ∨ n = 2 ∨ n = 3 ∨ n = 4 ∨ n = 5 by omega) with rfl | rfl | rfl | rfl | rfl | rfl
      all_goals
        first | have f0 : (1 : Int) < z := (by omega) | have f0 : ¬ (1 : Int) < z := (by omega) | skip
        first | have f1 : (2 : Int) < z := (by omega) | have f1 : ¬ (2 : Int) < z := (by omega) | skip
        first | have f2 : (4 : Int) < z := (by omega) | have f2 : ¬ (4 : Int) < z := (by omega) | skip
        first | have f3 : (8 : Int) < z := (by omega) | have f3 : ¬ (8 : Int) < z := (by omega) | skip
        first | have f4 : (16 : Int) < z := (by omega) | have f4 : ¬ (16 : Int) < z := (by omega) | skip
        have f5 : ¬ (32 : Int) < z := by omega
        clear hc
        go_wp2
        go_ret
        exact ⟨rfl, rfl⟩
theorem sum_take {l : List Int} {k : Nat} {x : Int} (h : l[k]? = some x) : (l.take (k + 1)).sum = (l.take k).sum + x := by
  rw [take_at h, List.sum_append]; simp
set_option maxHeartbeats 1000000 in
theorem impl_sumOf {a : Option Addr} {n c : Nat} {l : List Int} {w : World} (hI : Ints w a n c l) (hn : n ≤ 1048576) (hs : allIn 0 1000000 l = true) :
    Calls Tryz.prog 172 #[.slice a n c] w fun e w' => e = .returned (.int .i64 l.sum) ∧ w = w' := by
  have HI := Lib.hid hI
  have HS := Lib.hid hs
  clear hI hs
  go_enter Tryz.func172, Tryz.ntmps172
  go_wp2
  go_loop [3, 5, 8] (fun s3 _ s8 => ∃ k : Nat, ∃ s : Int, k ≤ n ∧ s8 = .int .i64 k ∧ s3 = .int .i64 s ∧ 0 ≤ s ∧ s ≤ 1000000 * k ∧ Hid ((l.take k).sum = s)) (fun _ _ s8 => n - (intOf s8).toNat)
  case atStart => exact ⟨0, 0, Nat.zero_le _, rfl, rfl, by omega, by omega, rfl⟩
  case round =>
    obtain ⟨k, s, hk, rfl, rfl, hs0, hs1, A⟩ := hrel
    by_cases hlt : k < n
    · obtain ⟨b, off, x, rfl, hb, hx, hcell, hwf⟩ := HI.out.at hlt
      have Hx := Lib.hid hx
      have hx2 := allIn_at HS.out hx
      have hx0 := hx2.1
      have hx1 := hx2.2
      clear hx hx2
      go_wp2
      go_round
      case rel => exact ⟨k + 1, s + x, by omega, by go_num, rfl, by omega, by omega, Lib.hid (by rw [sum_take Hx.out, A.out])⟩
      case measure => simp [intOf]; omega
    · go_wp2
      go_ret
      have e : l.take k = l := take_len (by have := HI.out.len; omega)
      have h1 := A.out
      rw [e] at h1
      exact ⟨ret_int h1.symm, rfl⟩
theorem wl_take {l : List Int} {k : Nat} {x : Int} (h : l[k]? = some x) : (l.take (k + 1)).map wN = (l.take k).map wN ++ [wN x] := by
  rw [take_at h, List.map_append]; rfl
theorem wN_in {z : Int} (h1 : 1 ≤ z) (h2 : z ≤ 32) : 0 ≤ wN z ∧ wN z ≤ 5 := by have := wN_cases h1 h2; omega
theorem wl_in {l : List Int} (h : allIn 1 32 l = true) : allIn 0 1000000 (l.map wN) = true := by
  rw [allIn, List.all_eq_true] at *
  intro x hx
  obtain ⟨z, hz, rfl⟩ := List.mem_map.1 hx
  have h1 := h z hz
  simp [inB] at h1 ⊢
  have := wN_in h1.1 h1.2
  omega
theorem lib_Len64 {z : Int} {w : World} (h1 : 1 ≤ z) (h2 : z ≤ 32) : Calls Tryz.prog 171 #[.int .u64 (z - 1)] w fun e w' => e = .returned (.int .i64 (wN z)) ∧ w = w' := by
  refine Calls.mono (Tryz.bits_Len64 (z - 1) w (by omega) (by omega)) ?_
  rintro e w' ⟨rfl, rfl⟩
  exact ⟨ret_int (wN_len h1 h2), rfl⟩
set_option maxHeartbeats 2000000 in
theorem impl_widths {sa ta ra : Option Addr} {sn sc tn tc rn rc : Nat} {sz : List Int} {w : World} (hI : Ints w sa sn sc sz) (hn : sn ≤ 1048576) (hs : allIn 1 32 sz = true) :
    Calls Tryz.prog 108 #[.agg #[.slice sa sn sc, .slice ta tn tc, .slice ra rn rc]] w fun e w' => ∃ a c, e = .returned (.tuple #[.slice a sn c, .int .i64 (sz.map wN).sum]) ∧ Below w.heap.size w w' ∧ OwnI 2 w' w.heap.size a sn c (sz.map wN) := by
  have HI := Lib.hid hI
  have HS := Lib.hid hs
  clear hI hs
  go_enter Tryz.func108, Tryz.ntmps108
  go_wp2
  go_loopw [4, 6, 10] (fun s4 _ s10 wr => ∃ (k : Nat) (a1 : Option Addr) (c1 : Nat), k ≤ sn ∧ s4 = .slice a1 k c1 ∧ s10 = .int .i64 k ∧ Below w.heap.size w wr ∧ Hid (OwnI 2 wr w.heap.size a1 k c1 ((sz.take k).map wN))) (fun _ _ s10 _ => sn - (intOf s10).toNat)
  case atStart => exact ⟨0, none, 0, Nat.zero_le _, rfl, rfl, bel, Lib.hid (OwnI.nil _ _ _)⟩
  case round =>
    obtain ⟨k, a1, c1, hk, rfl, rfl, hbl, HO⟩ := hrel
    have hsz := hbl.size
    by_cases hlt : k < sn
    · obtain ⟨b, off, z, rfl, hb, hx, hcell, hwf⟩ := (HI.out.keep hbl).at hlt
      have hz2 := allIn_at HS.out hx
      have hz0 := hz2.1
      have hz1 := hz2.2
      have Hx := Lib.hid (wl_take hx)
      have Hw := wN_in hz0 hz1
      have e1 : IntKind.i64.wrap (z - 1) = z - 1 := IntWalk.i64_in _ (by omega)
      clear hx hz2
      go_wp2_with fail
      go_wp2_with fail
      refine Calls.mono ((lib_Len64 hz0 hz1)) ?_
      rintro e _ ⟨rfl, rfl⟩
      go_wp2_with (at_builtin; refine append1_i64 rfl _ _ 22 2 rfl Tryz.underlying22 Tryz.infoi64 w.heap.size _ _ _ _ (HO.out.keep ((Below.refl _ _).alloc (Nat.le_refl _) (.cells #[.int .i64 (wN z)] 2))) rfl wr.heap.size (wN z) rfl (by simp) (by unfold I64; omega) (by omega) (by simp; omega) ?_; intro a2 c2 w2 hown2 hb2 hg2)
      have Hown2 := Lib.hid hown2
      clear hown2
      go_roundw
      case rel => exact ⟨k + 1, a2, c2, by omega, rfl, by go_num, Below.trans bel hb2, Lib.hid (by rw [Hx.out]; exact Hown2.out)⟩
      case measure => simp [intOf]; omega
    · obtain rfl : sn = k := by omega
      have h1 := HO.out
      rw [take_len HI.out.len] at h1
      have hsum := impl_sumOf h1.ints hn (wl_in HS.out)
      have HO2 := Lib.hid h1
      have HSM := Lib.hid hsum
      clear h1 hsum
      go_wp2_with fail
      go_wp2_with fail
      refine Calls.mono (HSM.out) ?_
      rintro e _ ⟨rfl, rfl⟩
      go_wp2
      exact bodyPost_ret (v := .tuple #[.slice a1 sn c1, .int .i64 (sz.map wN).sum]) (by simp [results, Tryz.results108, go_sem]) rfl ⟨a1, c1, rfl, hbl, HO2.out⟩
theorem modelB_all {sz st : List Int} {l : List (RM × RuD)} (h : modelB sz st l = true) : allIn 1 32 sz = true := by
  rw [modelB] at h
  simp only [Bool.and_eq_true] at h
  exact h.2.1

/-- rules as they are meant, laid nowhere -/
def rsM (rs : List RuD) : List (RM × RuD) := rs.map fun r => (⟨r.nm, none, 0, 0, none, 0, 0⟩, r)
theorem rsM_map (rs : List RuD) : (rsM rs).map (·.2) = rs := by simp [rsM, Function.comp_def]
theorem rulesB_map {sz : List Int} {l : List (RM × RuD)} : rulesB sz l = (l.map (·.2)).all (ruleB sz) := by
  rw [rulesB, List.all_map]; rfl
theorem modelB_rs {sz st : List Int} {l : List (RM × RuD)} {rs : List RuD} (h : l.map (·.2) = rs) : modelB sz st l = modelB sz st (rsM rs) := by
  subst h
  rw [modelB, modelB, rulesB_map, rulesB_map, rsM_map]
  simp [rsM]
theorem FX.keepX {w w' : World} {a : Option Addr} {n c : Nat} {l : List (RM × RuD)} (h : FX w w a n c l) (hb : Below w.heap.size w w') : FX w' w' a n c l := by
  have hf := Flats.keep h hb
  exact ⟨hf.len, hf.cap, hf.pos, fun x hx => by obtain ⟨q1, q2, q3, q4, q5, q6⟩ := hf.wf x hx; exact ⟨q1, q2, q3.keep hb, q4, q5.keep hb, q6⟩, hf.nil⟩
theorem need_mem {l : List (RM × RuD)} {x : RM × RuD} (h : x ∈ l) : need1 x ≤ need l := by
  obtain ⟨k, hk⟩ := List.getElem?_of_mem h
  have := need_le hk
  omega
theorem cnt_need {l : List (RM × RuD)} (h : ∀ x ∈ l, x.2.g.length = x.1.gn ∧ x.2.e.length = x.1.en) : cntRu (l.map (·.2)) ≤ l.length + 3 * need l := by
  induction l with
  | nil => simp [cntRu, need]
  | cons x r ih =>
    have h1 := ih fun y hy => h y (List.mem_cons_of_mem _ hy)
    have h2 := h x (List.mem_cons_self ..)
    have e1 : cntRu ((x :: r).map (·.2)) = cnt1 x.2 + cntRu (r.map (·.2)) := by simp [cntRu]
    have e2 : need (x :: r) = need1 x + need r := by simp [need]
    have e3 : cnt1 x.2 = 1 + 3 * x.2.g.length + 2 * x.2.e.length := rfl
    have e4 : need1 x = x.1.nm.size + x.1.gn + x.1.en := rfl
    rw [List.length_cons]
    omega
theorem mrd_of {w : World} {sa : Option Addr} {sn sc : Nat} {ta : Option Addr} {tn tc : Nat} {ra : Option Addr} {rn rc N : Nat} {sz st : List Int} {l : List (RM × RuD)} {rs : List RuD} (hS : Ints w sa sn sc sz) (hT : Ints w ta tn tc st) (hR : FX w w ra rn rc l) (hrs : l.map (·.2) = rs) (hN : sn + tn + (rn + need l) = N) (hn : N ≤ 1048576) : MRd w sa sn sc ta tn tc ra rn rc sz st rs := by
  refine ⟨hS, hT, ⟨l, ⟨hR.len, hR.cap, hR.pos, fun x hx => ?_, hR.nil⟩, hrs⟩, by omega, by omega, by omega⟩
  obtain ⟨q1, q2, q3, q4, q5, q6⟩ := hR.wf x hx
  have h1 := need_mem hx
  have e4 : need1 x = x.1.nm.size + x.1.gn + x.1.en := rfl
  exact ⟨q1, q2, q3, by omega, q5, by omega⟩
theorem cnt_of {w : World} {ra : Option Addr} {sn tn rn rc N : Nat} {l : List (RM × RuD)} {rs : List RuD} (hR : FX w w ra rn rc l) (hrs : l.map (·.2) = rs) (hN : sn + tn + (rn + need l) = N) : cntRu rs ≤ 3 * N := by
  rw [← hrs]
  have h1 := cnt_need (l := l) fun x hx => by
    obtain ⟨q1, q2, q3, q4, q5, q6⟩ := hR.wf x hx
    exact ⟨q3.len, q5.len⟩
  have h2 := hR.len
  omega
theorem laws_szModelN {sa ta ra : Option Addr} {sn sc tn tc rn rc N : Nat} {l : List (RM × RuD)} {m : Int} {w : World} (hR : FX w w ra rn rc l) (hs : (sn : Int) ≤ 9223372036854775807) (ht : (tn : Int) ≤ 9223372036854775807) (hr : (rn : Int) ≤ 9223372036854775807) (hm : 0 ≤ m) (hm' : m ≤ 1048576) (hN : sn + tn + (rn + need l) = N) :
    Calls Tryz.prog 9 #[.agg #[.slice sa sn sc, .slice ta tn tc, .slice ra rn rc], .int .i64 m] w fun e w' => e = .returned (.int .i64 (if m < (N : Int) then -1 else m - N)) ∧ Below w.heap.size w w' := by
  have h := laws_szModel (sa := sa) (sc := sc) (ta := ta) (tc := tc) hR hs ht hr hm hm'
  rw [hN] at h
  exact h
/-- the bit of x at the place m -/
def bitAt (x : Int) (m : Nat) : Int := bits BinOp.and IntKind.i64 (x / 2 ^ m) 1
theorem bitAt_in {x : Int} {m : Nat} (h0 : 0 ≤ x) (h1 : x ≤ 31) (hm : m ≤ 4) : bitAt x m = 0 ∨ bitAt x m = 1 := by
  have h : ∀ a : Fin 32, ∀ b : Fin 5, bitAt (a.val : Int) b.val = 0 ∨ bitAt (a.val : Int) b.val = 1 := by decide +kernel
  have := h ⟨x.toNat, by omega⟩ ⟨m, by omega⟩
  simp only at this
  rw [Int.toNat_of_nonneg h0] at this
  exact this
/-- the bits of x from the place k - 1 down -/
def bitsDn (x : Int) (k : Nat) : List Int := (List.range k).map fun i : Nat => bitAt x (k - 1 - i)
theorem bitsDn_len (x : Int) (k : Nat) : (bitsDn x k).length = k := by simp [bitsDn]
theorem bitsDn_get {x : Int} {k i : Nat} (h : i < k) : (bitsDn x k)[i]? = some (bitAt x (k - 1 - i)) := range_get h
/-- the bits of a state -/
def stBits (sz vs : List Int) : List Int := (vs.zip sz).flatMap fun p => bitsDn p.1 (wN p.2).toNat
theorem stBits_step {sz vs : List Int} {k : Nat} {x z : Int} (hx : vs[k]? = some x) (hz : sz[k]? = some z) : stBits (sz.take (k + 1)) (vs.take (k + 1)) = stBits (sz.take k) (vs.take k) ++ bitsDn x (wN z).toNat := by
  have h : (vs.zip sz)[k]? = some (x, z) := by rw [List.getElem?_zip_eq_some]; exact ⟨hx, hz⟩
  have e : ∀ m, (vs.take m).zip (sz.take m) = (vs.zip sz).take m := fun m => (List.take_zipWith (f := Prod.mk) (l := vs) (l' := sz)).symm
  rw [stBits, stBits, e, e, take_at h, List.flatMap_append]
  simp
theorem stateB_at {sz vs : List Int} {k : Nat} {x z : Int} (h : stateB sz vs = true) (hx : vs[k]? = some x) (hz : sz[k]? = some z) : 0 ≤ x ∧ x ≤ z - 1 := by
  rw [stateB, Bool.and_eq_true] at h
  have h2 := h.2
  rw [upB, List.all_eq_true] at h2
  have h3 := h2 k (by simpa using (List.getElem?_eq_some_iff.1 hx).1)
  rw [getD_of hx, hasB_yes hz] at h3
  simpa [inB] using h3
theorem stateB_len {sz vs : List Int} (h : stateB sz vs = true) : vs.length = sz.length := by
  rw [stateB, Bool.and_eq_true] at h
  exact of_decide_eq_true h.1
theorem modelB_len {sz st : List Int} {l : List (RM × RuD)} (h : modelB sz st l = true) : sz.length ≤ 16 := by
  rw [modelB] at h
  simp only [Bool.and_eq_true] at h
  have := h.1
  simp [inB] at this
  omega
def smB (sz : List Int) : Bool := decide ((sz.map wN).sum ≤ 20)
set_option maxHeartbeats 2000000 in
theorem impl_bitsOf {sa ta ra va : Option Addr} {sn sc tn tc rn rc vn vc : Nat} {sz vs : List Int} {w : World} (hI : Ints w sa sn sc sz) (hV : Ints w va vn vc vs) (hn : sn ≤ 16) (hs : allIn 1 32 sz = true) (hst : stateB sz vs = true) :
    Calls Tryz.prog 101 #[.agg #[.slice sa sn sc, .slice ta tn tc, .slice ra rn rc], .slice va vn vc] w fun e w' => ∃ m a c, e = .returned (.slice a m c) ∧ Below w.heap.size w w' ∧ OwnI 2 w' w.heap.size a m c (stBits sz vs) ∧ m ≤ 80 := by
  obtain rfl : vn = sn := by have := hI.len; have := hV.len; have := stateB_len hst; omega
  have HW := Lib.hid (fun (wx : World) (hb : Below w.heap.size w wx) => impl_widths (ta := ta) (tn := tn) (tc := tc) (ra := ra) (rn := rn) (rc := rc) (hI.keep hb) (by omega) hs)
  have HI := Lib.hid hI
  have HV := Lib.hid hV
  have HS := Lib.hid hs
  have HST := Lib.hid hst
  clear hI hs hV hst
  go_enter Tryz.func101, Tryz.ntmps101
  go_wp2_with fail
  refine Calls.mono (HW.out _ bel) ?_
  rintro e w1 ⟨aw, cw, rfl, hb1, ho⟩
  have hbl1 : Below w.heap.size w w1 := bel
  have HWI := Lib.hid ho.ints
  clear ho hb1
  go_wp2_with fail
  go_loopw [7, 8, 9, 10, 18] (fun s7 _ _ _ s18 wr => ∃ (k m1 : Nat) (a1 : Option Addr) (c1 : Nat), k ≤ vn ∧ s7 = .slice a1 m1 c1 ∧ s18 = .int .i64 k ∧ Below w1.heap.size w1 wr ∧ m1 ≤ 5 * k ∧ Hid (OwnI 2 wr w1.heap.size a1 m1 c1 (stBits (sz.take k) (vs.take k)))) (fun _ _ _ _ s18 _ => vn - (intOf s18).toNat)
  case atStart => exact ⟨0, 0, none, 0, Nat.zero_le _, rfl, rfl, Below.refl _ _, by omega, Lib.hid (OwnI.nil _ _ _)⟩
  case round =>
    obtain ⟨k, m1, a1, c1, hk, rfl, rfl, hbw, hm1, HO⟩ := hrel
    have hbl : Below w.heap.size w wr := below_call hbl1 hbw hbl1.size
    have hsz := hbw.size
    by_cases hlt : k < vn
    · have hlt' : (k : Int) < (vn : Int) := by omega
      have hk0 : (0 : Int) ≤ (k : Int) := by omega
      obtain ⟨b, off, x, rfl, hb, hx, hcell, hwf⟩ := (HV.out.keep hbl).at hlt
      obtain ⟨z, hz⟩ : ∃ z, sz[k]? = some z := ⟨_, List.getElem?_eq_getElem (show k < sz.length by rw [HI.out.len]; exact hlt)⟩
      have hz2 := allIn_at HS.out hz
      have hx2 := stateB_at HST.out hx hz
      have hw2 := wN_cases hz2.1 hz2.2
      obtain ⟨W, hW⟩ : ∃ W : Nat, wN z = (W : Int) := ⟨(wN z).toNat, by omega⟩
      obtain ⟨b', off', y, rfl, hb', hy, hcell', _⟩ := (HWI.out.keep hbw).at hlt
      obtain rfl : y = (W : Int) := by rw [List.getElem?_map, hz] at hy; simp at hy; omega
      have HX := Lib.hid (stBits_step hx hz)
      rw [hW, Int.toNat_natCast] at HX
      have HB := Lib.hid (show ∀ j, j ≤ 4 → bitAt x j = 0 ∨ bitAt x j = 1 from fun j hj => bitAt_in hx2.1 (by omega) hj)
      have hW5 : W ≤ 5 := by omega
      have e1 : IntKind.i64.wrap ((W : Int) - 1) = (W : Int) - 1 := IntWalk.i64_in _ (by omega)
      clear hx hz hy hz2 hx2 hw2 hW
      go_wp2_with fail
      go_loopw [7, 10] (fun s7 s10 wq => ∃ (i m2 : Nat) (a2 : Option Addr) (c2 : Nat) (bt : Int), i ≤ W ∧ s10 = .int .i64 bt ∧ bt = (W : Int) - 1 - i ∧ s7 = .slice a2 m2 c2 ∧ Below w1.heap.size w1 wq ∧ m2 ≤ 5 * k + i ∧ Hid (OwnI 2 wq w1.heap.size a2 m2 c2 (stBits (sz.take k) (vs.take k) ++ (bitsDn x W).take i))) (fun _ s10 _ => (intOf s10 + 1).toNat)
      case atStart => exact ⟨0, m1, a1, c1, _, Nat.zero_le _, rfl, by omega, rfl, hbw, by omega, by simpa using HO⟩
      case round =>
        clear HO hcell hcell' hbl hbw hsz
        obtain ⟨i, m2, a2, c2, bt, hi, rfl, hbt, rfl, hbw, hm2, HO⟩ := hrel
        have hbl : Below w.heap.size w wr := below_call hbl1 hbw hbl1.size
        have hsz := hbw.size
        by_cases hlti : i < W
        · obtain ⟨j, hj⟩ : ∃ j : Nat, bt = (j : Int) := ⟨bt.toNat, by omega⟩
          subst hj
          have hj2 : W - 1 - i = j := by omega
          have hj4 : j ≤ 4 := by omega
          have Hg := Lib.hid (take_at (bitsDn_get (x := x) hlti))
          rw [hj2] at Hg
          have hbit := HB.out j hj4
          have HB9 := Lib.hid (show I64 (bits BinOp.and IntKind.i64 (x / 2 ^ j) 1) by have h : I64 (bitAt x j) := (by rcases hbit with h | h <;> rw [h] <;> (unfold I64; omega)); exact h)
          clear hbit
          go_wp2_with (at_builtin; refine append1_i64 rfl _ _ 22 2 rfl Tryz.underlying22 Tryz.infoi64 w1.heap.size _ _ _ _ (HO.out.keep ((Below.refl _ _).alloc (Nat.le_refl _) (.cells #[.int .i64 (bits BinOp.and IntKind.i64 (x / 2 ^ j) 1)] 2))) rfl wr.heap.size (bits BinOp.and IntKind.i64 (x / 2 ^ j) 1) rfl (by simp) HB9.out (by omega) (by simp; omega) ?_; intro a3 c3 w3 hown3 hb3 hg3)
          have Hown3 := Lib.hid hown3
          clear hown3 hg3
          go_roundw
          case rel => exact ⟨i + 1, m2 + 1, a3, c3, _, by omega, rfl, by omega, rfl, Below.trans bel hb3, by omega, Lib.hid (by rw [Hg.out, ← List.append_assoc]; exact Hown3.out)⟩
          case measure => simp [intOf]; omega
        · have hj0 : ¬ 0 ≤ bt := by omega
          obtain rfl : i = W := by omega
          have h1 := HO.out
          rw [show (bitsDn x i).take i = bitsDn x i from List.take_of_length_le (by rw [bitsDn_len]; omega), ← HX.out] at h1
          have HO2 := Lib.hid h1
          clear h1
          go_wp2_with fail
          go_roundw
          case rel => exact ⟨k + 1, m2, a2, c2, by omega, rfl, by go_num, hbw, by omega, HO2⟩
          case measure => simp [intOf]; omega
    · obtain rfl : vn = k := by omega
      have hlt' : ¬ (vn : Int) < (vn : Int) := by omega
      have h1 := HO.out
      rw [take_len HI.out.len, take_len HV.out.len] at h1
      have HO2 := Lib.hid h1
      clear h1
      go_wp2
      go_ret
      exact ⟨_, _, _, rfl, hbl, HO2.out.le hbl1.size, by omega⟩
end Go.Proofs.YtkaikbaagajckaaGreat
