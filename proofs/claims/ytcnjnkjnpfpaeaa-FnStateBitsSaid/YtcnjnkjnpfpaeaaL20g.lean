/- Rules of models, walked: the reference. -/
import Derived.Test.YtcnjnkjnpfpaeaaL20f
namespace Go.Proofs.Ytcnjnkjnpfpaeaa
open Go.RowKit
set_option linter.unusedVariables false
set_option linter.unusedSimpArgs false
set_option maxHeartbeats 4000000 in
theorem spec_l20Rule {r : RuD} {sa ta ra ga ea : Option Addr} {sn sc tn tc rn rc gn gc en ec : Nat} {sz : List Int} {w : World} (hI : Ints w sa sn sc sz) (hn : sn ≤ 1048576) (hs : allIn 1 32 sz = true) (hG : F2b w ga gn gc r.g) (hg : gn ≤ 1048576) (hE : F2 w ea en ec r.e) (he : en ≤ 1048576) (hnz : r.nm.size ≤ maxLen) :
    Calls Try.prog 40 #[.agg #[.slice sa sn sc, .slice ta tn tc, .slice ra rn rc], .agg #[.string r.nm, .slice ga gn gc, .slice ea en ec]] w fun e w' => e = .returned (.bool (ruleB sz r)) ∧ Below w.heap.size w w' := by
  obtain ⟨nm, g, ef⟩ := r
  simp only at hG hE hnz ⊢
  have hel := hE.len
  have HR := Lib.hid (show ruleB sz ⟨nm, g, ef⟩ = (upB (effAt sz ef) en && (nameB nm && (testsB sz g && decide (en ≤ 4)))) by rw [ruleB, effB]; simp only [hel])
  have K := Lib.hid (fun (x : I2) (wx : World) (hb : Below w.heap.size w wx) => spec_l20Has (v := x.a) (x := x.b) (ta := ta) (tn := tn) (tc := tc) (ra := ra) (rn := rn) (rc := rc) (hI.keep hb) hn hs)
  have KT := Lib.hid (fun (wx : World) (hb : Below w.heap.size w wx) => spec_l20Tests (ta := ta) (tn := tn) (tc := tc) (ra := ra) (rn := rn) (rc := rc) (hI.keep hb) hn hs (hG.keep hb) hg)
  have HE := Lib.hid hE
  clear hI hG hs hE hel
  have Y := Lib.hid (Blk.made (w.alloc (.cells #[.slice sa sn sc, .slice ta tn tc, .slice ra rn rc] 27)) #[.string nm, .slice ga gn gc, .slice ea en ec] 64)
  have hY : (w.alloc (.cells #[.slice sa sn sc, .slice ta tn tc, .slice ra rn rc] 27)).heap.size = w.heap.size + 1 := by simp
  rw [hY] at Y
  have X := Lib.hid ((Blk.made w #[.slice sa sn sc, .slice ta tn tc, .slice ra rn rc] 27).keep ((Below.refl _ _).alloc (Nat.le_refl _) (.cells #[.string nm, .slice ga gn gc, .slice ea en ec] 64)))
  obtain ⟨wA, hwA⟩ : ∃ wA : World, wA = (w.alloc (.cells #[.slice sa sn sc, .slice ta tn tc, .slice ra rn rc] 27)).alloc (.cells #[.string nm, .slice ga gn gc, .slice ea en ec] 64) := ⟨_, rfl⟩
  have hbA : Below w.heap.size w wA := by rw [hwA]; exact bel
  rw [← hwA] at X Y
  have HwA := Lib.hid hwA
  clear hwA hY
  go_enter Try.func40, Try.ntmps40
  go_wp2_with fail
  rw [← HwA.out]
  clear HwA
  go_loopw [5] (fun s5 wr => ∃ k : Nat, s5 = .int .i64 k ∧ k ≤ en ∧ Below w.heap.size w wr ∧ Hid (upB (effAt sz ef) k = true) ∧ Hid (Blk wr w.heap.size #[.slice sa sn sc, .slice ta tn tc, .slice ra rn rc] 27) ∧ Hid (Blk wr (w.heap.size + 1) #[.string nm, .slice ga gn gc, .slice ea en ec] 64)) (fun s5 _ => en - (intOf s5).toNat)
  case atStart => exact ⟨0, rfl, by omega, hbA, Lib.hid (upB_zero _), X, Y⟩
  case round =>
    clear X Y hbA
    obtain ⟨k, rfl, hk, hbl, A, X, Y⟩ := hrel
    by_cases hlt : k < en
    · have hlt' : (k : Int) < (en : Int) := by omega
      have hk0 : (0 : Int) ≤ (k : Int) := by omega
      have hEk := HE.out.keep hbl
      obtain ⟨b, off, x, rfl, hb, hx, hwf, c0, c1⟩ := F2.get hEk hlt
      have Hx := Lib.hid hx
      have HEB := Lib.hid hEk
      clear hx hEk
      have x0 := X.out.cell 0
      have x1 := X.out.cell 1
      have x2 := X.out.cell 2
      have xl := X.out.lt
      have y2 := Y.out.cell 2
      have yl := Y.out.lt
      simp at x0 x1 x2 y2
      go_wp2_with fail
      have hX := X.out
      have hY := Y.out
      have hcall := K.out x
      cases hv : hasB sz x.a x.b
      · rw [hv] at hcall
        have HC := Lib.hid hcall
        have HF := Lib.hid (effAt_no Hx.out hv)
        clear hv hcall
        refine wp_region_noPanic ?_
        refine wp_region_held_drew (S := (fun wx => wx.cell? ⟨w.heap.size, 0, none⟩ = some (.slice sa sn sc) ∧ wx.cell? ⟨w.heap.size, 1, none⟩ = some (.slice ta tn tc) ∧ wx.cell? ⟨w.heap.size, 2, none⟩ = some (.slice ra rn rc) ∧ wx.cell? ⟨w.heap.size + 1, 2, none⟩ = some (.slice (some ⟨b, off, none⟩) en ec) ∧ wx.cell? ⟨b, off + k * 2, none⟩ = some (.int .i64 x.a) ∧ wx.cell? ⟨b, off + k * 2 + 1, none⟩ = some (.int .i64 x.b) ∧ w.heap.size < wx.heap.size ∧ w.heap.size + 1 < wx.heap.size ∧ b < wx.heap.size ∧ Blk wx w.heap.size #[.slice sa sn sc, .slice ta tn tc, .slice ra rn rc] 27 ∧ Blk wx (w.heap.size + 1) #[.string nm, .slice ga gn gc, .slice (some ⟨b, off, none⟩) en ec] 64 ∧ Below w.heap.size w wx)) (by kernel_rfl) ?_ (fun hHeld => ?_)
        · (try dsimp only); (((try go_split_ands); (repeat' apply And.intro) <;> first | assumption | exact Blk.keep (by assumption) hbx | exact Blk.drew (by assumption) | exact Blk.drew (Blk.made _ _ _) | exact Below.drew (by assumption) | exact Below.drew (below_allocS (by first | exact Below.refl _ _ | assumption) _) | exact below_callS (by assumption) hbx | exact below_call (by assumption) hbx (Below.size (by assumption)) | exact (hcx _ _ (by assumption)).trans (by assumption) | omega | (simp [*]; done) | (simp; omega)))
        refine tkH 0 ?_
        try simp only [Act.put, s1, s2, s3]
        refine tkH 1 ?_
        try simp only [Act.put, s1, s2, s3]
        refine tkH 2 ?_
        try simp only [Act.put, s1, s2, s3]
        refine tkH 3 ?_
        try simp only [Act.put, s1, s2, s3]
        refine tkH 4 ?_
        try simp only [Act.put, s1, s2, s3]
        refine tkH 5 ?_
        try simp only [Act.put, s1, s2, s3]
        refine tkH 6 ?_
        try simp only [Act.put, s1, s2, s3]
        refine tkH 7 ?_
        try simp only [Act.put, s1, s2, s3]
        refine tkH 8 ?_
        try simp only [Act.put, s1, s2, s3]
        refine tkH 9 ?_
        try simp only [Act.put, s1, s2, s3]
        refine tkH 10 ?_
        try simp only [Act.put, s1, s2, s3]
        refine tkH 11 ?_
        try simp only [Act.put, s1, s2, s3]
        refine tkH 12 ?_
        try simp only [Act.put, s1, s2, s3]
        refine wpAnyH_ready (rs := [13]) (by kernel_rfl) (by simp) ?_
        refine AllReadyH.cons rfl (fun K hK => ?_) AllReadyH.nil
        go_simp
        (go_at_call 53; refine Calls.mono (HC.out _ (by first | assumption | (go_split_ands; assumption))) ?_; rintro e wx2 ⟨rfl, hbx⟩; obtain ⟨hcx, hfx⟩ := bcell hbx; have hsx := hbx.size)
        go_wp2_with fail
        refine hK.out _ _ ?_ (fun hHeld => ?_)
        · (try dsimp only); (((try go_split_ands); (repeat' apply And.intro) <;> first | assumption | exact Blk.keep (by assumption) hbx | exact Blk.drew (by assumption) | exact Blk.drew (Blk.made _ _ _) | exact Below.drew (by assumption) | exact Below.drew (below_allocS (by first | exact Below.refl _ _ | assumption) _) | exact below_callS (by assumption) hbx | exact below_call (by assumption) hbx (Below.size (by assumption)) | exact (hcx _ _ (by assumption)).trans (by assumption) | omega | (simp [*]; done) | (simp; omega)))
        clear hK K
        try simp only [Act.put, s1, s2, s3]
        refine tkH 14 ?_
        try simp only [Act.put, s1, s2, s3]
        refine tkH 15 ?_
        try simp only [Act.put, s1, s2, s3]
        refine tkN 16 ?_
        try simp only [Act.put, s1, s2, s3]
        refine tkN 17 ?_
        try simp only [Act.put, s1, s2, s3]
        refine tkN 18 ?_
        try simp only [Act.put, s1, s2, s3]
        refine tkN 19 ?_
        try simp only [Act.put, s1, s2, s3]
        refine tkN 20 ?_
        try simp only [Act.put, s1, s2, s3]
        refine tkN 21 ?_
        try simp only [Act.put, s1, s2, s3]
        refine tkN 22 ?_
        try simp only [Act.put, s1, s2, s3]
        refine tkN 23 ?_
        try simp only [Act.put, s1, s2, s3]
        refine tkN 24 ?_
        try simp only [Act.put, s1, s2, s3]
        refine tkN 25 ?_
        try simp only [Act.put, s1, s2, s3]
        refine tkN 26 ?_
        try simp only [Act.put, s1, s2, s3]
        refine tkN 27 ?_
        try simp only [Act.put, s1, s2, s3]
        refine tkN 28 ?_
        try simp only [Act.put, s1, s2, s3]
        refine tkN 29 ?_
        try simp only [Act.put, s1, s2, s3]
        refine tkN 30 ?_
        try simp only [Act.put, s1, s2, s3]
        refine tkN 31 ?_
        try simp only [Act.put, s1, s2, s3]
        refine tkN 32 ?_
        try simp only [Act.put, s1, s2, s3]
        refine tkN 33 ?_
        try simp only [Act.put, s1, s2, s3]
        refine tkH 34 ?_
        try simp only [Act.put, s1, s2, s3]
        refine wpAnyH_done (by kernel_rfl) ?_ _
        refine NoPanic.normal ?_
        go_split_ands
        go_wp2
        go_ret
        exact ⟨ret_bool (by rw [HR.out, upB_false hlt HF.out]; rfl), by assumption⟩
      · rw [hv] at hcall
        have HC := Lib.hid hcall
        have HV := Lib.hid hv
        clear hv hcall
        by_cases hkz : k = 0
        · have HF := Lib.hid (effAt_zero Hx.out HV.out hkz)
          have hd0 : decide (0 < (k : Int)) = false := decide_eq_false (by omega)
          have hd1 : decide (0 < k) = false := decide_eq_false (by omega)
          have hd2 : ¬ 0 < k := by omega
          clear hkz
          refine wp_region_noPanic ?_
          refine wp_region_held_drew (S := (fun wx => wx.cell? ⟨w.heap.size, 0, none⟩ = some (.slice sa sn sc) ∧ wx.cell? ⟨w.heap.size, 1, none⟩ = some (.slice ta tn tc) ∧ wx.cell? ⟨w.heap.size, 2, none⟩ = some (.slice ra rn rc) ∧ wx.cell? ⟨w.heap.size + 1, 2, none⟩ = some (.slice (some ⟨b, off, none⟩) en ec) ∧ wx.cell? ⟨b, off + k * 2, none⟩ = some (.int .i64 x.a) ∧ wx.cell? ⟨b, off + k * 2 + 1, none⟩ = some (.int .i64 x.b) ∧ w.heap.size < wx.heap.size ∧ w.heap.size + 1 < wx.heap.size ∧ b < wx.heap.size ∧ Blk wx w.heap.size #[.slice sa sn sc, .slice ta tn tc, .slice ra rn rc] 27 ∧ Blk wx (w.heap.size + 1) #[.string nm, .slice ga gn gc, .slice (some ⟨b, off, none⟩) en ec] 64 ∧ Below w.heap.size w wx)) (by kernel_rfl) ?_ (fun hHeld => ?_)
          · (try dsimp only); (((try go_split_ands); (repeat' apply And.intro) <;> first | assumption | exact Blk.keep (by assumption) hbx | exact Blk.drew (by assumption) | exact Blk.drew (Blk.made _ _ _) | exact Below.drew (by assumption) | exact Below.drew (below_allocS (by first | exact Below.refl _ _ | assumption) _) | exact below_callS (by assumption) hbx | exact below_call (by assumption) hbx (Below.size (by assumption)) | exact (hcx _ _ (by assumption)).trans (by assumption) | omega | (simp [*]; done) | (simp; omega)))
          refine tkH 0 ?_
          try simp only [Act.put, s1, s2, s3]
          refine tkH 1 ?_
          try simp only [Act.put, s1, s2, s3]
          refine tkH 2 ?_
          try simp only [Act.put, s1, s2, s3]
          refine tkH 3 ?_
          try simp only [Act.put, s1, s2, s3]
          refine tkH 4 ?_
          try simp only [Act.put, s1, s2, s3]
          refine tkH 5 ?_
          try simp only [Act.put, s1, s2, s3]
          refine tkH 6 ?_
          try simp only [Act.put, s1, s2, s3]
          refine tkH 7 ?_
          try simp only [Act.put, s1, s2, s3]
          refine tkH 8 ?_
          try simp only [Act.put, s1, s2, s3]
          refine tkH 9 ?_
          try simp only [Act.put, s1, s2, s3]
          refine tkH 10 ?_
          try simp only [Act.put, s1, s2, s3]
          refine tkH 11 ?_
          try simp only [Act.put, s1, s2, s3]
          refine tkH 12 ?_
          try simp only [Act.put, s1, s2, s3]
          refine wpAnyH_ready (rs := [13]) (by kernel_rfl) (by simp) ?_
          refine AllReadyH.cons rfl (fun K hK => ?_) AllReadyH.nil
          go_simp
          (go_at_call 53; refine Calls.mono (HC.out _ (by first | assumption | (go_split_ands; assumption))) ?_; rintro e wx2 ⟨rfl, hbx⟩; obtain ⟨hcx, hfx⟩ := bcell hbx; have hsx := hbx.size)
          go_wp2_with fail
          refine hK.out _ _ ?_ (fun hHeld => ?_)
          · (try dsimp only); (((try go_split_ands); (repeat' apply And.intro) <;> first | assumption | exact Blk.keep (by assumption) hbx | exact Blk.drew (by assumption) | exact Blk.drew (Blk.made _ _ _) | exact Below.drew (by assumption) | exact Below.drew (below_allocS (by first | exact Below.refl _ _ | assumption) _) | exact below_callS (by assumption) hbx | exact below_call (by assumption) hbx (Below.size (by assumption)) | exact (hcx _ _ (by assumption)).trans (by assumption) | omega | (simp [*]; done) | (simp; omega)))
          clear hK K
          try simp only [Act.put, s1, s2, s3]
          refine tkH 14 ?_
          try simp only [Act.put, s1, s2, s3]
          refine tkH 15 ?_
          try simp only [Act.put, s1, s2, s3]
          refine tkH 16 ?_
          try simp only [Act.put, s1, s2, s3]
          refine tkH 17 ?_
          try simp only [Act.put, s1, s2, s3]
          refine tkH 18 ?_
          try simp only [Act.put, s1, s2, s3]
          refine tkN 19 ?_
          try simp only [Act.put, s1, s2, s3]
          refine tkN 20 ?_
          try simp only [Act.put, s1, s2, s3]
          refine tkN 21 ?_
          try simp only [Act.put, s1, s2, s3]
          refine tkN 22 ?_
          try simp only [Act.put, s1, s2, s3]
          refine tkN 23 ?_
          try simp only [Act.put, s1, s2, s3]
          refine tkN 24 ?_
          try simp only [Act.put, s1, s2, s3]
          refine tkN 25 ?_
          try simp only [Act.put, s1, s2, s3]
          refine tkN 26 ?_
          try simp only [Act.put, s1, s2, s3]
          refine tkN 27 ?_
          try simp only [Act.put, s1, s2, s3]
          refine tkN 28 ?_
          try simp only [Act.put, s1, s2, s3]
          refine tkN 29 ?_
          try simp only [Act.put, s1, s2, s3]
          refine tkN 30 ?_
          try simp only [Act.put, s1, s2, s3]
          refine tkN 31 ?_
          try simp only [Act.put, s1, s2, s3]
          refine tkN 32 ?_
          try simp only [Act.put, s1, s2, s3]
          refine tkH 33 ?_
          try simp only [Act.put, s1, s2, s3]
          refine tkH 34 ?_
          try simp only [Act.put, s1, s2, s3]
          refine wpAnyH_done (by kernel_rfl) ?_ _
          refine NoPanic.normal ?_
          go_split_ands
          go_wp2_with fail
          go_roundw
          case rel => exact ⟨k + 1, by go_num, by omega, by assumption, Lib.hid (upB_step A.out HF.out), Lib.hid (by assumption), Lib.hid (by assumption)⟩
          case measure => simp [intOf]; omega
        · obtain ⟨q, hq⟩ : ∃ q, q + 1 = k := ⟨k - 1, by omega⟩
          obtain ⟨_, _, y, hpe, hb', hy, hwf', d0, d1⟩ := F2.get HEB.out (show q < en by omega)
          simp only [Option.some.injEq, Addr.mk.injEq, and_true] at hpe
          obtain ⟨rfl, rfl⟩ := hpe
          have e2 : IntKind.i64.wrap ((k : Int) - 1) = (q : Int) := by rw [IntWalk.i64_in _ (by omega)]; omega
          have hq0 : (0 : Int) ≤ (q : Int) := by omega
          have hq1 : (q : Int) < (en : Int) := by omega
          have hd0 : decide (0 < (k : Int)) = true := decide_eq_true (by omega)
          have hd1 : decide (0 < k) = true := decide_eq_true (by omega)
          have hd2 : 0 < k := by omega
          have hF := effAt_succ Hx.out HV.out hq hy
          have Hq := Lib.hid hq
          clear hkz hq hy hwf' d1
          cases ht : decide (y.a < x.a)
          · rw [ht] at hF
            have HF := Lib.hid hF
            have ht2 : x.a ≤ y.a := by simpa using ht
            clear ht hF
            refine wp_region_noPanic ?_
            refine wp_region_held_drew (S := (fun wx => wx.cell? ⟨b, off + q * 2, none⟩ = some (.int .i64 y.a) ∧ wx.cell? ⟨w.heap.size, 0, none⟩ = some (.slice sa sn sc) ∧ wx.cell? ⟨w.heap.size, 1, none⟩ = some (.slice ta tn tc) ∧ wx.cell? ⟨w.heap.size, 2, none⟩ = some (.slice ra rn rc) ∧ wx.cell? ⟨w.heap.size + 1, 2, none⟩ = some (.slice (some ⟨b, off, none⟩) en ec) ∧ wx.cell? ⟨b, off + k * 2, none⟩ = some (.int .i64 x.a) ∧ wx.cell? ⟨b, off + k * 2 + 1, none⟩ = some (.int .i64 x.b) ∧ w.heap.size < wx.heap.size ∧ w.heap.size + 1 < wx.heap.size ∧ b < wx.heap.size ∧ Blk wx w.heap.size #[.slice sa sn sc, .slice ta tn tc, .slice ra rn rc] 27 ∧ Blk wx (w.heap.size + 1) #[.string nm, .slice ga gn gc, .slice (some ⟨b, off, none⟩) en ec] 64 ∧ Below w.heap.size w wx)) (by kernel_rfl) ?_ (fun hHeld => ?_)
            · (try dsimp only); (((try go_split_ands); (repeat' apply And.intro) <;> first | assumption | exact Blk.keep (by assumption) hbx | exact Blk.drew (by assumption) | exact Blk.drew (Blk.made _ _ _) | exact Below.drew (by assumption) | exact Below.drew (below_allocS (by first | exact Below.refl _ _ | assumption) _) | exact below_callS (by assumption) hbx | exact below_call (by assumption) hbx (Below.size (by assumption)) | exact (hcx _ _ (by assumption)).trans (by assumption) | omega | (simp [*]; done) | (simp; omega)))
            refine tkH 0 ?_
            try simp only [Act.put, s1, s2, s3]
            refine tkH 1 ?_
            try simp only [Act.put, s1, s2, s3]
            refine tkH 2 ?_
            try simp only [Act.put, s1, s2, s3]
            refine tkH 3 ?_
            try simp only [Act.put, s1, s2, s3]
            refine tkH 4 ?_
            try simp only [Act.put, s1, s2, s3]
            refine tkH 5 ?_
            try simp only [Act.put, s1, s2, s3]
            refine tkH 6 ?_
            try simp only [Act.put, s1, s2, s3]
            refine tkH 7 ?_
            try simp only [Act.put, s1, s2, s3]
            refine tkH 8 ?_
            try simp only [Act.put, s1, s2, s3]
            refine tkH 9 ?_
            try simp only [Act.put, s1, s2, s3]
            refine tkH 10 ?_
            try simp only [Act.put, s1, s2, s3]
            refine tkH 11 ?_
            try simp only [Act.put, s1, s2, s3]
            refine tkH 12 ?_
            try simp only [Act.put, s1, s2, s3]
            refine wpAnyH_ready (rs := [13]) (by kernel_rfl) (by simp) ?_
            refine AllReadyH.cons rfl (fun K hK => ?_) AllReadyH.nil
            go_simp
            (go_at_call 53; refine Calls.mono (HC.out _ (by first | assumption | (go_split_ands; assumption))) ?_; rintro e wx2 ⟨rfl, hbx⟩; obtain ⟨hcx, hfx⟩ := bcell hbx; have hsx := hbx.size)
            go_wp2_with fail
            refine hK.out _ _ ?_ (fun hHeld => ?_)
            · (try dsimp only); (((try go_split_ands); (repeat' apply And.intro) <;> first | assumption | exact Blk.keep (by assumption) hbx | exact Blk.drew (by assumption) | exact Blk.drew (Blk.made _ _ _) | exact Below.drew (by assumption) | exact Below.drew (below_allocS (by first | exact Below.refl _ _ | assumption) _) | exact below_callS (by assumption) hbx | exact below_call (by assumption) hbx (Below.size (by assumption)) | exact (hcx _ _ (by assumption)).trans (by assumption) | omega | (simp [*]; done) | (simp; omega)))
            clear hK K
            try simp only [Act.put, s1, s2, s3]
            refine tkH 14 ?_
            try simp only [Act.put, s1, s2, s3]
            refine tkH 15 ?_
            try simp only [Act.put, s1, s2, s3]
            refine tkH 16 ?_
            try simp only [Act.put, s1, s2, s3]
            refine tkH 17 ?_
            try simp only [Act.put, s1, s2, s3]
            refine tkH 18 ?_
            try simp only [Act.put, s1, s2, s3]
            refine tkH 19 ?_
            try simp only [Act.put, s1, s2, s3]
            refine tkH 20 ?_
            try simp only [Act.put, s1, s2, s3]
            refine tkH 21 ?_
            try simp only [Act.put, s1, s2, s3]
            refine tkH 22 ?_
            try simp only [Act.put, s1, s2, s3]
            refine tkH 23 ?_
            try simp only [Act.put, s1, s2, s3]
            refine tkH 24 ?_
            try simp only [Act.put, s1, s2, s3]
            refine tkH 25 ?_
            try simp only [Act.put, s1, s2, s3]
            refine tkH 26 ?_
            try simp only [Act.put, s1, s2, s3]
            refine tkH 27 ?_
            try simp only [Act.put, s1, s2, s3]
            refine tkH 28 ?_
            try simp only [Act.put, s1, s2, s3]
            refine tkH 29 ?_
            try simp only [Act.put, s1, s2, s3]
            refine tkH 30 ?_
            try simp only [Act.put, s1, s2, s3]
            refine tkH 31 ?_
            try simp only [Act.put, s1, s2, s3]
            refine tkH 32 ?_
            try simp only [Act.put, s1, s2, s3]
            refine tkH 33 ?_
            try simp only [Act.put, s1, s2, s3]
            refine tkH 34 ?_
            try simp only [Act.put, s1, s2, s3]
            refine wpAnyH_done (by kernel_rfl) ?_ _
            refine NoPanic.normal ?_
            go_split_ands
            go_wp2
            go_ret
            exact ⟨ret_bool (by rw [HR.out, upB_false hlt HF.out]; rfl), by assumption⟩
          · rw [ht] at hF
            have HF := Lib.hid hF
            have ht2 : ¬ x.a ≤ y.a := by simpa using ht
            clear ht hF
            refine wp_region_noPanic ?_
            refine wp_region_held_drew (S := (fun wx => wx.cell? ⟨b, off + q * 2, none⟩ = some (.int .i64 y.a) ∧ wx.cell? ⟨w.heap.size, 0, none⟩ = some (.slice sa sn sc) ∧ wx.cell? ⟨w.heap.size, 1, none⟩ = some (.slice ta tn tc) ∧ wx.cell? ⟨w.heap.size, 2, none⟩ = some (.slice ra rn rc) ∧ wx.cell? ⟨w.heap.size + 1, 2, none⟩ = some (.slice (some ⟨b, off, none⟩) en ec) ∧ wx.cell? ⟨b, off + k * 2, none⟩ = some (.int .i64 x.a) ∧ wx.cell? ⟨b, off + k * 2 + 1, none⟩ = some (.int .i64 x.b) ∧ w.heap.size < wx.heap.size ∧ w.heap.size + 1 < wx.heap.size ∧ b < wx.heap.size ∧ Blk wx w.heap.size #[.slice sa sn sc, .slice ta tn tc, .slice ra rn rc] 27 ∧ Blk wx (w.heap.size + 1) #[.string nm, .slice ga gn gc, .slice (some ⟨b, off, none⟩) en ec] 64 ∧ Below w.heap.size w wx)) (by kernel_rfl) ?_ (fun hHeld => ?_)
            · (try dsimp only); (((try go_split_ands); (repeat' apply And.intro) <;> first | assumption | exact Blk.keep (by assumption) hbx | exact Blk.drew (by assumption) | exact Blk.drew (Blk.made _ _ _) | exact Below.drew (by assumption) | exact Below.drew (below_allocS (by first | exact Below.refl _ _ | assumption) _) | exact below_callS (by assumption) hbx | exact below_call (by assumption) hbx (Below.size (by assumption)) | exact (hcx _ _ (by assumption)).trans (by assumption) | omega | (simp [*]; done) | (simp; omega)))
            refine tkH 0 ?_
            try simp only [Act.put, s1, s2, s3]
            refine tkH 1 ?_
            try simp only [Act.put, s1, s2, s3]
            refine tkH 2 ?_
            try simp only [Act.put, s1, s2, s3]
            refine tkH 3 ?_
            try simp only [Act.put, s1, s2, s3]
            refine tkH 4 ?_
            try simp only [Act.put, s1, s2, s3]
            refine tkH 5 ?_
            try simp only [Act.put, s1, s2, s3]
            refine tkH 6 ?_
            try simp only [Act.put, s1, s2, s3]
            refine tkH 7 ?_
            try simp only [Act.put, s1, s2, s3]
            refine tkH 8 ?_
            try simp only [Act.put, s1, s2, s3]
            refine tkH 9 ?_
            try simp only [Act.put, s1, s2, s3]
            refine tkH 10 ?_
            try simp only [Act.put, s1, s2, s3]
            refine tkH 11 ?_
            try simp only [Act.put, s1, s2, s3]
            refine tkH 12 ?_
            try simp only [Act.put, s1, s2, s3]
            refine wpAnyH_ready (rs := [13]) (by kernel_rfl) (by simp) ?_
            refine AllReadyH.cons rfl (fun K hK => ?_) AllReadyH.nil
            go_simp
            (go_at_call 53; refine Calls.mono (HC.out _ (by first | assumption | (go_split_ands; assumption))) ?_; rintro e wx2 ⟨rfl, hbx⟩; obtain ⟨hcx, hfx⟩ := bcell hbx; have hsx := hbx.size)
            go_wp2_with fail
            refine hK.out _ _ ?_ (fun hHeld => ?_)
            · (try dsimp only); (((try go_split_ands); (repeat' apply And.intro) <;> first | assumption | exact Blk.keep (by assumption) hbx | exact Blk.drew (by assumption) | exact Blk.drew (Blk.made _ _ _) | exact Below.drew (by assumption) | exact Below.drew (below_allocS (by first | exact Below.refl _ _ | assumption) _) | exact below_callS (by assumption) hbx | exact below_call (by assumption) hbx (Below.size (by assumption)) | exact (hcx _ _ (by assumption)).trans (by assumption) | omega | (simp [*]; done) | (simp; omega)))
            clear hK K
            try simp only [Act.put, s1, s2, s3]
            refine tkH 14 ?_
            try simp only [Act.put, s1, s2, s3]
            refine tkH 15 ?_
            try simp only [Act.put, s1, s2, s3]
            refine tkH 16 ?_
            try simp only [Act.put, s1, s2, s3]
            refine tkH 17 ?_
            try simp only [Act.put, s1, s2, s3]
            refine tkH 18 ?_
            try simp only [Act.put, s1, s2, s3]
            refine tkH 19 ?_
            try simp only [Act.put, s1, s2, s3]
            refine tkH 20 ?_
            try simp only [Act.put, s1, s2, s3]
            refine tkH 21 ?_
            try simp only [Act.put, s1, s2, s3]
            refine tkH 22 ?_
            try simp only [Act.put, s1, s2, s3]
            refine tkH 23 ?_
            try simp only [Act.put, s1, s2, s3]
            refine tkH 24 ?_
            try simp only [Act.put, s1, s2, s3]
            refine tkH 25 ?_
            try simp only [Act.put, s1, s2, s3]
            refine tkH 26 ?_
            try simp only [Act.put, s1, s2, s3]
            refine tkH 27 ?_
            try simp only [Act.put, s1, s2, s3]
            refine tkH 28 ?_
            try simp only [Act.put, s1, s2, s3]
            refine tkH 29 ?_
            try simp only [Act.put, s1, s2, s3]
            refine tkH 30 ?_
            try simp only [Act.put, s1, s2, s3]
            refine tkH 31 ?_
            try simp only [Act.put, s1, s2, s3]
            refine tkH 32 ?_
            try simp only [Act.put, s1, s2, s3]
            refine tkH 33 ?_
            try simp only [Act.put, s1, s2, s3]
            refine tkH 34 ?_
            try simp only [Act.put, s1, s2, s3]
            refine wpAnyH_done (by kernel_rfl) ?_ _
            refine NoPanic.normal ?_
            go_split_ands
            go_wp2_with fail
            go_roundw
            case rel => exact ⟨k + 1, by go_num, by omega, by assumption, Lib.hid (upB_step A.out HF.out), Lib.hid (by assumption), Lib.hid (by assumption)⟩
            case measure => simp [intOf]; omega
    · obtain rfl : en = k := by omega
      have hlt' : ¬ (en : Int) < (en : Int) := by omega
      have HB := Lib.hid (show ruleB sz ⟨nm, g, ef⟩ = (nameB nm && (testsB sz g && decide (en ≤ 4))) by rw [HR.out, A.out]; rfl)
      clear HR A
      have x0 := X.out.cell 0
      have x1 := X.out.cell 1
      have x2 := X.out.cell 2
      have xl := X.out.lt
      have y0 := Y.out.cell 0
      have y1 := Y.out.cell 1
      have y2 := Y.out.cell 2
      have yl := Y.out.lt
      simp at x0 x1 x2 y0 y1 y2
      have hT := KT.out wr hbl
      cases hnm : nameB nm
      · have HNM := Lib.hid hnm
        clear hnm hT
        go_wp2_with fail
        go_wp2_with fail
        refine Calls.mono ((spec_l20Name hnz)) ?_
        rintro e _ ⟨rfl, rfl⟩
        rw [HNM.out]
        go_wp2
        go_ret
        exact ⟨ret_bool (by rw [HB.out, HNM.out]; rfl), hbl⟩
      · have HNM := Lib.hid hnm
        clear hnm
        cases ht : testsB sz g
        all_goals
          rw [ht] at hT
          have HT := Lib.hid hT
          have HTV := Lib.hid ht
          clear hT ht
          go_wp2_with fail
          go_wp2_with fail
          refine Calls.mono ((spec_l20Name hnz)) ?_
          rintro e _ ⟨rfl, rfl⟩
          rw [HNM.out]
          go_wp2_with fail
          refine Calls.mono HT.out ?_
          rintro e w1 ⟨rfl, hb1⟩
          have X1 := Lib.hid (X.out.keep hb1)
          have Y1 := Lib.hid (Y.out.keep hb1)
          have hbl1 : Below w.heap.size w w1 := below_callS hbl hb1
          clear hb1 x0 x1 x2 xl y0 y1 y2 yl hbl
          have y2 := Y1.out.cell 2
          have yl := Y1.out.lt
          simp at y2
        · go_wp2
          go_ret
          exact ⟨ret_bool (by rw [HB.out, HNM.out, HTV.out]; rfl), hbl1⟩
        · by_cases h4 : en ≤ 4
          · have h4' : (en : Int) ≤ 4 := by omega
            have HD := Lib.hid (decide_eq_true h4)
            go_wp2
            go_ret
            exact ⟨ret_bool (by rw [HB.out, HNM.out, HTV.out, HD.out]; rfl), hbl1⟩
          · have h4' : ¬ (en : Int) ≤ 4 := by omega
            have HD := Lib.hid (decide_eq_false h4)
            go_wp2
            go_ret
            exact ⟨ret_bool (by rw [HB.out, HNM.out, HTV.out, HD.out]; simp; omega), hbl1⟩
end Go.Proofs.Ytcnjnkjnpfpaeaa
