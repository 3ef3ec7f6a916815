/- Rules of models, walked: the program. -/
import Derived.Test.YtcnjnkjnpfpaeaaJb
namespace Go.Proofs.Ytcnjnkjnpfpaeaa
open Go.RowKit
set_option linter.unusedVariables false
set_option linter.unusedSimpArgs false
def effAt (sz : List Int) (e : List I2) (i : Nat) : Bool := hasB sz (e.getD i ⟨0, 0⟩).a (e.getD i ⟨0, 0⟩).b && (decide (i = 0) || decide ((e.getD (i - 1) ⟨0, 0⟩).a < (e.getD i ⟨0, 0⟩).a))
def effB (sz : List Int) (e : List I2) : Bool := upB (effAt sz e) e.length
def ruleB (sz : List Int) (r : RuD) : Bool := effB sz r.e && (nameB r.nm && (testsB sz r.g && decide (r.e.length ≤ 4)))
theorem getD2_of {l : List I2} {k : Nat} {x : I2} (h : l[k]? = some x) : l.getD k ⟨0, 0⟩ = x := by rw [List.getD_eq_getElem?_getD, h]; rfl
theorem effAt_no {sz : List Int} {e : List I2} {k : Nat} {x : I2} (hx : e[k]? = some x) (h : hasB sz x.a x.b = false) : effAt sz e k = false := by rw [effAt, getD2_of hx, h]; rfl
theorem effAt_zero {sz : List Int} {e : List I2} {k : Nat} {x : I2} (hx : e[k]? = some x) (h : hasB sz x.a x.b = true) (hk : k = 0) : effAt sz e k = true := by rw [effAt, getD2_of hx, h, decide_eq_true hk]; rfl
theorem effAt_succ {sz : List Int} {e : List I2} {k q : Nat} {x y : I2} (hx : e[k]? = some x) (h : hasB sz x.a x.b = true) (hk : q + 1 = k) (hy : e[q]? = some y) : effAt sz e k = decide (y.a < x.a) := by
  rw [effAt, getD2_of hx, h, decide_eq_false (by omega), show k - 1 = q by omega, getD2_of hy]; rfl
set_option maxHeartbeats 4000000 in
theorem impl_isRule {r : RuD} {sa ta ra ga ea : Option Addr} {sn sc tn tc rn rc gn gc en ec : Nat} {sz : List Int} {w : World} (hI : Ints w sa sn sc sz) (hn : sn ≤ 1048576) (hs : allIn 1 32 sz = true) (hG : F2b w ga gn gc r.g) (hg : gn ≤ 1048576) (hE : F2 w ea en ec r.e) (he : en ≤ 1048576) :
    Calls Try.prog 47 #[.agg #[.slice sa sn sc, .slice ta tn tc, .slice ra rn rc], .agg #[.string r.nm, .slice ga gn gc, .slice ea en ec]] w fun e w' => e = .returned (.bool (ruleB sz r)) ∧ Below w.heap.size w w' := by
  obtain ⟨nm, g, ef⟩ := r
  simp only at hG hE ⊢
  have hel := hE.len
  have HR := Lib.hid (show ruleB sz ⟨nm, g, ef⟩ = (upB (effAt sz ef) en && (nameB nm && (testsB sz g && decide (en ≤ 4)))) by rw [ruleB, effB]; simp only [hel])
  have K := Lib.hid (fun (x : I2) (wx : World) (hb : Below w.heap.size w wx) => impl_has (v := x.a) (x := x.b) (ta := ta) (tn := tn) (tc := tc) (ra := ra) (rn := rn) (rc := rc) (hI.keep hb) hn hs)
  have KT := Lib.hid (fun (wx : World) (hb : Below w.heap.size w wx) => impl_areTests (ta := ta) (tn := tn) (tc := tc) (ra := ra) (rn := rn) (rc := rc) (hI.keep hb) hn hs (hG.keep hb) hg)
  have HE := Lib.hid hE
  clear hI hG hs hE hel
  have Y := Lib.hid (Blk.made (w.alloc (.cells #[.slice sa sn sc, .slice ta tn tc, .slice ra rn rc] 27)) #[.string nm, .slice ga gn gc, .slice ea en ec] 64)
  have hY : (w.alloc (.cells #[.slice sa sn sc, .slice ta tn tc, .slice ra rn rc] 27)).heap.size = w.heap.size + 1 := by simp
  rw [hY] at Y
  have X := Lib.hid ((Blk.made w #[.slice sa sn sc, .slice ta tn tc, .slice ra rn rc] 27).keep ((Below.refl _ _).alloc (Nat.le_refl _) (.cells #[.string nm, .slice ga gn gc, .slice ea en ec] 64)))
  obtain ⟨wA, hwA⟩ : ∃ wA : World, wA = (w.alloc (.cells #[.slice sa sn sc, .slice ta tn tc, .slice ra rn rc] 27)).alloc (.cells #[.string nm, .slice ga gn gc, .slice ea en ec] 64) := ⟨_, rfl⟩
  have hbA : Below w.heap.size w wA := by rw [hwA]; exact bel
  rw [← hwA] at X Y
  have HwA := Lib.hid hwA
  clear hwA hY
  go_enter Try.func47, Try.ntmps47
  go_wp2_with fail
  rw [← HwA.out]
  clear HwA
  have x0 := X.out.cell 0
  have x1 := X.out.cell 1
  have x2 := X.out.cell 2
  have xl := X.out.lt
  have y2 := Y.out.cell 2
  have yl := Y.out.lt
  simp at x0 x1 x2 y2
  go_wp2_with fail
  clear x0 x1 x2 xl y2 yl
  go_loopw [5, 6, 10] (fun _ _ s10 wr => ∃ k : Nat, s10 = .int .i64 k ∧ k ≤ en ∧ Below w.heap.size w wr ∧ Hid (upB (effAt sz ef) k = true) ∧ Hid (Blk wr w.heap.size #[.slice sa sn sc, .slice ta tn tc, .slice ra rn rc] 27) ∧ Hid (Blk wr (w.heap.size + 1) #[.string nm, .slice ga gn gc, .slice ea en ec] 64)) (fun _ _ s10 _ => en - (intOf s10).toNat)
  case atStart => exact ⟨0, rfl, by omega, hbA, Lib.hid (upB_zero _), X, Y⟩
  case round =>
    clear X Y hbA
    obtain ⟨k, rfl, hk, hbl, A, X, Y⟩ := hrel
    by_cases hlt : k < en
    · have hlt' : (k : Int) < (en : Int) := by omega
      have hk0 : (0 : Int) ≤ (k : Int) := by omega
      have hEk := HE.out.keep hbl
      obtain ⟨b, off, x, rfl, hb, hx, hwf, c0, c1⟩ := F2.get hEk hlt
      have hsz := hbl.size
      have hwl := X.out.lt
      have hyl := Y.out.lt
      have hX := X.out.keep ((Below.refl _ _).alloc (Nat.le_refl _) (.cells #[.int .i64 x.a, .int .i64 x.b] 76))
      have hY := Y.out.keep ((Below.refl _ _).alloc (Nat.le_refl _) (.cells #[.int .i64 x.a, .int .i64 x.b] 76))
      have hZ := Blk.made wr #[.int .i64 x.a, .int .i64 x.b] 76
      have hbB : Below w.heap.size w (wr.alloc (.cells #[.int .i64 x.a, .int .i64 x.b] 76)) := hbl.alloc hsz _
      have hEB := hEk.keep ((Below.refl _ _).alloc (Nat.le_refl _) (.cells #[.int .i64 x.a, .int .i64 x.b] 76))
      obtain ⟨wB, hwB⟩ : ∃ wB : World, wB = wr.alloc (.cells #[.int .i64 x.a, .int .i64 x.b] 76) := ⟨_, rfl⟩
      rw [← hwB] at hX hY hZ hbB hEB
      have HwB := Lib.hid hwB
      have Hx := Lib.hid hx
      have HX := Lib.hid hX
      have HY := Lib.hid hY
      have HZ := Lib.hid hZ
      have HEB := Lib.hid hEB
      clear hx hwB hX hY hZ hEB hEk X Y
      go_wp2_with fail
      rw [← HwB.out]
      have x0 := HX.out.cell 0
      have x1 := HX.out.cell 1
      have x2 := HX.out.cell 2
      have xl := HX.out.lt
      have y2 := HY.out.cell 2
      have yl := HY.out.lt
      have z0 := HZ.out.cell 0
      have z1 := HZ.out.cell 1
      have zl := HZ.out.lt
      simp at x0 x1 x2 y2 z0 z1
      clear c0 c1 hb hbl
      have hX := HX.out
      have hY := HY.out
      have hcall := K.out x
      cases hv : hasB sz x.a x.b
      · rw [hv] at hcall
        have HC := Lib.hid hcall
        have HF := Lib.hid (effAt_no Hx.out hv)
        clear hv hcall
        refine wp_region_noPanic ?_
        refine wp_region_held_drew (S := (fun wx => wx.cell? ⟨w.heap.size, 0, none⟩ = some (.slice sa sn sc) ∧ wx.cell? ⟨w.heap.size, 1, none⟩ = some (.slice ta tn tc) ∧ wx.cell? ⟨w.heap.size, 2, none⟩ = some (.slice ra rn rc) ∧ wx.cell? ⟨w.heap.size + 1, 2, none⟩ = some (.slice (some ⟨b, off, none⟩) en ec) ∧ wx.cell? ⟨wr.heap.size, 0, none⟩ = some (.int .i64 x.a) ∧ wx.cell? ⟨wr.heap.size, 1, none⟩ = some (.int .i64 x.b) ∧ w.heap.size < wx.heap.size ∧ w.heap.size + 1 < wx.heap.size ∧ wr.heap.size < wx.heap.size ∧ Blk wx w.heap.size #[.slice sa sn sc, .slice ta tn tc, .slice ra rn rc] 27 ∧ Blk wx (w.heap.size + 1) #[.string nm, .slice ga gn gc, .slice (some ⟨b, off, none⟩) en ec] 64 ∧ Below w.heap.size w wx)) (by kernel_rfl) ?_ (fun hHeld => ?_)
        · (try dsimp only); (((try go_split_ands); (repeat' apply And.intro) <;> first | assumption | exact Blk.keep (by assumption) hbx | exact Blk.drew (by assumption) | exact Blk.drew (Blk.made _ _ _) | exact Below.drew (by assumption) | exact Below.drew (below_allocS (by first | exact Below.refl _ _ | assumption) _) | exact below_callS (by assumption) hbx | exact below_call (by assumption) hbx (Below.size (by assumption)) | exact (hcx _ _ (by assumption)).trans (by assumption) | omega | (simp [*]; done) | (simp; omega)))
        refine tkH 0 ?_
        try simp only [Act.put, s1, s2, s3]
        refine tkH 1 ?_
        try simp only [Act.put, s1, s2, s3]
        refine tkH 2 ?_
        try simp only [Act.put, s1, s2, s3]
        refine tkH 3 ?_
        try simp only [Act.put, s1, s2, s3]
        refine tkH 4 ?_
        try simp only [Act.put, s1, s2, s3]
        refine wpAnyH_ready (rs := [5]) (by kernel_rfl) (by simp) ?_
        refine AllReadyH.cons rfl (fun K hK => ?_) AllReadyH.nil
        go_simp
        (go_at_call 51; refine Calls.mono (HC.out _ (by first | assumption | (go_split_ands; assumption))) ?_; rintro e wx2 ⟨rfl, hbx⟩; obtain ⟨hcx, hfx⟩ := bcell hbx; have hsx := hbx.size)
        go_wp2_with fail
        refine hK.out _ _ ?_ (fun hHeld => ?_)
        · (try dsimp only); (((try go_split_ands); (repeat' apply And.intro) <;> first | assumption | exact Blk.keep (by assumption) hbx | exact Blk.drew (by assumption) | exact Blk.drew (Blk.made _ _ _) | exact Below.drew (by assumption) | exact Below.drew (below_allocS (by first | exact Below.refl _ _ | assumption) _) | exact below_callS (by assumption) hbx | exact below_call (by assumption) hbx (Below.size (by assumption)) | exact (hcx _ _ (by assumption)).trans (by assumption) | omega | (simp [*]; done) | (simp; omega)))
        clear hK K
        try simp only [Act.put, s1, s2, s3]
        refine tkH 6 ?_
        try simp only [Act.put, s1, s2, s3]
        refine tkH 7 ?_
        try simp only [Act.put, s1, s2, s3]
        refine tkN 8 ?_
        try simp only [Act.put, s1, s2, s3]
        refine tkN 9 ?_
        try simp only [Act.put, s1, s2, s3]
        refine tkN 10 ?_
        try simp only [Act.put, s1, s2, s3]
        refine tkN 11 ?_
        try simp only [Act.put, s1, s2, s3]
        refine tkN 12 ?_
        try simp only [Act.put, s1, s2, s3]
        refine tkN 13 ?_
        try simp only [Act.put, s1, s2, s3]
        refine tkN 14 ?_
        try simp only [Act.put, s1, s2, s3]
        refine tkN 15 ?_
        try simp only [Act.put, s1, s2, s3]
        refine tkN 16 ?_
        try simp only [Act.put, s1, s2, s3]
        refine tkN 17 ?_
        try simp only [Act.put, s1, s2, s3]
        refine tkN 18 ?_
        try simp only [Act.put, s1, s2, s3]
        refine tkN 19 ?_
        try simp only [Act.put, s1, s2, s3]
        refine tkN 20 ?_
        try simp only [Act.put, s1, s2, s3]
        refine tkN 21 ?_
        try simp only [Act.put, s1, s2, s3]
        refine tkH 22 ?_
        try simp only [Act.put, s1, s2, s3]
        refine wpAnyH_done (by kernel_rfl) ?_ _
        refine NoPanic.normal ?_
        go_split_ands
        go_wp2
        go_ret
        exact ⟨ret_bool (by rw [HR.out, upB_false hlt HF.out]; rfl), by assumption⟩
      · rw [hv] at hcall
        have HC := Lib.hid hcall
        have HV := Lib.hid hv
        clear hv hcall
        by_cases hkz : k = 0
        · have HF := Lib.hid (effAt_zero Hx.out HV.out hkz)
          have hd0 : decide (0 < (k : Int)) = false := decide_eq_false (by omega)
          have hd1 : decide (0 < k) = false := decide_eq_false (by omega)
          have hd2 : ¬ 0 < k := by omega
          clear hkz
          refine wp_region_noPanic ?_
          refine wp_region_held_drew (S := (fun wx => wx.cell? ⟨w.heap.size, 0, none⟩ = some (.slice sa sn sc) ∧ wx.cell? ⟨w.heap.size, 1, none⟩ = some (.slice ta tn tc) ∧ wx.cell? ⟨w.heap.size, 2, none⟩ = some (.slice ra rn rc) ∧ wx.cell? ⟨w.heap.size + 1, 2, none⟩ = some (.slice (some ⟨b, off, none⟩) en ec) ∧ wx.cell? ⟨wr.heap.size, 0, none⟩ = some (.int .i64 x.a) ∧ wx.cell? ⟨wr.heap.size, 1, none⟩ = some (.int .i64 x.b) ∧ w.heap.size < wx.heap.size ∧ w.heap.size + 1 < wx.heap.size ∧ wr.heap.size < wx.heap.size ∧ Blk wx w.heap.size #[.slice sa sn sc, .slice ta tn tc, .slice ra rn rc] 27 ∧ Blk wx (w.heap.size + 1) #[.string nm, .slice ga gn gc, .slice (some ⟨b, off, none⟩) en ec] 64 ∧ Below w.heap.size w wx)) (by kernel_rfl) ?_ (fun hHeld => ?_)
          · (try dsimp only); (((try go_split_ands); (repeat' apply And.intro) <;> first | assumption | exact Blk.keep (by assumption) hbx | exact Blk.drew (by assumption) | exact Blk.drew (Blk.made _ _ _) | exact Below.drew (by assumption) | exact Below.drew (below_allocS (by first | exact Below.refl _ _ | assumption) _) | exact below_callS (by assumption) hbx | exact below_call (by assumption) hbx (Below.size (by assumption)) | exact (hcx _ _ (by assumption)).trans (by assumption) | omega | (simp [*]; done) | (simp; omega)))
          refine tkH 0 ?_
          try simp only [Act.put, s1, s2, s3]
          refine tkH 1 ?_
          try simp only [Act.put, s1, s2, s3]
          refine tkH 2 ?_
          try simp only [Act.put, s1, s2, s3]
          refine tkH 3 ?_
          try simp only [Act.put, s1, s2, s3]
          refine tkH 4 ?_
          try simp only [Act.put, s1, s2, s3]
          refine wpAnyH_ready (rs := [5]) (by kernel_rfl) (by simp) ?_
          refine AllReadyH.cons rfl (fun K hK => ?_) AllReadyH.nil
          go_simp
          (go_at_call 51; refine Calls.mono (HC.out _ (by first | assumption | (go_split_ands; assumption))) ?_; rintro e wx2 ⟨rfl, hbx⟩; obtain ⟨hcx, hfx⟩ := bcell hbx; have hsx := hbx.size)
          go_wp2_with fail
          refine hK.out _ _ ?_ (fun hHeld => ?_)
          · (try dsimp only); (((try go_split_ands); (repeat' apply And.intro) <;> first | assumption | exact Blk.keep (by assumption) hbx | exact Blk.drew (by assumption) | exact Blk.drew (Blk.made _ _ _) | exact Below.drew (by assumption) | exact Below.drew (below_allocS (by first | exact Below.refl _ _ | assumption) _) | exact below_callS (by assumption) hbx | exact below_call (by assumption) hbx (Below.size (by assumption)) | exact (hcx _ _ (by assumption)).trans (by assumption) | omega | (simp [*]; done) | (simp; omega)))
          clear hK K
          try simp only [Act.put, s1, s2, s3]
          refine tkH 6 ?_
          try simp only [Act.put, s1, s2, s3]
          refine tkH 7 ?_
          try simp only [Act.put, s1, s2, s3]
          refine tkH 8 ?_
          try simp only [Act.put, s1, s2, s3]
          refine tkH 9 ?_
          try simp only [Act.put, s1, s2, s3]
          refine tkH 10 ?_
          try simp only [Act.put, s1, s2, s3]
          refine tkN 11 ?_
          try simp only [Act.put, s1, s2, s3]
          refine tkN 12 ?_
          try simp only [Act.put, s1, s2, s3]
          refine tkN 13 ?_
          try simp only [Act.put, s1, s2, s3]
          refine tkN 14 ?_
          try simp only [Act.put, s1, s2, s3]
          refine tkN 15 ?_
          try simp only [Act.put, s1, s2, s3]
          refine tkN 16 ?_
          try simp only [Act.put, s1, s2, s3]
          refine tkN 17 ?_
          try simp only [Act.put, s1, s2, s3]
          refine tkN 18 ?_
          try simp only [Act.put, s1, s2, s3]
          refine tkN 19 ?_
          try simp only [Act.put, s1, s2, s3]
          refine tkN 20 ?_
          try simp only [Act.put, s1, s2, s3]
          refine tkH 21 ?_
          try simp only [Act.put, s1, s2, s3]
          refine tkH 22 ?_
          try simp only [Act.put, s1, s2, s3]
          refine wpAnyH_done (by kernel_rfl) ?_ _
          refine NoPanic.normal ?_
          go_split_ands
          go_wp2_with fail
          go_roundw
          case rel => exact ⟨k + 1, by go_num, by omega, by assumption, Lib.hid (upB_step A.out HF.out), Lib.hid (by assumption), Lib.hid (by assumption)⟩
          case measure => simp [intOf]; omega
        · obtain ⟨q, hq⟩ : ∃ q, q + 1 = k := ⟨k - 1, by omega⟩
          obtain ⟨_, _, y, hpe, hb', hy, hwf', d0, d1⟩ := F2.get HEB.out (show q < en by omega)
          simp only [Option.some.injEq, Addr.mk.injEq, and_true] at hpe
          obtain ⟨rfl, rfl⟩ := hpe
          have e2 : IntKind.i64.wrap ((k : Int) - 1) = (q : Int) := by rw [IntWalk.i64_in _ (by omega)]; omega
          have hq0 : (0 : Int) ≤ (q : Int) := by omega
          have hq1 : (q : Int) < (en : Int) := by omega
          have hd0 : decide (0 < (k : Int)) = true := decide_eq_true (by omega)
          have hd1 : decide (0 < k) = true := decide_eq_true (by omega)
          have hd2 : 0 < k := by omega
          have hF := effAt_succ Hx.out HV.out hq hy
          have Hq := Lib.hid hq
          clear hkz hq hy hwf' d1
          cases ht : decide (y.a < x.a)
          · rw [ht] at hF
            have HF := Lib.hid hF
            have ht2 : x.a ≤ y.a := by simpa using ht
            clear ht hF
            refine wp_region_noPanic ?_
            refine wp_region_held_drew (S := (fun wx => wx.cell? ⟨b, off + q * 2, none⟩ = some (.int .i64 y.a) ∧ b < wx.heap.size ∧ wx.cell? ⟨w.heap.size, 0, none⟩ = some (.slice sa sn sc) ∧ wx.cell? ⟨w.heap.size, 1, none⟩ = some (.slice ta tn tc) ∧ wx.cell? ⟨w.heap.size, 2, none⟩ = some (.slice ra rn rc) ∧ wx.cell? ⟨w.heap.size + 1, 2, none⟩ = some (.slice (some ⟨b, off, none⟩) en ec) ∧ wx.cell? ⟨wr.heap.size, 0, none⟩ = some (.int .i64 x.a) ∧ wx.cell? ⟨wr.heap.size, 1, none⟩ = some (.int .i64 x.b) ∧ w.heap.size < wx.heap.size ∧ w.heap.size + 1 < wx.heap.size ∧ wr.heap.size < wx.heap.size ∧ Blk wx w.heap.size #[.slice sa sn sc, .slice ta tn tc, .slice ra rn rc] 27 ∧ Blk wx (w.heap.size + 1) #[.string nm, .slice ga gn gc, .slice (some ⟨b, off, none⟩) en ec] 64 ∧ Below w.heap.size w wx)) (by kernel_rfl) ?_ (fun hHeld => ?_)
            · (try dsimp only); (((try go_split_ands); (repeat' apply And.intro) <;> first | assumption | exact Blk.keep (by assumption) hbx | exact Blk.drew (by assumption) | exact Blk.drew (Blk.made _ _ _) | exact Below.drew (by assumption) | exact Below.drew (below_allocS (by first | exact Below.refl _ _ | assumption) _) | exact below_callS (by assumption) hbx | exact below_call (by assumption) hbx (Below.size (by assumption)) | exact (hcx _ _ (by assumption)).trans (by assumption) | omega | (simp [*]; done) | (simp; omega)))
            refine tkH 0 ?_
            try simp only [Act.put, s1, s2, s3]
            refine tkH 1 ?_
            try simp only [Act.put, s1, s2, s3]
            refine tkH 2 ?_
            try simp only [Act.put, s1, s2, s3]
            refine tkH 3 ?_
            try simp only [Act.put, s1, s2, s3]
            refine tkH 4 ?_
            try simp only [Act.put, s1, s2, s3]
            refine wpAnyH_ready (rs := [5]) (by kernel_rfl) (by simp) ?_
            refine AllReadyH.cons rfl (fun K hK => ?_) AllReadyH.nil
            go_simp
            (go_at_call 51; refine Calls.mono (HC.out _ (by first | assumption | (go_split_ands; assumption))) ?_; rintro e wx2 ⟨rfl, hbx⟩; obtain ⟨hcx, hfx⟩ := bcell hbx; have hsx := hbx.size)
            go_wp2_with fail
            refine hK.out _ _ ?_ (fun hHeld => ?_)
            · (try dsimp only); (((try go_split_ands); (repeat' apply And.intro) <;> first | assumption | exact Blk.keep (by assumption) hbx | exact Blk.drew (by assumption) | exact Blk.drew (Blk.made _ _ _) | exact Below.drew (by assumption) | exact Below.drew (below_allocS (by first | exact Below.refl _ _ | assumption) _) | exact below_callS (by assumption) hbx | exact below_call (by assumption) hbx (Below.size (by assumption)) | exact (hcx _ _ (by assumption)).trans (by assumption) | omega | (simp [*]; done) | (simp; omega)))
            clear hK K
            try simp only [Act.put, s1, s2, s3]
            refine tkH 6 ?_
            try simp only [Act.put, s1, s2, s3]
            refine tkH 7 ?_
            try simp only [Act.put, s1, s2, s3]
            refine tkH 8 ?_
            try simp only [Act.put, s1, s2, s3]
            refine tkH 9 ?_
            try simp only [Act.put, s1, s2, s3]
            refine tkH 10 ?_
            try simp only [Act.put, s1, s2, s3]
            refine tkH 11 ?_
            try simp only [Act.put, s1, s2, s3]
            refine tkH 12 ?_
            try simp only [Act.put, s1, s2, s3]
            refine tkH 13 ?_
            try simp only [Act.put, s1, s2, s3]
            refine tkH 14 ?_
            try simp only [Act.put, s1, s2, s3]
            refine tkH 15 ?_
            try simp only [Act.put, s1, s2, s3]
            refine tkH 16 ?_
            try simp only [Act.put, s1, s2, s3]
            refine tkH 17 ?_
            try simp only [Act.put, s1, s2, s3]
            refine tkH 18 ?_
            try simp only [Act.put, s1, s2, s3]
            refine tkH 19 ?_
            try simp only [Act.put, s1, s2, s3]
            refine tkH 20 ?_
            try simp only [Act.put, s1, s2, s3]
            refine tkH 21 ?_
            try simp only [Act.put, s1, s2, s3]
            refine tkH 22 ?_
            try simp only [Act.put, s1, s2, s3]
            refine wpAnyH_done (by kernel_rfl) ?_ _
            refine NoPanic.normal ?_
            go_split_ands
            go_wp2
            go_ret
            exact ⟨ret_bool (by rw [HR.out, upB_false hlt HF.out]; rfl), by assumption⟩
          · rw [ht] at hF
            have HF := Lib.hid hF
            have ht2 : ¬ x.a ≤ y.a := by simpa using ht
            clear ht hF
            refine wp_region_noPanic ?_
            refine wp_region_held_drew (S := (fun wx => wx.cell? ⟨b, off + q * 2, none⟩ = some (.int .i64 y.a) ∧ b < wx.heap.size ∧ wx.cell? ⟨w.heap.size, 0, none⟩ = some (.slice sa sn sc) ∧ wx.cell? ⟨w.heap.size, 1, none⟩ = some (.slice ta tn tc) ∧ wx.cell? ⟨w.heap.size, 2, none⟩ = some (.slice ra rn rc) ∧ wx.cell? ⟨w.heap.size + 1, 2, none⟩ = some (.slice (some ⟨b, off, none⟩) en ec) ∧ wx.cell? ⟨wr.heap.size, 0, none⟩ = some (.int .i64 x.a) ∧ wx.cell? ⟨wr.heap.size, 1, none⟩ = some (.int .i64 x.b) ∧ w.heap.size < wx.heap.size ∧ w.heap.size + 1 < wx.heap.size ∧ wr.heap.size < wx.heap.size ∧ Blk wx w.heap.size #[.slice sa sn sc, .slice ta tn tc, .slice ra rn rc] 27 ∧ Blk wx (w.heap.size + 1) #[.string nm, .slice ga gn gc, .slice (some ⟨b, off, none⟩) en ec] 64 ∧ Below w.heap.size w wx)) (by kernel_rfl) ?_ (fun hHeld => ?_)
            · (try dsimp only); (((try go_split_ands); (repeat' apply And.intro) <;> first | assumption | exact Blk.keep (by assumption) hbx | exact Blk.drew (by assumption) | exact Blk.drew (Blk.made _ _ _) | exact Below.drew (by assumption) | exact Below.drew (below_allocS (by first | exact Below.refl _ _ | assumption) _) | exact below_callS (by assumption) hbx | exact below_call (by assumption) hbx (Below.size (by assumption)) | exact (hcx _ _ (by assumption)).trans (by assumption) | omega | (simp [*]; done) | (simp; omega)))
            refine tkH 0 ?_
            try simp only [Act.put, s1, s2, s3]
            refine tkH 1 ?_
            try simp only [Act.put, s1, s2, s3]
            refine tkH 2 ?_
            try simp only [Act.put, s1, s2, s3]
            refine tkH 3 ?_
            try simp only [Act.put, s1, s2, s3]
            refine tkH 4 ?_
            try simp only [Act.put, s1, s2, s3]
            refine wpAnyH_ready (rs := [5]) (by kernel_rfl) (by simp) ?_
            refine AllReadyH.cons rfl (fun K hK => ?_) AllReadyH.nil
            go_simp
            (go_at_call 51; refine Calls.mono (HC.out _ (by first | assumption | (go_split_ands; assumption))) ?_; rintro e wx2 ⟨rfl, hbx⟩; obtain ⟨hcx, hfx⟩ := bcell hbx; have hsx := hbx.size)
            go_wp2_with fail
            refine hK.out _ _ ?_ (fun hHeld => ?_)
            · (try dsimp only); (((try go_split_ands); (repeat' apply And.intro) <;> first | assumption | exact Blk.keep (by assumption) hbx | exact Blk.drew (by assumption) | exact Blk.drew (Blk.made _ _ _) | exact Below.drew (by assumption) | exact Below.drew (below_allocS (by first | exact Below.refl _ _ | assumption) _) | exact below_callS (by assumption) hbx | exact below_call (by assumption) hbx (Below.size (by assumption)) | exact (hcx _ _ (by assumption)).trans (by assumption) | omega | (simp [*]; done) | (simp; omega)))
            clear hK K
            try simp only [Act.put, s1, s2, s3]
            refine tkH 6 ?_
            try simp only [Act.put, s1, s2, s3]
            refine tkH 7 ?_
            try simp only [Act.put, s1, s2, s3]
            refine tkH 8 ?_
            try simp only [Act.put, s1, s2, s3]
            refine tkH 9 ?_
            try simp only [Act.put, s1, s2, s3]
            refine tkH 10 ?_
            try simp only [Act.put, s1, s2, s3]
            refine tkH 11 ?_
            try simp only [Act.put, s1, s2, s3]
            refine tkH 12 ?_
            try simp only [Act.put, s1, s2, s3]
            refine tkH 13 ?_
            try simp only [Act.put, s1, s2, s3]
            refine tkH 14 ?_
            try simp only [Act.put, s1, s2, s3]
            refine tkH 15 ?_
            try simp only [Act.put, s1, s2, s3]
            refine tkH 16 ?_
            try simp only [Act.put, s1, s2, s3]
            refine tkH 17 ?_
            try simp only [Act.put, s1, s2, s3]
            refine tkH 18 ?_
            try simp only [Act.put, s1, s2, s3]
            refine tkH 19 ?_
            try simp only [Act.put, s1, s2, s3]
            refine tkH 20 ?_
            try simp only [Act.put, s1, s2, s3]
            refine tkH 21 ?_
            try simp only [Act.put, s1, s2, s3]
            refine tkH 22 ?_
            try simp only [Act.put, s1, s2, s3]
            refine wpAnyH_done (by kernel_rfl) ?_ _
            refine NoPanic.normal ?_
            go_split_ands
            go_wp2_with fail
            go_roundw
            case rel => exact ⟨k + 1, by go_num, by omega, by assumption, Lib.hid (upB_step A.out HF.out), Lib.hid (by assumption), Lib.hid (by assumption)⟩
            case measure => simp [intOf]; omega
    · obtain rfl : en = k := by omega
      have hlt' : ¬ (en : Int) < (en : Int) := by omega
      have HB := Lib.hid (show ruleB sz ⟨nm, g, ef⟩ = (nameB nm && (testsB sz g && decide (en ≤ 4))) by rw [HR.out, A.out]; rfl)
      clear HR A
      have x0 := X.out.cell 0
      have x1 := X.out.cell 1
      have x2 := X.out.cell 2
      have xl := X.out.lt
      have y0 := Y.out.cell 0
      have y1 := Y.out.cell 1
      have y2 := Y.out.cell 2
      have yl := Y.out.lt
      simp at x0 x1 x2 y0 y1 y2
      have hT := KT.out wr hbl
      cases hnm : nameB nm
      · have HNM := Lib.hid hnm
        clear hnm hT
        go_wp2_with fail
        go_wp2_with fail
        refine Calls.mono (impl_isRuleName) ?_
        rintro e _ ⟨rfl, rfl⟩
        rw [HNM.out]
        go_wp2
        go_ret
        exact ⟨ret_bool (by rw [HB.out, HNM.out]; rfl), hbl⟩
      · have HNM := Lib.hid hnm
        clear hnm
        cases ht : testsB sz g
        all_goals
          rw [ht] at hT
          have HT := Lib.hid hT
          have HTV := Lib.hid ht
          clear hT ht
          go_wp2_with fail
          go_wp2_with fail
          refine Calls.mono (impl_isRuleName) ?_
          rintro e _ ⟨rfl, rfl⟩
          rw [HNM.out]
          go_wp2_with fail
          refine Calls.mono HT.out ?_
          rintro e w1 ⟨rfl, hb1⟩
          have X1 := Lib.hid (X.out.keep hb1)
          have Y1 := Lib.hid (Y.out.keep hb1)
          have hbl1 : Below w.heap.size w w1 := below_callS hbl hb1
          clear hb1 x0 x1 x2 xl y0 y1 y2 yl hbl
          have y2 := Y1.out.cell 2
          have yl := Y1.out.lt
          simp at y2
        · go_wp2
          go_ret
          exact ⟨ret_bool (by rw [HB.out, HNM.out, HTV.out]; rfl), hbl1⟩
        · by_cases h4 : en ≤ 4
          · have h4' : (en : Int) ≤ 4 := by omega
            have HD := Lib.hid (decide_eq_true h4)
            go_wp2
            go_ret
            exact ⟨ret_bool (by rw [HB.out, HNM.out, HTV.out, HD.out]; rfl), hbl1⟩
          · have h4' : ¬ (en : Int) ≤ 4 := by omega
            have HD := Lib.hid (decide_eq_false h4)
            go_wp2
            go_ret
            exact ⟨ret_bool (by rw [HB.out, HNM.out, HTV.out, HD.out]; simp; omega), hbl1⟩
end Go.Proofs.Ytcnjnkjnpfpaeaa
