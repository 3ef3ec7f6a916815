/- The law of guests. -/
import Derived.Test.YtoaccicfmfiemaaX28a
import Derived.Test.YtoaccicfmfiemaaL28
import Derived.Test.YtoaccicfmfiemaaD28b
namespace Go.Proofs.Ytoaccicfmfiemaa
open Go.RowKit
set_option linter.unusedVariables false
set_option linter.unusedSimpArgs false
theorem cnt1 (l a m h v : Int) : cntV l a m [h] v = if verd l a m h = v then 1 else 0 := by
  unfold cntV
  by_cases e : verd l a m h = v <;> simp [List.filter_cons, e]
theorem hCode0 {l a m h : Int} (h0 : hCode l a m [h] = 0) : 1 ≤ l ∧ l ≤ a ∧ a ≤ m ∧ m ≤ 3000 ∧ 1 ≤ h ∧ h ≤ 3000 := by
  unfold hCode at h0
  split at h0
  · cases h0
  · rename_i hv
    split at h0
    · cases h0
    · split at h0
      · cases h0
      · rename_i hh
        simp [heightB] at hv
        simp [inB] at hh
        omega
theorem guests_alone {l a m h : Int} (h0 : hCode l a m [h] = 0) (hv : gVerd l a m h = 2) : needC l a m [h] = 0 ∧ needN l a m [h] = 1 := by
  rw [gVerd, if_pos h0] at hv
  rw [needC, needN, if_pos h0, if_pos h0, rowsC, rowsN, cnt1, cnt1, hv]
  simp
theorem guests_adult {l a m h : Int} (h0 : hCode l a m [h] = 0) (hv : gVerd l a m h = 1) : needC l a m [h] = 4 := by
  rw [gVerd, if_pos h0] at hv
  rw [needC, if_pos h0, rowsC, cnt1, cnt1, hv]
  simp
theorem guests_none {l a m h : Int} (h0 : hCode l a m [h] = 0) (hv : gVerd l a m h = 0 ∨ gVerd l a m h = 3) : needC l a m [h] = 5 := by
  rw [gVerd, if_pos h0] at hv
  rw [needC, if_pos h0, rowsC, cnt1, cnt1]
  rcases hv with hv | hv <;> rw [hv] <;> simp
theorem guests_next {l a m h : Int} (h0 : hCode l a m [h] = 0) (h1 : hCode l a m [h + 1] = 0) : gVerd l a m h ≤ gVerd l a m (h + 1) := by
  rw [gVerd, gVerd, if_pos h0, if_pos h1]
  have := hCode0 h0
  unfold verd
  repeat' split
  all_goals omega
theorem gVerd_cases {l a m h : Int} (h0 : hCode l a m [h] = 0) : gVerd l a m h = 0 ∨ gVerd l a m h = 1 ∨ gVerd l a m h = 2 ∨ gVerd l a m h = 3 := by
  rw [gVerd, if_pos h0]; exact verd_cases l a m h
theorem laws_big_no {a : Option Addr} {n c : Nat} {w : World} (hn : n ≤ 4096) : Calls Try.prog 11 #[.slice a n c] w fun e w' => e = .returned (.bool false) ∧ w = w' := by
  have h : ¬ (4096 : Int) < (n : Int) := by omega
  go_enter Try.func11, Try.ntmps11
  go_wp2
  go_ret
  exact ⟨ret_bool (by first | rfl | (simp; done) | (simp; omega)), rfl⟩
theorem laws_big_yes {a : Option Addr} {n c : Nat} {w : World} (hn : ¬ n ≤ 4096) : Calls Try.prog 11 #[.slice a n c] w fun e w' => e = .returned (.bool true) ∧ w = w' := by
  have h : (4096 : Int) < (n : Int) := by omega
  go_enter Try.func11, Try.ntmps11
  go_wp2
  go_ret
  exact ⟨ret_bool (by first | rfl | (simp; done) | (simp; omega)), rfl⟩
set_option maxHeartbeats 4000000 in
theorem law_FnGuests {a : Option Addr} {n c : Nat} {w : World} (hB : Byts w a n c) : Calls Try.prog 3 #[.slice a n c] w fun e w' => e = .returned (.bool true) ∧ Below w.heap.size w w' := by
  have HB := Lib.hid hB
  clear hB
  by_cases hn : n ≤ 4096
  · go_enter Try.func3, Try.ntmps3
    go_wp2_with fail
    refine Calls.mono (laws_big_no hn) ?_
    rintro e _ ⟨rfl, rfl⟩
    go_wp2_with fail
    refine Calls.mono (spec_DrawGuestVerdict HB.out hn) ?_
    rintro e w1 ⟨l, m, o, h, rfl, hl, hm, ho, hh, hb_w1⟩
    obtain ⟨hc_w1, hf_w1⟩ := bcell hb_w1
    have hs_w1 := hb_w1.size
    have hI := hh.i64
    obtain ⟨hh0, hh1⟩ := hh
    have hq := I64.mk (x := h + 1) (by omega) (by omega)
    have HC := Lib.hid (show hCode l m o [h] = 0 → (gVerd l m o h = 0 ∨ gVerd l m o h = 1 ∨ gVerd l m o h = 2 ∨ gVerd l m o h = 3) ∧ (gVerd l m o h = 2 → needC l m o [h] = 0 ∧ needN l m o [h] = 1) ∧ (gVerd l m o h = 1 → needC l m o [h] = 4) ∧ (gVerd l m o h = 0 ∨ gVerd l m o h = 3 → needC l m o [h] = 5) ∧ (hCode l m o [h + 1] = 0 → gVerd l m o h ≤ gVerd l m o (h + 1)) from
      fun h0 => ⟨gVerd_cases h0, guests_alone h0, guests_adult h0, guests_none h0, guests_next h0⟩)
    have k1 := fun (wx : World) => impl_GuestVerdict (l := l) (a := m) (m := o) (w := wx) hI
    have k2 := fun (wx : World) => spec_GuestVerdict (l := l) (a := m) (m := o) (h := h) (w := wx)
    have k3 := fun (wx : World) => impl_IsHeightRule (l := l) (a := m) (m := o) (w := wx)
    have k4 := fun (wx : World) => spec_IsHeightRule (l := l) (a := m) (m := o) (w := wx)
    have k5 := fun (wx : World) => impl_RowsNeeded (l := l) (a := m) (m := o) (Ints.one (w := wx) (E := 2) hI rfl) (by decide)
    have k6 := fun (wx : World) => impl_GuestVerdict (l := l) (a := m) (m := o) (w := wx) hq
    clear hl hm ho
    generalize gVerd l m o h = V at *
    generalize gVerd l m o (h + 1) = V1 at *
    generalize hCode l m o [h] = C at *
    generalize hCode l m o [h + 1] = C1 at *
    generalize needC l m o [h] = NC at *
    generalize needN l m o [h] = N at *
    generalize heightB l m o = hb at *
    have K1 := Lib.hid k1
    have K2 := Lib.hid k2
    have K3 := Lib.hid k3
    have K4 := Lib.hid k4
    have K5 := Lib.hid k5
    have K6 := Lib.hid k6
    clear k1 k2 k3 k4 k5 k6 hI hq
    have q1 : (C != C) = false := by simp
    have q2 : (V != V) = false := by simp
    have q3 : (hb != hb) = false := by simp
    go_wp2_with fail
    refine Calls.mono (K1.out _) ?_
    rintro e w2 ⟨rfl, hb_w2⟩
    obtain ⟨hc_w2, hf_w2⟩ := bcell hb_w2
    have hs_w2 := hb_w2.size
    simp at hs_w2
    have hz2 : w1.heap.size < w2.heap.size := by omega
    go_wp2_with fail
    refine Calls.mono (K2.out _) ?_
    rintro e w3 ⟨rfl, hb_w3⟩
    obtain ⟨hc_w3, hf_w3⟩ := bcell hb_w3
    have hs_w3 := hb_w3.size
    have hz3 : w1.heap.size < w3.heap.size := by omega
    go_wp2
    have c0 : w3.cell? ⟨w1.heap.size, 0, none⟩ = some (.int .i64 l) := by rw [hc_w3 _ _ hz2, hc_w2 _ _ (by simp)]; simp
    have c1 : w3.cell? ⟨w1.heap.size, 1, none⟩ = some (.int .i64 m) := by rw [hc_w3 _ _ hz2, hc_w2 _ _ (by simp)]; simp
    have c2 : w3.cell? ⟨w1.heap.size, 2, none⟩ = some (.int .i64 o) := by rw [hc_w3 _ _ hz2, hc_w2 _ _ (by simp)]; simp
    have hbw : Below w.heap.size w w3 := by repeat (first | exact Below.refl _ _ | assumption | refine below_allocS ?_ _ | refine below_callS ?_ (by assumption) | (refine Below.alloc ?_ (by first | omega | (simp; done) | (simp; omega)) _) | (refine Below.setCell ?_ (by first | omega | (simp; done) | (simp; omega)) _) | refine Below.drew ?_ | refine below_drewN ?_ _ | (refine below_call ?_ (by assumption) (by first | omega | (simp; done) | (simp; omega))) | (refine Below.trans ?_ (by assumption)))
    clear hc_w1 hf_w1 hc_w2 hf_w2 hc_w3 hf_w3 hb_w1 hb_w2 hb_w3
    go_region_held3 (fun wx => wx.cell? ⟨w1.heap.size, 0, none⟩ = some (.int .i64 l) ∧ wx.cell? ⟨w1.heap.size, 1, none⟩ = some (.int .i64 m) ∧ wx.cell? ⟨w1.heap.size, 2, none⟩ = some (.int .i64 o) ∧ w1.heap.size < wx.heap.size ∧ Below w.heap.size w wx) (((try go_split_ands); (repeat' apply And.intro) <;> first | assumption | exact Blk.keep (by assumption) hbx | exact Blk.drew (by assumption) | exact Blk.drew (Blk.made _ _ _) | exact Below.drew (by assumption) | exact Below.drew (below_allocS (by first | exact Below.refl _ _ | assumption) _) | exact below_callS (by assumption) hbx | exact below_call (by assumption) hbx (Below.size (by assumption)) | exact (hcx _ _ (by assumption)).trans (by assumption) | omega | (simp [*]; done) | (simp; omega))) (first | (go_at_call 15; go_split_ands; refine Calls.mono (K3.out _) ?_; rintro e w4 ⟨rfl, hbx⟩; obtain ⟨hcx, hfx⟩ := bcell hbx; have hsx := hbx.size) | (go_at_call 16; go_split_ands; refine Calls.mono (K4.out _) ?_; rintro e w5 ⟨rfl, hbx⟩; obtain ⟨hcx, hfx⟩ := bcell hbx; have hsx := hbx.size))
    go_split_ands
    have hb5 : Below w.heap.size w w5 := by assumption
    have hz5 : w1.heap.size < w5.heap.size := by assumption
    have hs5 := hb5.size
    by_cases hC : C = 0
    · subst hC
      obtain ⟨h1, h2, h3, h4, h5⟩ := HC.out rfl
      have H1 := Lib.hid h1
      have H2 := Lib.hid h2
      have H3 := Lib.hid h3
      have H4 := Lib.hid h4
      have H5 := Lib.hid h5
      clear h1 h2 h3 h4 h5 HC
      go_wp2_with fail
      refine Calls.mono (K5.out _) ?_
      rintro e w6 ⟨rfl, hb_w6⟩
      obtain ⟨hc_w6, hf_w6⟩ := bcell hb_w6
      have hs_w6 := hb_w6.size
      have hz6 : w1.heap.size < w6.heap.size := by simp at hs_w6; omega
      go_wp2_with fail
      refine Calls.mono (K6.out _) ?_
      rintro e w7 ⟨rfl, hb_w7⟩
      obtain ⟨hc_w7, hf_w7⟩ := bcell hb_w7
      have hs_w7 := hb_w7.size
      by_cases hC1 : C1 = 0
      · subst hC1
        have hle : decide (V1 < V) = false := by have := H5.out rfl; simp; omega
        rcases H1.out with hv | hv | hv | hv
        · have e := H4.out (.inl hv)
          subst hv e
          go_wp2
          go_ret
          exact ⟨rfl, by repeat (first | exact Below.refl _ _ | assumption | refine below_allocS ?_ _ | refine below_callS ?_ (by assumption) | (refine Below.alloc ?_ (by first | omega | (simp; done) | (simp; omega)) _) | (refine Below.setCell ?_ (by first | omega | (simp; done) | (simp; omega)) _) | refine Below.drew ?_ | refine below_drewN ?_ _ | (refine below_call ?_ (by assumption) (by first | omega | (simp; done) | (simp; omega))) | (refine Below.trans ?_ (by assumption)))⟩
        · have e := H3.out hv
          subst hv e
          go_wp2
          go_ret
          exact ⟨rfl, by repeat (first | exact Below.refl _ _ | assumption | refine below_allocS ?_ _ | refine below_callS ?_ (by assumption) | (refine Below.alloc ?_ (by first | omega | (simp; done) | (simp; omega)) _) | (refine Below.setCell ?_ (by first | omega | (simp; done) | (simp; omega)) _) | refine Below.drew ?_ | refine below_drewN ?_ _ | (refine below_call ?_ (by assumption) (by first | omega | (simp; done) | (simp; omega))) | (refine Below.trans ?_ (by assumption)))⟩
        · obtain ⟨e, e'⟩ := H2.out hv
          subst hv e e'
          go_wp2
          go_ret
          exact ⟨rfl, by repeat (first | exact Below.refl _ _ | assumption | refine below_allocS ?_ _ | refine below_callS ?_ (by assumption) | (refine Below.alloc ?_ (by first | omega | (simp; done) | (simp; omega)) _) | (refine Below.setCell ?_ (by first | omega | (simp; done) | (simp; omega)) _) | refine Below.drew ?_ | refine below_drewN ?_ _ | (refine below_call ?_ (by assumption) (by first | omega | (simp; done) | (simp; omega))) | (refine Below.trans ?_ (by assumption)))⟩
        · have e := H4.out (.inr hv)
          subst hv e
          go_wp2
          go_ret
          exact ⟨rfl, by repeat (first | exact Below.refl _ _ | assumption | refine below_allocS ?_ _ | refine below_callS ?_ (by assumption) | (refine Below.alloc ?_ (by first | omega | (simp; done) | (simp; omega)) _) | (refine Below.setCell ?_ (by first | omega | (simp; done) | (simp; omega)) _) | refine Below.drew ?_ | refine below_drewN ?_ _ | (refine below_call ?_ (by assumption) (by first | omega | (simp; done) | (simp; omega))) | (refine Below.trans ?_ (by assumption)))⟩
      · have hC1' : (C1 == 0) = false := by simpa using hC1
        clear hC1
        rcases H1.out with hv | hv | hv | hv
        · have e := H4.out (.inl hv)
          subst hv e
          go_wp2
          go_ret
          exact ⟨rfl, by repeat (first | exact Below.refl _ _ | assumption | refine below_allocS ?_ _ | refine below_callS ?_ (by assumption) | (refine Below.alloc ?_ (by first | omega | (simp; done) | (simp; omega)) _) | (refine Below.setCell ?_ (by first | omega | (simp; done) | (simp; omega)) _) | refine Below.drew ?_ | refine below_drewN ?_ _ | (refine below_call ?_ (by assumption) (by first | omega | (simp; done) | (simp; omega))) | (refine Below.trans ?_ (by assumption)))⟩
        · have e := H3.out hv
          subst hv e
          go_wp2
          go_ret
          exact ⟨rfl, by repeat (first | exact Below.refl _ _ | assumption | refine below_allocS ?_ _ | refine below_callS ?_ (by assumption) | (refine Below.alloc ?_ (by first | omega | (simp; done) | (simp; omega)) _) | (refine Below.setCell ?_ (by first | omega | (simp; done) | (simp; omega)) _) | refine Below.drew ?_ | refine below_drewN ?_ _ | (refine below_call ?_ (by assumption) (by first | omega | (simp; done) | (simp; omega))) | (refine Below.trans ?_ (by assumption)))⟩
        · obtain ⟨e, e'⟩ := H2.out hv
          subst hv e e'
          go_wp2
          go_ret
          exact ⟨rfl, by repeat (first | exact Below.refl _ _ | assumption | refine below_allocS ?_ _ | refine below_callS ?_ (by assumption) | (refine Below.alloc ?_ (by first | omega | (simp; done) | (simp; omega)) _) | (refine Below.setCell ?_ (by first | omega | (simp; done) | (simp; omega)) _) | refine Below.drew ?_ | refine below_drewN ?_ _ | (refine below_call ?_ (by assumption) (by first | omega | (simp; done) | (simp; omega))) | (refine Below.trans ?_ (by assumption)))⟩
        · have e := H4.out (.inr hv)
          subst hv e
          go_wp2
          go_ret
          exact ⟨rfl, by repeat (first | exact Below.refl _ _ | assumption | refine below_allocS ?_ _ | refine below_callS ?_ (by assumption) | (refine Below.alloc ?_ (by first | omega | (simp; done) | (simp; omega)) _) | (refine Below.setCell ?_ (by first | omega | (simp; done) | (simp; omega)) _) | refine Below.drew ?_ | refine below_drewN ?_ _ | (refine below_call ?_ (by assumption) (by first | omega | (simp; done) | (simp; omega))) | (refine Below.trans ?_ (by assumption)))⟩
    · have hC' : (C != 0) = true := by simpa using hC
      clear hC
      go_wp2
      go_ret
      exact ⟨rfl, by repeat (first | exact Below.refl _ _ | assumption | refine below_allocS ?_ _ | refine below_callS ?_ (by assumption) | (refine Below.alloc ?_ (by first | omega | (simp; done) | (simp; omega)) _) | (refine Below.setCell ?_ (by first | omega | (simp; done) | (simp; omega)) _) | refine Below.drew ?_ | refine below_drewN ?_ _ | (refine below_call ?_ (by assumption) (by first | omega | (simp; done) | (simp; omega))) | (refine Below.trans ?_ (by assumption)))⟩
  · go_enter Try.func3, Try.ntmps3
    go_wp2_with fail
    refine Calls.mono (laws_big_yes hn) ?_
    rintro e _ ⟨rfl, rfl⟩
    go_wp2
    go_ret
    exact ⟨rfl, by repeat (first | exact Below.refl _ _ | assumption | refine below_allocS ?_ _ | refine below_callS ?_ (by assumption) | (refine Below.alloc ?_ (by first | omega | (simp; done) | (simp; omega)) _) | (refine Below.setCell ?_ (by first | omega | (simp; done) | (simp; omega)) _) | refine Below.drew ?_ | refine below_drewN ?_ _ | (refine below_call ?_ (by assumption) (by first | omega | (simp; done) | (simp; omega))) | (refine Below.trans ?_ (by assumption)))⟩
end Go.Proofs.Ytoaccicfmfiemaa
