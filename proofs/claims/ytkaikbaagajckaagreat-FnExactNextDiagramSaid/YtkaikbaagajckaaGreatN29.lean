/- Is a diagram valid: the reference, walked. (Its round's region is printed by mkvt.py.) -/
import Derived.Test.YtkaikbaagajckaaGreatPu
import Derived.Test.YtkaikbaagajckaaGreatN25
import Derived.Deep.DrawnRows
namespace Go.Proofs.YtkaikbaagajckaaGreat
open Go.RowKit
set_option linter.unusedVariables false
set_option linter.unusedSimpArgs false
attribute [local go_sem ↓] Go.wp_at_zero Go.wp_at_succ
theorem ndB_no {n : Int} {L : List I3} {i : Nat} {x : I3} (hx : L[i]? = some x) (h : ¬ NdOk n L i x) : ndB n L i = false := by
  rw [Bool.eq_false_iff]
  exact fun e => h ((ndB_iff hx).1 e)
theorem inB_true {x lo hi : Int} (h : inB x lo hi = true) : lo ≤ x ∧ x ≤ hi := by
  simpa [inB] using h
theorem inB_no {x lo hi : Int} (h : inB x lo hi = false) : ¬ (lo ≤ x ∧ x ≤ hi) := by
  intro e
  rw [inB, decide_eq_true e.1, decide_eq_true e.2] at h
  cases h
theorem dia_no0 {n : Int} {L : List I3} {root : Int} (h : dia0 n L root = false) : diaB n L root = false := by rw [diaB, h]; rfl
theorem dia_nol {n : Int} {L : List I3} {root : Int} {i : Nat} (hi : i < L.length) (h : ndB n L i = false) : diaB n L root = false := by
  rw [diaB, upB_false hi h]; simp
set_option maxRecDepth 100000 in
set_option maxHeartbeats 8000000 in
theorem spec_IsDiagram {a : Option Addr} {n c : Nat} {L : List I3} {inp root : Int} {w : World} (hI : F3 w a n c L) (hi : I64 inp) (hr : I64 root) (hn : n ≤ maxLen) :
    Calls Tryz.prog 166 #[.agg #[.int .i64 inp, .slice a n c, .int .i64 root]] w fun e w' => e = .returned (.bool (diaB inp L root)) ∧ Below w.heap.size w w' := by
  have HI := Lib.hid hI
  obtain rfl : L.length = n := hI.len
  have X := Lib.hid (Blk.made w #[.int .i64 inp, .slice a L.length c, .int .i64 root] 40)
  have hb0 : Below w.heap.size w (w.alloc (.cells #[.int .i64 inp, .slice a L.length c, .int .i64 root] 40)) := bel
  clear hI
  unfold maxLen at hn
  unfold I64 at hi hr
  cases h1 : inB inp 0 20
  · have H1 := Lib.hid h1
    have HF := Lib.hid (dia_no0 (n := inp) (L := L) (root := root) (by rw [dia0, h1]; rfl))
    clear h1
    go_enter Tryz.func166, Tryz.ntmps166
    go_wp2_with fail
    go_wp2_with fail
    refine Calls.mono (spec_l01In) ?_
    rintro e _ ⟨rfl, rfl⟩
    rw [H1.out]
    go_wp2
    go_ret
    exact ⟨ret_bool (by rw [HF.out]), hb0⟩
  have H1 := Lib.hid h1
  have h1' := inB_true h1
  by_cases h2 : 2000 < L.length
  · have h2' : (2000 : Int) < (L.length : Int) := by omega
    have HF := Lib.hid (dia_no0 (n := inp) (L := L) (root := root) (by rw [dia0, decide_eq_false (show ¬ L.length ≤ 2000 by omega)]; simp))
    clear h1
    go_enter Tryz.func166, Tryz.ntmps166
    go_wp2_with fail
    go_wp2_with fail
    refine Calls.mono (spec_l01In) ?_
    rintro e _ ⟨rfl, rfl⟩
    rw [H1.out]
    go_wp2
    go_ret
    exact ⟨ret_bool (by rw [HF.out]), hb0⟩
  have h2' : ¬ (2000 : Int) < (L.length : Int) := by omega
  have hn' : L.length ≤ 1048576 := by omega
  have e3 : IntKind.i64.wrap ((L.length : Int) + 1) = (L.length : Int) + 1 := IntWalk.i64_in _ (by omega)
  cases h3 : inB root 0 ((L.length : Int) + 1)
  · have H3 := Lib.hid h3
    have HF := Lib.hid (dia_no0 (n := inp) (L := L) (root := root) (by rw [dia0, h3]; simp))
    clear h1 h3
    go_enter Tryz.func166, Tryz.ntmps166
    go_wp2_with fail
    go_wp2_with fail
    refine Calls.mono (spec_l01In) ?_
    rintro e _ ⟨rfl, rfl⟩
    rw [H1.out]
    go_wp2_with fail
    go_wp2_with fail
    refine Calls.mono (spec_l01In) ?_
    rintro e _ ⟨rfl, rfl⟩
    rw [H3.out]
    go_wp2
    go_ret
    exact ⟨ret_bool (by rw [HF.out]), hb0⟩
  have H3 := Lib.hid h3
  have h3' := inB_true h3
  have HD0 := Lib.hid (show dia0 inp L root = true by rw [dia0, h1, h3, decide_eq_true (show L.length ≤ 2000 by omega)]; rfl)
  clear h1 h3
  go_enter Tryz.func166, Tryz.ntmps166
  go_wp2_with fail
  go_wp2_with fail
  refine Calls.mono (spec_l01In) ?_
  rintro e _ ⟨rfl, rfl⟩
  rw [H1.out]
  go_wp2_with fail
  go_wp2_with fail
  refine Calls.mono (spec_l01In) ?_
  rintro e _ ⟨rfl, rfl⟩
  rw [H3.out]
  go_wp2_with fail
  go_loopw [3] (fun s3 wr => ∃ j : Nat, s3 = .int .i64 j ∧ j ≤ L.length ∧ w.heap.size + 1 ≤ wr.heap.size ∧ Hid (Below w.heap.size w wr) ∧ Hid (Blk wr w.heap.size #[.int .i64 inp, .slice a L.length c, .int .i64 root] 40) ∧ Hid (upB (ndB inp L) j = true)) (fun s3 _ => L.length - (intOf s3).toNat)
  case atStart => exact ⟨0, rfl, by omega, by simp, Lib.hid hb0, X, Lib.hid (upB_zero _)⟩
  case round =>
    clear X hb0
    obtain ⟨j, rfl, hj, hsr, HB, X, A⟩ := hrel
    have y0 := X.out.cell 0
    have y1 := X.out.cell 1
    have y2 := X.out.cell 2
    have yl := X.out.lt
    simp only [List.getElem?_toArray, List.getElem?_cons_succ, List.getElem?_cons_zero] at y0 y1 y2
    by_cases hlt : j < L.length
    · have hlt' : (j : Int) < (L.length : Int) := by omega
      have hj0 : (0 : Int) ≤ (j : Int) := by omega
      obtain ⟨b1, o1, x, rfl, hb1, hx, hwf, c0, c1, c2⟩ := F3.get (HI.out.keep HB.out) hlt
      have HX := Lib.hid hx
      have hwa := hwf.1
      have hwb := hwf.2.1
      have hwc := hwf.2.2
      unfold I64 at hwa hwb hwc
      have e5 : IntKind.i64.wrap (inp - 1) = inp - 1 := IntWalk.i64_in _ (by omega)
      have e6 : IntKind.i64.wrap ((j : Int) + 1) = (j : Int) + 1 := IntWalk.i64_in _ (by omega)
      have hbA : Below w.heap.size w (wr.alloc (.cells #[.int .i64 x.a, .int .i64 x.b, .int .i64 x.c] 117)) := below_alloc1 HB.out _
      have XA := Lib.hid (X.out.keep (below_alloc1 (Below.refl wr.heap.size wr) (.cells #[.int .i64 x.a, .int .i64 x.b, .int .i64 x.c] 117)))
      have ZA := Lib.hid (Blk.made wr #[.int .i64 x.a, .int .i64 x.b, .int .i64 x.c] 117)
      obtain ⟨wA, hwA⟩ : ∃ wA, wA = wr.alloc (.cells #[.int .i64 x.a, .int .i64 x.b, .int .i64 x.c] 117) := ⟨_, rfl⟩
      rw [← hwA] at hbA XA ZA
      clear hx hwf
      go_wp2_with fail
      have d0 := XA.out.cell 0
      have d1 := XA.out.cell 1
      have d2 := XA.out.cell 2
      have dl := XA.out.lt
      have z0 := ZA.out.cell 0
      have z1 := ZA.out.cell 1
      have z2 := ZA.out.cell 2
      have zl := ZA.out.lt
      simp only [List.getElem?_toArray, List.getElem?_cons_succ, List.getElem?_cons_zero] at d0 d1 d2 z0 z1 z2
      have hsA : w.heap.size + 1 ≤ wA.heap.size := by rw [hwA]; simp; omega
      have hrA : Below wA.heap.size wA wA.drew := (Below.refl _ _).drew
      rw [← hwA]
      clear hwA y0 y1 y2 yl c0 c1 c2
      cases p1 : inB x.a 0 (inp - 1)
      · have P1 := Lib.hid p1
        have HF := Lib.hid (dia_nol (n := inp) (root := root) hlt (ndB_no HX.out (fun h => (inB_no P1.out) h.inp)))
        clear HX p1
        refine wp_region_noPanic ?_
        refine wp_region_held_drew (S := (fun wx => wx.cell? ⟨w.heap.size, 0, none⟩ = some (.int .i64 inp) ∧ wx.cell? ⟨w.heap.size, 1, none⟩ = some (.slice (some ⟨b1, o1, none⟩) L.length c) ∧ wx.cell? ⟨w.heap.size, 2, none⟩ = some (.int .i64 root) ∧ wx.cell? ⟨wr.heap.size, 0, none⟩ = some (.int .i64 x.a) ∧ wx.cell? ⟨wr.heap.size, 1, none⟩ = some (.int .i64 x.b) ∧ wx.cell? ⟨wr.heap.size, 2, none⟩ = some (.int .i64 x.c) ∧ w.heap.size < wx.heap.size ∧ wr.heap.size < wx.heap.size ∧ Below wA.heap.size wA wx)) (by kernel_rfl) ?_ (fun hHeld => ?_)
        · (try dsimp only); (((try go_split_ands); (repeat' apply And.intro) <;> with_reducible (first | assumption | exact (hcx _ _ (by assumption)).trans (by assumption) | exact Nat.lt_of_lt_of_le (by assumption) hsx | exact below_callS (by assumption) hbx | exact Below.drew (by assumption) | exact cellR_drew (by assumption) | exact ltR_drew (by assumption) | exact (Below.refl _ _).drew)))
        refine tkH 0 ?_
        try simp only [pu]
        refine tkH 1 ?_
        try simp only [pu]
        refine tkH 2 ?_
        try simp only [pu]
        refine tkH 3 ?_
        try simp only [pu]
        refine tkH 4 ?_
        try simp only [pu]
        refine wpAnyH_ready (rs := [5]) (by kernel_rfl) (by simp) ?_
        refine AllReadyH.cons rfl (fun K hK => ?_) AllReadyH.nil
        go_simp
        (go_at_call 117; refine Calls.mono spec_l01In ?_; rintro e _ ⟨rfl, rfl⟩; rw [P1.out])
        go_wp2_with fail
        refine hK.out _ _ ?_ (fun hHeld => ?_)
        · (try dsimp only); (((try go_split_ands); (repeat' apply And.intro) <;> with_reducible (first | assumption | exact (hcx _ _ (by assumption)).trans (by assumption) | exact Nat.lt_of_lt_of_le (by assumption) hsx | exact below_callS (by assumption) hbx | exact Below.drew (by assumption) | exact cellR_drew (by assumption) | exact ltR_drew (by assumption) | exact (Below.refl _ _).drew)))
        clear hK K
        try simp only [pu]
        refine tkH 6 ?_
        try simp only [pu]
        refine tkH 7 ?_
        try simp only [pu]
        refine tkN 8 ?_
        try simp only [pu]
        refine tkN 9 ?_
        try simp only [pu]
        refine tkN 10 ?_
        try simp only [pu]
        refine tkN 11 ?_
        try simp only [pu]
        refine tkN 12 ?_
        try simp only [pu]
        refine tkN 13 ?_
        try simp only [pu]
        refine tkH 14 ?_
        try simp only [pu]
        refine tkH 15 ?_
        try simp only [pu]
        refine tkN 16 ?_
        try simp only [pu]
        refine tkN 17 ?_
        try simp only [pu]
        refine tkN 18 ?_
        try simp only [pu]
        refine tkN 19 ?_
        try simp only [pu]
        refine tkN 20 ?_
        try simp only [pu]
        refine tkN 21 ?_
        try simp only [pu]
        refine tkH 22 ?_
        try simp only [pu]
        refine tkH 23 ?_
        try simp only [pu]
        refine tkN 24 ?_
        try simp only [pu]
        refine tkN 25 ?_
        try simp only [pu]
        refine tkN 26 ?_
        try simp only [pu]
        refine tkN 27 ?_
        try simp only [pu]
        refine tkN 28 ?_
        try simp only [pu]
        refine tkH 29 ?_
        try simp only [pu]
        refine tkH 30 ?_
        try simp only [pu]
        refine tkN 31 ?_
        try simp only [pu]
        refine tkN 32 ?_
        try simp only [pu]
        refine tkN 33 ?_
        try simp only [pu]
        refine tkN 35 ?_
        try simp only [pu]
        refine tkN 36 ?_
        try simp only [pu]
        refine tkN 34 ?_
        try simp only [pu]
        refine tkN 37 ?_
        try simp only [pu]
        refine tkH 38 ?_
        try simp only [pu]
        refine tkH 39 ?_
        try simp only [pu]
        refine tkN 40 ?_
        try simp only [pu]
        refine tkN 41 ?_
        try simp only [pu]
        refine tkN 42 ?_
        try simp only [pu]
        refine tkN 44 ?_
        try simp only [pu]
        refine tkN 45 ?_
        try simp only [pu]
        refine tkN 43 ?_
        try simp only [pu]
        refine tkN 46 ?_
        try simp only [pu]
        refine tkH 47 ?_
        try simp only [pu]
        refine wpAnyH_done (by kernel_rfl) ?_ _
        refine NoPanic.normal ?_
        go_split_ands
        go_wp2
        go_ret
        exact ⟨ret_bool (by rw [HF.out]), below_callS hbA (by assumption)⟩
      have P1 := Lib.hid p1
      have k1 := inB_true p1
      clear p1
      cases p2 : inB x.b 0 ((j : Int) + 1)
      · have P2 := Lib.hid p2
        have HF := Lib.hid (dia_nol (n := inp) (root := root) hlt (ndB_no HX.out (fun h => (inB_no P2.out) h.low)))
        clear HX p2
        refine wp_region_noPanic ?_
        refine wp_region_held_drew (S := (fun wx => wx.cell? ⟨w.heap.size, 0, none⟩ = some (.int .i64 inp) ∧ wx.cell? ⟨w.heap.size, 1, none⟩ = some (.slice (some ⟨b1, o1, none⟩) L.length c) ∧ wx.cell? ⟨w.heap.size, 2, none⟩ = some (.int .i64 root) ∧ wx.cell? ⟨wr.heap.size, 0, none⟩ = some (.int .i64 x.a) ∧ wx.cell? ⟨wr.heap.size, 1, none⟩ = some (.int .i64 x.b) ∧ wx.cell? ⟨wr.heap.size, 2, none⟩ = some (.int .i64 x.c) ∧ w.heap.size < wx.heap.size ∧ wr.heap.size < wx.heap.size ∧ Below wA.heap.size wA wx)) (by kernel_rfl) ?_ (fun hHeld => ?_)
        · (try dsimp only); (((try go_split_ands); (repeat' apply And.intro) <;> with_reducible (first | assumption | exact (hcx _ _ (by assumption)).trans (by assumption) | exact Nat.lt_of_lt_of_le (by assumption) hsx | exact below_callS (by assumption) hbx | exact Below.drew (by assumption) | exact cellR_drew (by assumption) | exact ltR_drew (by assumption) | exact (Below.refl _ _).drew)))
        refine tkH 0 ?_
        try simp only [pu]
        refine tkH 1 ?_
        try simp only [pu]
        refine tkH 2 ?_
        try simp only [pu]
        refine tkH 3 ?_
        try simp only [pu]
        refine tkH 4 ?_
        try simp only [pu]
        refine wpAnyH_ready (rs := [5]) (by kernel_rfl) (by simp) ?_
        refine AllReadyH.cons rfl (fun K hK => ?_) AllReadyH.nil
        go_simp
        (go_at_call 117; refine Calls.mono spec_l01In ?_; rintro e _ ⟨rfl, rfl⟩; rw [P1.out])
        go_wp2_with fail
        refine hK.out _ _ ?_ (fun hHeld => ?_)
        · (try dsimp only); (((try go_split_ands); (repeat' apply And.intro) <;> with_reducible (first | assumption | exact (hcx _ _ (by assumption)).trans (by assumption) | exact Nat.lt_of_lt_of_le (by assumption) hsx | exact below_callS (by assumption) hbx | exact Below.drew (by assumption) | exact cellR_drew (by assumption) | exact ltR_drew (by assumption) | exact (Below.refl _ _).drew)))
        clear hK K
        try simp only [pu]
        refine tkH 6 ?_
        try simp only [pu]
        refine tkH 7 ?_
        try simp only [pu]
        refine tkH 8 ?_
        try simp only [pu]
        refine tkH 9 ?_
        try simp only [pu]
        refine tkH 10 ?_
        try simp only [pu]
        refine tkH 11 ?_
        try simp only [pu]
        refine wpAnyH_ready (rs := [12]) (by kernel_rfl) (by simp) ?_
        refine AllReadyH.cons rfl (fun K hK => ?_) AllReadyH.nil
        go_simp
        (go_at_call 117; refine Calls.mono spec_l01In ?_; rintro e _ ⟨rfl, rfl⟩; rw [P2.out])
        go_wp2_with fail
        refine hK.out _ _ ?_ (fun hHeld => ?_)
        · (try dsimp only); (((try go_split_ands); (repeat' apply And.intro) <;> with_reducible (first | assumption | exact (hcx _ _ (by assumption)).trans (by assumption) | exact Nat.lt_of_lt_of_le (by assumption) hsx | exact below_callS (by assumption) hbx | exact Below.drew (by assumption) | exact cellR_drew (by assumption) | exact ltR_drew (by assumption) | exact (Below.refl _ _).drew)))
        clear hK K
        try simp only [pu]
        refine tkH 13 ?_
        try simp only [pu]
        refine tkH 14 ?_
        try simp only [pu]
        refine tkH 15 ?_
        try simp only [pu]
        refine tkN 16 ?_
        try simp only [pu]
        refine tkN 17 ?_
        try simp only [pu]
        refine tkN 18 ?_
        try simp only [pu]
        refine tkN 19 ?_
        try simp only [pu]
        refine tkN 20 ?_
        try simp only [pu]
        refine tkN 21 ?_
        try simp only [pu]
        refine tkH 22 ?_
        try simp only [pu]
        refine tkH 23 ?_
        try simp only [pu]
        refine tkN 24 ?_
        try simp only [pu]
        refine tkN 25 ?_
        try simp only [pu]
        refine tkN 26 ?_
        try simp only [pu]
        refine tkN 27 ?_
        try simp only [pu]
        refine tkN 28 ?_
        try simp only [pu]
        refine tkH 29 ?_
        try simp only [pu]
        refine tkH 30 ?_
        try simp only [pu]
        refine tkN 31 ?_
        try simp only [pu]
        refine tkN 32 ?_
        try simp only [pu]
        refine tkN 33 ?_
        try simp only [pu]
        refine tkN 35 ?_
        try simp only [pu]
        refine tkN 36 ?_
        try simp only [pu]
        refine tkN 34 ?_
        try simp only [pu]
        refine tkN 37 ?_
        try simp only [pu]
        refine tkH 38 ?_
        try simp only [pu]
        refine tkH 39 ?_
        try simp only [pu]
        refine tkN 40 ?_
        try simp only [pu]
        refine tkN 41 ?_
        try simp only [pu]
        refine tkN 42 ?_
        try simp only [pu]
        refine tkN 44 ?_
        try simp only [pu]
        refine tkN 45 ?_
        try simp only [pu]
        refine tkN 43 ?_
        try simp only [pu]
        refine tkN 46 ?_
        try simp only [pu]
        refine tkH 47 ?_
        try simp only [pu]
        refine wpAnyH_done (by kernel_rfl) ?_ _
        refine NoPanic.normal ?_
        go_split_ands
        go_wp2
        go_ret
        exact ⟨ret_bool (by rw [HF.out]), below_callS hbA (by assumption)⟩
      have P2 := Lib.hid p2
      have k2 := inB_true p2
      clear p2
      cases p3 : inB x.c 0 ((j : Int) + 1)
      · have P3 := Lib.hid p3
        have HF := Lib.hid (dia_nol (n := inp) (root := root) hlt (ndB_no HX.out (fun h => (inB_no P3.out) h.high)))
        clear HX p3
        refine wp_region_noPanic ?_
        refine wp_region_held_drew (S := (fun wx => wx.cell? ⟨w.heap.size, 0, none⟩ = some (.int .i64 inp) ∧ wx.cell? ⟨w.heap.size, 1, none⟩ = some (.slice (some ⟨b1, o1, none⟩) L.length c) ∧ wx.cell? ⟨w.heap.size, 2, none⟩ = some (.int .i64 root) ∧ wx.cell? ⟨wr.heap.size, 0, none⟩ = some (.int .i64 x.a) ∧ wx.cell? ⟨wr.heap.size, 1, none⟩ = some (.int .i64 x.b) ∧ wx.cell? ⟨wr.heap.size, 2, none⟩ = some (.int .i64 x.c) ∧ w.heap.size < wx.heap.size ∧ wr.heap.size < wx.heap.size ∧ Below wA.heap.size wA wx)) (by kernel_rfl) ?_ (fun hHeld => ?_)
        · (try dsimp only); (((try go_split_ands); (repeat' apply And.intro) <;> with_reducible (first | assumption | exact (hcx _ _ (by assumption)).trans (by assumption) | exact Nat.lt_of_lt_of_le (by assumption) hsx | exact below_callS (by assumption) hbx | exact Below.drew (by assumption) | exact cellR_drew (by assumption) | exact ltR_drew (by assumption) | exact (Below.refl _ _).drew)))
        refine tkH 0 ?_
        try simp only [pu]
        refine tkH 1 ?_
        try simp only [pu]
        refine tkH 2 ?_
        try simp only [pu]
        refine tkH 3 ?_
        try simp only [pu]
        refine tkH 4 ?_
        try simp only [pu]
        refine wpAnyH_ready (rs := [5]) (by kernel_rfl) (by simp) ?_
        refine AllReadyH.cons rfl (fun K hK => ?_) AllReadyH.nil
        go_simp
        (go_at_call 117; refine Calls.mono spec_l01In ?_; rintro e _ ⟨rfl, rfl⟩; rw [P1.out])
        go_wp2_with fail
        refine hK.out _ _ ?_ (fun hHeld => ?_)
        · (try dsimp only); (((try go_split_ands); (repeat' apply And.intro) <;> with_reducible (first | assumption | exact (hcx _ _ (by assumption)).trans (by assumption) | exact Nat.lt_of_lt_of_le (by assumption) hsx | exact below_callS (by assumption) hbx | exact Below.drew (by assumption) | exact cellR_drew (by assumption) | exact ltR_drew (by assumption) | exact (Below.refl _ _).drew)))
        clear hK K
        try simp only [pu]
        refine tkH 6 ?_
        try simp only [pu]
        refine tkH 7 ?_
        try simp only [pu]
        refine tkH 8 ?_
        try simp only [pu]
        refine tkH 9 ?_
        try simp only [pu]
        refine tkH 10 ?_
        try simp only [pu]
        refine tkH 11 ?_
        try simp only [pu]
        refine wpAnyH_ready (rs := [12]) (by kernel_rfl) (by simp) ?_
        refine AllReadyH.cons rfl (fun K hK => ?_) AllReadyH.nil
        go_simp
        (go_at_call 117; refine Calls.mono spec_l01In ?_; rintro e _ ⟨rfl, rfl⟩; rw [P2.out])
        go_wp2_with fail
        refine hK.out _ _ ?_ (fun hHeld => ?_)
        · (try dsimp only); (((try go_split_ands); (repeat' apply And.intro) <;> with_reducible (first | assumption | exact (hcx _ _ (by assumption)).trans (by assumption) | exact Nat.lt_of_lt_of_le (by assumption) hsx | exact below_callS (by assumption) hbx | exact Below.drew (by assumption) | exact cellR_drew (by assumption) | exact ltR_drew (by assumption) | exact (Below.refl _ _).drew)))
        clear hK K
        try simp only [pu]
        refine tkH 13 ?_
        try simp only [pu]
        refine tkH 14 ?_
        try simp only [pu]
        refine tkH 15 ?_
        try simp only [pu]
        refine tkH 16 ?_
        try simp only [pu]
        refine tkH 17 ?_
        try simp only [pu]
        refine tkH 18 ?_
        try simp only [pu]
        refine tkH 19 ?_
        try simp only [pu]
        refine wpAnyH_ready (rs := [20]) (by kernel_rfl) (by simp) ?_
        refine AllReadyH.cons rfl (fun K hK => ?_) AllReadyH.nil
        go_simp
        (go_at_call 117; refine Calls.mono spec_l01In ?_; rintro e _ ⟨rfl, rfl⟩; rw [P3.out])
        go_wp2_with fail
        refine hK.out _ _ ?_ (fun hHeld => ?_)
        · (try dsimp only); (((try go_split_ands); (repeat' apply And.intro) <;> with_reducible (first | assumption | exact (hcx _ _ (by assumption)).trans (by assumption) | exact Nat.lt_of_lt_of_le (by assumption) hsx | exact below_callS (by assumption) hbx | exact Below.drew (by assumption) | exact cellR_drew (by assumption) | exact ltR_drew (by assumption) | exact (Below.refl _ _).drew)))
        clear hK K
        try simp only [pu]
        refine tkH 21 ?_
        try simp only [pu]
        refine tkH 22 ?_
        try simp only [pu]
        refine tkH 23 ?_
        try simp only [pu]
        refine tkN 24 ?_
        try simp only [pu]
        refine tkN 25 ?_
        try simp only [pu]
        refine tkN 26 ?_
        try simp only [pu]
        refine tkN 27 ?_
        try simp only [pu]
        refine tkN 28 ?_
        try simp only [pu]
        refine tkH 29 ?_
        try simp only [pu]
        refine tkH 30 ?_
        try simp only [pu]
        refine tkN 31 ?_
        try simp only [pu]
        refine tkN 32 ?_
        try simp only [pu]
        refine tkN 33 ?_
        try simp only [pu]
        refine tkN 35 ?_
        try simp only [pu]
        refine tkN 36 ?_
        try simp only [pu]
        refine tkN 34 ?_
        try simp only [pu]
        refine tkN 37 ?_
        try simp only [pu]
        refine tkH 38 ?_
        try simp only [pu]
        refine tkH 39 ?_
        try simp only [pu]
        refine tkN 40 ?_
        try simp only [pu]
        refine tkN 41 ?_
        try simp only [pu]
        refine tkN 42 ?_
        try simp only [pu]
        refine tkN 44 ?_
        try simp only [pu]
        refine tkN 45 ?_
        try simp only [pu]
        refine tkN 43 ?_
        try simp only [pu]
        refine tkN 46 ?_
        try simp only [pu]
        refine tkH 47 ?_
        try simp only [pu]
        refine wpAnyH_done (by kernel_rfl) ?_ _
        refine NoPanic.normal ?_
        go_split_ands
        go_wp2
        go_ret
        exact ⟨ret_bool (by rw [HF.out]), below_callS hbA (by assumption)⟩
      have P3 := Lib.hid p3
      have k3 := inB_true p3
      clear p3
      have RBb := Lib.hid (show RefB x.b L.length from ⟨k2.1, by omega⟩)
      have RBc := Lib.hid (show RefB x.c L.length from ⟨k3.1, by omega⟩)
      by_cases q4 : x.b = x.c
      · have e4 : (x.b == x.c) = true := by simpa using q4
        have Q4 := Lib.hid q4
        have RBc2 := RBc
        have HF := Lib.hid (dia_nol (n := inp) (root := root) hlt (ndB_no HX.out (fun h => h.ne Q4.out)))
        clear HX q4
        refine wp_region_noPanic ?_
        refine wp_region_held_drew (S := (fun wx => wx.cell? ⟨w.heap.size, 0, none⟩ = some (.int .i64 inp) ∧ wx.cell? ⟨w.heap.size, 1, none⟩ = some (.slice (some ⟨b1, o1, none⟩) L.length c) ∧ wx.cell? ⟨w.heap.size, 2, none⟩ = some (.int .i64 root) ∧ wx.cell? ⟨wr.heap.size, 0, none⟩ = some (.int .i64 x.a) ∧ wx.cell? ⟨wr.heap.size, 1, none⟩ = some (.int .i64 x.b) ∧ wx.cell? ⟨wr.heap.size, 2, none⟩ = some (.int .i64 x.c) ∧ w.heap.size < wx.heap.size ∧ wr.heap.size < wx.heap.size ∧ Below wA.heap.size wA wx)) (by kernel_rfl) ?_ (fun hHeld => ?_)
        · (try dsimp only); (((try go_split_ands); (repeat' apply And.intro) <;> with_reducible (first | assumption | exact (hcx _ _ (by assumption)).trans (by assumption) | exact Nat.lt_of_lt_of_le (by assumption) hsx | exact below_callS (by assumption) hbx | exact Below.drew (by assumption) | exact cellR_drew (by assumption) | exact ltR_drew (by assumption) | exact (Below.refl _ _).drew)))
        refine tkH 0 ?_
        try simp only [pu]
        refine tkH 1 ?_
        try simp only [pu]
        refine tkH 2 ?_
        try simp only [pu]
        refine tkH 3 ?_
        try simp only [pu]
        refine tkH 4 ?_
        try simp only [pu]
        refine wpAnyH_ready (rs := [5]) (by kernel_rfl) (by simp) ?_
        refine AllReadyH.cons rfl (fun K hK => ?_) AllReadyH.nil
        go_simp
        (go_at_call 117; refine Calls.mono spec_l01In ?_; rintro e _ ⟨rfl, rfl⟩; rw [P1.out])
        go_wp2_with fail
        refine hK.out _ _ ?_ (fun hHeld => ?_)
        · (try dsimp only); (((try go_split_ands); (repeat' apply And.intro) <;> with_reducible (first | assumption | exact (hcx _ _ (by assumption)).trans (by assumption) | exact Nat.lt_of_lt_of_le (by assumption) hsx | exact below_callS (by assumption) hbx | exact Below.drew (by assumption) | exact cellR_drew (by assumption) | exact ltR_drew (by assumption) | exact (Below.refl _ _).drew)))
        clear hK K
        try simp only [pu]
        refine tkH 6 ?_
        try simp only [pu]
        refine tkH 7 ?_
        try simp only [pu]
        refine tkH 8 ?_
        try simp only [pu]
        refine tkH 9 ?_
        try simp only [pu]
        refine tkH 10 ?_
        try simp only [pu]
        refine tkH 11 ?_
        try simp only [pu]
        refine wpAnyH_ready (rs := [12]) (by kernel_rfl) (by simp) ?_
        refine AllReadyH.cons rfl (fun K hK => ?_) AllReadyH.nil
        go_simp
        (go_at_call 117; refine Calls.mono spec_l01In ?_; rintro e _ ⟨rfl, rfl⟩; rw [P2.out])
        go_wp2_with fail
        refine hK.out _ _ ?_ (fun hHeld => ?_)
        · (try dsimp only); (((try go_split_ands); (repeat' apply And.intro) <;> with_reducible (first | assumption | exact (hcx _ _ (by assumption)).trans (by assumption) | exact Nat.lt_of_lt_of_le (by assumption) hsx | exact below_callS (by assumption) hbx | exact Below.drew (by assumption) | exact cellR_drew (by assumption) | exact ltR_drew (by assumption) | exact (Below.refl _ _).drew)))
        clear hK K
        try simp only [pu]
        refine tkH 13 ?_
        try simp only [pu]
        refine tkH 14 ?_
        try simp only [pu]
        refine tkH 15 ?_
        try simp only [pu]
        refine tkH 16 ?_
        try simp only [pu]
        refine tkH 17 ?_
        try simp only [pu]
        refine tkH 18 ?_
        try simp only [pu]
        refine tkH 19 ?_
        try simp only [pu]
        refine wpAnyH_ready (rs := [20]) (by kernel_rfl) (by simp) ?_
        refine AllReadyH.cons rfl (fun K hK => ?_) AllReadyH.nil
        go_simp
        (go_at_call 117; refine Calls.mono spec_l01In ?_; rintro e _ ⟨rfl, rfl⟩; rw [P3.out])
        go_wp2_with fail
        refine hK.out _ _ ?_ (fun hHeld => ?_)
        · (try dsimp only); (((try go_split_ands); (repeat' apply And.intro) <;> with_reducible (first | assumption | exact (hcx _ _ (by assumption)).trans (by assumption) | exact Nat.lt_of_lt_of_le (by assumption) hsx | exact below_callS (by assumption) hbx | exact Below.drew (by assumption) | exact cellR_drew (by assumption) | exact ltR_drew (by assumption) | exact (Below.refl _ _).drew)))
        clear hK K
        try simp only [pu]
        refine tkH 21 ?_
        try simp only [pu]
        refine tkH 22 ?_
        try simp only [pu]
        refine tkH 23 ?_
        try simp only [pu]
        refine tkH 24 ?_
        try simp only [pu]
        refine tkH 25 ?_
        try simp only [pu]
        refine tkH 26 ?_
        try simp only [pu]
        refine tkH 27 ?_
        try simp only [pu]
        refine tkH 28 ?_
        try simp only [pu]
        refine tkH 29 ?_
        try simp only [pu]
        refine tkH 30 ?_
        try simp only [pu]
        refine tkN 31 ?_
        try simp only [pu]
        refine tkN 32 ?_
        try simp only [pu]
        refine tkN 33 ?_
        try simp only [pu]
        refine tkN 35 ?_
        try simp only [pu]
        refine tkN 36 ?_
        try simp only [pu]
        refine tkN 34 ?_
        try simp only [pu]
        refine tkN 37 ?_
        try simp only [pu]
        refine tkH 38 ?_
        try simp only [pu]
        refine tkH 39 ?_
        try simp only [pu]
        refine tkN 40 ?_
        try simp only [pu]
        refine tkN 41 ?_
        try simp only [pu]
        refine tkN 42 ?_
        try simp only [pu]
        refine tkN 44 ?_
        try simp only [pu]
        refine tkN 45 ?_
        try simp only [pu]
        refine tkN 43 ?_
        try simp only [pu]
        refine tkN 46 ?_
        try simp only [pu]
        refine tkH 47 ?_
        try simp only [pu]
        refine wpAnyH_done (by kernel_rfl) ?_ _
        refine NoPanic.normal ?_
        go_split_ands
        go_wp2
        go_ret
        exact ⟨ret_bool (by rw [HF.out]), below_callS hbA (by assumption)⟩
      have e4 : (x.b == x.c) = false := by simpa using q4
      have Q4 := Lib.hid q4
      by_cases q5 : lvlN inp L x.b ≤ x.a
      · have hd5 : decide (lvlN inp L x.b ≤ x.a) = true := decide_eq_true q5
        have HF := Lib.hid (dia_nol (n := inp) (root := root) hlt (ndB_no HX.out (fun h => by have := h.lb; omega)))
        clear HX
        refine wp_region_noPanic ?_
        refine wp_region_held_drew (S := (fun wx => wx.cell? ⟨w.heap.size, 0, none⟩ = some (.int .i64 inp) ∧ wx.cell? ⟨w.heap.size, 1, none⟩ = some (.slice (some ⟨b1, o1, none⟩) L.length c) ∧ wx.cell? ⟨w.heap.size, 2, none⟩ = some (.int .i64 root) ∧ wx.cell? ⟨wr.heap.size, 0, none⟩ = some (.int .i64 x.a) ∧ wx.cell? ⟨wr.heap.size, 1, none⟩ = some (.int .i64 x.b) ∧ wx.cell? ⟨wr.heap.size, 2, none⟩ = some (.int .i64 x.c) ∧ w.heap.size < wx.heap.size ∧ wr.heap.size < wx.heap.size ∧ Below wA.heap.size wA wx)) (by kernel_rfl) ?_ (fun hHeld => ?_)
        · (try dsimp only); (((try go_split_ands); (repeat' apply And.intro) <;> with_reducible (first | assumption | exact (hcx _ _ (by assumption)).trans (by assumption) | exact Nat.lt_of_lt_of_le (by assumption) hsx | exact below_callS (by assumption) hbx | exact Below.drew (by assumption) | exact cellR_drew (by assumption) | exact ltR_drew (by assumption) | exact (Below.refl _ _).drew)))
        refine tkH 0 ?_
        try simp only [pu]
        refine tkH 1 ?_
        try simp only [pu]
        refine tkH 2 ?_
        try simp only [pu]
        refine tkH 3 ?_
        try simp only [pu]
        refine tkH 4 ?_
        try simp only [pu]
        refine wpAnyH_ready (rs := [5]) (by kernel_rfl) (by simp) ?_
        refine AllReadyH.cons rfl (fun K hK => ?_) AllReadyH.nil
        go_simp
        (go_at_call 117; refine Calls.mono spec_l01In ?_; rintro e _ ⟨rfl, rfl⟩; rw [P1.out])
        go_wp2_with fail
        refine hK.out _ _ ?_ (fun hHeld => ?_)
        · (try dsimp only); (((try go_split_ands); (repeat' apply And.intro) <;> with_reducible (first | assumption | exact (hcx _ _ (by assumption)).trans (by assumption) | exact Nat.lt_of_lt_of_le (by assumption) hsx | exact below_callS (by assumption) hbx | exact Below.drew (by assumption) | exact cellR_drew (by assumption) | exact ltR_drew (by assumption) | exact (Below.refl _ _).drew)))
        clear hK K
        try simp only [pu]
        refine tkH 6 ?_
        try simp only [pu]
        refine tkH 7 ?_
        try simp only [pu]
        refine tkH 8 ?_
        try simp only [pu]
        refine tkH 9 ?_
        try simp only [pu]
        refine tkH 10 ?_
        try simp only [pu]
        refine tkH 11 ?_
        try simp only [pu]
        refine wpAnyH_ready (rs := [12]) (by kernel_rfl) (by simp) ?_
        refine AllReadyH.cons rfl (fun K hK => ?_) AllReadyH.nil
        go_simp
        (go_at_call 117; refine Calls.mono spec_l01In ?_; rintro e _ ⟨rfl, rfl⟩; rw [P2.out])
        go_wp2_with fail
        refine hK.out _ _ ?_ (fun hHeld => ?_)
        · (try dsimp only); (((try go_split_ands); (repeat' apply And.intro) <;> with_reducible (first | assumption | exact (hcx _ _ (by assumption)).trans (by assumption) | exact Nat.lt_of_lt_of_le (by assumption) hsx | exact below_callS (by assumption) hbx | exact Below.drew (by assumption) | exact cellR_drew (by assumption) | exact ltR_drew (by assumption) | exact (Below.refl _ _).drew)))
        clear hK K
        try simp only [pu]
        refine tkH 13 ?_
        try simp only [pu]
        refine tkH 14 ?_
        try simp only [pu]
        refine tkH 15 ?_
        try simp only [pu]
        refine tkH 16 ?_
        try simp only [pu]
        refine tkH 17 ?_
        try simp only [pu]
        refine tkH 18 ?_
        try simp only [pu]
        refine tkH 19 ?_
        try simp only [pu]
        refine wpAnyH_ready (rs := [20]) (by kernel_rfl) (by simp) ?_
        refine AllReadyH.cons rfl (fun K hK => ?_) AllReadyH.nil
        go_simp
        (go_at_call 117; refine Calls.mono spec_l01In ?_; rintro e _ ⟨rfl, rfl⟩; rw [P3.out])
        go_wp2_with fail
        refine hK.out _ _ ?_ (fun hHeld => ?_)
        · (try dsimp only); (((try go_split_ands); (repeat' apply And.intro) <;> with_reducible (first | assumption | exact (hcx _ _ (by assumption)).trans (by assumption) | exact Nat.lt_of_lt_of_le (by assumption) hsx | exact below_callS (by assumption) hbx | exact Below.drew (by assumption) | exact cellR_drew (by assumption) | exact ltR_drew (by assumption) | exact (Below.refl _ _).drew)))
        clear hK K
        try simp only [pu]
        refine tkH 21 ?_
        try simp only [pu]
        refine tkH 22 ?_
        try simp only [pu]
        refine tkH 23 ?_
        try simp only [pu]
        refine tkH 24 ?_
        try simp only [pu]
        refine tkH 25 ?_
        try simp only [pu]
        refine tkH 26 ?_
        try simp only [pu]
        refine tkH 27 ?_
        try simp only [pu]
        refine tkH 28 ?_
        try simp only [pu]
        refine tkH 29 ?_
        try simp only [pu]
        refine tkH 30 ?_
        try simp only [pu]
        refine tkH 31 ?_
        try simp only [pu]
        refine tkH 32 ?_
        try simp only [pu]
        refine tkH 33 ?_
        try simp only [pu]
        refine tkH 35 ?_
        try simp only [pu]
        refine tkH 36 ?_
        try simp only [pu]
        refine wpAnyH_ready (rs := [34]) (by kernel_rfl) (by simp) ?_
        refine AllReadyH.cons rfl (fun K hK => ?_) AllReadyH.nil
        go_simp
        (go_at_call 195; refine Calls.mono (spec_l22Level (HI.out.keep (below_callS hbA (by first | assumption | (go_split_ands; assumption)))) hn' RBb.out) ?_; rintro e wx2 ⟨rfl, hbx⟩; obtain ⟨hcx, hfx⟩ := bcell hbx; have hsx := hbx.size)
        go_wp2_with fail
        refine hK.out _ _ ?_ (fun hHeld => ?_)
        · (try dsimp only); (((try go_split_ands); (repeat' apply And.intro) <;> with_reducible (first | assumption | exact (hcx _ _ (by assumption)).trans (by assumption) | exact Nat.lt_of_lt_of_le (by assumption) hsx | exact below_callS (by assumption) hbx | exact Below.drew (by assumption) | exact cellR_drew (by assumption) | exact ltR_drew (by assumption) | exact (Below.refl _ _).drew)))
        clear hK K
        try simp only [pu]
        refine tkH 37 ?_
        try simp only [pu]
        refine tkH 38 ?_
        try simp only [pu]
        refine tkH 39 ?_
        try simp only [pu]
        refine tkN 40 ?_
        try simp only [pu]
        refine tkN 41 ?_
        try simp only [pu]
        refine tkN 42 ?_
        try simp only [pu]
        refine tkN 44 ?_
        try simp only [pu]
        refine tkN 45 ?_
        try simp only [pu]
        refine tkN 43 ?_
        try simp only [pu]
        refine tkN 46 ?_
        try simp only [pu]
        refine tkH 47 ?_
        try simp only [pu]
        refine wpAnyH_done (by kernel_rfl) ?_ _
        refine NoPanic.normal ?_
        go_split_ands
        go_wp2
        go_ret
        exact ⟨ret_bool (by rw [HF.out]), below_callS hbA (by assumption)⟩
      have hd5 : decide (lvlN inp L x.b ≤ x.a) = false := decide_eq_false q5
      by_cases q6 : lvlN inp L x.c ≤ x.a
      · have hd6 : decide (lvlN inp L x.c ≤ x.a) = true := decide_eq_true q6
        have HF := Lib.hid (dia_nol (n := inp) (root := root) hlt (ndB_no HX.out (fun h => by have := h.lc; omega)))
        clear HX
        refine wp_region_noPanic ?_
        refine wp_region_held_drew (S := (fun wx => wx.cell? ⟨w.heap.size, 0, none⟩ = some (.int .i64 inp) ∧ wx.cell? ⟨w.heap.size, 1, none⟩ = some (.slice (some ⟨b1, o1, none⟩) L.length c) ∧ wx.cell? ⟨w.heap.size, 2, none⟩ = some (.int .i64 root) ∧ wx.cell? ⟨wr.heap.size, 0, none⟩ = some (.int .i64 x.a) ∧ wx.cell? ⟨wr.heap.size, 1, none⟩ = some (.int .i64 x.b) ∧ wx.cell? ⟨wr.heap.size, 2, none⟩ = some (.int .i64 x.c) ∧ w.heap.size < wx.heap.size ∧ wr.heap.size < wx.heap.size ∧ Below wA.heap.size wA wx)) (by kernel_rfl) ?_ (fun hHeld => ?_)
        · (try dsimp only); (((try go_split_ands); (repeat' apply And.intro) <;> with_reducible (first | assumption | exact (hcx _ _ (by assumption)).trans (by assumption) | exact Nat.lt_of_lt_of_le (by assumption) hsx | exact below_callS (by assumption) hbx | exact Below.drew (by assumption) | exact cellR_drew (by assumption) | exact ltR_drew (by assumption) | exact (Below.refl _ _).drew)))
        refine tkH 0 ?_
        try simp only [pu]
        refine tkH 1 ?_
        try simp only [pu]
        refine tkH 2 ?_
        try simp only [pu]
        refine tkH 3 ?_
        try simp only [pu]
        refine tkH 4 ?_
        try simp only [pu]
        refine wpAnyH_ready (rs := [5]) (by kernel_rfl) (by simp) ?_
        refine AllReadyH.cons rfl (fun K hK => ?_) AllReadyH.nil
        go_simp
        (go_at_call 117; refine Calls.mono spec_l01In ?_; rintro e _ ⟨rfl, rfl⟩; rw [P1.out])
        go_wp2_with fail
        refine hK.out _ _ ?_ (fun hHeld => ?_)
        · (try dsimp only); (((try go_split_ands); (repeat' apply And.intro) <;> with_reducible (first | assumption | exact (hcx _ _ (by assumption)).trans (by assumption) | exact Nat.lt_of_lt_of_le (by assumption) hsx | exact below_callS (by assumption) hbx | exact Below.drew (by assumption) | exact cellR_drew (by assumption) | exact ltR_drew (by assumption) | exact (Below.refl _ _).drew)))
        clear hK K
        try simp only [pu]
        refine tkH 6 ?_
        try simp only [pu]
        refine tkH 7 ?_
        try simp only [pu]
        refine tkH 8 ?_
        try simp only [pu]
        refine tkH 9 ?_
        try simp only [pu]
        refine tkH 10 ?_
        try simp only [pu]
        refine tkH 11 ?_
        try simp only [pu]
        refine wpAnyH_ready (rs := [12]) (by kernel_rfl) (by simp) ?_
        refine AllReadyH.cons rfl (fun K hK => ?_) AllReadyH.nil
        go_simp
        (go_at_call 117; refine Calls.mono spec_l01In ?_; rintro e _ ⟨rfl, rfl⟩; rw [P2.out])
        go_wp2_with fail
        refine hK.out _ _ ?_ (fun hHeld => ?_)
        · (try dsimp only); (((try go_split_ands); (repeat' apply And.intro) <;> with_reducible (first | assumption | exact (hcx _ _ (by assumption)).trans (by assumption) | exact Nat.lt_of_lt_of_le (by assumption) hsx | exact below_callS (by assumption) hbx | exact Below.drew (by assumption) | exact cellR_drew (by assumption) | exact ltR_drew (by assumption) | exact (Below.refl _ _).drew)))
        clear hK K
        try simp only [pu]
        refine tkH 13 ?_
        try simp only [pu]
        refine tkH 14 ?_
        try simp only [pu]
        refine tkH 15 ?_
        try simp only [pu]
        refine tkH 16 ?_
        try simp only [pu]
        refine tkH 17 ?_
        try simp only [pu]
        refine tkH 18 ?_
        try simp only [pu]
        refine tkH 19 ?_
        try simp only [pu]
        refine wpAnyH_ready (rs := [20]) (by kernel_rfl) (by simp) ?_
        refine AllReadyH.cons rfl (fun K hK => ?_) AllReadyH.nil
        go_simp
        (go_at_call 117; refine Calls.mono spec_l01In ?_; rintro e _ ⟨rfl, rfl⟩; rw [P3.out])
        go_wp2_with fail
        refine hK.out _ _ ?_ (fun hHeld => ?_)
        · (try dsimp only); (((try go_split_ands); (repeat' apply And.intro) <;> with_reducible (first | assumption | exact (hcx _ _ (by assumption)).trans (by assumption) | exact Nat.lt_of_lt_of_le (by assumption) hsx | exact below_callS (by assumption) hbx | exact Below.drew (by assumption) | exact cellR_drew (by assumption) | exact ltR_drew (by assumption) | exact (Below.refl _ _).drew)))
        clear hK K
        try simp only [pu]
        refine tkH 21 ?_
        try simp only [pu]
        refine tkH 22 ?_
        try simp only [pu]
        refine tkH 23 ?_
        try simp only [pu]
        refine tkH 24 ?_
        try simp only [pu]
        refine tkH 25 ?_
        try simp only [pu]
        refine tkH 26 ?_
        try simp only [pu]
        refine tkH 27 ?_
        try simp only [pu]
        refine tkH 28 ?_
        try simp only [pu]
        refine tkH 29 ?_
        try simp only [pu]
        refine tkH 30 ?_
        try simp only [pu]
        refine tkH 31 ?_
        try simp only [pu]
        refine tkH 32 ?_
        try simp only [pu]
        refine tkH 33 ?_
        try simp only [pu]
        refine tkH 35 ?_
        try simp only [pu]
        refine tkH 36 ?_
        try simp only [pu]
        refine wpAnyH_ready (rs := [34]) (by kernel_rfl) (by simp) ?_
        refine AllReadyH.cons rfl (fun K hK => ?_) AllReadyH.nil
        go_simp
        (go_at_call 195; refine Calls.mono (spec_l22Level (HI.out.keep (below_callS hbA (by first | assumption | (go_split_ands; assumption)))) hn' RBb.out) ?_; rintro e wx2 ⟨rfl, hbx⟩; obtain ⟨hcx, hfx⟩ := bcell hbx; have hsx := hbx.size)
        go_wp2_with fail
        refine hK.out _ _ ?_ (fun hHeld => ?_)
        · (try dsimp only); (((try go_split_ands); (repeat' apply And.intro) <;> with_reducible (first | assumption | exact (hcx _ _ (by assumption)).trans (by assumption) | exact Nat.lt_of_lt_of_le (by assumption) hsx | exact below_callS (by assumption) hbx | exact Below.drew (by assumption) | exact cellR_drew (by assumption) | exact ltR_drew (by assumption) | exact (Below.refl _ _).drew)))
        clear hK K
        try simp only [pu]
        refine tkH 37 ?_
        try simp only [pu]
        refine tkH 38 ?_
        try simp only [pu]
        refine tkH 39 ?_
        try simp only [pu]
        refine tkH 40 ?_
        try simp only [pu]
        refine tkH 41 ?_
        try simp only [pu]
        refine tkH 42 ?_
        try simp only [pu]
        refine tkH 44 ?_
        try simp only [pu]
        refine tkH 45 ?_
        try simp only [pu]
        refine wpAnyH_ready (rs := [43]) (by kernel_rfl) (by simp) ?_
        refine AllReadyH.cons rfl (fun K hK => ?_) AllReadyH.nil
        go_simp
        (go_at_call 195; refine Calls.mono (spec_l22Level (HI.out.keep (below_callS hbA (by first | assumption | (go_split_ands; assumption)))) hn' RBc.out) ?_; rintro e wx2 ⟨rfl, hbx⟩; obtain ⟨hcx, hfx⟩ := bcell hbx; have hsx := hbx.size)
        go_wp2_with fail
        refine hK.out _ _ ?_ (fun hHeld => ?_)
        · (try dsimp only); (((try go_split_ands); (repeat' apply And.intro) <;> with_reducible (first | assumption | exact (hcx _ _ (by assumption)).trans (by assumption) | exact Nat.lt_of_lt_of_le (by assumption) hsx | exact below_callS (by assumption) hbx | exact Below.drew (by assumption) | exact cellR_drew (by assumption) | exact ltR_drew (by assumption) | exact (Below.refl _ _).drew)))
        clear hK K
        try simp only [pu]
        refine tkH 46 ?_
        try simp only [pu]
        refine tkH 47 ?_
        try simp only [pu]
        refine wpAnyH_done (by kernel_rfl) ?_ _
        refine NoPanic.normal ?_
        go_split_ands
        go_wp2
        go_ret
        exact ⟨ret_bool (by rw [HF.out]), below_callS hbA (by assumption)⟩
      have hd6 : decide (lvlN inp L x.c ≤ x.a) = false := decide_eq_false q6
      have HF := Lib.hid (upB_step A.out ((ndB_iff HX.out).2 ⟨by omega, by omega, by omega, Q4.out, by omega, by omega⟩))
      clear HX q4
      refine wp_region_noPanic ?_
      refine wp_region_held_drew (S := (fun wx => wx.cell? ⟨w.heap.size, 0, none⟩ = some (.int .i64 inp) ∧ wx.cell? ⟨w.heap.size, 1, none⟩ = some (.slice (some ⟨b1, o1, none⟩) L.length c) ∧ wx.cell? ⟨w.heap.size, 2, none⟩ = some (.int .i64 root) ∧ wx.cell? ⟨wr.heap.size, 0, none⟩ = some (.int .i64 x.a) ∧ wx.cell? ⟨wr.heap.size, 1, none⟩ = some (.int .i64 x.b) ∧ wx.cell? ⟨wr.heap.size, 2, none⟩ = some (.int .i64 x.c) ∧ w.heap.size < wx.heap.size ∧ wr.heap.size < wx.heap.size ∧ Below wA.heap.size wA wx)) (by kernel_rfl) ?_ (fun hHeld => ?_)
      · (try dsimp only); (((try go_split_ands); (repeat' apply And.intro) <;> with_reducible (first | assumption | exact (hcx _ _ (by assumption)).trans (by assumption) | exact Nat.lt_of_lt_of_le (by assumption) hsx | exact below_callS (by assumption) hbx | exact Below.drew (by assumption) | exact cellR_drew (by assumption) | exact ltR_drew (by assumption) | exact (Below.refl _ _).drew)))
      refine tkH 0 ?_
      try simp only [pu]
      refine tkH 1 ?_
      try simp only [pu]
      refine tkH 2 ?_
      try simp only [pu]
      refine tkH 3 ?_
      try simp only [pu]
      refine tkH 4 ?_
      try simp only [pu]
      refine wpAnyH_ready (rs := [5]) (by kernel_rfl) (by simp) ?_
      refine AllReadyH.cons rfl (fun K hK => ?_) AllReadyH.nil
      go_simp
      (go_at_call 117; refine Calls.mono spec_l01In ?_; rintro e _ ⟨rfl, rfl⟩; rw [P1.out])
      go_wp2_with fail
      refine hK.out _ _ ?_ (fun hHeld => ?_)
      · (try dsimp only); (((try go_split_ands); (repeat' apply And.intro) <;> with_reducible (first | assumption | exact (hcx _ _ (by assumption)).trans (by assumption) | exact Nat.lt_of_lt_of_le (by assumption) hsx | exact below_callS (by assumption) hbx | exact Below.drew (by assumption) | exact cellR_drew (by assumption) | exact ltR_drew (by assumption) | exact (Below.refl _ _).drew)))
      clear hK K
      try simp only [pu]
      refine tkH 6 ?_
      try simp only [pu]
      refine tkH 7 ?_
      try simp only [pu]
      refine tkH 8 ?_
      try simp only [pu]
      refine tkH 9 ?_
      try simp only [pu]
      refine tkH 10 ?_
      try simp only [pu]
      refine tkH 11 ?_
      try simp only [pu]
      refine wpAnyH_ready (rs := [12]) (by kernel_rfl) (by simp) ?_
      refine AllReadyH.cons rfl (fun K hK => ?_) AllReadyH.nil
      go_simp
      (go_at_call 117; refine Calls.mono spec_l01In ?_; rintro e _ ⟨rfl, rfl⟩; rw [P2.out])
      go_wp2_with fail
      refine hK.out _ _ ?_ (fun hHeld => ?_)
      · (try dsimp only); (((try go_split_ands); (repeat' apply And.intro) <;> with_reducible (first | assumption | exact (hcx _ _ (by assumption)).trans (by assumption) | exact Nat.lt_of_lt_of_le (by assumption) hsx | exact below_callS (by assumption) hbx | exact Below.drew (by assumption) | exact cellR_drew (by assumption) | exact ltR_drew (by assumption) | exact (Below.refl _ _).drew)))
      clear hK K
      try simp only [pu]
      refine tkH 13 ?_
      try simp only [pu]
      refine tkH 14 ?_
      try simp only [pu]
      refine tkH 15 ?_
      try simp only [pu]
      refine tkH 16 ?_
      try simp only [pu]
      refine tkH 17 ?_
      try simp only [pu]
      refine tkH 18 ?_
      try simp only [pu]
      refine tkH 19 ?_
      try simp only [pu]
      refine wpAnyH_ready (rs := [20]) (by kernel_rfl) (by simp) ?_
      refine AllReadyH.cons rfl (fun K hK => ?_) AllReadyH.nil
      go_simp
      (go_at_call 117; refine Calls.mono spec_l01In ?_; rintro e _ ⟨rfl, rfl⟩; rw [P3.out])
      go_wp2_with fail
      refine hK.out _ _ ?_ (fun hHeld => ?_)
      · (try dsimp only); (((try go_split_ands); (repeat' apply And.intro) <;> with_reducible (first | assumption | exact (hcx _ _ (by assumption)).trans (by assumption) | exact Nat.lt_of_lt_of_le (by assumption) hsx | exact below_callS (by assumption) hbx | exact Below.drew (by assumption) | exact cellR_drew (by assumption) | exact ltR_drew (by assumption) | exact (Below.refl _ _).drew)))
      clear hK K
      try simp only [pu]
      refine tkH 21 ?_
      try simp only [pu]
      refine tkH 22 ?_
      try simp only [pu]
      refine tkH 23 ?_
      try simp only [pu]
      refine tkH 24 ?_
      try simp only [pu]
      refine tkH 25 ?_
      try simp only [pu]
      refine tkH 26 ?_
      try simp only [pu]
      refine tkH 27 ?_
      try simp only [pu]
      refine tkH 28 ?_
      try simp only [pu]
      refine tkH 29 ?_
      try simp only [pu]
      refine tkH 30 ?_
      try simp only [pu]
      refine tkH 31 ?_
      try simp only [pu]
      refine tkH 32 ?_
      try simp only [pu]
      refine tkH 33 ?_
      try simp only [pu]
      refine tkH 35 ?_
      try simp only [pu]
      refine tkH 36 ?_
      try simp only [pu]
      refine wpAnyH_ready (rs := [34]) (by kernel_rfl) (by simp) ?_
      refine AllReadyH.cons rfl (fun K hK => ?_) AllReadyH.nil
      go_simp
      (go_at_call 195; refine Calls.mono (spec_l22Level (HI.out.keep (below_callS hbA (by first | assumption | (go_split_ands; assumption)))) hn' RBb.out) ?_; rintro e wx2 ⟨rfl, hbx⟩; obtain ⟨hcx, hfx⟩ := bcell hbx; have hsx := hbx.size)
      go_wp2_with fail
      refine hK.out _ _ ?_ (fun hHeld => ?_)
      · (try dsimp only); (((try go_split_ands); (repeat' apply And.intro) <;> with_reducible (first | assumption | exact (hcx _ _ (by assumption)).trans (by assumption) | exact Nat.lt_of_lt_of_le (by assumption) hsx | exact below_callS (by assumption) hbx | exact Below.drew (by assumption) | exact cellR_drew (by assumption) | exact ltR_drew (by assumption) | exact (Below.refl _ _).drew)))
      clear hK K
      try simp only [pu]
      refine tkH 37 ?_
      try simp only [pu]
      refine tkH 38 ?_
      try simp only [pu]
      refine tkH 39 ?_
      try simp only [pu]
      refine tkH 40 ?_
      try simp only [pu]
      refine tkH 41 ?_
      try simp only [pu]
      refine tkH 42 ?_
      try simp only [pu]
      refine tkH 44 ?_
      try simp only [pu]
      refine tkH 45 ?_
      try simp only [pu]
      refine wpAnyH_ready (rs := [43]) (by kernel_rfl) (by simp) ?_
      refine AllReadyH.cons rfl (fun K hK => ?_) AllReadyH.nil
      go_simp
      (go_at_call 195; refine Calls.mono (spec_l22Level (HI.out.keep (below_callS hbA (by first | assumption | (go_split_ands; assumption)))) hn' RBc.out) ?_; rintro e wx2 ⟨rfl, hbx⟩; obtain ⟨hcx, hfx⟩ := bcell hbx; have hsx := hbx.size)
      go_wp2_with fail
      refine hK.out _ _ ?_ (fun hHeld => ?_)
      · (try dsimp only); (((try go_split_ands); (repeat' apply And.intro) <;> with_reducible (first | assumption | exact (hcx _ _ (by assumption)).trans (by assumption) | exact Nat.lt_of_lt_of_le (by assumption) hsx | exact below_callS (by assumption) hbx | exact Below.drew (by assumption) | exact cellR_drew (by assumption) | exact ltR_drew (by assumption) | exact (Below.refl _ _).drew)))
      clear hK K
      try simp only [pu]
      refine tkH 46 ?_
      try simp only [pu]
      refine tkH 47 ?_
      try simp only [pu]
      refine wpAnyH_done (by kernel_rfl) ?_ _
      refine NoPanic.normal ?_
      go_split_ands
      go_wp2_with fail
      go_roundw
      case rel => exact ⟨j + 1, by go_num, by omega, Nat.le_trans hsA (Below.size (by assumption)), Lib.hid (below_callS hbA (by assumption)), Lib.hid (XA.out.keep (by assumption)), HF⟩
      case measure => simp [intOf]; omega
    · have hjn : j = L.length := by omega
      subst hjn
      have hlt' : ¬ (L.length : Int) < (L.length : Int) := by omega
      obtain ⟨hF, _⟩ := nds_frst A.out
      have hr' : RefB root L.length := ⟨h3'.1, by omega⟩
      have hcl := (canm_ref hF hr').2.2
      have HF := Lib.hid (show diaB inp L root = decide (((canN mkN L root).1, (canN mkN L root).2) = (L, root)) by rw [diaB, HD0.out, A.out]; rfl)
      have hrA : Below wr.heap.size wr wr.drew := (Below.refl _ _).drew
      clear hj
      go_wp2_with fail
      refine wp_region_noPanic ?_
      refine wp_region_held_drew (S := (fun wx => wx.cell? ⟨w.heap.size, 0, none⟩ = some (.int .i64 inp) ∧ wx.cell? ⟨w.heap.size, 1, none⟩ = some (.slice a L.length c) ∧ wx.cell? ⟨w.heap.size, 2, none⟩ = some (.int .i64 root) ∧ w.heap.size < wx.heap.size ∧ Below wr.heap.size wr wx)) (by kernel_rfl) ?_ (fun hHeld => ?_)
      · (try dsimp only); (((try go_split_ands); (repeat' apply And.intro) <;> with_reducible (first | assumption | exact (hcx _ _ (by assumption)).trans (by assumption) | exact Nat.lt_of_lt_of_le (by assumption) hsx | exact below_callS (by assumption) hbx | exact Below.drew (by assumption) | exact cellR_drew (by assumption) | exact ltR_drew (by assumption) | exact (Below.refl _ _).drew)))
      refine tkH 0 ?_
      try simp only [pu]
      refine tkH 1 ?_
      try simp only [pu]
      refine tkH 2 ?_
      try simp only [pu]
      refine tkH 3 ?_
      try simp only [pu]
      refine tkH 4 ?_
      try simp only [pu]
      refine tkH 5 ?_
      try simp only [pu]
      refine tkH 6 ?_
      try simp only [pu]
      refine wpAnyH_ready (rs := [7]) (by kernel_rfl) (by simp) ?_
      refine AllReadyH.cons rfl (fun K hK => ?_) AllReadyH.nil
      go_simp
      (go_at_call 81; refine Calls.mono (spec_l22Canonical hF (by omega) (HI.out.keep (below_callS HB.out (by first | assumption | (go_split_ands; assumption)))) hr') ?_; rintro e wx2 ⟨da, dc, rfl, hO, hbx⟩; obtain ⟨hcx, hfx⟩ := bcell hbx; have hsx := hbx.size)
      go_wp2_with fail
      refine hK.out _ _ ?_ (fun hHeld => ?_)
      · (try dsimp only); (((try go_split_ands); (repeat' apply And.intro) <;> with_reducible (first | assumption | exact (hcx _ _ (by assumption)).trans (by assumption) | exact Nat.lt_of_lt_of_le (by assumption) hsx | exact below_callS (by assumption) hbx | exact Below.drew (by assumption) | exact cellR_drew (by assumption) | exact ltR_drew (by assumption) | exact (Below.refl _ _).drew)))
      clear hK K
      try simp only [pu]
      refine wpAnyH_ready (rs := [8]) (by kernel_rfl) (by simp) ?_
      refine AllReadyH.cons rfl (fun K hK => ?_) AllReadyH.nil
      go_simp
      (go_at_call 196; refine Calls.mono (spec_l22Same (HI.out.keep (below_callS HB.out (by first | assumption | (go_split_ands; assumption)))) hO.flats hn' (by omega)) ?_; clear hcx hfx hsx hbx; rintro e wx2 ⟨rfl, hbx⟩; obtain ⟨hcx, hfx⟩ := bcell hbx; have hsx := hbx.size)
      go_wp2_with fail
      refine hK.out _ _ ?_ (fun hHeld => ?_)
      · (try dsimp only); (((try go_split_ands); (repeat' apply And.intro) <;> with_reducible (first | assumption | exact (hcx _ _ (by assumption)).trans (by assumption) | exact Nat.lt_of_lt_of_le (by assumption) hsx | exact below_callS (by assumption) hbx | exact Below.drew (by assumption) | exact cellR_drew (by assumption) | exact ltR_drew (by assumption) | exact (Below.refl _ _).drew)))
      clear hK K
      try simp only [pu]
      refine tkH 9 ?_
      try simp only [pu]
      refine wpAnyH_done (by kernel_rfl) ?_ _
      refine NoPanic.normal ?_
      go_split_ands
      go_wp2
      go_ret
      exact ⟨ret_bool (by rw [HF.out]; simp), below_callS HB.out (by assumption)⟩
end Go.Proofs.YtkaikbaagajckaaGreat
