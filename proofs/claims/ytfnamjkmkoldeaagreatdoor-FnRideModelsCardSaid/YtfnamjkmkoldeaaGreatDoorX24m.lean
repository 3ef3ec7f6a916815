/- The law of ride models. -/
import Derived.Test.YtfnamjkmkoldeaaGreatDoorQw
import Derived.Test.YtfnamjkmkoldeaaGreatDoorQy
import Derived.Test.YtfnamjkmkoldeaaGreatDoorQz
import Derived.Test.YtfnamjkmkoldeaaGreatDoorBg
import Derived.Test.YtfnamjkmkoldeaaGreatDoorLk2
namespace Go.Proofs.YtfnamjkmkoldeaaGreatDoor
open Go.RowKit
set_option linter.unusedVariables false
set_option linter.unusedSimpArgs false
set_option maxRecDepth 100000 in
set_option maxHeartbeats 8000000 in
theorem law_FnRideModels {a : Option Addr} {n c : Nat} {w : World} (hT : Tab w 0 (strsCells ruleNm)) (hB : Byts w a n c) : Calls Tryz.prog 8 #[.slice a n c] w fun e w' => e = .returned (.bool true) ∧ Below w.heap.size w w' := by
  have HB := Lib.hid hB
  have HT := Lib.hid hT
  clear hB hT
  by_cases hn : n ≤ 4096
  · go_enter Tryz.func8, Tryz.ntmps8
    go_wp2_with fail
    refine Calls.mono (laws_big_no hn) ?_
    rintro e _ ⟨rfl, rfl⟩
    go_wp2_with fail
    refine Calls.mono (spec_DrawRideModel HB.out hn) ?_
    rintro e w1 ⟨B, a1, n1, c1, l, bu, sec, rfl, h1, hn1, hB1, hB9, hu1, hu2, hb_w1⟩
    have hs_w1 := hb_w1.size
    obtain ⟨B, rfl⟩ := Int.eq_ofNat_of_zero_le (show 0 ≤ B by omega)
    have HT1 := Lib.hid (HT.out.keep hb_w1)
    have HI := Lib.hid h1
    have k1 := fun (wx : World) (hb : Below w1.heap.size w1 wx) => impl_RideModel (b := (B : Int)) (bud := bu) (sec := sec) (HT1.out.keep hb) (h1.keep hb) (by omega)
    have k2 := fun (wx : World) (hb : Below w1.heap.size w1 wx) => spec_RideModel (b := (B : Int)) (bud := bu) (sec := sec) (h1.keep hb) (by omega)
    have hst := fun (h : rdC (B : Int) l bu = 0) => start_gives (sec := sec) h
    have hmd := fun (h : rdC (B : Int) l bu = 0) (LR : List (RM × RuD)) (hL : LR.map (·.2) = rmRs (B : Int) l bu sec) => rd_model h hL
    rw [h1.len] at hst
    generalize rmRs (B : Int) l bu sec = RS at *
    generalize rmSt (B : Int) l bu = ST at *
    generalize rmSz (B : Int) l bu = SZ at *
    generalize rdC (B : Int) l bu = RD at *
    have K1 := Lib.hid k1
    have K2 := Lib.hid k2
    have HST := Lib.hid hst
    have HMD := Lib.hid hmd
    clear k1 k2 hst hmd h1
    have q1 : (RD != RD) = false := by simp
    have hzz : w1.heap.size < (w1.alloc (.cells #[.int .i64 (B : Int), .slice a1 n1 c1] 28)).heap.size := by simp
    go_wp2_with fail
    refine Calls.mono (K1.out _ (by repeat (first | exact Below.refl _ _ | assumption | refine below_allocS ?_ _ | refine below_callS ?_ (by assumption) | (refine Below.alloc ?_ (by first | omega | (simp; done) | (simp; omega)) _) | (refine Below.setCell ?_ (by first | omega | (simp; done) | (simp; omega)) _) | refine Below.drew ?_ | refine below_drewN ?_ _ | (refine below_call ?_ (by assumption) (by first | omega | (simp; done) | (simp; omega))) | (refine Below.trans ?_ (by assumption))))) ?_
    rintro e w2 ⟨a21, n21, c21, a22, n22, c22, a23, n23, c23, rfl, hM2, hb_w2⟩
    obtain ⟨hc_w2, hf_w2⟩ := bcell hb_w2
    have hs_w2 := hb_w2.size
    simp at hs_w2
    have hz2 : w1.heap.size < w2.heap.size := by omega
    have M2 := Lib.hid hM2.rd
    clear hM2
    have hbB : Below w2.heap.size w2 (w2.alloc (.cells #[.slice a21 n21 c21, .slice a22 n22 c22, .slice a23 n23 c23] 44)) := by repeat (first | exact Below.refl _ _ | assumption | refine below_allocS ?_ _ | refine below_callS ?_ (by assumption) | (refine Below.alloc ?_ (by first | omega | (simp; done) | (simp; omega)) _) | (refine Below.setCell ?_ (by first | omega | (simp; done) | (simp; omega)) _) | refine Below.drew ?_ | refine below_drewN ?_ _ | (refine below_call ?_ (by assumption) (by first | omega | (simp; done) | (simp; omega))) | (refine Below.trans ?_ (by assumption)))
    have hz2' : w1.heap.size < (w2.alloc (.cells #[.slice a21 n21 c21, .slice a22 n22 c22, .slice a23 n23 c23] 44)).heap.size := by simp; omega
    go_wp2_with fail
    refine Calls.mono (K2.out _ (by repeat (first | exact Below.refl _ _ | assumption | refine below_allocS ?_ _ | refine below_callS ?_ (by assumption) | (refine Below.alloc ?_ (by first | omega | (simp; done) | (simp; omega)) _) | (refine Below.setCell ?_ (by first | omega | (simp; done) | (simp; omega)) _) | refine Below.drew ?_ | refine below_drewN ?_ _ | (refine below_call ?_ (by assumption) (by first | omega | (simp; done) | (simp; omega))) | (refine Below.trans ?_ (by assumption))))) ?_
    rintro e w3 ⟨a31, n31, c31, a32, n32, c32, a33, n33, c33, rfl, hM3, hb_w3⟩
    have hs_w3 := hb_w3.size
    simp at hs_w3
    have M3 := Lib.hid hM3.rd
    clear hM3
    have hb23 : Below w2.heap.size w2 w3 := below_callS hbB hb_w3
    have hbX : Below (w1.alloc (.cells #[.int .i64 (B : Int), .slice a1 n1 c1] 28)).heap.size (w1.alloc (.cells #[.int .i64 (B : Int), .slice a1 n1 c1] 28)) w3 := below_callS hb_w2 hb23
    have X3 := Lib.hid ((Blk.made w1 #[.int .i64 (B : Int), .slice a1 n1 c1] 28).keep hbX)
    have Y3 := Lib.hid ((Blk.made w2 #[.slice a21 n21 c21, .slice a22 n22 c22, .slice a23 n23 c23] 44).keep hb_w3)
    have hb13 : Below w1.heap.size w1 w3 := below_callS (show Below w1.heap.size w1 (w1.alloc (.cells #[.int .i64 (B : Int), .slice a1 n1 c1] 28)) by
      clear hbX hb23 hb_w2 hb_w3 hbB hb_w1
      repeat (first | exact Below.refl _ _ | assumption | refine below_allocS ?_ _ | refine below_callS ?_ (by assumption) | (refine Below.alloc ?_ (by first | omega | (simp; done) | (simp; omega)) _) | (refine Below.setCell ?_ (by first | omega | (simp; done) | (simp; omega)) _) | refine Below.drew ?_ | refine below_drewN ?_ _ | (refine below_call ?_ (by assumption) (by first | omega | (simp; done) | (simp; omega))) | (refine Below.trans ?_ (by assumption)))) hbX
    have HI3 := Lib.hid (HI.out.keep hb13)
    have M23 := Lib.hid (M2.out.keep hb23)
    have HB3 := Lib.hid (below_callS hb_w1 hb13)
    clear hc_w2 hf_w2 hb_w1 hb_w2 hb_w3 hb23 hbX hb13 hbB hzz hz2' M2 K1 K2 HI HT1
    have Z3 := Lib.hid (Blk.made w3 #[.slice a31 n31 c31, .slice a32 n32 c32, .slice a33 n33 c33] 44)
    obtain ⟨W, hW⟩ : ∃ W, W = w3.alloc (.cells #[.slice a31 n31 c31, .slice a32 n32 c32, .slice a33 n33 c33] 44) := ⟨_, rfl⟩
    have hb3W : Below w3.heap.size w3 W := by rw [hW]; repeat (first | exact Below.refl _ _ | assumption | refine below_allocS ?_ _ | refine below_callS ?_ (by assumption) | (refine Below.alloc ?_ (by first | omega | (simp; done) | (simp; omega)) _) | (refine Below.setCell ?_ (by first | omega | (simp; done) | (simp; omega)) _) | refine Below.drew ?_ | refine below_drewN ?_ _ | (refine below_call ?_ (by assumption) (by first | omega | (simp; done) | (simp; omega))) | (refine Below.trans ?_ (by assumption)))
    rw [← hW] at Z3
    have hsW := hb3W.size
    have XW := Lib.hid (X3.out.keep hb3W)
    have YW := Lib.hid (Y3.out.keep hb3W)
    have IW := Lib.hid (HI3.out.keep hb3W)
    have MW2 := Lib.hid (M23.out.keep hb3W)
    have MW3 := Lib.hid (M3.out.keep hb3W)
    have HBW := Lib.hid (below_call HB3.out hb3W HB3.out.size)
    obtain ⟨LR2, hF2, hL2⟩ := MW2.out.r
    obtain ⟨LR3, hF3, hL3⟩ := MW3.out.r
    have KX2 := Lib.hid (fun (wx : World) (hb : Below W.heap.size W wx) => impl_ModelText (MW2.out.s.keep hb) (MW2.out.t.keep hb) (FR.keep hF2 hb hb) MW2.out.sn MW2.out.tn MW2.out.rn)
    have kx3 := fun (wx : World) (hb : Below W.heap.size W wx) => spec_ModelText (MW3.out.s.keep hb) (MW3.out.t.keep hb) (FR.keep hF3 hb hb) MW3.out.sn MW3.out.tn MW3.out.rn
    rw [mtT_congr (hL3.trans hL2.symm)] at kx3
    have KX3 := Lib.hid kx3
    clear kx3 hb3W X3 Y3 HI3 M23 M3 HB3
    have y0 := YW.out.cell 0
    have y1 := YW.out.cell 1
    have y2 := YW.out.cell 2
    have yl := YW.out.lt
    have z0 := Z3.out.cell 0
    have z1 := Z3.out.cell 1
    have z2 := Z3.out.cell 2
    have zl := Z3.out.lt
    simp at y0 y1 y2 z0 z1 z2
    generalize mkS (mtT SZ ST LR2) = TX at *
    have q2 : (TX.toList != TX.toList) = false := by simp
    go_wp2_with fail
    rw [← hW]
    clear hW
    refine wp_region_noPanic ?_
    refine wp_region_M (L := 9) (S := fun wx => Below W.heap.size W wx) (by kernel_rfl) ?_ (fun hHeld => ?_)
    · exact (Below.refl _ _).drew
    refine wpAnyM_take (i := 0) (v := ?_) (by simp only [List.getElem?_toArray, List.getElem?_cons_succ, List.getElem?_cons_zero] <;> rfl) (by kernel_rfl) (by kernel_rfl) (by kernel_rfl) (by kernel_rfl) (by kernel_rfl) (fun _ _ _ h => h) (Or.inl ⟨by rfl, ?_⟩) (by assumption) ?_
    rotate_left
    · (intro wv hSw; (try dsimp only at hSw); obtain ⟨hcq, _⟩ := bcell hSw; have hsq := Below.size hSw; go_simp; try with_reducible rfl)
    try simp only [Act.put, List.setIfInBounds_toArray, List.set_cons_zero, List.set_cons_succ]
    refine wpAnyM_take (i := 1) (v := ?_) (by simp only [List.getElem?_toArray, List.getElem?_cons_succ, List.getElem?_cons_zero] <;> rfl) (by kernel_rfl) (by kernel_rfl) (by kernel_rfl) (by kernel_rfl) (by kernel_rfl) (fun _ _ _ h => h) (Or.inl ⟨by rfl, ?_⟩) (by assumption) ?_
    rotate_left
    · (intro wv hSw; (try dsimp only at hSw); obtain ⟨hcq, _⟩ := bcell hSw; have hsq := Below.size hSw; go_simp; try with_reducible rfl)
    try simp only [Act.put, List.setIfInBounds_toArray, List.set_cons_zero, List.set_cons_succ]
    refine wpAnyM_take (i := 2) (v := ?_) (by simp only [List.getElem?_toArray, List.getElem?_cons_succ, List.getElem?_cons_zero] <;> rfl) (by kernel_rfl) (by kernel_rfl) (by kernel_rfl) (by kernel_rfl) (by kernel_rfl) (fun _ _ _ h => h) (Or.inl ⟨by rfl, ?_⟩) (by assumption) ?_
    rotate_left
    · (intro wv hSw; (try dsimp only at hSw); obtain ⟨hcq, _⟩ := bcell hSw; have hsq := Below.size hSw; go_simp; try with_reducible rfl)
    try simp only [Act.put, List.setIfInBounds_toArray, List.set_cons_zero, List.set_cons_succ]
    refine wpAnyM_take (i := 3) (v := ?_) (by simp only [List.getElem?_toArray, List.getElem?_cons_succ, List.getElem?_cons_zero] <;> rfl) (by kernel_rfl) (by kernel_rfl) (by kernel_rfl) (by kernel_rfl) (by kernel_rfl) (fun _ _ _ h => h) (Or.inl ⟨by rfl, ?_⟩) (by assumption) ?_
    rotate_left
    · (intro wv hSw; (try dsimp only at hSw); obtain ⟨hcq, _⟩ := bcell hSw; have hsq := Below.size hSw; go_simp; try with_reducible rfl)
    try simp only [Act.put, List.setIfInBounds_toArray, List.set_cons_zero, List.set_cons_succ]
    refine wpAnyM_take (i := 4) (v := ?_) (by simp only [List.getElem?_toArray, List.getElem?_cons_succ, List.getElem?_cons_zero] <;> rfl) (by kernel_rfl) (by kernel_rfl) (by kernel_rfl) (by kernel_rfl) (by kernel_rfl) (fun _ _ _ h => h) (Or.inl ⟨by rfl, ?_⟩) (by assumption) ?_
    rotate_left
    · (intro wv hSw; (try dsimp only at hSw); obtain ⟨hcq, _⟩ := bcell hSw; have hsq := Below.size hSw; have p0 := (hcq _ _ yl).trans y0; have p1 := (hcq _ _ yl).trans y1; have p2 := (hcq _ _ yl).trans y2; have pl := Nat.lt_of_lt_of_le yl hsq; go_simp; try with_reducible rfl)
    try simp only [Act.put, List.setIfInBounds_toArray, List.set_cons_zero, List.set_cons_succ]
    refine wpAnyM_take (i := 6) (v := ?_) (by simp only [List.getElem?_toArray, List.getElem?_cons_succ, List.getElem?_cons_zero] <;> rfl) (by kernel_rfl) (by kernel_rfl) (by kernel_rfl) (by kernel_rfl) (by kernel_rfl) (fun _ _ _ h => h) (Or.inl ⟨by rfl, ?_⟩) (by assumption) ?_
    rotate_left
    · (intro wv hSw; (try dsimp only at hSw); obtain ⟨hcq, _⟩ := bcell hSw; have hsq := Below.size hSw; have p0 := (hcq _ _ zl).trans z0; have p1 := (hcq _ _ zl).trans z1; have p2 := (hcq _ _ zl).trans z2; have pl := Nat.lt_of_lt_of_le zl hsq; go_simp; try with_reducible rfl)
    try simp only [Act.put, List.setIfInBounds_toArray, List.set_cons_zero, List.set_cons_succ]
    refine wpAnyM_ready (rs := [5]) (by kernel_rfl) (by simp) ?_
    refine AllReadyM.cons rfl (fun K hK => ?_) AllReadyM.nil
    go_simp
    refine Calls.mono (KX2.out _ hHeld) ?_
    rintro e w4 ⟨rfl, hb4⟩
    have hb5 := below_callS hHeld hb4
    go_wp2_with fail
    refine hK.out _ _ hb5 (fun hHeld => ?_)
    clear hK K
    try simp only [Act.put, List.setIfInBounds_toArray, List.set_cons_zero, List.set_cons_succ]
    refine wpAnyM_ready (rs := [7]) (by kernel_rfl) (by simp) ?_
    refine AllReadyM.cons rfl (fun K hK => ?_) AllReadyM.nil
    go_simp
    refine Calls.mono (KX3.out _ hHeld) ?_
    rintro e w5 ⟨rfl, hb6⟩
    have hb7 := below_callS hHeld hb6
    go_wp2_with fail
    refine hK.out _ _ hb7 (fun hHeld => ?_)
    clear hK K
    try simp only [Act.put, List.setIfInBounds_toArray, List.set_cons_zero, List.set_cons_succ]
    refine wpAnyM_take (i := 8) (v := ?_) (by simp only [List.getElem?_toArray, List.getElem?_cons_succ, List.getElem?_cons_zero] <;> rfl) (by kernel_rfl) (by kernel_rfl) (by kernel_rfl) (by kernel_rfl) (by kernel_rfl) (fun _ _ _ h => h) (Or.inl ⟨by rfl, ?_⟩) (by assumption) ?_
    rotate_left
    · (intro wv hSw; (try dsimp only at hSw); obtain ⟨hcq, _⟩ := bcell hSw; have hsq := Below.size hSw; go_simp; try with_reducible rfl)
    try simp only [Act.put, List.setIfInBounds_toArray, List.set_cons_zero, List.set_cons_succ]
    refine wpAnyM_ready (rs := [9]) (by kernel_rfl) (by simp) ?_
    refine AllReadyM.last rfl (fun K hK => ?_)
    go_simp
    refine hK.out _ _ ?_
    clear hK K
    try simp only [Act.put, List.setIfInBounds_toArray, List.set_cons_zero, List.set_cons_succ]
    refine wpAnyM_done (by kernel_rfl) ?_ _
    refine NoPanic.normal ?_
    have X5 := Lib.hid (XW.out.keep hb7)
    have Y5 := Lib.hid (YW.out.keep hb7)
    have I5 := Lib.hid (IW.out.keep hb7)
    have M5 := Lib.hid (MW2.out.keep hb7)
    have HB5 := Lib.hid (below_call HBW.out hb7 HBW.out.size)
    clear hHeld hb4 hb5 hb6 hb7 KX2 KX3 XW YW IW MW2 MW3 HBW hF2 hF3 hL3 Z3 y0 y1 y2 yl z0 z1 z2 zl
    by_cases hC : RD = 0
    · subst hC
      obtain ⟨s1, s2, s3, s4, s5⟩ := HST.out (by first | exact rfl | trivial)
      have hmd := HMD.out (by first | exact rfl | trivial)
      have hn22 : n22 ≤ 20 := by rw [← M5.out.t.len]; exact s5
      have hIl := I5.out.len
      have x0 := X5.out.cell 0
      have x1 := X5.out.cell 1
      have xl := X5.out.lt
      have y1 := Y5.out.cell 1
      have yl := Y5.out.lt
      simp at x0 x1 y1
      have kt := impl_TrafficIn (b := (B : Int)) (w := w5) I5.out M5.out.t (by omega) (by omega)
      rw [trB, trL, if_pos s1, if_pos s1, s1, hIl, s2] at kt
      have kf := fun (wx : World) (hx : Below w5.heap.size w5 wx) => impl_FaultsIn (b := (B : Int)) (I5.out.keep hx) (M5.out.t.keep hx) (by omega) (by omega)
      rw [s3, s4] at kf
      have KT := Lib.hid kt
      have KF := Lib.hid kf
      have HMD2 := Lib.hid hmd
      clear kt kf s1 s2 s3 s4 s5 hmd hIl
      go_wp2_with fail
      refine Calls.mono KT.out ?_
      rintro e w6 ⟨n6, a6, c6, rfl, hb6, ho6⟩
      obtain ⟨hc6, _⟩ := bcell hb6
      have hs6 := hb6.size
      have x06 := (hc6 _ _ xl).trans x0
      have x16 := (hc6 _ _ xl).trans x1
      have y16 := (hc6 _ _ yl).trans y1
      have xl6 := Nat.lt_of_lt_of_le xl hs6
      have yl6 := Nat.lt_of_lt_of_le yl hs6
      have O6 := Lib.hid ho6.ints
      clear ho6 x0 x1 y1 xl yl hc6
      have hbT : Below w6.heap.size w6 (w6.alloc (.cells #[.int .i64 (B : Int), .slice a6 n6 c6] 28)) := by repeat (first | exact Below.refl _ _ | assumption | refine below_allocS ?_ _ | refine below_callS ?_ (by assumption) | (refine Below.alloc ?_ (by first | omega | (simp; done) | (simp; omega)) _) | (refine Below.setCell ?_ (by first | omega | (simp; done) | (simp; omega)) _) | refine Below.drew ?_ | refine below_drewN ?_ _ | (refine below_call ?_ (by assumption) (by first | omega | (simp; done) | (simp; omega))) | (refine Below.trans ?_ (by assumption)))
      have hb6T := below_callS hb6 hbT
      go_wp2_with fail
      refine Calls.mono (KF.out _ hb6T) ?_
      rintro e w7 ⟨n7, a7, c7, rfl, hb7, ho7⟩
      obtain rfl : n7 = 0 := by have := ho7.len; simpa using this.symm
      have T7 := Lib.hid ((Blk.made w6 #[.int .i64 (B : Int), .slice a6 n6 c6] 28).keep hb7)
      have hb57 := below_callS hb6T hb7
      have hb67 := below_callS hbT hb7
      have X7 := Lib.hid (X5.out.keep hb57)
      have Y7 := Lib.hid (Y5.out.keep hb57)
      have I7 := Lib.hid (I5.out.keep hb57)
      have M7 := Lib.hid (M5.out.keep hb57)
      have O7 := Lib.hid (O6.out.keep hb67)
      have HB7 := Lib.hid (below_call HB5.out hb57 HB5.out.size)
      clear ho7 hb7 hb57 hb67 hb6T hbT hb6 X5 Y5 I5 M5 O6 HB5 x06 x16 y16 xl6 yl6 KT KF
      have x0 := X7.out.cell 0
      have x1 := X7.out.cell 1
      have xl := X7.out.lt
      have y0 := Y7.out.cell 0
      have y1 := Y7.out.cell 1
      have y2 := Y7.out.cell 2
      have yl := Y7.out.lt
      have t0 := T7.out.cell 0
      have t1 := T7.out.cell 1
      have tl := T7.out.lt
      simp at x0 x1 y0 y1 y2 t0 t1
      obtain ⟨LR7, hF7, hL7⟩ := M7.out.r
      have km := impl_IsModel M7.out.s M7.out.sn M7.out.t M7.out.tn hF7 M7.out.rn
      rw [HMD2.out LR7 hL7] at km
      have KM := Lib.hid km
      have hn6 : n6 ≤ 5 := by rw [← O7.out.len, I7.out.len]; exact hn1
      have KL := Lib.hid (fun (wx : World) (hx : Below w7.heap.size w7 wx) => laws_likeTraffic9 (b := (B : Int)) (O7.out.keep hx) (I7.out.keep hx) (by omega) (by omega))
      clear km hF7 hL7
      go_wp2_with fail
      refine Calls.mono KM.out ?_
      rintro e w8 ⟨rfl, hb8⟩
      obtain ⟨hc8, _⟩ := bcell hb8
      have hs8 := hb8.size
      have x08 := (hc8 _ _ xl).trans x0
      have x18 := (hc8 _ _ xl).trans x1
      have t08 := (hc8 _ _ tl).trans t0
      have t18 := (hc8 _ _ tl).trans t1
      have xl8 := Nat.lt_of_lt_of_le xl hs8
      have tl8 := Nat.lt_of_lt_of_le tl hs8
      clear x0 x1 xl y0 y1 y2 yl t0 t1 tl hc8
      go_wp2_with fail
      refine Calls.mono (KL.out _ hb8) ?_
      rintro e w9 ⟨rfl, hb9⟩
      have hbe := below_call (below_call HB7.out hb8 HB7.out.size) hb9 (by have := HB7.out.size; omega)
      go_wp2
      go_ret
      exact ⟨rfl, hbe⟩
    · have hC' : (RD != 0) = true := by simpa using hC
      clear hC
      have hbe := HB5.out
      go_wp2
      go_ret
      exact ⟨rfl, hbe⟩
  · go_enter Tryz.func8, Tryz.ntmps8
    go_wp2_with fail
    refine Calls.mono (laws_big_yes hn) ?_
    rintro e _ ⟨rfl, rfl⟩
    go_wp2
    go_ret
    exact ⟨rfl, by repeat (first | exact Below.refl _ _ | assumption | refine below_allocS ?_ _ | refine below_callS ?_ (by assumption) | (refine Below.alloc ?_ (by first | omega | (simp; done) | (simp; omega)) _) | (refine Below.setCell ?_ (by first | omega | (simp; done) | (simp; omega)) _) | refine Below.drew ?_ | refine below_drewN ?_ _ | (refine below_call ?_ (by assumption) (by first | omega | (simp; done) | (simp; omega))) | (refine Below.trans ?_ (by assumption)))⟩
end Go.Proofs.YtfnamjkmkoldeaaGreatDoor
