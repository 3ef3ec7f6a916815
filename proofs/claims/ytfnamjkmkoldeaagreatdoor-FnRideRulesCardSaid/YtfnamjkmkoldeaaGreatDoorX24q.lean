/- The law of ride rules. -/
import Derived.Test.YtfnamjkmkoldeaaGreatDoorYg
import Derived.Test.YtfnamjkmkoldeaaGreatDoorYd
import Derived.Test.YtfnamjkmkoldeaaGreatDoorYf
import Derived.Test.YtfnamjkmkoldeaaGreatDoorD25
import Derived.Test.YtfnamjkmkoldeaaGreatDoorBg
namespace Go.Proofs.YtfnamjkmkoldeaaGreatDoor
open Go.RowKit
set_option linter.unusedVariables false
set_option linter.unusedSimpArgs false
set_option maxRecDepth 100000 in
set_option maxHeartbeats 8000000 in
theorem law_FnRideRules {a : Option Addr} {n c : Nat} {w : World} (hT : Tab w 0 (strsCells ruleNm)) (hB : Byts w a n c) : Calls Tryz.prog 7 #[.slice a n c] w fun e w' => e = .returned (.bool true) ∧ Below w.heap.size w w' := by
  have HB := Lib.hid hB
  have HT := Lib.hid hT
  clear hB hT
  by_cases hn : n ≤ 4096
  · go_enter Tryz.func7, Tryz.ntmps7
    go_wp2_with fail
    refine Calls.mono (laws_big_no hn) ?_
    rintro e _ ⟨rfl, rfl⟩
    go_wp2_with fail
    refine Calls.mono (spec_DrawEventsOfTrace HB.out hn) ?_
    rintro e w1 ⟨B, a1, n1, c1, l, bu, sec, ta, tn, tc, tr, rfl, h1, hn1, hB1, hB9, hu1, hu2, htr, htn, hb_w1⟩
    have hs_w1 := hb_w1.size
    obtain ⟨B, rfl⟩ := Int.eq_ofNat_of_zero_le (show 0 ≤ B by omega)
    have HT1 := Lib.hid (HT.out.keep hb_w1)
    have HI := Lib.hid h1
    have TR := Lib.hid htr
    have HTL := Lib.hid htr.len
    have k1 := fun (wx : World) (hb : Below w1.heap.size w1 wx) => impl_RideModel (b := (B : Int)) (bud := bu) (sec := sec) (HT1.out.keep hb) (h1.keep hb) (by omega)
    have k2 := fun (wx : World) (hb : Below w1.heap.size w1 wx) => spec_RideModel (b := (B : Int)) (bud := bu) (sec := sec) (h1.keep hb) (by omega)
    have hmd := fun (h : rdC (B : Int) l bu = 0) (LR : List (RM × RuD)) (hL : LR.map (·.2) = rmRs (B : Int) l bu sec) => rd_model h hL
    have hft := fun (h : rdC (B : Int) l bu = 0) (h2 : ftC (rmRs (B : Int) l bu sec) (rmSt (B : Int) l bu) tr = 0) => ft_gives (sec := sec) h h2
    rw [h1.len] at hft
    have hsg := fun (D : Nat) (v : List Int) (h : rdC (B : Int) l (D : Int) = 0) (hv : RideI n1 B D sec v) => (⟨state_gives h h1.len hv, rel_law h h1.len hv⟩ : _ ∧ _)
    have HSG := Lib.hid hsg
    have HRD := Lib.hid (show (bu, rdC (B : Int) l bu) = (bu, rdC (B : Int) l bu) from rfl)
    clear hsg
    generalize rmRs (B : Int) l bu sec = RS at *
    generalize rmSt (B : Int) l bu = ST at *
    generalize rmSz (B : Int) l bu = SZ at *
    obtain ⟨RD, hRD⟩ : ∃ RD, RD = rdC (B : Int) l bu := ⟨_, rfl⟩
    rw [← hRD] at k1 k2 hmd hft
    have HRD := Lib.hid hRD
    have K1 := Lib.hid k1
    have K2 := Lib.hid k2
    have HFT := Lib.hid hft
    have HMD := Lib.hid hmd
    clear k1 k2 hft hmd h1 htr hRD
    have q1 : (RD != RD) = false := by simp
    have hzz : w1.heap.size < (w1.alloc (.cells #[.int .i64 (B : Int), .slice a1 n1 c1] 28)).heap.size := by simp
    go_wp2_with fail
    refine Calls.mono (K1.out _ (by repeat (first | exact Below.refl _ _ | assumption | refine below_allocS ?_ _ | refine below_callS ?_ (by assumption) | (refine Below.alloc ?_ (by first | omega | (simp; done) | (simp; omega)) _) | (refine Below.setCell ?_ (by first | omega | (simp; done) | (simp; omega)) _) | refine Below.drew ?_ | refine below_drewN ?_ _ | (refine below_call ?_ (by assumption) (by first | omega | (simp; done) | (simp; omega))) | (refine Below.trans ?_ (by assumption))))) ?_
    rintro e w2 ⟨a21, n21, c21, a22, n22, c22, a23, n23, c23, rfl, hM2, hb_w2⟩
    obtain ⟨hc_w2, hf_w2⟩ := bcell hb_w2
    have hs_w2 := hb_w2.size
    simp at hs_w2
    have M2 := Lib.hid hM2.rd
    clear hM2
    have hbB : Below w2.heap.size w2 (w2.alloc (.cells #[.slice a21 n21 c21, .slice a22 n22 c22, .slice a23 n23 c23] 44)) := by repeat (first | exact Below.refl _ _ | assumption | refine below_allocS ?_ _ | refine below_callS ?_ (by assumption) | (refine Below.alloc ?_ (by first | omega | (simp; done) | (simp; omega)) _) | (refine Below.setCell ?_ (by first | omega | (simp; done) | (simp; omega)) _) | refine Below.drew ?_ | refine below_drewN ?_ _ | (refine below_call ?_ (by assumption) (by first | omega | (simp; done) | (simp; omega))) | (refine Below.trans ?_ (by assumption)))
    have hz2 : w1.heap.size < w2.heap.size := by omega
    have hz2' : w1.heap.size < (w2.alloc (.cells #[.slice a21 n21 c21, .slice a22 n22 c22, .slice a23 n23 c23] 44)).heap.size := by simp; omega
    go_wp2_with fail
    refine Calls.mono (K2.out _ (by repeat (first | exact Below.refl _ _ | assumption | refine below_allocS ?_ _ | refine below_callS ?_ (by assumption) | (refine Below.alloc ?_ (by first | omega | (simp; done) | (simp; omega)) _) | (refine Below.setCell ?_ (by first | omega | (simp; done) | (simp; omega)) _) | refine Below.drew ?_ | refine below_drewN ?_ _ | (refine below_call ?_ (by assumption) (by first | omega | (simp; done) | (simp; omega))) | (refine Below.trans ?_ (by assumption))))) ?_
    rintro e w3 ⟨a31, n31, c31, a32, n32, c32, a33, n33, c33, rfl, hM3, hb_w3⟩
    have hs_w3 := hb_w3.size
    simp at hs_w3
    clear hM3
    have hb23 : Below w2.heap.size w2 w3 := below_callS hbB hb_w3
    have hbX : Below (w1.alloc (.cells #[.int .i64 (B : Int), .slice a1 n1 c1] 28)).heap.size (w1.alloc (.cells #[.int .i64 (B : Int), .slice a1 n1 c1] 28)) w3 := below_callS hb_w2 hb23
    have X3 := Lib.hid ((Blk.made w1 #[.int .i64 (B : Int), .slice a1 n1 c1] 28).keep hbX)
    have Y3 := Lib.hid ((Blk.made w2 #[.slice a21 n21 c21, .slice a22 n22 c22, .slice a23 n23 c23] 44).keep hb_w3)
    have hb13 : Below w1.heap.size w1 w3 := below_callS (show Below w1.heap.size w1 (w1.alloc (.cells #[.int .i64 (B : Int), .slice a1 n1 c1] 28)) by
      clear hbX hb23 hb_w2 hb_w3 hbB hb_w1
      repeat (first | exact Below.refl _ _ | assumption | refine below_allocS ?_ _ | refine below_callS ?_ (by assumption) | (refine Below.alloc ?_ (by first | omega | (simp; done) | (simp; omega)) _) | (refine Below.setCell ?_ (by first | omega | (simp; done) | (simp; omega)) _) | refine Below.drew ?_ | refine below_drewN ?_ _ | (refine below_call ?_ (by assumption) (by first | omega | (simp; done) | (simp; omega))) | (refine Below.trans ?_ (by assumption)))) hbX
    have HI3 := Lib.hid (HI.out.keep hb13)
    have TR3 := Lib.hid (TR.out.keep hb13)
    have M23 := Lib.hid (M2.out.keep hb23)
    have HT3 := Lib.hid (HT1.out.keep hb13)
    have HB3 := Lib.hid (below_callS hb_w1 hb13)
    clear hc_w2 hf_w2 hb_w1 hb_w2 hb_w3 hb23 hbX hb13 hbB hzz hz2' M2 K1 K2 HI HT1 TR
    obtain ⟨W, hW⟩ : ∃ W, W = w3.alloc (.cells #[.slice a31 n31 c31, .slice a32 n32 c32, .slice a33 n33 c33] 44) := ⟨_, rfl⟩
    have hb3W : Below w3.heap.size w3 W := by rw [hW]; repeat (first | exact Below.refl _ _ | assumption | refine below_allocS ?_ _ | refine below_callS ?_ (by assumption) | (refine Below.alloc ?_ (by first | omega | (simp; done) | (simp; omega)) _) | (refine Below.setCell ?_ (by first | omega | (simp; done) | (simp; omega)) _) | refine Below.drew ?_ | refine below_drewN ?_ _ | (refine below_call ?_ (by assumption) (by first | omega | (simp; done) | (simp; omega))) | (refine Below.trans ?_ (by assumption)))
    have hsW := hb3W.size
    have X := Lib.hid (X3.out.keep hb3W)
    have Y := Lib.hid (Y3.out.keep hb3W)
    have I := Lib.hid (HI3.out.keep hb3W)
    have TR := Lib.hid (TR3.out.keep hb3W)
    have M := Lib.hid (M23.out.keep hb3W)
    have HT4 := Lib.hid (HT3.out.keep hb3W)
    have HBW := Lib.hid (below_call HB3.out hb3W HB3.out.size)
    have y0 := Y3.out.cell 0
    have y1 := Y3.out.cell 1
    have y2 := Y3.out.cell 2
    have yl := Y3.out.lt
    simp at y0 y1 y2
    clear hb3W X3 Y3 HI3 M23 HB3 TR3 HT3
    by_cases hC : RD = 0
    · subst hC
      have hft := HFT.out (by first | exact rfl | trivial)
      obtain ⟨LR, hF, hLR⟩ := M.out.r
      have hmd := HMD.out (by first | exact rfl | trivial) LR hLR
      have kf := fun (wx : World) (hx : Below W.heap.size W wx) => impl_FollowTrace (M.out.s.keep hx) (M.out.t.keep hx) (FR.keep hF hx hx) M.out.sn M.out.tn M.out.rn hmd (TR.out.keep hx) (by omega)
      have kg := fun (wx : World) (hx : Below W.heap.size W wx) => spec_FollowTrace (M.out.s.keep hx) (M.out.t.keep hx) (FR.keep hF hx hx) M.out.sn M.out.tn M.out.rn hmd (TR.out.keep hx) (by omega)
      rw [hLR] at kf kg
      generalize ftC RS ST tr = FC at *
      generalize folP RS ST tr = FP at *
      have KF := Lib.hid kf
      have KG := Lib.hid kg
      have HFT2 := Lib.hid hft
      have q3 : (FC != FC) = false := by simp
      clear kf kg hft hF hLR hmd HFT
      go_wp2_with fail
      rw [← hW]
      clear hW y0 y1 y2 yl
      have y0 := Y.out.cell 0
      have y1 := Y.out.cell 1
      have y2 := Y.out.cell 2
      have yl := Y.out.lt
      simp at y0 y1 y2
      refine Calls.mono (KF.out _ (Below.refl _ _)) ?_
      rintro e w5 ⟨hb5, a5, n5, c5, L5, rfl, hS5, hR5, hN5⟩
      obtain ⟨hc5, _⟩ := bcell hb5
      have hs5 := hb5.size
      have p0 := (hc5 _ _ yl).trans y0
      have p1 := (hc5 _ _ yl).trans y1
      have p2 := (hc5 _ _ yl).trans y2
      have pl := Nat.lt_of_lt_of_le yl hs5
      clear hc5 y0 y1 y2 yl
      go_wp2_with fail
      refine Calls.mono (KG.out _ hb5) ?_
      rintro e w6 ⟨hb6, a6, n6, c6, L6, rfl, hS6, hR6, hN6⟩
      have hb56 := below_callS hb5 hb6
      have hs6 := hb56.size
      replace X := Lib.hid (X.out.keep hb56)
      replace Y := Lib.hid (Y.out.keep hb56)
      replace I := Lib.hid (I.out.keep hb56)
      replace M := Lib.hid (M.out.keep hb56)
      replace HT4 := Lib.hid (HT4.out.keep hb56)
      replace HBW := Lib.hid (below_call HBW.out hb56 HBW.out.size)
      have hl5 := hS5.len
      have hl6 := hS6.len
      have hn56 : n5 = n6 := by
        by_cases h0 : FC = 0
        · have h5 := hR5 h0
          have h6 := hR6 h0
          rw [h5] at h6
          simp only [Option.some.injEq] at h6
          have := congrArg List.length h6
          simp only [List.length_map] at this
          omega
        · rw [hN5 h0, hN6 h0]
      subst hn56
      have q5 : ((n5 : Int) != (n5 : Int)) = false := by simp
      have S6 := Lib.hid hS6
      have HR6 := Lib.hid hR6
      clear hb5 hb6 hb56 hS5 hS6 hR5 hR6 hN5 hN6 hl5 hl6 KF KG p0 p1 p2 pl TR
      by_cases hF0 : FC = 0
      · subst hF0
        obtain ⟨D, S, rfl, e1, e2, rfl, rfl, e5⟩ := HFT2.out (by first | exact rfl | trivial)
        have hr6 := HR6.out (by first | exact rfl | trivial)
        rw [e1] at hr6
        have hSS : S = L6.map (·.2) := by simpa using hr6
        have hl6 := S6.out.len
        obtain ⟨m, rfl⟩ : ∃ m, n5 = m + 1 := ⟨n5 - 1, by have := congrArg List.length hSS; rw [List.length_map] at this; omega⟩
        obtain ⟨b7, off7, R7, v, rfl, hb7, hlv, hov, e0⟩ := S6.out.get (show m < m + 1 by omega)
        have hsv : v ∈ S := by rw [hSS]; exact List.mem_map.2 ⟨_, List.mem_of_getElem? hlv, rfl⟩
        obtain ⟨⟨s1, s2, s3, s4, s5, s6, s7, s8, s9⟩, s10, s11⟩ := HSG.out D v HRD.out.symm (e5 v hsv)
        have V := Lib.hid hov.ints
        have hV20 : R7.n ≤ 20 := by rw [← hov.len]; exact s6
        have htk : (v.take n1).length = n1 := by have h := I.out.len; obtain ⟨_, _, _, g4, _, _⟩ := rdC_ok HRD.out.symm; have := (e5 v hsv).len; rw [List.length_take]; omega
        obtain ⟨LR, hF, hLR⟩ := M.out.r
        have hmd := HMD.out (by first | exact rfl | trivial) LR hLR
        have hEl : (rideRs n1 B D sec).length = n23 := by rw [← hLR, List.length_map]; exact hF.len
        have r01 := rep01 (B := B) (ps := v.take n1) (mid := midN n1 B v) (by have := (e5 v hsv).len; rw [midN, List.length_take, List.length_drop]; omega)
        have kt := fun (wx : World) (hx : Below w6.heap.size w6 wx) => impl_TrafficIn (b := (B : Int)) (I.out.keep hx) (V.out.keep hx) (by omega) (by omega)
        rw [trB, trL, if_pos s1, if_pos s1, s1, I.out.len] at kt
        have kf := fun (wx : World) (hx : Below w6.heap.size w6 wx) => impl_FaultsIn (b := (B : Int)) (I.out.keep hx) (V.out.keep hx) (by omega) (by omega)
        rw [s3, s4] at kf
        have kr := fun (wx : World) (a' fa' : Option Addr) (c' fn' fc' : Nat) (hI : Ints wx a' n1 c' (v.take n1)) (hF : F3 wx fa' fn' fc' (flsOf (midN n1 B v))) (hfn : fn' ≤ 8) => impl_ReportOf hI s2 hF hfn s8 s9
        have kp := fun (wx : World) (a' fa' ga' : Option Addr) (c' fc' gc' : Nat) (hF : Ints wx fa' B fc' (repL (repM B (v.take n1)) (flsOf (midN n1 B v))).1) (hG : Ints wx ga' B gc' (repL (repM B (v.take n1)) (flsOf (midN n1 B v))).2) (hI : Ints wx a' n1 c' (v.take n1)) => impl_PermittedMoves hF hG hI s2 r01.1 r01.2
        have ke := fun (wx : World) (hx : Below w6.heap.size w6 wx) => impl_EnabledRules_ok (M.out.s.keep hx) M.out.sn (M.out.t.keep hx) M.out.tn (FR.keep hF hx hx) M.out.rn (V.out.keep hx) (by omega) hmd s7
        rw [hLR] at ke
        have krr := fun (wx : World) (hx : Below w6.heap.size w6 wx) (x : Int) => impl_RideRule (b := (B : Int)) (bud := (D : Int)) (sec := sec) (r := x) (HT4.out.keep hx) (I.out.keep hx) (by omega)
        rw [hEl] at s10 s11
        have hfl2 := s5
        have hE23 : n23 ≤ 1048576 := M.out.rn
        have HE10 := Lib.hid s10
        have HE11 := Lib.hid s11
        have HTK := Lib.hid htk
        have HDB := Lib.hid (fun (t p : Nat) (h : v[t]? = some (p : Int)) => h)
        have hgt : ∀ t, t < n1 → ∃ p : Nat, v[t]? = some (p : Int) := fun t ht => by
          have hl := (e5 v hsv).len
          have hv := List.getElem?_eq_getElem (show t < v.length by omega)
          have h0 := (e5 v hsv).sv.2 t _ _ hv (sz_lo ht)
          obtain ⟨p, hp⟩ := Int.eq_ofNat_of_zero_le h0.1
          exact ⟨p, by rw [hv, hp]⟩
        have HGT := Lib.hid hgt
        generalize enabI (rideRs n1 B D sec) v n23 = EL at *
        generalize flsOf (midN n1 B v) = FL at *
        generalize (repL (repM B (v.take n1)) FL).1 = R1 at *
        generalize (repL (repM B (v.take n1)) FL).2 = R2 at *
        have hpl := pmL_len B R1 R2 (v.take n1) n1
        generalize pmL B R1 R2 (v.take n1) n1 = PL at *
        have KT := Lib.hid kt
        have KF := Lib.hid kf
        have KR := Lib.hid kr
        have KP := Lib.hid kp
        have KE := Lib.hid ke
        have KRR := Lib.hid krr
        have q5' : (((m : Int) + 1) != ((m : Int) + 1)) = false := by simp
        clear q5
        have hm0 : (0 : Int) ≤ (m : Int) := by omega
        have hm3 : m ≤ 300 := by have h1 := congrArg List.length hSS; have h2 := HTL.out; rw [List.length_map] at h1; omega
        have im : wrap64 (m : Int) = (m : Int) := IntWalk.wrap64_in _ ⟨by omega, by omega⟩
        have e0' : w6.cell? ⟨b7, off7 + (wrap64 (m : Int)).toNat, none⟩ = some (.slice R7.a R7.n R7.c) := by rw [im, Int.toNat_natCast]; exact e0
        clear im
        clear kt kf kr kp ke krr s1 s2 s3 s4 s5 s6 s7 s8 s9 s10 s11 hlv hov hsv hF hLR hmd e1 e2 e5 hr6 hSS hl6 HR6 HFT2 HSG HMD hEl r01 hgt htk HDB
        have x0 := X.out.cell 0
        have x1 := X.out.cell 1
        have xl := X.out.lt
        simp at x0 x1
        go_wp2_with fail
        refine Calls.mono (KT.out _ (Below.refl _ _)) ?_
        rintro e w7 ⟨n7, a7, c7, rfl, hb67, ho7⟩
        obtain rfl : n1 = n7 := by rw [← ho7.len]; exact HTK.out.symm
        have hs7 := hb67.size
        replace X := Lib.hid (X.out.keep hb67)
        replace Y := Lib.hid (Y.out.keep hb67)
        have O := Lib.hid ho7.ints
        have hb6A := below_allocS hb67 (.cells #[.int .i64 (B : Int), .slice a7 n1 c7] 28)
        have hb7A : Below w7.heap.size w7 (w7.alloc (.cells #[.int .i64 (B : Int), .slice a7 n1 c7] 28)) := (Below.refl _ _).alloc (Nat.le_refl _) _
        have P := Lib.hid (Blk.made w7 #[.int .i64 (B : Int), .slice a7 n1 c7] 28)
        clear ho7 x0 x1 xl hb67
        have x0 := X.out.cell 0
        have x1 := X.out.cell 1
        have xl := X.out.lt
        simp at x0 x1
        go_wp2_with fail
        refine Calls.mono (KF.out _ hb6A) ?_
        rintro e w8 ⟨n8, a8, c8, rfl, hb8, ho8⟩
        have hs8 := hb8.size
        simp at hs8
        have hb68 := below_callS hb6A hb8
        have hb78 := below_callS hb7A hb8
        replace X := Lib.hid (X.out.keep hb78)
        replace Y := Lib.hid (Y.out.keep hb78)
        replace O := Lib.hid (O.out.keep hb78)
        replace P := Lib.hid (P.out.keep hb8)
        have FF := Lib.hid ho8.flats
        have hn8 : n8 ≤ 8 := by have := ho8.len; omega
        clear ho8 x0 x1 xl hb8 hb7A hb6A hb78 KT KF
        have p0 := P.out.cell 0
        have p1 := P.out.cell 1
        have pl := P.out.lt
        simp at p0 p1
        go_wp2_with fail
        refine Calls.mono (KR.out _ _ _ _ _ _ O.out FF.out hn8) ?_
        rintro e w9 ⟨a91, c91, a92, c92, rfl, ho91, ho92, hb9⟩
        have hs9 := hb9.size
        have hb69 := below_callS hb68 hb9
        replace X := Lib.hid (X.out.keep hb9)
        replace Y := Lib.hid (Y.out.keep hb9)
        replace O := Lib.hid (O.out.keep hb9)
        replace P := Lib.hid (P.out.keep hb9)
        have hb9A : Below w9.heap.size w9 (w9.alloc (.cells #[.slice a91 B c91, .slice a92 B c92] 58)) := (Below.refl _ _).alloc (Nat.le_refl _) _
        have hb6B := below_allocS hb69 (.cells #[.slice a91 B c91, .slice a92 B c92] 58)
        have O1 := Lib.hid (ho91.ints.keep hb9A)
        have O2 := Lib.hid (ho92.ints.keep hb9A)
        have O3 := Lib.hid (O.out.keep hb9A)
        clear ho91 ho92 hb68 hb69 hb9 p0 p1 pl FF KR
        have p0 := P.out.cell 0
        have p1 := P.out.cell 1
        have pl := P.out.lt
        simp at p0 p1
        go_wp2_with fail
        refine Calls.mono (KP.out _ _ _ _ _ _ _ O1.out O2.out O3.out) ?_
        rintro e wa ⟨aa, na, ca, rfl, hoa, hba⟩
        have hsa := hba.size
        simp at hsa
        have hb9a := below_callS hb9A hba
        have hb6a := below_callS hb6B hba
        replace X := Lib.hid (X.out.keep hb9a)
        replace Y := Lib.hid (Y.out.keep hb9a)
        replace O := Lib.hid (O.out.keep hb9a)
        replace P := Lib.hid (P.out.keep hb9a)
        have MV := Lib.hid hoa.ints
        have hna : na ≤ n1 := by have := hoa.len; omega
        clear hoa O1 O2 O3 hb9A hb6B hba hb9a p0 p1 pl KP
        have y0 := Y.out.cell 0
        have y1 := Y.out.cell 1
        have y2 := Y.out.cell 2
        have yl := Y.out.lt
        simp at y0 y1 y2
        go_wp2_with fail
        refine Calls.mono (KE.out _ hb6a) ?_
        rintro e wb ⟨ae, ne, ce, rfl, hoe, hne, hbb⟩
        have hsb := hbb.size
        have HB6 := Lib.hid (below_callS hb6a hbb)
        replace X := Lib.hid (X.out.keep hbb)
        replace O := Lib.hid (O.out.keep hbb)
        replace P := Lib.hid (P.out.keep hbb)
        replace MV := Lib.hid (MV.out.keep hbb)
        have EV := Lib.hid hoe.ints
        clear hoe hbb hb6a y0 y1 y2 yl Y KE e0 hb7
        go_wp2_with fail
        go_loopw [26, 27, 28, 29, 30, 31, 32] (fun s26 _ _ _ _ _ _ wr => ∃ t : Nat, s26 = .int .i64 t ∧ t ≤ n1 ∧ wb.heap.size ≤ wr.heap.size ∧ Hid (Below wb.heap.size wb wr)) (fun s26 _ _ _ _ _ _ _ => n1 - (intOf s26).toNat)
        case atStart => exact ⟨0, rfl, by omega, Nat.le_refl _, Lib.hid (Below.refl _ _)⟩
        case round =>
          obtain ⟨t, rfl, ht, hsr, HBR⟩ := hrel
          have PR := Lib.hid (P.out.keep HBR.out)
          have p0 := PR.out.cell 0
          have p1 := PR.out.cell 1
          have pl := PR.out.lt
          simp at p0 p1
          by_cases hlt : t < n1
          · have hlt' : (t : Int) < (n1 : Int) := by omega
            have ht0 : (0 : Int) ≤ (t : Int) := by omega
            obtain ⟨wo, rfl⟩ : ∃ wo : World, wo = wr := ⟨_, rfl⟩
            go_wp2_with fail
            clear p0 p1 pl
            go_loopw [27, 28, 29, 30, 31, 32] (fun s27 s28 _ _ _ _ wq => ∃ i : Nat, s28 = .int .i64 i ∧ i ≤ ne ∧ s27 = .bool ((EL.take i).any (relP (B : Int) l (D : Int) sec (t : Int))) ∧ wb.heap.size ≤ wq.heap.size ∧ Hid (Below wb.heap.size wb wq)) (fun _ s28 _ _ _ _ _ => ne - (intOf s28).toNat)
            case atStart => exact ⟨0, rfl, by omega, by simp, hsr, HBR⟩
            case round =>
              obtain ⟨i, rfl, hi, rfl, hsq, HBQ⟩ := hrel
              by_cases hin : i < ne
              · have hin' : (i : Int) < (ne : Int) := by omega
                have hi0 : (0 : Int) ≤ (i : Int) := by omega
                obtain ⟨be, oe, x, rfl, hbe, hx, hcx, _⟩ := (EV.out.keep HBQ.out).at hin
                have hr0 := HE10.out x (List.mem_of_getElem? hx)
                have krr := fun (wx : World) (hx : Below wr.heap.size wr wx) => KRR.out wx (below_callS (below_callS HB6.out HBQ.out) hx) x
                rw [hr0] at krr
                have hst : (EL.take (i + 1)).any (relP (B : Int) l (D : Int) sec (t : Int)) = ((EL.take i).any (relP (B : Int) l (D : Int) sec (t : Int)) || (((rrX (B : Int) l (D : Int) sec x).b == (t : Int)) && (((rrX (B : Int) l (D : Int) sec x).a == 1) || ((rrX (B : Int) l (D : Int) sec x).a == 2)))) := by
                  rw [take_at hx, List.any_append]; simp [relP]
                generalize (EL.take i).any (relP (B : Int) l (D : Int) sec (t : Int)) = Q at *
                generalize (rrX (B : Int) l (D : Int) sec x).a = ra at *
                generalize (rrX (B : Int) l (D : Int) sec x).b = rb at *
                generalize (rrX (B : Int) l (D : Int) sec x).c = rc at *
                have KX := Lib.hid krr
                have HST := Lib.hid hst
                have XR := Lib.hid (X.out.keep HBQ.out)
                have x0 := XR.out.cell 0
                have x1 := XR.out.cell 1
                have xl := XR.out.lt
                simp at x0 x1
                clear krr hst hr0 hx
                go_wp2_with fail
                refine wp_region_noPanic ?_
                refine wp_region_M (L := 16) (S := fun wx => Below wr.heap.size wr wx) (by kernel_rfl) ?_ (fun hHeld => ?_)
                · exact (Below.refl _ _).drew
                refine wpAnyM_take (i := 0) (v := ?_) (by simp only [List.getElem?_toArray, List.getElem?_cons_succ, List.getElem?_cons_zero] <;> rfl) (by kernel_rfl) (by kernel_rfl) (by kernel_rfl) (by kernel_rfl) (by kernel_rfl) (fun _ _ _ h => h) (Or.inl ⟨by rfl, ?_⟩) (by assumption) ?_
                rotate_left
                · (intro wv hSw; (try dsimp only at hSw); obtain ⟨hcq, _⟩ := bcell hSw; have hsq := Below.size hSw; have p0 := (hcq _ _ xl).trans x0; have p1 := (hcq _ _ xl).trans x1; have pl := Nat.lt_of_lt_of_le xl hsq; go_simp; try with_reducible rfl)
                try simp only [Act.put, List.setIfInBounds_toArray, List.set_cons_zero, List.set_cons_succ]
                refine wpAnyM_take (i := 1) (v := ?_) (by simp only [List.getElem?_toArray, List.getElem?_cons_succ, List.getElem?_cons_zero] <;> rfl) (by kernel_rfl) (by kernel_rfl) (by kernel_rfl) (by kernel_rfl) (by kernel_rfl) (fun _ _ _ h => h) (Or.inl ⟨by rfl, ?_⟩) (by assumption) ?_
                rotate_left
                · (intro wv hSw; (try dsimp only at hSw); obtain ⟨hcq, _⟩ := bcell hSw; have hsq := Below.size hSw; go_simp; try with_reducible rfl)
                try simp only [Act.put, List.setIfInBounds_toArray, List.set_cons_zero, List.set_cons_succ]
                refine wpAnyM_take (i := 2) (v := ?_) (by simp only [List.getElem?_toArray, List.getElem?_cons_succ, List.getElem?_cons_zero] <;> rfl) (by kernel_rfl) (by kernel_rfl) (by kernel_rfl) (by kernel_rfl) (by kernel_rfl) (fun _ _ _ h => h) (Or.inl ⟨by rfl, ?_⟩) (by assumption) ?_
                rotate_left
                · (intro wv hSw; (try dsimp only at hSw); obtain ⟨hcq, _⟩ := bcell hSw; have hsq := Below.size hSw; go_simp; try with_reducible rfl)
                try simp only [Act.put, List.setIfInBounds_toArray, List.set_cons_zero, List.set_cons_succ]
                refine wpAnyM_take (i := 3) (v := ?_) (by simp only [List.getElem?_toArray, List.getElem?_cons_succ, List.getElem?_cons_zero] <;> rfl) (by kernel_rfl) (by kernel_rfl) (by kernel_rfl) (by kernel_rfl) (by kernel_rfl) (fun _ _ _ h => h) (Or.inl ⟨by rfl, ?_⟩) (by assumption) ?_
                rotate_left
                · (intro wv hSw; (try dsimp only at hSw); obtain ⟨hcq, _⟩ := bcell hSw; have hsq := Below.size hSw; go_simp; try with_reducible rfl)
                try simp only [Act.put, List.setIfInBounds_toArray, List.set_cons_zero, List.set_cons_succ]
                refine wpAnyM_take (i := 4) (v := ?_) (by simp only [List.getElem?_toArray, List.getElem?_cons_succ, List.getElem?_cons_zero] <;> rfl) (by kernel_rfl) (by kernel_rfl) (by kernel_rfl) (by kernel_rfl) (by kernel_rfl) (fun _ _ _ h => h) (Or.inl ⟨by rfl, ?_⟩) (by assumption) ?_
                rotate_left
                · (intro wv hSw; (try dsimp only at hSw); obtain ⟨hcq, _⟩ := bcell hSw; have hsq := Below.size hSw; go_simp; try with_reducible rfl)
                try simp only [Act.put, List.setIfInBounds_toArray, List.set_cons_zero, List.set_cons_succ]
                refine wpAnyM_take (i := 5) (v := ?_) (by simp only [List.getElem?_toArray, List.getElem?_cons_succ, List.getElem?_cons_zero] <;> rfl) (by kernel_rfl) (by kernel_rfl) (by kernel_rfl) (by kernel_rfl) (by kernel_rfl) (fun _ _ _ h => h) (Or.inl ⟨by rfl, ?_⟩) (by assumption) ?_
                rotate_left
                · (intro wv hSw; (try dsimp only at hSw); obtain ⟨hcq, _⟩ := bcell hSw; have hsq := Below.size hSw; go_simp; try with_reducible rfl)
                try simp only [Act.put, List.setIfInBounds_toArray, List.set_cons_zero, List.set_cons_succ]
                refine wpAnyM_take (i := 6) (v := ?_) (by simp only [List.getElem?_toArray, List.getElem?_cons_succ, List.getElem?_cons_zero] <;> rfl) (by kernel_rfl) (by kernel_rfl) (by kernel_rfl) (by kernel_rfl) (by kernel_rfl) (fun _ _ _ h => h) (Or.inl ⟨by rfl, ?_⟩) (by assumption) ?_
                rotate_left
                · (intro wv hSw; (try dsimp only at hSw); obtain ⟨hcq, _⟩ := bcell hSw; have hsq := Below.size hSw; have p0 := (hcq _ _ hbe).trans hcx; have pl := Nat.lt_of_lt_of_le hbe hsq; go_simp; try with_reducible rfl)
                try simp only [Act.put, List.setIfInBounds_toArray, List.set_cons_zero, List.set_cons_succ]
                refine wpAnyM_ready (rs := [7]) (by kernel_rfl) (by simp) ?_
                refine AllReadyM.cons rfl (fun K hK => ?_) AllReadyM.nil
                go_simp
                refine Calls.mono (KX.out _ hHeld) ?_
                rintro e wc ⟨rfl, hbc⟩
                have hbd := below_callS hHeld hbc
                go_wp2_with fail
                refine hK.out _ _ hbd (fun hHeld => ?_)
                clear hK K
                try simp only [Act.put, List.setIfInBounds_toArray, List.set_cons_zero, List.set_cons_succ]
                refine wpAnyM_take (i := 8) (v := ?_) (by simp only [List.getElem?_toArray, List.getElem?_cons_succ, List.getElem?_cons_zero] <;> rfl) (by kernel_rfl) (by kernel_rfl) (by kernel_rfl) (by kernel_rfl) (by kernel_rfl) (fun _ _ _ h => h) (Or.inl ⟨by rfl, ?_⟩) (by assumption) ?_
                rotate_left
                · (intro wv hSw; (try dsimp only at hSw); obtain ⟨hcq, _⟩ := bcell hSw; have hsq := Below.size hSw; go_simp; try with_reducible rfl)
                try simp only [Act.put, List.setIfInBounds_toArray, List.set_cons_zero, List.set_cons_succ]
                refine wpAnyM_take (i := 9) (v := ?_) (by simp only [List.getElem?_toArray, List.getElem?_cons_succ, List.getElem?_cons_zero] <;> rfl) (by kernel_rfl) (by kernel_rfl) (by kernel_rfl) (by kernel_rfl) (by kernel_rfl) (fun _ _ _ h => h) (Or.inl ⟨by rfl, ?_⟩) (by assumption) ?_
                rotate_left
                · (intro wv hSw; (try dsimp only at hSw); obtain ⟨hcq, _⟩ := bcell hSw; have hsq := Below.size hSw; go_simp; try with_reducible rfl)
                try simp only [Act.put, List.setIfInBounds_toArray, List.set_cons_zero, List.set_cons_succ]
                refine wpAnyM_take (i := 10) (v := ?_) (by simp only [List.getElem?_toArray, List.getElem?_cons_succ, List.getElem?_cons_zero] <;> rfl) (by kernel_rfl) (by kernel_rfl) (by kernel_rfl) (by kernel_rfl) (by kernel_rfl) (fun _ _ _ h => h) (Or.inl ⟨by rfl, ?_⟩) (by assumption) ?_
                rotate_left
                · (intro wv hSw; (try dsimp only at hSw); obtain ⟨hcq, _⟩ := bcell hSw; have hsq := Below.size hSw; go_simp; try with_reducible rfl)
                try simp only [Act.put, List.setIfInBounds_toArray, List.set_cons_zero, List.set_cons_succ]
                refine wpAnyM_take (i := 11) (v := ?_) (by simp only [List.getElem?_toArray, List.getElem?_cons_succ, List.getElem?_cons_zero] <;> rfl) (by kernel_rfl) (by kernel_rfl) (by kernel_rfl) (by kernel_rfl) (by kernel_rfl) (fun _ _ _ h => h) (Or.inl ⟨by rfl, ?_⟩) (by assumption) ?_
                rotate_left
                · (intro wv hSw; (try dsimp only at hSw); obtain ⟨hcq, _⟩ := bcell hSw; have hsq := Below.size hSw; go_simp; try with_reducible rfl)
                try simp only [Act.put, List.setIfInBounds_toArray, List.set_cons_zero, List.set_cons_succ]
                refine wpAnyM_take (i := 12) (v := ?_) (by simp only [List.getElem?_toArray, List.getElem?_cons_succ, List.getElem?_cons_zero] <;> rfl) (by kernel_rfl) (by kernel_rfl) (by kernel_rfl) (by kernel_rfl) (by kernel_rfl) (fun _ _ _ h => h) (Or.inl ⟨by rfl, ?_⟩) (by assumption) ?_
                rotate_left
                · (intro wv hSw; (try dsimp only at hSw); obtain ⟨hcq, _⟩ := bcell hSw; have hsq := Below.size hSw; go_simp; try with_reducible rfl)
                try simp only [Act.put, List.setIfInBounds_toArray, List.set_cons_zero, List.set_cons_succ]
                refine wpAnyM_take (i := 13) (v := ?_) (by simp only [List.getElem?_toArray, List.getElem?_cons_succ, List.getElem?_cons_zero] <;> rfl) (by kernel_rfl) (by kernel_rfl) (by kernel_rfl) (by kernel_rfl) (by kernel_rfl) (fun _ _ _ h => h) (Or.inl ⟨by rfl, ?_⟩) (by assumption) ?_
                rotate_left
                · (intro wv hSw; (try dsimp only at hSw); obtain ⟨hcq, _⟩ := bcell hSw; have hsq := Below.size hSw; go_simp; try with_reducible rfl)
                try simp only [Act.put, List.setIfInBounds_toArray, List.set_cons_zero, List.set_cons_succ]
                refine wpAnyM_take (i := 14) (v := ?_) (by simp only [List.getElem?_toArray, List.getElem?_cons_succ, List.getElem?_cons_zero] <;> rfl) (by kernel_rfl) (by kernel_rfl) (by kernel_rfl) (by kernel_rfl) (by kernel_rfl) (fun _ _ _ h => h) (Or.inl ⟨by rfl, ?_⟩) (by assumption) ?_
                rotate_left
                · (intro wv hSw; (try dsimp only at hSw); obtain ⟨hcq, _⟩ := bcell hSw; have hsq := Below.size hSw; go_simp; try with_reducible rfl)
                try simp only [Act.put, List.setIfInBounds_toArray, List.set_cons_zero, List.set_cons_succ]
                refine wpAnyM_take (i := 15) (v := ?_) (by simp only [List.getElem?_toArray, List.getElem?_cons_succ, List.getElem?_cons_zero] <;> rfl) (by kernel_rfl) (by kernel_rfl) (by kernel_rfl) (by kernel_rfl) (by kernel_rfl) (fun _ _ _ h => h) (Or.inl ⟨by rfl, ?_⟩) (by assumption) ?_
                rotate_left
                · (intro wv hSw; (try dsimp only at hSw); obtain ⟨hcq, _⟩ := bcell hSw; have hsq := Below.size hSw; go_simp; try with_reducible rfl)
                try simp only [Act.put, List.setIfInBounds_toArray, List.set_cons_zero, List.set_cons_succ]
                refine wpAnyM_ready (rs := [16]) (by kernel_rfl) (by simp) ?_
                refine AllReadyM.last rfl (fun K hK => ?_)
                go_simp
                refine hK.out _ _ ?_
                clear hK K
                try simp only [Act.put, List.setIfInBounds_toArray, List.set_cons_zero, List.set_cons_succ]
                refine wpAnyM_done (by kernel_rfl) ?_ _
                refine NoPanic.normal ?_
                have HBN := Lib.hid (below_call HBQ.out hbd HBQ.out.size)
                have hsN : wb.heap.size ≤ wc.heap.size := Nat.le_trans hsq hbd.size
                clear hHeld hbc hbd KX x0 x1 xl hcx hbe
                cases Q with
                | true =>
                  go_wp2
                  go_roundw
                  case rel => exact ⟨i + 1, by go_num, by omega, by rw [HST.out]; rfl, hsN, HBN⟩
                  case measure => simp [intOf]; omega
                | false =>
                  cases g1 : (rb == (t : Int)) with
                  | false =>
                    rw [g1] at HST
                    go_wp2
                    go_roundw
                    case rel => exact ⟨i + 1, by go_num, by omega, by rw [HST.out]; rfl, hsN, HBN⟩
                    case measure => simp [intOf]; omega
                  | true =>
                    cases g2 : (ra == 1) with
                    | true =>
                      rw [g1, g2] at HST
                      go_wp2
                      go_roundw
                      case rel => exact ⟨i + 1, by go_num, by omega, by rw [HST.out]; rfl, hsN, HBN⟩
                      case measure => simp [intOf]; omega
                    | false =>
                      cases g3 : (ra == 2)
                      all_goals
                        rw [g1, g2, g3] at HST
                        go_wp2
                        go_roundw
                        case rel => exact ⟨i + 1, by go_num, by omega, by rw [HST.out]; rfl, hsN, HBN⟩
                        case measure => simp [intOf]; omega
              · obtain rfl : ne = i := by omega
                have hin' : ¬ (ne : Int) < (ne : Int) := by omega
                have HEA := Lib.hid (show EL.take ne = EL from List.take_of_length_le (by rw [EV.out.len]; exact Nat.le_refl _))
                rw [HEA.out]
                obtain ⟨p, hp⟩ := HGT.out t hlt
                obtain ⟨b9, o9, y, rfl, hb9, hy, hcy, _⟩ := (O.out.keep HBQ.out).at hlt
                rw [List.getElem?_take, if_pos hlt, hp] at hy
                cases hy
                have PQ := Lib.hid (P.out.keep HBQ.out)
                have p0 := PQ.out.cell 0
                have p1 := PQ.out.cell 1
                have pl := PQ.out.lt
                simp at p0 p1
                have HBN := Lib.hid HBQ.out
                have hp0 : (0 : Int) ≤ (p : Int) := by omega
                by_cases hp3 : p % 3 = 1
                · have hz := HE11.out t p hp hlt hp3
                  have KH := Lib.hid (fun (wx : World) (hx : Below wb.heap.size wb wx) => laws_hasInt (x := (t : Int)) (MV.out.keep hx) (by omega))
                  rw [← hz] at KH
                  have hp3' : (((p % 3 : Nat) : Int) == 1) = true := by rw [hp3]; rfl
                  have hp4 : ((p : Int) % 3 == 1) = true := by rw [beq_iff_eq]; omega
                  have hp5 : (p : Int) % 3 = 1 := by omega
                  clear hp hz
                  generalize EL.any (relP (B : Int) l (D : Int) sec (t : Int)) = Z at *
                  have hZZ : (Z != Z) = false := by cases Z <;> rfl
                  go_wp2_with fail
                  refine Calls.mono (KH.out _ HBQ.out) ?_
                  rintro e wd ⟨rfl, hbd⟩
                  have HBD := Lib.hid (below_call HBQ.out hbd HBQ.out.size)
                  have hsD : wb.heap.size ≤ wd.heap.size := Nat.le_trans hsq hbd.size
                  clear hbd p0 p1 pl hcy hb9
                  go_wp2
                  go_roundw
                  case rel => exact ⟨t + 1, by go_num, by omega, hsD, HBD⟩
                  case measure => simp [intOf]; omega
                · have hp4 : ((p : Int) % 3 == 1) = false := by rw [beq_eq_false_iff_ne]; omega
                  have hp5 : ¬ (p : Int) % 3 = 1 := by omega
                  clear hp
                  go_wp2
                  go_roundw
                  case rel => exact ⟨t + 1, by go_num, by omega, hsq, HBQ⟩
                  case measure => simp [intOf]; omega
          · have hbe := below_call HBW.out (below_callS HB6.out HBR.out) HBW.out.size
            have hlt' : ¬ (t : Int) < (n1 : Int) := by omega
            go_wp2
            go_ret
            exact ⟨rfl, hbe⟩
      · have hF0' : (FC != 0) = true := by simpa using hF0
        have hbe := HBW.out
        go_wp2
        go_ret
        exact ⟨rfl, hbe⟩
    · have hC' : (RD != 0) = true := by simpa using hC
      clear hC
      have hbe := HBW.out
      go_wp2_with fail
      rw [← hW]
      go_ret
      exact ⟨rfl, hbe⟩
  · go_enter Tryz.func7, Tryz.ntmps7
    go_wp2_with fail
    refine Calls.mono (laws_big_yes hn) ?_
    rintro e _ ⟨rfl, rfl⟩
    go_wp2
    go_ret
    exact ⟨rfl, by repeat (first | exact Below.refl _ _ | assumption | refine below_allocS ?_ _ | refine below_callS ?_ (by assumption) | (refine Below.alloc ?_ (by first | omega | (simp; done) | (simp; omega)) _) | (refine Below.setCell ?_ (by first | omega | (simp; done) | (simp; omega)) _) | refine Below.drew ?_ | refine below_drewN ?_ _ | (refine below_call ?_ (by assumption) (by first | omega | (simp; done) | (simp; omega))) | (refine Below.trans ?_ (by assumption)))⟩
end Go.Proofs.YtfnamjkmkoldeaaGreatDoor
