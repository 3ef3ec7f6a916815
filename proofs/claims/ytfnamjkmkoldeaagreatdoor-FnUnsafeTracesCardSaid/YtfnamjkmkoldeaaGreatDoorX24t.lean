/- The law of unsafe traces. -/
import Derived.Test.YtfnamjkmkoldeaaGreatDoorFx
import Derived.Test.YtfnamjkmkoldeaaGreatDoorFy
import Derived.Test.YtfnamjkmkoldeaaGreatDoorCi
import Derived.Test.YtfnamjkmkoldeaaGreatDoorSr
import Derived.Test.YtfnamjkmkoldeaaGreatDoorQq
import Derived.Test.YtfnamjkmkoldeaaGreatDoorD24c
import Derived.Test.YtfnamjkmkoldeaaGreatDoorBg
import Derived.Test.YtfnamjkmkoldeaaGreatDoorLk
namespace Go.Proofs.YtfnamjkmkoldeaaGreatDoor
open Go.RowKit
set_option linter.unusedVariables false
set_option linter.unusedSimpArgs false
set_option maxRecDepth 100000 in
set_option maxHeartbeats 4000000 in
theorem law_FnUnsafeTraces {a : Option Addr} {n c : Nat} {w : World} (hT : Tab w 0 (strsCells ruleNm)) (hB : Byts w a n c) : Calls Tryz.prog 6 #[.slice a n c] w fun e w' => e = .returned (.bool true) ∧ Below w.heap.size w w' := by
  have HB := Lib.hid hB
  have HT := Lib.hid hT
  clear hB hT
  by_cases hn : n ≤ 4096
  · go_enter Tryz.func6, Tryz.ntmps6
    go_wp2_with fail
    refine Calls.mono (laws_big_no hn) ?_
    rintro e _ ⟨rfl, rfl⟩
    go_wp2_with fail
    refine Calls.mono (spec_DrawFirstUnsafeTrace HB.out hn) ?_
    rintro e w1 ⟨B, a1, n1, c1, l, bu, sec, rfl, h1, hn1, hB1, hB9, hu1, hu2, hb_w1⟩
    have hs_w1 := hb_w1.size
    obtain ⟨B, rfl⟩ := Int.eq_ofNat_of_zero_le (show 0 ≤ B by omega)
    have HT1 := Lib.hid (HT.out.keep hb_w1)
    have HI := Lib.hid h1
    have k1 := fun (wx : World) (hb : Below w1.heap.size w1 wx) => impl_FirstUnsafeTrace (b := (B : Int)) (bud := bu) (sec := sec) (HT1.out.keep hb) (h1.keep hb) (by omega)
    have k2 := fun (wx : World) (hb : Below w1.heap.size w1 wx) => spec_FirstUnsafeTrace (b := (B : Int)) (bud := bu) (sec := sec) (h1.keep hb) (by omega)
    have k3 := fun (wx : World) (hb : Below w1.heap.size w1 wx) => impl_RideModel (b := (B : Int)) (bud := bu) (sec := sec) (HT1.out.keep hb) (h1.keep hb) (by omega)
    have hfu := fun (h : fuC (B : Int) l bu sec = 0) => fu_law h
    have hlen := fu_len (b := (B : Int)) (l := l) (bud := bu) (sec := sec)
    rw [h1.len] at hfu
    unfold FuRet at k1 k2
    generalize fuL (B : Int) l bu sec = FL at *
    generalize fuC (B : Int) l bu sec = FC at *
    generalize rmRs (B : Int) l bu sec = RS at *
    generalize rmSt (B : Int) l bu = ST at *
    generalize rmSz (B : Int) l bu = SZ at *
    generalize rdC (B : Int) l bu = RD at *
    have K1 := Lib.hid k1
    have K2 := Lib.hid k2
    have K3 := Lib.hid k3
    have HFU := Lib.hid hfu
    clear k1 k2 k3 hfu h1
    have q1 : (FC != FC) = false := by simp
    have hzz : w1.heap.size < (w1.alloc (.cells #[.int .i64 (B : Int), .slice a1 n1 c1] 28)).heap.size := by simp
    go_wp2_with fail
    refine Calls.mono (K1.out _ (by repeat (first | exact Below.refl _ _ | assumption | refine below_allocS ?_ _ | refine below_callS ?_ (by assumption) | (refine Below.alloc ?_ (by first | omega | (simp; done) | (simp; omega)) _) | (refine Below.setCell ?_ (by first | omega | (simp; done) | (simp; omega)) _) | refine Below.drew ?_ | refine below_drewN ?_ _ | (refine below_call ?_ (by assumption) (by first | omega | (simp; done) | (simp; omega))) | (refine Below.trans ?_ (by assumption))))) ?_
    rintro e w2 ⟨m2, a2, c2, rfl, hb_w2, o2⟩
    obtain ⟨hc_w2, hf_w2⟩ := bcell hb_w2
    have hs_w2 := hb_w2.size
    simp at hs_w2
    have hz2 : w1.heap.size < w2.heap.size := by omega
    have O2 := Lib.hid o2.ints
    clear o2
    go_wp2_with fail
    refine Calls.mono (K2.out _ (by repeat (first | exact Below.refl _ _ | assumption | refine below_allocS ?_ _ | refine below_callS ?_ (by assumption) | (refine Below.alloc ?_ (by first | omega | (simp; done) | (simp; omega)) _) | (refine Below.setCell ?_ (by first | omega | (simp; done) | (simp; omega)) _) | refine Below.drew ?_ | refine below_drewN ?_ _ | (refine below_call ?_ (by assumption) (by first | omega | (simp; done) | (simp; omega))) | (refine Below.trans ?_ (by assumption))))) ?_
    rintro e w3 ⟨m3, a3, c3, rfl, hb_w3, o3⟩
    obtain ⟨hc_w3, hf_w3⟩ := bcell hb_w3
    have hs_w3 := hb_w3.size
    have hz3 : w1.heap.size < w3.heap.size := by omega
    have O3 := Lib.hid o3.ints
    clear o3
    have y2 : m2 ≤ 4000 := by have := O2.out.len; omega
    have y3 : m3 ≤ 4000 := by have := O3.out.len; omega
    have HM3 := Lib.hid (show m3 = FL.length from O3.out.len.symm)
    go_wp2_with fail
    refine Calls.mono (laws_likeInts (O2.out.keep (by repeat (first | exact Below.refl _ _ | assumption | refine below_allocS ?_ _ | refine below_callS ?_ (by assumption) | (refine Below.alloc ?_ (by first | omega | (simp; done) | (simp; omega)) _) | (refine Below.setCell ?_ (by first | omega | (simp; done) | (simp; omega)) _) | refine Below.drew ?_ | refine below_drewN ?_ _ | (refine below_call ?_ (by assumption) (by first | omega | (simp; done) | (simp; omega))) | (refine Below.trans ?_ (by assumption))))) O3.out (by omega) (by omega)) ?_
    rw [decide_eq_true (rfl : FL = FL)]
    rintro e w4 ⟨rfl, hb_w4⟩
    obtain ⟨hc_w4, hf_w4⟩ := bcell hb_w4
    have hs_w4 := hb_w4.size
    have hz4 : w1.heap.size < w4.heap.size := by omega
    by_cases hC : FC = 0
    · subst hC
      obtain ⟨S, rfl, f1, f2, f3, f4, f5⟩ := HFU.out (by first | exact rfl | trivial)
      have F5 := Lib.hid f5
      have F2' := Lib.hid f2
      have F4 := Lib.hid f4
      have F1' := Lib.hid f1
      have F3 := Lib.hid f3
      clear f1 f2 f3 f4 f5 HFU hlen
      go_wp2_with fail
      refine Calls.mono (K3.out _ (by repeat (first | exact Below.refl _ _ | assumption | refine below_allocS ?_ _ | refine below_callS ?_ (by assumption) | (refine Below.alloc ?_ (by first | omega | (simp; done) | (simp; omega)) _) | (refine Below.setCell ?_ (by first | omega | (simp; done) | (simp; omega)) _) | refine Below.drew ?_ | refine below_drewN ?_ _ | (refine below_call ?_ (by assumption) (by first | omega | (simp; done) | (simp; omega))) | (refine Below.trans ?_ (by assumption))))) ?_
      rintro e w5 ⟨a51, n51, c51, a52, n52, c52, a53, n53, c53, rfl, hM, hb_w5⟩
      obtain ⟨hc_w5, hf_w5⟩ := bcell hb_w5
      have hs_w5 := hb_w5.size
      have hz5 : w1.heap.size < w5.heap.size := by omega
      have M := Lib.hid hM.rd
      have hb15 : Below w1.heap.size w1 w5 := by repeat (first | exact Below.refl _ _ | assumption | refine below_allocS ?_ _ | refine below_callS ?_ (by assumption) | (refine Below.alloc ?_ (by first | omega | (simp; done) | (simp; omega)) _) | (refine Below.setCell ?_ (by first | omega | (simp; done) | (simp; omega)) _) | refine Below.drew ?_ | refine below_drewN ?_ _ | (refine below_call ?_ (by assumption) (by first | omega | (simp; done) | (simp; omega))) | (refine Below.trans ?_ (by assumption)))
      have hb05 : Below w.heap.size w w5 := by
        clear hb15
        repeat (first | exact Below.refl _ _ | assumption | refine below_allocS ?_ _ | refine below_callS ?_ (by assumption) | (refine Below.alloc ?_ (by first | omega | (simp; done) | (simp; omega)) _) | (refine Below.setCell ?_ (by first | omega | (simp; done) | (simp; omega)) _) | refine Below.drew ?_ | refine below_drewN ?_ _ | (refine below_call ?_ (by assumption) (by first | omega | (simp; done) | (simp; omega))) | (refine Below.trans ?_ (by assumption)))
      have hbX : Below (w1.alloc (.cells #[.int .i64 (B : Int), .slice a1 n1 c1] 28)).heap.size (w1.alloc (.cells #[.int .i64 (B : Int), .slice a1 n1 c1] 28)) w5 := by
        clear hb15 hb05
        repeat (first | exact Below.refl _ _ | assumption | refine below_allocS ?_ _ | refine below_callS ?_ (by assumption) | (refine Below.alloc ?_ (by first | omega | (simp; done) | (simp; omega)) _) | (refine Below.setCell ?_ (by first | omega | (simp; done) | (simp; omega)) _) | refine Below.drew ?_ | refine below_drewN ?_ _ | (refine below_call ?_ (by assumption) (by first | omega | (simp; done) | (simp; omega))) | (refine Below.trans ?_ (by assumption)))
      have X5 := Lib.hid ((Blk.made w1 #[.int .i64 (B : Int), .slice a1 n1 c1] 28).keep hbX)
      have O25 := Lib.hid (O2.out.keep (show Below w2.heap.size w2 w5 by
        clear hb15 hb05 hbX
        repeat (first | exact Below.refl _ _ | assumption | refine below_allocS ?_ _ | refine below_callS ?_ (by assumption) | (refine Below.alloc ?_ (by first | omega | (simp; done) | (simp; omega)) _) | (refine Below.setCell ?_ (by first | omega | (simp; done) | (simp; omega)) _) | refine Below.drew ?_ | refine below_drewN ?_ _ | (refine below_call ?_ (by assumption) (by first | omega | (simp; done) | (simp; omega))) | (refine Below.trans ?_ (by assumption)))))
      have HI5 := Lib.hid (HI.out.keep hb15)
      have HB5 := Lib.hid hb05
      clear hM hb15 hb05 hbX hc_w2 hf_w2 hc_w3 hf_w3 hc_w4 hf_w4 hc_w5 hf_w5 hb_w1 hb_w2 hb_w3 hb_w4 hb_w5 O2 O3 HI K1 K2 K3
      go_wp2_with fail
      have hbM : Below w5.heap.size w5 (w5.alloc (.cells #[.slice a51 n51 c51, .slice a52 n52 c52, .slice a53 n53 c53] 44)) := by repeat (first | exact Below.refl _ _ | assumption | refine below_allocS ?_ _ | refine below_callS ?_ (by assumption) | (refine Below.alloc ?_ (by first | omega | (simp; done) | (simp; omega)) _) | (refine Below.setCell ?_ (by first | omega | (simp; done) | (simp; omega)) _) | refine Below.drew ?_ | refine below_drewN ?_ _ | (refine below_call ?_ (by assumption) (by first | omega | (simp; done) | (simp; omega))) | (refine Below.trans ?_ (by assumption)))
      have M6 := M.out.keep hbM
      obtain ⟨LR, hF, hLR⟩ := M6.r
      have KF := impl_FollowTrace M6.s M6.t hF M6.sn M6.tn M6.rn (F4.out LR hLR) (O25.out.keep hbM) (by omega)
      rw [hLR, F1'.out] at KF
      refine Calls.mono KF ?_
      rintro e w6 ⟨hb_w6, a6, n6, c6, L6, rfl, hS6, hR6, _⟩
      have hR6 := hR6 rfl
      rw [F2'.out] at hR6
      have hSS : S = L6.map (·.2) := by simpa using hR6
      obtain rfl : n6 = m3 + 1 := by rw [← hS6.len, HM3.out, ← F3.out, hSS, List.length_map]
      have hb56 : Below w5.heap.size w5 w6 := below_callS hbM hb_w6
      have HSS := Lib.hid hSS
      have S6 := Lib.hid hS6
      have X6 := Lib.hid (X5.out.keep hb56)
      have HI6 := Lib.hid (HI5.out.keep hb56)
      have HB6 := Lib.hid (below_call HB5.out hb56 HB5.out.size)
      have hs6 := hb56.size
      have hz6 : w1.heap.size < w6.heap.size := by omega
      have hw16 : w.heap.size ≤ w6.heap.size := by omega
      clear hbM M6 hF hLR KF hb_w6 hR6 hSS hb56 hS6 M X5 HI5 HB5 O25
      go_wp2_with fail
      go_loopw [14] (fun s14 wr => ∃ i : Nat, s14 = .int .i64 i ∧ i ≤ m3 + 1 ∧ w6.heap.size ≤ wr.heap.size ∧ Hid (Below w6.heap.size w6 wr)) (fun s14 _ => m3 + 1 - (intOf s14).toNat)
      case atStart => exact ⟨0, rfl, by omega, Nat.le_refl _, Lib.hid (Below.refl _ _)⟩
      case round =>
        obtain ⟨i, rfl, hi, hsr, HBR⟩ := hrel
        by_cases hlt : i < m3 + 1
        · have hlt' : (i : Int) < (m3 : Int) + 1 := by omega
          have hi0 : (0 : Int) ≤ (i : Int) := by omega
          obtain ⟨b, off, R, v, rfl, hb, hlv, hov, e0⟩ := (S6.out.keep HBR.out).get hlt
          have hsv : S[i]? = some v := by rw [HSS.out, List.getElem?_map, hlv]; rfl
          obtain ⟨v1, v2, v3, v4⟩ := F5.out i v hsv
          have hvl := hov.len
          have X := Lib.hid (X6.out.keep HBR.out)
          have kt := fun (wx : World) (hx : Below wr.heap.size wr wx) => impl_TrafficIn (b := (B : Int)) ((HI6.out.keep HBR.out).keep hx) (hov.ints.keep hx) (by omega) (by omega)
          rw [trB, trL, if_pos v1, if_pos v1, v1, HI6.out.len] at kt
          have KT := Lib.hid kt
          have ks := fun (wx : World) (a' : Option Addr) (n' c' : Nat) (hx : Ints wx a' n' c' (v.take n1)) => impl_IsSafeTraffic (B := B) hx v2
          rw [v3, ← HM3.out] at ks
          have KS := Lib.hid ks
          have x0 := X.out.cell 0
          have x1 := X.out.cell 1
          have xl := X.out.lt
          simp at x0 x1
          clear hlv hov hsv v1 v2 v3 v4 hvl kt ks
          go_wp2_with fail
          refine wp_region_noPanic ?_
          refine wp_region_M (L := 11) (S := fun wx => Below wr.heap.size wr wx) (by kernel_rfl) ?_ (fun hHeld => ?_)
          · exact (Below.refl _ _).drew
          refine wpAnyM_take (i := 0) (v := ?_) (by simp only [List.getElem?_toArray, List.getElem?_cons_succ, List.getElem?_cons_zero] <;> rfl) (by kernel_rfl) (by kernel_rfl) (by kernel_rfl) (by kernel_rfl) (by kernel_rfl) (fun _ _ _ h => h) (Or.inl ⟨by rfl, ?_⟩) (by assumption) ?_
          rotate_left
          · (intro wv hSw; (try dsimp only at hSw); obtain ⟨hcq, _⟩ := bcell hSw; have hsq := Below.size hSw; have p0 := (hcq _ _ xl).trans x0; have p1 := (hcq _ _ xl).trans x1; have pl := Nat.lt_of_lt_of_le xl hsq; go_simp; try with_reducible rfl)
          try simp only [Act.put, List.setIfInBounds_toArray, List.set_cons_zero, List.set_cons_succ]
          refine wpAnyM_take (i := 1) (v := ?_) (by simp only [List.getElem?_toArray, List.getElem?_cons_succ, List.getElem?_cons_zero] <;> rfl) (by kernel_rfl) (by kernel_rfl) (by kernel_rfl) (by kernel_rfl) (by kernel_rfl) (fun _ _ _ h => h) (Or.inl ⟨by rfl, ?_⟩) (by assumption) ?_
          rotate_left
          · (intro wv hSw; (try dsimp only at hSw); obtain ⟨hcq, _⟩ := bcell hSw; have hsq := Below.size hSw; go_simp; try with_reducible rfl)
          try simp only [Act.put, List.setIfInBounds_toArray, List.set_cons_zero, List.set_cons_succ]
          refine wpAnyM_take (i := 2) (v := ?_) (by simp only [List.getElem?_toArray, List.getElem?_cons_succ, List.getElem?_cons_zero] <;> rfl) (by kernel_rfl) (by kernel_rfl) (by kernel_rfl) (by kernel_rfl) (by kernel_rfl) (fun _ _ _ h => h) (Or.inl ⟨by rfl, ?_⟩) (by assumption) ?_
          rotate_left
          · (intro wv hSw; (try dsimp only at hSw); obtain ⟨hcq, _⟩ := bcell hSw; have hsq := Below.size hSw; go_simp; try with_reducible rfl)
          try simp only [Act.put, List.setIfInBounds_toArray, List.set_cons_zero, List.set_cons_succ]
          refine wpAnyM_take (i := 3) (v := ?_) (by simp only [List.getElem?_toArray, List.getElem?_cons_succ, List.getElem?_cons_zero] <;> rfl) (by kernel_rfl) (by kernel_rfl) (by kernel_rfl) (by kernel_rfl) (by kernel_rfl) (fun _ _ _ h => h) (Or.inl ⟨by rfl, ?_⟩) (by assumption) ?_
          rotate_left
          · (intro wv hSw; (try dsimp only at hSw); obtain ⟨hcq, _⟩ := bcell hSw; have hsq := Below.size hSw; go_simp; try with_reducible rfl)
          try simp only [Act.put, List.setIfInBounds_toArray, List.set_cons_zero, List.set_cons_succ]
          refine wpAnyM_take (i := 4) (v := ?_) (by simp only [List.getElem?_toArray, List.getElem?_cons_succ, List.getElem?_cons_zero] <;> rfl) (by kernel_rfl) (by kernel_rfl) (by kernel_rfl) (by kernel_rfl) (by kernel_rfl) (fun _ _ _ h => h) (Or.inl ⟨by rfl, ?_⟩) (by assumption) ?_
          rotate_left
          · (intro wv hSw; (try dsimp only at hSw); obtain ⟨hcq, _⟩ := bcell hSw; have hsq := Below.size hSw; have p0 := (hcq _ _ hb).trans e0; have pl := Nat.lt_of_lt_of_le hb hsq; go_simp; try with_reducible rfl)
          try simp only [Act.put, List.setIfInBounds_toArray, List.set_cons_zero, List.set_cons_succ]
          refine wpAnyM_ready (rs := [5, 9]) (by kernel_rfl) (by simp) ?_
          refine AllReadyM.cons rfl (fun K hK => ?_) (AllReadyM.cons rfl (fun K hK => ?_) AllReadyM.nil)
          · go_simp
            refine Calls.mono (KT.out _ (Below.refl _ _).drew) ?_
            rintro e w7 ⟨n7, a7, c7, rfl, hb7, ho7⟩
            have hb8 : Below wr.heap.size wr w7 := below_callS ((Below.refl _ _).drew) hb7
            have O7 := Lib.hid ho7
            have hs8 := hb8.size
            clear hb7 ho7
            go_wp2_with fail
            refine hK.out _ _ hb8 (fun hHeld => ?_)
            clear hK K
            try simp only [Act.put, List.setIfInBounds_toArray, List.set_cons_zero, List.set_cons_succ]
            refine wpAnyM_take (i := 6) (v := ?_) (by simp only [List.getElem?_toArray, List.getElem?_cons_succ, List.getElem?_cons_zero] <;> rfl) (by kernel_rfl) (by kernel_rfl) (by kernel_rfl) (by kernel_rfl) (by kernel_rfl) (fun _ _ _ h => h) (Or.inl ⟨by rfl, ?_⟩) (by assumption) ?_
            rotate_left
            · (intro wv hSw; (try dsimp only at hSw); obtain ⟨hcq, _⟩ := bcell hSw; have hsq := Below.size hSw; go_simp; try with_reducible rfl)
            try simp only [Act.put, List.setIfInBounds_toArray, List.set_cons_zero, List.set_cons_succ]
            refine wpAnyM_take (i := 7) (v := ?_) (by simp only [List.getElem?_toArray, List.getElem?_cons_succ, List.getElem?_cons_zero] <;> rfl) (by kernel_rfl) (by kernel_rfl) (by kernel_rfl) (by kernel_rfl) (by kernel_rfl) (fun _ _ _ h => h) (Or.inl ⟨by rfl, ?_⟩) (by assumption) ?_
            rotate_left
            · (intro wv hSw; (try dsimp only at hSw); obtain ⟨hcq, _⟩ := bcell hSw; have hsq := Below.size hSw; go_simp; try with_reducible rfl)
            try simp only [Act.put, List.setIfInBounds_toArray, List.set_cons_zero, List.set_cons_succ]
            refine wpAnyM_take (i := 8) (v := ?_) (by simp only [List.getElem?_toArray, List.getElem?_cons_succ, List.getElem?_cons_zero] <;> rfl) (by kernel_rfl) (by kernel_rfl) (by kernel_rfl) (by kernel_rfl) (by kernel_rfl) (fun _ _ _ h => h) (Or.inl ⟨by rfl, ?_⟩) (by assumption) ?_
            rotate_left
            · (intro wv hSw; (try dsimp only at hSw); obtain ⟨hcq, _⟩ := bcell hSw; have hsq := Below.size hSw; go_simp; try with_reducible rfl)
            try simp only [Act.put, List.setIfInBounds_toArray, List.set_cons_zero, List.set_cons_succ]
            refine wpAnyM_ready (rs := [9]) (by kernel_rfl) (by simp) ?_
            refine AllReadyM.cons rfl (fun K hK => ?_) AllReadyM.nil
            go_simp
            have Y := Lib.hid (Blk.made w7 #[.int .i64 0, .slice none 0 0] 28)
            have hbA : Below w7.heap.size w7 (w7.alloc (.cells #[.int .i64 0, .slice none 0 0] 28)) := by repeat (first | exact Below.refl _ _ | assumption | refine below_allocS ?_ _ | refine below_callS ?_ (by assumption) | (refine Below.alloc ?_ (by first | omega | (simp; done) | (simp; omega)) _) | (refine Below.setCell ?_ (by first | omega | (simp; done) | (simp; omega)) _) | refine Below.drew ?_ | refine below_drewN ?_ _ | (refine below_call ?_ (by assumption) (by first | omega | (simp; done) | (simp; omega))) | (refine Below.trans ?_ (by assumption)))
            refine hK.out _ _ (below_callS hb8 hbA) (fun hHeld => ?_)
            clear hK K
            try simp only [Act.put, List.setIfInBounds_toArray, List.set_cons_zero, List.set_cons_succ]
            have y0 := Y.out.cell 0
            have y1 := Y.out.cell 1
            have yl := Y.out.lt
            have yf := Y.out.free
            simp at y0 y1
            refine wpAnyM_ready (rs := [10]) (by kernel_rfl) (by simp) ?_
            refine AllReadyM.cons rfl (fun K hK => ?_) AllReadyM.nil
            go_simp
            have Y8 := Lib.hid (Blk.made w7 #[.int .i64 (B : Int), .slice a7 n7 c7] 28)
            have hb78 : Below w7.heap.size w7 (w7.alloc (.cells #[.int .i64 (B : Int), .slice a7 n7 c7] 28)) := by repeat (first | exact Below.refl _ _ | assumption | refine below_allocS ?_ _ | refine below_callS ?_ (by assumption) | (refine Below.alloc ?_ (by first | omega | (simp; done) | (simp; omega)) _) | (refine Below.setCell ?_ (by first | omega | (simp; done) | (simp; omega)) _) | refine Below.drew ?_ | refine below_drewN ?_ _ | (refine below_call ?_ (by assumption) (by first | omega | (simp; done) | (simp; omega))) | (refine Below.trans ?_ (by assumption)))
            refine hK.out _ _ (below_callS hb8 hb78) (fun hHeld => ?_)
            clear hK K
            try simp only [Act.put, List.setIfInBounds_toArray, List.set_cons_zero, List.set_cons_succ]
            obtain ⟨w8, hw8⟩ : ∃ w8, w8 = (w7.alloc (.cells #[.int .i64 (B : Int), .slice a7 n7 c7] 28)) := ⟨_, rfl⟩
            rw [← hw8] at Y8 hb78 hHeld ⊢
            clear hw8 y0 y1 yl yf hbA
            have O8 := Lib.hid (O7.out.keep hb78).ints
            have HB8 := Lib.hid (below_callS hb8 hb78)
            clear hb8 hb78 O7 Y
            refine wpAnyM_ready (rs := [11]) (by kernel_rfl) (by simp) ?_
            refine AllReadyM.last rfl (fun K hK => ?_)
            go_simp
            refine hK.out _ _ ?_
            clear hK K
            try simp only [Act.put, List.setIfInBounds_toArray, List.set_cons_zero, List.set_cons_succ]
            refine wpAnyM_done (by kernel_rfl) ?_ _
            refine NoPanic.normal ?_
            have y0 := Y8.out.cell 0
            have y1 := Y8.out.cell 1
            have yl := Y8.out.lt
            simp at y0 y1
            have hs8 := HB8.out.size
            clear x0 x1 xl hb e0 KT hHeld Y8
            by_cases hil : i < m3
            · have hil' : (i : Int) < (m3 : Int) := by omega
              rw [decide_eq_true hil] at KS
              go_wp2_with fail
              refine Calls.mono (KS.out _ _ _ _ O8.out) ?_
              rintro e w9 ⟨rfl, hb9⟩
              have HB9 := Lib.hid (below_call HBR.out (below_callS HB8.out hb9) hsr)
              have hs9 := hb9.size
              clear y0 y1 yl hb9
              go_wp2
              go_roundw
              case rel => exact ⟨i + 1, by go_num, by omega, by omega, HB9⟩
              case measure => simp [intOf]; omega
            · have hil' : ¬ (i : Int) < (m3 : Int) := by omega
              rw [decide_eq_false hil] at KS
              go_wp2_with fail
              refine Calls.mono (KS.out _ _ _ _ O8.out) ?_
              rintro e w9 ⟨rfl, hb9⟩
              have HB9 := Lib.hid (below_call HBR.out (below_callS HB8.out hb9) hsr)
              have hs9 := hb9.size
              clear y0 y1 yl hb9
              go_wp2
              go_roundw
              case rel => exact ⟨i + 1, by go_num, by omega, by omega, HB9⟩
              case measure => simp [intOf]; omega
          · go_simp
            have Y := Lib.hid (Blk.made wr.drew #[.int .i64 0, .slice none 0 0] 28)
            have hbA : Below wr.heap.size wr (wr.drew.alloc (.cells #[.int .i64 0, .slice none 0 0] 28)) := ((Below.refl _ _).drew).alloc (Nat.le_refl _) _
            refine hK.out _ _ hbA (fun hHeld => ?_)
            clear hK K
            try simp only [Act.put, List.setIfInBounds_toArray, List.set_cons_zero, List.set_cons_succ]
            refine wpAnyM_ready (rs := [5]) (by kernel_rfl) (by simp) ?_
            refine AllReadyM.cons rfl (fun K hK => ?_) AllReadyM.nil
            go_simp
            refine Calls.mono (KT.out _ hbA) ?_
            rintro e w7 ⟨n7, a7, c7, rfl, hb7, ho7⟩
            have hb8 : Below wr.heap.size wr w7 := below_callS hbA hb7
            have O7 := Lib.hid (ho7.le (show wr.heap.size + 1 ≤ _ from Y.out.lt))
            have Y7 : Hid (Blk w7 wr.heap.size #[.int .i64 0, .slice none 0 0] 28) := Lib.hid (Y.out.keep hb7)
            have hs8 := hb8.size
            clear hb7 ho7 Y
            go_wp2_with fail
            refine hK.out _ _ hb8 (fun hHeld => ?_)
            clear hK K
            try simp only [Act.put, List.setIfInBounds_toArray, List.set_cons_zero, List.set_cons_succ]
            refine wpAnyM_take (i := 6) (v := ?_) (by simp only [List.getElem?_toArray, List.getElem?_cons_succ, List.getElem?_cons_zero] <;> rfl) (by kernel_rfl) (by kernel_rfl) (by kernel_rfl) (by kernel_rfl) (by kernel_rfl) (fun _ _ _ h => h) (Or.inl ⟨by rfl, ?_⟩) (by assumption) ?_
            rotate_left
            · (intro wv hSw; (try dsimp only at hSw); obtain ⟨hcq, _⟩ := bcell hSw; have hsq := Below.size hSw; go_simp; try with_reducible rfl)
            try simp only [Act.put, List.setIfInBounds_toArray, List.set_cons_zero, List.set_cons_succ]
            refine wpAnyM_take (i := 7) (v := ?_) (by simp only [List.getElem?_toArray, List.getElem?_cons_succ, List.getElem?_cons_zero] <;> rfl) (by kernel_rfl) (by kernel_rfl) (by kernel_rfl) (by kernel_rfl) (by kernel_rfl) (fun _ _ _ h => h) (Or.inl ⟨by rfl, ?_⟩) (by assumption) ?_
            rotate_left
            · (intro wv hSw; (try dsimp only at hSw); obtain ⟨hcq, _⟩ := bcell hSw; have hsq := Below.size hSw; go_simp; try with_reducible rfl)
            try simp only [Act.put, List.setIfInBounds_toArray, List.set_cons_zero, List.set_cons_succ]
            refine wpAnyM_take (i := 8) (v := ?_) (by simp only [List.getElem?_toArray, List.getElem?_cons_succ, List.getElem?_cons_zero] <;> rfl) (by kernel_rfl) (by kernel_rfl) (by kernel_rfl) (by kernel_rfl) (by kernel_rfl) (fun _ _ _ h => h) (Or.inl ⟨by rfl, ?_⟩) (by assumption) ?_
            rotate_left
            · (intro wv hSw; (try dsimp only at hSw); obtain ⟨hcq, _⟩ := bcell hSw; have hsq := Below.size hSw; go_simp; try with_reducible rfl)
            try simp only [Act.put, List.setIfInBounds_toArray, List.set_cons_zero, List.set_cons_succ]
            have y0 := Y7.out.cell 0
            have y1 := Y7.out.cell 1
            have yl := Y7.out.lt
            have yf := Y7.out.free
            simp at y0 y1
            refine wpAnyM_ready (rs := [10]) (by kernel_rfl) (by simp) ?_
            refine AllReadyM.cons rfl (fun K hK => ?_) AllReadyM.nil
            go_simp
            have Y8 := Lib.hid ((Y7.out.set 0 (.int .i64 (B : Int))).set 1 (.slice a7 n7 c7))
            have O8 := Lib.hid (O7.out.skip (Nat.lt_succ_self _) (.int .i64 (B : Int)) (.slice a7 n7 c7))
            have HB8 := Lib.hid ((hb8.setCell (p := ⟨wr.heap.size, 0, none⟩) (Nat.le_refl _) (.int .i64 (B : Int))).setCell (p := ⟨wr.heap.size, 1, none⟩) (Nat.le_refl _) (.slice a7 n7 c7))
            refine hK.out _ _ HB8.out (fun hHeld => ?_)
            clear hK K
            try simp only [Act.put, List.setIfInBounds_toArray, List.set_cons_zero, List.set_cons_succ]
            obtain ⟨w8, hw8⟩ : ∃ w8, w8 = ((w7.setCell ⟨wr.heap.size, 0, none⟩ (.int .i64 (B : Int))).setCell ⟨wr.heap.size, 1, none⟩ (.slice a7 n7 c7)) := ⟨_, rfl⟩
            rw [← hw8] at Y8 O8 HB8 hHeld ⊢
            clear hw8 y0 y1 yl yf hbA hb8 O7 Y7
            refine wpAnyM_ready (rs := [11]) (by kernel_rfl) (by simp) ?_
            refine AllReadyM.last rfl (fun K hK => ?_)
            go_simp
            refine hK.out _ _ ?_
            clear hK K
            try simp only [Act.put, List.setIfInBounds_toArray, List.set_cons_zero, List.set_cons_succ]
            refine wpAnyM_done (by kernel_rfl) ?_ _
            refine NoPanic.normal ?_
            have y0 := Y8.out.cell 0
            have y1 := Y8.out.cell 1
            have yl := Y8.out.lt
            simp at y0 y1
            have hs8 := HB8.out.size
            clear x0 x1 xl hb e0 KT hHeld Y8
            by_cases hil : i < m3
            · have hil' : (i : Int) < (m3 : Int) := by omega
              rw [decide_eq_true hil] at KS
              go_wp2_with fail
              refine Calls.mono (KS.out _ _ _ _ O8.out) ?_
              rintro e w9 ⟨rfl, hb9⟩
              have HB9 := Lib.hid (below_call HBR.out (below_callS HB8.out hb9) hsr)
              have hs9 := hb9.size
              clear y0 y1 yl hb9
              go_wp2
              go_roundw
              case rel => exact ⟨i + 1, by go_num, by omega, by omega, HB9⟩
              case measure => simp [intOf]; omega
            · have hil' : ¬ (i : Int) < (m3 : Int) := by omega
              rw [decide_eq_false hil] at KS
              go_wp2_with fail
              refine Calls.mono (KS.out _ _ _ _ O8.out) ?_
              rintro e w9 ⟨rfl, hb9⟩
              have HB9 := Lib.hid (below_call HBR.out (below_callS HB8.out hb9) hsr)
              have hs9 := hb9.size
              clear y0 y1 yl hb9
              go_wp2
              go_roundw
              case rel => exact ⟨i + 1, by go_num, by omega, by omega, HB9⟩
              case measure => simp [intOf]; omega
        · have hlt' : ¬ (i : Int) < (m3 : Int) + 1 := by omega
          have hbe := below_call HB6.out HBR.out hw16
          go_wp2
          go_ret
          exact ⟨rfl, hbe⟩
    · have hC' : (FC != 0) = true := by simpa using hC
      clear hC
      go_wp2
      go_ret
      exact ⟨rfl, by repeat (first | exact Below.refl _ _ | assumption | refine below_allocS ?_ _ | refine below_callS ?_ (by assumption) | (refine Below.alloc ?_ (by first | omega | (simp; done) | (simp; omega)) _) | (refine Below.setCell ?_ (by first | omega | (simp; done) | (simp; omega)) _) | refine Below.drew ?_ | refine below_drewN ?_ _ | (refine below_call ?_ (by assumption) (by first | omega | (simp; done) | (simp; omega))) | (refine Below.trans ?_ (by assumption)))⟩
  · go_enter Tryz.func6, Tryz.ntmps6
    go_wp2_with fail
    refine Calls.mono (laws_big_yes hn) ?_
    rintro e _ ⟨rfl, rfl⟩
    go_wp2
    go_ret
    exact ⟨rfl, by repeat (first | exact Below.refl _ _ | assumption | refine below_allocS ?_ _ | refine below_callS ?_ (by assumption) | (refine Below.alloc ?_ (by first | omega | (simp; done) | (simp; omega)) _) | (refine Below.setCell ?_ (by first | omega | (simp; done) | (simp; omega)) _) | refine Below.drew ?_ | refine below_drewN ?_ _ | (refine below_call ?_ (by assumption) (by first | omega | (simp; done) | (simp; omega))) | (refine Below.trans ?_ (by assumption)))⟩
end Go.Proofs.YtfnamjkmkoldeaaGreatDoor
