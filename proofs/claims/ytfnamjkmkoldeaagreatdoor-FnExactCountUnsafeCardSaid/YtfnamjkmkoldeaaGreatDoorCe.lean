/- The reference's number of unsafe states, walked. -/
import Derived.Test.YtfnamjkmkoldeaaGreatDoorSr
import Derived.Test.YtfnamjkmkoldeaaGreatDoorCg
namespace Go.Proofs.YtfnamjkmkoldeaaGreatDoor
open Go.RowKit
set_option linter.unusedVariables false
set_option linter.unusedSimpArgs false
theorem count_step {α : Type} {p : α → Bool} {l : List α} {k : Nat} {x : α} (h : l[k]? = some x) : (l.take (k + 1)).countP p = (l.take k).countP p + if p x = true then 1 else 0 := by
  rw [take_at h, List.countP_append, List.countP_singleton]
set_option maxHeartbeats 4000000 in
theorem spec_CountUnsafe {b bud : Int} {a : Option Addr} {n c : Nat} {l : List Int} {sec : Bool} {w : World} (hI : Ints w a n c l) (hn : n ≤ 1048576) :
    Calls Tryz.prog 10 #[.agg #[.int .i64 b, .slice a n c], .int .i64 bud, .bool sec] w fun e w' => e = .returned (.tuple #[.int .i64 (cuN b l bud sec), .int .i64 (rsC b l bud sec)]) ∧ Below w.heap.size w w' := by
  have K1 := Lib.hid (fun (wx : World) (hb : Below w.heap.size w wx) => spec_l24Search (b := b) (bud := bud) (sec := sec) (hI.keep hb) hn)
  have X := Lib.hid (Blk.made w #[.int .i64 b, .slice a n c] 28)
  have hbA : Below w.heap.size w (w.alloc (.cells #[.int .i64 b, .slice a n c] 28)) := by repeat (first | exact Below.refl _ _ | assumption | refine below_allocS ?_ _ | refine below_callS ?_ (by assumption) | (refine Below.alloc ?_ (by first | omega | (simp; done) | (simp; omega)) _) | (refine Below.setCell ?_ (by first | omega | (simp; done) | (simp; omega)) _) | refine Below.drew ?_ | refine below_drewN ?_ _ | (refine below_call ?_ (by assumption) (by first | omega | (simp; done) | (simp; omega))) | (refine Below.trans ?_ (by assumption)))
  have hnl := hI.len
  clear hI
  by_cases h0 : rsC b l bud sec = 0
  · obtain ⟨g1, g2, g3, g4, g5, g6⟩ := rdC_ok (rsC_zero h0)
    have hsz := (ride_gives (sec := sec) (rsC_zero h0)).1
    obtain ⟨B, rfl⟩ := Int.eq_ofNat_of_zero_le (show 0 ≤ b by omega)
    rw [Int.toNat_natCast] at hsz
    have HSZ := Lib.hid hsz
    have H0 := Lib.hid h0
    have HNL := Lib.hid hnl
    clear hsz hnl
    go_enter Tryz.func10, Tryz.ntmps10
    go_wp2_with fail
    refine Calls.mono (K1.out _ hbA) ?_
    rintro e w1 ⟨hb1, _, he⟩
    obtain ⟨p, L, rfl, hS, hR, hns⟩ := he h0
    have X1 := Lib.hid (X.out.keep hb1)
    have S1 := Lib.hid (hS.le (show w.heap.size ≤ _ by simp))
    have HR := Lib.hid hR
    have NS := Lib.hid hns
    have HB1 := Lib.hid (show Below w.heap.size w w1 by repeat (first | exact Below.refl _ _ | assumption | refine below_allocS ?_ _ | refine below_callS ?_ (by assumption) | (refine Below.alloc ?_ (by first | omega | (simp; done) | (simp; omega)) _) | (refine Below.setCell ?_ (by first | omega | (simp; done) | (simp; omega)) _) | refine Below.drew ?_ | refine below_drewN ?_ _ | (refine below_call ?_ (by assumption) (by first | omega | (simp; done) | (simp; omega))) | (refine Below.trans ?_ (by assumption))))
    have hs1 := hb1.size
    simp at hs1
    clear hb1 he hS hR hns hbA X h0
    go_wp2_with fail
    go_loopw [10, 11] (fun s10 s11 wr => ∃ (j k : Nat), s11 = .int .i64 j ∧ s10 = .int .i64 k ∧ j ≤ L.length ∧ k ≤ j ∧ w.heap.size + 1 ≤ wr.heap.size ∧ Hid (Below w.heap.size w wr) ∧ Hid (Blk wr w.heap.size #[.int .i64 (B : Int), .slice a n c] 28) ∧ Hid (SpSt wr w.heap.size p (rmSz (B : Int) l bud).length L false) ∧ Hid ((L.take j).countP (fun x => unsN B n x.v) = k)) (fun _ s11 _ => L.length - (intOf s11).toNat)
    case atStart => exact ⟨0, 0, rfl, rfl, by omega, by omega, hs1, HB1, X1, S1, Lib.hid (by simp)⟩
    case round =>
      clear HB1 X1 S1 hs1
      obtain ⟨j, k, rfl, rfl, hj, hkj, hsr, HB, X, SS, A⟩ := hrel
      obtain ⟨oa, oc, ta', tc', ka, kc, lo', lt, hBlk, hO, hTr, he1, he2⟩ := SS.out.blk
      obtain ⟨m, hm⟩ : ∃ m : Nat, L.length = m := ⟨_, rfl⟩
      have HM := Lib.hid hm
      rw [hm] at hBlk hO hTr hj
      have hm4 : m ≤ 4000 := by rw [← hm]; exact (rs_sns (rsC_zero H0.out) HR.out).2
      clear hm
      have c0 := hBlk.cell 0
      have zl := hBlk.lt
      simp at c0
      by_cases hlt : j < m
      · have hlt' : (j : Int) < (m : Int) := by omega
        have hj0 : (0 : Int) ≤ (j : Int) := by omega
        obtain ⟨bo, oo, R, v, rfl, hbo, hlv, hov, co⟩ := hO.get hlt
        obtain ⟨y, hy⟩ : ∃ y, L[j]? = some y := ⟨_, List.getElem?_eq_getElem (by rw [HM.out]; exact hlt)⟩
        have hyv : y.v = v := by
          have h : (lo'.map (·.2))[j]? = some v := by rw [List.getElem?_map, hlv]; rfl
          rw [he1, List.getElem?_map, hy] at h; simpa using h
        subst hyv
        have HY := Lib.hid hy
        have OV := Lib.hid hov
        have m0 := X.out.cell 0
        have m1 := X.out.cell 1
        have ml := X.out.lt
        simp at m0 m1
        have hSV : SV (rideSz l.length B bud.toNat) y.v := by rw [← HSZ.out]; exact NS.out.sv y (List.mem_of_getElem? hy)
        obtain ⟨t1, t2, t3⟩ := sv_traf (by omega) (by omega) g3 g4 hSV
        rw [HNL.out] at t1 t2
        have hvl : y.v.length = R.n := OV.out.ints.len
        have hRn : R.n ≤ 1048576 := by rw [← hvl, hSV.1, sz_len]; omega
        have hnR : n ≤ R.n := by omega
        have KT := Lib.hid (fun (wx : World) (hx : Below wr.heap.size wr wx) => spec_l24Traffic (b := (B : Int)) (a := a) (c := c) (OV.out.ints.keep hx) hnR hRn)
        have KS := Lib.hid (fun (wx : World) (a' : Option Addr) (n' c' lo : Nat) (hx : OwnI 2 wx lo a' n' c' (y.v.take n)) => spec_IsSafeTraffic (B := B) hx.ints t1)
        have hbr : Below wr.heap.size wr wr := Below.refl _ _
        have HA7 := Lib.hid (count_step (p := fun x : SN => unsN B n x.v) HY.out)
        clear hBlk hO hTr he1 he2 hlv hov hy hSV t1 t2 t3 hvl
        cases hu : unsN B n y.v with
        | true =>
          have HU := Lib.hid hu
          have hsf : safeN B (y.v.take n) = false := by rw [unsN] at hu; simpa using hu
          rw [hsf] at KS
          clear hu hsf
          go_wp2_with fail
          go_region_held3 (fun wx => wx.cell? ⟨w.heap.size, 0, none⟩ = some (.int .i64 (B : Int)) ∧ wx.cell? ⟨w.heap.size, 1, none⟩ = some (.slice a n c) ∧ wx.cell? ⟨p, 0, none⟩ = some (.slice (some ⟨bo, oo, none⟩) m oc) ∧ wx.cell? ⟨bo, oo + j, none⟩ = some (.slice R.a R.n R.c) ∧ w.heap.size < wx.heap.size ∧ p < wx.heap.size ∧ bo < wx.heap.size ∧ Below wr.heap.size wr wx) (((try go_split_ands); (repeat' apply And.intro) <;> first | (with_reducible assumption) | (with_reducible exact cell_drew (by with_reducible assumption)) | (with_reducible exact lt_drew (by with_reducible assumption)) | (with_reducible exact Below.drew (by with_reducible assumption)) | (with_reducible exact (hcx _ _ (by with_reducible assumption)).trans (by with_reducible assumption)) | (with_reducible exact Nat.lt_of_lt_of_le (by with_reducible assumption) hsx) | (with_reducible exact below_callS (by with_reducible assumption) hbx) | omega)) (first | (go_at_call 43; go_split_ands; refine Calls.mono (KT.out _ (by assumption)) ?_; rintro e w6 ⟨n6, a6, c6, rfl, hbx, ho6⟩; have HTR := Lib.hid ho6; obtain ⟨hcx, hfx⟩ := bcell hbx; have hsx := hbx.size) | (go_at_call 42; go_split_ands; refine Calls.mono (KS.out _ _ _ _ _ HTR.out) ?_; rintro e w7 ⟨rfl, hbx⟩; obtain ⟨hcx, hfx⟩ := bcell hbx; have hsx := hbx.size))
          have hb7 : Below wr.heap.size wr w7 := by go_split_ands; assumption
          have hs7 := hb7.size
          have SS7 := Lib.hid (SS.out.keep hb7)
          have X7 := Lib.hid (X.out.keep hb7)
          have HB7 := Lib.hid (below_call HB.out hb7 HB.out.size)
          have HA8 := Lib.hid (show (L.take (j + 1)).countP (fun x => unsN B n x.v) = k + 1 by rw [HA7.out, A.out, HU.out]; rfl)
          clear hb7 hbx hcx hfx hsx hbr KT KS HTR ho6 c0 zl m0 m1 ml co hbo
          go_split_ands
          go_wp2_with fail
          go_roundw
          case rel => exact ⟨j + 1, k + 1, by go_num, by go_num, by rw [HM.out]; omega, by omega, by omega, HB7, X7, SS7, HA8⟩
          case measure => simp [intOf]; rw [HM.out]; omega
        | false =>
          have HU := Lib.hid hu
          have hsf : safeN B (y.v.take n) = true := by rw [unsN] at hu; simpa using hu
          rw [hsf] at KS
          clear hu hsf
          go_wp2_with fail
          go_region_held3 (fun wx => wx.cell? ⟨w.heap.size, 0, none⟩ = some (.int .i64 (B : Int)) ∧ wx.cell? ⟨w.heap.size, 1, none⟩ = some (.slice a n c) ∧ wx.cell? ⟨p, 0, none⟩ = some (.slice (some ⟨bo, oo, none⟩) m oc) ∧ wx.cell? ⟨bo, oo + j, none⟩ = some (.slice R.a R.n R.c) ∧ w.heap.size < wx.heap.size ∧ p < wx.heap.size ∧ bo < wx.heap.size ∧ Below wr.heap.size wr wx) (((try go_split_ands); (repeat' apply And.intro) <;> first | (with_reducible assumption) | (with_reducible exact cell_drew (by with_reducible assumption)) | (with_reducible exact lt_drew (by with_reducible assumption)) | (with_reducible exact Below.drew (by with_reducible assumption)) | (with_reducible exact (hcx _ _ (by with_reducible assumption)).trans (by with_reducible assumption)) | (with_reducible exact Nat.lt_of_lt_of_le (by with_reducible assumption) hsx) | (with_reducible exact below_callS (by with_reducible assumption) hbx) | omega)) (first | (go_at_call 43; go_split_ands; refine Calls.mono (KT.out _ (by assumption)) ?_; rintro e w6 ⟨n6, a6, c6, rfl, hbx, ho6⟩; have HTR := Lib.hid ho6; obtain ⟨hcx, hfx⟩ := bcell hbx; have hsx := hbx.size) | (go_at_call 42; go_split_ands; refine Calls.mono (KS.out _ _ _ _ _ HTR.out) ?_; rintro e w7 ⟨rfl, hbx⟩; obtain ⟨hcx, hfx⟩ := bcell hbx; have hsx := hbx.size))
          have hb7 : Below wr.heap.size wr w7 := by go_split_ands; assumption
          have hs7 := hb7.size
          have SS7 := Lib.hid (SS.out.keep hb7)
          have X7 := Lib.hid (X.out.keep hb7)
          have HB7 := Lib.hid (below_call HB.out hb7 HB.out.size)
          have HA8 := Lib.hid (show (L.take (j + 1)).countP (fun x => unsN B n x.v) = k by rw [HA7.out, A.out, HU.out]; rfl)
          clear hb7 hbx hcx hfx hsx hbr KT KS HTR ho6 c0 zl m0 m1 ml co hbo
          go_split_ands
          go_wp2_with fail
          go_roundw
          case rel => exact ⟨j + 1, k, by go_num, rfl, by rw [HM.out]; omega, by omega, by omega, HB7, X7, SS7, HA8⟩
          case measure => simp [intOf]; rw [HM.out]; omega
      · have hlt' : ¬ (j : Int) < (m : Int) := by omega
        have hcu : cuN (B : Int) l bud sec = (k : Int) := by
          have h := A.out
          rw [List.take_of_length_le (by rw [HM.out]; omega)] at h
          rw [cu_of H0.out HR.out, Int.toNat_natCast, HNL.out, h]
        have HF := Lib.hid hcu
        clear hBlk hO hTr he1 he2 hcu
        go_wp2
        go_ret2
        exact ⟨by rw [HF.out, H0.out]; rfl, HB.out⟩
  · have HF := Lib.hid (cu_bad h0)
    have hc0 : (rsC b l bud sec != 0) = true := by simpa using h0
    go_enter Tryz.func10, Tryz.ntmps10
    go_wp2_with fail
    refine Calls.mono (K1.out _ hbA) ?_
    rintro e w1 ⟨hb1, he, _⟩
    have he := he h0
    subst he
    have hb2 : Below w.heap.size w w1 := by repeat (first | exact Below.refl _ _ | assumption | refine below_allocS ?_ _ | refine below_callS ?_ (by assumption) | (refine Below.alloc ?_ (by first | omega | (simp; done) | (simp; omega)) _) | (refine Below.setCell ?_ (by first | omega | (simp; done) | (simp; omega)) _) | refine Below.drew ?_ | refine below_drewN ?_ _ | (refine below_call ?_ (by assumption) (by first | omega | (simp; done) | (simp; omega))) | (refine Below.trans ?_ (by assumption)))
    go_wp2
    go_ret2
    exact ⟨by rw [HF.out]; rfl, hb2⟩
set_option maxHeartbeats 1000000 in
theorem spec_IsRideSafe {b bud : Int} {a : Option Addr} {n c : Nat} {l : List Int} {sec : Bool} {w : World} (hI : Ints w a n c l) (hn : n ≤ 1048576) :
    Calls Tryz.prog 14 #[.agg #[.int .i64 b, .slice a n c], .int .i64 bud, .bool sec] w fun e w' => e = .returned (.tuple #[.bool (rsC b l bud sec == 0 && cuN b l bud sec == 0), .int .i64 (rsC b l bud sec)]) ∧ Below w.heap.size w w' := by
  have K1 := Lib.hid (fun (wx : World) (hb : Below w.heap.size w wx) => spec_CountUnsafe (b := b) (bud := bud) (sec := sec) (hI.keep hb) hn)
  have hbA : Below w.heap.size w (w.alloc (.cells #[.int .i64 b, .slice a n c] 28)) := by repeat (first | exact Below.refl _ _ | assumption | refine below_allocS ?_ _ | refine below_callS ?_ (by assumption) | (refine Below.alloc ?_ (by first | omega | (simp; done) | (simp; omega)) _) | (refine Below.setCell ?_ (by first | omega | (simp; done) | (simp; omega)) _) | refine Below.drew ?_ | refine below_drewN ?_ _ | (refine below_call ?_ (by assumption) (by first | omega | (simp; done) | (simp; omega))) | (refine Below.trans ?_ (by assumption)))
  clear hI
  generalize rsC b l bud sec = C at *
  generalize cuN b l bud sec = N at *
  cases hC : (C == 0) <;> cases hN : (N == 0)
  all_goals
    go_enter Tryz.func14, Tryz.ntmps14
    go_wp2_with fail
    refine Calls.mono (K1.out _ (by first | exact hbA | exact Below.refl _ _)) ?_
    rintro e w1 ⟨rfl, hb1⟩
    have hb2 : Below w.heap.size w w1 := by first | exact hb1 | exact below_callS hbA hb1
    go_wp2
    go_ret2
    exact ⟨rfl, hb2⟩
end Go.Proofs.YtfnamjkmkoldeaaGreatDoor
