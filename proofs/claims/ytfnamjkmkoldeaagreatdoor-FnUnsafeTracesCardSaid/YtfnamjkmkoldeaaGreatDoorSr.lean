/- The reference's first unsafe trace, walked. -/
import Derived.Test.YtfnamjkmkoldeaaGreatDoorQh
import Derived.Test.YtfnamjkmkoldeaaGreatDoorQi
import Derived.Test.YtfnamjkmkoldeaaGreatDoorQp
namespace Go.Proofs.YtfnamjkmkoldeaaGreatDoor
open Go.RowKit
set_option linter.unusedVariables false
set_option linter.unusedSimpArgs false
/-- the search of the reference, for a ride model -/
def SsRet (w : World) (b : Int) (l : List Int) (bud : Int) (sec : Bool) (P : World → Nat → List SN → Prop) (e : Ending) (w' : World) : Prop :=
  Below w.heap.size w w' ∧ (rsC b l bud sec ≠ 0 → e = .returned (.tuple #[.pointer none, .int .i64 (rsC b l bud sec)])) ∧
  (rsC b l bud sec = 0 → ∃ p L, e = .returned (.tuple #[.pointer (some ⟨p, 0, none⟩), .int .i64 0]) ∧ P w' p L ∧ rsR b l bud sec = some L ∧ SNs (rmSz b l bud) L)
theorem SpSt.le {w : World} {lo lo' b m : Nat} {L : List SN} {ov : Bool} (h : SpSt w lo b m L ov) (hl : lo' ≤ lo) : SpSt w lo' b m L ov := by
  obtain ⟨oa, oc, ta, tc, ka, kc, l1, l2, l3, h1, h2, h3, h4, h5, h6⟩ := h
  exact ⟨oa, oc, ta, tc, ka, kc, l1, l2, l3, h1, by omega, h3.le hl hl, h4.le hl hl, h5.le hl hl, h6⟩
set_option maxHeartbeats 4000000 in
theorem spec_l24Search {b bud : Int} {a : Option Addr} {n c : Nat} {l : List Int} {sec : Bool} {w : World} (hI : Ints w a n c l) (hn : n ≤ 1048576) :
    Calls Tryz.prog 41 #[.agg #[.int .i64 b, .slice a n c], .int .i64 bud, .bool sec] w (SsRet w b l bud sec fun w' p L => SpSt w' w.heap.size p (rmSz b l bud).length L false) := by
  have K1 := Lib.hid (fun (wx : World) (hb : Below w.heap.size w wx) => spec_l24Code (b := b) (bud := bud) (hI.keep hb) hn)
  have X := Lib.hid (Blk.made w #[.int .i64 b, .slice a n c] 28)
  have hbA : Below w.heap.size w (w.alloc (.cells #[.int .i64 b, .slice a n c] 28)) := by repeat (first | exact Below.refl _ _ | assumption | refine below_allocS ?_ _ | refine below_callS ?_ (by assumption) | (refine Below.alloc ?_ (by first | omega | (simp; done) | (simp; omega)) _) | (refine Below.setCell ?_ (by first | omega | (simp; done) | (simp; omega)) _) | refine Below.drew ?_ | refine below_drewN ?_ _ | (refine below_call ?_ (by assumption) (by first | omega | (simp; done) | (simp; omega))) | (refine Below.trans ?_ (by assumption)))
  by_cases h0 : rdC b l bud = 0
  · have HRM := Lib.hid (fun (L : List (RM × RuD)) (hL : L.map (·.2) = rmRs b l bud sec) => rd_model (b := b) (bud := bud) (l := l) (sec := sec) h0 hL)
    obtain ⟨e1, e2, e3⟩ := ride_gives (sec := sec) h0
    have HC3 := Lib.hid (fun (hr : rsR b l bud sec = none) => (show rsC b l bud sec = 3 by rw [rsC, if_pos h0, hr]))
    have HC4 := Lib.hid (fun (L : List SN) (hr : rsR b l bud sec = some L) => (show rsC b l bud sec = 0 by rw [rsC, if_pos h0, hr]))
    obtain ⟨g1, g2, g3, g4, g5, g6⟩ := rdC_ok h0
    have hnl := hI.len
    obtain ⟨B, rfl⟩ := Int.eq_ofNat_of_zero_le (show 0 ≤ b by omega)
    obtain ⟨bu, rfl⟩ := Int.eq_ofNat_of_zero_le g5
    rw [Int.toNat_natCast, Int.toNat_natCast, hnl] at e1 e3
    rw [Int.toNat_natCast, Int.toNat_natCast] at e2
    have K2 := Lib.hid (fun (wx : World) (hb : Below w.heap.size w wx) => spec_l24Model (B := B) (bud := bu) (sec := sec) (hI.keep hb) (by omega) (by omega) (by omega) (by omega))
    rw [← e1, ← e2, ← e3] at K2
    rw [h0] at K1
    clear hI e1 e2 e3
    go_enter Tryz.func41, Tryz.ntmps41
    go_wp2_with fail
    refine Calls.mono (K1.out _ hbA) ?_
    rintro e w1 ⟨rfl, hb1⟩
    have X1 := Lib.hid (X.out.keep hb1)
    have hb2 : Below w.heap.size w w1 := by repeat (first | exact Below.refl _ _ | assumption | refine below_allocS ?_ _ | refine below_callS ?_ (by assumption) | (refine Below.alloc ?_ (by first | omega | (simp; done) | (simp; omega)) _) | (refine Below.setCell ?_ (by first | omega | (simp; done) | (simp; omega)) _) | refine Below.drew ?_ | refine below_drewN ?_ _ | (refine below_call ?_ (by assumption) (by first | omega | (simp; done) | (simp; omega))) | (refine Below.trans ?_ (by assumption)))
    have x0 := X1.out.cell 0
    have x1 := X1.out.cell 1
    have xl := X1.out.lt
    simp at x0 x1
    clear hb1 hbA X
    go_wp2_with fail
    refine Calls.mono (K2.out _ hb2) ?_
    rintro e w3 ⟨a1, n1, c1, a2, n2, c2, a3, n3, c3, rfl, hM, hb3⟩
    have HM := Lib.hid hM.rd
    have hb4 : Below w.heap.size w w3 := below_call hb2 hb3 hb2.size
    clear hM hb3 x0 x1 xl X1
    obtain ⟨LR, hF, hLR⟩ := HM.out.r
    obtain ⟨q1, q2, q3, q4, q5, q6⟩ := model_gives (HRM.out LR hLR)
    have htl : n2 ≤ 16 := by rw [← HM.out.t.len, q2.1]; exact q4
    have hrl := hF.len
    have hgn : ∀ x ∈ LR, x.1.gn ≤ 1048576 ∧ x.1.en ≤ 1048576 := fun x hx => by
      have h := hF.wf x hx
      exact ⟨h.2.2.2.1, h.2.2.2.2.2⟩
    have K3 := Lib.hid (spec_l21Run (sa := a1) (sn := n1) (sc := c1) (w0 := w3) (w := w3) (Below.refl _ _) hF (by omega) HM.out.t (by omega) q2 q3 hgn)
    rw [hLR] at K3
    clear hF q1 q2 q3 q4 q5 q6 htl hrl hgn hLR HRM
    go_wp2_with fail
    refine Calls.mono K3.out ?_
    rintro e w5 ⟨p, L', ov, rfl, hS, hb5, hbf, hns⟩
    have hb6 : Below w.heap.size w w5 := below_call hb4 hb5 hb4.size
    have S5 := Lib.hid hS
    obtain ⟨oa, oc, ta, tc, ka, kc, l1, l2, hB, _⟩ := hS.blk
    have c3 := hB.cell 3
    have zl := hB.lt
    simp at c3
    cases ov with
    | true =>
      have HR := Lib.hid (show rsR (B : Int) l (bu : Int) sec = none by rw [rsR, hbf]; rfl)
      have HCC := Lib.hid (HC3.out HR.out)
      clear hS hb5 hbf hns hB
      go_wp2
      go_ret2
      exact ⟨hb6, fun _ => by rw [HCC.out]; rfl, fun e => by rw [HCC.out] at e; cases e⟩
    | false =>
      have HR := Lib.hid (show rsR (B : Int) l (bu : Int) sec = some L' by rw [rsR, hbf]; rfl)
      have HCC := Lib.hid (HC4.out L' HR.out)
      have HNS := Lib.hid hns
      clear hS hb5 hbf hns hB
      go_wp2
      go_ret2
      refine ⟨hb6, fun e => absurd HCC.out e, fun _ => ⟨p, L', by rfl, ?_, HR.out, HNS.out⟩⟩
      exact S5.out.le hb4.size
  · have HC := Lib.hid (show rsC b l bud sec = rdC b l bud by rw [rsC, if_neg h0])
    have hc0 : (rdC b l bud != 0) = true := by simpa using h0
    clear hI
    go_enter Tryz.func41, Tryz.ntmps41
    go_wp2_with fail
    refine Calls.mono (K1.out _ hbA) ?_
    rintro e w1 ⟨rfl, hb1⟩
    have hb2 : Below w.heap.size w w1 := by repeat (first | exact Below.refl _ _ | assumption | refine below_allocS ?_ _ | refine below_callS ?_ (by assumption) | (refine Below.alloc ?_ (by first | omega | (simp; done) | (simp; omega)) _) | (refine Below.setCell ?_ (by first | omega | (simp; done) | (simp; omega)) _) | refine Below.drew ?_ | refine below_drewN ?_ _ | (refine below_call ?_ (by assumption) (by first | omega | (simp; done) | (simp; omega))) | (refine Below.trans ?_ (by assumption)))
    go_wp2
    go_ret2
    exact ⟨hb2, fun _ => by rw [HC.out]; rfl, fun e => absurd (HC.out.symm.trans e) h0⟩
set_option maxHeartbeats 4000000 in
theorem spec_FirstUnsafeTrace {b bud : Int} {a : Option Addr} {n c : Nat} {l : List Int} {sec : Bool} {w : World} (hI : Ints w a n c l) (hn : n ≤ 1048576) :
    Calls Tryz.prog 21 #[.agg #[.int .i64 b, .slice a n c], .int .i64 bud, .bool sec] w (FuRet 2 w (fuL b l bud sec) (fuC b l bud sec)) := by
  have K1 := Lib.hid (fun (wx : World) (hb : Below w.heap.size w wx) => spec_l24Search (b := b) (bud := bud) (sec := sec) (hI.keep hb) hn)
  have X := Lib.hid (Blk.made w #[.int .i64 b, .slice a n c] 28)
  have hbA : Below w.heap.size w (w.alloc (.cells #[.int .i64 b, .slice a n c] 28)) := by repeat (first | exact Below.refl _ _ | assumption | refine below_allocS ?_ _ | refine below_callS ?_ (by assumption) | (refine Below.alloc ?_ (by first | omega | (simp; done) | (simp; omega)) _) | (refine Below.setCell ?_ (by first | omega | (simp; done) | (simp; omega)) _) | refine Below.drew ?_ | refine below_drewN ?_ _ | (refine below_call ?_ (by assumption) (by first | omega | (simp; done) | (simp; omega))) | (refine Below.trans ?_ (by assumption)))
  have hnl := hI.len
  clear hI
  by_cases h0 : rsC b l bud sec = 0
  · obtain ⟨g1, g2, g3, g4, g5, g6⟩ := rdC_ok (rsC_zero h0)
    have hsz := (ride_gives (sec := sec) (rsC_zero h0)).1
    obtain ⟨B, rfl⟩ := Int.eq_ofNat_of_zero_le (show 0 ≤ b by omega)
    rw [Int.toNat_natCast] at hsz
    have HSZ := Lib.hid hsz
    have H0 := Lib.hid h0
    have HNL := Lib.hid hnl
    clear hsz hnl
    go_enter Tryz.func21, Tryz.ntmps21
    go_wp2_with fail
    refine Calls.mono (K1.out _ hbA) ?_
    rintro e w1 ⟨hb1, _, he⟩
    obtain ⟨p, L, rfl, hS, hR, hns⟩ := he h0
    have X1 := Lib.hid (X.out.keep hb1)
    have S1 := Lib.hid (hS.le (show w.heap.size ≤ _ by simp))
    have HR := Lib.hid hR
    have NS := Lib.hid hns
    have HB1 := Lib.hid (show Below w.heap.size w w1 by repeat (first | exact Below.refl _ _ | assumption | refine below_allocS ?_ _ | refine below_callS ?_ (by assumption) | (refine Below.alloc ?_ (by first | omega | (simp; done) | (simp; omega)) _) | (refine Below.setCell ?_ (by first | omega | (simp; done) | (simp; omega)) _) | refine Below.drew ?_ | refine below_drewN ?_ _ | (refine below_call ?_ (by assumption) (by first | omega | (simp; done) | (simp; omega))) | (refine Below.trans ?_ (by assumption))))
    have hs1 := hb1.size
    simp at hs1
    clear hb1 he hS hR hns hbA X h0
    go_wp2_with fail
    go_loopw [10] (fun s10 wr => ∃ j : Nat, s10 = .int .i64 j ∧ j ≤ L.length ∧ w.heap.size + 1 ≤ wr.heap.size ∧ Hid (Below w.heap.size w wr) ∧ Hid (Blk wr w.heap.size #[.int .i64 (B : Int), .slice a n c] 28) ∧ Hid (SpSt wr w.heap.size p (rmSz (B : Int) l bud).length L false) ∧ Hid ((L.take j).any (fun x => unsN B n x.v) = false)) (fun s10 _ => L.length - (intOf s10).toNat)
    case atStart => exact ⟨0, rfl, by omega, hs1, HB1, X1, S1, Lib.hid (by simp)⟩
    case round =>
      clear HB1 X1 S1 hs1
      obtain ⟨j, rfl, hj, hsr, HB, X, SS, A⟩ := hrel
      obtain ⟨oa, oc, ta', tc', ka, kc, lo', lt, hBlk, hO, hTr, he1, he2⟩ := SS.out.blk
      obtain ⟨m, hm⟩ : ∃ m : Nat, L.length = m := ⟨_, rfl⟩
      have HM := Lib.hid hm
      rw [hm] at hBlk hO hTr hj
      have hm4 : m ≤ 4000 := by rw [← hm]; exact (rs_sns (rsC_zero H0.out) HR.out).2
      clear hm
      have c0 := hBlk.cell 0
      have c1 := hBlk.cell 1
      have zl := hBlk.lt
      simp at c0 c1
      by_cases hlt : j < m
      · have hlt' : (j : Int) < (m : Int) := by omega
        have hj0 : (0 : Int) ≤ (j : Int) := by omega
        obtain ⟨bo, oo, R, v, rfl, hbo, hlv, hov, co⟩ := hO.get hlt
        obtain ⟨bt, ot, R', tr, rfl, hbt, hltr, hot, ct⟩ := hTr.get hlt
        obtain ⟨y, hy⟩ : ∃ y, L[j]? = some y := ⟨_, List.getElem?_eq_getElem (by rw [HM.out]; exact hlt)⟩
        have hyv : y.v = v := by
          have h : (lo'.map (·.2))[j]? = some v := by rw [List.getElem?_map, hlv]; rfl
          rw [he1, List.getElem?_map, hy] at h; simpa using h
        have hyt : y.tr = tr := by
          have h : (lt.map (·.2))[j]? = some tr := by rw [List.getElem?_map, hltr]; rfl
          rw [he2, List.getElem?_map, hy] at h; simpa using h
        subst hyv hyt
        have HY := Lib.hid hy
        have OV := Lib.hid hov
        have OT := Lib.hid hot
        have m0 := X.out.cell 0
        have m1 := X.out.cell 1
        have ml := X.out.lt
        simp at m0 m1
        have hSV : SV (rideSz l.length B bud.toNat) y.v := by rw [← HSZ.out]; exact NS.out.sv y (List.mem_of_getElem? hy)
        obtain ⟨t1, t2, t3⟩ := sv_traf (by omega) (by omega) g3 g4 hSV
        rw [HNL.out] at t1 t2
        have hvl : y.v.length = R.n := OV.out.ints.len
        have hRn : R.n ≤ 1048576 := by rw [← hvl, hSV.1, sz_len]; omega
        have hnR : n ≤ R.n := by omega
        have hRt : R'.n ≤ 4000 := by
          have h := tr_len NS.out j y hy
          rw [← OT.out.ints.len]
          have h2 := (rs_sns (rsC_zero H0.out) HR.out).2
          rw [HM.out] at h2; omega
        have KT := Lib.hid (fun (wx : World) (hx : Below wr.heap.size wr wx) => spec_l24Traffic (b := (B : Int)) (a := a) (c := c) (OV.out.ints.keep hx) hnR hRn)
        have KS := Lib.hid (fun (wx : World) (a' : Option Addr) (n' c' lo : Nat) (hx : OwnI 2 wx lo a' n' c' (y.v.take n)) => spec_IsSafeTraffic (B := B) hx.ints t1)
        have hbr : Below wr.heap.size wr wr := Below.refl _ _
        clear hBlk hO hTr he1 he2 hlv hov hltr hot hy hSV t1 t2 t3 hvl
        cases hu : unsN B n y.v with
        | true =>
          have HU := Lib.hid hu
          have hsf : safeN B (y.v.take n) = false := by rw [unsN] at hu; simpa using hu
          rw [hsf] at KS
          have hf := fu_hit (sec := sec) H0.out HR.out (by rw [Int.toNat_natCast, HNL.out]; exact find_hit HY.out hu A.out)
          have HF := Lib.hid hf
          have HBR := Lib.hid (And.intro c1 (And.intro zl (And.intro hbt ct)))
          clear hu hsf hf
          go_wp2_with fail
          go_region_held3 (fun wx => wx.cell? ⟨w.heap.size, 0, none⟩ = some (.int .i64 (B : Int)) ∧ wx.cell? ⟨w.heap.size, 1, none⟩ = some (.slice a n c) ∧ wx.cell? ⟨p, 0, none⟩ = some (.slice (some ⟨bo, oo, none⟩) m oc) ∧ wx.cell? ⟨bo, oo + j, none⟩ = some (.slice R.a R.n R.c) ∧ w.heap.size < wx.heap.size ∧ p < wx.heap.size ∧ bo < wx.heap.size ∧ Below wr.heap.size wr wx) (((try go_split_ands); (repeat' apply And.intro) <;> first | (with_reducible assumption) | (with_reducible exact cell_drew (by with_reducible assumption)) | (with_reducible exact lt_drew (by with_reducible assumption)) | (with_reducible exact Below.drew (by with_reducible assumption)) | (with_reducible exact (hcx _ _ (by with_reducible assumption)).trans (by with_reducible assumption)) | (with_reducible exact Nat.lt_of_lt_of_le (by with_reducible assumption) hsx) | (with_reducible exact below_callS (by with_reducible assumption) hbx) | omega)) (first | (go_at_call 43; go_split_ands; refine Calls.mono (KT.out _ (by assumption)) ?_; rintro e w6 ⟨n6, a6, c6, rfl, hbx, ho6⟩; have HTR := Lib.hid ho6; obtain ⟨hcx, hfx⟩ := bcell hbx; have hsx := hbx.size) | (go_at_call 42; go_split_ands; refine Calls.mono (KS.out _ _ _ _ _ HTR.out) ?_; rintro e w7 ⟨rfl, hbx⟩; obtain ⟨hcx, hfx⟩ := bcell hbx; have hsx := hbx.size))
          have hb7 : Below wr.heap.size wr w7 := by go_split_ands; assumption
          obtain ⟨hc7, _⟩ := bcell hb7
          have p1 := (hc7 _ _ HBR.out.2.1).trans HBR.out.1
          have pt := (hc7 _ _ HBR.out.2.2.1).trans HBR.out.2.2.2
          have pl := Nat.lt_of_lt_of_le HBR.out.2.1 hb7.size
          have ptl := Nat.lt_of_lt_of_le HBR.out.2.2.1 hb7.size
          have OT7 := Lib.hid (OT.out.keep hb7)
          have HB7 := Lib.hid (below_call HB.out hb7 HB.out.size)
          clear hb7 hc7 hbx hcx hfx hsx hbr KT KS HTR ho6 c0 c1 zl hbt ct m0 m1 ml co hbo
          go_split_ands
          go_wp2_with fail
          refine Calls.mono (spec_l01Own0 OT7.out.ints (by omega)) ?_
          rintro e w8 ⟨a8, c8, rfl, hb8, ho8⟩
          have HO8 := Lib.hid ho8
          have HB8 := Lib.hid (below_call HB7.out hb8 HB7.out.size)
          have hs7 := HB7.out.size
          clear ho8 hb8
          go_wp2
          go_ret2
          exact ⟨_, _, _, by rw [HF.out.2]; rfl, HB8.out, by rw [HF.out.1]; exact HO8.out.le hs7⟩
        | false =>
          have HU := Lib.hid hu
          have hsf : safeN B (y.v.take n) = true := by rw [unsN] at hu; simpa using hu
          rw [hsf] at KS
          clear hu hsf
          go_wp2_with fail
          go_region_held3 (fun wx => wx.cell? ⟨w.heap.size, 0, none⟩ = some (.int .i64 (B : Int)) ∧ wx.cell? ⟨w.heap.size, 1, none⟩ = some (.slice a n c) ∧ wx.cell? ⟨p, 0, none⟩ = some (.slice (some ⟨bo, oo, none⟩) m oc) ∧ wx.cell? ⟨bo, oo + j, none⟩ = some (.slice R.a R.n R.c) ∧ w.heap.size < wx.heap.size ∧ p < wx.heap.size ∧ bo < wx.heap.size ∧ Below wr.heap.size wr wx) (((try go_split_ands); (repeat' apply And.intro) <;> first | (with_reducible assumption) | (with_reducible exact cell_drew (by with_reducible assumption)) | (with_reducible exact lt_drew (by with_reducible assumption)) | (with_reducible exact Below.drew (by with_reducible assumption)) | (with_reducible exact (hcx _ _ (by with_reducible assumption)).trans (by with_reducible assumption)) | (with_reducible exact Nat.lt_of_lt_of_le (by with_reducible assumption) hsx) | (with_reducible exact below_callS (by with_reducible assumption) hbx) | omega)) (first | (go_at_call 43; go_split_ands; refine Calls.mono (KT.out _ (by assumption)) ?_; rintro e w6 ⟨n6, a6, c6, rfl, hbx, ho6⟩; have HTR := Lib.hid ho6; obtain ⟨hcx, hfx⟩ := bcell hbx; have hsx := hbx.size) | (go_at_call 42; go_split_ands; refine Calls.mono (KS.out _ _ _ _ _ HTR.out) ?_; rintro e w7 ⟨rfl, hbx⟩; obtain ⟨hcx, hfx⟩ := bcell hbx; have hsx := hbx.size))
          have hb7 : Below wr.heap.size wr w7 := by go_split_ands; assumption
          have hs7 := hb7.size
          have SS7 := Lib.hid (SS.out.keep hb7)
          have X7 := Lib.hid (X.out.keep hb7)
          have HB7 := Lib.hid (below_call HB.out hb7 HB.out.size)
          have HA7 := Lib.hid (any_take_step HY.out A.out HU.out)
          clear hb7 hbx hcx hfx hsx hbr KT KS HTR ho6 c0 c1 zl hbt ct m0 m1 ml co hbo
          go_split_ands
          go_wp2_with fail
          go_roundw
          case rel => exact ⟨j + 1, by go_num, by rw [HM.out]; omega, by omega, HB7, X7, SS7, HA7⟩
          case measure => simp [intOf]; rw [HM.out]; omega
      · have hlt' : ¬ (j : Int) < (m : Int) := by omega
        have hany : L.any (fun x => unsN B n x.v) = false := by
          have h := A.out
          rw [List.take_of_length_le (by rw [HM.out]; omega)] at h; exact h
        have hf := fu_miss (sec := sec) H0.out HR.out (by rw [Int.toNat_natCast, HNL.out]; exact find_miss hany)
        have HF := Lib.hid hf
        clear hBlk hO hTr he1 he2 hany hf
        go_wp2
        go_ret2
        exact ⟨0, none, 0, by rw [HF.out.2]; rfl, HB.out, by rw [HF.out.1]; exact OwnI.nil _ _ _⟩
  · have HF := Lib.hid (fu_bad h0)
    have hc0 : (rsC b l bud sec != 0) = true := by simpa using h0
    go_enter Tryz.func21, Tryz.ntmps21
    go_wp2_with fail
    refine Calls.mono (K1.out _ hbA) ?_
    rintro e w1 ⟨hb1, he, _⟩
    have he := he h0
    subst he
    have hb2 : Below w.heap.size w w1 := by repeat (first | exact Below.refl _ _ | assumption | refine below_allocS ?_ _ | refine below_callS ?_ (by assumption) | (refine Below.alloc ?_ (by first | omega | (simp; done) | (simp; omega)) _) | (refine Below.setCell ?_ (by first | omega | (simp; done) | (simp; omega)) _) | refine Below.drew ?_ | refine below_drewN ?_ _ | (refine below_call ?_ (by assumption) (by first | omega | (simp; done) | (simp; omega))) | (refine Below.trans ?_ (by assumption)))
    go_wp2
    go_ret2
    exact ⟨0, none, 0, by rw [HF.out.2]; rfl, hb2, by rw [HF.out.1]; exact OwnI.nil _ _ _⟩
end Go.Proofs.YtfnamjkmkoldeaaGreatDoor
