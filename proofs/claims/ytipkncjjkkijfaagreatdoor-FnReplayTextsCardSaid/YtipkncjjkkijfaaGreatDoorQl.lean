/- The law FnReplayTexts: a replay is recovered from its text. -/
import Derived.Test.YtipkncjjkkijfaaGreatDoorZ4
import Derived.Test.YtipkncjjkkijfaaGreatDoorZ3
import Derived.Test.YtipkncjjkkijfaaGreatDoorPv
import Derived.Test.YtipkncjjkkijfaaGreatDoorPj
import Derived.Test.YtipkncjjkkijfaaGreatDoorZ1
namespace Go.Proofs.YtipkncjjkkijfaaGreatDoor
open Go.RowKit
set_option linter.unusedVariables false
set_option linter.unusedSimpArgs false
theorem rp_text {b : Int} {l : List Int} {s : ByteArray} (h : rrB b l s = true) : rpT b l (rrL b l s) = s := by
  rw [rrB] at h
  obtain ⟨L, hL⟩ := Option.isSome_iff_exists.1 h
  obtain ⟨h1, h2⟩ := rr_text hL
  rw [rrL, hL, Option.getD_some, rpT, if_pos h1, h2, Array.toArray_toList]
theorem rp_back {b : Int} {l : List Int} {L : List I3} (h : rpT b l L ≠ ⟨#[]⟩) : rrB b l (rpT b l L) = true ∧ rrL b l (rpT b l L) = L := by
  by_cases h1 : rpC b l L = 0
  · have e : (rpT b l L).data.toList = txL L := by rw [rpT, if_pos h1]
    have h2 := rr_back h1
    rw [← e] at h2
    exact ⟨by rw [rrB, h2]; rfl, by rw [rrL, h2]; rfl⟩
  · exact absurd (by rw [rpT, if_neg h1]) h
theorem rp_size {b : Int} {l : List Int} {L : List I3} (h : L.length ≤ 201) : (rpT b l L).size ≤ 10000 := by
  rw [rpT]
  split
  · have := txL_len L
    show (txL L).toArray.size ≤ _
    rw [List.size_toArray]; omega
  · show 0 ≤ _; omega
/-- what the test of two events reads -/
def QlS (w0 : World) (px b o : Nat) (v0 v1 x y z : Value) (w : World) : Prop := w.cell? ⟨px, 0, none⟩ = some v0 ∧ w.cell? ⟨px, 1, none⟩ = some v1 ∧ w.cell? ⟨b, o, none⟩ = some x ∧ w.cell? ⟨b, o + 1, none⟩ = some y ∧ w.cell? ⟨b, o + 2, none⟩ = some z ∧ px < w.heap.size ∧ b < w.heap.size ∧ Below w0.heap.size w0 w
theorem QlS.keep {w0 w w' : World} {px b o : Nat} {v0 v1 x y z : Value} (h : QlS w0 px b o v0 v1 x y z w) (hb : Below w.heap.size w w') : QlS w0 px b o v0 v1 x y z w' := by
  obtain ⟨h1, h2, h3, h4, h5, h6, h7, h8⟩ := h
  obtain ⟨hc, _⟩ := bcell hb
  exact ⟨(hc _ _ h6).trans h1, (hc _ _ h6).trans h2, (hc _ _ h7).trans h3, (hc _ _ h7).trans h4, (hc _ _ h7).trans h5, Nat.lt_of_lt_of_le h6 hb.size, Nat.lt_of_lt_of_le h7 hb.size, below_callS h8 hb⟩
theorem F3.dr {w : World} {a : Option Addr} {n c : Nat} {l : List I3} (h : F3 w a n c l) (k : Nat) : F3 (w.drewN k) a n c l := ⟨h.len, h.cap, h.pos, h.wf, h.nil⟩
set_option maxRecDepth 100000 in
set_option maxHeartbeats 4000000 in
theorem law_FnReplayTexts {a : Option Addr} {n c : Nat} {w : World} (hT : Tab w 0 (strsCells statusNm)) (hL : LV w) (hM : MLc w) (hB : Byts w a n c) : Calls Tryz.prog 3 #[.slice a n c] w fun e w' => e = .returned (.bool true) ∧ Below w.heap.size w w' := by
  have HB := Lib.hid hB
  have HT := Lib.hid hT
  have HLV := Lib.hid hL
  have HM := Lib.hid hM
  clear hB hT hL hM
  by_cases hn : n ≤ 4096
  · go_enter Tryz.func3, Tryz.ntmps3
    go_wp2_with fail
    refine Calls.mono (laws_big_no hn) ?_
    rintro e _ ⟨rfl, rfl⟩
    go_wp2_with fail
    refine Calls.mono (spec_DrawReplayText HB.out hn) ?_
    rintro e w1 ⟨B, a1, am, n1, c1, m, mc, l, evs, rfl, hI, hn1, hE, hm, hb1⟩
    have hev := hE.len
    obtain ⟨w2, hw2⟩ : ∃ v, v = w1.alloc (.cells #[.int .i64 B, .slice a1 n1 c1] 26) := ⟨_, rfl⟩
    have hb2 : Below w1.heap.size w1 w2 := by rw [hw2]; exact below_alloc1 (Below.refl _ _) _
    have X := Lib.hid (show Blk w2 w1.heap.size #[.int .i64 B, .slice a1 n1 c1] 26 by rw [hw2]; exact Blk.made w1 _ _)
    have W := Lib.hid (below_callS hb1 hb2)
    have I := Lib.hid (hI.keep hb2)
    have E := Lib.hid (hE.keep hb2)
    obtain ⟨px, hpx⟩ : ∃ v, v = w1.heap.size := ⟨_, rfl⟩
    rw [← hpx] at X
    go_upto_region 4 with fail
    rw [← hw2, ← hpx]
    clear hw2 hb2 hb1 hI hE hpx
    have x0 := X.out.cell 0
    have x1 := X.out.cell 1
    have xl := X.out.lt
    simp only [List.getElem?_toArray, List.getElem?_cons_zero, List.getElem?_cons_succ] at x0 x1
    obtain ⟨S, hS⟩ : ∃ v, v = rpT B l evs := ⟨_, rfl⟩
    have hSz : S.size ≤ 10000 := by rw [hS]; exact rp_size (by omega)
    have HBK := Lib.hid (show S ≠ ⟨#[]⟩ → rrB B l S = true ∧ rrL B l S = evs by rw [hS]; exact rp_back)
    have KI := Lib.hid (fun (wx : World) (hb : Below w2.heap.size w2 wx) => impl_ReplayText (b := B) (HT.out.keep (below_callS W.out hb)) (I.out.keep hb) (E.out.keep hb) (by omega) (by omega))
    have KS := Lib.hid (fun (wx : World) (hb : Below w2.heap.size w2 wx) => spec_ReplayText (b := B) (I.out.keep hb) (E.out.keep hb) (by omega) (by omega))
    simp only [← hS] at KI KS
    have KE := Lib.hid (fun (wx : World) (x y z : Int) (hb : Below w2.heap.size w2 wx) => impl_IsReplayEvent (b := B) (x := x) (y := y) (z := z) (I.out.keep hb) (by omega))
    have KF := Lib.hid (fun (wx : World) (x y z : Int) (hb : Below w2.heap.size w2 wx) => spec_IsReplayEvent (b := B) (x := x) (y := y) (z := z) (I.out.keep hb) (by omega))
    have KR := Lib.hid (fun (wx : World) (hb : Below w2.heap.size w2 wx) => impl_ReadReplay_r (b := B) (s := S) (HT.out.keep (below_callS W.out hb)) (HLV.out.keep (below_callS W.out hb)) (HM.out.keep (below_callS W.out hb)) (I.out.keep hb) (by omega) (by omega))
    clear hS
    go_wp2_with fail
    refine Calls.mono (KI.out _ (Below.refl _ _)) ?_
    rintro e w3 ⟨rfl, hb3⟩
    have V3 := Lib.hid hb3
    replace X := Lib.hid (X.out.keep hb3)
    have hs3 := hb3.size
    clear hb3 x0 x1 xl KI
    go_wp2_with fail
    refine Calls.mono (spec_DrawReadReplay (HB.out.keep (below_callS W.out V3.out)) hn) ?_
    rintro e w4 ⟨B2, a2, n2, c2, l2, s2, rfl, hI2, hn2, hz2, hb4⟩
    obtain ⟨w5, hw5⟩ : ∃ v, v = w4.alloc (.cells #[.int .i64 B2, .slice a2 n2 c2] 26) := ⟨_, rfl⟩
    have hb5 : Below w4.heap.size w4 w5 := by rw [hw5]; exact below_alloc1 (Below.refl _ _) _
    have Y := Lib.hid (show Blk w5 w4.heap.size #[.int .i64 B2, .slice a2 n2 c2] 26 by rw [hw5]; exact Blk.made w4 _ _)
    have J := Lib.hid (hI2.keep hb5)
    have V5 := Lib.hid (below_callS (below_callS V3.out hb4) hb5)
    replace X := Lib.hid ((X.out.keep hb4).keep hb5)
    obtain ⟨py, hpy⟩ : ∃ v, v = w4.heap.size := ⟨_, rfl⟩
    rw [← hpy] at Y
    go_upto_region 6 with fail
    rw [← hw5, ← hpy]
    clear hw5 hb5 hb4 hI2 hpy V3 hs3
    have KA := Lib.hid (fun (wx : World) (hb : Below w5.heap.size w5 wx) => impl_ReadReplay_r (b := B2) (s := s2) (HT.out.keep (below_callS W.out (below_callS V5.out hb))) (HLV.out.keep (below_callS W.out (below_callS V5.out hb))) (HM.out.keep (below_callS W.out (below_callS V5.out hb))) (J.out.keep hb) (by omega) (by omega))
    have KB := Lib.hid (fun (wx : World) (hb : Below w5.heap.size w5 wx) => spec_ReadReplay_r (b := B2) (s := s2) (J.out.keep hb) (by omega) (by omega))
    have KT := Lib.hid (fun (wx : World) (s : Option Addr) (m d : Nat) (evs : List I3) (hb : Below w5.heap.size w5 wx) (hE : F3 wx s m d evs) (hm : m ≤ 1048576) => impl_ReplayText (b := B2) (HT.out.keep (below_callS W.out (below_callS V5.out hb))) (J.out.keep hb) hE (by omega) hm)
    have HTX := Lib.hid (fun h => rp_text (b := B2) (l := l2) (s := s2) h)
    have hlen := rrL_len (b := B2) (l := l2) (s := s2)
    obtain ⟨O, hO⟩ : ∃ v, v = rrB B2 l2 s2 := ⟨_, rfl⟩
    obtain ⟨L, hL⟩ : ∃ v, v = rrL B2 l2 s2 := ⟨_, rfl⟩
    rw [← hO, ← hL] at KA KB HTX
    rw [← hL] at hlen
    clear hO hL
    have x0 := X.out.cell 0
    have x1 := X.out.cell 1
    have xl := X.out.lt
    have y0 := Y.out.cell 0
    have y1 := Y.out.cell 1
    have yl := Y.out.lt
    simp only [List.getElem?_toArray, List.getElem?_cons_zero, List.getElem?_cons_succ] at x0 x1 y0 y1
    go_wp2_with fail
    refine Calls.mono (KA.out _ (Below.refl _ _)) ?_
    rintro e w6 ⟨n6, a6, c6, rfl, hb6, ho6⟩
    have A6 := Lib.hid ho6.flats
    have hn6 : n6 ≤ 200 := by have := ho6.len; omega
    have U6 := Lib.hid hb6
    replace X := Lib.hid (X.out.keep hb6)
    replace Y := Lib.hid (Y.out.keep hb6)
    clear ho6 hb6 x0 x1 xl y0 y1 yl KA
    have y0 := Y.out.cell 0
    have y1 := Y.out.cell 1
    have yl := Y.out.lt
    simp only [List.getElem?_toArray, List.getElem?_cons_zero, List.getElem?_cons_succ] at y0 y1
    go_wp2_with fail
    refine Calls.mono (KB.out _ U6.out) ?_
    rintro e w7 ⟨n7, a7, c7, rfl, hb7, ho7⟩
    have A7 := Lib.hid (A6.out.keep hb7)
    have B7 := Lib.hid ho7.flats
    have U7 := Lib.hid (below_callS U6.out hb7)
    replace X := Lib.hid (X.out.keep hb7)
    replace Y := Lib.hid (Y.out.keep hb7)
    clear ho7 hb7 y0 y1 yl KB A6 U6
    have x0 := X.out.cell 0
    have x1 := X.out.cell 1
    have xl := X.out.lt
    have y0 := Y.out.cell 0
    have y1 := Y.out.cell 1
    have yl := Y.out.lt
    simp only [List.getElem?_toArray, List.getElem?_cons_zero, List.getElem?_cons_succ] at x0 x1 y0 y1
    clear x0 x1 xl y0 y1 yl
    go_upto_region 8 with fail
    go_cut [67] (fun s67 wz => s67 = .bool false ∧ Hid (Below w7.heap.size w7 wz))
    case first =>
      have x0 := X.out.cell 0
      have x1 := X.out.cell 1
      have xl := X.out.lt
      have y0 := Y.out.cell 0
      have y1 := Y.out.cell 1
      have yl := Y.out.lt
      simp only [List.getElem?_toArray, List.getElem?_cons_zero, List.getElem?_cons_succ] at x0 x1 y0 y1
      have q1 : (S.toList != S.toList) = false := by simp
      have q2 : (O != O) = false := by simp
      go_wp2_with fail
      refine Calls.mono (KS.out _ (below_callS V5.out U7.out)) ?_
      rintro e w8 ⟨rfl, hb8⟩
      have A8 := Lib.hid (A7.out.keep hb8)
      have B8 := Lib.hid (B7.out.keep hb8)
      have U8 := Lib.hid (below_callS U7.out hb8)
      have Y8 := Lib.hid (Y.out.keep hb8)
      have Z8 := Lib.hid hb8
      clear hb8 x0 x1 xl y0 y1 yl A7 B7 KS
      go_wp2_with fail
      refine Calls.mono (laws_likeEvents9 A8.out B8.out (by omega)) ?_
      rintro e w9 ⟨rfl, hb9⟩
      have A9 := Lib.hid (A8.out.keep hb9)
      have U9 := Lib.hid (below_callS U8.out hb9)
      have Y9 := Lib.hid (Y8.out.keep hb9)
      have Z9 := Lib.hid (below_callS Z8.out hb9)
      clear hb9 A8 B8 U8 Z8 Y8
      cases O
      · go_wp2_with fail
        go_meet
        exact ⟨rfl, Z9⟩
      · have q3 : (s2.toList != s2.toList) = false := by simp
        have y0 := Y9.out.cell 0
        have y1 := Y9.out.cell 1
        have yl := Y9.out.lt
        simp only [List.getElem?_toArray, List.getElem?_cons_zero, List.getElem?_cons_succ] at y0 y1
        have KT2 := KT.out _ _ _ _ _ U9.out A9.out (by omega)
        rw [HTX.out rfl] at KT2
        go_wp2_with fail
        refine Calls.mono KT2 ?_
        rintro e w10 ⟨rfl, hb10⟩
        go_wp2_with fail
        go_meet
        exact ⟨rfl, Lib.hid (below_callS Z9.out hb10)⟩
    case rest =>
      obtain ⟨rfl, HZ⟩ := hcut
      obtain ⟨wz, hwz⟩ : ∃ x : World, x = wc := ⟨_, rfl⟩
      subst hwz
      have UZ := Lib.hid (below_callS U7.out HZ.out)
      replace X := Lib.hid (X.out.keep HZ.out)
--T1
      have VZ := Lib.hid (below_callS V5.out UZ.out)
      have EZ := Lib.hid (E.out.keep VZ.out)
      have HKR := Lib.hid (fun (h : S ≠ ⟨#[]⟩) (wx : World) (hb : Below w2.heap.size w2 wx) => (by
        have k := KR.out wx hb
        rw [(HBK.out h).1, (HBK.out h).2] at k
        exact k : Calls Tryz.prog 8 #[.agg #[.int .i64 B, .slice a1 n1 c1], .string S] wx fun e w' => ∃ n' a' c', e = .returned (.tuple #[.slice a' n' c', .bool true]) ∧ Below wx.heap.size wx w' ∧ OwnF 3 I3.enc I3.ok 38 w' wx.heap.size a' n' c' evs))
      clear A7 B7 Y KT KS HTX E I J U7 UZ HZ V5 HT HLV HM HB
      go_wp2_with fail
      go_loopw [12] (fun s12 wr => ∃ k : Nat, s12 = .int .i64 k ∧ k ≤ m ∧ Below wz.heap.size wz wr) (fun s12 _ => m - (intOf s12).toNat)
      case atStart => exact ⟨0, rfl, by omega, Below.refl _ _⟩
      case round =>
        obtain ⟨k, rfl, hk, hbl⟩ := hrel
        have XR := Lib.hid (X.out.keep hbl)
        have x0 := XR.out.cell 0
        have x1 := XR.out.cell 1
        have xl := XR.out.lt
        simp only [List.getElem?_toArray, List.getElem?_cons_zero, List.getElem?_cons_succ] at x0 x1
        by_cases hlt : k < m
        · obtain ⟨b, off, x, rfl, hb, hx, hwf, hc0, hc1, hc2⟩ := F3.get (EZ.out.keep hbl) hlt
          have KE1 := Lib.hid (fun (wx : World) (hb : Below wr.heap.size wr wx) => KE.out wx x.a x.b x.c (below_callS VZ.out (below_callS hbl hb)))
          have KF1 := Lib.hid (fun (wx : World) (hb : Below wr.heap.size wr wx) => KF.out wx x.a x.b x.c (below_callS VZ.out (below_callS hbl hb)))
          generalize (trafB B l && eventB B n1 x.a x.b x.c) = v at *
          have qv : (v != v) = false := by simp
          have hlt' : (k : Int) < (m : Int) := by omega
          have hpos : (0 : Int) ≤ (k : Int) := by omega
          clear hx hwf XR KR HKR
          go_wp2_with fail
          refine wp_region_noPanic ?_
          refine wp_region_held_drew (S := QlS wr px b (off + k * 3) (.int .i64 B) (.slice a1 n1 c1) (.int .i64 x.a) (.int .i64 x.b) (.int .i64 x.c)) (by kernel_rfl) ?_ (fun hHeld => ?_)
          · exact ⟨x0, x1, hc0, hc1, hc2, xl, hb, (Below.refl _ _).drew⟩
          refine tkH0 0 (v := ?_) ?_ ?_
          rotate_left
          · (intro wv hSw; obtain ⟨h1, h2, h3, h4, h5, h6, h7, h8⟩ := hSw; go_simp; try with_reducible rfl)
          try simp only [Act.put, s1, s2, s3]
          refine tkH0 1 (v := ?_) ?_ ?_
          rotate_left
          · (intro wv hSw; clear hSw; go_simp; try with_reducible rfl)
          try simp only [Act.put, s1, s2, s3]
          refine tkH0 2 (v := ?_) ?_ ?_
          rotate_left
          · (intro wv hSw; clear hSw; go_simp; try with_reducible rfl)
          try simp only [Act.put, s1, s2, s3]
          refine tkH0 3 (v := ?_) ?_ ?_
          rotate_left
          · (intro wv hSw; clear hSw; go_simp; try with_reducible rfl)
          try simp only [Act.put, s1, s2, s3]
          refine tkH0 4 (v := ?_) ?_ ?_
          rotate_left
          · (intro wv hSw; obtain ⟨h1, h2, h3, h4, h5, h6, h7, h8⟩ := hSw; go_simp; try with_reducible rfl)
          try simp only [Act.put, s1, s2, s3]
          refine tkH0 6 (v := ?_) ?_ ?_
          rotate_left
          · (intro wv hSw; obtain ⟨h1, h2, h3, h4, h5, h6, h7, h8⟩ := hSw; go_simp; try with_reducible rfl)
          try simp only [Act.put, s1, s2, s3]
          refine tkH0 7 (v := ?_) ?_ ?_
          rotate_left
          · (intro wv hSw; clear hSw; go_simp; try with_reducible rfl)
          try simp only [Act.put, s1, s2, s3]
          refine tkH0 8 (v := ?_) ?_ ?_
          rotate_left
          · (intro wv hSw; clear hSw; go_simp; try with_reducible rfl)
          try simp only [Act.put, s1, s2, s3]
          refine tkH0 9 (v := ?_) ?_ ?_
          rotate_left
          · (intro wv hSw; clear hSw; go_simp; try with_reducible rfl)
          try simp only [Act.put, s1, s2, s3]
          refine tkH0 10 (v := ?_) ?_ ?_
          rotate_left
          · (intro wv hSw; obtain ⟨h1, h2, h3, h4, h5, h6, h7, h8⟩ := hSw; go_simp; try with_reducible rfl)
          try simp only [Act.put, s1, s2, s3]
          refine wpAnyH_ready (rs := [5]) (by kernel_rfl) (by simp) ?_
          refine AllReadyH.cons rfl (fun K hK => ?_) AllReadyH.nil
          go_simp
          refine Calls.mono (KE1.out _ hHeld.2.2.2.2.2.2.2) ?_
          rintro e wx5 ⟨rfl, hbx⟩
          go_wp2_with fail
          refine hK.out _ _ (hHeld.keep hbx) (fun hHeld => ?_)
          clear hK K hbx
          try simp only [Act.put, s1, s2, s3]
          refine wpAnyH_ready (rs := [11]) (by kernel_rfl) (by simp) ?_
          refine AllReadyH.cons rfl (fun K hK => ?_) AllReadyH.nil
          go_simp
          refine Calls.mono (KF1.out _ hHeld.2.2.2.2.2.2.2) ?_
          rintro e wx11 ⟨rfl, hbx⟩
          go_wp2_with fail
          refine hK.out _ _ (hHeld.keep hbx) (fun hHeld => ?_)
          clear hK K hbx
          try simp only [Act.put, s1, s2, s3]
          refine tkH0 12 (v := ?_) ?_ ?_
          rotate_left
          · (intro wv hSw; clear hSw; go_simp; try with_reducible rfl)
          try simp only [Act.put, s1, s2, s3]
          refine wpAnyH_done (by kernel_rfl) ?_ _
          refine NoPanic.normal ?_
          have hZ := Lib.hid hHeld.2.2.2.2.2.2.2
          clear hHeld
          go_wp2_with fail
          go_roundw
          case rel => exact ⟨k + 1, by go_num, by omega, below_callS hbl hZ.out⟩
          case measure => simp only [intOf]; omega
        · have hlt' : ¬ (k : Int) < (m : Int) := by omega
          by_cases hS : S = ⟨#[]⟩
          · subst hS
            have qs : ((⟨#[]⟩ : ByteArray).toList == ([] : List UInt8)) = true := by rw [ByteArray.toList_eq]; rfl
            go_wp2_with fail
            refine Calls.mono (KR.out _ (below_callS VZ.out hbl)) ?_
            rintro e wq ⟨n', a', c', rfl, hbq, hoq⟩
            clear hoq
            go_wp2
            go_ret
            exact ⟨rfl, below_callS W.out (below_callS VZ.out (below_callS hbl hbq))⟩
          · have qs : (S.toList == ([] : List UInt8)) = false := by
              rw [ByteArray.toList_eq, beq_eq_false_iff_ne]
              intro e
              exact hS (ByteArray.ext (Array.toList_inj.1 e))
            have qs2 : S.toList.isEmpty = false := by rw [← qs]; cases S.toList <;> rfl
            have KR2 := HKR.out hS _ (below_callS VZ.out hbl)
            go_wp2_with fail
            refine Calls.mono KR2 ?_
            rintro e wq ⟨n', a', c', rfl, hbq, hoq⟩
            have Q := Lib.hid hoq.flats
            have hnq := hoq.len
            have EQ := Lib.hid ((EZ.out.keep hbl).keep hbq)
            clear hoq KR2
            go_wp2_with fail
            refine Calls.mono (laws_likeEvents9 Q.out EQ.out (by omega)) ?_
            rintro e wv ⟨rfl, hbv⟩
            go_wp2
            go_ret
            exact ⟨rfl, below_callS W.out (below_callS VZ.out (below_callS hbl (below_callS hbq hbv)))⟩
--E1
  · go_enter Tryz.func3, Tryz.ntmps3
    go_wp2_with fail
    refine Calls.mono (laws_big_yes hn) ?_
    rintro e _ ⟨rfl, rfl⟩
    go_wp2
    go_ret
    exact ⟨rfl, Below.refl _ _⟩
end Go.Proofs.YtipkncjjkkijfaaGreatDoor
