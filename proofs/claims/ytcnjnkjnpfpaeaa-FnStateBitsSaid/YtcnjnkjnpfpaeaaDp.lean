/- Draws of models, walked: one that is not small; a state of a model. -/
import Derived.Test.YtcnjnkjnpfpaeaaDn
namespace Go.Proofs.Ytcnjnkjnpfpaeaa
open Go.RowKit
set_option linter.unusedVariables false
set_option linter.unusedSimpArgs false
attribute [local go_sem ↓] Go.wp_at_zero Go.wp_at_succ
theorem set3_alloc {w : World} (o : Obj) {r : Nat} (v0 v1 v2 : Value) (h : r < w.heap.size) : (((w.alloc o).setCell ⟨r, 0, none⟩ v0).setCell ⟨r, 1, none⟩ v1).setCell ⟨r, 2, none⟩ v2 = (((w.setCell ⟨r, 0, none⟩ v0).setCell ⟨r, 1, none⟩ v1).setCell ⟨r, 2, none⟩ v2).alloc o := by
  rw [World.setCell_alloc_past _ _ _ _ h, World.setCell_alloc_past _ _ _ _ (by simpa [World.setCell] using h), World.setCell_alloc_past _ _ _ _ (by simpa [World.setCell] using h)]
set_option maxRecDepth 100000 in
set_option maxHeartbeats 8000000 in
theorem spec_l23Draw {b lo : Nat} {w0 w : World} (hD : Dw 55 lo b w0 w) :
    Calls Try.prog 17 #[.pointer (some ⟨b, 0, none⟩)] w (DrM lo b w) := by
  have hbl := hD.src.lt.2
  have HS := Lib.hid hD.start
  clear hD
  go_enter Try.func17, Try.ntmps17
  go_wp2_with fail
  obtain ⟨wA, hwA⟩ : ∃ v, v = w.alloc (.cells #[.slice none 0 0, .slice none 0 0, .slice none 0 0] 27) := ⟨_, rfl⟩
  have hbA : Below w.heap.size w wA := by rw [hwA]; exact below_alloc1 (Below.refl _ _) _
  have hsA : wA.heap.size = w.heap.size + 1 := by rw [hwA]; exact Array.size_push _
  have X0 := Lib.hid (show Blk wA w.heap.size #[.slice none 0 0, .slice none 0 0, .slice none 0 0] 27 by rw [hwA]; exact Blk.made w _ _)
  have D0 := Lib.hid (HS.out.below hbA)
  rw [← hwA]
  clear hwA hbA HS
  refine Calls.mono (dw_next (b := b) (lo := lo) D0.out.src (by decide)) ?_
  rintro e w1 ⟨y, rfl, hy0, hy1, hd⟩
  have hs1 := hd.size
  have D1 := Lib.hid (D0.out.trans hd)
  have X1 := Lib.hid (X0.out.dw hd (by omega))
  clear hd D0 X0 hy1
  by_cases hy : y = 0
  · subst hy
    go_wp2_with fail
    refine Calls.mono (dw_next (b := b) (lo := lo) D1.out.src (by decide)) ?_
    rintro e w2 ⟨r, rfl, hr0, hr1, hd⟩
    have hr2 : r < 2 := by omega
    have hs2 := hd.size
    have D2 := Lib.hid (D1.out.trans hd)
    have X2 := Lib.hid (X1.out.dw hd (by omega))
    have er : IntKind.i64.wrap (2 + r) = 2 + r := IntWalk.i64_in _ (by omega)
    clear hd D1 X1 hr1
    have x0 := X2.out.cell 0
    have x1 := X2.out.cell 1
    have x2 := X2.out.cell 2
    have xl := X2.out.lt
    have xf := X2.out.free
    simp only [List.getElem?_toArray, List.getElem?_cons_zero, List.getElem?_cons_succ] at x0 x1 x2
    have hbZ : Below w2.heap.size w2 ((w2.alloc (.cells #[.int .i64 32, .int .i64 32, .int .i64 32, .int .i64 16, .int .i64 (2 + r)] 2)).alloc (.cells #[.int .i64 0, .int .i64 0, .int .i64 0, .int .i64 0, .int .i64 0] 2)) := below_alloc1 (below_alloc1 (Below.refl _ _) _) _
    have hbA : ∀ (wx : World) (o : Obj), Below wx.heap.size wx (wx.alloc o) := fun wx o => below_alloc1 (Below.refl _ _) _
    have A := (own_litL (w := w2) (T := 2) (m := 5) (base := w.heap.size + 1) [32, 32, 32, 16, 2 + r] #[.int .i64 32, .int .i64 32, .int .i64 32, .int .i64 16, .int .i64 (2 + r)] (by omega) rfl (by decide) (fun x hx => by simp at hx; unfold I64; omega) rfl).keep (hbA _ (.cells #[.int .i64 0, .int .i64 0, .int .i64 0, .int .i64 0, .int .i64 0] 2))
    have Z := own_litL (w := (w2.alloc (.cells #[.int .i64 32, .int .i64 32, .int .i64 32, .int .i64 16, .int .i64 (2 + r)] 2))) (T := 2) (m := 5) (base := w.heap.size + 1) [0, 0, 0, 0, 0] #[.int .i64 0, .int .i64 0, .int .i64 0, .int .i64 0, .int .i64 0] (by simp; omega) rfl (by decide) (by decide) rfl
    have hM := (DrM.out (r := w.heap.size) (v0 := undef) (v1 := undef) (v2 := undef) (D2.out.below hbZ) A Z (RRow.nil _ _) (by omega) (Nat.le_refl _) (by decide) (by decide) (by decide) (by decide))
    rw [set3_alloc _ _ _ _ (by simp; omega), set3_alloc _ _ _ _ (by omega)] at hM
    have HM := Lib.hid hM
    clear hM A Z hbZ hbA
    go_wp2
    exact bodyPost_ret (v := .agg #[.slice (some ⟨w2.heap.size, 0, none⟩) 5 5, .slice (some ⟨w2.heap.size + 1, 0, none⟩) 5 5, .slice none 0 0]) (by simp [results, Try.results17, go_sem, *]) rfl (by simpa using HM.out)
  · have hy' : (y == 0) = false := by simpa using hy
    have x0 := X1.out.cell 0
    have x1 := X1.out.cell 1
    have x2 := X1.out.cell 2
    simp only [List.getElem?_toArray, List.getElem?_cons_zero, List.getElem?_cons_succ] at x0 x1 x2
    go_wp2_with fail
    refine Calls.mono (spec_l21Draw (b := b) (lo := lo) D1.out) ?_
    rintro e w2 ⟨sa, ta, ra, sn, sc, tn, tc, rn, rc, sz, st, l, rfl, hS, hT, hR, h1, h5, ht5, hr3, hd⟩
    have X2 := Lib.hid (X1.out.dw hd (by omega))
    have HM := Lib.hid (DrM.out (r := w.heap.size) (v0 := undef) (v1 := undef) (v2 := undef) (D1.out.trans hd) hS hT hR (by omega) (Nat.le_refl _) h1 h5 ht5 hr3)
    clear hS hT hR hd x0 x1 x2 D1 X1
    have x0 := X2.out.cell 0
    have x1 := X2.out.cell 1
    have x2 := X2.out.cell 2
    have xl := X2.out.lt
    have xf := X2.out.free
    simp only [List.getElem?_toArray, List.getElem?_cons_zero, List.getElem?_cons_succ] at x0 x1 x2
    go_wp2
    exact bodyPost_ret (v := .agg #[.slice sa sn sc, .slice ta tn tc, .slice ra rn rc]) (by simp [results, Try.results17, go_sem, *]) rfl HM.out
set_option maxRecDepth 100000 in
set_option maxHeartbeats 8000000 in
theorem spec_l20DrawState {b lo sn sc tn tc rn rc : Nat} {sa ta ra : Option Addr} {sz : List Int} {w0 w : World} (hD : Dw 55 lo b w0 w) (hI : Ints w sa sn sc sz) (hne : ∀ g off, sa = some ⟨g, off, none⟩ → g ≠ b) (hn : sn ≤ 1000) :
    Calls Try.prog 18 #[.pointer (some ⟨b, 0, none⟩), .agg #[.slice sa sn sc, .slice ta tn tc, .slice ra rn rc]] w fun e w' => ∃ (a : Option Addr) (n c : Nat) (l : List Int), e = .returned (.slice a n c) ∧ OwnI 2 w' w.heap.size a n c l ∧ n ≤ sn + 1 ∧ Dw 55 lo b w w' := by
  have hbl := hD.src.lt.2
  have HS := Lib.hid hD.start
  have HI := Lib.hid hI
  have HNE := Lib.hid hne
  have HLO := Lib.hid (show ∀ g off, sa = some ⟨g, off, none⟩ → g < w.heap.size ∨ sn = 0 from fun g off e => by
    rcases hI.pos with h | ⟨b', o', e', hlt, _⟩
    · exact .inr h
    · rw [e] at e'; simp only [Option.some.injEq, Addr.mk.injEq] at e'; omega)
  clear hD hI hne
  go_enter Try.func18, Try.ntmps18
  go_wp2_with fail
  obtain ⟨wA, hwA⟩ : ∃ v, v = (w.alloc (.cells #[.slice sa sn sc, .slice ta tn tc, .slice ra rn rc] 27)).alloc (.cells #[] 2) := ⟨_, rfl⟩
  have hbA : Below w.heap.size w wA := by rw [hwA]; exact below_alloc1 (below_alloc1 (Below.refl _ _) _) _
  have hsA : w.heap.size + 1 ≤ wA.heap.size := by rw [hwA]; simp
  have X0 := Lib.hid (show Blk wA w.heap.size #[.slice sa sn sc, .slice ta tn tc, .slice ra rn rc] 27 by rw [hwA]; exact (Blk.made w _ _).keep (below_alloc1 (Below.refl _ _) _))
  have O0 := Lib.hid (show OwnI 2 wA (w.heap.size + 1) (some ⟨w.heap.size + 1, 0, none⟩) 0 0 [] by
    rw [hwA]
    have h := own_litL (w := (w.alloc (.cells #[.slice sa sn sc, .slice ta tn tc, .slice ra rn rc] 27))) (T := 2) (m := 0) (base := w.heap.size + 1) [] #[] (by simp) rfl (by decide) (fun x hx => by cases hx) rfl
    simpa using h)
  have D0 := Lib.hid (HS.out.below hbA)
  have I0 := Lib.hid (HI.out.keep hbA)
  rw [← hwA]
  clear hwA hbA HS HI
  go_loopw [5, 6] (fun s5 s6 wr => ∃ (a : Option Addr) (n c : Nat) (L : List Int), s5 = .slice a n c ∧ s6 = .int .i64 (n : Int) ∧ n ≤ sn ∧ w.heap.size + 1 ≤ wr.heap.size ∧ Hid (Dw 55 lo b w wr) ∧ Hid (Blk wr w.heap.size #[.slice sa sn sc, .slice ta tn tc, .slice ra rn rc] 27) ∧ Hid (OwnI 2 wr (w.heap.size + 1) a n c L) ∧ Hid (Ints wr sa sn sc sz)) (fun _ s6 _ => sn - (intOf s6).toNat)
  case atStart => exact ⟨_, 0, 0, [], rfl, rfl, by omega, hsA, D0, X0, O0, I0⟩
  case round =>
    clear D0 X0 O0 I0
    obtain ⟨a, n, c, L, rfl, rfl, hns, hsr, HD, X, O, I⟩ := hrel
    have x0 := X.out.cell 0
    have x1 := X.out.cell 1
    have x2 := X.out.cell 2
    have xl := X.out.lt
    simp only [List.getElem?_toArray, List.getElem?_cons_zero, List.getElem?_cons_succ] at x0 x1 x2
    have hn64 : (sn : Int) ≤ 1000 := by omega
    have en : IntKind.i64.wrap ((n : Int) + 1) = (n : Int) + 1 := IntWalk.i64_in _ (by omega)
    by_cases hlt : n < sn
    · have hlt' : (n : Int) < (sn : Int) := by omega
      have hn0 : (0 : Int) ≤ (n : Int) := by omega
      obtain ⟨sb, so, z, rfl, hsb, hz, hzc, hz64⟩ := I.out.at hlt
      go_wp2_with fail
      refine Calls.mono (dw_next (b := b) (lo := lo) HD.out.src hz64) ?_
      rintro e w3 ⟨x, rfl, hx0, hx1, hd⟩
      have hxi : I64 x := by unfold I64 at hz64 ⊢; omega
      have hs3 := hd.size
      have D3 := Lib.hid (HD.out.trans hd)
      have X3 := Lib.hid (X.out.dw hd (by omega))
      have O3 := Lib.hid (O.out.dw hd (by omega))
      have I3 := Lib.hid (I.out.dw hd HNE.out)
      clear hd HD X O I x0 x1 x2 xl hx1 hzc hsb
      go_wp2_with (at_builtin; refine app1 (lo := lo) (b := b) (w0 := w) rfl _ _ rfl Try.underlying24 Try.infoi64 (w.heap.size + 1) _ _ _ _ O3.out rfl _ rfl rfl hxi (by omega) D3.out (by omega) (by omega) ?_; intro a4 c4 w4 ho4 hb4 hd4)
      have D4 := Lib.hid hd4
      have O4 := Lib.hid ho4
      have X4 := Lib.hid (X3.out.keepB hb4 (by omega))
      have hs4 := hb4.size
      have I4 := Lib.hid (I3.out.only (lo := w.heap.size + 1) (hi := w3.heap.size) ⟨hb4.os, hb4.tape, hb4.output, hb4.size, fun k hk hr => hb4.block k (by omega)⟩ (fun g off e => .inl (by rcases HLO.out g off e with h | h <;> omega)))
      clear hd4 ho4 hb4 D3 X3 O3 I3
      go_roundw
      case rel => exact ⟨a4, n + 1, c4, _, rfl, by go_num, by omega, by omega, D4, X4, O4, I4⟩
      case measure => simp [intOf]; omega
    · have hlt' : ¬ (n : Int) < (sn : Int) := by omega
      obtain rfl : n = sn := by omega
      go_wp2_with fail
      refine Calls.mono (dw_next (b := b) (lo := lo) HD.out.src (by decide)) ?_
      rintro e w3 ⟨y, rfl, hy0, hy1, hd⟩
      have hs3 := hd.size
      have D3 := Lib.hid (HD.out.trans hd)
      have X3 := Lib.hid (X.out.dw hd (by omega))
      have O3 := Lib.hid (O.out.dw hd (by omega))
      have I3 := Lib.hid (I.out.dw hd HNE.out)
      clear hd HD X O I x0 x1 x2 xl hy1
      by_cases y0 : y = 0
      · subst y0
        go_wp2_with (at_builtin; refine app1 (lo := lo) (b := b) (w0 := w) rfl _ _ rfl Try.underlying24 Try.infoi64 (w.heap.size + 1) _ _ _ _ O3.out rfl _ rfl rfl (by decide) (by omega) D3.out (by omega) (by omega) ?_; intro a4 c4 w4 ho4 hb4 hd4; refine Hid.out ?_)
        have D4 := Lib.hid hd4
        have O4 := Lib.hid ho4
        clear hd4 ho4 hb4 D3 X3 O3 I3
        refine Lib.hid ?_
        go_wp2
        go_ret
        exact ⟨_, n + 1, _, _, rfl, O4.out.le (Nat.le_succ _), by omega, D4.out⟩
      have y0' : (y == 0) = false := by simpa using y0
      by_cases y1 : y = 1
      · subst y1
        by_cases hn0 : 0 < n
        · have hn0' : (0 : Int) < (n : Int) := by omega
          obtain ⟨sb, so, z, rfl, hsb, hz, hzc, hz64⟩ := I3.out.at hn0
          simp only [Nat.add_zero] at hzc
          have x0 := X3.out.cell 0
          have x1 := X3.out.cell 1
          have x2 := X3.out.cell 2
          have xl := X3.out.lt
          simp only [List.getElem?_toArray, List.getElem?_cons_zero, List.getElem?_cons_succ] at x0 x1 x2
          obtain ⟨g, rfl⟩ := O3.out.shape hn0
          go_wp2_with fail
          have hbb : Below w3.heap.size w3 (w3.alloc (.cells #[.int .i64 (-1), .int .i64 z] 2)) := below_alloc1 (Below.refl _ _) _
          have LB := own_litL (w := w3) (T := 2) (m := 2) (base := w3.heap.size) [-1, z] #[.int .i64 (-1), .int .i64 z] (Nat.le_refl _) rfl (by decide) (fun x hx => by
            simp at hx
            rcases hx with rfl | rfl
            · exact ⟨by decide, by decide⟩
            · exact hz64) rfl
          have D4 := Lib.hid (D3.out.below hbb)
          have O4 := Lib.hid (O3.out.keep hbb)
          refine Calls.mono (dw_l01Pick D4.out LB.ints (by decide) (by decide) (fun g' off e => by simp at e; omega)) ?_
          rintro e w4 ⟨q, rfl, hqm, hqi, hd⟩
          have D5 := Lib.hid (D4.out.trans hd)
          have O5 := Lib.hid (O4.out.dw hd (by omega))
          clear hd D4 O4 LB hbb x0 x1 x2 xl hzc hsb D3 X3 O3 I3 hqm
          obtain ⟨z1, hz1, hz1i, hz1c⟩ := O5.out.cell hn0
          have hof := O5.out.free 0
          have hol := (O5.out.blk g rfl)
          go_wp2
          go_ret
          exact ⟨_, n, _, _, rfl, (O5.out.set 0 hqi).le (Nat.le_succ _), by omega, D5.out.set (by omega) 0 _⟩
        · have hn0' : ¬ (0 : Int) < (n : Int) := by omega
          go_wp2
          go_ret
          exact ⟨_, n, _, _, rfl, O3.out.le (Nat.le_succ _), by omega, D3.out⟩
      have y1' : (y == 1) = false := by simpa using y1
      go_wp2
      go_ret
      exact ⟨_, n, _, _, rfl, O3.out.le (Nat.le_succ _), by omega, D3.out⟩
end Go.Proofs.Ytcnjnkjnpfpaeaa
