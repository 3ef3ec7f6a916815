/- The draw of the law on a state of bits, walked. -/
import Derived.Test.YtcnjnkjnpfpaeaaDs
import Derived.Test.YtcnjnkjnpfpaeaaL20j
namespace Go.Proofs.Ytcnjnkjnpfpaeaa
open Go.RowKit
set_option linter.unusedVariables false
set_option linter.unusedSimpArgs false
attribute [local go_sem ↓] Go.wp_at_zero Go.wp_at_succ
set_option maxRecDepth 100000 in
set_option maxHeartbeats 8000000 in
theorem spec_DrawStateOfBits {a : Option Addr} {n c : Nat} {w : World} (hB : Byts w a n c) (hn : n ≤ 4096) :
    Calls Try.prog 8 #[.slice a n c] w (MVDraw w) := by
  have HB := Lib.hid hB
  clear hB
  go_enter Try.func8, Try.ntmps8
  go_wp2_with fail
  have hbA : Below w.heap.size w (w.alloc (.cells #[.slice none 0 0, .slice none 0 0, .slice none 0 0] 27)) := below_alloc1 (Below.refl _ _) _
  refine Calls.mono (dw_l01From HB.out hbA hn) ?_
  rintro e w1 ⟨b, rfl, hb1, hlo, hd⟩
  simp at hlo
  have X1 := Lib.hid ((Blk.made w #[.slice none 0 0, .slice none 0 0, .slice none 0 0] 27).keep hb1)
  have hbl := below_callS hbA hb1
  have hbw := hd.lt
  have hs1 := hb1.size
  simp at hs1
  have HD := Lib.hid hd
  clear hd hb1 hbA
  go_wp2_with fail
  refine Calls.mono (spec_l23Draw HD.out) ?_
  rintro e w2 ⟨sa, ta, ra, sn, sc, tn, tc, rn, rc, sz, st, l, rfl, hS, hT, hR, h1, h5, ht5, hr3, hd⟩
  have hbE : Below w2.heap.size w2 ((w2.alloc (.cells #[.slice sa sn sc, .slice ta tn tc, .slice ra rn rc] 27)).alloc (.cells #[] 2)) := below_alloc1 (below_alloc1 (Below.refl _ _) _) _
  have M := Lib.hid (DM.keep (show DM w2 w1.heap.size sa sn sc ta tn tc ra rn rc sz st l from ⟨hS, hT, hR, h1, h5, ht5, hr3⟩) hbE)
  have X2 := Lib.hid ((X1.out.dw hd (by omega)).keep hbE)
  have D2 := Lib.hid ((HD.out.trans hd).below hbE)
  have P2 := Lib.hid ((Blk.made w2 #[.slice sa sn sc, .slice ta tn tc, .slice ra rn rc] 27).keep (below_alloc1 (Below.refl _ _) (.cells #[] 2)))
  have O2 := Lib.hid (show OwnI 2 ((w2.alloc (.cells #[.slice sa sn sc, .slice ta tn tc, .slice ra rn rc] 27)).alloc (.cells #[] 2)) (w2.heap.size + 1) (some ⟨w2.heap.size + 1, 0, none⟩) 0 0 [] by
    have h := own_litL (w := (w2.alloc (.cells #[.slice sa sn sc, .slice ta tn tc, .slice ra rn rc] 27))) (T := 2) (m := 0) (base := w2.heap.size + 1) [] #[] (by simp) rfl (by decide) (fun x hx => by cases hx) rfl
    simpa using h)
  have BLM := Lib.hid (DM.bl (show DM w2 w1.heap.size sa sn sc ta tn tc ra rn rc sz st l from ⟨hS, hT, hR, h1, h5, ht5, hr3⟩))
  have hs2 := hd.size
  have hs3 : w2.heap.size + 1 ≤ ((w2.alloc (.cells #[.slice sa sn sc, .slice ta tn tc, .slice ra rn rc] 27)).alloc (.cells #[] 2)).heap.size := by simp
  clear hS hT hR hd HD X1 hbE
  go_wp2_with fail
  obtain ⟨wB, hwB⟩ : ∃ v, v = ((w2.alloc (.cells #[.slice sa sn sc, .slice ta tn tc, .slice ra rn rc] 27)).alloc (.cells #[] 2)) := ⟨_, rfl⟩
  obtain ⟨p, hp⟩ : ∃ v, v = w2.heap.size := ⟨_, rfl⟩
  rw [← hwB] at M X2 D2 P2 O2 hs3 ⊢
  rw [← hp] at P2 O2 hs3 BLM ⊢
  have hp1 : w1.heap.size ≤ p := by omega
  clear hwB hp
  have x0 := P2.out.cell 0
  have x1 := P2.out.cell 1
  have x2 := P2.out.cell 2
  have xl := P2.out.lt
  simp only [List.getElem?_toArray, List.getElem?_cons_zero, List.getElem?_cons_succ] at x0 x1 x2
  go_wp2_with fail
  refine Calls.mono (spec_IsModel M.out.s.ints (by omega) M.out.t.ints (by omega) M.out.r.fr (by omega)) ?_
  rintro e w3 ⟨rfl, hb3⟩
  have M3 := Lib.hid (M.out.keep hb3)
  have X3 := Lib.hid (X2.out.keep hb3)
  have D3 := Lib.hid (D2.out.below hb3)
  have P3 := Lib.hid (P2.out.keep hb3)
  have O3 := Lib.hid (O2.out.keep hb3)
  have hs4 := hb3.size
  clear hb3 M X2 D2 P2 O2 x0 x1 x2 xl
  go_upto_if 14 with fail
  go_cut [6] (fun s6 wx => ∃ (a : Option Addr) (n c : Nat) (L : List Int), s6 = .slice a n c ∧ n ≤ 90 ∧ p + 1 ≤ wx.heap.size ∧ Hid (DM wx w1.heap.size sa sn sc ta tn tc ra rn rc sz st l) ∧ Hid (Blk wx w.heap.size #[.slice none 0 0, .slice none 0 0, .slice none 0 0] 27) ∧ Hid (Dw 55 w.heap.size b w1 wx) ∧ Hid (Blk wx p #[.slice sa sn sc, .slice ta tn tc, .slice ra rn rc] 27) ∧ Hid (OwnI 2 wx (p + 1) a n c L))
  case first =>
    cases hm : modelB sz st l
    · go_wp2_with fail
      go_meet
      exact ⟨_, _, _, _, rfl, by omega, by omega, M3, X3, D3, P3, O3⟩
    · have hall := modelB_all hm
      have hlen := modelB_len hm
      obtain ⟨N, hN⟩ : ∃ N : Nat, (sz.map wN).sum = (N : Int) := ⟨offN sz sz.length, (offN_full hall).symm⟩
      have hN80 : N ≤ 80 := by
        have h1 := offN_full hall
        rw [hN] at h1
        have h2 : offN sz sz.length ≤ 5 * sz.length := by
          have : ∀ l : List Int, (l.map fun z => (wN z).toNat).sum ≤ 5 * l.length := fun l => by
            induction l with
            | nil => simp
            | cons z r ih => simp only [List.map_cons, List.sum_cons, List.length_cons]; have := wN_5 z; omega
          have := this (sz.take sz.length)
          rw [List.length_take, Nat.min_self] at this
          exact this
        omega
      have HALL := Lib.hid hall
      have HN := Lib.hid hN
      clear hall hlen hN hm
      go_wp2_with fail
      go_loopw [6, 7] (fun s6 s7 wr => ∃ (a : Option Addr) (n c : Nat) (L : List Int), s6 = .slice a n c ∧ s7 = .int .i64 (n : Int) ∧ n ≤ N ∧ p + 1 ≤ wr.heap.size ∧ Hid (DM wr w1.heap.size sa sn sc ta tn tc ra rn rc sz st l) ∧ Hid (Blk wr w.heap.size #[.slice none 0 0, .slice none 0 0, .slice none 0 0] 27) ∧ Hid (Dw 55 w.heap.size b w1 wr) ∧ Hid (Blk wr p #[.slice sa sn sc, .slice ta tn tc, .slice ra rn rc] 27) ∧ Hid (OwnI 2 wr (p + 1) a n c L)) (fun _ s7 _ => N - (intOf s7).toNat)
      case atStart => exact ⟨_, 0, 0, [], rfl, rfl, by omega, by omega, M3, X3, D3, P3, O3⟩
      case round =>
        clear M3 X3 D3 P3 O3
        obtain ⟨a, n, c, L, rfl, rfl, hnN, hsr, M, X, HD, P, O⟩ := hrel
        have x0 := P.out.cell 0
        have x1 := P.out.cell 1
        have x2 := P.out.cell 2
        have xl := P.out.lt
        simp only [List.getElem?_toArray, List.getElem?_cons_zero, List.getElem?_cons_succ] at x0 x1 x2
        have en : IntKind.i64.wrap ((n : Int) + 1) = (n : Int) + 1 := IntWalk.i64_in _ (by omega)
        go_wp2_with fail
        refine Calls.mono (spec_l23Total M.out.s.ints (by omega) HALL.out) ?_
        rintro e w4 ⟨rfl, hb4⟩
        have M4 := Lib.hid (M.out.keep hb4)
        have X4 := Lib.hid (X.out.keep hb4)
        have D4 := Lib.hid (HD.out.below hb4)
        have P4 := Lib.hid (P.out.keep hb4)
        have O4 := Lib.hid (O.out.keep hb4)
        have hs5 := hb4.size
        clear hb4 M X HD P O x0 x1 x2 xl
        rw [HN.out]
        by_cases hlt : n < N
        · have hlt' : (n : Int) < (N : Int) := by omega
          go_wp2_with fail
          refine Calls.mono (dw_next (b := b) (lo := w.heap.size) D4.out.src (by decide)) ?_
          rintro e w5 ⟨x, rfl, hx0, hx1, hd⟩
          have hxi : I64 x := by unfold I64; omega
          have hs6 := hd.size
          have M5 := Lib.hid (M4.out.dw hd hbw)
          have X5 := Lib.hid (X4.out.dw hd (by omega))
          have D5 := Lib.hid (D4.out.trans hd)
          have P5 := Lib.hid (P4.out.dw hd (by omega))
          have O5 := Lib.hid (O4.out.dw hd (by omega))
          clear hd M4 X4 D4 P4 O4 hx1
          go_wp2_with (at_builtin; refine app1 (lo := w.heap.size) (b := b) (w0 := w1) rfl _ _ rfl Try.underlying24 Try.infoi64 (p + 1) _ _ _ _ O5.out rfl _ rfl rfl hxi (by omega) D5.out (by omega) (by omega) ?_; intro a6 c6 w6 ho6 hb6 hd6; refine Hid.out ?_)
          have M6 := Lib.hid (M5.out.keepB BLM.out (hb6.mono (Nat.le_succ _)))
          have X6 := Lib.hid (X5.out.keepB hb6 (by omega))
          have P6 := Lib.hid (P5.out.keepB hb6 (Nat.lt_succ_self _))
          have D6 := Lib.hid hd6
          have O6 := Lib.hid ho6
          have hs7 := hb6.size
          clear ho6 hb6 hd6 M5 X5 D5 P5 O5
          refine Lib.hid ?_
          go_wp2_with fail
          go_roundw
          case rel => exact ⟨a6, n + 1, c6, _, rfl, by go_num, by omega, by omega, M6, X6, D6, P6, O6⟩
          case measure => simp [intOf]; omega
        · have hlt' : ¬ (n : Int) < (N : Int) := by omega
          go_wp2_with fail
          go_meet
          exact ⟨_, _, _, _, rfl, by omega, by omega, M4, X4, D4, P4, O4⟩
  case rest =>
    obtain ⟨a7, n7, c7, L7, rfl, hn7, hs7, M7, X7, D7, P7, O7⟩ := hcut
    clear M3 X3 D3 P3 O3
    go_wp2_with fail
    refine Calls.mono (dw_next (b := b) (lo := w.heap.size) D7.out.src (by decide)) ?_
    rintro e w8 ⟨y, rfl, hy0, hy1, hd⟩
    have M8 := Lib.hid (M7.out.dw hd hbw)
    have X8 := Lib.hid (X7.out.dw hd (by omega))
    have D8 := Lib.hid (D7.out.trans hd)
    have P8 := Lib.hid (P7.out.dw hd (by omega))
    have O8 := Lib.hid (O7.out.dw hd (by omega))
    have hs8 := hd.size
    clear hd M7 X7 D7 P7 O7 hy1
    go_upto_block 2 with fail
    go_cut [6] (fun s6 wx => ∃ (a : Option Addr) (n c : Nat) (L : List Int), s6 = .slice a n c ∧ n ≤ 100 ∧ p + 1 ≤ wx.heap.size ∧ Hid (DM wx w1.heap.size sa sn sc ta tn tc ra rn rc sz st l) ∧ Hid (Blk wx w.heap.size #[.slice none 0 0, .slice none 0 0, .slice none 0 0] 27) ∧ Hid (Dw 55 w.heap.size b w1 wx) ∧ Hid (Blk wx p #[.slice sa sn sc, .slice ta tn tc, .slice ra rn rc] 27) ∧ Hid (OwnI 2 wx (p + 1) a n c L))
    case first =>
      by_cases y0 : y = 0
      · subst y0
        go_wp2_with (at_builtin; refine app1 (lo := w.heap.size) (b := b) (w0 := w1) rfl _ _ rfl Try.underlying24 Try.infoi64 (p + 1) _ _ _ _ O8.out rfl _ rfl rfl (by decide) (by omega) D8.out (by omega) (by omega) ?_; intro a6 c6 w6 ho6 hb6 hd6; refine Hid.out ?_)
        have M6 := Lib.hid (M8.out.keepB BLM.out (hb6.mono (Nat.le_succ _)))
        have X6 := Lib.hid (X8.out.keepB hb6 (by omega))
        have P6 := Lib.hid (P8.out.keepB hb6 (Nat.lt_succ_self _))
        have D6 := Lib.hid hd6
        have O6 := Lib.hid ho6
        have hs9 := hb6.size
        clear ho6 hb6 hd6 M8 X8 D8 P8 O8
        refine Lib.hid ?_
        go_wp2_with fail
        go_meet
        exact ⟨_, _, _, _, rfl, by omega, by omega, M6, X6, D6, P6, O6⟩
      have y0' : (y == 0) = false := by simpa using y0
      by_cases y1 : y = 1
      · subst y1
        by_cases hn0 : 0 < n7
        · have hn0' : (0 : Int) < (n7 : Int) := by omega
          obtain ⟨g, rfl⟩ := O8.out.shape hn0
          obtain ⟨z1, hz1, hz1i, hz1c⟩ := O8.out.cell hn0
          have hof := O8.out.free 0
          have hol := (O8.out.blk g rfl)
          have hbz : Below (p + 1) w8 (w8.setCell ⟨g, 0, none⟩ (.int .i64 2)) := (Below.refl _ _).setCell (by exact hol.1) _
          have M6 := Lib.hid (M8.out.keepB BLM.out (hbz.mono (Nat.le_succ _)))
          have X6 := Lib.hid (X8.out.keepB hbz (by omega))
          have P6 := Lib.hid (P8.out.keepB hbz (Nat.lt_succ_self _))
          have D6 := Lib.hid (D8.out.set (show w1.heap.size ≤ g by omega) 0 (.int .i64 2))
          have O6 := Lib.hid (O8.out.set 0 (x := 2) (by decide))
          have hs9 := hbz.size
          clear hbz M8 X8 D8 P8 O8
          go_wp2_with fail
          go_meet
          exact ⟨_, n7, _, _, rfl, by omega, by omega, M6, X6, D6, P6, O6⟩
        · have hn0' : ¬ (0 : Int) < (n7 : Int) := by omega
          go_wp2_with fail
          go_meet
          exact ⟨_, n7, _, _, rfl, by omega, by omega, M8, X8, D8, P8, O8⟩
      have y1' : (y == 1) = false := by simpa using y1
      go_wp2_with fail
      go_meet
      exact ⟨_, n7, _, _, rfl, by omega, by omega, M8, X8, D8, P8, O8⟩
    case rest =>
      obtain ⟨a9, n9, c9, L9, rfl, hn9, hs9, M9, X9, D9, P9, O9⟩ := hcut
      clear M8 X8 D8 P8 O8
      have x0 := X9.out.cell 0
      have x1 := X9.out.cell 1
      have x2 := X9.out.cell 2
      have xl := X9.out.lt
      have xf := X9.out.free
      have p0 := P9.out.cell 0
      have p1 := P9.out.cell 1
      have p2 := P9.out.cell 2
      have pl := P9.out.lt
      simp only [List.getElem?_toArray, List.getElem?_cons_zero, List.getElem?_cons_succ] at x0 x1 x2 p0 p1 p2
      have hbl4 := Lib.hid (D9.out.fin hbl (by omega))
      go_wp2
      exact bodyPost_ret (v := .tuple #[.agg #[.slice sa sn sc, .slice ta tn tc, .slice ra rn rc], .slice a9 n9 c9]) (by simp [results, Try.results8, go_sem, *]) rfl ⟨sa, ta, ra, a9, sn, sc, tn, tc, rn, rc, n9, c9, sz, st, L9, l, rfl, (M9.out.only (only3 _ _ _) (by omega)).le (by omega), (O9.out.only (only3 _ _ _) (fun g e => .inr (by have := (O9.out.blk g e).1; omega))).le (by omega), by omega, ((hbl4.out.setCell (Nat.le_refl _) _).setCell (Nat.le_refl _) _).setCell (Nat.le_refl _) _⟩
end Go.Proofs.Ytcnjnkjnpfpaeaa
