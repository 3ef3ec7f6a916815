/- The draw of a diagram, walked. (Printed by mkdf.py.) -/
import Derived.Test.YtkaikbaagajckaaDd
import Derived.Test.YtkaikbaagajckaaKp
namespace Go.Proofs.Ytkaikbaagajckaa
open Go.RowKit
set_option linter.unusedVariables false
set_option linter.unusedSimpArgs false
attribute [local go_sem ↓] Go.wp_at_zero Go.wp_at_succ
theorem flat_one {l : List I3} {i : Nat} {x : I3} (hx : l[i]? = some x) (v : Int) :
    (l.flatMap I3.enc).set (i * 3) (.int .i64 v) = (l.set i ⟨v, x.b, x.c⟩).flatMap I3.enc ∧ (l.flatMap I3.enc).set (i * 3 + 1) (.int .i64 v) = (l.set i ⟨x.a, v, x.c⟩).flatMap I3.enc ∧ (l.flatMap I3.enc).set (i * 3 + 2) (.int .i64 v) = (l.set i ⟨x.a, x.b, v⟩).flatMap I3.enc := by
  have hi : i < l.length := (List.getElem?_eq_some_iff.1 hx).1
  have hk : ∀ y : I3, (I3.enc y).length = 3 := fun _ => rfl
  refine ⟨?_, ?_, ?_⟩
  · obtain ⟨h1, h2, h3⟩ := flat_set hk hi ⟨v, x.b, x.c⟩ x hx
    rw [h1, h2, List.set_append_right _ _ (by omega), h3, Nat.sub_self]
    rfl
  · obtain ⟨h1, h2, h3⟩ := flat_set hk hi ⟨x.a, v, x.c⟩ x hx
    rw [h1, h2, List.set_append_right _ _ (by omega), h3, show i * 3 + 1 - i * 3 = 1 by omega]
    rfl
  · obtain ⟨h1, h2, h3⟩ := flat_set hk hi ⟨x.a, x.b, v⟩ x hx
    rw [h1, h2, List.set_append_right _ _ (by omega), h3, show i * 3 + 2 - i * 3 = 2 by omega]
    rfl
theorem OwnF.cell3 {E : TypeId} {w : World} {base g n c i j : Nat} {l : List I3} {v : Int} (h : OwnF 3 I3.enc I3.ok E w base (some ⟨g, 0, none⟩) n c l) (hi : i < n) (hv : I64 v) (hj : j = 0 ∨ j = 1 ∨ j = 2) : ∃ l', OwnF 3 I3.enc I3.ok E (w.setCell ⟨g, i * 3 + j, none⟩ (.int .i64 v)) base (some ⟨g, 0, none⟩) n c l' := by
  obtain ⟨h1, h2, h3, h4⟩ := h
  have hx := List.getElem?_eq_getElem (show i < l.length by omega)
  have hok := h2 _ (List.getElem_mem (show i < l.length by omega))
  obtain ⟨f0, f1, f2⟩ := flat_one hx v
  have hs := (h1.stored (i * 3 + j) (.int .i64 v)).1
  have mem : ∀ y : I3, y.ok → ∀ z ∈ l.set i y, z.ok := fun y hy z hz => by
    rcases List.mem_or_eq_of_mem_set hz with h | h
    · exact h2 z h
    · rw [h]; exact hy
  rcases hj with rfl | rfl | rfl
  · exact ⟨l.set i ⟨v, l[i].b, l[i].c⟩, by rw [Nat.add_zero] at hs ⊢; rw [f0] at hs; exact hs, mem _ ⟨hv, hok.2.1, hok.2.2⟩, by simpa using h3, h4⟩
  · exact ⟨l.set i ⟨l[i].a, v, l[i].c⟩, by rw [f1] at hs; exact hs, mem _ ⟨hok.1, hv, hok.2.2⟩, by simpa using h3, h4⟩
  · exact ⟨l.set i ⟨l[i].a, l[i].b, v⟩, by rw [f2] at hs; exact hs, mem _ ⟨hok.1, hok.2.1, hv⟩, by simpa using h3, h4⟩
set_option maxRecDepth 100000 in
set_option maxHeartbeats 16000000 in
theorem spec_l22Draw {b lo : Nat} {n : Int} {w0 w : World} (hD : Dw 136 lo b w0 w) (h0 : 0 ≤ n) (h20 : n ≤ 20) :
    Calls Try.prog 70 #[.pointer (some ⟨b, 0, none⟩), .int .i64 n] w fun e w' => ∃ n' da dc D rt, e = .returned (.agg #[.int .i64 n', .slice da (D : List I3).length dc, .int .i64 rt]) ∧ I64 n' ∧ D.length ≤ 200 ∧ I64 rt ∧ OwnF 3 I3.enc I3.ok 76 w' w.heap.size da D.length dc D ∧ Dw 136 lo b w w' := by
  have hbl := hD.src.lt.2
  have HS := Lib.hid hD.start
  clear hD
  go_enter Try.func70, Try.ntmps70
  go_wp2_with fail
  refine Calls.mono (spec_l22DrawValid (HS.out.alloc _) h0 h20) ?_
  rintro e w1 ⟨da, dc, D, rt, rfl, hD1, hrt, hO, hd⟩
  have hs1 := hd.size
  simp at hs1
  have hrt0 := hrt.1
  have hrt1 := hrt.2
  have R := Lib.hid ((Blk.made w #[.int .i64 0, .slice none 0 0, .int .i64 0] 26).dw hd (by omega))
  have HD := Lib.hid ((HS.out.alloc (.cells #[.int .i64 0, .slice none 0 0, .int .i64 0] 26)).trans hd)
  have O := Lib.hid (show OwnF 3 I3.enc I3.ok 76 w1 (w.heap.size + 1) da D.length dc D from by simpa using hO)
  clear hd hO hrt HS
  obtain ⟨bX, hbX⟩ : ∃ bX, bX = w1.heap.size := ⟨_, rfl⟩
  have hbX2 : w.heap.size + 1 ≤ bX := by omega
  obtain ⟨w2, hw2⟩ : ∃ w2, w2 = w1.alloc (.cells #[.int .i64 n, .slice da D.length dc, .int .i64 rt] 26) := ⟨_, rfl⟩
  have X := Lib.hid (show Blk w2 bX #[.int .i64 n, .slice da D.length dc, .int .i64 rt] 26 by rw [hw2, hbX]; exact Blk.made _ _ _)
  have hbA := below_alloc1 (Below.refl w1.heap.size w1) (.cells #[.int .i64 n, .slice da D.length dc, .int .i64 rt] 26)
  replace R := Lib.hid (R.out.keep hbA)
  replace O := Lib.hid (O.out.keep hbA)
  replace HD := Lib.hid (HD.out.alloc (.cells #[.int .i64 n, .slice da D.length dc, .int .i64 rt] 26))
  have hs2 : w1.heap.size + 1 ≤ w2.heap.size := by rw [hw2]; simp
  rw [← hw2] at R O HD
  clear hbA
  by_cases hn : 0 < D.length
  · have hn1 : (0 : Int) < (D.length : Int) := by omega
    have hn2 : decide ((0 : Int) < (D.length : Int)) = true := decide_eq_true hn1
    go_wp2_with fail
    rw [← hbX, ← hw2]
    clear hw2 hbX
    refine Calls.mono (dw_next (b := b) (lo := lo) (n := (D.length : Int)) HD.out.src (by first | decide | (unfold I64; omega))) ?_
    rintro e w3 ⟨k, rfl, k0, k1, hd⟩
    replace k1 : k < (D.length : Int) := by omega
    have hs_w3 := hd.size
    replace X := Lib.hid (X.out.dw hd (by omega))
    replace R := Lib.hid (R.out.dw hd (by omega))
    replace O := Lib.hid (O.out.dw hd (by omega))
    replace HD := Lib.hid (HD.out.trans hd)
    clear hd
    obtain ⟨q, rfl⟩ : ∃ q : Nat, k = (q : Int) := ⟨k.toNat, by omega⟩
    have hq : q < D.length := by omega
    have hq0 : (0 : Int) ≤ (q : Int) := by omega
    have x0 := X.out.cell 0
    have x1 := X.out.cell 1
    have x2 := X.out.cell 2
    have xl := X.out.lt
    have xf := X.out.free
    simp only [List.getElem?_toArray, List.getElem?_cons_succ, List.getElem?_cons_zero] at x0 x1 x2
    go_wp2_with (at_builtin; go_loud (refine appendL_F (k := 3) (enc := I3.enc) (ok := I3.ok) rfl _ _ _ _ rfl Try.underlying24 Try.infoNode rfl (by decide) (by decide) I3.one9 (w.heap.size + 1) (some ⟨w3.heap.size, 0, none⟩) 0 0 [] (OwnF.emp w3 (by omega) (fun _ => rfl)) rfl _ _ _ D rfl (O.out.flats.keep (below_alloc1 (Below.refl _ _) _)) (by decide) (by omega) (by simp; omega) ?_); intro a4 c4 w4 ho hb hg hnil; have O4 := Lib.hid ho; have B4 := Lib.hid hb; have G4 := Lib.hid hg; clear ho hb hg hnil)
    have hXs := X.out.lt
    have hRs := R.out.lt
    have hgn : ∀ bb, bb < w3.heap.size → (Value.slice (some ⟨w3.heap.size, 0, none⟩) 0 0).ownBlock ≠ some bb := fun bb hbb e => by
      simp [Value.ownBlock] at e
      omega
    replace X := Lib.hid ((X.out.keep (below_alloc1 (Below.refl _ _) _)).keepG G4.out (hgn _ hXs))
    replace R := Lib.hid ((R.out.keep (below_alloc1 (Below.refl _ _) _)).keepG G4.out (hgn _ hRs))
    replace HD := Lib.hid ((HD.out.alloc _).belowG B4.out (by omega))
    have hs4 := B4.out.size
    simp at hs4
    have O5 : OwnF 3 I3.enc I3.ok 76 w4 (w.heap.size + 1) a4 D.length c4 D := by simpa using O4.out
    obtain ⟨g', rfl⟩ := O5.shape hn
    obtain ⟨c', hc'⟩ : ∃ c', c' = c4 := ⟨_, rfl⟩
    subst hc'
    replace O := Lib.hid O5
    clear O4 O5 B4 G4 hgn x0 x1 x2 xl xf hXs hRs
    refine Calls.mono (dw_next (b := b) (lo := lo) (n := 24) HD.out.src (by first | decide | (unfold I64; omega))) ?_
    rintro e w5 ⟨v, rfl, v0, v1, hd⟩
    replace v1 : v < 24 := by omega
    have hs_w5 := hd.size
    replace X := Lib.hid (X.out.dw hd (by omega))
    replace R := Lib.hid (R.out.dw hd (by omega))
    replace O := Lib.hid (O.out.dw hd (by omega))
    replace HD := Lib.hid (HD.out.trans hd)
    clear hd
    by_cases v0 : v = 0
    · subst v0
      go_wp2_with fail
      refine Calls.mono (dw_pick3 (b := b) (lo := lo) HD.out.src rfl (by unfold I64; omega) (by unfold I64; omega) (by unfold I64; omega)) ?_
      rintro e wp ⟨u, rfl, hmu, hiu, hd⟩
      have hs_wp := hd.size
      replace X := Lib.hid (X.out.dw hd (by omega))
      replace R := Lib.hid (R.out.dw hd (by omega))
      replace O := Lib.hid (O.out.dw hd (by omega))
      replace HD := Lib.hid (HD.out.trans hd)
      clear hd hmu
      obtain ⟨_, _, y, hye, hyb, hy, hyo, y0, y1, y2⟩ := F3.get O.out.flats hq
      simp only [Option.some.injEq, Addr.mk.injEq, and_true] at hye
      obtain ⟨hy1, hy2⟩ := hye
      subst hy1 hy2
      have yf := O.out.free
      have gl := (O.out.blk _ rfl).2
      simp only [Nat.zero_add] at y0 y1 y2
      unfold I3.ok at hyo
      have x0 := X.out.cell 0
      have x1 := X.out.cell 1
      have x2 := X.out.cell 2
      have xl := X.out.lt
      have xf := X.out.free
      simp only [List.getElem?_toArray, List.getElem?_cons_succ, List.getElem?_cons_zero] at x0 x1 x2
      have hneg : bX ≠ g' := fun e => blk_ne X.out O.out.typN (by decide) (by rw [e])
      have hneg2 : g' ≠ bX := fun e => hneg e.symm
      go_wp2_with fail
      obtain ⟨l', hl'⟩ := OwnF.cell3 (j := 0) O.out hq hiu (by omega)
      have hll := hl'.len
      have hgw := (O.out.blk g' rfl).1
      replace X := Lib.hid (X.out.keepG (set_grown g' (q * 3) (.int .i64 u)) (by simp; omega))
      replace R := Lib.hid (R.out.keepG (set_grown g' (q * 3) (.int .i64 u)) (by simp; omega))
      replace HD := Lib.hid (HD.out.set (g := g') (by omega) (q * 3) (.int .i64 u))
      replace O := Lib.hid (show OwnF 3 I3.enc I3.ok 76 _ (w.heap.size + 1) (some ⟨g', 0, none⟩) D.length c' l' from hl')
      clear hl' y0 y1 y2 yf gl
      have hneX : ∀ q, ((some ⟨g', 0, none⟩) : Option Addr) = some ⟨q, 0, none⟩ → (some bX : Option Nat) ≠ some q := fun q e e' => by
        simp only [Option.some.injEq] at e'
        exact blk_ne X.out O.out.typN (by decide) (by rw [e, e'])
      replace R := Lib.hid (((R.out.keepG (set_grown bX 0 (.int .i64 n)) (by simp; omega)).keepG (set_grown bX 1 (.slice (some ⟨g', 0, none⟩) D.length c')) (by simp; omega)).keepG (set_grown bX 2 (.int .i64 rt)) (by simp; omega))
      replace O := Lib.hid (((O.out.keepG (set_grown bX 0 (.int .i64 n)) hneX).keepG (set_grown bX 1 (.slice (some ⟨g', 0, none⟩) D.length c')) hneX).keepG (set_grown bX 2 (.int .i64 rt)) hneX)
      replace X := Lib.hid (((X.out.set 0 (.int .i64 n)).set 1 (.slice (some ⟨g', 0, none⟩) D.length c')).set 2 (.int .i64 rt))
      replace HD := Lib.hid (((HD.out.set (g := bX) (by omega) 0 (.int .i64 n)).set (g := bX) (by omega) 1 (.slice (some ⟨g', 0, none⟩) D.length c')).set (g := bX) (by omega) 2 (.int .i64 rt))
      clear x0 x1 x2 xl xf
      simp only [List.setIfInBounds_toArray, List.set_cons_zero, List.set_cons_succ] at X
      have hll9 := Lib.hid (show (l').length = D.length from hll)
      refine Calls.mono (dw_next (b := b) (lo := lo) (n := 40) HD.out.src (by first | decide | (unfold I64; omega))) ?_
      rintro e wt ⟨t, rfl, t0, t1, hd⟩
      replace t1 : t < 40 := by omega
      have hs_wt := hd.size
      replace X := Lib.hid (X.out.dw hd (by omega))
      replace R := Lib.hid (R.out.dw hd (by omega))
      replace O := Lib.hid (O.out.dw hd (by omega))
      replace HD := Lib.hid (HD.out.trans hd)
      clear hd
      by_cases ht9 : t = 0
      · subst ht9
        go_wp2_with fail
        refine Calls.mono (dw_pick3 (b := b) (lo := lo) HD.out.src rfl (by unfold I64; omega) (by unfold I64; omega) (by unfold I64; omega)) ?_
        rintro e wu ⟨u, rfl, hmu, hiu, hd⟩
        have hs_wu := hd.size
        replace X := Lib.hid (X.out.dw hd (by omega))
        replace R := Lib.hid (R.out.dw hd (by omega))
        replace O := Lib.hid (O.out.dw hd (by omega))
        replace HD := Lib.hid (HD.out.trans hd)
        clear hd
        unfold I64 at hiu
        have x0 := X.out.cell 0
        have x1 := X.out.cell 1
        have x2 := X.out.cell 2
        have xl := X.out.lt
        have xf := X.out.free
        simp only [List.getElem?_toArray, List.getElem?_cons_succ, List.getElem?_cons_zero] at x0 x1 x2
        have r0 := R.out.cell 0
        have r1 := R.out.cell 1
        have r2 := R.out.cell 2
        have rl := R.out.lt
        have rf := R.out.free
        simp only [List.getElem?_toArray, List.getElem?_cons_succ, List.getElem?_cons_zero] at r0 r1 r2
        go_wp2_with fail
        have hneX : ∀ q, ((some ⟨g', 0, none⟩) : Option Addr) = some ⟨q, 0, none⟩ → (some bX : Option Nat) ≠ some q := fun q e e' => by
          simp only [Option.some.injEq] at e'
          exact blk_ne X.out O.out.typN (by decide) (by rw [e, e'])
        have hDE := (((HD.out.set (g := bX) (by omega) 0 (.int .i64 u)).set (g := w.heap.size) (Nat.le_refl _) 0 (.int .i64 u)).set (g := w.heap.size) (Nat.le_refl _) 1 (.slice (some ⟨g', 0, none⟩) D.length c')).set (g := w.heap.size) (Nat.le_refl _) 2 (.int .i64 rt)
        have hneR : ∀ q, ((some ⟨g', 0, none⟩) : Option Addr) = some ⟨q, 0, none⟩ → (some w.heap.size : Option Nat) ≠ some q := fun q e e' => by
          have := (O.out.blk q e).1
          simp at e'
          omega
        refine bodyPost_ret (v := .agg #[.int .i64 u, .slice (some ⟨g', 0, none⟩) D.length c', .int .i64 rt]) (by simp [results, Try.results70, go_sem, *]) rfl ⟨u, (some ⟨g', 0, none⟩), c', l', rt, (by rw [hll9.out]), by unfold I64; omega, by (try simp); omega, by unfold I64; omega, ?_, hDE⟩
        rw [hll9.out]
        exact ((((O.out.keepG (set_grown _ _ _) hneX).keepG (set_grown _ _ _) hneR).keepG (set_grown _ _ _) hneR).keepG (set_grown _ _ _) hneR).le (by omega)
      · have t9 : (t == 0) = false := by simpa using ht9
        have x0 := X.out.cell 0
        have x1 := X.out.cell 1
        have x2 := X.out.cell 2
        have xl := X.out.lt
        have xf := X.out.free
        simp only [List.getElem?_toArray, List.getElem?_cons_succ, List.getElem?_cons_zero] at x0 x1 x2
        have r0 := R.out.cell 0
        have r1 := R.out.cell 1
        have r2 := R.out.cell 2
        have rl := R.out.lt
        have rf := R.out.free
        simp only [List.getElem?_toArray, List.getElem?_cons_succ, List.getElem?_cons_zero] at r0 r1 r2
        go_wp2
        have hneR : ∀ q, ((some ⟨g', 0, none⟩) : Option Addr) = some ⟨q, 0, none⟩ → (some w.heap.size : Option Nat) ≠ some q := fun q e e' => by
          have := (O.out.blk q e).1
          simp at e'
          omega
        have hDE := ((HD.out.set (g := w.heap.size) (Nat.le_refl _) 0 (.int .i64 n)).set (g := w.heap.size) (Nat.le_refl _) 1 (.slice (some ⟨g', 0, none⟩) D.length c')).set (g := w.heap.size) (Nat.le_refl _) 2 (.int .i64 rt)
        refine bodyPost_ret (v := .agg #[.int .i64 n, .slice (some ⟨g', 0, none⟩) D.length c', .int .i64 rt]) (by simp [results, Try.results70, go_sem, *]) rfl ⟨n, (some ⟨g', 0, none⟩), c', l', rt, (by rw [hll9.out]), by unfold I64; omega, by (try simp); omega, by unfold I64; omega, ?_, hDE⟩
        rw [hll9.out]
        exact (((O.out.keepG (set_grown _ _ _) hneR).keepG (set_grown _ _ _) hneR).keepG (set_grown _ _ _) hneR).le (by omega)
    have vb0 : (v == 0) = false := by simpa using v0
    by_cases v1 : v = 1
    · subst v1
      go_wp2_with fail
      refine Calls.mono (dw_pick5 (b := b) (lo := lo) HD.out.src rfl (by unfold I64; omega) (by unfold I64; omega) (by unfold I64; omega) (by unfold I64; omega) (by unfold I64; omega)) ?_
      rintro e wp ⟨u, rfl, hmu, hiu, hd⟩
      have hs_wp := hd.size
      replace X := Lib.hid (X.out.dw hd (by omega))
      replace R := Lib.hid (R.out.dw hd (by omega))
      replace O := Lib.hid (O.out.dw hd (by omega))
      replace HD := Lib.hid (HD.out.trans hd)
      clear hd hmu
      obtain ⟨_, _, y, hye, hyb, hy, hyo, y0, y1, y2⟩ := F3.get O.out.flats hq
      simp only [Option.some.injEq, Addr.mk.injEq, and_true] at hye
      obtain ⟨hy1, hy2⟩ := hye
      subst hy1 hy2
      have yf := O.out.free
      have gl := (O.out.blk _ rfl).2
      simp only [Nat.zero_add] at y0 y1 y2
      unfold I3.ok at hyo
      have x0 := X.out.cell 0
      have x1 := X.out.cell 1
      have x2 := X.out.cell 2
      have xl := X.out.lt
      have xf := X.out.free
      simp only [List.getElem?_toArray, List.getElem?_cons_succ, List.getElem?_cons_zero] at x0 x1 x2
      have hneg : bX ≠ g' := fun e => blk_ne X.out O.out.typN (by decide) (by rw [e])
      have hneg2 : g' ≠ bX := fun e => hneg e.symm
      go_wp2_with fail
      obtain ⟨l', hl'⟩ := OwnF.cell3 (j := 1) O.out hq hiu (by omega)
      have hll := hl'.len
      have hgw := (O.out.blk g' rfl).1
      replace X := Lib.hid (X.out.keepG (set_grown g' (q * 3 + 1) (.int .i64 u)) (by simp; omega))
      replace R := Lib.hid (R.out.keepG (set_grown g' (q * 3 + 1) (.int .i64 u)) (by simp; omega))
      replace HD := Lib.hid (HD.out.set (g := g') (by omega) (q * 3 + 1) (.int .i64 u))
      replace O := Lib.hid (show OwnF 3 I3.enc I3.ok 76 _ (w.heap.size + 1) (some ⟨g', 0, none⟩) D.length c' l' from hl')
      clear hl' y0 y1 y2 yf gl
      have hneX : ∀ q, ((some ⟨g', 0, none⟩) : Option Addr) = some ⟨q, 0, none⟩ → (some bX : Option Nat) ≠ some q := fun q e e' => by
        simp only [Option.some.injEq] at e'
        exact blk_ne X.out O.out.typN (by decide) (by rw [e, e'])
      replace R := Lib.hid (((R.out.keepG (set_grown bX 0 (.int .i64 n)) (by simp; omega)).keepG (set_grown bX 1 (.slice (some ⟨g', 0, none⟩) D.length c')) (by simp; omega)).keepG (set_grown bX 2 (.int .i64 rt)) (by simp; omega))
      replace O := Lib.hid (((O.out.keepG (set_grown bX 0 (.int .i64 n)) hneX).keepG (set_grown bX 1 (.slice (some ⟨g', 0, none⟩) D.length c')) hneX).keepG (set_grown bX 2 (.int .i64 rt)) hneX)
      replace X := Lib.hid (((X.out.set 0 (.int .i64 n)).set 1 (.slice (some ⟨g', 0, none⟩) D.length c')).set 2 (.int .i64 rt))
      replace HD := Lib.hid (((HD.out.set (g := bX) (by omega) 0 (.int .i64 n)).set (g := bX) (by omega) 1 (.slice (some ⟨g', 0, none⟩) D.length c')).set (g := bX) (by omega) 2 (.int .i64 rt))
      clear x0 x1 x2 xl xf
      simp only [List.setIfInBounds_toArray, List.set_cons_zero, List.set_cons_succ] at X
      have hll9 := Lib.hid (show (l').length = D.length from hll)
      refine Calls.mono (dw_next (b := b) (lo := lo) (n := 40) HD.out.src (by first | decide | (unfold I64; omega))) ?_
      rintro e wt ⟨t, rfl, t0, t1, hd⟩
      replace t1 : t < 40 := by omega
      have hs_wt := hd.size
      replace X := Lib.hid (X.out.dw hd (by omega))
      replace R := Lib.hid (R.out.dw hd (by omega))
      replace O := Lib.hid (O.out.dw hd (by omega))
      replace HD := Lib.hid (HD.out.trans hd)
      clear hd
      by_cases ht9 : t = 0
      · subst ht9
        go_wp2_with fail
        refine Calls.mono (dw_pick3 (b := b) (lo := lo) HD.out.src rfl (by unfold I64; omega) (by unfold I64; omega) (by unfold I64; omega)) ?_
        rintro e wu ⟨u, rfl, hmu, hiu, hd⟩
        have hs_wu := hd.size
        replace X := Lib.hid (X.out.dw hd (by omega))
        replace R := Lib.hid (R.out.dw hd (by omega))
        replace O := Lib.hid (O.out.dw hd (by omega))
        replace HD := Lib.hid (HD.out.trans hd)
        clear hd
        unfold I64 at hiu
        have x0 := X.out.cell 0
        have x1 := X.out.cell 1
        have x2 := X.out.cell 2
        have xl := X.out.lt
        have xf := X.out.free
        simp only [List.getElem?_toArray, List.getElem?_cons_succ, List.getElem?_cons_zero] at x0 x1 x2
        have r0 := R.out.cell 0
        have r1 := R.out.cell 1
        have r2 := R.out.cell 2
        have rl := R.out.lt
        have rf := R.out.free
        simp only [List.getElem?_toArray, List.getElem?_cons_succ, List.getElem?_cons_zero] at r0 r1 r2
        go_wp2_with fail
        have hneX : ∀ q, ((some ⟨g', 0, none⟩) : Option Addr) = some ⟨q, 0, none⟩ → (some bX : Option Nat) ≠ some q := fun q e e' => by
          simp only [Option.some.injEq] at e'
          exact blk_ne X.out O.out.typN (by decide) (by rw [e, e'])
        have hDE := (((HD.out.set (g := bX) (by omega) 0 (.int .i64 u)).set (g := w.heap.size) (Nat.le_refl _) 0 (.int .i64 u)).set (g := w.heap.size) (Nat.le_refl _) 1 (.slice (some ⟨g', 0, none⟩) D.length c')).set (g := w.heap.size) (Nat.le_refl _) 2 (.int .i64 rt)
        have hneR : ∀ q, ((some ⟨g', 0, none⟩) : Option Addr) = some ⟨q, 0, none⟩ → (some w.heap.size : Option Nat) ≠ some q := fun q e e' => by
          have := (O.out.blk q e).1
          simp at e'
          omega
        refine bodyPost_ret (v := .agg #[.int .i64 u, .slice (some ⟨g', 0, none⟩) D.length c', .int .i64 rt]) (by simp [results, Try.results70, go_sem, *]) rfl ⟨u, (some ⟨g', 0, none⟩), c', l', rt, (by rw [hll9.out]), by unfold I64; omega, by (try simp); omega, by unfold I64; omega, ?_, hDE⟩
        rw [hll9.out]
        exact ((((O.out.keepG (set_grown _ _ _) hneX).keepG (set_grown _ _ _) hneR).keepG (set_grown _ _ _) hneR).keepG (set_grown _ _ _) hneR).le (by omega)
      · have t9 : (t == 0) = false := by simpa using ht9
        have x0 := X.out.cell 0
        have x1 := X.out.cell 1
        have x2 := X.out.cell 2
        have xl := X.out.lt
        have xf := X.out.free
        simp only [List.getElem?_toArray, List.getElem?_cons_succ, List.getElem?_cons_zero] at x0 x1 x2
        have r0 := R.out.cell 0
        have r1 := R.out.cell 1
        have r2 := R.out.cell 2
        have rl := R.out.lt
        have rf := R.out.free
        simp only [List.getElem?_toArray, List.getElem?_cons_succ, List.getElem?_cons_zero] at r0 r1 r2
        go_wp2
        have hneR : ∀ q, ((some ⟨g', 0, none⟩) : Option Addr) = some ⟨q, 0, none⟩ → (some w.heap.size : Option Nat) ≠ some q := fun q e e' => by
          have := (O.out.blk q e).1
          simp at e'
          omega
        have hDE := ((HD.out.set (g := w.heap.size) (Nat.le_refl _) 0 (.int .i64 n)).set (g := w.heap.size) (Nat.le_refl _) 1 (.slice (some ⟨g', 0, none⟩) D.length c')).set (g := w.heap.size) (Nat.le_refl _) 2 (.int .i64 rt)
        refine bodyPost_ret (v := .agg #[.int .i64 n, .slice (some ⟨g', 0, none⟩) D.length c', .int .i64 rt]) (by simp [results, Try.results70, go_sem, *]) rfl ⟨n, (some ⟨g', 0, none⟩), c', l', rt, (by rw [hll9.out]), by unfold I64; omega, by (try simp); omega, by unfold I64; omega, ?_, hDE⟩
        rw [hll9.out]
        exact (((O.out.keepG (set_grown _ _ _) hneR).keepG (set_grown _ _ _) hneR).keepG (set_grown _ _ _) hneR).le (by omega)
    have vb1 : (v == 1) = false := by simpa using v1
    by_cases v2 : v = 2
    · subst v2
      go_wp2_with fail
      refine Calls.mono (dw_pick5 (b := b) (lo := lo) HD.out.src rfl (by unfold I64; omega) (by unfold I64; omega) (by unfold I64; omega) (by unfold I64; omega) (by unfold I64; omega)) ?_
      rintro e wp ⟨u, rfl, hmu, hiu, hd⟩
      have hs_wp := hd.size
      replace X := Lib.hid (X.out.dw hd (by omega))
      replace R := Lib.hid (R.out.dw hd (by omega))
      replace O := Lib.hid (O.out.dw hd (by omega))
      replace HD := Lib.hid (HD.out.trans hd)
      clear hd hmu
      obtain ⟨_, _, y, hye, hyb, hy, hyo, y0, y1, y2⟩ := F3.get O.out.flats hq
      simp only [Option.some.injEq, Addr.mk.injEq, and_true] at hye
      obtain ⟨hy1, hy2⟩ := hye
      subst hy1 hy2
      have yf := O.out.free
      have gl := (O.out.blk _ rfl).2
      simp only [Nat.zero_add] at y0 y1 y2
      unfold I3.ok at hyo
      have x0 := X.out.cell 0
      have x1 := X.out.cell 1
      have x2 := X.out.cell 2
      have xl := X.out.lt
      have xf := X.out.free
      simp only [List.getElem?_toArray, List.getElem?_cons_succ, List.getElem?_cons_zero] at x0 x1 x2
      have hneg : bX ≠ g' := fun e => blk_ne X.out O.out.typN (by decide) (by rw [e])
      have hneg2 : g' ≠ bX := fun e => hneg e.symm
      go_wp2_with fail
      obtain ⟨l', hl'⟩ := OwnF.cell3 (j := 2) O.out hq hiu (by omega)
      have hll := hl'.len
      have hgw := (O.out.blk g' rfl).1
      replace X := Lib.hid (X.out.keepG (set_grown g' (q * 3 + 2) (.int .i64 u)) (by simp; omega))
      replace R := Lib.hid (R.out.keepG (set_grown g' (q * 3 + 2) (.int .i64 u)) (by simp; omega))
      replace HD := Lib.hid (HD.out.set (g := g') (by omega) (q * 3 + 2) (.int .i64 u))
      replace O := Lib.hid (show OwnF 3 I3.enc I3.ok 76 _ (w.heap.size + 1) (some ⟨g', 0, none⟩) D.length c' l' from hl')
      clear hl' y0 y1 y2 yf gl
      have hneX : ∀ q, ((some ⟨g', 0, none⟩) : Option Addr) = some ⟨q, 0, none⟩ → (some bX : Option Nat) ≠ some q := fun q e e' => by
        simp only [Option.some.injEq] at e'
        exact blk_ne X.out O.out.typN (by decide) (by rw [e, e'])
      replace R := Lib.hid (((R.out.keepG (set_grown bX 0 (.int .i64 n)) (by simp; omega)).keepG (set_grown bX 1 (.slice (some ⟨g', 0, none⟩) D.length c')) (by simp; omega)).keepG (set_grown bX 2 (.int .i64 rt)) (by simp; omega))
      replace O := Lib.hid (((O.out.keepG (set_grown bX 0 (.int .i64 n)) hneX).keepG (set_grown bX 1 (.slice (some ⟨g', 0, none⟩) D.length c')) hneX).keepG (set_grown bX 2 (.int .i64 rt)) hneX)
      replace X := Lib.hid (((X.out.set 0 (.int .i64 n)).set 1 (.slice (some ⟨g', 0, none⟩) D.length c')).set 2 (.int .i64 rt))
      replace HD := Lib.hid (((HD.out.set (g := bX) (by omega) 0 (.int .i64 n)).set (g := bX) (by omega) 1 (.slice (some ⟨g', 0, none⟩) D.length c')).set (g := bX) (by omega) 2 (.int .i64 rt))
      clear x0 x1 x2 xl xf
      simp only [List.setIfInBounds_toArray, List.set_cons_zero, List.set_cons_succ] at X
      have hll9 := Lib.hid (show (l').length = D.length from hll)
      refine Calls.mono (dw_next (b := b) (lo := lo) (n := 40) HD.out.src (by first | decide | (unfold I64; omega))) ?_
      rintro e wt ⟨t, rfl, t0, t1, hd⟩
      replace t1 : t < 40 := by omega
      have hs_wt := hd.size
      replace X := Lib.hid (X.out.dw hd (by omega))
      replace R := Lib.hid (R.out.dw hd (by omega))
      replace O := Lib.hid (O.out.dw hd (by omega))
      replace HD := Lib.hid (HD.out.trans hd)
      clear hd
      by_cases ht9 : t = 0
      · subst ht9
        go_wp2_with fail
        refine Calls.mono (dw_pick3 (b := b) (lo := lo) HD.out.src rfl (by unfold I64; omega) (by unfold I64; omega) (by unfold I64; omega)) ?_
        rintro e wu ⟨u, rfl, hmu, hiu, hd⟩
        have hs_wu := hd.size
        replace X := Lib.hid (X.out.dw hd (by omega))
        replace R := Lib.hid (R.out.dw hd (by omega))
        replace O := Lib.hid (O.out.dw hd (by omega))
        replace HD := Lib.hid (HD.out.trans hd)
        clear hd
        unfold I64 at hiu
        have x0 := X.out.cell 0
        have x1 := X.out.cell 1
        have x2 := X.out.cell 2
        have xl := X.out.lt
        have xf := X.out.free
        simp only [List.getElem?_toArray, List.getElem?_cons_succ, List.getElem?_cons_zero] at x0 x1 x2
        have r0 := R.out.cell 0
        have r1 := R.out.cell 1
        have r2 := R.out.cell 2
        have rl := R.out.lt
        have rf := R.out.free
        simp only [List.getElem?_toArray, List.getElem?_cons_succ, List.getElem?_cons_zero] at r0 r1 r2
        go_wp2_with fail
        have hneX : ∀ q, ((some ⟨g', 0, none⟩) : Option Addr) = some ⟨q, 0, none⟩ → (some bX : Option Nat) ≠ some q := fun q e e' => by
          simp only [Option.some.injEq] at e'
          exact blk_ne X.out O.out.typN (by decide) (by rw [e, e'])
        have hDE := (((HD.out.set (g := bX) (by omega) 0 (.int .i64 u)).set (g := w.heap.size) (Nat.le_refl _) 0 (.int .i64 u)).set (g := w.heap.size) (Nat.le_refl _) 1 (.slice (some ⟨g', 0, none⟩) D.length c')).set (g := w.heap.size) (Nat.le_refl _) 2 (.int .i64 rt)
        have hneR : ∀ q, ((some ⟨g', 0, none⟩) : Option Addr) = some ⟨q, 0, none⟩ → (some w.heap.size : Option Nat) ≠ some q := fun q e e' => by
          have := (O.out.blk q e).1
          simp at e'
          omega
        refine bodyPost_ret (v := .agg #[.int .i64 u, .slice (some ⟨g', 0, none⟩) D.length c', .int .i64 rt]) (by simp [results, Try.results70, go_sem, *]) rfl ⟨u, (some ⟨g', 0, none⟩), c', l', rt, (by rw [hll9.out]), by unfold I64; omega, by (try simp); omega, by unfold I64; omega, ?_, hDE⟩
        rw [hll9.out]
        exact ((((O.out.keepG (set_grown _ _ _) hneX).keepG (set_grown _ _ _) hneR).keepG (set_grown _ _ _) hneR).keepG (set_grown _ _ _) hneR).le (by omega)
      · have t9 : (t == 0) = false := by simpa using ht9
        have x0 := X.out.cell 0
        have x1 := X.out.cell 1
        have x2 := X.out.cell 2
        have xl := X.out.lt
        have xf := X.out.free
        simp only [List.getElem?_toArray, List.getElem?_cons_succ, List.getElem?_cons_zero] at x0 x1 x2
        have r0 := R.out.cell 0
        have r1 := R.out.cell 1
        have r2 := R.out.cell 2
        have rl := R.out.lt
        have rf := R.out.free
        simp only [List.getElem?_toArray, List.getElem?_cons_succ, List.getElem?_cons_zero] at r0 r1 r2
        go_wp2
        have hneR : ∀ q, ((some ⟨g', 0, none⟩) : Option Addr) = some ⟨q, 0, none⟩ → (some w.heap.size : Option Nat) ≠ some q := fun q e e' => by
          have := (O.out.blk q e).1
          simp at e'
          omega
        have hDE := ((HD.out.set (g := w.heap.size) (Nat.le_refl _) 0 (.int .i64 n)).set (g := w.heap.size) (Nat.le_refl _) 1 (.slice (some ⟨g', 0, none⟩) D.length c')).set (g := w.heap.size) (Nat.le_refl _) 2 (.int .i64 rt)
        refine bodyPost_ret (v := .agg #[.int .i64 n, .slice (some ⟨g', 0, none⟩) D.length c', .int .i64 rt]) (by simp [results, Try.results70, go_sem, *]) rfl ⟨n, (some ⟨g', 0, none⟩), c', l', rt, (by rw [hll9.out]), by unfold I64; omega, by (try simp); omega, by unfold I64; omega, ?_, hDE⟩
        rw [hll9.out]
        exact (((O.out.keepG (set_grown _ _ _) hneR).keepG (set_grown _ _ _) hneR).keepG (set_grown _ _ _) hneR).le (by omega)
    have vb2 : (v == 2) = false := by simpa using v2
    by_cases v3 : v = 3
    · subst v3
      obtain ⟨_, _, y, hye, hyb, hy, hyo, y0, y1, y2⟩ := F3.get O.out.flats hn
      simp only [Option.some.injEq, Addr.mk.injEq, and_true] at hye
      obtain ⟨hy1, hy2⟩ := hye
      subst hy1 hy2
      have yf := O.out.free
      have gl := (O.out.blk _ rfl).2
      simp only [Nat.zero_add] at y0 y1 y2
      unfold I3.ok at hyo
      simp only [Nat.zero_mul, Nat.zero_add] at y0 y1 y2
      have x0 := X.out.cell 0
      have x1 := X.out.cell 1
      have x2 := X.out.cell 2
      have xl := X.out.lt
      have xf := X.out.free
      simp only [List.getElem?_toArray, List.getElem?_cons_succ, List.getElem?_cons_zero] at x0 x1 x2
      go_wp2_with (at_builtin; refine appAtL (k := 3) (m := 1) (enc := I3.enc) (ok := I3.ok) rfl _ _ rfl Try.underlying24 Try.infoNode rfl (by decide) (by decide) I3.one9 (w.heap.size + 1) _ _ _ D [y] O.out rfl _ rfl rfl rfl rfl (fun z hz => by simp at hz; rw [hz]; exact hyo) (by decide) (by omega) (by decide) (by omega) ?_; intro g2 c2 w6 h1 h2 h3 h4 h5; have O6 := Lib.hid h1; have X6 := Lib.hid (X.out.keepG h3 (fun e => blk_ne X.out O.out.typN (by decide) (own_block O.out.1 _ e))); have R6 := Lib.hid (R.out.keepG h3 (fun e => blk_ne R.out O.out.typN (by decide) (own_block O.out.1 _ e))); have HD6 := Lib.hid (HD.out.belowG h2 (by omega)); have x1' := X6.out.cell 1; have x0' := X6.out.cell 0; have x2' := X6.out.cell 2; have xl' := X6.out.lt; have xf' := X6.out.free; simp only [List.getElem?_toArray, List.getElem?_cons_succ, List.getElem?_cons_zero] at x0' x1' x2'; clear h1 h2 h3 h4)
      replace X := X6
      replace R := R6
      replace O := O6
      replace HD := HD6
      clear X6 R6 O6 HD6 x0' x1' x2' xl' xf' y0 y1 y2 yf gl
      have hneX : ∀ q, ((some ⟨g2, 0, none⟩) : Option Addr) = some ⟨q, 0, none⟩ → (some bX : Option Nat) ≠ some q := fun q e e' => by
        simp only [Option.some.injEq] at e'
        exact blk_ne X.out O.out.typN (by decide) (by rw [e, e'])
      replace R := Lib.hid (((R.out.keepG (set_grown bX 0 (.int .i64 n)) (by simp; omega)).keepG (set_grown bX 1 (.slice (some ⟨g2, 0, none⟩) (D.length + 1) c2)) (by simp; omega)).keepG (set_grown bX 2 (.int .i64 rt)) (by simp; omega))
      replace O := Lib.hid (((O.out.keepG (set_grown bX 0 (.int .i64 n)) hneX).keepG (set_grown bX 1 (.slice (some ⟨g2, 0, none⟩) (D.length + 1) c2)) hneX).keepG (set_grown bX 2 (.int .i64 rt)) hneX)
      replace X := Lib.hid (((X.out.set 0 (.int .i64 n)).set 1 (.slice (some ⟨g2, 0, none⟩) (D.length + 1) c2)).set 2 (.int .i64 rt))
      replace HD := Lib.hid (((HD.out.set (g := bX) (by omega) 0 (.int .i64 n)).set (g := bX) (by omega) 1 (.slice (some ⟨g2, 0, none⟩) (D.length + 1) c2)).set (g := bX) (by omega) 2 (.int .i64 rt))
      clear x0 x1 x2 xl xf
      simp only [List.setIfInBounds_toArray, List.set_cons_zero, List.set_cons_succ] at X
      have hll9 := Lib.hid (show ((D ++ [y])).length = (D.length + 1) from (by rw [List.length_append]; rfl))
      refine Calls.mono (dw_next (b := b) (lo := lo) (n := 40) HD.out.src (by first | decide | (unfold I64; omega))) ?_
      rintro e wt ⟨t, rfl, t0, t1, hd⟩
      replace t1 : t < 40 := by omega
      have hs_wt := hd.size
      replace X := Lib.hid (X.out.dw hd (by omega))
      replace R := Lib.hid (R.out.dw hd (by omega))
      replace O := Lib.hid (O.out.dw hd (by omega))
      replace HD := Lib.hid (HD.out.trans hd)
      clear hd
      by_cases ht9 : t = 0
      · subst ht9
        go_wp2_with fail
        refine Calls.mono (dw_pick3 (b := b) (lo := lo) HD.out.src rfl (by unfold I64; omega) (by unfold I64; omega) (by unfold I64; omega)) ?_
        rintro e wu ⟨u, rfl, hmu, hiu, hd⟩
        have hs_wu := hd.size
        replace X := Lib.hid (X.out.dw hd (by omega))
        replace R := Lib.hid (R.out.dw hd (by omega))
        replace O := Lib.hid (O.out.dw hd (by omega))
        replace HD := Lib.hid (HD.out.trans hd)
        clear hd
        unfold I64 at hiu
        have x0 := X.out.cell 0
        have x1 := X.out.cell 1
        have x2 := X.out.cell 2
        have xl := X.out.lt
        have xf := X.out.free
        simp only [List.getElem?_toArray, List.getElem?_cons_succ, List.getElem?_cons_zero] at x0 x1 x2
        have r0 := R.out.cell 0
        have r1 := R.out.cell 1
        have r2 := R.out.cell 2
        have rl := R.out.lt
        have rf := R.out.free
        simp only [List.getElem?_toArray, List.getElem?_cons_succ, List.getElem?_cons_zero] at r0 r1 r2
        go_wp2_with fail
        have hneX : ∀ q, ((some ⟨g2, 0, none⟩) : Option Addr) = some ⟨q, 0, none⟩ → (some bX : Option Nat) ≠ some q := fun q e e' => by
          simp only [Option.some.injEq] at e'
          exact blk_ne X.out O.out.typN (by decide) (by rw [e, e'])
        have hDE := (((HD.out.set (g := bX) (by omega) 0 (.int .i64 u)).set (g := w.heap.size) (Nat.le_refl _) 0 (.int .i64 u)).set (g := w.heap.size) (Nat.le_refl _) 1 (.slice (some ⟨g2, 0, none⟩) (D.length + 1) c2)).set (g := w.heap.size) (Nat.le_refl _) 2 (.int .i64 rt)
        have hneR : ∀ q, ((some ⟨g2, 0, none⟩) : Option Addr) = some ⟨q, 0, none⟩ → (some w.heap.size : Option Nat) ≠ some q := fun q e e' => by
          have := (O.out.blk q e).1
          simp at e'
          omega
        refine bodyPost_ret (v := .agg #[.int .i64 u, .slice (some ⟨g2, 0, none⟩) (D.length + 1) c2, .int .i64 rt]) (by simp [results, Try.results70, go_sem, *]) rfl ⟨u, (some ⟨g2, 0, none⟩), c2, (D ++ [y]), rt, (by rw [hll9.out]), by unfold I64; omega, by (try simp); omega, by unfold I64; omega, ?_, hDE⟩
        rw [hll9.out]
        exact ((((O.out.keepG (set_grown _ _ _) hneX).keepG (set_grown _ _ _) hneR).keepG (set_grown _ _ _) hneR).keepG (set_grown _ _ _) hneR).le (by omega)
      · have t9 : (t == 0) = false := by simpa using ht9
        have x0 := X.out.cell 0
        have x1 := X.out.cell 1
        have x2 := X.out.cell 2
        have xl := X.out.lt
        have xf := X.out.free
        simp only [List.getElem?_toArray, List.getElem?_cons_succ, List.getElem?_cons_zero] at x0 x1 x2
        have r0 := R.out.cell 0
        have r1 := R.out.cell 1
        have r2 := R.out.cell 2
        have rl := R.out.lt
        have rf := R.out.free
        simp only [List.getElem?_toArray, List.getElem?_cons_succ, List.getElem?_cons_zero] at r0 r1 r2
        go_wp2
        have hneR : ∀ q, ((some ⟨g2, 0, none⟩) : Option Addr) = some ⟨q, 0, none⟩ → (some w.heap.size : Option Nat) ≠ some q := fun q e e' => by
          have := (O.out.blk q e).1
          simp at e'
          omega
        have hDE := ((HD.out.set (g := w.heap.size) (Nat.le_refl _) 0 (.int .i64 n)).set (g := w.heap.size) (Nat.le_refl _) 1 (.slice (some ⟨g2, 0, none⟩) (D.length + 1) c2)).set (g := w.heap.size) (Nat.le_refl _) 2 (.int .i64 rt)
        refine bodyPost_ret (v := .agg #[.int .i64 n, .slice (some ⟨g2, 0, none⟩) (D.length + 1) c2, .int .i64 rt]) (by simp [results, Try.results70, go_sem, *]) rfl ⟨n, (some ⟨g2, 0, none⟩), c2, (D ++ [y]), rt, (by rw [hll9.out]), by unfold I64; omega, by (try simp); omega, by unfold I64; omega, ?_, hDE⟩
        rw [hll9.out]
        exact (((O.out.keepG (set_grown _ _ _) hneR).keepG (set_grown _ _ _) hneR).keepG (set_grown _ _ _) hneR).le (by omega)
    have vb3 : (v == 3) = false := by simpa using v3
    by_cases v4 : v = 4
    · subst v4
      have x0 := X.out.cell 0
      have x1 := X.out.cell 1
      have x2 := X.out.cell 2
      have xl := X.out.lt
      have xf := X.out.free
      simp only [List.getElem?_toArray, List.getElem?_cons_succ, List.getElem?_cons_zero] at x0 x1 x2
      go_wp2_with fail
      refine wp_region_noPanic ?_
      refine wp_region_M (L := 9) (S := (fun wx => wx.cell? ⟨bX, 0, none⟩ = some (.int .i64 n) ∧ wx.cell? ⟨bX, 2, none⟩ = some (.int .i64 rt) ∧ bX < wx.heap.size)) (by kernel_rfl) ?_ (fun hHeld => ?_)
      · exact ⟨x0, x2, xl⟩
      clear x0 x1 x2 xl xf
      have e9 : IntKind.i64.wrap (rt + 2) = rt + 2 := IntWalk.i64_in _ (by omega)
      refine wpAnyM_take (i := 0) (v := ?_) (by simp only [List.getElem?_toArray, List.getElem?_cons_succ, List.getElem?_cons_zero] <;> rfl) (by kernel_rfl) (by kernel_rfl) (by kernel_rfl) (by kernel_rfl) (by kernel_rfl) (fun _ _ _ h => h) (Or.inl ⟨by rfl, ?_⟩) (by assumption) ?_
      rotate_left
      · (intro wv hSw; (try dsimp only at hSw); obtain ⟨h1, h2, h3⟩ := hSw; go_simp; try with_reducible rfl)
      try simp only [Act.put, List.setIfInBounds_toArray, List.set_cons_zero, List.set_cons_succ]
      refine wpAnyM_take (i := 1) (v := ?_) (by simp only [List.getElem?_toArray, List.getElem?_cons_succ, List.getElem?_cons_zero] <;> rfl) (by kernel_rfl) (by kernel_rfl) (by kernel_rfl) (by kernel_rfl) (by kernel_rfl) (fun _ _ _ h => h) (Or.inl ⟨by rfl, ?_⟩) (by assumption) ?_
      rotate_left
      · (intro wv hSw; (try dsimp only at hSw); obtain ⟨h1, h2, h3⟩ := hSw; go_simp; try with_reducible rfl)
      try simp only [Act.put, List.setIfInBounds_toArray, List.set_cons_zero, List.set_cons_succ]
      refine wpAnyM_take (i := 2) (v := ?_) (by simp only [List.getElem?_toArray, List.getElem?_cons_succ, List.getElem?_cons_zero] <;> rfl) (by kernel_rfl) (by kernel_rfl) (by kernel_rfl) (by kernel_rfl) (by kernel_rfl) (fun _ _ _ h => h) (Or.inl ⟨by rfl, ?_⟩) (by assumption) ?_
      rotate_left
      · (intro wv hSw; (try dsimp only at hSw); obtain ⟨h1, h2, h3⟩ := hSw; go_simp; try with_reducible rfl)
      try simp only [Act.put, List.setIfInBounds_toArray, List.set_cons_zero, List.set_cons_succ]
      refine wpAnyM_take (i := 3) (v := ?_) (by simp only [List.getElem?_toArray, List.getElem?_cons_succ, List.getElem?_cons_zero] <;> rfl) (by kernel_rfl) (by kernel_rfl) (by kernel_rfl) (by kernel_rfl) (by kernel_rfl) (fun _ _ _ h => h) (Or.inl ⟨by rfl, ?_⟩) (by assumption) ?_
      rotate_left
      · (intro wv hSw; (try dsimp only at hSw); obtain ⟨h1, h2, h3⟩ := hSw; go_simp; try with_reducible rfl)
      try simp only [Act.put, List.setIfInBounds_toArray, List.set_cons_zero, List.set_cons_succ]
      refine wpAnyM_take (i := 4) (v := ?_) (by simp only [List.getElem?_toArray, List.getElem?_cons_succ, List.getElem?_cons_zero] <;> rfl) (by kernel_rfl) (by kernel_rfl) (by kernel_rfl) (by kernel_rfl) (by kernel_rfl) (fun _ _ _ h => h) (Or.inl ⟨by rfl, ?_⟩) (by assumption) ?_
      rotate_left
      · (intro wv hSw; (try dsimp only at hSw); obtain ⟨h1, h2, h3⟩ := hSw; go_simp; try with_reducible rfl)
      try simp only [Act.put, List.setIfInBounds_toArray, List.set_cons_zero, List.set_cons_succ]
      refine wpAnyM_take (i := 5) (v := ?_) (by simp only [List.getElem?_toArray, List.getElem?_cons_succ, List.getElem?_cons_zero] <;> rfl) (by kernel_rfl) (by kernel_rfl) (by kernel_rfl) (by kernel_rfl) (by kernel_rfl) (fun _ _ _ h => h) (Or.inl ⟨by rfl, ?_⟩) (by assumption) ?_
      rotate_left
      · (intro wv hSw; (try dsimp only at hSw); obtain ⟨h1, h2, h3⟩ := hSw; go_simp; try with_reducible rfl)
      try simp only [Act.put, List.setIfInBounds_toArray, List.set_cons_zero, List.set_cons_succ]
      refine wpAnyM_take (i := 6) (v := ?_) (by simp only [List.getElem?_toArray, List.getElem?_cons_succ, List.getElem?_cons_zero] <;> rfl) (by kernel_rfl) (by kernel_rfl) (by kernel_rfl) (by kernel_rfl) (by kernel_rfl) (fun _ _ _ h => h) (Or.inl ⟨by rfl, ?_⟩) (by assumption) ?_
      rotate_left
      · (intro wv hSw; (try dsimp only at hSw); obtain ⟨h1, h2, h3⟩ := hSw; go_simp; try with_reducible rfl)
      try simp only [Act.put, List.setIfInBounds_toArray, List.set_cons_zero, List.set_cons_succ]
      refine wpAnyM_ready (rs := [7]) (by kernel_rfl) (by simp) ?_
      refine AllReadyM.cons rfl (fun K hK => ?_) AllReadyM.nil
      go_simp
      refine Calls.mono (dw_next (b := b) (lo := lo) HD.out.drew.src (by unfold I64; omega)) ?_
      rintro e wz ⟨z, rfl, hz0, hz1, hd⟩
      have hs_wz := hd.size
      replace X := Lib.hid (X.out.drew.dw hd (by omega))
      replace R := Lib.hid (R.out.drew.dw hd (by omega))
      replace O := Lib.hid ((O.out.keep (Below.refl _ _).drew).dw hd (by omega))
      replace HD := Lib.hid (HD.out.drew.trans hd)
      clear hd
      go_wp2_with fail
      refine hK.out _ _ ⟨X.out.cell 0, X.out.cell 2, X.out.lt⟩ (fun hHeld => ?_)
      clear hK K
      try simp only [Act.put, List.setIfInBounds_toArray, List.set_cons_zero, List.set_cons_succ]
      refine wpAnyM_takeP (i := 8) (v := ?_) (by simp only [List.getElem?_toArray, List.getElem?_cons_succ, List.getElem?_cons_zero] <;> rfl) (by decide) (by kernel_rfl) (by kernel_rfl) (by kernel_rfl) (by kernel_rfl) (fun _ _ _ h => h) (Or.inl ⟨by rfl, ?_⟩) (by first | exact (fun _ => by assumption) | exact (fun h => by cases h)) ?_
      rotate_left
      · (intro wv hSw; clear hSw; go_simp; try with_reducible rfl)
      try simp only [Act.put, List.setIfInBounds_toArray, List.set_cons_zero, List.set_cons_succ]
      have r0 := R.out.cell 0
      have r1 := R.out.cell 1
      have r2 := R.out.cell 2
      have rl := R.out.lt
      have rf := R.out.free
      simp only [List.getElem?_toArray, List.getElem?_cons_succ, List.getElem?_cons_zero] at r0 r1 r2
      refine wpAnyM_ready (rs := [9]) (by kernel_rfl) (by simp) ?_
      refine AllReadyM.last rfl (fun K hK => ?_)
      go_simp
      refine hK.out _ _ ?_
      clear hK K
      try simp only [Act.put, List.setIfInBounds_toArray, List.set_cons_zero, List.set_cons_succ]
      refine wpAnyM_done (by kernel_rfl) ?_ _
      refine NoPanic.normal ?_
      clear hHeld
      go_wp2
      have hneR : ∀ q, ((some ⟨g', 0, none⟩) : Option Addr) = some ⟨q, 0, none⟩ → (some w.heap.size : Option Nat) ≠ some q := fun q e e' => by
        have := (O.out.blk q e).1
        simp at e'
        omega
      have hDE := ((HD.out.set (g := w.heap.size) (Nat.le_refl _) 0 (.int .i64 n)).set (g := w.heap.size) (Nat.le_refl _) 1 (.slice (some ⟨g', 0, none⟩) D.length c')).set (g := w.heap.size) (Nat.le_refl _) 2 (.int .i64 z)
      refine bodyPost_ret (v := .agg #[.int .i64 n, .slice (some ⟨g', 0, none⟩) D.length c', .int .i64 z]) (by simp [results, Try.results70, go_sem, *]) rfl ⟨n, (some ⟨g', 0, none⟩), c', D, z, rfl, by unfold I64; omega, by (try simp); omega, by unfold I64; omega, ?_, hDE⟩
      exact (((O.out.keepG (set_grown _ _ _) hneR).keepG (set_grown _ _ _) hneR).keepG (set_grown _ _ _) hneR).le (by omega)
    have vb4 : (v == 4) = false := by simpa using v4
    have x0 := X.out.cell 0
    have x1 := X.out.cell 1
    have x2 := X.out.cell 2
    have xl := X.out.lt
    have xf := X.out.free
    simp only [List.getElem?_toArray, List.getElem?_cons_succ, List.getElem?_cons_zero] at x0 x1 x2
    go_wp2_with fail
    have hneX : ∀ q, ((some ⟨g', 0, none⟩) : Option Addr) = some ⟨q, 0, none⟩ → (some bX : Option Nat) ≠ some q := fun q e e' => by
      simp only [Option.some.injEq] at e'
      exact blk_ne X.out O.out.typN (by decide) (by rw [e, e'])
    replace R := Lib.hid (((R.out.keepG (set_grown bX 0 (.int .i64 n)) (by simp; omega)).keepG (set_grown bX 1 (.slice (some ⟨g', 0, none⟩) D.length c')) (by simp; omega)).keepG (set_grown bX 2 (.int .i64 rt)) (by simp; omega))
    replace O := Lib.hid (((O.out.keepG (set_grown bX 0 (.int .i64 n)) hneX).keepG (set_grown bX 1 (.slice (some ⟨g', 0, none⟩) D.length c')) hneX).keepG (set_grown bX 2 (.int .i64 rt)) hneX)
    replace X := Lib.hid (((X.out.set 0 (.int .i64 n)).set 1 (.slice (some ⟨g', 0, none⟩) D.length c')).set 2 (.int .i64 rt))
    replace HD := Lib.hid (((HD.out.set (g := bX) (by omega) 0 (.int .i64 n)).set (g := bX) (by omega) 1 (.slice (some ⟨g', 0, none⟩) D.length c')).set (g := bX) (by omega) 2 (.int .i64 rt))
    clear x0 x1 x2 xl xf
    simp only [List.setIfInBounds_toArray, List.set_cons_zero, List.set_cons_succ] at X
    refine Calls.mono (dw_next (b := b) (lo := lo) (n := 40) HD.out.src (by first | decide | (unfold I64; omega))) ?_
    rintro e wt ⟨t, rfl, t0, t1, hd⟩
    replace t1 : t < 40 := by omega
    have hs_wt := hd.size
    replace X := Lib.hid (X.out.dw hd (by omega))
    replace R := Lib.hid (R.out.dw hd (by omega))
    replace O := Lib.hid (O.out.dw hd (by omega))
    replace HD := Lib.hid (HD.out.trans hd)
    clear hd
    by_cases ht9 : t = 0
    · subst ht9
      go_wp2_with fail
      refine Calls.mono (dw_pick3 (b := b) (lo := lo) HD.out.src rfl (by unfold I64; omega) (by unfold I64; omega) (by unfold I64; omega)) ?_
      rintro e wu ⟨u, rfl, hmu, hiu, hd⟩
      have hs_wu := hd.size
      replace X := Lib.hid (X.out.dw hd (by omega))
      replace R := Lib.hid (R.out.dw hd (by omega))
      replace O := Lib.hid (O.out.dw hd (by omega))
      replace HD := Lib.hid (HD.out.trans hd)
      clear hd
      unfold I64 at hiu
      have x0 := X.out.cell 0
      have x1 := X.out.cell 1
      have x2 := X.out.cell 2
      have xl := X.out.lt
      have xf := X.out.free
      simp only [List.getElem?_toArray, List.getElem?_cons_succ, List.getElem?_cons_zero] at x0 x1 x2
      have r0 := R.out.cell 0
      have r1 := R.out.cell 1
      have r2 := R.out.cell 2
      have rl := R.out.lt
      have rf := R.out.free
      simp only [List.getElem?_toArray, List.getElem?_cons_succ, List.getElem?_cons_zero] at r0 r1 r2
      go_wp2_with fail
      have hneX : ∀ q, ((some ⟨g', 0, none⟩) : Option Addr) = some ⟨q, 0, none⟩ → (some bX : Option Nat) ≠ some q := fun q e e' => by
        simp only [Option.some.injEq] at e'
        exact blk_ne X.out O.out.typN (by decide) (by rw [e, e'])
      have hDE := (((HD.out.set (g := bX) (by omega) 0 (.int .i64 u)).set (g := w.heap.size) (Nat.le_refl _) 0 (.int .i64 u)).set (g := w.heap.size) (Nat.le_refl _) 1 (.slice (some ⟨g', 0, none⟩) D.length c')).set (g := w.heap.size) (Nat.le_refl _) 2 (.int .i64 rt)
      have hneR : ∀ q, ((some ⟨g', 0, none⟩) : Option Addr) = some ⟨q, 0, none⟩ → (some w.heap.size : Option Nat) ≠ some q := fun q e e' => by
        have := (O.out.blk q e).1
        simp at e'
        omega
      refine bodyPost_ret (v := .agg #[.int .i64 u, .slice (some ⟨g', 0, none⟩) D.length c', .int .i64 rt]) (by simp [results, Try.results70, go_sem, *]) rfl ⟨u, (some ⟨g', 0, none⟩), c', D, rt, rfl, by unfold I64; omega, by (try simp); omega, by unfold I64; omega, ?_, hDE⟩
      exact ((((O.out.keepG (set_grown _ _ _) hneX).keepG (set_grown _ _ _) hneR).keepG (set_grown _ _ _) hneR).keepG (set_grown _ _ _) hneR).le (by omega)
    · have t9 : (t == 0) = false := by simpa using ht9
      have x0 := X.out.cell 0
      have x1 := X.out.cell 1
      have x2 := X.out.cell 2
      have xl := X.out.lt
      have xf := X.out.free
      simp only [List.getElem?_toArray, List.getElem?_cons_succ, List.getElem?_cons_zero] at x0 x1 x2
      have r0 := R.out.cell 0
      have r1 := R.out.cell 1
      have r2 := R.out.cell 2
      have rl := R.out.lt
      have rf := R.out.free
      simp only [List.getElem?_toArray, List.getElem?_cons_succ, List.getElem?_cons_zero] at r0 r1 r2
      go_wp2
      have hneR : ∀ q, ((some ⟨g', 0, none⟩) : Option Addr) = some ⟨q, 0, none⟩ → (some w.heap.size : Option Nat) ≠ some q := fun q e e' => by
        have := (O.out.blk q e).1
        simp at e'
        omega
      have hDE := ((HD.out.set (g := w.heap.size) (Nat.le_refl _) 0 (.int .i64 n)).set (g := w.heap.size) (Nat.le_refl _) 1 (.slice (some ⟨g', 0, none⟩) D.length c')).set (g := w.heap.size) (Nat.le_refl _) 2 (.int .i64 rt)
      refine bodyPost_ret (v := .agg #[.int .i64 n, .slice (some ⟨g', 0, none⟩) D.length c', .int .i64 rt]) (by simp [results, Try.results70, go_sem, *]) rfl ⟨n, (some ⟨g', 0, none⟩), c', D, rt, rfl, by unfold I64; omega, by (try simp); omega, by unfold I64; omega, ?_, hDE⟩
      exact (((O.out.keepG (set_grown _ _ _) hneR).keepG (set_grown _ _ _) hneR).keepG (set_grown _ _ _) hneR).le (by omega)
  · have hn1 : ¬ (0 : Int) < (D.length : Int) := by omega
    go_wp2_with fail
    rw [← hbX, ← hw2]
    clear hw2 hbX
    refine Calls.mono (dw_next (b := b) (lo := lo) (n := 40) HD.out.src (by first | decide | (unfold I64; omega))) ?_
    rintro e wt ⟨t, rfl, t0, t1, hd⟩
    replace t1 : t < 40 := by omega
    have hs_wt := hd.size
    replace X := Lib.hid (X.out.dw hd (by omega))
    replace R := Lib.hid (R.out.dw hd (by omega))
    replace O := Lib.hid (O.out.dw hd (by omega))
    replace HD := Lib.hid (HD.out.trans hd)
    clear hd
    by_cases ht9 : t = 0
    · subst ht9
      go_wp2_with fail
      refine Calls.mono (dw_pick3 (b := b) (lo := lo) HD.out.src rfl (by unfold I64; omega) (by unfold I64; omega) (by unfold I64; omega)) ?_
      rintro e wu ⟨u, rfl, hmu, hiu, hd⟩
      have hs_wu := hd.size
      replace X := Lib.hid (X.out.dw hd (by omega))
      replace R := Lib.hid (R.out.dw hd (by omega))
      replace O := Lib.hid (O.out.dw hd (by omega))
      replace HD := Lib.hid (HD.out.trans hd)
      clear hd
      unfold I64 at hiu
      have x0 := X.out.cell 0
      have x1 := X.out.cell 1
      have x2 := X.out.cell 2
      have xl := X.out.lt
      have xf := X.out.free
      simp only [List.getElem?_toArray, List.getElem?_cons_succ, List.getElem?_cons_zero] at x0 x1 x2
      have r0 := R.out.cell 0
      have r1 := R.out.cell 1
      have r2 := R.out.cell 2
      have rl := R.out.lt
      have rf := R.out.free
      simp only [List.getElem?_toArray, List.getElem?_cons_succ, List.getElem?_cons_zero] at r0 r1 r2
      go_wp2_with fail
      have hneX : ∀ q, (da : Option Addr) = some ⟨q, 0, none⟩ → (some bX : Option Nat) ≠ some q := fun q e e' => by
        simp only [Option.some.injEq] at e'
        exact blk_ne X.out O.out.typN (by decide) (by rw [e, e'])
      have hDE := (((HD.out.set (g := bX) (by omega) 0 (.int .i64 u)).set (g := w.heap.size) (Nat.le_refl _) 0 (.int .i64 u)).set (g := w.heap.size) (Nat.le_refl _) 1 (.slice da D.length dc)).set (g := w.heap.size) (Nat.le_refl _) 2 (.int .i64 rt)
      have hneR : ∀ q, (da : Option Addr) = some ⟨q, 0, none⟩ → (some w.heap.size : Option Nat) ≠ some q := fun q e e' => by
        have := (O.out.blk q e).1
        simp at e'
        omega
      refine bodyPost_ret (v := .agg #[.int .i64 u, .slice da D.length dc, .int .i64 rt]) (by simp [results, Try.results70, go_sem, *]) rfl ⟨u, da, dc, D, rt, rfl, by unfold I64; omega, by (try simp); omega, by unfold I64; omega, ?_, hDE⟩
      exact ((((O.out.keepG (set_grown _ _ _) hneX).keepG (set_grown _ _ _) hneR).keepG (set_grown _ _ _) hneR).keepG (set_grown _ _ _) hneR).le (by omega)
    · have t9 : (t == 0) = false := by simpa using ht9
      have x0 := X.out.cell 0
      have x1 := X.out.cell 1
      have x2 := X.out.cell 2
      have xl := X.out.lt
      have xf := X.out.free
      simp only [List.getElem?_toArray, List.getElem?_cons_succ, List.getElem?_cons_zero] at x0 x1 x2
      have r0 := R.out.cell 0
      have r1 := R.out.cell 1
      have r2 := R.out.cell 2
      have rl := R.out.lt
      have rf := R.out.free
      simp only [List.getElem?_toArray, List.getElem?_cons_succ, List.getElem?_cons_zero] at r0 r1 r2
      go_wp2
      have hneR : ∀ q, (da : Option Addr) = some ⟨q, 0, none⟩ → (some w.heap.size : Option Nat) ≠ some q := fun q e e' => by
        have := (O.out.blk q e).1
        simp at e'
        omega
      have hDE := ((HD.out.set (g := w.heap.size) (Nat.le_refl _) 0 (.int .i64 n)).set (g := w.heap.size) (Nat.le_refl _) 1 (.slice da D.length dc)).set (g := w.heap.size) (Nat.le_refl _) 2 (.int .i64 rt)
      refine bodyPost_ret (v := .agg #[.int .i64 n, .slice da D.length dc, .int .i64 rt]) (by simp [results, Try.results70, go_sem, *]) rfl ⟨n, da, dc, D, rt, rfl, by unfold I64; omega, by (try simp); omega, by unfold I64; omega, ?_, hDE⟩
      exact (((O.out.keepG (set_grown _ _ _) hneR).keepG (set_grown _ _ _) hneR).keepG (set_grown _ _ _) hneR).le (by omega)
end Go.Proofs.Ytkaikbaagajckaa
