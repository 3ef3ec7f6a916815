/- Draws of diagrams, walked: a valid one. -/
import Derived.Test.YtkaikbaagajckaaVr
import Derived.Test.YtkaikbaagajckaaVs
import Derived.Test.YtkaikbaagajckaaDa
import Derived.Deep.DrawnRows
namespace Go.Proofs.Ytkaikbaagajckaa
open Go.RowKit
set_option linter.unusedVariables false
set_option linter.unusedSimpArgs false
attribute [local go_sem ↓] Go.wp_at_zero Go.wp_at_succ
theorem BldA.dw {w w' : World} {T : TypeId} {lo l b p : Nat} {na : Option Addr} {nc : Nat} {L : List I3} (h : BldA w lo p na nc L) (hd : Dw T l b w w') (hb : b < lo) : BldA w' lo p na nc L :=
  ⟨h.blk.dw hd (by have := h.lop; omega), h.own.dw hd hb, h.lop⟩
/-- some truth value -/
def SomeB (e : Ending) : Prop := ∃ v : Bool, e = .returned (.bool v)
set_option maxHeartbeats 1000000 in
theorem spec_l22Below {lo p nc : Nat} {na : Option Addr} {L : List I3} {r input : Int} {w : World} (hB : BldA w lo p na nc L) (hL : L.length ≤ 1048576) (hr : RefB r L.length) :
    Calls Try.prog 147 #[.pointer (some ⟨p, 0, none⟩), .int .i64 r, .int .i64 input] w fun e w' => SomeB e ∧ w = w' := by
  have p0 := hB.blk.cell 0
  have pl := hB.blk.lt
  simp at p0
  by_cases h2 : r < 2
  · clear hB
    go_enter Try.func147, Try.ntmps147
    go_wp2
    go_ret
    exact ⟨⟨true, rfl⟩, rfl⟩
  · obtain ⟨k, rfl⟩ : ∃ k : Nat, r = (k : Int) + 2 := ⟨(r - 2).toNat, by omega⟩
    have hkn : k < L.length := by have := hr.2; omega
    obtain ⟨b, off, x, rfl, hb, hx, hwf, c0, c1, c2⟩ := F3.get hB.own.flats hkn
    have hk0 : (0 : Int) ≤ (k : Int) := by omega
    have hkn' : (k : Int) < (L.length : Int) := by omega
    have i1 : IntKind.i64.wrap ((k : Int) + 2 - 2) = (k : Int) := by rw [IntWalk.i64_in _ (by omega)]; omega
    clear hB hx
    go_enter Try.func147, Try.ntmps147
    go_wp2
    go_ret
    exact ⟨⟨decide (input < x.a), rfl⟩, rfl⟩
set_option maxRecDepth 100000 in
set_option maxHeartbeats 8000000 in
theorem spec_l22DrawValid {b lo : Nat} {n : Int} {w0 w : World} (hD : Dw 136 lo b w0 w) (h0 : 0 ≤ n) (h20 : n ≤ 20) :
    Calls Try.prog 120 #[.pointer (some ⟨b, 0, none⟩), .int .i64 n] w fun e w' => ∃ da dc D rt, e = .returned (.agg #[.int .i64 n, .slice da (D : List I3).length dc, .int .i64 rt]) ∧ D.length ≤ 100 ∧ RefB rt D.length ∧ OwnF 3 I3.enc I3.ok 76 w' w.heap.size da D.length dc D ∧ Dw 136 lo b w w' := by
  have hbl := hD.src.lt.2
  have HS := Lib.hid hD.start
  have e0 : IntKind.i64.wrap (n - 1) = n - 1 := IntWalk.i64_in _ (by omega)
  clear hD
  go_enter Try.func120, Try.ntmps120
  go_wp2_with fail
  have X0 := Lib.hid ((Blk.made w #[.int .i64 0, .slice none 0 0, .int .i64 0] 26).keep (below_alloc1 (below_alloc1 (Below.refl _ _) (.cells #[.slice none 0 0] 100)) (.cells #[.int .i64 0, .int .i64 1] 2)))
  have B0 := Lib.hid (show BldA (((w.alloc (.cells #[.int .i64 0, .slice none 0 0, .int .i64 0] 26)).alloc (.cells #[.slice none 0 0] 100)).alloc (.cells #[.int .i64 0, .int .i64 1] 2)) (w.heap.size + 1) (w.heap.size + 1) none 0 [] from ⟨(Blk.made1 _ _ _ _).keep (below_alloc1 (Below.refl _ _) _), ⟨World.ownsRow_nil _ _ _ 3, (fun _ h => by cases h), rfl, fun _ => rfl⟩, Nat.le_refl _⟩)
  have O0 := Lib.hid (show OwnI 2 (((w.alloc (.cells #[.int .i64 0, .slice none 0 0, .int .i64 0] 26)).alloc (.cells #[.slice none 0 0] 100)).alloc (.cells #[.int .i64 0, .int .i64 1] 2)) (w.heap.size + 1) (some ⟨w.heap.size + 1 + 1, 0, none⟩) 2 2 [0, 1] from by
    have h := OwnF.lit (k := 1) (m := 2) (enc := enc1) (ok := I64) (E := 2) (cs := #[.int .i64 0, .int .i64 1]) (base := w.heap.size + 1) ((w.alloc (.cells #[.int .i64 0, .slice none 0 0, .int .i64 0] 26)).alloc (.cells #[.slice none 0 0] 100)) [0, 1] (by simp) rfl (by decide) (fun _ => rfl) (fun x hx => by simp at hx; unfold I64; omega) rfl
    have h2 := h.i1
    simpa using h2)
  have D0 := Lib.hid (((HS.out.alloc (.cells #[.int .i64 0, .slice none 0 0, .int .i64 0] 26)).alloc (.cells #[.slice none 0 0] 100)).alloc (.cells #[.int .i64 0, .int .i64 1] 2))
  go_loopw [6, 7] (fun s6 s7 wr => ∃ (g m mc : Nat) (na : Option Addr) (nc : Nat) (L : List I3) (R : List Int) (v : Int), s6 = .slice (some ⟨g, 0, none⟩) m mc ∧ s7 = .int .i64 v ∧ -1 ≤ v ∧ v < n ∧ (m : Int) ≤ 2 + 3 * (n - 1 - v) ∧ 2 ≤ m ∧ (L.length : Int) ≤ 3 * (n - 1 - v) ∧ w.heap.size + 1 + 1 < wr.heap.size ∧ Hid (Dw 136 lo b w wr) ∧ Hid (Blk wr w.heap.size #[.int .i64 0, .slice none 0 0, .int .i64 0] 26) ∧ Hid (BldA wr (w.heap.size + 1) (w.heap.size + 1) na nc L) ∧ Hid (Frst L) ∧ Hid (OwnI 2 wr (w.heap.size + 1) (some ⟨g, 0, none⟩) m mc R) ∧ Hid (∀ r ∈ R, RefB r L.length)) (fun _ s7 _ => (intOf s7 + 1).toNat)
  case atStart => exact ⟨_, 2, 2, none, 0, [], [0, 1], n - 1, rfl, rfl, by omega, by omega, by omega, by omega, by simp, by simp, D0, X0, B0, Lib.hid Frst.nil, O0, Lib.hid (fun r hr => by simp at hr; unfold RefB; simp; omega)⟩
  case round =>
    clear X0 B0 O0 D0
    obtain ⟨g, m, mc, na, nc, L, R, v, rfl, rfl, hv1, hvn, hm, hm2, hl, hsr, HD, X, B, FR, O, RR⟩ := hrel
    by_cases hv : 0 ≤ v
    · have e1 : IntKind.i64.wrap (v - 1) = v - 1 := IntWalk.i64_in _ (by omega)
      go_wp2_with fail
      refine Calls.mono (dw_next (b := b) (lo := lo) HD.out.src (by unfold I64; omega)) ?_
      rintro e w1 ⟨k0, rfl, hk0, hk1, hd⟩
      replace hk1 := hk1.resolve_right (by omega)
      have hs1 := hd.size
      have HD1 := Lib.hid (HD.out.trans hd)
      have X1 := Lib.hid (X.out.dw hd (by omega))
      have B1 := Lib.hid (B.out.dw hd (by omega))
      have O1 := Lib.hid (O.out.dw hd (by omega))
      clear hd HD X B O
      go_wp2_with fail
      go_loopw [6, 8] (fun s6 s8 wr => ∃ (g m mc : Nat) (na : Option Addr) (nc : Nat) (L : List I3) (R : List Int) (k : Int), s6 = .slice (some ⟨g, 0, none⟩) m mc ∧ s8 = .int .i64 k ∧ 0 ≤ k ∧ k ≤ 2 ∧ (m : Int) + k ≤ 2 + 3 * (n - v) ∧ 2 ≤ m ∧ (L.length : Int) + k ≤ 3 * (n - v) ∧ w.heap.size + 1 + 1 < wr.heap.size ∧ Hid (Dw 136 lo b w wr) ∧ Hid (Blk wr w.heap.size #[.int .i64 0, .slice none 0 0, .int .i64 0] 26) ∧ Hid (BldA wr (w.heap.size + 1) (w.heap.size + 1) na nc L) ∧ Hid (Frst L) ∧ Hid (OwnI 2 wr (w.heap.size + 1) (some ⟨g, 0, none⟩) m mc R) ∧ Hid (∀ r ∈ R, RefB r L.length)) (fun _ s8 _ => (intOf s8).toNat)
      case atStart => exact ⟨g, m, mc, na, nc, L, R, k0, rfl, rfl, hk0, by omega, by omega, by omega, by omega, by omega, HD1, X1, B1, FR, O1, RR⟩
      case round =>
        clear HD1 X1 B1 O1 FR RR
        obtain ⟨g, m, mc, na, nc, L, R, k, rfl, rfl, hk0, hk2, hm, hm2, hl, hsr, HD, X, B, FR, O, RR⟩ := hrel
        by_cases hk : 0 < k
        · have e2 : IntKind.i64.wrap (k - 1) = k - 1 := IntWalk.i64_in _ (by omega)
          have hml : R.length = m := O.out.len
          go_wp2_with fail
          refine Calls.mono (dw_next (b := b) (lo := lo) HD.out.src (by unfold I64; omega)) ?_
          rintro e wn2 ⟨r, rfl, r0, r1, hd⟩
          replace r1 := r1.resolve_right (by omega)
          have hs_wn2 := hd.size
          have HD2 := Lib.hid (HD.out.trans hd)
          have X2 := Lib.hid (X.out.dw hd (by omega))
          have B2 := Lib.hid (B.out.dw hd (by omega))
          have O2 := Lib.hid (O.out.dw hd (by omega))
          clear hd HD X B O
          obtain ⟨q, rfl⟩ : ∃ q : Nat, r = (q : Int) := ⟨r.toNat, by omega⟩
          obtain ⟨x, hx, hxi, xcell⟩ := O2.out.cell (k := q) (by omega)
          have gl := O2.out.lt.2
          have hq0 : (0 : Int) ≤ (q : Int) := by omega
          have hq1 : (q : Int) < (m : Int) := by omega
          have RX := Lib.hid (RR.out x (List.mem_of_getElem? hx))
          clear hx
          go_wp2_with fail
          refine Calls.mono (dw_next (b := b) (lo := lo) HD2.out.src (by unfold I64; omega)) ?_
          rintro e wn3 ⟨t, rfl, t0, t1, hd⟩
          replace t1 := t1.resolve_right (by omega)
          have hs_wn3 := hd.size
          have HD3 := Lib.hid (HD2.out.trans hd)
          have X3 := Lib.hid (X2.out.dw hd (by omega))
          have B3 := Lib.hid (B2.out.dw hd (by omega))
          have O3 := Lib.hid (O2.out.dw hd (by omega))
          clear hd HD2 X2 B2 O2
          obtain ⟨q', rfl⟩ : ∃ q : Nat, t = (q : Int) := ⟨t.toNat, by omega⟩
          clear xcell gl
          obtain ⟨y, hy, hyi, ycell⟩ := O3.out.cell (k := q') (by omega)
          have gl := O3.out.lt.2
          have hq0' : (0 : Int) ≤ (q' : Int) := by omega
          have hq1' : (q' : Int) < (m : Int) := by omega
          have RY := Lib.hid (RR.out y (List.mem_of_getElem? hy))
          clear hy
          go_wp2_with fail
          refine Calls.mono (spec_l22Below (input := v) B3.out (by omega) RX.out) ?_
          rintro e _ ⟨⟨v1, rfl⟩, rfl⟩
          cases v1
          · go_wp2_with fail
            go_roundw
            case rel => exact ⟨g, m, mc, na, nc, L, R, k - 1, rfl, by go_num, by omega, by omega, by omega, hm2, by omega, by omega, HD3, X3, B3, FR, O3, RR⟩
            case measure => simp [intOf]; omega
          · go_wp2_with fail
            refine Calls.mono (spec_l22Below (input := v) B3.out (by omega) RY.out) ?_
            rintro e _ ⟨⟨v2, rfl⟩, rfl⟩
            cases v2
            · go_wp2_with fail
              go_roundw
              case rel => exact ⟨g, m, mc, na, nc, L, R, k - 1, rfl, by go_num, by omega, by omega, by omega, hm2, by omega, by omega, HD3, X3, B3, FR, O3, RR⟩
              case measure => simp [intOf]; omega
            · go_wp2_with fail
              refine Calls.mono (spec_l22Node B3.out (by omega) (by unfold I64; omega) hxi hyi (by omega)) ?_
              rintro e w5 ⟨rfl, ⟨na5, nc5, hB5⟩, hF5⟩
              have hb5 : Below (w.heap.size + 1) wn3 w5 := hF5.below (Below.refl _ _) (by omega) (Nat.le_refl _) (Nat.le_refl _) (Nat.le_refl _)
              have hgp : g ≠ w.heap.size + 1 := fun e => by
                obtain ⟨cur, hc⟩ := O3.out.typN rfl
                have h := B3.out.blk
                rw [Blk, ← e, hc] at h
                simp at h
              have HD5 := Lib.hid (HD3.out.belowG hb5 (by omega))
              have X5 := Lib.hid (X3.out.keepB hb5 (by omega))
              have B5 := Lib.hid hB5
              have O5 := Lib.hid (O3.out.atB (hF5.block g O3.out.lt.2 hgp hgp (.inr (fun cs l he => by
                obtain ⟨cur, hc⟩ := O3.out.typN rfl
                rw [hc] at he
                simp at he))))
              have hs5 := hF5.size
              have hA := FR.out.add (i := v) RX.out RY.out
              obtain ⟨t5, ht5, ht51⟩ := mkN_pre L v x y
              have hl5 : (mkN L v x y).1.length = L.length + t5.length := by rw [ht5, List.length_append]
              have hri : I64 (mkN L v x y).2 := by
                have h1 := hA.2.1
                have h2 := hA.2.2
                unfold I64
                omega
              have HA := Lib.hid hA
              have RR5 := Lib.hid (show ∀ r ∈ R ++ [(mkN L v x y).2], RefB r (mkN L v x y).1.length from fun r hr => by
                rcases List.mem_append.1 hr with h | h
                · exact (RR.out r h).mono (by omega)
                · simp at h; rw [h]; exact HA.out.2)
              clear hb5 hB5 hF5 hA ht5 HD3 X3 B3 O3
              go_wp2_with (at_builtin; refine appI1 (z := (mkN L v x y).2) rfl _ _ rfl Try.underlying28 Try.infoi64 (w.heap.size + 1) _ _ _ _ O5.out rfl _ rfl rfl hri (by omega) (by omega) ?_; intro g' c' wn ho hb ht hat hsz; have ON := Lib.hid ho; have XN := Lib.hid (X5.out.keepA ht (blk_ne X5.out O5.out.typN (by decide))); have BN := Lib.hid (show BldA wn (w.heap.size + 1) (w.heap.size + 1) na5 nc5 (mkN L v x y).1 from ⟨B5.out.blk.keepA ht (blk_ne B5.out.blk O5.out.typN (by decide)), B5.out.own.keepT ht (fun q e e' => by (obtain ⟨c1, e1⟩ := B5.out.own.typN e; obtain ⟨c2, e2⟩ := O5.out.typN e'; rw [e2] at e1; simp at e1)), B5.out.lop⟩); have DN := Lib.hid (HD5.out.belowG hb (by omega)); clear ho hb ht hat)
              go_roundw
              case rel => exact ⟨g', m + 1, c', na5, nc5, (mkN L v x y).1, R ++ [(mkN L v x y).2], k - 1, rfl, by go_num, by omega, by omega, by push_cast; omega, by omega, by omega, by omega, DN, XN, BN, Lib.hid HA.out.1, ON, RR5⟩
              case measure => simp [intOf]; omega
        · have hk0' : k = 0 := by omega
          subst hk0'
          go_wp2_with fail
          go_roundw
          case rel => exact ⟨g, m, mc, na, nc, L, R, v - 1, rfl, by go_num, by omega, by omega, by omega, hm2, by omega, by omega, HD, X, B, FR, O, RR⟩
          case measure => simp [intOf]; omega
    · have hv9 : ¬ 0 ≤ v := hv
      obtain ⟨k, rfl⟩ : ∃ k, m = k + 1 := ⟨m - 1, by omega⟩
      obtain ⟨rt, hrt, hrti, rcell⟩ := O.out.cell (k := k) (by omega)
      have hrr := RR.out rt (List.mem_of_getElem? hrt)
      have hcm := canm_ref FR.out hrr
      have e4 : IntKind.i64.wrap (k : Int) = (k : Int) := IntWalk.i64_in _ (by omega)
      have e3 : IntKind.i64.wrap ((k : Int) + 1 - 1) = (k : Int) := by rw [IntWalk.i64_in _ (by omega)]; omega
      have hk0 : (0 : Int) ≤ (k : Int) := by omega
      have hk1 : (k : Int) < (k : Int) + 1 := by omega
      have p0 := B.out.blk.cell 0
      have pl := B.out.blk.lt
      have gl := O.out.lt.2
      simp only [List.getElem?_toArray, List.getElem?_cons_zero] at p0
      clear hrt
      go_wp2_with fail
      refine wp_region_noPanic ?_
      refine wp_region_M (L := 12) (S := (fun wx => wx.cell? ⟨w.heap.size + 1, 0, none⟩ = some (.slice na L.length nc) ∧ wx.cell? ⟨g, k, none⟩ = some (.int .i64 rt) ∧ w.heap.size + 1 < wx.heap.size ∧ g < wx.heap.size ∧ Below wr.heap.size wr wx)) (by kernel_rfl) ?_ (fun hHeld => ?_)
      · exact ⟨p0, rcell, pl, gl, (Below.refl _ _).drew⟩
      clear p0 rcell pl gl
      refine wpAnyM_take (i := 0) (v := ?_) (by simp only [List.getElem?_toArray, List.getElem?_cons_succ, List.getElem?_cons_zero] <;> rfl) (by kernel_rfl) (by kernel_rfl) (by kernel_rfl) (by kernel_rfl) (by kernel_rfl) (fun _ _ _ h => h) (Or.inl ⟨by rfl, ?_⟩) (by assumption) ?_
      rotate_left
      · (intro wv hSw; (try dsimp only at hSw); obtain ⟨h1, h2, h3, h4, h5⟩ := hSw; go_simp; try with_reducible rfl)
      try simp only [Act.put, List.setIfInBounds_toArray, List.set_cons_zero, List.set_cons_succ]
      refine wpAnyM_take (i := 1) (v := ?_) (by simp only [List.getElem?_toArray, List.getElem?_cons_succ, List.getElem?_cons_zero] <;> rfl) (by kernel_rfl) (by kernel_rfl) (by kernel_rfl) (by kernel_rfl) (by kernel_rfl) (fun _ _ _ h => h) (Or.inl ⟨by rfl, ?_⟩) (by assumption) ?_
      rotate_left
      · (intro wv hSw; (try dsimp only at hSw); obtain ⟨h1, h2, h3, h4, h5⟩ := hSw; go_simp; try with_reducible rfl)
      try simp only [Act.put, List.setIfInBounds_toArray, List.set_cons_zero, List.set_cons_succ]
      refine wpAnyM_take (i := 2) (v := ?_) (by simp only [List.getElem?_toArray, List.getElem?_cons_succ, List.getElem?_cons_zero] <;> rfl) (by kernel_rfl) (by kernel_rfl) (by kernel_rfl) (by kernel_rfl) (by kernel_rfl) (fun _ _ _ h => h) (Or.inl ⟨by rfl, ?_⟩) (by assumption) ?_
      rotate_left
      · (intro wv hSw; (try dsimp only at hSw); obtain ⟨h1, h2, h3, h4, h5⟩ := hSw; go_simp; try with_reducible rfl)
      try simp only [Act.put, List.setIfInBounds_toArray, List.set_cons_zero, List.set_cons_succ]
      refine wpAnyM_take (i := 3) (v := ?_) (by simp only [List.getElem?_toArray, List.getElem?_cons_succ, List.getElem?_cons_zero] <;> rfl) (by kernel_rfl) (by kernel_rfl) (by kernel_rfl) (by kernel_rfl) (by kernel_rfl) (fun _ _ _ h => h) (Or.inl ⟨by rfl, ?_⟩) (by assumption) ?_
      rotate_left
      · (intro wv hSw; (try dsimp only at hSw); obtain ⟨h1, h2, h3, h4, h5⟩ := hSw; go_simp; try with_reducible rfl)
      try simp only [Act.put, List.setIfInBounds_toArray, List.set_cons_zero, List.set_cons_succ]
      refine wpAnyM_take (i := 4) (v := ?_) (by simp only [List.getElem?_toArray, List.getElem?_cons_succ, List.getElem?_cons_zero] <;> rfl) (by kernel_rfl) (by kernel_rfl) (by kernel_rfl) (by kernel_rfl) (by kernel_rfl) (fun _ _ _ h => h) (Or.inl ⟨by rfl, ?_⟩) (by assumption) ?_
      rotate_left
      · (intro wv hSw; (try dsimp only at hSw); obtain ⟨h1, h2, h3, h4, h5⟩ := hSw; go_simp; try with_reducible rfl)
      try simp only [Act.put, List.setIfInBounds_toArray, List.set_cons_zero, List.set_cons_succ]
      refine wpAnyM_take (i := 5) (v := ?_) (by simp only [List.getElem?_toArray, List.getElem?_cons_succ, List.getElem?_cons_zero] <;> rfl) (by kernel_rfl) (by kernel_rfl) (by kernel_rfl) (by kernel_rfl) (by kernel_rfl) (fun _ _ _ h => h) (Or.inl ⟨by rfl, ?_⟩) (by assumption) ?_
      rotate_left
      · (intro wv hSw; (try dsimp only at hSw); obtain ⟨h1, h2, h3, h4, h5⟩ := hSw; go_simp; try with_reducible rfl)
      try simp only [Act.put, List.setIfInBounds_toArray, List.set_cons_zero, List.set_cons_succ]
      refine wpAnyM_take (i := 6) (v := ?_) (by simp only [List.getElem?_toArray, List.getElem?_cons_succ, List.getElem?_cons_zero] <;> rfl) (by kernel_rfl) (by kernel_rfl) (by kernel_rfl) (by kernel_rfl) (by kernel_rfl) (fun _ _ _ h => h) (Or.inl ⟨by rfl, ?_⟩) (by assumption) ?_
      rotate_left
      · (intro wv hSw; (try dsimp only at hSw); obtain ⟨h1, h2, h3, h4, h5⟩ := hSw; go_simp; try with_reducible rfl)
      try simp only [Act.put, List.setIfInBounds_toArray, List.set_cons_zero, List.set_cons_succ]
      refine wpAnyM_take (i := 7) (v := ?_) (by simp only [List.getElem?_toArray, List.getElem?_cons_succ, List.getElem?_cons_zero] <;> rfl) (by kernel_rfl) (by kernel_rfl) (by kernel_rfl) (by kernel_rfl) (by kernel_rfl) (fun _ _ _ h => h) (Or.inl ⟨by rfl, ?_⟩) (by assumption) ?_
      rotate_left
      · (intro wv hSw; (try dsimp only at hSw); obtain ⟨h1, h2, h3, h4, h5⟩ := hSw; go_simp; try with_reducible rfl)
      try simp only [Act.put, List.setIfInBounds_toArray, List.set_cons_zero, List.set_cons_succ]
      refine wpAnyM_take (i := 8) (v := ?_) (by simp only [List.getElem?_toArray, List.getElem?_cons_succ, List.getElem?_cons_zero] <;> rfl) (by kernel_rfl) (by kernel_rfl) (by kernel_rfl) (by kernel_rfl) (by kernel_rfl) (fun _ _ _ h => h) (Or.inl ⟨by rfl, ?_⟩) (by assumption) ?_
      rotate_left
      · (intro wv hSw; (try dsimp only at hSw); obtain ⟨h1, h2, h3, h4, h5⟩ := hSw; go_simp; try with_reducible rfl)
      try simp only [Act.put, List.setIfInBounds_toArray, List.set_cons_zero, List.set_cons_succ]
      refine wpAnyM_take (i := 9) (v := ?_) (by simp only [List.getElem?_toArray, List.getElem?_cons_succ, List.getElem?_cons_zero] <;> rfl) (by kernel_rfl) (by kernel_rfl) (by kernel_rfl) (by kernel_rfl) (by kernel_rfl) (fun _ _ _ h => h) (Or.inl ⟨by rfl, ?_⟩) (by assumption) ?_
      rotate_left
      · (intro wv hSw; (try dsimp only at hSw); obtain ⟨h1, h2, h3, h4, h5⟩ := hSw; go_simp; try with_reducible rfl)
      try simp only [Act.put, List.setIfInBounds_toArray, List.set_cons_zero, List.set_cons_succ]
      refine wpAnyM_take (i := 10) (v := ?_) (by simp only [List.getElem?_toArray, List.getElem?_cons_succ, List.getElem?_cons_zero] <;> rfl) (by kernel_rfl) (by kernel_rfl) (by kernel_rfl) (by kernel_rfl) (by kernel_rfl) (fun _ _ _ h => h) (Or.inl ⟨by rfl, ?_⟩) (by assumption) ?_
      rotate_left
      · (intro wv hSw; (try dsimp only at hSw); obtain ⟨h1, h2, h3, h4, h5⟩ := hSw; go_simp; try with_reducible rfl)
      try simp only [Act.put, List.setIfInBounds_toArray, List.set_cons_zero, List.set_cons_succ]
      refine wpAnyM_ready (rs := [11]) (by kernel_rfl) (by simp) ?_
      refine AllReadyM.cons rfl (fun K hK => ?_) AllReadyM.nil
      go_simp
      (refine Calls.mono (spec_l22Canonical FR.out (by omega) (B.out.own.flats.keep (by first | assumption | (go_split_ands; assumption))) hrr) ?_; rintro e wx2 ⟨da, dc, rfl, hO, hbx⟩; obtain ⟨hcx, hfx⟩ := bcell hbx; have hsx := hbx.size)
      go_wp2_with fail
      refine hK.out _ _ ?_ (fun hHeld => ?_)
      · (try dsimp only); (((try go_split_ands); (repeat' apply And.intro) <;> first | (with_reducible assumption) | (with_reducible exact (hcx _ _ (by assumption)).trans (by assumption)) | (with_reducible exact Nat.lt_of_lt_of_le (by assumption) hsx) | (with_reducible exact below_callS (by assumption) hbx) | (with_reducible exact Below.drew (by assumption)) | (with_reducible exact Go.Proofs.Ytkaikbaagajckaa.cellR_drew (by assumption)) | (with_reducible exact Go.Proofs.Ytkaikbaagajckaa.ltR_drew (by assumption)) | (with_reducible exact (Below.refl _ _).drew)))
      clear hK K
      try simp only [Act.put, List.setIfInBounds_toArray, List.set_cons_zero, List.set_cons_succ]
      have hbh : Below wr.heap.size wr wx2 := hHeld.2.2.2.2
      have XE := Lib.hid (X.out.keep hbh)
      have r0 := XE.out.cell 0
      have r1 := XE.out.cell 1
      have r2 := XE.out.cell 2
      have rl := XE.out.lt
      have rf := XE.out.free
      simp only [List.getElem?_toArray, List.getElem?_cons_succ, List.getElem?_cons_zero] at r0 r1 r2
      have OE := Lib.hid hO
      have hsd : wr.drew.heap.size = wr.heap.size := rfl
      clear hO
      refine wpAnyM_ready (rs := [12]) (by kernel_rfl) (by simp) ?_
      refine AllReadyM.last rfl (fun K hK => ?_)
      go_simp
      refine hK.out _ _ ?_
      clear hK K
      try simp only [Act.put, List.setIfInBounds_toArray, List.set_cons_zero, List.set_cons_succ]
      refine wpAnyM_done (by kernel_rfl) ?_ _
      refine NoPanic.normal ?_
      clear hHeld
      go_wp2
      have hne : ∀ q, da = some ⟨q, 0, none⟩ → (some w.heap.size : Option Nat) ≠ some q := fun q e e' => by
        have := (OE.out.blk q e).1
        simp at e'
        omega
      have hDE := ((((HD.out.below hbh).set (Nat.le_refl _) 0 (.int .i64 n)).set (g := w.heap.size) (Nat.le_refl _) 1 (.slice da (canN mkN L rt).1.length dc)).set (g := w.heap.size) (Nat.le_refl _) 2 (.int .i64 (canN mkN L rt).2))
      refine bodyPost_ret (v := .agg #[.int .i64 n, .slice da (canN mkN L rt).1.length dc, .int .i64 (canN mkN L rt).2]) (by simp [results, Try.results120, go_sem, *]) rfl ⟨da, dc, (canN mkN L rt).1, (canN mkN L rt).2, rfl, by omega, hcm.2.1, ?_, hDE⟩
      exact (((OE.out.keepG (set_grown _ _ _) hne).keepG (set_grown _ _ _) hne).keepG (set_grown _ _ _) hne).le (by omega)
end Go.Proofs.Ytkaikbaagajckaa
