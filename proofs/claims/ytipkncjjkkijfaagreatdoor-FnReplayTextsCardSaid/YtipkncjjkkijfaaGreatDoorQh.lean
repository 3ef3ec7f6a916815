/- The draw of a replay: the reference, walked. -/
import Derived.Test.YtipkncjjkkijfaaGreatDoorZ5
import Derived.Test.YtipkncjjkkijfaaGreatDoorWq
namespace Go.Proofs.YtipkncjjkkijfaaGreatDoor
open Go.RowKit
set_option linter.unusedVariables false
set_option linter.unusedSimpArgs false
attribute [local go_sem ↓] Go.wp_at_zero Go.wp_at_succ
theorem qhOnly {B : Nat} {w w' : World} (hb : Below B w w') : Only B w.heap.size w w' := ⟨hb.os, hb.tape, hb.output, hb.size, fun k hk hr => hb.block k (by omega)⟩
theorem qhNe {α : Type} {k p : Nat} {enc : α → List Value} {ok : α → Prop} {E T : TypeId} {w : World} {base : Nat} {cs : Array Value} {a : Option Addr} {n c : Nat} {l : List α} (h : OwnF k enc ok E w base a n c l) (hm : Blk w p cs T) (hE : E ≠ T) : ∀ g, a = some ⟨g, 0, none⟩ → g < p ∨ p + 1 ≤ g := fun g e => by
  by_cases hg : g = p
  · subst hg
    obtain ⟨cur, h1⟩ := h.ty9 e
    rw [show _ = _ from hm] at h1
    simp only [Option.some.injEq, Obj.cells.injEq] at h1
    exact absurd h1.2.1.symm hE
  · omega
theorem mke200 (w : World) : (Instr.makeSlice 27 (.int .i64 200) (.int .i64 200)).run Tryz.prog w = .ok (.slice (some ⟨w.heap.size, 0, none⟩) 200 200) (w.alloc (.cells ((List.replicate 200 (⟨0, 0, 0⟩ : I3)).flatMap I3.enc).toArray 38)) := by kernel_rfl
theorem mke201 (w : World) : (Instr.makeSlice 27 (.int .i64 201) (.int .i64 201)).run Tryz.prog w = .ok (.slice (some ⟨w.heap.size, 0, none⟩) 201 201) (w.alloc (.cells ((List.replicate 201 (⟨0, 0, 0⟩ : I3)).flatMap I3.enc).toArray 38)) := by kernel_rfl
theorem mkx200 {base : Nat} (w : World) (h : base ≤ w.heap.size) : ∃ w', (Instr.makeSlice 27 (.int .i64 200) (.int .i64 200)).run Tryz.prog w = .ok (.slice (some ⟨w.heap.size, 0, none⟩) 200 200) w' ∧ Below w.heap.size w w' ∧ OwnE w' base (some ⟨w.heap.size, 0, none⟩) 200 200 (List.replicate 200 ⟨0, 0, 0⟩) :=
  ⟨_, mke200 w, below_alloc1 (Below.refl _ _) _, OwnF.zeros (k := 3) (m := 200) (enc := I3.enc) (ok := I3.ok) (E := 38) (base := base) w ⟨0, 0, 0⟩ h (by decide) (fun _ => rfl) (by exact ⟨by decide, by decide, by decide⟩) rfl⟩
theorem mkx201 {base : Nat} (w : World) (h : base ≤ w.heap.size) : ∃ w', (Instr.makeSlice 27 (.int .i64 201) (.int .i64 201)).run Tryz.prog w = .ok (.slice (some ⟨w.heap.size, 0, none⟩) 201 201) w' ∧ Below w.heap.size w w' ∧ OwnE w' base (some ⟨w.heap.size, 0, none⟩) 201 201 (List.replicate 201 ⟨0, 0, 0⟩) :=
  ⟨_, mke201 w, below_alloc1 (Below.refl _ _) _, OwnF.zeros (k := 3) (m := 201) (enc := I3.enc) (ok := I3.ok) (E := 38) (base := base) w ⟨0, 0, 0⟩ h (by decide) (fun _ => rfl) (by exact ⟨by decide, by decide, by decide⟩) rfl⟩
set_option maxRecDepth 100000 in
set_option maxHeartbeats 4000000 in
theorem spec_l25Draw {b lo : Nat} {w : World} (hS : Src 65 w lo b) :
    Calls Tryz.prog 14 #[.pointer (some ⟨b, 0, none⟩)] w fun e w' => ∃ (B : Int) (a am : Option Addr) (n c m mc : Nat) (l : List Int) (evs : List I3), e = .returned (.tuple #[.agg #[.int .i64 B, .slice a n c], .slice am m mc]) ∧ OwnI 2 w' w.heap.size a n c l ∧ n ≤ 5 ∧ OwnE w' w.heap.size am m mc evs ∧ m ≤ 201 ∧ Dw 65 lo b w w' := by
  obtain ⟨wA, hwA⟩ : ∃ v, v = w.alloc (.cells #[.int .i64 0, .slice none 0 0] 26) := ⟨_, rfl⟩
  have hbA : Below w.heap.size w wA := by rw [hwA]; exact below_alloc1 (Below.refl _ _) _
  have hsA : wA.heap.size = w.heap.size + 1 := by rw [hwA]; exact Array.size_push _
  have R := Lib.hid (show Blk wA w.heap.size #[.int .i64 0, .slice none 0 0] 26 by rw [hwA]; exact Blk.made w _ _)
  have D := Lib.hid ((Dw.of hS).below hbA)
  have hbl := hS.lt.2
  clear hS
  go_enter Tryz.func14, Tryz.ntmps14
  go_upto_region 1 with fail
  rw [← hwA]
  clear hwA
  go_wp2_with fail
  refine Calls.mono (spec_l10Draw D.out) ?_
  rintro e w1 ⟨B, a, n, c, l, rfl, ho, hn5, hB1, hB9, hd⟩
  have hs1 := hd.size
  replace D := Lib.hid (D.out.trans hd)
  replace R := Lib.hid (R.out.dw hd (by omega))
  have O := Lib.hid (ho.le (show w.heap.size ≤ _ by omega))
  clear hd ho hbA
  obtain ⟨wB, hwB⟩ : ∃ v, v = w1.alloc (.cells #[.int .i64 B, .slice a n c] 26) := ⟨_, rfl⟩
  have hbB : Below w1.heap.size w1 wB := by rw [hwB]; exact below_alloc1 (Below.refl _ _) _
  have X := Lib.hid (show Blk wB w1.heap.size #[.int .i64 B, .slice a n c] 26 by rw [hwB]; exact Blk.made w1 _ _)
  have hsB := hbB.size
  replace D := Lib.hid (D.out.below hbB)
  replace R := Lib.hid (R.out.keep hbB)
  replace O := Lib.hid (O.out.keep hbB)
  go_upto_region 2 with fail
  rw [← hwB]
  clear hwB hbB
  have hpx : w.heap.size + 1 ≤ w1.heap.size := by omega
  generalize w1.heap.size = px at *
  obtain ⟨wC, hwC⟩ : ∃ v, v = wB.alloc (.cells #[] 38) := ⟨_, rfl⟩
  have hbC : Below wB.heap.size wB wC := by rw [hwC]; exact below_alloc1 (Below.refl _ _) _
  have E := Lib.hid (show OwnE wC w.heap.size (some ⟨wB.heap.size, 0, none⟩) 0 0 [] by rw [hwC]; exact OwnF.emp wB (by omega) (fun _ => rfl))
  have hsC := hbC.size
  replace D := Lib.hid (D.out.below hbC)
  replace R := Lib.hid (R.out.keep hbC)
  replace O := Lib.hid (O.out.keep hbC)
  replace X := Lib.hid (X.out.keep hbC)
  go_upto_region 3 with fail
  rw [← hwC]
  clear hwC hbC
  go_wp2_with fail
  refine Calls.mono (dw_next D.out.src (by decide)) ?_
  rintro e w2 ⟨r1, rfl, h10, h11, hd⟩
  have hs2 := hd.size
  replace D := Lib.hid (D.out.trans hd)
  replace R := Lib.hid (R.out.dw hd (by omega))
  replace O := Lib.hid (O.out.dw hd hbl)
  replace X := Lib.hid (X.out.dw hd (by omega))
  replace E := Lib.hid (E.out.dw hd hbl)
  clear hd
  go_wp2_with fail
  go_loopw [5, 6] (fun s5 s6 wr => ∃ (k : Int) (q cq : Nat) (aq : Option Addr) (L : List I3), s5 = .slice aq q cq ∧ s6 = .int .i64 k ∧ 0 ≤ k ∧ (q : Int) + k ≤ 14 ∧ w.heap.size + 2 ≤ wr.heap.size ∧ Hid (Dw 65 lo b w wr) ∧ Hid (Blk wr w.heap.size #[.int .i64 0, .slice none 0 0] 26) ∧ Hid (Blk wr px #[.int .i64 B, .slice a n c] 26) ∧ Hid (OwnI 2 wr w.heap.size a n c l) ∧ Hid (OwnE wr w.heap.size aq q cq L)) (fun _ s6 _ => (intOf s6).toNat)
  case atStart => exact ⟨r1, 0, 0, _, [], rfl, rfl, h10, by omega, by have := X.out.lt; omega, D, R, X, O, E⟩
  case round =>
    clear D R X O E
    obtain ⟨k, q, cq, aq, L, rfl, rfl, hk0, hqk, hsr, D, R, X, O, E⟩ := hrel
    by_cases hk : 0 < k
    · go_upto_region 6 with fail
      refine wp_region_noPanic ?_
      refine wp_region_held_drew (S := fun wx => Blk wx px #[.int .i64 B, .slice a n c] 26 ∧ True) (by kernel_rfl) ?_ (fun hHeld => ?_)
      · exact ⟨X.out.keep (Below.refl _ _).drew, trivial⟩
      refine tkH0 1 (v := ?_) ?_ ?_
      rotate_left
      · (intro wv hSw; clear hSw; go_simp; try with_reducible rfl)
      try simp only [Act.put, s1, s2, s3]
      refine tkH0 3 (v := ?_) ?_ ?_
      rotate_left
      · (intro wv hSw; clear hSw; go_simp; try with_reducible rfl)
      try simp only [Act.put, s1, s2, s3]
      refine tkH0 4 (v := ?_) ?_ ?_
      rotate_left
      · (intro wv hSw; obtain ⟨hq, hq9⟩ := hSw; have q0 := hq.cell 0; have q1 := hq.cell 1; have zl := hq.lt; simp only [List.getElem?_toArray, List.getElem?_cons_zero, List.getElem?_cons_succ] at q0 q1; go_simp; try with_reducible rfl)
      try simp only [Act.put, s1, s2, s3]
      have hpr := X.out.lt
      have HO := Lib.hid (fun g e => (O.out.blk g e).2)
      have hqr := E.out.len
      have HE := Lib.hid (fun g e => (E.out.blk g e).2)
      refine wpAnyH_ready (rs := [0]) (by kernel_rfl) (by simp) ?_
      refine AllReadyH.cons rfl (fun K hK => ?_) AllReadyH.nil
      go_simp
      obtain ⟨w3, hw3⟩ : ∃ v, v = (wr.alloc (.cells #[] 38)).drew := ⟨_, rfl⟩
      have hb3 : Below wr.heap.size wr w3 := by rw [hw3]; exact (below_alloc1 (Below.refl _ _) _).drew
      have N := Lib.hid (show OwnE w3 wr.heap.size (some ⟨wr.heap.size, 0, none⟩) 0 0 [] by rw [hw3]; exact (OwnF.emp (k := 3) (enc := I3.enc) (ok := I3.ok) (E := 38) wr (Nat.le_refl _) (fun _ => rfl)).keep (Below.refl _ _).drew)
      have hs3 := hb3.size
      rw [← hw3]
      clear hw3 hHeld
      refine hK.out _ _ ⟨X.out.keep hb3, trivial⟩ (fun hHeld => ?_)
      clear hK K
      try simp only [Act.put, s1, s2, s3]
      refine wpAnyH_ready (rs := [2]) (by kernel_rfl) (by simp) ?_
      refine AllReadyH.cons rfl (fun K hK => ?_) AllReadyH.nil
      refine wp_appendL_F (k := 3) (enc := I3.enc) (ok := I3.ok) _ _ 27 38 rfl Tryz.underlying27 Tryz.infoReplayEvent rfl (by decide) (by decide) I3.one3 wr.heap.size _ _ _ _ N.out rfl _ _ _ _ rfl (E.out.keep hb3).flats (by decide) (by omega) (by omega) ?_
      intro a4 c4 w4 ho4 hb4 hg4
      (try simp only [Nat.zero_add, List.nil_append] at ho4)
      (try simp only [Nat.zero_add])
      have hb5 := hb3.trans hb4
      replace D := Lib.hid (D.out.below hb5)
      replace R := Lib.hid (R.out.keep hb5)
      replace X := Lib.hid (X.out.keep hb5)
      replace O := Lib.hid (O.out.keep hb5)
      have E4 := Lib.hid (E.out.keep hb5)
      have hs4 := hb5.size
      have N4 := Lib.hid ho4
      clear E N hb3 hb4 hb5 hg4 ho4 hHeld
      refine hK.out _ _ ⟨X.out, trivial⟩ (fun hHeld => ?_)
      clear hK K
      try simp only [Act.put, s1, s2, s3]
      refine wpAnyH_ready (rs := [5]) (by kernel_rfl) (by simp) ?_
      refine AllReadyH.cons rfl (fun K hK => ?_) AllReadyH.nil
      go_simp
      refine Calls.mono (spec_l25DrawEvent D.out.src hn5 hB1 hB9) ?_
      rintro e w5 ⟨x, rfl, hx, hd⟩
      have hs5 := hd.size
      replace D := Lib.hid (D.out.trans hd)
      replace R := Lib.hid (R.out.dw hd (by omega))
      replace O := Lib.hid (O.out.dw hd (by omega))
      replace X := Lib.hid (X.out.dw hd (by omega))
      replace N4 := Lib.hid (N4.out.dw hd (by omega))
      replace E4 := Lib.hid (E4.out.dw hd (by omega))
      clear hd hHeld
      go_simp
      refine hK.out _ _ ⟨X.out, trivial⟩ (fun hHeld => ?_)
      clear hK K
      try simp only [Act.put, s1, s2, s3]
      refine wpAnyH_ready (rs := [6]) (by kernel_rfl) (by simp) ?_
      refine AllReadyH.cons rfl (fun K hK => ?_) AllReadyH.nil
      go_simp
      obtain ⟨w6, hw6⟩ : ∃ v, v = w5.alloc (.cells #[.int .i64 x.a, .int .i64 x.b, .int .i64 x.c] 38) := ⟨_, rfl⟩
      have hb6 : Below w5.heap.size w5 w6 := by rw [hw6]; exact below_alloc1 (Below.refl _ _) _
      have LT := Lib.hid (show Blk w6 w5.heap.size #[.int .i64 x.a, .int .i64 x.b, .int .i64 x.c] 38 by rw [hw6]; exact Blk.made w5 _ _)
      have hs6 := hb6.size
      replace D := Lib.hid (D.out.below hb6)
      replace R := Lib.hid (R.out.keep hb6)
      replace O := Lib.hid (O.out.keep hb6)
      replace X := Lib.hid (X.out.keep hb6)
      replace N4 := Lib.hid (N4.out.keep hb6)
      replace E4 := Lib.hid (E4.out.keep hb6)
      rw [← hw6]
      clear hw6 hb6 hHeld
      refine hK.out _ _ ⟨X.out, trivial⟩ (fun hHeld => ?_)
      clear hK K
      try simp only [Act.put, s1, s2, s3]
      refine wpAnyH_ready (rs := [7]) (by kernel_rfl) (by simp) ?_
      refine AllReadyH.cons rfl (fun K hK => ?_) AllReadyH.nil
      refine wp_appAtL (k := 3) (enc := I3.enc) (ok := I3.ok) (cs := #[.int .i64 x.a, .int .i64 x.b, .int .i64 x.c]) _ _ (by rfl) Tryz.underlying27 Tryz.infoReplayEvent (by rfl) (by decide) (by decide) I3.one3 wr.heap.size _ _ _ _ [x] N4.out (by rfl) w5.heap.size (by rfl) LT.out (by simp [I3.enc]) (by rfl) (fun y hy => by simp at hy; rw [hy]; exact hx) (by decide) (by omega) (by decide) (by omega) ?_
      intro g9 c9 wn ho hb hg
      have Dn := Lib.hid (D.out.own hb (by omega))
      have Rn := Lib.hid (R.out.keepB hb (by omega))
      have Xn := Lib.hid (X.out.keepB hb hpr)
      have On := Lib.hid (OwnI.only O.out (qhOnly hb) (fun g e => Or.inl (HO.out g e)))
      have Fn := Lib.hid (OwnF.only E4.out (qhOnly hb) (fun g e => Or.inl (HE.out g e)))
      have En := Lib.hid (ho.le (show w.heap.size ≤ wr.heap.size by omega))
      have hsn := hb.size
      clear ho hb hg hHeld D R O X N4 LT E4
      refine hK.out _ _ ⟨Xn.out, trivial⟩ (fun hHeld => ?_)
      clear hK K
      try simp only [Act.put, s1, s2, s3]
      refine tkH0 8 (v := ?_) ?_ ?_
      rotate_left
      · (intro wv hSw; clear hSw; go_simp; try with_reducible rfl)
      try simp only [Act.put, s1, s2, s3]
      refine wpAnyH_done (by kernel_rfl) ?_ _
      refine NoPanic.normal ?_
      clear hHeld
      have x0 := Xn.out.cell 0
      have x1 := Xn.out.cell 1
      have xl := Xn.out.lt
      simp only [List.getElem?_toArray, List.getElem?_cons_zero, List.getElem?_cons_succ] at x0 x1
      go_wp2_with fail
      refine Calls.mono (spec_RunReplay (l := l) (evs := L ++ [x]) On.out.ints En.out.flats (by omega) (by omega)) ?_
      rintro e w7 ⟨⟨b', a1, a2, n1, c1, n2, c2, kk, rfl⟩, hb7⟩
      replace Dn := Lib.hid (Dn.out.below hb7)
      replace Rn := Lib.hid (Rn.out.keep hb7)
      replace Xn := Lib.hid (Xn.out.keep hb7)
      replace On := Lib.hid (On.out.keep hb7)
      replace En := Lib.hid (En.out.keep hb7)
      replace Fn := Lib.hid (Fn.out.keep hb7)
      have hs7 := hb7.size
      clear hb7 x0 x1 xl
      have hb8 : Below w7.heap.size w7 (w7.alloc (.cells #[.int .i64 b', .slice a1 n1 c1] 26)) := below_alloc1 (Below.refl _ _) _
      have hs8 := hb8.size
      replace Dn := Lib.hid (Dn.out.below hb8)
      replace Rn := Lib.hid (Rn.out.keep hb8)
      replace Xn := Lib.hid (Xn.out.keep hb8)
      replace On := Lib.hid (On.out.keep hb8)
      replace En := Lib.hid (En.out.keep hb8)
      replace Fn := Lib.hid (Fn.out.keep hb8)
      clear hb8
      by_cases hkk : kk = 0
      · subst hkk
        go_wp2_with fail
        go_roundw
        case rel => exact ⟨k - 1, q + 1, c9, _, L ++ [x], rfl, by go_num, by omega, by (try simp only [Nat.cast_add]); omega, by omega, Dn, Rn, Xn, On, En⟩
        case measure => simp [intOf]; omega
      have hkk' : (kk == 0) = false := by simpa using hkk
      go_wp2_with fail
      refine Calls.mono (dw_next Dn.out.src (by decide)) ?_
      rintro e w9 ⟨r9, rfl, h90, h91, hd⟩
      have hs9 := hd.size
      replace Dn := Lib.hid (Dn.out.trans hd)
      replace Rn := Lib.hid (Rn.out.dw hd (by omega))
      replace On := Lib.hid (On.out.dw hd (by omega))
      replace Xn := Lib.hid (Xn.out.dw hd (by omega))
      replace En := Lib.hid (En.out.dw hd (by omega))
      replace Fn := Lib.hid (Fn.out.dw hd (by omega))
      clear hd
      by_cases hr9 : r9 = 0
      · subst hr9
        go_wp2_with fail
        go_roundw
        case rel => exact ⟨k - 1, q + 1, c9, _, L ++ [x], rfl, by go_num, by omega, by (try simp only [Nat.cast_add]); omega, by omega, Dn, Rn, Xn, On, En⟩
        case measure => simp [intOf]; omega
      have hr9' : (r9 == 0) = false := by simpa using hr9
      go_wp2_with fail
      go_roundw
      case rel => exact ⟨k - 1, q, cq, aq, L, rfl, by go_num, by omega, by omega, by omega, Dn, Rn, Xn, On, Fn⟩
      case measure => simp [intOf]; omega
    · skip
      have hqr := E.out.len
      go_wp2_with fail
      refine Calls.mono (dw_next D.out.src (by decide)) ?_
      rintro e w3 ⟨r2, rfl, h20, h21, hd⟩
      have hs3 := hd.size
      replace D := Lib.hid (D.out.trans hd)
      replace R := Lib.hid (R.out.dw hd (by omega))
      replace O := Lib.hid (O.out.dw hd (by omega))
      replace X := Lib.hid (X.out.dw hd (by omega))
      replace E := Lib.hid (E.out.dw hd (by omega))
      clear hd
      have hpr := X.out.lt
      by_cases hr2 : r2 = 0
      · subst hr2
        go_wp2_with fail
        refine Calls.mono (dw_next D.out.src (by decide)) ?_
        rintro e w4 ⟨r3, rfl, h30, h31, hd⟩
        have hs4 := hd.size
        replace D := Lib.hid (D.out.trans hd)
        replace R := Lib.hid (R.out.dw hd (by omega))
        replace O := Lib.hid (O.out.dw hd (by omega))
        replace X := Lib.hid (X.out.dw hd (by omega))
        clear hd E
        rcases (show r3 = 0 ∨ r3 = 1 by omega) with rfl | rfl
        · obtain ⟨w5, hmk, hb5, hE⟩ := mkx200 (base := w.heap.size) w4 (by omega)
          have E := Lib.hid hE
          clear hE
          have hs5 := hb5.size
          replace D := Lib.hid (D.out.below hb5)
          replace R := Lib.hid (R.out.keep hb5)
          replace O := Lib.hid (O.out.keep hb5)
          replace X := Lib.hid (X.out.keep hb5)
          clear hb5
          have x0 := X.out.cell 0
          have x1 := X.out.cell 1
          have xl := X.out.lt
          have y0 := R.out.cell 0
          have y1 := R.out.cell 1
          have yl := R.out.lt
          have yf := R.out.free
          simp only [List.getElem?_toArray, List.getElem?_cons_zero, List.getElem?_cons_succ] at x0 x1 y0 y1
          go_wp2_with fail
          have hon : ∀ v0 v1 : Value, Only w.heap.size (w.heap.size + 1) w5 ((World.setCell w5 ⟨w.heap.size, 0, none⟩ v0).setCell ⟨w.heap.size, 1, none⟩ v1) := fun v0 v1 => ((Only.refl _ _ w5).set ⟨Nat.le_refl _, Nat.lt_succ_self _⟩ 0 _).set ⟨Nat.le_refl _, Nat.lt_succ_self _⟩ 1 _
          exact bodyPost_ret (v := .tuple #[.agg #[.int .i64 B, .slice a n c], .slice (some ⟨w4.heap.size, 0, none⟩) 200 200]) (results_cell_tmp_row Tryz.results14 _ _ w.heap.size 26 #[.int .i64 B, .slice a n c] _ rfl (show Blk _ _ #[.int .i64 B, .slice a n c] 26 from (R.out.set 0 (.int .i64 B)).set 1 (.slice a n c)) _ rfl Tryz.underlying26 rfl (by kernel_rfl)) rfl ⟨B, a, _, n, c, _, _, l, _, rfl, OwnI.only O.out (hon _ _) (qhNe O.out.f1 R.out (by decide)), hn5, OwnF.only E.out (hon _ _) (qhNe E.out R.out (by decide)), by omega, (D.out.set (Nat.le_refl _) 0 _).set (Nat.le_refl _) 1 _⟩
        skip
        · obtain ⟨w5, hmk, hb5, hE⟩ := mkx201 (base := w.heap.size) w4 (by omega)
          have E := Lib.hid hE
          clear hE
          have hs5 := hb5.size
          replace D := Lib.hid (D.out.below hb5)
          replace R := Lib.hid (R.out.keep hb5)
          replace O := Lib.hid (O.out.keep hb5)
          replace X := Lib.hid (X.out.keep hb5)
          clear hb5
          have x0 := X.out.cell 0
          have x1 := X.out.cell 1
          have xl := X.out.lt
          have y0 := R.out.cell 0
          have y1 := R.out.cell 1
          have yl := R.out.lt
          have yf := R.out.free
          simp only [List.getElem?_toArray, List.getElem?_cons_zero, List.getElem?_cons_succ] at x0 x1 y0 y1
          go_wp2_with fail
          have hon : ∀ v0 v1 : Value, Only w.heap.size (w.heap.size + 1) w5 ((World.setCell w5 ⟨w.heap.size, 0, none⟩ v0).setCell ⟨w.heap.size, 1, none⟩ v1) := fun v0 v1 => ((Only.refl _ _ w5).set ⟨Nat.le_refl _, Nat.lt_succ_self _⟩ 0 _).set ⟨Nat.le_refl _, Nat.lt_succ_self _⟩ 1 _
          exact bodyPost_ret (v := .tuple #[.agg #[.int .i64 B, .slice a n c], .slice (some ⟨w4.heap.size, 0, none⟩) 201 201]) (results_cell_tmp_row Tryz.results14 _ _ w.heap.size 26 #[.int .i64 B, .slice a n c] _ rfl (show Blk _ _ #[.int .i64 B, .slice a n c] 26 from (R.out.set 0 (.int .i64 B)).set 1 (.slice a n c)) _ rfl Tryz.underlying26 rfl (by kernel_rfl)) rfl ⟨B, a, _, n, c, _, _, l, _, rfl, OwnI.only O.out (hon _ _) (qhNe O.out.f1 R.out (by decide)), hn5, OwnF.only E.out (hon _ _) (qhNe E.out R.out (by decide)), by omega, (D.out.set (Nat.le_refl _) 0 _).set (Nat.le_refl _) 1 _⟩
      have hr2' : (r2 == 0) = false := by simpa using hr2
      have x0 := X.out.cell 0
      have x1 := X.out.cell 1
      have xl := X.out.lt
      have y0 := R.out.cell 0
      have y1 := R.out.cell 1
      have yl := R.out.lt
      have yf := R.out.free
      simp only [List.getElem?_toArray, List.getElem?_cons_zero, List.getElem?_cons_succ] at x0 x1 y0 y1
      go_wp2_with fail
      have hon : ∀ v0 v1 : Value, Only w.heap.size (w.heap.size + 1) w3 ((World.setCell w3 ⟨w.heap.size, 0, none⟩ v0).setCell ⟨w.heap.size, 1, none⟩ v1) := fun v0 v1 => ((Only.refl _ _ w3).set ⟨Nat.le_refl _, Nat.lt_succ_self _⟩ 0 _).set ⟨Nat.le_refl _, Nat.lt_succ_self _⟩ 1 _
      exact bodyPost_ret (v := .tuple #[.agg #[.int .i64 B, .slice a n c], .slice aq q cq]) (results_cell_tmp_row Tryz.results14 _ _ w.heap.size 26 #[.int .i64 B, .slice a n c] _ rfl (show Blk _ _ #[.int .i64 B, .slice a n c] 26 from (R.out.set 0 (.int .i64 B)).set 1 (.slice a n c)) _ rfl Tryz.underlying26 rfl (by kernel_rfl)) rfl ⟨B, a, _, n, c, _, _, l, _, rfl, OwnI.only O.out (hon _ _) (qhNe O.out.f1 R.out (by decide)), hn5, OwnF.only E.out (hon _ _) (qhNe E.out R.out (by decide)), by omega, (D.out.set (Nat.le_refl _) 0 _).set (Nat.le_refl _) 1 _⟩
end Go.Proofs.YtipkncjjkkijfaaGreatDoor
