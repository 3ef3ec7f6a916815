/- The draws of replays, walked.; The draw of a text to read back, walked. -/
import Derived.Test.YtipkncjjkkijfaaGreatDoorQh
import Derived.Test.YtipkncjjkkijfaaGreatDoorL25x
import Derived.Test.YtipkncjjkkijfaaGreatDoorD27
namespace Go.Proofs.YtipkncjjkkijfaaGreatDoor
open Go.RowKit
set_option linter.unusedVariables false
set_option linter.unusedSimpArgs false
set_option maxHeartbeats 1000000 in
theorem spec_DrawReplayText {a : Option Addr} {n c : Nat} {w : World} (hB : Byts w a n c) (hn : n ≤ 4096) :
    Calls Tryz.prog 5 #[.slice a n c] w fun e w' => ∃ (B : Int) (a am : Option Addr) (n c m mc : Nat) (l : List Int) (evs : List I3), e = .returned (.tuple #[.agg #[.int .i64 B, .slice a n c], .slice am m mc]) ∧ Ints w' a n c l ∧ n ≤ 5 ∧ F3 w' am m mc evs ∧ m ≤ 201 ∧ Below w.heap.size w w' := by
  have HB := Lib.hid hB
  clear hB
  go_enter Tryz.func5, Tryz.ntmps5
  go_wp2_with fail
  refine Calls.mono (dw_l01From HB.out (show Below w.heap.size w (w.alloc (.cells #[.int .i64 0, .slice none 0 0] 26)) from bel) hn) ?_
  rintro e w1 ⟨b, rfl, hb1, hlo, hd⟩
  simp at hlo
  have R := Lib.hid ((Blk.made w #[.int .i64 0, .slice none 0 0] 26).keep hb1)
  have hbl : Below w.heap.size w w1 := below_callS (show Below w.heap.size w (w.alloc (.cells #[.int .i64 0, .slice none 0 0] 26)) from bel) hb1
  have hbw := hd.lt
  have hs1 := hb1.size
  simp at hs1
  have HD := Lib.hid hd
  clear hd hb1
  go_wp2_with fail
  refine Calls.mono (spec_l25Draw HD.out.src) ?_
  rintro e w2 ⟨B, a1, am, n1, c1, m, mc, l1, evs, rfl, ho, hn1, hf, hm, hd⟩
  have O := Lib.hid ho
  have OF := Lib.hid hf
  have hs2 := hd.size
  replace R := Lib.hid (R.out.dw hd (by omega))
  replace HD := Lib.hid (HD.out.trans hd)
  have hfin := HD.out.fin hbl (by omega)
  clear ho hf hd
  have r0 := R.out.cell 0
  have r1' := R.out.cell 1
  have rl := R.out.lt
  have rf := R.out.free
  simp only [List.getElem?_toArray, List.getElem?_cons_zero, List.getElem?_cons_succ] at r0 r1'
  go_wp2_with fail
  have hon : ∀ v0 v1 : Value, Only w.heap.size (w.heap.size + 1) w2 ((World.setCell w2 ⟨w.heap.size, 0, none⟩ v0).setCell ⟨w.heap.size, 1, none⟩ v1) := fun v0 v1 => ((Only.refl _ _ w2).set ⟨Nat.le_refl _, Nat.lt_succ_self _⟩ 0 _).set ⟨Nat.le_refl _, Nat.lt_succ_self _⟩ 1 _
  exact bodyPost_ret (v := .tuple #[.agg #[.int .i64 B, .slice a1 n1 c1], .slice am m mc]) (by simp [results, Tryz.results5, go_sem, *]) rfl ⟨B, a1, am, n1, c1, m, mc, l1, evs, rfl, (OwnI.only O.out (hon _ _) (qhNe O.out.f1 R.out (by decide))).ints, hn1, (OwnF.only OF.out (hon _ _) (qhNe OF.out R.out (by decide))).flats, hm, bel⟩
theorem rp_size9 {b : Int} {l : List Int} {L : List I3} (h : L.length ≤ 201) : (rpT b l L).size ≤ 10000 := by
  rw [rpT]
  split
  · have := txL_len L
    show (txL L).toArray.size ≤ _
    rw [List.size_toArray]; omega
  · show 0 ≤ _; omega
set_option maxHeartbeats 1000000 in
theorem spec_DrawReadReplay {a : Option Addr} {n c : Nat} {w : World} (hB : Byts w a n c) (hn : n ≤ 4096) :
    Calls Tryz.prog 7 #[.slice a n c] w fun e w' => ∃ (B : Int) (a : Option Addr) (n c : Nat) (l : List Int) (s : ByteArray), e = .returned (.tuple #[.agg #[.int .i64 B, .slice a n c], .string s]) ∧ Ints w' a n c l ∧ n ≤ 5 ∧ s.size ≤ 1000000 ∧ Below w.heap.size w w' := by
  have HB := Lib.hid hB
  clear hB
  go_enter Tryz.func7, Tryz.ntmps7
  go_wp2_with fail
  refine Calls.mono (dw_l01From HB.out (show Below w.heap.size w (w.alloc (.cells #[.int .i64 0, .slice none 0 0] 26)) from bel) hn) ?_
  rintro e w1 ⟨b, rfl, hb1, hlo, hd⟩
  simp at hlo
  have R := Lib.hid ((Blk.made w #[.int .i64 0, .slice none 0 0] 26).keep hb1)
  have hbl : Below w.heap.size w w1 := below_callS (show Below w.heap.size w (w.alloc (.cells #[.int .i64 0, .slice none 0 0] 26)) from bel) hb1
  have hbw := hd.lt
  have hs1 := hb1.size
  simp at hs1
  have HD := Lib.hid hd
  clear hd hb1
  go_wp2_with fail
  refine Calls.mono (spec_l25Draw HD.out.src) ?_
  rintro e w2 ⟨B, a1, am, n1, c1, m, mc, l1, evs, rfl, ho, hn1, hf, hm, hd⟩
  have O := Lib.hid ho
  have OF := Lib.hid hf
  have hev := hf.len
  have hs2 := hd.size
  replace R := Lib.hid (R.out.dw hd (by omega))
  replace HD := Lib.hid (HD.out.trans hd)
  have hfin := HD.out.fin hbl (by omega)
  clear ho hf hd
  obtain ⟨w3, hw3⟩ : ∃ v, v = w2.alloc (.cells #[.int .i64 B, .slice a1 n1 c1] 26) := ⟨_, rfl⟩
  have hb3 : Below w2.heap.size w2 w3 := by rw [hw3]; exact below_alloc1 (Below.refl _ _) _
  have X := Lib.hid (show Blk w3 w2.heap.size #[.int .i64 B, .slice a1 n1 c1] 26 by rw [hw3]; exact Blk.made w2 _ _)
  replace R := Lib.hid (R.out.keep hb3)
  replace O := Lib.hid (O.out.keep hb3)
  replace OF := Lib.hid (OF.out.keep hb3)
  replace HD := Lib.hid (HD.out.below hb3)
  have hs3 := hb3.size
  go_upto_region 3 with fail
  rw [← hw3]
  clear hw3 hb3
  have x0 := X.out.cell 0
  have x1 := X.out.cell 1
  have xl := X.out.lt
  simp only [List.getElem?_toArray, List.getElem?_cons_zero, List.getElem?_cons_succ] at x0 x1
  go_wp2_with fail
  refine Calls.mono (spec_ReplayText O.out.ints OF.out.flats (by omega) (by omega)) ?_
  rintro e w4 ⟨rfl, hb4⟩
  replace R := Lib.hid (R.out.keep hb4)
  replace O := Lib.hid (O.out.keep hb4)
  replace X := Lib.hid (X.out.keep hb4)
  replace HD := Lib.hid (HD.out.below hb4)
  have hs4 := hb4.size
  clear hb4 OF x0 x1 xl
  have hz := rp_size9 (b := B) (l := l1) (L := evs) (by omega)
  go_wp2_with fail
  refine Calls.mono (dw_next HD.out.src (by decide)) ?_
  rintro e w5 ⟨r, rfl, h0, h1, hd⟩
  have hs5 := hd.size
  replace R := Lib.hid (R.out.dw hd (by omega))
  replace O := Lib.hid (O.out.dw hd (by omega))
  replace X := Lib.hid (X.out.dw hd (by omega))
  replace HD := Lib.hid (HD.out.trans hd)
  clear hd hfin
  obtain ⟨S, hS⟩ : ∃ v, v = rpT B l1 evs := ⟨_, rfl⟩
  rw [← hS] at hz ⊢
  clear hS
  by_cases hr : r = 0
  · subst hr
    go_wp2_with fail
    refine wp_region_noPanic ?_
    refine wp_region_held_drew (S := fun wx => Blk wx w2.heap.size #[.int .i64 B, .slice a1 n1 c1] 26 ∧ True) (by kernel_rfl) ?_ (fun hHeld => ?_)
    · exact ⟨X.out.keep (Below.refl _ _).drew, trivial⟩
    replace HD := Lib.hid (HD.out.below (Below.refl _ _).drew)
    replace R := Lib.hid (R.out.keep (Below.refl _ _).drew)
    replace O := Lib.hid (O.out.keep (Below.refl _ _).drew)
    replace X := Lib.hid (X.out.keep (Below.refl _ _).drew)
    refine tkH0 0 (v := ?_) ?_ ?_
    rotate_left
    · (intro wv hSw; obtain ⟨hq, hq9⟩ := hSw; have q0 := hq.cell 0; have q1 := hq.cell 1; have zl := hq.lt; simp only [List.getElem?_toArray, List.getElem?_cons_zero, List.getElem?_cons_succ] at q0 q1; go_simp; try with_reducible rfl)
    try simp only [Act.put, s1, s2, s3]
    refine tkH0 1 (v := ?_) ?_ ?_
    rotate_left
    · (intro wv hSw; clear hSw; go_simp; try with_reducible rfl)
    try simp only [Act.put, s1, s2, s3]
    refine tkH0 2 (v := ?_) ?_ ?_
    rotate_left
    · (intro wv hSw; clear hSw; go_simp; try with_reducible rfl)
    try simp only [Act.put, s1, s2, s3]
    refine wpAnyH_ready (rs := [3]) (by kernel_rfl) (by simp) ?_
    refine AllReadyH.cons rfl (fun K hK => ?_) AllReadyH.nil
    go_simp
    refine Calls.mono (spec_l01Damage_z HD.out (by omega)) ?_
    rintro e w7 ⟨S2, rfl, hd, hz2⟩
    have hs7 := hd.size
    replace R := Lib.hid (R.out.dw hd (by omega))
    replace O := Lib.hid (O.out.dw hd (by omega))
    replace X := Lib.hid (X.out.dw hd (by omega))
    replace HD := Lib.hid (HD.out.trans hd)
    clear hd
    go_wp2_with fail
    refine hK.out _ _ ⟨X.out, trivial⟩ (fun hHeld => ?_)
    clear hK K
    try simp only [Act.put, s1, s2, s3]
    have y0 := R.out.cell 0
    have y1 := R.out.cell 1
    have yl := R.out.lt
    have yf := R.out.free
    simp only [List.getElem?_toArray, List.getElem?_cons_zero, List.getElem?_cons_succ] at y0 y1
    have hon : ∀ v0 v1 : Value, Only w.heap.size (w.heap.size + 1) w7 ((World.setCell w7 ⟨w.heap.size, 0, none⟩ v0).setCell ⟨w.heap.size, 1, none⟩ v1) := fun v0 v1 => ((Only.refl _ _ w7).set ⟨Nat.le_refl _, Nat.lt_succ_self _⟩ 0 _).set ⟨Nat.le_refl _, Nat.lt_succ_self _⟩ 1 _
    refine wpAnyH_ready (rs := [4]) (by kernel_rfl) (by simp) ?_
    refine AllReadyH.cons rfl (fun K hK => ?_) AllReadyH.nil
    go_simp
    refine hK.out _ _ ⟨X.out.apart (hon _ _) (.inr (by omega)), trivial⟩ (fun hHeld => ?_)
    clear hK K
    try simp only [Act.put, s1, s2, s3]
    refine tkH0 5 (v := ?_) ?_ ?_
    rotate_left
    · (intro wv hSw; clear hSw; go_simp; try with_reducible rfl)
    try simp only [Act.put, s1, s2, s3]
    refine wpAnyH_done (by kernel_rfl) ?_ _
    refine NoPanic.normal ?_
    have hfin := HD.out.fin hbl (by omega)
    go_wp2_with fail
    exact bodyPost_ret (v := .tuple #[.agg #[.int .i64 B, .slice a1 n1 c1], .string S2]) (by simp [results, Tryz.results7, go_sem, *]) rfl ⟨B, a1, n1, c1, l1, S2, rfl, (OwnI.only O.out (hon _ _) (qhNe O.out.f1 R.out (by decide))).ints, hn1, by omega, bel⟩
  · have hr' : (r == 0) = false := by simpa using hr
    have hfin := HD.out.fin hbl (by omega)
    have x0 := X.out.cell 0
    have x1 := X.out.cell 1
    have xl := X.out.lt
    simp only [List.getElem?_toArray, List.getElem?_cons_zero, List.getElem?_cons_succ] at x0 x1
    have y0 := R.out.cell 0
    have y1 := R.out.cell 1
    have yl := R.out.lt
    have yf := R.out.free
    simp only [List.getElem?_toArray, List.getElem?_cons_zero, List.getElem?_cons_succ] at y0 y1
    have hon : ∀ v0 v1 : Value, Only w.heap.size (w.heap.size + 1) w5 ((World.setCell w5 ⟨w.heap.size, 0, none⟩ v0).setCell ⟨w.heap.size, 1, none⟩ v1) := fun v0 v1 => ((Only.refl _ _ w5).set ⟨Nat.le_refl _, Nat.lt_succ_self _⟩ 0 _).set ⟨Nat.le_refl _, Nat.lt_succ_self _⟩ 1 _
    go_wp2_with fail
    exact bodyPost_ret (v := .tuple #[.agg #[.int .i64 B, .slice a1 n1 c1], .string S]) (by simp [results, Tryz.results7, go_sem, *]) rfl ⟨B, a1, n1, c1, l1, S, rfl, (OwnI.only O.out (hon _ _) (qhNe O.out.f1 R.out (by decide))).ints, hn1, by omega, bel⟩
end Go.Proofs.YtipkncjjkkijfaaGreatDoor
