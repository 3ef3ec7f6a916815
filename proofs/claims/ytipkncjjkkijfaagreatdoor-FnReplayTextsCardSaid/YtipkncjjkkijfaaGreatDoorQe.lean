/- A draw of an event, walked. -/
import Derived.Test.YtipkncjjkkijfaaGreatDoorD10
import Derived.Test.YtipkncjjkkijfaaGreatDoorZ9
namespace Go.Proofs.YtipkncjjkkijfaaGreatDoor
open Go.RowKit
set_option linter.unusedVariables false
set_option linter.unusedSimpArgs false
set_option maxHeartbeats 4000000 in
theorem spec_l25DrawEvent {b lo n c : Nat} {B : Int} {a : Option Addr} {w : World} (hS : Src 65 w lo b) (hn : n ≤ 5) (hB1 : 1 ≤ B) (hB9 : B ≤ 9) :
    Calls Tryz.prog 34 #[.pointer (some ⟨b, 0, none⟩), .agg #[.int .i64 B, .slice a n c]] w fun e w' => ∃ x : I3, e = .returned (.agg #[.int .i64 x.a, .int .i64 x.b, .int .i64 x.c]) ∧ x.ok ∧ Dw 65 lo b w w' := by
  obtain ⟨wA, hwA⟩ : ∃ v, v = (w.alloc (.cells #[.int .i64 B, .slice a n c] 26)).alloc (.cells #[.int .i64 0, .int .i64 0, .int .i64 0] 38) := ⟨_, rfl⟩
  have hb0 : Below w.heap.size w (w.alloc (.cells #[.int .i64 B, .slice a n c] 26)) := below_alloc1 (Below.refl _ _) _
  have hs0 : (w.alloc (.cells #[.int .i64 B, .slice a n c] 26)).heap.size = w.heap.size + 1 := Array.size_push _
  have hbA : Below w.heap.size w wA := by rw [hwA]; exact below_callS hb0 (below_alloc1 (Below.refl _ _) _)
  have hsA : wA.heap.size = w.heap.size + 2 := by rw [hwA]; show (Array.push _ _).size = _; rw [Array.size_push]; omega
  have X := Lib.hid (show Blk wA w.heap.size #[.int .i64 B, .slice a n c] 26 by rw [hwA]; exact (Blk.made w _ _).keep (below_alloc1 (Below.refl _ _) _))
  have R := Lib.hid (show Blk wA (w.heap.size + 1) #[.int .i64 0, .int .i64 0, .int .i64 0] 38 by rw [hwA, ← hs0]; exact Blk.made _ _ _)
  have D := Lib.hid ((Dw.of hS).below hbA)
  have hbl := hS.lt.2
  have x0 := X.out.cell 0
  have x1 := X.out.cell 1
  have xl := X.out.lt
  simp only [List.getElem?_toArray, List.getElem?_cons_zero, List.getElem?_cons_succ] at x0 x1
  clear hS hb0 hs0
  go_enter Tryz.func34, Tryz.ntmps34
  go_upto_region 1 with fail
  rw [← hwA]
  clear hwA
  go_wp2_with fail
  refine Calls.mono (dw_next D.out.src (by unfold I64; omega)) ?_
  rintro e w1 ⟨r1, rfl, h10, h11, hd⟩
  have hs_w1 := hd.size
  replace D := Lib.hid (D.out.trans hd)
  replace X := Lib.hid (X.out.dw hd (by omega))
  replace R := Lib.hid (R.out.dw hd (by omega))
  clear hd
  clear x0 x1 xl
  have hr1 : I64 r1 := by unfold I64; omega
  obtain ⟨wB, hwB⟩ : ∃ v, v = w1.alloc (.cells #[.int .i64 0, .int .i64 r1, .int .i64 0] 38) := ⟨_, rfl⟩
  have hbB : Below w1.heap.size w1 wB := by rw [hwB]; exact below_alloc1 (Below.refl _ _) _
  have E := Lib.hid (show Blk wB w1.heap.size #[.int .i64 0, .int .i64 r1, .int .i64 0] 38 by rw [hwB]; exact Blk.made w1 _ _)
  have hsB := hbB.size
  replace D := Lib.hid (D.out.below hbB)
  replace X := Lib.hid (X.out.keep hbB)
  replace R := Lib.hid (R.out.keep hbB)
  have hq : w.heap.size + 2 ≤ w1.heap.size := by omega
  clear hbB h10 h11
  go_upto_region 2 with fail
  rw [← hwB]
  clear hwB
  generalize w1.heap.size = q at *
  go_wp2_with fail
  refine Calls.mono (dw_next D.out.src (by decide)) ?_
  rintro e w2 ⟨r2, rfl, h20, h21, hd⟩
  have hs_w2 := hd.size
  replace D := Lib.hid (D.out.trans hd)
  replace X := Lib.hid (X.out.dw hd (by omega))
  replace R := Lib.hid (R.out.dw hd (by omega))
  replace E := Lib.hid (E.out.dw hd (by omega))
  clear hd
  go_upto_if 14 with fail
  go_cut [] (fun wx => ∃ ea eb ec : Int, I64 ea ∧ I64 eb ∧ I64 ec ∧ Hid (Blk wx q #[.int .i64 ea, .int .i64 eb, .int .i64 ec] 38) ∧ Hid (Blk wx w.heap.size #[.int .i64 B, .slice a n c] 26) ∧ Hid (Blk wx (w.heap.size + 1) #[.int .i64 0, .int .i64 0, .int .i64 0] 38) ∧ Hid (Dw 65 lo b w wx))
  case first =>
    by_cases hr2 : r2 = 0
    · subst hr2
      have x0 := X.out.cell 0
      have x1 := X.out.cell 1
      have xl := X.out.lt
      have xf := X.out.free
      simp only [List.getElem?_toArray, List.getElem?_cons_zero, List.getElem?_cons_succ] at x0 x1
      go_wp2_with fail
      clear x0 x1 xl xf
      refine Calls.mono (dw_next D.out.src (by unfold I64; omega)) ?_
      rintro e w3 ⟨r3, rfl, h30, h31, hd⟩
      have hs_w3 := hd.size
      replace D := Lib.hid (D.out.trans hd)
      replace X := Lib.hid (X.out.dw hd (by omega))
      replace R := Lib.hid (R.out.dw hd (by omega))
      replace E := Lib.hid (E.out.dw hd (by omega))
      clear hd
      go_wp2_with fail
      refine Calls.mono (dw_next D.out.src (by decide)) ?_
      rintro e w4 ⟨r4, rfl, h40, h41, hd⟩
      have hs_w4 := hd.size
      replace D := Lib.hid (D.out.trans hd)
      replace X := Lib.hid (X.out.dw hd (by omega))
      replace R := Lib.hid (R.out.dw hd (by omega))
      replace E := Lib.hid (E.out.dw hd (by omega))
      clear hd
      have ew : IntKind.i64.wrap (1 + r4) = 1 + r4 := IntWalk.i64_in _ (by omega)
      have hr3 : I64 r3 := by unfold I64; omega
      have hr4 : I64 (1 + r4) := by unfold I64; omega
      have e0 := E.out.cell 0
      have e1 := E.out.cell 1
      have e2 := E.out.cell 2
      have el := E.out.lt
      have ef := E.out.free
      simp only [List.getElem?_toArray, List.getElem?_cons_zero, List.getElem?_cons_succ] at e0 e1 e2
      have hon : Only q (q + 1) w4 (((w4.setCell ⟨q, 0, none⟩ (.int .i64 1)).setCell ⟨q, 1, none⟩ (.int .i64 r3)).setCell ⟨q, 2, none⟩ (.int .i64 (1 + r4))) := (((Only.refl _ _ w4).set ⟨Nat.le_refl _, Nat.lt_succ_self _⟩ 0 _).set ⟨Nat.le_refl _, Nat.lt_succ_self _⟩ 1 _).set ⟨Nat.le_refl _, Nat.lt_succ_self _⟩ 2 _
      have E' := Lib.hid (((E.out.set 0 (.int .i64 1)).set 1 (.int .i64 r3)).set 2 (.int .i64 (1 + r4)))
      have X' := Lib.hid (X.out.apart hon (by omega))
      have R' := Lib.hid (R.out.apart hon (by omega))
      have D' := Lib.hid (((D.out.set (show w.heap.size ≤ q by omega) 0 (.int .i64 1)).set (show w.heap.size ≤ q by omega) 1 (.int .i64 r3)).set (show w.heap.size ≤ q by omega) 2 (.int .i64 (1 + r4)))
      clear hon
      go_wp2_with fail
      go_meet
      exact ⟨1, r3, 1 + r4, by decide, hr3, hr4, E', X', R', D'⟩
    · have hr2' : (r2 == 0) = false := by simpa using hr2
      go_wp2_with fail
      go_meet
      exact ⟨0, r1, 0, by decide, hr1, by decide, E, X, R, D⟩
  case rest =>
    clear E X R D
    obtain ⟨ea, eb, ec, hea, heb, hec, E, X, R, D⟩ := hcut
    go_wp2_with fail
    refine Calls.mono (dw_next D.out.src (by decide)) ?_
    rintro e w4 ⟨r5, rfl, h50, h51, hd⟩
    have hs_w4 := hd.size
    replace D := Lib.hid (D.out.trans hd)
    replace X := Lib.hid (X.out.dw hd (by omega))
    replace R := Lib.hid (R.out.dw hd (by omega))
    replace E := Lib.hid (E.out.dw hd (by omega))
    clear hd
    by_cases k0 : r5 = 0
    · have kk0 := k0
      subst k0
      go_wp2_with fail
      refine Calls.mono (dw_pick3 D.out.src rfl (by decide) (by decide) (by decide)) ?_
      rintro e w5 ⟨pk, rfl, hpk0, hpk, hd⟩
      have hs_w5 := hd.size
      replace D := Lib.hid (D.out.trans hd)
      replace X := Lib.hid (X.out.dw hd (by omega))
      replace R := Lib.hid (R.out.dw hd (by omega))
      replace E := Lib.hid (E.out.dw hd (by omega))
      clear hd
      have hon : Only q (q + 1) w5 (w5.setCell ⟨q, 0, none⟩ (.int .i64 pk)) := (Only.refl _ _ w5).set ⟨Nat.le_refl _, Nat.lt_succ_self _⟩ 0 _
      have D' := Lib.hid (D.out.set (show w.heap.size ≤ q by omega) 0 (.int .i64 pk))
      have X' := Lib.hid (X.out.apart hon (by omega))
      have R' := Lib.hid (R.out.apart hon (by omega))
      have E' := Lib.hid (show Blk _ q #[.int .i64 pk, .int .i64 eb, .int .i64 ec] 38 from E.out.set 0 (.int .i64 pk))
      have e0 := E.out.cell 0
      have e1 := E.out.cell 1
      have e2 := E.out.cell 2
      have el := E.out.lt
      have ef := E.out.free
      simp only [List.getElem?_toArray, List.getElem?_cons_zero, List.getElem?_cons_succ] at e0 e1 e2
      go_upto_region 11 with fail
      clear e0 e1 e2 el ef hon D X R E
      generalize w5.setCell ⟨q, 0, none⟩ (.int .i64 pk) = w6 at *
      have D := D'
      have X := X'
      have R := R'
      have E := E'
      clear D' X' R' E'
      have e0 := E.out.cell 0
      have e1 := E.out.cell 1
      have e2 := E.out.cell 2
      have el := E.out.lt
      have ef := E.out.free
      simp only [List.getElem?_toArray, List.getElem?_cons_zero, List.getElem?_cons_succ] at e0 e1 e2
      have r0 := R.out.cell 0
      have r1 := R.out.cell 1
      have r2 := R.out.cell 2
      have rl := R.out.lt
      have rf := R.out.free
      simp only [List.getElem?_toArray, List.getElem?_cons_zero, List.getElem?_cons_succ] at r0 r1 r2
      have hqr : q ≠ w.heap.size + 1 := by omega
      have RF := Lib.hid (((R.out.set 0 (.int .i64 (pk))).set 1 (.int .i64 (eb))).set 2 (.int .i64 (ec)))
      have DF := Lib.hid (((D.out.set (show w.heap.size ≤ w.heap.size + 1 by omega) 0 (.int .i64 (pk))).set (show w.heap.size ≤ w.heap.size + 1 by omega) 1 (.int .i64 (eb))).set (show w.heap.size ≤ w.heap.size + 1 by omega) 2 (.int .i64 (ec)))
      clear D X hsA hbl hqr
      go_wp2
      exact bodyPost_ret (v := .agg #[.int .i64 (pk), .int .i64 (eb), .int .i64 (ec)]) (results_cell_row Tryz.results34 _ _ (w.heap.size + 1) 38 #[.int .i64 (pk), .int .i64 (eb), .int .i64 (ec)] _ _ rfl (show Blk _ _ #[.int .i64 (pk), .int .i64 (eb), .int .i64 (ec)] 38 from RF.out) Tryz.underlying38 rfl (by kernel_rfl)) rfl ⟨⟨pk, eb, ec⟩, rfl, ⟨hpk, heb, hec⟩, DF.out⟩
    have j0 : (r5 == 0) = false := by simpa using k0
    by_cases k1 : r5 = 1
    · have kk1 := k1
      subst k1
      have x0 := X.out.cell 0
      have x1 := X.out.cell 1
      have xl := X.out.lt
      have xf := X.out.free
      simp only [List.getElem?_toArray, List.getElem?_cons_zero, List.getElem?_cons_succ] at x0 x1
      go_wp2_with fail
      clear x0 x1 xl xf
      refine Calls.mono (dw_pick3 D.out.src rfl (by decide) (by unfold I64; omega) (by unfold I64; omega)) ?_
      rintro e w5 ⟨pk, rfl, hpk0, hpk, hd⟩
      have hs_w5 := hd.size
      replace D := Lib.hid (D.out.trans hd)
      replace X := Lib.hid (X.out.dw hd (by omega))
      replace R := Lib.hid (R.out.dw hd (by omega))
      replace E := Lib.hid (E.out.dw hd (by omega))
      clear hd
      have hon : Only q (q + 1) w5 (w5.setCell ⟨q, 1, none⟩ (.int .i64 pk)) := (Only.refl _ _ w5).set ⟨Nat.le_refl _, Nat.lt_succ_self _⟩ 1 _
      have D' := Lib.hid (D.out.set (show w.heap.size ≤ q by omega) 1 (.int .i64 pk))
      have X' := Lib.hid (X.out.apart hon (by omega))
      have R' := Lib.hid (R.out.apart hon (by omega))
      have E' := Lib.hid (show Blk _ q #[.int .i64 ea, .int .i64 pk, .int .i64 ec] 38 from E.out.set 1 (.int .i64 pk))
      have e0 := E.out.cell 0
      have e1 := E.out.cell 1
      have e2 := E.out.cell 2
      have el := E.out.lt
      have ef := E.out.free
      simp only [List.getElem?_toArray, List.getElem?_cons_zero, List.getElem?_cons_succ] at e0 e1 e2
      go_upto_region 11 with fail
      clear e0 e1 e2 el ef hon D X R E
      generalize w5.setCell ⟨q, 1, none⟩ (.int .i64 pk) = w6 at *
      have D := D'
      have X := X'
      have R := R'
      have E := E'
      clear D' X' R' E'
      have e0 := E.out.cell 0
      have e1 := E.out.cell 1
      have e2 := E.out.cell 2
      have el := E.out.lt
      have ef := E.out.free
      simp only [List.getElem?_toArray, List.getElem?_cons_zero, List.getElem?_cons_succ] at e0 e1 e2
      have r0 := R.out.cell 0
      have r1 := R.out.cell 1
      have r2 := R.out.cell 2
      have rl := R.out.lt
      have rf := R.out.free
      simp only [List.getElem?_toArray, List.getElem?_cons_zero, List.getElem?_cons_succ] at r0 r1 r2
      have hqr : q ≠ w.heap.size + 1 := by omega
      have RF := Lib.hid (((R.out.set 0 (.int .i64 (ea))).set 1 (.int .i64 (pk))).set 2 (.int .i64 (ec)))
      have DF := Lib.hid (((D.out.set (show w.heap.size ≤ w.heap.size + 1 by omega) 0 (.int .i64 (ea))).set (show w.heap.size ≤ w.heap.size + 1 by omega) 1 (.int .i64 (pk))).set (show w.heap.size ≤ w.heap.size + 1 by omega) 2 (.int .i64 (ec)))
      clear D X hsA hbl hqr
      go_wp2
      exact bodyPost_ret (v := .agg #[.int .i64 (ea), .int .i64 (pk), .int .i64 (ec)]) (results_cell_row Tryz.results34 _ _ (w.heap.size + 1) 38 #[.int .i64 (ea), .int .i64 (pk), .int .i64 (ec)] _ _ rfl (show Blk _ _ #[.int .i64 (ea), .int .i64 (pk), .int .i64 (ec)] 38 from RF.out) Tryz.underlying38 rfl (by kernel_rfl)) rfl ⟨⟨ea, pk, ec⟩, rfl, ⟨hea, hpk, hec⟩, DF.out⟩
    have j1 : (r5 == 1) = false := by simpa using k1
    by_cases k2 : r5 = 2
    · have kk2 := k2
      subst k2
      go_wp2_with fail
      refine Calls.mono (dw_pick3 D.out.src rfl (by decide) (by decide) (by decide)) ?_
      rintro e w5 ⟨pk, rfl, hpk0, hpk, hd⟩
      have hs_w5 := hd.size
      replace D := Lib.hid (D.out.trans hd)
      replace X := Lib.hid (X.out.dw hd (by omega))
      replace R := Lib.hid (R.out.dw hd (by omega))
      replace E := Lib.hid (E.out.dw hd (by omega))
      clear hd
      have hon : Only q (q + 1) w5 (w5.setCell ⟨q, 2, none⟩ (.int .i64 pk)) := (Only.refl _ _ w5).set ⟨Nat.le_refl _, Nat.lt_succ_self _⟩ 2 _
      have D' := Lib.hid (D.out.set (show w.heap.size ≤ q by omega) 2 (.int .i64 pk))
      have X' := Lib.hid (X.out.apart hon (by omega))
      have R' := Lib.hid (R.out.apart hon (by omega))
      have E' := Lib.hid (show Blk _ q #[.int .i64 ea, .int .i64 eb, .int .i64 pk] 38 from E.out.set 2 (.int .i64 pk))
      have e0 := E.out.cell 0
      have e1 := E.out.cell 1
      have e2 := E.out.cell 2
      have el := E.out.lt
      have ef := E.out.free
      simp only [List.getElem?_toArray, List.getElem?_cons_zero, List.getElem?_cons_succ] at e0 e1 e2
      go_upto_region 11 with fail
      clear e0 e1 e2 el ef hon D X R E
      generalize w5.setCell ⟨q, 2, none⟩ (.int .i64 pk) = w6 at *
      have D := D'
      have X := X'
      have R := R'
      have E := E'
      clear D' X' R' E'
      have e0 := E.out.cell 0
      have e1 := E.out.cell 1
      have e2 := E.out.cell 2
      have el := E.out.lt
      have ef := E.out.free
      simp only [List.getElem?_toArray, List.getElem?_cons_zero, List.getElem?_cons_succ] at e0 e1 e2
      have r0 := R.out.cell 0
      have r1 := R.out.cell 1
      have r2 := R.out.cell 2
      have rl := R.out.lt
      have rf := R.out.free
      simp only [List.getElem?_toArray, List.getElem?_cons_zero, List.getElem?_cons_succ] at r0 r1 r2
      have hqr : q ≠ w.heap.size + 1 := by omega
      have RF := Lib.hid (((R.out.set 0 (.int .i64 (ea))).set 1 (.int .i64 (eb))).set 2 (.int .i64 (pk)))
      have DF := Lib.hid (((D.out.set (show w.heap.size ≤ w.heap.size + 1 by omega) 0 (.int .i64 (ea))).set (show w.heap.size ≤ w.heap.size + 1 by omega) 1 (.int .i64 (eb))).set (show w.heap.size ≤ w.heap.size + 1 by omega) 2 (.int .i64 (pk)))
      clear D X hsA hbl hqr
      go_wp2
      exact bodyPost_ret (v := .agg #[.int .i64 (ea), .int .i64 (eb), .int .i64 (pk)]) (results_cell_row Tryz.results34 _ _ (w.heap.size + 1) 38 #[.int .i64 (ea), .int .i64 (eb), .int .i64 (pk)] _ _ rfl (show Blk _ _ #[.int .i64 (ea), .int .i64 (eb), .int .i64 (pk)] 38 from RF.out) Tryz.underlying38 rfl (by kernel_rfl)) rfl ⟨⟨ea, eb, pk⟩, rfl, ⟨hea, heb, hpk⟩, DF.out⟩
    have j2 : (r5 == 2) = false := by simpa using k2
    go_upto_region 11 with fail
    have e0 := E.out.cell 0
    have e1 := E.out.cell 1
    have e2 := E.out.cell 2
    have el := E.out.lt
    have ef := E.out.free
    simp only [List.getElem?_toArray, List.getElem?_cons_zero, List.getElem?_cons_succ] at e0 e1 e2
    have r0 := R.out.cell 0
    have r1 := R.out.cell 1
    have r2 := R.out.cell 2
    have rl := R.out.lt
    have rf := R.out.free
    simp only [List.getElem?_toArray, List.getElem?_cons_zero, List.getElem?_cons_succ] at r0 r1 r2
    have hqr : q ≠ w.heap.size + 1 := by omega
    have RF := Lib.hid (((R.out.set 0 (.int .i64 (ea))).set 1 (.int .i64 (eb))).set 2 (.int .i64 (ec)))
    have DF := Lib.hid (((D.out.set (show w.heap.size ≤ w.heap.size + 1 by omega) 0 (.int .i64 (ea))).set (show w.heap.size ≤ w.heap.size + 1 by omega) 1 (.int .i64 (eb))).set (show w.heap.size ≤ w.heap.size + 1 by omega) 2 (.int .i64 (ec)))
    clear D X hsA hbl hqr
    go_wp2
    exact bodyPost_ret (v := .agg #[.int .i64 (ea), .int .i64 (eb), .int .i64 (ec)]) (results_cell_row Tryz.results34 _ _ (w.heap.size + 1) 38 #[.int .i64 (ea), .int .i64 (eb), .int .i64 (ec)] _ _ rfl (show Blk _ _ #[.int .i64 (ea), .int .i64 (eb), .int .i64 (ec)] 38 from RF.out) Tryz.underlying38 rfl (by kernel_rfl)) rfl ⟨⟨ea, eb, ec⟩, rfl, ⟨hea, heb, hec⟩, DF.out⟩
end Go.Proofs.YtipkncjjkkijfaaGreatDoor
