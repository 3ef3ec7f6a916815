/- The diagram of tests: the program, walked. -/
import Derived.Test.YtkaikbaagajckaaGreatPu
import Derived.Test.YtkaikbaagajckaaGreatN27
import Derived.Test.YtkaikbaagajckaaGreatN10
import Derived.Test.YtkaikbaagajckaaGreatN19
import Derived.Deep.DrawnRows
namespace Go.Proofs.YtkaikbaagajckaaGreat
open Go.RowKit
set_option linter.unusedVariables false
set_option linter.unusedSimpArgs false
attribute [local go_sem ↓] Go.wp_at_zero Go.wp_at_succ
set_option maxHeartbeats 1000000 in
theorem impl_testDiagram_11 {x : I2b} {bi bv : Nat} {j v : Int} {w : World} (hi : Blk w bi #[.int .i64 j] 2) (hv : Blk w bv #[.int .i64 v] 2) :
    Calls Tryz.prog 146 (#[.agg x.enc.toArray] ++ #[.pointer (some ⟨bi, 0, none⟩), .pointer (some ⟨bv, 0, none⟩)]) w fun e w' => e = .returned (.bool (decide (x.a = j) && (decide (v = x.b) != x.c))) ∧ Below w.heap.size w w' := by
  have i0 := hi.cell 0
  have il := hi.lt
  have v0 := hv.cell 0
  have vl := hv.lt
  simp at i0 v0
  clear hi hv
  show Calls _ _ #[.agg #[.int .i64 x.a, .int .i64 x.b, .bool x.c], .pointer (some ⟨bi, 0, none⟩), .pointer (some ⟨bv, 0, none⟩)] _ _
  obtain ⟨xa, xb, xc⟩ := x
  simp only
  by_cases h1 : xa = j
  · have e1 : (xa == j) = true := by simpa using h1
    by_cases h2 : v = xb
    · have e2 : (v == xb) = true := by simpa using h2
      have HF := Lib.hid (show (decide (xa = j) && (decide (v = xb) != xc)) = (true != xc) by rw [decide_eq_true h1, decide_eq_true h2]; rfl)
      clear h1 h2
      cases xc
      · go_enter Tryz.func146, Tryz.ntmps146
        go_wp2
        go_ret
        exact ⟨ret_bool (by rw [HF.out]; rfl), bel⟩
      · go_enter Tryz.func146, Tryz.ntmps146
        go_wp2
        go_ret
        exact ⟨ret_bool (by rw [HF.out]; rfl), bel⟩
    · have e2 : (v == xb) = false := by simpa using h2
      have HF := Lib.hid (show (decide (xa = j) && (decide (v = xb) != xc)) = (false != xc) by rw [decide_eq_true h1, decide_eq_false h2]; rfl)
      clear h1 h2
      cases xc
      · go_enter Tryz.func146, Tryz.ntmps146
        go_wp2
        go_ret
        exact ⟨ret_bool (by rw [HF.out]; rfl), bel⟩
      · go_enter Tryz.func146, Tryz.ntmps146
        go_wp2
        go_ret
        exact ⟨ret_bool (by rw [HF.out]; rfl), bel⟩
  · have e1 : (xa == j) = false := by simpa using h1
    have HF := Lib.hid (show (decide (xa = j) && (decide (v = xb) != xc)) = false by rw [decide_eq_false h1]; rfl)
    clear h1
    go_enter Tryz.func146, Tryz.ntmps146
    go_wp2
    go_ret
    exact ⟨ret_bool HF.out.symm, bel⟩
set_option maxRecDepth 100000 in
set_option maxHeartbeats 2000000 in
theorem impl_testDiagram_1 {v : Int} {bM bi bT j : Nat} {sa ta ra ga : Option Addr} {sn sc tn tc rn rc gn gc : Nat} {sz : List Int} {g : List I2b} {w : World} (hM : Blk w bM #[.slice sa sn sc, .slice ta tn tc, .slice ra rn rc] 36) (hI : Ints w sa sn sc sz) (hi : Blk w bi #[.int .i64 (j : Int)] 2) (hj : j < sn) (hn : sn ≤ 1048576) (hT : Blk w bT #[.slice ga gn gc] 54) (hG : F2b w ga gn gc g) (hg : gn ≤ 1048576) (hv : I64 v) :
    Calls Tryz.prog 145 (#[.int .i64 v] ++ #[.pointer (some ⟨bM, 0, none⟩), .pointer (some ⟨bi, 0, none⟩), .pointer (some ⟨bT, 0, none⟩)]) w fun e w' => e = .returned (.bool (alB sz g j v)) ∧ Below w.heap.size w w' := by
  have hbW : Below w.heap.size w (w.alloc (.cells #[.int .i64 v] 2)) := below_alloc1 (Below.refl _ _) _
  have V := Lib.hid (Blk.made w #[.int .i64 v] 2)
  have M := Lib.hid (hM.keep hbW)
  have I := Lib.hid (hi.keep hbW)
  have TT := Lib.hid (hT.keep hbW)
  have HG := Lib.hid (hG.keep hbW)
  obtain ⟨b1, o1, z, rfl, hb1, hz, hzc, _⟩ := (hI.keep hbW).at hj
  have hgd : sz.getD j 0 = z := getD_of hz
  have hp := fun (wx : World) (hb : Below (w.alloc (.cells #[.int .i64 v] 2)).heap.size (w.alloc (.cells #[.int .i64 v] 2)) wx) => slices_ContainsFunc_Test (g := 146) (lb := #[.pointer (some ⟨bi, 0, none⟩), .pointer (some ⟨w.heap.size, 0, none⟩)]) (p := fun t => decide (t.a = (j : Int)) && (decide (v = t.b) != t.c)) (fun _ _ => by kernel_rfl) (fun W x hx hb' => impl_testDiagram_11 ((I.out.keep hb).keep hb') ((V.out.keep hb).keep hb')) (HG.out.keep hb) hg
  have HP := Lib.hid hp
  clear hM hI hi hT hG hp hz
  have hj0 : (0 : Int) ≤ (j : Int) := by omega
  have hjn : (j : Int) < (sn : Int) := by omega
  obtain ⟨W, hW⟩ : ∃ W, W = w.alloc (.cells #[.int .i64 v] 2) := ⟨_, rfl⟩
  rw [← hW] at V M I TT HP hzc hb1 hbW
  have v0 := V.out.cell 0
  have vl := V.out.lt
  have m0 := M.out.cell 0
  have ml := M.out.lt
  have i0 := I.out.cell 0
  have il := I.out.lt
  have t0 := TT.out.cell 0
  have tl := TT.out.lt
  simp only [List.getElem?_toArray, List.getElem?_cons_zero] at v0 m0 i0 t0
  show Calls _ _ #[.int .i64 v, .pointer (some ⟨bM, 0, none⟩), .pointer (some ⟨bi, 0, none⟩), .pointer (some ⟨bT, 0, none⟩)] _ _
  by_cases hlt : v < z
  · have HF := Lib.hid (show alB sz g j v = !(g.any fun t => decide (t.a = (j : Int)) && (decide (v = t.b) != t.c)) by rw [alB, hgd, decide_eq_true hlt, Bool.true_and])
    have hd : decide (v < z) = true := decide_eq_true hlt
    clear hgd
    go_enter Tryz.func145, Tryz.ntmps145
    go_wp2_with fail
    rw [← hW]
    clear hW
    refine wp_region_noPanic ?_
    refine wp_region_M (L := 13) (S := fun wx => Below W.heap.size W wx) (by kernel_rfl) ?_ (fun hHeld => ?_)
    · exact (Below.refl _ _).drew
    refine tkM0 0 (v := ?_) ?_ ?_
    rotate_left
    · (intro wv hSw; (try dsimp only at hSw); obtain ⟨hcq, _⟩ := bcell hSw; have hsq := Below.size hSw; have q0 := (hcq _ _ vl).trans v0; have ql := Nat.lt_of_lt_of_le vl hsq; go_simp; try with_reducible rfl)
    try simp only [pu]
    refine tkMB 1 ?_
    try simp only [pu]
    refine tkM0 2 (v := ?_) ?_ ?_
    rotate_left
    · (intro wv hSw; (try dsimp only at hSw); obtain ⟨hcq, _⟩ := bcell hSw; have hsq := Below.size hSw; have q0 := (hcq _ _ ml).trans m0; have ql := Nat.lt_of_lt_of_le ml hsq; go_simp; try with_reducible rfl)
    try simp only [pu]
    refine tkM0 3 (v := ?_) ?_ ?_
    rotate_left
    · (intro wv hSw; (try dsimp only at hSw); obtain ⟨hcq, _⟩ := bcell hSw; have hsq := Below.size hSw; have q0 := (hcq _ _ il).trans i0; have ql := Nat.lt_of_lt_of_le il hsq; go_simp; try with_reducible rfl)
    try simp only [pu]
    refine tkMB 4 ?_
    try simp only [pu]
    refine tkM0 5 (v := ?_) ?_ ?_
    rotate_left
    · (intro wv hSw; (try dsimp only at hSw); obtain ⟨hcq, _⟩ := bcell hSw; have hsq := Below.size hSw; have q0 := (hcq _ _ hb1).trans hzc; have ql := Nat.lt_of_lt_of_le hb1 hsq; go_simp; try with_reducible rfl)
    try simp only [pu]
    refine tkMB 6 ?_
    try simp only [pu]
    refine tkMB 7 ?_
    try simp only [pu]
    refine tkM0 8 (v := ?_) ?_ ?_
    rotate_left
    · (intro wv hSw; (try dsimp only at hSw); obtain ⟨hcq, _⟩ := bcell hSw; have hsq := Below.size hSw; have q0 := (hcq _ _ tl).trans t0; have ql := Nat.lt_of_lt_of_le tl hsq; go_simp; try with_reducible rfl)
    try simp only [pu]
    refine tkMB 9 ?_
    try simp only [pu]
    refine wpAnyM_ready (rs := [10]) (by kernel_rfl) (by simp) ?_
    refine AllReadyM.cons rfl (fun K hK => ?_) AllReadyM.nil
    go_simp
    refine Calls.mono (HP.out _ hHeld) ?_
    rintro e w2 ⟨rfl, hb2⟩
    have hb3 := below_callS hHeld hb2
    go_wp2_with fail
    refine hK.out _ _ hb3 (fun hHeld => ?_)
    clear hK K
    try simp only [pu]
    refine tkMB 11 ?_
    try simp only [pu]
    refine tkMB 12 ?_
    try simp only [pu]
    refine wpAnyM_ready (rs := [13]) (by kernel_rfl) (by simp) ?_
    refine AllReadyM.last rfl (fun K hK => ?_)
    go_simp
    refine hK.out _ _ ?_
    clear hK K
    try simp only [pu]
    refine wpAnyM_done (by kernel_rfl) ?_ _
    refine NoPanic.normal ?_
    have hbe := below_callS hbW hb3
    go_wp2
    go_ret
    exact ⟨ret_bool (by rw [HF.out]), hbe⟩
  · have HF := Lib.hid (show alB sz g j v = false by rw [alB, hgd, decide_eq_false hlt, Bool.false_and])
    have hd : decide (v < z) = false := decide_eq_false hlt
    clear hgd
    go_enter Tryz.func145, Tryz.ntmps145
    go_wp2_with fail
    rw [← hW]
    clear hW
    refine wp_region_noPanic ?_
    refine wp_region_M (L := 13) (S := fun wx => Below W.heap.size W wx) (by kernel_rfl) ?_ (fun hHeld => ?_)
    · exact (Below.refl _ _).drew
    refine tkM0 0 (v := ?_) ?_ ?_
    rotate_left
    · (intro wv hSw; (try dsimp only at hSw); obtain ⟨hcq, _⟩ := bcell hSw; have hsq := Below.size hSw; have q0 := (hcq _ _ vl).trans v0; have ql := Nat.lt_of_lt_of_le vl hsq; go_simp; try with_reducible rfl)
    try simp only [pu]
    refine tkMB 1 ?_
    try simp only [pu]
    refine tkM0 2 (v := ?_) ?_ ?_
    rotate_left
    · (intro wv hSw; (try dsimp only at hSw); obtain ⟨hcq, _⟩ := bcell hSw; have hsq := Below.size hSw; have q0 := (hcq _ _ ml).trans m0; have ql := Nat.lt_of_lt_of_le ml hsq; go_simp; try with_reducible rfl)
    try simp only [pu]
    refine tkM0 3 (v := ?_) ?_ ?_
    rotate_left
    · (intro wv hSw; (try dsimp only at hSw); obtain ⟨hcq, _⟩ := bcell hSw; have hsq := Below.size hSw; have q0 := (hcq _ _ il).trans i0; have ql := Nat.lt_of_lt_of_le il hsq; go_simp; try with_reducible rfl)
    try simp only [pu]
    refine tkMB 4 ?_
    try simp only [pu]
    refine tkM0 5 (v := ?_) ?_ ?_
    rotate_left
    · (intro wv hSw; (try dsimp only at hSw); obtain ⟨hcq, _⟩ := bcell hSw; have hsq := Below.size hSw; have q0 := (hcq _ _ hb1).trans hzc; have ql := Nat.lt_of_lt_of_le hb1 hsq; go_simp; try with_reducible rfl)
    try simp only [pu]
    refine tkMB 6 ?_
    try simp only [pu]
    refine tkMB 7 ?_
    try simp only [pu]
    refine wpAnyM_take (i := 8) (v := undef) (by simp only [List.getElem?_toArray, List.getElem?_cons_succ, List.getElem?_cons_zero] <;> rfl) (by kernel_rfl) (by kernel_rfl) (by kernel_rfl) (by kernel_rfl) (by kernel_rfl) (fun _ _ _ h => h) (Or.inr ⟨by rfl, rfl⟩) (by assumption) ?_
    try simp only [pu]
    refine wpAnyM_take (i := 9) (v := undef) (by simp only [List.getElem?_toArray, List.getElem?_cons_succ, List.getElem?_cons_zero] <;> rfl) (by kernel_rfl) (by kernel_rfl) (by kernel_rfl) (by kernel_rfl) (by kernel_rfl) (fun _ _ _ h => h) (Or.inr ⟨by rfl, rfl⟩) (by assumption) ?_
    try simp only [pu]
    refine wpAnyM_take (i := 10) (v := undef) (by simp only [List.getElem?_toArray, List.getElem?_cons_succ, List.getElem?_cons_zero] <;> rfl) (by kernel_rfl) (by kernel_rfl) (by kernel_rfl) (by kernel_rfl) (by kernel_rfl) (fun _ _ _ h => h) (Or.inr ⟨by rfl, rfl⟩) (by assumption) ?_
    try simp only [pu]
    refine wpAnyM_take (i := 11) (v := undef) (by simp only [List.getElem?_toArray, List.getElem?_cons_succ, List.getElem?_cons_zero] <;> rfl) (by kernel_rfl) (by kernel_rfl) (by kernel_rfl) (by kernel_rfl) (by kernel_rfl) (fun _ _ _ h => h) (Or.inr ⟨by rfl, rfl⟩) (by assumption) ?_
    try simp only [pu]
    refine tkMB 12 ?_
    try simp only [pu]
    refine wpAnyM_ready (rs := [13]) (by kernel_rfl) (by simp) ?_
    refine AllReadyM.last rfl (fun K hK => ?_)
    go_simp
    refine hK.out _ _ ?_
    clear hK K
    try simp only [pu]
    refine wpAnyM_done (by kernel_rfl) ?_ _
    refine NoPanic.normal ?_
    have hbe := below_callS hbW hHeld
    go_wp2
    go_ret
    exact ⟨ret_bool (by rw [HF.out]), hbe⟩
theorem td_next {sz : List Int} {g : List I2b} {k q : Nat} {z : Int} (hq : q = sz.length - 1 - k) (hz : sz[q]? = some z) : tdN sz g (k + 1) = vtN (alB sz g q) (wN z).toNat (tdN sz g k).1 0 (offN sz q : Int) (tdN sz g k).2 := by
  rw [tdN, ← hq, getD_of hz]
set_option maxRecDepth 100000 in
set_option maxHeartbeats 8000000 in
theorem impl_testDiagram {sa ta ra ga : Option Addr} {sn sc tn tc rn rc gn gc : Nat} {sz : List Int} {g : List I2b} {w : World} (hI : Ints w sa sn sc sz) (hn : sn ≤ 16) (hs : allIn 1 32 sz = true) (hG : F2b w ga gn gc g) (hg : gn ≤ 1048576) :
    Calls Tryz.prog 76 #[.agg #[.slice sa sn sc, .slice ta tn tc, .slice ra rn rc], .slice ga gn gc] w fun e w' => ∃ da dc, e = .returned (.agg #[.int .i64 (sz.map wN).sum, .slice da (tsN sz g).1.length dc, .int .i64 (tsN sz g).2]) ∧ OwnF 3 I3.enc I3.ok 117 w' w.heap.size da (tsN sz g).1.length dc (tsN sz g).1 ∧ Below w.heap.size w w' := by
  obtain rfl : sz.length = sn := hI.len
  have HI := Lib.hid hI
  have HS := Lib.hid hs
  have HG := Lib.hid hG
  obtain ⟨hsum, hoff⟩ := off_sum hs hn
  have hofl := hoff sz.length (Nat.le_refl _)
  obtain ⟨w0, hw0⟩ : ∃ w0, w0 = ((w.alloc (.cells #[.slice sa sz.length sc, .slice ta tn tc, .slice ra rn rc] 36)).alloc (.cells #[.slice ga gn gc] 54)).alloc (.cells #[.int .i64 0, .slice none 0 0, .int .i64 0] 40) := ⟨_, rfl⟩
  have hb0 : Below w.heap.size w w0 := by rw [hw0]; exact below_alloc1 (below_alloc1 (below_alloc1 (Below.refl _ _) _) _) _
  have M0 := Lib.hid (show Blk w0 w.heap.size #[.slice sa sz.length sc, .slice ta tn tc, .slice ra rn rc] 36 by rw [hw0]; exact (Blk.made _ _ _).keep (below_alloc1 (below_alloc1 (Below.refl _ _) _) _))
  have T0 := Lib.hid (show Blk w0 (w.heap.size + 1) #[.slice ga gn gc] 54 by rw [hw0]; exact (Blk.made1 _ _ _ _).keep (below_alloc1 (Below.refl _ _) _))
  have R0 := Lib.hid (show Blk w0 (w.heap.size + 1 + 1) #[.int .i64 0, .slice none 0 0, .int .i64 0] 40 by rw [hw0]; exact Blk.made2 _ _ _ _ _)
  have hkw := impl_widths (ta := ta) (tn := tn) (tc := tc) (ra := ra) (rn := rn) (rc := rc) (hI.keep hb0) (by omega) hs
  rw [hsum] at hkw ⊢
  have KW := Lib.hid hkw
  clear hI hG hs hkw hsum
  have hs0 : w0.heap.size = w.heap.size + 1 + 1 + 1 := by rw [hw0]; simp
  go_enter Tryz.func76, Tryz.ntmps76
  go_wp2_with fail
  rw [← hw0]
  clear hw0
  refine Calls.mono KW.out ?_
  rintro e w1 ⟨aw, cw, rfl, hb1, hW⟩
  have M1 := Lib.hid (M0.out.keep hb1)
  have T1 := Lib.hid (T0.out.keep hb1)
  have R1 := Lib.hid (R0.out.keep hb1)
  have W1 := Lib.hid hW
  have HB1 := Lib.hid (below_callS hb0 hb1)
  have hs1 := hb1.size
  clear hb1 hW M0 T0 R0 hb0 KW
  go_wp2_with fail
  refine Calls.mono impl_newForest ?_
  rintro e w2 ⟨p, mb, rfl, hFor, hb2, hp2⟩
  obtain ⟨lo, hlo⟩ : ∃ lo, lo = w1.heap.size := ⟨_, rfl⟩
  rw [← hlo] at hFor
  have M2 := Lib.hid (M1.out.keep hb2)
  have T2 := Lib.hid (T1.out.keep hb2)
  have R2 := Lib.hid (R1.out.keep hb2)
  have W2 := Lib.hid (W1.out.keep hb2)
  have HB2 := Lib.hid (below_callS HB1.out hb2)
  have hs2 := hb2.size
  have hplo : lo ≤ p := hFor.lop
  have hmlo : lo ≤ mb := hFor.lom
  have F2 := Lib.hid hFor
  have hlw : w.heap.size + 1 + 1 < lo := by omega
  have HWL := Lib.hid (show ∀ gg, aw = some ⟨gg, 0, none⟩ → gg < lo from fun gg e => by have := (W1.out.blk gg e).2; omega)
  clear hFor hb2 hp2 M1 T1 R1 W1 HB1
  have m0 := M2.out.cell 0
  have ml := M2.out.lt
  simp only [List.getElem?_toArray, List.getElem?_cons_zero] at m0
  have e0 : IntKind.i64.wrap ((sz.length : Int) - 1) = (sz.length : Int) - 1 := IntWalk.i64_in _ (by omega)
  go_wp2_with fail
  go_wp2_with fail
  refine Calls.mono (impl_length_i64) ?_
  rintro e _ ⟨rfl, rfl⟩
  go_wp2_with fail
  have hbA : Below w2.heap.size w2 (w2.alloc (.cells #[.int .i64 ((sz.length : Int) - 1)] 2)) := below_alloc1 (Below.refl _ _) _
  have hlo2 : lo ≤ w2.heap.size := by omega
  have B3 := Lib.hid (hbA.mono hlo2)
  have F3' := Lib.hid (show ∃ na nc mn, ForA (w2.alloc (.cells #[.int .i64 ((sz.length : Int) - 1)] 2)) lo p mb (offN sz sz.length : Int) na nc mn (tdN sz g 0).1 from ⟨_, _, _, F2.out.keep hbA⟩)
  have I3' := Lib.hid (Blk.made w2 #[.int .i64 ((sz.length : Int) - 1)] 2)
  clear m0 ml F2 hbA
  go_loopg [8, 9, 10] sz.length (fun gg s8 s9 s10 wr => ∃ (k bi : Nat), k ≤ sz.length ∧ sz.length - k ≤ gg ∧ s8 = .int .i64 (tdN sz g k).2 ∧ s9 = .int .i64 (offN sz (sz.length - k) : Int) ∧ s10 = .pointer (some ⟨bi, 0, none⟩) ∧ lo ≤ bi ∧ lo ≤ wr.heap.size ∧ Hid (Below lo w2 wr) ∧ Hid (Blk wr bi #[.int .i64 ((sz.length : Int) - 1 - (k : Int))] 2) ∧ Hid (∃ na nc mn, ForA wr lo p mb (offN sz sz.length : Int) na nc mn (tdN sz g k).1))
  case atStart => exact ⟨0, _, Nat.zero_le _, by omega, rfl, rfl, rfl, hlo2, by simp; omega, B3, by simpa using I3', F3'⟩
  case round =>
    clear B3 F3' I3'
    obtain ⟨k, bi, hk, hgg, rfl, rfl, rfl, hbi, hlr, HBL, IB, FO⟩ := hrel
    have i0 := IB.out.cell 0
    have il := IB.out.lt
    simp only [List.getElem?_toArray, List.getElem?_cons_zero] at i0
    have hbw := HB2.out.trans (HBL.out.mono (show w.heap.size ≤ lo by omega))
    by_cases hlt : k < sz.length
    · obtain ⟨q, hq⟩ : ∃ q, q = sz.length - 1 - k := ⟨_, rfl⟩
      have hqi : (sz.length : Int) - 1 - (k : Int) = (q : Int) := by omega
      rw [hqi] at i0 IB
      have hql : q < sz.length := by omega
      obtain ⟨z, hz⟩ : ∃ z, sz[q]? = some z := ⟨_, List.getElem?_eq_getElem hql⟩
      have hz2 := allIn_at HS.out hz
      have hwz := wN_in hz2.1 hz2.2
      have hst := offN_step hz
      have hnx := td_next (g := g) hq hz
      obtain ⟨i1, i2, _, i4, _⟩ := td_inv (g := g) HS.out k hk
      obtain ⟨ww, hww⟩ : ∃ m : Nat, (wN z).toNat = m := ⟨_, rfl⟩
      have hwi : wN z = (ww : Int) := by omega
      rw [hww] at hnx hst
      have HNX := Lib.hid hnx
      have hoq := hoff q (by omega)
      have e1 : sz.length - k = q + 1 := by omega
      obtain ⟨gw, hgw⟩ := W2.out.shape (by omega)
      subst hgw
      obtain ⟨wv, hwv, hwvi, cw9⟩ := (W2.out.atB (HBL.out.block gw (HWL.out gw rfl))).cell (k := q) hql
      have hwv' : wv = (ww : Int) := by rw [List.getElem?_map, hz] at hwv; simp at hwv; omega
      subst hwv'
      have gl := Nat.lt_of_lt_of_le (HWL.out gw rfl) hlr
      have e2 : IntKind.i64.wrap ((offN sz (sz.length - k) : Int) - (ww : Int)) = (offN sz q : Int) := by rw [e1, hst]; push_cast; rw [IntWalk.i64_in _ (by omega)]; omega
      have hq0 : (0 : Int) ≤ (q : Int) := by omega
      have hqn : (q : Int) < (sz.length : Int) := by omega
      obtain ⟨na, nc, mn, hfor⟩ := FO.out
      have hbp : bi ≠ p := fun e => by
        have h := hfor.blk
        have h2 := IB.out
        rw [Blk] at h h2
        rw [e, h] at h2
        simp at h2
      have hbm : bi ≠ mb := fun e => by
        obtain ⟨es, cl, hm⟩ := hfor.map.isMap
        have h2 := IB.out
        rw [Blk, e, hm] at h2
        cases h2
      have HPV := Lib.hid (show PredV 145 #[.pointer (some ⟨w.heap.size, 0, none⟩), .pointer (some ⟨bi, 0, none⟩), .pointer (some ⟨w.heap.size + 1, 0, none⟩)] (alB sz g q) lo p mb wr from fun W v h0 h1 hf => by
        have hBW := hf.below HBL.out hlr (Nat.le_refl _) hplo hmlo
        have hbW := HB2.out.trans (hBW.mono (show w.heap.size ≤ lo by omega))
        exact impl_testDiagram_1 (M2.out.keepB hBW (by omega)) (HI.out.keep hbW) (IB.out.frf hf hbp (by decide) hbm) hql (by omega) (T2.out.keepB hBW (by omega)) (HG.out.keep hbW) hg (by unfold I64; omega))
      have HZ := Lib.hid hz
      have hw5 : ww ≤ 5 := by omega
      have hqa : q + 1 + k ≤ sz.length := by omega
      have hqb : sz.length ≤ q + 1 + k := by omega
      clear hz hnx hwv hwvi hq hqi e1 hww hwi hst
      have hpw : 2 ^ ww ≤ 32 := Nat.le_trans (Nat.pow_le_pow_right (by decide) (show ww ≤ 5 by omega)) (by decide)
      have hpw' : ((0 : Int) + 1) * 2 ^ ww ≤ 32 := by
        have h : ((2 ^ ww : Nat) : Int) ≤ ((32 : Nat) : Int) := by exact_mod_cast hpw
        rw [Int.natCast_pow] at h
        have e : ((2 : Nat) : Int) = 2 := rfl
        rw [e] at h
        omega
      go_wp2_with fail
      refine Calls.mono (impl_valueTree (fun _ _ => by kernel_rfl) ww 0 (offN sz q : Int) (tdN sz g k).2 (tdN sz g k).1 wr HPV.out ⟨_, _, _, hfor⟩ (Int.le_refl _) hpw' (by omega) (by omega) (by omega) i2 (by omega) hlr) ?_
      rintro e w6 ⟨rfl, hF6, hf6⟩
      rw [← HNX.out] at hF6 ⊢
      have HBL6 := Lib.hid (hf6.below HBL.out hlr (Nat.le_refl _) hplo hmlo)
      have IB6 := Lib.hid (IB.out.frf hf6 hbp (by decide) hbm)
      have F6 := Lib.hid hF6
      have hs6 := hf6.size
      clear hF6 hf6 HBL IB FO hfor HPV i0 il cw9 gl
      have i0 := IB6.out.cell 0
      have il := IB6.out.lt
      simp only [List.getElem?_toArray, List.getElem?_cons_zero] at i0
      have e7 : IntKind.i64.wrap ((q : Int) - 1) = (q : Int) - 1 := IntWalk.i64_in _ (by omega)
      go_wp2_with fail
      have hbN : Below w6.heap.size w6 (w6.alloc (.cells #[.int .i64 ((q : Int) - 1)] 2)) := below_alloc1 (Below.refl _ _) _
      have BLN := Lib.hid (HBL6.out.trans (hbN.mono (show lo ≤ w6.heap.size by omega)))
      have IBN := Lib.hid (Blk.made w6 #[.int .i64 ((q : Int) - 1)] 2)
      have FN := Lib.hid (show ∃ na nc mn, ForA (w6.alloc (.cells #[.int .i64 ((q : Int) - 1)] 2)) lo p mb (offN sz sz.length : Int) na nc mn (tdN sz g (k + 1)).1 from by
        obtain ⟨na, nc, mn, h⟩ := F6.out
        exact ⟨na, nc, mn, h.keep hbN⟩)
      clear hbN HBL6 IB6 F6 i0 il
      go_roundg (sz.length - (k + 1))
      case measure => omega
      case rel => exact ⟨k + 1, w6.heap.size, by omega, by omega, rfl, by rw [show sz.length - (k + 1) = q by omega], rfl, by omega, by simp; omega, BLN, by rw [show (sz.length : Int) - 1 - ((k + 1 : Nat) : Int) = (q : Int) - 1 by omega]; exact IBN, FN⟩
    · obtain rfl : sz.length = k := by omega
      have hm1 : (sz.length : Int) - 1 - (sz.length : Int) = -1 := by omega
      rw [hm1] at i0
      obtain ⟨i1, i2, _, i4, _⟩ := td_inv (g := g) HS.out sz.length (Nat.le_refl _)
      obtain ⟨na, nc, mn, hfor⟩ := FO.out
      have R3 := Lib.hid (R2.out.keepB HBL.out (by omega))
      have HBW := Lib.hid hbw
      have HTS := Lib.hid (show tsN sz g = canN mkN (tdN sz g sz.length).1 (tdN sz g sz.length).2 from rfl)
      clear hm1 hbw
      go_wp2_with fail
      refine Calls.mono (impl_canonical hfor i1.redu (by omega) (by unfold I64; omega) i2) ?_
      rintro e w6 ⟨da, dc, rfl, hO, hb6⟩
      obtain ⟨⟨TL, TR⟩, hTS⟩ : ∃ x, tsN sz g = x := ⟨_, rfl⟩
      have HTT := Lib.hid hTS
      rw [← HTS.out, hTS] at hO ⊢
      clear hTS
      have R6 := Lib.hid (R3.out.keep hb6)
      have HB6 := Lib.hid (below_callS HBW.out hb6)
      have hs6 := hb6.size
      have O6 := Lib.hid hO
      clear hO hb6 HBL IB FO hfor i0 il R3 HBW
      have r0 := R6.out.cell 0
      have r1 := R6.out.cell 1
      have r2 := R6.out.cell 2
      have rl := R6.out.lt
      have rf := R6.out.free
      simp only [List.getElem?_toArray, List.getElem?_cons_succ, List.getElem?_cons_zero] at r0 r1 r2
      go_wp2
      have hne : ∀ y, da = some ⟨y, 0, none⟩ → (some (w.heap.size + 1 + 1) : Option Nat) ≠ some y := fun y e e' => by
        have := (O6.out.blk y e).1
        simp at e'
        omega
      have hbz : Below w.heap.size w w6 := HB6.out
      refine bodyPost_ret (v := .agg #[.int .i64 (offN sz sz.length : Int), .slice da TL.length dc, .int .i64 TR]) (by simp [results, Tryz.results76, go_sem, *]) rfl ⟨da, dc, by rw [HTT.out], ?_, ?_⟩
      · rw [HTT.out]
        exact ((((O6.out.keepG (set_grown _ _ _) hne).keepG (set_grown _ _ _) hne).keepG (set_grown _ _ _) hne)).le (by omega)
      · exact bel
end Go.Proofs.YtkaikbaagajckaaGreat
