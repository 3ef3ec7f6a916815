/- The diagram of tests, with its code: the reference, walked. -/
import Derived.Test.YtkaikbaagajckaaWm
namespace Go.Proofs.Ytkaikbaagajckaa
open Go.RowKit
set_option linter.unusedVariables false
set_option linter.unusedSimpArgs false
attribute [local go_sem ↓] Go.wp_at_zero Go.wp_at_succ
theorem tb_at {sz : List Int} {g : List I2b} {n q : Nat} {Tb : List (LnB × List Bool)} {x : LnB × List Bool} (h : Tb.map (·.2) = tbB sz g n) (hq : q < n) (hx : Tb[q]? = some x) : x.2 = lnB sz g q := by
  have h1 : (Tb.map (·.2))[q]? = some x.2 := by rw [List.getElem?_map, hx]; rfl
  rw [h, tbB, range_get hq] at h1
  exact (Option.some.inj h1).symm
set_option maxRecDepth 100000 in
set_option maxHeartbeats 8000000 in
theorem spec_l23Product {lo p base c : Nat} {a sa ta ra : Option Addr} {sc tn tc rn rc : Nat} {sz : List Int} {g : List I2b} {Tb : List (LnB × List Bool)} {wS : World} (hI : Ints wS sa sz.length sc sz) (hn : sz.length ≤ 16) (hs : allIn 1 32 sz = true) (hlS : wS.heap.size ≤ lo) (hT : Tb.map (·.2) = tbB sz g sz.length) :
    ∀ (k : Nat) (w : World), k ≤ sz.length → Below wS.heap.size wS w → (∃ na nc, BldA w lo p na nc []) → BRow w base a sz.length c Tb → lo ≤ w.heap.size →
    Calls Try.prog 83 #[.pointer (some ⟨p, 0, none⟩), .agg #[.slice sa sz.length sc, .slice ta tn tc, .slice ra rn rc], .slice a sz.length c, .int .i64 ((sz.length - k : Nat) : Int), .int .i64 (offN sz (sz.length - k) : Int)] w fun e w' => e = .returned (.int .i64 (tdN sz g k).2) ∧ (∃ na nc, BldA w' lo p na nc (tdN sz g k).1) ∧ FrF lo p p w w' := by
  intro k
  induction k with
  | zero =>
    intro w hk hB hF hRow hlo
    have hb0 : Below w.heap.size w (w.alloc (.cells #[.slice sa sz.length sc, .slice ta tn tc, .slice ra rn rc] 59)) := below_alloc1 (Below.refl _ _) _
    have HF := Lib.hid hF
    have e0 : (((sz.length - 0 : Nat) : Int) == (sz.length : Int)) = true := by simp
    clear hF hI hRow
    go_enter Try.func83, Try.ntmps83
    go_wp2
    go_ret
    refine ⟨by rw [tdN]; rfl, ?_, FrF.of_below hb0⟩
    obtain ⟨na, nc, h⟩ := HF.out
    exact ⟨na, nc, by rw [tdN]; exact h.keep hb0⟩
  | succ k ih =>
    intro w hk hB hF hRow hlo
    obtain ⟨q, hq⟩ : ∃ q, q = sz.length - 1 - k := ⟨_, rfl⟩
    have hql : q < sz.length := by omega
    have eq1 : sz.length - (k + 1) = q := by omega
    have eq2 : sz.length - k = q + 1 := by omega
    obtain ⟨z, hz⟩ : ∃ z, sz[q]? = some z := ⟨_, List.getElem?_eq_getElem hql⟩
    have hz2 := allIn_at hs hz
    have hwz := wN_in hz2.1 hz2.2
    have hst := offN_step hz
    have hoff := (off_sum hs hn).2 q (by omega)
    have hnx := td_next (g := g) hq hz
    obtain ⟨i1, i2, _, i4, _⟩ := td_inv (g := g) hs k (by omega)
    obtain ⟨ww, hww⟩ : ∃ m : Nat, (wN z).toNat = m := ⟨_, rfl⟩
    have hwi : wN z = (ww : Int) := by omega
    have hw5 : ww ≤ 5 := by omega
    rw [hww] at hnx hst
    rw [eq1]
    have ihk := fun (w' : World) => ih w' (by omega)
    rw [eq2] at ihk
    have K1 := Lib.hid (spec_l23Width (z := z) (w := w) hz2.1 hz2.2)
    have KW := Lib.hid (fun (wx : World) => (spec_l23Width (z := z) (w := wx) hz2.1 hz2.2))
    rw [hwi] at KW
    have e1 : IntKind.i64.wrap ((offN sz q : Int) + (ww : Int)) = (offN sz (q + 1) : Int) := by rw [hst]; push_cast; exact IntWalk.i64_in _ (by omega)
    have e2 : IntKind.i64.wrap ((q : Int) + 1) = ((q + 1 : Nat) : Int) := by rw [show IntKind.i64.wrap ((q : Int) + 1) = (q : Int) + 1 from IntWalk.i64_in _ (by omega)]; omega
    have e3 : ((q : Int) == (sz.length : Int)) = false := by simpa using (show ¬ (q : Int) = (sz.length : Int) by omega)
    have hq0 : (0 : Int) ≤ (q : Int) := by omega
    have hqn : (q : Int) < (sz.length : Int) := by omega
    obtain ⟨W, hW⟩ : ∃ W, W = w.alloc (.cells #[.slice sa sz.length sc, .slice ta tn tc, .slice ra rn rc] 59) := ⟨_, rfl⟩
    have hb0 : Below w.heap.size w W := by rw [hW]; exact below_alloc1 (Below.refl _ _) _
    have X := Lib.hid (show Blk W w.heap.size #[.slice sa sz.length sc, .slice ta tn tc, .slice ra rn rc] 59 by rw [hW]; exact Blk.made _ _ _)
    have HBW := Lib.hid (hB.trans (hb0.mono hB.size))
    have HF := Lib.hid (show ∃ na nc, BldA W lo p na nc [] from by obtain ⟨na, nc, h⟩ := hF; exact ⟨na, nc, h.keep hb0⟩)
    have HRow := Lib.hid (hRow.keep hb0)
    have hpw : p < w.heap.size := by obtain ⟨na, nc, h⟩ := hF; exact h.blk.lt
    have hlp : lo ≤ p := by obtain ⟨na, nc, h⟩ := hF; exact h.lop
    have hWs : W.heap.size = w.heap.size + 1 := by rw [hW]; simp
    have HI := Lib.hid hI
    have HZ := Lib.hid hz
    have HT := Lib.hid hT
    have HB0 := Lib.hid hb0
    have HIK := Lib.hid ihk
    have HNX := Lib.hid hnx
    have x0 := X.out.cell 0
    have x1 := X.out.cell 1
    have x2 := X.out.cell 2
    have xl := X.out.lt
    simp only [List.getElem?_toArray, List.getElem?_cons_succ, List.getElem?_cons_zero] at x0 x1 x2
    obtain ⟨b1, o1, z', hsa, hb1, hz', hzc, _⟩ := (hI.keep HBW.out).at hql
    rw [hz] at hz'
    cases hz'
    subst hsa
    have hqa : q + 1 + k ≤ sz.length := by omega
    have hqb : sz.length ≤ q + 1 + k := by omega
    clear hI hF hRow hT hb0 ih ihk hnx hz hq eq1 eq2 hst hwi hww K1
    go_enter Try.func83, Try.ntmps83
    go_wp2_with fail
    rw [← hW]
    clear hW
    refine wp_region_noPanic ?_
    refine wp_region_M (L := 13) (S := fun wx => Below W.heap.size W wx) (by kernel_rfl) ?_ (fun hHeld => ?_)
    · exact (Below.refl _ _).drew
    refine wpAnyM_take (i := 0) (v := ?_) (by simp only [List.getElem?_toArray, List.getElem?_cons_succ, List.getElem?_cons_zero] <;> rfl) (by kernel_rfl) (by kernel_rfl) (by kernel_rfl) (by kernel_rfl) (by kernel_rfl) (fun _ _ _ h => h) (Or.inl ⟨by rfl, ?_⟩) (by assumption) ?_
    rotate_left
    · (intro wv hSw; (try dsimp only at hSw); obtain ⟨hcq, _⟩ := bcell hSw; have hsq := Below.size hSw; go_simp; try with_reducible rfl)
    try simp only [Act.put, List.setIfInBounds_toArray, List.set_cons_zero, List.set_cons_succ]
    refine wpAnyM_take (i := 2) (v := ?_) (by simp only [List.getElem?_toArray, List.getElem?_cons_succ, List.getElem?_cons_zero] <;> rfl) (by kernel_rfl) (by kernel_rfl) (by kernel_rfl) (by kernel_rfl) (by kernel_rfl) (fun _ _ _ h => h) (Or.inl ⟨by rfl, ?_⟩) (by assumption) ?_
    rotate_left
    · (intro wv hSw; (try dsimp only at hSw); obtain ⟨hcq, _⟩ := bcell hSw; have hsq := Below.size hSw; go_simp; try with_reducible rfl)
    try simp only [Act.put, List.setIfInBounds_toArray, List.set_cons_zero, List.set_cons_succ]
    refine wpAnyM_take (i := 3) (v := ?_) (by simp only [List.getElem?_toArray, List.getElem?_cons_succ, List.getElem?_cons_zero] <;> rfl) (by kernel_rfl) (by kernel_rfl) (by kernel_rfl) (by kernel_rfl) (by kernel_rfl) (fun _ _ _ h => h) (Or.inl ⟨by rfl, ?_⟩) (by assumption) ?_
    rotate_left
    · (intro wv hSw; (try dsimp only at hSw); obtain ⟨hcq, _⟩ := bcell hSw; have hsq := Below.size hSw; go_simp; try with_reducible rfl)
    try simp only [Act.put, List.setIfInBounds_toArray, List.set_cons_zero, List.set_cons_succ]
    refine wpAnyM_take (i := 4) (v := ?_) (by simp only [List.getElem?_toArray, List.getElem?_cons_succ, List.getElem?_cons_zero] <;> rfl) (by kernel_rfl) (by kernel_rfl) (by kernel_rfl) (by kernel_rfl) (by kernel_rfl) (fun _ _ _ h => h) (Or.inl ⟨by rfl, ?_⟩) (by assumption) ?_
    rotate_left
    · (intro wv hSw; (try dsimp only at hSw); obtain ⟨hcq, _⟩ := bcell hSw; have hsq := Below.size hSw; go_simp; try with_reducible rfl)
    try simp only [Act.put, List.setIfInBounds_toArray, List.set_cons_zero, List.set_cons_succ]
    refine wpAnyM_take (i := 5) (v := ?_) (by simp only [List.getElem?_toArray, List.getElem?_cons_succ, List.getElem?_cons_zero] <;> rfl) (by kernel_rfl) (by kernel_rfl) (by kernel_rfl) (by kernel_rfl) (by kernel_rfl) (fun _ _ _ h => h) (Or.inl ⟨by rfl, ?_⟩) (by assumption) ?_
    rotate_left
    · (intro wv hSw; (try dsimp only at hSw); obtain ⟨hcq, _⟩ := bcell hSw; have hsq := Below.size hSw; go_simp; try with_reducible rfl)
    try simp only [Act.put, List.setIfInBounds_toArray, List.set_cons_zero, List.set_cons_succ]
    refine wpAnyM_take (i := 6) (v := ?_) (by simp only [List.getElem?_toArray, List.getElem?_cons_succ, List.getElem?_cons_zero] <;> rfl) (by kernel_rfl) (by kernel_rfl) (by kernel_rfl) (by kernel_rfl) (by kernel_rfl) (fun _ _ _ h => h) (Or.inl ⟨by rfl, ?_⟩) (by assumption) ?_
    rotate_left
    · (intro wv hSw; (try dsimp only at hSw); obtain ⟨hcq, _⟩ := bcell hSw; have hsq := Below.size hSw; go_simp; try with_reducible rfl)
    try simp only [Act.put, List.setIfInBounds_toArray, List.set_cons_zero, List.set_cons_succ]
    refine wpAnyM_take (i := 8) (v := ?_) (by simp only [List.getElem?_toArray, List.getElem?_cons_succ, List.getElem?_cons_zero] <;> rfl) (by kernel_rfl) (by kernel_rfl) (by kernel_rfl) (by kernel_rfl) (by kernel_rfl) (fun _ _ _ h => h) (Or.inl ⟨by rfl, ?_⟩) (by assumption) ?_
    rotate_left
    · (intro wv hSw; (try dsimp only at hSw); obtain ⟨hcq, _⟩ := bcell hSw; have hsq := Below.size hSw; go_simp; try with_reducible rfl)
    try simp only [Act.put, List.setIfInBounds_toArray, List.set_cons_zero, List.set_cons_succ]
    refine wpAnyM_take (i := 1) (v := ?_) (by simp only [List.getElem?_toArray, List.getElem?_cons_succ, List.getElem?_cons_zero] <;> rfl) (by kernel_rfl) (by kernel_rfl) (by kernel_rfl) (by kernel_rfl) (by kernel_rfl) (fun _ _ _ h => h) (Or.inl ⟨by rfl, ?_⟩) (by assumption) ?_
    rotate_left
    · (intro wv hSw; (try dsimp only at hSw); obtain ⟨hcq, _⟩ := bcell hSw; have hsq := Below.size hSw; have p0 := (hcq _ _ xl).trans x0; have p1 := (hcq _ _ xl).trans x1; have p2 := (hcq _ _ xl).trans x2; have pl := Nat.lt_of_lt_of_le xl hsq; go_simp; try with_reducible rfl)
    try simp only [Act.put, List.setIfInBounds_toArray, List.set_cons_zero, List.set_cons_succ]
    refine wpAnyM_take (i := 7) (v := ?_) (by simp only [List.getElem?_toArray, List.getElem?_cons_succ, List.getElem?_cons_zero] <;> rfl) (by kernel_rfl) (by kernel_rfl) (by kernel_rfl) (by kernel_rfl) (by kernel_rfl) (fun _ _ _ h => h) (Or.inl ⟨by rfl, ?_⟩) (by assumption) ?_
    rotate_left
    · (intro wv hSw; (try dsimp only at hSw); obtain ⟨hcq, _⟩ := bcell hSw; have hsq := Below.size hSw; have p0 := (hcq _ _ xl).trans x0; have pl := Nat.lt_of_lt_of_le xl hsq; go_simp; try with_reducible rfl)
    try simp only [Act.put, List.setIfInBounds_toArray, List.set_cons_zero, List.set_cons_succ]
    refine wpAnyM_take (i := 9) (v := ?_) (by simp only [List.getElem?_toArray, List.getElem?_cons_succ, List.getElem?_cons_zero] <;> rfl) (by kernel_rfl) (by kernel_rfl) (by kernel_rfl) (by kernel_rfl) (by kernel_rfl) (fun _ _ _ h => h) (Or.inl ⟨by rfl, ?_⟩) (by assumption) ?_
    rotate_left
    · (intro wv hSw; (try dsimp only at hSw); obtain ⟨hcq, _⟩ := bcell hSw; have hsq := Below.size hSw; go_simp; try with_reducible rfl)
    try simp only [Act.put, List.setIfInBounds_toArray, List.set_cons_zero, List.set_cons_succ]
    refine wpAnyM_take (i := 10) (v := ?_) (by simp only [List.getElem?_toArray, List.getElem?_cons_succ, List.getElem?_cons_zero] <;> rfl) (by kernel_rfl) (by kernel_rfl) (by kernel_rfl) (by kernel_rfl) (by kernel_rfl) (fun _ _ _ h => h) (Or.inl ⟨by rfl, ?_⟩) (by assumption) ?_
    rotate_left
    · (intro wv hSw; (try dsimp only at hSw); obtain ⟨hcq, _⟩ := bcell hSw; have hsq := Below.size hSw; have p0 := (hcq _ _ hb1).trans hzc; have pl := Nat.lt_of_lt_of_le hb1 hsq; go_simp; try with_reducible rfl)
    try simp only [Act.put, List.setIfInBounds_toArray, List.set_cons_zero, List.set_cons_succ]
    refine wpAnyM_ready (rs := [11]) (by kernel_rfl) (by simp) ?_
    refine AllReadyM.cons rfl (fun K hK => ?_) AllReadyM.nil
    go_simp
    refine Calls.mono (KW.out _) ?_
    rintro e _ ⟨rfl, rfl⟩
    go_wp2_with fail
    refine hK.out _ _ hHeld (fun hHeld => ?_)
    clear hK K
    try simp only [Act.put, List.setIfInBounds_toArray, List.set_cons_zero, List.set_cons_succ]
    refine wpAnyM_take (i := 12) (v := ?_) (by simp only [List.getElem?_toArray, List.getElem?_cons_succ, List.getElem?_cons_zero] <;> rfl) (by kernel_rfl) (by kernel_rfl) (by kernel_rfl) (by kernel_rfl) (by kernel_rfl) (fun _ _ _ h => h) (Or.inl ⟨by rfl, ?_⟩) (by assumption) ?_
    rotate_left
    · (intro wv hSw; (try dsimp only at hSw); obtain ⟨hcq, _⟩ := bcell hSw; have hsq := Below.size hSw; go_simp; try with_reducible rfl)
    try simp only [Act.put, List.setIfInBounds_toArray, List.set_cons_zero, List.set_cons_succ]
    refine wpAnyM_ready (rs := [13]) (by kernel_rfl) (by simp) ?_
    refine AllReadyM.last rfl (fun K hK => ?_)
    go_simp
    refine Calls.mono (HIK.out _ (HBW.out.trans (Below.mono hHeld (by have := HBW.out.size; omega))) (by obtain ⟨na, nc, h⟩ := HF.out; exact ⟨na, nc, h.keep hHeld⟩) (HRow.out.keep hHeld) (by have := Below.size hHeld; omega)) ?_
    rintro e w2 ⟨rfl, hF2, hf2⟩
    have HFF := Lib.hid ((FrF.of_below (lo := lo) (p := p) (mb := p) HB0.out).trans ((FrF.of_below hHeld).trans hf2))
    have X2 := Lib.hid ((X.out.keep hHeld).frf hf2 (by omega) (by decide) (by omega))
    have HB2 := Lib.hid (show Below wS.heap.size wS w2 from HBW.out.trans ((Below.mono hHeld (by have := HBW.out.size; omega)).trans ((hf2.below (Below.refl _ _) (by have := Below.size hHeld; omega) (Nat.le_refl _) hlp hlp).mono hlS)))
    have HR2 := Lib.hid (show BRow w2 base a sz.length c Tb from by
      obtain ⟨na, nc, h⟩ := HF.out
      exact (HRow.out.keep hHeld).frf (h.keep hHeld).blk hf2)
    have HF2 := Lib.hid hF2
    have hs2 := hf2.size
    have hs1 := Below.size hHeld
    clear hF2 hf2 x0 x1 x2 xl X HF HRow HBW hzc hb1
    go_wp2_with fail
    refine hK.out _ _ ?_
    clear hK K
    try simp only [Act.put, List.setIfInBounds_toArray, List.set_cons_zero, List.set_cons_succ]
    refine wpAnyM_ready (rs := [14]) (by kernel_rfl) (by simp) ?_
    refine AllReadyM.then (by kernel_rfl) rfl (fun K hK => ?_)
    go_simp
    refine hK.out _ _ ?_
    clear hK K
    try simp only [Act.put, List.setIfInBounds_toArray, List.set_cons_zero, List.set_cons_succ]
    refine wpAnyM_done (by kernel_rfl) ?_ _
    refine NoPanic.normal ?_
    clear hHeld
    obtain ⟨gr, R, A, rfl, hgr, hTq, hA, rcell⟩ := HR2.out.get hql
    have hAq := tb_at HT.out hql hTq
    simp only at hAq
    subst hAq
    have x0 := X2.out.cell 0
    have x1 := X2.out.cell 1
    have x2 := X2.out.cell 2
    have xl := X2.out.lt
    simp only [List.getElem?_toArray, List.getElem?_cons_succ, List.getElem?_cons_zero] at x0 x1 x2
    obtain ⟨b2, o2, z', hsa, hb1, hz', hzc, _⟩ := (HI.out.keep HB2.out).at hql
    cases hsa
    have hzz : z' = z := by have h := HZ.out; rw [hz'] at h; exact Option.some.inj h
    subst hzz
    clear hz'
    have hpw32 : 2 ^ ww ≤ 32 := Nat.le_trans (Nat.pow_le_pow_right (by decide) (show ww ≤ 5 by omega)) (by decide)
    have hpw' : ((0 : Int) + 1) * 2 ^ ww ≤ 32 := by
      have h : ((2 ^ ww : Nat) : Int) ≤ ((32 : Nat) : Int) := by exact_mod_cast hpw32
      rw [Int.natCast_pow] at h
      have e : ((2 : Nat) : Int) = 2 := rfl
      rw [e] at h
      omega
    have HVC := Lib.hid (show vtN (alA (lnB sz g q)) ww (tdN sz g k).1 0 (offN sz q : Int) (tdN sz g k).2 = tdN sz g (k + 1) from by rw [vt_congr (fun v hv => alA_line sz g q v hv) _ _ _ _ _ (Int.le_refl _), HNX.out])
    have hRn : R.n ≤ 1048576 := by
      have h := hA.len
      rw [lnB_len, getD_of HZ.out] at h
      omega
    have HA := Lib.hid hA
    clear hA hTq
    go_wp2_with fail
    refine wp_region_noPanic ?_
    refine wp_region_M (L := 13) (S := fun wx => Below w2.heap.size w2 wx) (by kernel_rfl) ?_ (fun hHeld => ?_)
    · exact (Below.refl _ _).drew
    refine wpAnyM_take (i := 0) (v := ?_) (by simp only [List.getElem?_toArray, List.getElem?_cons_succ, List.getElem?_cons_zero] <;> rfl) (by kernel_rfl) (by kernel_rfl) (by kernel_rfl) (by kernel_rfl) (by kernel_rfl) (fun _ _ _ h => h) (Or.inl ⟨by rfl, ?_⟩) (by assumption) ?_
    rotate_left
    · (intro wv hSw; (try dsimp only at hSw); obtain ⟨hcq, _⟩ := bcell hSw; have hsq := Below.size hSw; go_simp; try with_reducible rfl)
    try simp only [Act.put, List.setIfInBounds_toArray, List.set_cons_zero, List.set_cons_succ]
    refine wpAnyM_take (i := 1) (v := ?_) (by simp only [List.getElem?_toArray, List.getElem?_cons_succ, List.getElem?_cons_zero] <;> rfl) (by kernel_rfl) (by kernel_rfl) (by kernel_rfl) (by kernel_rfl) (by kernel_rfl) (fun _ _ _ h => h) (Or.inl ⟨by rfl, ?_⟩) (by assumption) ?_
    rotate_left
    · (intro wv hSw; (try dsimp only at hSw); obtain ⟨hcq, _⟩ := bcell hSw; have hsq := Below.size hSw; go_simp; try with_reducible rfl)
    try simp only [Act.put, List.setIfInBounds_toArray, List.set_cons_zero, List.set_cons_succ]
    refine wpAnyM_take (i := 2) (v := ?_) (by simp only [List.getElem?_toArray, List.getElem?_cons_succ, List.getElem?_cons_zero] <;> rfl) (by kernel_rfl) (by kernel_rfl) (by kernel_rfl) (by kernel_rfl) (by kernel_rfl) (fun _ _ _ h => h) (Or.inl ⟨by rfl, ?_⟩) (by assumption) ?_
    rotate_left
    · (intro wv hSw; (try dsimp only at hSw); obtain ⟨hcq, _⟩ := bcell hSw; have hsq := Below.size hSw; go_simp; try with_reducible rfl)
    try simp only [Act.put, List.setIfInBounds_toArray, List.set_cons_zero, List.set_cons_succ]
    refine wpAnyM_take (i := 3) (v := ?_) (by simp only [List.getElem?_toArray, List.getElem?_cons_succ, List.getElem?_cons_zero] <;> rfl) (by kernel_rfl) (by kernel_rfl) (by kernel_rfl) (by kernel_rfl) (by kernel_rfl) (fun _ _ _ h => h) (Or.inl ⟨by rfl, ?_⟩) (by assumption) ?_
    rotate_left
    · (intro wv hSw; (try dsimp only at hSw); obtain ⟨hcq, _⟩ := bcell hSw; have hsq := Below.size hSw; go_simp; try with_reducible rfl)
    try simp only [Act.put, List.setIfInBounds_toArray, List.set_cons_zero, List.set_cons_succ]
    refine wpAnyM_take (i := 5) (v := ?_) (by simp only [List.getElem?_toArray, List.getElem?_cons_succ, List.getElem?_cons_zero] <;> rfl) (by kernel_rfl) (by kernel_rfl) (by kernel_rfl) (by kernel_rfl) (by kernel_rfl) (fun _ _ _ h => h) (Or.inl ⟨by rfl, ?_⟩) (by assumption) ?_
    rotate_left
    · (intro wv hSw; (try dsimp only at hSw); obtain ⟨hcq, _⟩ := bcell hSw; have hsq := Below.size hSw; go_simp; try with_reducible rfl)
    try simp only [Act.put, List.setIfInBounds_toArray, List.set_cons_zero, List.set_cons_succ]
    refine wpAnyM_take (i := 6) (v := ?_) (by simp only [List.getElem?_toArray, List.getElem?_cons_succ, List.getElem?_cons_zero] <;> rfl) (by kernel_rfl) (by kernel_rfl) (by kernel_rfl) (by kernel_rfl) (by kernel_rfl) (fun _ _ _ h => h) (Or.inl ⟨by rfl, ?_⟩) (by assumption) ?_
    rotate_left
    · (intro wv hSw; (try dsimp only at hSw); obtain ⟨hcq, _⟩ := bcell hSw; have hsq := Below.size hSw; go_simp; try with_reducible rfl)
    try simp only [Act.put, List.setIfInBounds_toArray, List.set_cons_zero, List.set_cons_succ]
    refine wpAnyM_take (i := 8) (v := ?_) (by simp only [List.getElem?_toArray, List.getElem?_cons_succ, List.getElem?_cons_zero] <;> rfl) (by kernel_rfl) (by kernel_rfl) (by kernel_rfl) (by kernel_rfl) (by kernel_rfl) (fun _ _ _ h => h) (Or.inl ⟨by rfl, ?_⟩) (by assumption) ?_
    rotate_left
    · (intro wv hSw; (try dsimp only at hSw); obtain ⟨hcq, _⟩ := bcell hSw; have hsq := Below.size hSw; go_simp; try with_reducible rfl)
    try simp only [Act.put, List.setIfInBounds_toArray, List.set_cons_zero, List.set_cons_succ]
    refine wpAnyM_take (i := 12) (v := ?_) (by simp only [List.getElem?_toArray, List.getElem?_cons_succ, List.getElem?_cons_zero] <;> rfl) (by kernel_rfl) (by kernel_rfl) (by kernel_rfl) (by kernel_rfl) (by kernel_rfl) (fun _ _ _ h => h) (Or.inl ⟨by rfl, ?_⟩) (by assumption) ?_
    rotate_left
    · (intro wv hSw; (try dsimp only at hSw); obtain ⟨hcq, _⟩ := bcell hSw; have hsq := Below.size hSw; go_simp; try with_reducible rfl)
    try simp only [Act.put, List.setIfInBounds_toArray, List.set_cons_zero, List.set_cons_succ]
    refine wpAnyM_take (i := 4) (v := ?_) (by simp only [List.getElem?_toArray, List.getElem?_cons_succ, List.getElem?_cons_zero] <;> rfl) (by kernel_rfl) (by kernel_rfl) (by kernel_rfl) (by kernel_rfl) (by kernel_rfl) (fun _ _ _ h => h) (Or.inl ⟨by rfl, ?_⟩) (by assumption) ?_
    rotate_left
    · (intro wv hSw; (try dsimp only at hSw); obtain ⟨hcq, _⟩ := bcell hSw; have hsq := Below.size hSw; have p0 := (hcq _ _ hgr).trans rcell; have pl := Nat.lt_of_lt_of_le hgr hsq; go_simp; try with_reducible rfl)
    try simp only [Act.put, List.setIfInBounds_toArray, List.set_cons_zero, List.set_cons_succ]
    refine wpAnyM_take (i := 7) (v := ?_) (by simp only [List.getElem?_toArray, List.getElem?_cons_succ, List.getElem?_cons_zero] <;> rfl) (by kernel_rfl) (by kernel_rfl) (by kernel_rfl) (by kernel_rfl) (by kernel_rfl) (fun _ _ _ h => h) (Or.inl ⟨by rfl, ?_⟩) (by assumption) ?_
    rotate_left
    · (intro wv hSw; (try dsimp only at hSw); obtain ⟨hcq, _⟩ := bcell hSw; have hsq := Below.size hSw; have p0 := (hcq _ _ xl).trans x0; have pl := Nat.lt_of_lt_of_le xl hsq; go_simp; try with_reducible rfl)
    try simp only [Act.put, List.setIfInBounds_toArray, List.set_cons_zero, List.set_cons_succ]
    refine wpAnyM_take (i := 9) (v := ?_) (by simp only [List.getElem?_toArray, List.getElem?_cons_succ, List.getElem?_cons_zero] <;> rfl) (by kernel_rfl) (by kernel_rfl) (by kernel_rfl) (by kernel_rfl) (by kernel_rfl) (fun _ _ _ h => h) (Or.inl ⟨by rfl, ?_⟩) (by assumption) ?_
    rotate_left
    · (intro wv hSw; (try dsimp only at hSw); obtain ⟨hcq, _⟩ := bcell hSw; have hsq := Below.size hSw; go_simp; try with_reducible rfl)
    try simp only [Act.put, List.setIfInBounds_toArray, List.set_cons_zero, List.set_cons_succ]
    refine wpAnyM_take (i := 10) (v := ?_) (by simp only [List.getElem?_toArray, List.getElem?_cons_succ, List.getElem?_cons_zero] <;> rfl) (by kernel_rfl) (by kernel_rfl) (by kernel_rfl) (by kernel_rfl) (by kernel_rfl) (fun _ _ _ h => h) (Or.inl ⟨by rfl, ?_⟩) (by assumption) ?_
    rotate_left
    · (intro wv hSw; (try dsimp only at hSw); obtain ⟨hcq, _⟩ := bcell hSw; have hsq := Below.size hSw; have p0 := (hcq _ _ hb1).trans hzc; have pl := Nat.lt_of_lt_of_le hb1 hsq; go_simp; try with_reducible rfl)
    try simp only [Act.put, List.setIfInBounds_toArray, List.set_cons_zero, List.set_cons_succ]
    refine wpAnyM_ready (rs := [11]) (by kernel_rfl) (by simp) ?_
    refine AllReadyM.cons rfl (fun K hK => ?_) AllReadyM.nil
    go_simp
    refine Calls.mono (KW.out _) ?_
    rintro e _ ⟨rfl, rfl⟩
    go_wp2_with fail
    refine hK.out _ _ hHeld (fun hHeld => ?_)
    clear hK K
    try simp only [Act.put, List.setIfInBounds_toArray, List.set_cons_zero, List.set_cons_succ]
    refine wpAnyM_ready (rs := [13]) (by kernel_rfl) (by simp) ?_
    refine AllReadyM.last rfl (fun K hK => ?_)
    go_simp
    refine Calls.mono (spec_l23Value (base := base) hRn ww 0 (offN sz q : Int) (tdN sz g k).2 (tdN sz g k).1 _ (by obtain ⟨na, nc, h⟩ := HF2.out; exact ⟨na, nc, h.keep hHeld⟩) (HA.out.keep hHeld) (Int.le_refl _) hpw' (by omega) (by omega) (by omega) i2 (by omega) (by have := Below.size hHeld; omega)) ?_
    rintro e w3 ⟨rfl, hF3, hf3⟩
    rw [HVC.out] at hF3 ⊢
    have HF3 := Lib.hid hF3
    have Hf3 := Lib.hid (HFF.out.trans ((FrF.of_below hHeld).trans hf3))
    clear hF3 hf3 x0 x1 x2 xl rcell hgr hzc hb1
    go_wp2_with fail
    refine hK.out _ _ ?_
    clear hK K
    try simp only [Act.put, List.setIfInBounds_toArray, List.set_cons_zero, List.set_cons_succ]
    refine wpAnyM_ready (rs := [14]) (by kernel_rfl) (by simp) ?_
    refine AllReadyM.then (by kernel_rfl) rfl (fun K hK => ?_)
    go_simp
    refine hK.out _ _ ?_
    clear hK K
    try simp only [Act.put, List.setIfInBounds_toArray, List.set_cons_zero, List.set_cons_succ]
    refine wpAnyM_done (by kernel_rfl) ?_ _
    refine NoPanic.normal ?_
    go_wp2
    go_ret
    exact ⟨rfl, HF3.out, Hf3.out⟩
end Go.Proofs.Ytkaikbaagajckaa
