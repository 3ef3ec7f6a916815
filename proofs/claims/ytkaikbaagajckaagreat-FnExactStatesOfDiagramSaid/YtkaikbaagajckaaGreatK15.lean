/- Tests as diagrams: the program, walked.; The diagram of tests: the program, walked.; Codes of a model and a diagram; is there a state whose bits begin so: the reference, walked.; A region that draws its order: some steps in every order, then one proof for all of them.; Where a bit of an input leads: the reference, walked. (The first chunk of Wg; never import both.) -/
import Derived.Test.YtkaikbaagajckaaGreatK12
import Derived.Test.YtkaikbaagajckaaGreatK09
import Derived.Test.YtkaikbaagajckaaGreatK10
import Derived.Test.YtkaikbaagajckaaGreatK13
import Derived.Deep.DrawnRows
import Derived.Test.YtkaikbaagajckaaGreatK14
import Derived.Test.YtkaikbaagajckaaGreatK11
import Derived.Test.YtkaikbaagajckaaGreatVt
import Derived.Test.YtkaikbaagajckaaGreatBase
import Derived.Deep.RegionHeld
namespace Go.Proofs.YtkaikbaagajckaaGreat
open Go.RowKit
set_option linter.unusedVariables false
set_option linter.unusedSimpArgs false
/-- what a function value g bound to lb answers at a number, while a forest grows -/
def PredV (g : Nat) (lb : Array Value) (al : Int → Bool) (lo p mb : Nat) (w : World) : Prop :=
  ∀ (W : World) (v : Int), 0 ≤ v → v ≤ 31 → FrF lo p mb w W → Calls Tryz.prog g (#[.int .i64 v] ++ lb) W fun e w' => e = .returned (.bool (al v)) ∧ Below W.heap.size W w'
theorem PredV.step {g : Nat} {lb : Array Value} {al : Int → Bool} {lo p mb : Nat} {w w' : World} (h : PredV g lb al lo p mb w) (hf : FrF lo p mb w w') : PredV g lb al lo p mb w' := fun W v h0 h1 hW => h W v h0 h1 (hf.trans hW)
set_option maxHeartbeats 4000000 in
theorem impl_valueTree {g : Nat} {lb : Array Value} {al : Int → Bool} {lo p mb : Nat} {inp : Int} (eg : ∀ args w, (callFunc g args).run Tryz.prog w = .ok (.enter g args) w) :
    ∀ (k : Nat) (v i rest : Int) (L : List I3) (w : World), PredV g lb al lo p mb w → (∃ na nc mn, ForA w lo p mb inp na nc mn L) → 0 ≤ v → (v + 1) * 2 ^ k ≤ 32 → k ≤ 5 → 0 ≤ i → i + k ≤ 1000 → RefB rest L.length → L.length + 2 ^ k ≤ 1048576 → lo ≤ w.heap.size →
    Calls Tryz.prog 147 #[.pointer (some ⟨p, 0, none⟩), .func (.func g) #[] lb, .int .i64 v, .int .i64 (k : Int), .int .i64 i, .int .i64 rest] w fun e w' => e = .returned (.int .i64 (vtN al k L v i rest).2) ∧ (∃ na nc mn, ForA w' lo p mb inp na nc mn (vtN al k L v i rest).1) ∧ FrF lo p mb w w' := by
  intro k
  induction k with
  | zero =>
    intro v i rest L w hP hF h0 h1 hk hi0 hi1 hr hL hlo
    rw [Int.pow_zero, Int.mul_one] at h1
    have hcall := hP w v h0 (by omega) (FrF.refl _ _ _ _)
    have HFO := Lib.hid hF
    clear hF hP
    cases ha : al v
    · rw [ha] at hcall
      have HA := Lib.hid ha
      clear ha
      go_enter Tryz.func147, Tryz.ntmps147
      go_wp2_with (go_at_fn g; refine hcall.mono ?_; rintro e w1 ⟨rfl, hb1⟩)
      go_ret
      refine ⟨ret_int (by rw [vtN, HA.out]; rfl), ?_, FrF.of_below hb1⟩
      obtain ⟨na, nc, mn, h⟩ := HFO.out
      exact ⟨na, nc, mn, h.keep hb1⟩
    · rw [ha] at hcall
      have HA := Lib.hid ha
      clear ha
      go_enter Tryz.func147, Tryz.ntmps147
      go_wp2_with (go_at_fn g; refine hcall.mono ?_; rintro e w1 ⟨rfl, hb1⟩)
      go_ret
      refine ⟨ret_int (by rw [vtN, HA.out]; rfl), ?_, FrF.of_below hb1⟩
      obtain ⟨na, nc, mn, h⟩ := HFO.out
      exact ⟨na, nc, mn, h.keep hb1⟩
  | succ k ih =>
    intro v i rest L w hP hF h0 h1 hk hi0 hi1 hr hL hlo
    have hpk : (1 : Int) ≤ 2 ^ k := by
      have := Nat.two_pow_pos k
      have h : ((1 : Nat) : Int) ≤ ((2 ^ k : Nat) : Int) := by exact_mod_cast this
      rw [Int.natCast_pow] at h; exact h
    have hv1 : (2 * v + 1) * 2 ^ k ≤ 32 := by
      have e : (v + 1) * 2 ^ (k + 1) = (2 * v + 1) * 2 ^ k + 2 ^ k := by rw [Int.pow_succ]; generalize (2 : Int) ^ k = q; rw [Int.add_mul, Int.add_mul, Int.one_mul, Int.one_mul, ← Int.mul_assoc, Int.mul_comm v q, Int.mul_comm (2 * v) q, ← Int.mul_assoc, Int.mul_comm (q * v) 2, Int.mul_comm q 2, ← Int.mul_assoc]; omega
      omega
    have hv2 : (2 * v + 1 + 1) * 2 ^ k ≤ 32 := by
      have e : (v + 1) * 2 ^ (k + 1) = (2 * v + 1 + 1) * 2 ^ k := by rw [Int.pow_succ, show 2 * v + 1 + 1 = 2 * (v + 1) by omega]; generalize (2 : Int) ^ k = q; rw [Int.mul_comm q 2, ← Int.mul_assoc, Int.mul_comm 2 (v + 1)]
      omega
    have hvs : v ≤ 31 := by
      have h3 : (v + 1) * 1 ≤ (v + 1) * 2 ^ (k + 1) := Int.mul_le_mul_of_nonneg_left (by
        have := Nat.two_pow_pos (k + 1)
        have h : ((1 : Nat) : Int) ≤ ((2 ^ (k + 1) : Nat) : Int) := by exact_mod_cast this
        rw [Int.natCast_pow] at h; exact h) (by omega)
      omega
    have e1 : IntKind.i64.wrap (2 * v) = 2 * v := IntWalk.i64_in _ (by omega)
    have e2 : IntKind.i64.wrap (2 * v + 1) = 2 * v + 1 := IntWalk.i64_in _ (by omega)
    have e3 : IntKind.i64.wrap (((k + 1 : Nat) : Int) - 1) = (k : Int) := by rw [IntWalk.i64_in _ (by omega)]; omega
    have e3' : IntKind.i64.wrap ((k : Int) + 1 - 1) = (k : Int) := by rw [IntWalk.i64_in _ (by omega)]; omega
    have e4 : IntKind.i64.wrap (i + 1) = i + 1 := IntWalk.i64_in _ (by omega)
    have e5 : (((k + 1 : Nat) : Int) == 0) = false := by simpa using (show ¬ ((k + 1 : Nat) : Int) = 0 by omega)
    have e5' : (((k : Int) + 1) == 0) = false := by simpa using (show ¬ (k : Int) + 1 = 0 by omega)
    have e6 : ¬ ((k : Int) + 1 = 0) := by omega
    have hpw : 2 ^ (k + 1) = 2 ^ k + 2 ^ k := by rw [Nat.pow_succ]; omega
    have HP := Lib.hid hP
    have HFO := Lib.hid hF
    have HR := Lib.hid hr
    obtain ⟨q1, q2, q3⟩ := vt_ref (al := al) k L (2 * v) (i + 1) rest hr
    obtain ⟨A, hA⟩ : ∃ A, vtN al k L (2 * v) (i + 1) rest = A := ⟨_, rfl⟩
    rw [hA] at q1 q2 q3
    obtain ⟨r1, r2, r3⟩ := vt_ref (al := al) k A.1 (2 * v + 1) (i + 1) rest (hr.mono q2)
    obtain ⟨B, hB⟩ : ∃ B, vtN al k A.1 (2 * v + 1) (i + 1) rest = B := ⟨_, rfl⟩
    rw [hB] at r1 r2 r3
    have HN := Lib.hid (vt_new hA hB)
    obtain ⟨A1, A2⟩ := A
    obtain ⟨B1, B2⟩ := B
    simp only at q1 q2 q3 r1 r2 r3
    have K1 := Lib.hid (ih (2 * v) (i + 1) rest L w hP hF (by omega) hv1 (by omega) (by omega) (by omega) hr (by omega) hlo)
    have K2 := Lib.hid (fun (w1 : World) (hf : FrF lo p mb w w1) (h : ∃ na nc mn, ForA w1 lo p mb inp na nc mn A1) => ih (2 * v + 1) (i + 1) rest A1 w1 (HP.out.step hf) h (by omega) hv2 (by omega) (by omega) (by omega) (HR.out.mono q2) (by omega) (by have := hf.size; omega))
    have HA := Lib.hid hA
    have HB := Lib.hid hB
    have hq1 : I64 A2 := by have h1 := q1.1; have h2 := q1.2; unfold I64; omega
    have hq2 : I64 B2 := by have h1 := r1.1; have h2 := r1.2; unfold I64; omega
    clear hA hB hF hP hr ih h1 hv1 hv2 hpk
    go_enter Tryz.func147, Tryz.ntmps147
    go_wp2_with fail
    refine Calls.mono K1.out ?_
    rintro e w1 ⟨rfl, hF1, hf1⟩
    rw [HA.out] at hF1 ⊢
    have HF1 := Lib.hid hF1
    have Hf1 := Lib.hid hf1
    clear hF1 hf1
    go_wp2_with fail
    refine Calls.mono (K2.out w1 Hf1.out HF1.out) ?_
    rintro e w2 ⟨rfl, hF2, hf2⟩
    rw [HB.out] at hF2 ⊢
    obtain ⟨na, nc, mn, hF2⟩ := hF2
    have HF2 := Lib.hid hF2
    have Hf2 := Lib.hid (Hf1.out.trans hf2)
    have hs2 := Hf2.out.size
    clear hF2 hf2
    go_wp2_with fail
    refine Calls.mono (impl_node HF2.out (by omega) (by unfold I64; omega) hq1 hq2 (by omega)) ?_
    rintro e w3 ⟨rfl, hF3, hf3⟩
    have HF3 := Lib.hid hF3
    have Hf3 := Lib.hid (Hf2.out.trans hf3)
    clear hF3 hf3
    go_wp2
    go_ret
    refine ⟨ret_int (by rw [HN.out]), ?_, Hf3.out⟩
    rw [HN.out]
    exact HF3.out
end Go.Proofs.YtkaikbaagajckaaGreat
namespace Go.Proofs.YtkaikbaagajckaaGreat
open Go.RowKit
set_option linter.unusedVariables false
set_option linter.unusedSimpArgs false
attribute [local go_sem ↓] Go.wp_at_zero Go.wp_at_succ
set_option maxHeartbeats 1000000 in
theorem impl_testDiagram_11 {x : I2b} {bi bv : Nat} {j v : Int} {w : World} (hi : Blk w bi #[.int .i64 j] 2) (hv : Blk w bv #[.int .i64 v] 2) :
    Calls Tryz.prog 146 (#[.agg x.enc.toArray] ++ #[.pointer (some ⟨bi, 0, none⟩), .pointer (some ⟨bv, 0, none⟩)]) w fun e w' => e = .returned (.bool (decide (x.a = j) && (decide (v = x.b) != x.c))) ∧ Below w.heap.size w w' := by
  have i0 := hi.cell 0
  have il := hi.lt
  have v0 := hv.cell 0
  have vl := hv.lt
  simp at i0 v0
  clear hi hv
  show Calls _ _ #[.agg #[.int .i64 x.a, .int .i64 x.b, .bool x.c], .pointer (some ⟨bi, 0, none⟩), .pointer (some ⟨bv, 0, none⟩)] _ _
  obtain ⟨xa, xb, xc⟩ := x
  simp only
  by_cases h1 : xa = j
  · have e1 : (xa == j) = true := by simpa using h1
    by_cases h2 : v = xb
    · have e2 : (v == xb) = true := by simpa using h2
      have HF := Lib.hid (show (decide (xa = j) && (decide (v = xb) != xc)) = (true != xc) by rw [decide_eq_true h1, decide_eq_true h2]; rfl)
      clear h1 h2
      cases xc
      · go_enter Tryz.func146, Tryz.ntmps146
        go_wp2
        go_ret
        exact ⟨ret_bool (by rw [HF.out]; rfl), bel⟩
      · go_enter Tryz.func146, Tryz.ntmps146
        go_wp2
        go_ret
        exact ⟨ret_bool (by rw [HF.out]; rfl), bel⟩
    · have e2 : (v == xb) = false := by simpa using h2
      have HF := Lib.hid (show (decide (xa = j) && (decide (v = xb) != xc)) = (false != xc) by rw [decide_eq_true h1, decide_eq_false h2]; rfl)
      clear h1 h2
      cases xc
      · go_enter Tryz.func146, Tryz.ntmps146
        go_wp2
        go_ret
        exact ⟨ret_bool (by rw [HF.out]; rfl), bel⟩
      · go_enter Tryz.func146, Tryz.ntmps146
        go_wp2
        go_ret
        exact ⟨ret_bool (by rw [HF.out]; rfl), bel⟩
  · have e1 : (xa == j) = false := by simpa using h1
    have HF := Lib.hid (show (decide (xa = j) && (decide (v = xb) != xc)) = false by rw [decide_eq_false h1]; rfl)
    clear h1
    go_enter Tryz.func146, Tryz.ntmps146
    go_wp2
    go_ret
    exact ⟨ret_bool HF.out.symm, bel⟩
set_option maxRecDepth 100000 in
set_option maxHeartbeats 2000000 in
theorem impl_testDiagram_1 {v : Int} {bM bi bT j : Nat} {sa ta ra ga : Option Addr} {sn sc tn tc rn rc gn gc : Nat} {sz : List Int} {g : List I2b} {w : World} (hM : Blk w bM #[.slice sa sn sc, .slice ta tn tc, .slice ra rn rc] 36) (hI : Ints w sa sn sc sz) (hi : Blk w bi #[.int .i64 (j : Int)] 2) (hj : j < sn) (hn : sn ≤ 1048576) (hT : Blk w bT #[.slice ga gn gc] 54) (hG : F2b w ga gn gc g) (hg : gn ≤ 1048576) (hv : I64 v) :
    Calls Tryz.prog 145 (#[.int .i64 v] ++ #[.pointer (some ⟨bM, 0, none⟩), .pointer (some ⟨bi, 0, none⟩), .pointer (some ⟨bT, 0, none⟩)]) w fun e w' => e = .returned (.bool (alB sz g j v)) ∧ Below w.heap.size w w' := by
  have hbW : Below w.heap.size w (w.alloc (.cells #[.int .i64 v] 2)) := below_alloc1 (Below.refl _ _) _
  have V := Lib.hid (Blk.made w #[.int .i64 v] 2)
  have M := Lib.hid (hM.keep hbW)
  have I := Lib.hid (hi.keep hbW)
  have TT := Lib.hid (hT.keep hbW)
  have HG := Lib.hid (hG.keep hbW)
  obtain ⟨b1, o1, z, rfl, hb1, hz, hzc, _⟩ := (hI.keep hbW).at hj
  have hgd : sz.getD j 0 = z := getD_of hz
  have hp := fun (wx : World) (hb : Below (w.alloc (.cells #[.int .i64 v] 2)).heap.size (w.alloc (.cells #[.int .i64 v] 2)) wx) => slices_ContainsFunc_Test (g := 146) (lb := #[.pointer (some ⟨bi, 0, none⟩), .pointer (some ⟨w.heap.size, 0, none⟩)]) (p := fun t => decide (t.a = (j : Int)) && (decide (v = t.b) != t.c)) (fun _ _ => by kernel_rfl) (fun W x hx hb' => impl_testDiagram_11 ((I.out.keep hb).keep hb') ((V.out.keep hb).keep hb')) (HG.out.keep hb) hg
  have HP := Lib.hid hp
  clear hM hI hi hT hG hp hz
  have hj0 : (0 : Int) ≤ (j : Int) := by omega
  have hjn : (j : Int) < (sn : Int) := by omega
  obtain ⟨W, hW⟩ : ∃ W, W = w.alloc (.cells #[.int .i64 v] 2) := ⟨_, rfl⟩
  rw [← hW] at V M I TT HP hzc hb1 hbW
  have v0 := V.out.cell 0
  have vl := V.out.lt
  have m0 := M.out.cell 0
  have ml := M.out.lt
  have i0 := I.out.cell 0
  have il := I.out.lt
  have t0 := TT.out.cell 0
  have tl := TT.out.lt
  simp only [List.getElem?_toArray, List.getElem?_cons_zero] at v0 m0 i0 t0
  show Calls _ _ #[.int .i64 v, .pointer (some ⟨bM, 0, none⟩), .pointer (some ⟨bi, 0, none⟩), .pointer (some ⟨bT, 0, none⟩)] _ _
  by_cases hlt : v < z
  · have HF := Lib.hid (show alB sz g j v = !(g.any fun t => decide (t.a = (j : Int)) && (decide (v = t.b) != t.c)) by rw [alB, hgd, decide_eq_true hlt, Bool.true_and])
    have hd : decide (v < z) = true := decide_eq_true hlt
    clear hgd
    go_enter Tryz.func145, Tryz.ntmps145
    go_wp2_with fail
    rw [← hW]
    clear hW
    refine wp_region_noPanic ?_
    refine wp_region_M (L := 13) (S := fun wx => Below W.heap.size W wx) (by kernel_rfl) ?_ (fun hHeld => ?_)
    · exact (Below.refl _ _).drew
    refine tkM0 0 (v := ?_) ?_ ?_
    rotate_left
    · (intro wv hSw; (try dsimp only at hSw); obtain ⟨hcq, _⟩ := bcell hSw; have hsq := Below.size hSw; have q0 := (hcq _ _ vl).trans v0; have ql := Nat.lt_of_lt_of_le vl hsq; go_simp; try with_reducible rfl)
    try simp only [Act.put, s1, s2, s3]
    refine tkMB 1 ?_
    try simp only [Act.put, s1, s2, s3]
    refine tkM0 2 (v := ?_) ?_ ?_
    rotate_left
    · (intro wv hSw; (try dsimp only at hSw); obtain ⟨hcq, _⟩ := bcell hSw; have hsq := Below.size hSw; have q0 := (hcq _ _ ml).trans m0; have ql := Nat.lt_of_lt_of_le ml hsq; go_simp; try with_reducible rfl)
    try simp only [Act.put, s1, s2, s3]
    refine tkM0 3 (v := ?_) ?_ ?_
    rotate_left
    · (intro wv hSw; (try dsimp only at hSw); obtain ⟨hcq, _⟩ := bcell hSw; have hsq := Below.size hSw; have q0 := (hcq _ _ il).trans i0; have ql := Nat.lt_of_lt_of_le il hsq; go_simp; try with_reducible rfl)
    try simp only [Act.put, s1, s2, s3]
    refine tkMB 4 ?_
    try simp only [Act.put, s1, s2, s3]
    refine tkM0 5 (v := ?_) ?_ ?_
    rotate_left
    · (intro wv hSw; (try dsimp only at hSw); obtain ⟨hcq, _⟩ := bcell hSw; have hsq := Below.size hSw; have q0 := (hcq _ _ hb1).trans hzc; have ql := Nat.lt_of_lt_of_le hb1 hsq; go_simp; try with_reducible rfl)
    try simp only [Act.put, s1, s2, s3]
    refine tkMB 6 ?_
    try simp only [Act.put, s1, s2, s3]
    refine tkMB 7 ?_
    try simp only [Act.put, s1, s2, s3]
    refine tkM0 8 (v := ?_) ?_ ?_
    rotate_left
    · (intro wv hSw; (try dsimp only at hSw); obtain ⟨hcq, _⟩ := bcell hSw; have hsq := Below.size hSw; have q0 := (hcq _ _ tl).trans t0; have ql := Nat.lt_of_lt_of_le tl hsq; go_simp; try with_reducible rfl)
    try simp only [Act.put, s1, s2, s3]
    refine tkMB 9 ?_
    try simp only [Act.put, s1, s2, s3]
    refine wpAnyM_ready (rs := [10]) (by kernel_rfl) (by simp) ?_
    refine AllReadyM.cons rfl (fun K hK => ?_) AllReadyM.nil
    go_simp
    refine Calls.mono (HP.out _ hHeld) ?_
    rintro e w2 ⟨rfl, hb2⟩
    have hb3 := below_callS hHeld hb2
    go_wp2_with fail
    refine hK.out _ _ hb3 (fun hHeld => ?_)
    clear hK K
    try simp only [Act.put, s1, s2, s3]
    refine tkMB 11 ?_
    try simp only [Act.put, s1, s2, s3]
    refine tkMB 12 ?_
    try simp only [Act.put, s1, s2, s3]
    refine wpAnyM_ready (rs := [13]) (by kernel_rfl) (by simp) ?_
    refine AllReadyM.last rfl (fun K hK => ?_)
    go_simp
    refine hK.out _ _ ?_
    clear hK K
    try simp only [Act.put, s1, s2, s3]
    refine wpAnyM_done (by kernel_rfl) ?_ _
    refine NoPanic.normal ?_
    have hbe := below_callS hbW hb3
    go_wp2
    go_ret
    exact ⟨ret_bool (by rw [HF.out]), hbe⟩
  · have HF := Lib.hid (show alB sz g j v = false by rw [alB, hgd, decide_eq_false hlt, Bool.false_and])
    have hd : decide (v < z) = false := decide_eq_false hlt
    clear hgd
    go_enter Tryz.func145, Tryz.ntmps145
    go_wp2_with fail
    rw [← hW]
    clear hW
    refine wp_region_noPanic ?_
    refine wp_region_M (L := 13) (S := fun wx => Below W.heap.size W wx) (by kernel_rfl) ?_ (fun hHeld => ?_)
    · exact (Below.refl _ _).drew
    refine tkM0 0 (v := ?_) ?_ ?_
    rotate_left
    · (intro wv hSw; (try dsimp only at hSw); obtain ⟨hcq, _⟩ := bcell hSw; have hsq := Below.size hSw; have q0 := (hcq _ _ vl).trans v0; have ql := Nat.lt_of_lt_of_le vl hsq; go_simp; try with_reducible rfl)
    try simp only [Act.put, s1, s2, s3]
    refine tkMB 1 ?_
    try simp only [Act.put, s1, s2, s3]
    refine tkM0 2 (v := ?_) ?_ ?_
    rotate_left
    · (intro wv hSw; (try dsimp only at hSw); obtain ⟨hcq, _⟩ := bcell hSw; have hsq := Below.size hSw; have q0 := (hcq _ _ ml).trans m0; have ql := Nat.lt_of_lt_of_le ml hsq; go_simp; try with_reducible rfl)
    try simp only [Act.put, s1, s2, s3]
    refine tkM0 3 (v := ?_) ?_ ?_
    rotate_left
    · (intro wv hSw; (try dsimp only at hSw); obtain ⟨hcq, _⟩ := bcell hSw; have hsq := Below.size hSw; have q0 := (hcq _ _ il).trans i0; have ql := Nat.lt_of_lt_of_le il hsq; go_simp; try with_reducible rfl)
    try simp only [Act.put, s1, s2, s3]
    refine tkMB 4 ?_
    try simp only [Act.put, s1, s2, s3]
    refine tkM0 5 (v := ?_) ?_ ?_
    rotate_left
    · (intro wv hSw; (try dsimp only at hSw); obtain ⟨hcq, _⟩ := bcell hSw; have hsq := Below.size hSw; have q0 := (hcq _ _ hb1).trans hzc; have ql := Nat.lt_of_lt_of_le hb1 hsq; go_simp; try with_reducible rfl)
    try simp only [Act.put, s1, s2, s3]
    refine tkMB 6 ?_
    try simp only [Act.put, s1, s2, s3]
    refine tkMB 7 ?_
    try simp only [Act.put, s1, s2, s3]
    refine wpAnyM_take (i := 8) (v := undef) (by simp only [List.getElem?_toArray, List.getElem?_cons_succ, List.getElem?_cons_zero] <;> rfl) (by kernel_rfl) (by kernel_rfl) (by kernel_rfl) (by kernel_rfl) (by kernel_rfl) (fun _ _ _ h => h) (Or.inr ⟨by rfl, rfl⟩) (by assumption) ?_
    try simp only [Act.put, s1, s2, s3]
    refine wpAnyM_take (i := 9) (v := undef) (by simp only [List.getElem?_toArray, List.getElem?_cons_succ, List.getElem?_cons_zero] <;> rfl) (by kernel_rfl) (by kernel_rfl) (by kernel_rfl) (by kernel_rfl) (by kernel_rfl) (fun _ _ _ h => h) (Or.inr ⟨by rfl, rfl⟩) (by assumption) ?_
    try simp only [Act.put, s1, s2, s3]
    refine wpAnyM_take (i := 10) (v := undef) (by simp only [List.getElem?_toArray, List.getElem?_cons_succ, List.getElem?_cons_zero] <;> rfl) (by kernel_rfl) (by kernel_rfl) (by kernel_rfl) (by kernel_rfl) (by kernel_rfl) (fun _ _ _ h => h) (Or.inr ⟨by rfl, rfl⟩) (by assumption) ?_
    try simp only [Act.put, s1, s2, s3]
    refine wpAnyM_take (i := 11) (v := undef) (by simp only [List.getElem?_toArray, List.getElem?_cons_succ, List.getElem?_cons_zero] <;> rfl) (by kernel_rfl) (by kernel_rfl) (by kernel_rfl) (by kernel_rfl) (by kernel_rfl) (fun _ _ _ h => h) (Or.inr ⟨by rfl, rfl⟩) (by assumption) ?_
    try simp only [Act.put, s1, s2, s3]
    refine tkMB 12 ?_
    try simp only [Act.put, s1, s2, s3]
    refine wpAnyM_ready (rs := [13]) (by kernel_rfl) (by simp) ?_
    refine AllReadyM.last rfl (fun K hK => ?_)
    go_simp
    refine hK.out _ _ ?_
    clear hK K
    try simp only [Act.put, s1, s2, s3]
    refine wpAnyM_done (by kernel_rfl) ?_ _
    refine NoPanic.normal ?_
    have hbe := below_callS hbW hHeld
    go_wp2
    go_ret
    exact ⟨ret_bool (by rw [HF.out]), hbe⟩
theorem td_next {sz : List Int} {g : List I2b} {k q : Nat} {z : Int} (hq : q = sz.length - 1 - k) (hz : sz[q]? = some z) : tdN sz g (k + 1) = vtN (alB sz g q) (wN z).toNat (tdN sz g k).1 0 (offN sz q : Int) (tdN sz g k).2 := by
  rw [tdN, ← hq, getD_of hz]
set_option maxRecDepth 100000 in
set_option maxHeartbeats 8000000 in
theorem impl_testDiagram {sa ta ra ga : Option Addr} {sn sc tn tc rn rc gn gc : Nat} {sz : List Int} {g : List I2b} {w : World} (hI : Ints w sa sn sc sz) (hn : sn ≤ 16) (hs : allIn 1 32 sz = true) (hG : F2b w ga gn gc g) (hg : gn ≤ 1048576) :
    Calls Tryz.prog 76 #[.agg #[.slice sa sn sc, .slice ta tn tc, .slice ra rn rc], .slice ga gn gc] w fun e w' => ∃ da dc, e = .returned (.agg #[.int .i64 (sz.map wN).sum, .slice da (tsN sz g).1.length dc, .int .i64 (tsN sz g).2]) ∧ OwnF 3 I3.enc I3.ok 117 w' w.heap.size da (tsN sz g).1.length dc (tsN sz g).1 ∧ Below w.heap.size w w' := by
  obtain rfl : sz.length = sn := hI.len
  have HI := Lib.hid hI
  have HS := Lib.hid hs
  have HG := Lib.hid hG
  obtain ⟨hsum, hoff⟩ := off_sum hs hn
  have hofl := hoff sz.length (Nat.le_refl _)
  obtain ⟨w0, hw0⟩ : ∃ w0, w0 = ((w.alloc (.cells #[.slice sa sz.length sc, .slice ta tn tc, .slice ra rn rc] 36)).alloc (.cells #[.slice ga gn gc] 54)).alloc (.cells #[.int .i64 0, .slice none 0 0, .int .i64 0] 40) := ⟨_, rfl⟩
  have hb0 : Below w.heap.size w w0 := by rw [hw0]; exact below_alloc1 (below_alloc1 (below_alloc1 (Below.refl _ _) _) _) _
  have M0 := Lib.hid (show Blk w0 w.heap.size #[.slice sa sz.length sc, .slice ta tn tc, .slice ra rn rc] 36 by rw [hw0]; exact (Blk.made _ _ _).keep (below_alloc1 (below_alloc1 (Below.refl _ _) _) _))
  have T0 := Lib.hid (show Blk w0 (w.heap.size + 1) #[.slice ga gn gc] 54 by rw [hw0]; exact (Blk.made1 _ _ _ _).keep (below_alloc1 (Below.refl _ _) _))
  have R0 := Lib.hid (show Blk w0 (w.heap.size + 1 + 1) #[.int .i64 0, .slice none 0 0, .int .i64 0] 40 by rw [hw0]; exact Blk.made2 _ _ _ _ _)
  have hkw := impl_widths (ta := ta) (tn := tn) (tc := tc) (ra := ra) (rn := rn) (rc := rc) (hI.keep hb0) (by omega) hs
  rw [hsum] at hkw ⊢
  have KW := Lib.hid hkw
  clear hI hG hs hkw hsum
  have hs0 : w0.heap.size = w.heap.size + 1 + 1 + 1 := by rw [hw0]; simp
  go_enter Tryz.func76, Tryz.ntmps76
  go_wp2_with fail
  rw [← hw0]
  clear hw0
  refine Calls.mono KW.out ?_
  rintro e w1 ⟨aw, cw, rfl, hb1, hW⟩
  have M1 := Lib.hid (M0.out.keep hb1)
  have T1 := Lib.hid (T0.out.keep hb1)
  have R1 := Lib.hid (R0.out.keep hb1)
  have W1 := Lib.hid hW
  have HB1 := Lib.hid (below_callS hb0 hb1)
  have hs1 := hb1.size
  clear hb1 hW M0 T0 R0 hb0 KW
  go_wp2_with fail
  refine Calls.mono impl_newForest ?_
  rintro e w2 ⟨p, mb, rfl, hFor, hb2, hp2⟩
  obtain ⟨lo, hlo⟩ : ∃ lo, lo = w1.heap.size := ⟨_, rfl⟩
  rw [← hlo] at hFor
  have M2 := Lib.hid (M1.out.keep hb2)
  have T2 := Lib.hid (T1.out.keep hb2)
  have R2 := Lib.hid (R1.out.keep hb2)
  have W2 := Lib.hid (W1.out.keep hb2)
  have HB2 := Lib.hid (below_callS HB1.out hb2)
  have hs2 := hb2.size
  have hplo : lo ≤ p := hFor.lop
  have hmlo : lo ≤ mb := hFor.lom
  have F2 := Lib.hid hFor
  have hlw : w.heap.size + 1 + 1 < lo := by omega
  have HWL := Lib.hid (show ∀ gg, aw = some ⟨gg, 0, none⟩ → gg < lo from fun gg e => by have := (W1.out.blk gg e).2; omega)
  clear hFor hb2 hp2 M1 T1 R1 W1 HB1
  have m0 := M2.out.cell 0
  have ml := M2.out.lt
  simp only [List.getElem?_toArray, List.getElem?_cons_zero] at m0
  have e0 : IntKind.i64.wrap ((sz.length : Int) - 1) = (sz.length : Int) - 1 := IntWalk.i64_in _ (by omega)
  go_wp2_with fail
  go_wp2_with fail
  refine Calls.mono (impl_length_i64) ?_
  rintro e _ ⟨rfl, rfl⟩
  go_wp2_with fail
  have hbA : Below w2.heap.size w2 (w2.alloc (.cells #[.int .i64 ((sz.length : Int) - 1)] 2)) := below_alloc1 (Below.refl _ _) _
  have hlo2 : lo ≤ w2.heap.size := by omega
  have B3 := Lib.hid (hbA.mono hlo2)
  have F3' := Lib.hid (show ∃ na nc mn, ForA (w2.alloc (.cells #[.int .i64 ((sz.length : Int) - 1)] 2)) lo p mb (offN sz sz.length : Int) na nc mn (tdN sz g 0).1 from ⟨_, _, _, F2.out.keep hbA⟩)
  have I3' := Lib.hid (Blk.made w2 #[.int .i64 ((sz.length : Int) - 1)] 2)
  clear m0 ml F2 hbA
  go_loopg [8, 9, 10] sz.length (fun gg s8 s9 s10 wr => ∃ (k bi : Nat), k ≤ sz.length ∧ sz.length - k ≤ gg ∧ s8 = .int .i64 (tdN sz g k).2 ∧ s9 = .int .i64 (offN sz (sz.length - k) : Int) ∧ s10 = .pointer (some ⟨bi, 0, none⟩) ∧ lo ≤ bi ∧ lo ≤ wr.heap.size ∧ Hid (Below lo w2 wr) ∧ Hid (Blk wr bi #[.int .i64 ((sz.length : Int) - 1 - (k : Int))] 2) ∧ Hid (∃ na nc mn, ForA wr lo p mb (offN sz sz.length : Int) na nc mn (tdN sz g k).1))
  case atStart => exact ⟨0, _, Nat.zero_le _, by omega, rfl, rfl, rfl, hlo2, by simp; omega, B3, by simpa using I3', F3'⟩
  case round =>
    clear B3 F3' I3'
    obtain ⟨k, bi, hk, hgg, rfl, rfl, rfl, hbi, hlr, HBL, IB, FO⟩ := hrel
    have i0 := IB.out.cell 0
    have il := IB.out.lt
    simp only [List.getElem?_toArray, List.getElem?_cons_zero] at i0
    have hbw := HB2.out.trans (HBL.out.mono (show w.heap.size ≤ lo by omega))
    by_cases hlt : k < sz.length
    · obtain ⟨q, hq⟩ : ∃ q, q = sz.length - 1 - k := ⟨_, rfl⟩
      have hqi : (sz.length : Int) - 1 - (k : Int) = (q : Int) := by omega
      rw [hqi] at i0 IB
      have hql : q < sz.length := by omega
      obtain ⟨z, hz⟩ : ∃ z, sz[q]? = some z := ⟨_, List.getElem?_eq_getElem hql⟩
      have hz2 := allIn_at HS.out hz
      have hwz := wN_in hz2.1 hz2.2
      have hst := offN_step hz
      have hnx := td_next (g := g) hq hz
      obtain ⟨i1, i2, _, i4, _⟩ := td_inv (g := g) HS.out k hk
      obtain ⟨ww, hww⟩ : ∃ m : Nat, (wN z).toNat = m := ⟨_, rfl⟩
      have hwi : wN z = (ww : Int) := by omega
      rw [hww] at hnx hst
      have HNX := Lib.hid hnx
      have hoq := hoff q (by omega)
      have e1 : sz.length - k = q + 1 := by omega
      obtain ⟨gw, hgw⟩ := W2.out.shape (by omega)
      subst hgw
      obtain ⟨wv, hwv, hwvi, cw9⟩ := (W2.out.atB (HBL.out.block gw (HWL.out gw rfl))).cell (k := q) hql
      have hwv' : wv = (ww : Int) := by rw [List.getElem?_map, hz] at hwv; simp at hwv; omega
      subst hwv'
      have gl := Nat.lt_of_lt_of_le (HWL.out gw rfl) hlr
      have e2 : IntKind.i64.wrap ((offN sz (sz.length - k) : Int) - (ww : Int)) = (offN sz q : Int) := by rw [e1, hst]; push_cast; rw [IntWalk.i64_in _ (by omega)]; omega
      have hq0 : (0 : Int) ≤ (q : Int) := by omega
      have hqn : (q : Int) < (sz.length : Int) := by omega
      obtain ⟨na, nc, mn, hfor⟩ := FO.out
      have hbp : bi ≠ p := fun e => by
        have h := hfor.blk
        have h2 := IB.out
        rw [Blk] at h h2
        rw [e, h] at h2
        simp at h2
      have hbm : bi ≠ mb := fun e => by
        obtain ⟨es, cl, hm⟩ := hfor.map.isMap
        have h2 := IB.out
        rw [Blk, e, hm] at h2
        cases h2
      have HPV := Lib.hid (show PredV 145 #[.pointer (some ⟨w.heap.size, 0, none⟩), .pointer (some ⟨bi, 0, none⟩), .pointer (some ⟨w.heap.size + 1, 0, none⟩)] (alB sz g q) lo p mb wr from fun W v h0 h1 hf => by
        have hBW := hf.below HBL.out hlr (Nat.le_refl _) hplo hmlo
        have hbW := HB2.out.trans (hBW.mono (show w.heap.size ≤ lo by omega))
        exact impl_testDiagram_1 (M2.out.keepB hBW (by omega)) (HI.out.keep hbW) (IB.out.frf hf hbp (by decide) hbm) hql (by omega) (T2.out.keepB hBW (by omega)) (HG.out.keep hbW) hg (by unfold I64; omega))
      have HZ := Lib.hid hz
      have hw5 : ww ≤ 5 := by omega
      have hqa : q + 1 + k ≤ sz.length := by omega
      have hqb : sz.length ≤ q + 1 + k := by omega
      clear hz hnx hwv hwvi hq hqi e1 hww hwi hst
      have hpw : 2 ^ ww ≤ 32 := Nat.le_trans (Nat.pow_le_pow_right (by decide) (show ww ≤ 5 by omega)) (by decide)
      have hpw' : ((0 : Int) + 1) * 2 ^ ww ≤ 32 := by
        have h : ((2 ^ ww : Nat) : Int) ≤ ((32 : Nat) : Int) := by exact_mod_cast hpw
        rw [Int.natCast_pow] at h
        have e : ((2 : Nat) : Int) = 2 := rfl
        rw [e] at h
        omega
      go_wp2_with fail
      refine Calls.mono (impl_valueTree (fun _ _ => by kernel_rfl) ww 0 (offN sz q : Int) (tdN sz g k).2 (tdN sz g k).1 wr HPV.out ⟨_, _, _, hfor⟩ (Int.le_refl _) hpw' (by omega) (by omega) (by omega) i2 (by omega) hlr) ?_
      rintro e w6 ⟨rfl, hF6, hf6⟩
      rw [← HNX.out] at hF6 ⊢
      have HBL6 := Lib.hid (hf6.below HBL.out hlr (Nat.le_refl _) hplo hmlo)
      have IB6 := Lib.hid (IB.out.frf hf6 hbp (by decide) hbm)
      have F6 := Lib.hid hF6
      have hs6 := hf6.size
      clear hF6 hf6 HBL IB FO hfor HPV i0 il cw9 gl
      have i0 := IB6.out.cell 0
      have il := IB6.out.lt
      simp only [List.getElem?_toArray, List.getElem?_cons_zero] at i0
      have e7 : IntKind.i64.wrap ((q : Int) - 1) = (q : Int) - 1 := IntWalk.i64_in _ (by omega)
      go_wp2_with fail
      have hbN : Below w6.heap.size w6 (w6.alloc (.cells #[.int .i64 ((q : Int) - 1)] 2)) := below_alloc1 (Below.refl _ _) _
      have BLN := Lib.hid (HBL6.out.trans (hbN.mono (show lo ≤ w6.heap.size by omega)))
      have IBN := Lib.hid (Blk.made w6 #[.int .i64 ((q : Int) - 1)] 2)
      have FN := Lib.hid (show ∃ na nc mn, ForA (w6.alloc (.cells #[.int .i64 ((q : Int) - 1)] 2)) lo p mb (offN sz sz.length : Int) na nc mn (tdN sz g (k + 1)).1 from by
        obtain ⟨na, nc, mn, h⟩ := F6.out
        exact ⟨na, nc, mn, h.keep hbN⟩)
      clear hbN HBL6 IB6 F6 i0 il
      go_roundg (sz.length - (k + 1))
      case measure => omega
      case rel => exact ⟨k + 1, w6.heap.size, by omega, by omega, rfl, by rw [show sz.length - (k + 1) = q by omega], rfl, by omega, by simp; omega, BLN, by rw [show (sz.length : Int) - 1 - ((k + 1 : Nat) : Int) = (q : Int) - 1 by omega]; exact IBN, FN⟩
    · obtain rfl : sz.length = k := by omega
      have hm1 : (sz.length : Int) - 1 - (sz.length : Int) = -1 := by omega
      rw [hm1] at i0
      obtain ⟨i1, i2, _, i4, _⟩ := td_inv (g := g) HS.out sz.length (Nat.le_refl _)
      obtain ⟨na, nc, mn, hfor⟩ := FO.out
      have R3 := Lib.hid (R2.out.keepB HBL.out (by omega))
      have HBW := Lib.hid hbw
      have HTS := Lib.hid (show tsN sz g = canN mkN (tdN sz g sz.length).1 (tdN sz g sz.length).2 from rfl)
      clear hm1 hbw
      go_wp2_with fail
      refine Calls.mono (impl_canonical hfor i1.redu (by omega) (by unfold I64; omega) i2) ?_
      rintro e w6 ⟨da, dc, rfl, hO, hb6⟩
      obtain ⟨⟨TL, TR⟩, hTS⟩ : ∃ x, tsN sz g = x := ⟨_, rfl⟩
      have HTT := Lib.hid hTS
      rw [← HTS.out, hTS] at hO ⊢
      clear hTS
      have R6 := Lib.hid (R3.out.keep hb6)
      have HB6 := Lib.hid (below_callS HBW.out hb6)
      have hs6 := hb6.size
      have O6 := Lib.hid hO
      clear hO hb6 HBL IB FO hfor i0 il R3 HBW
      have r0 := R6.out.cell 0
      have r1 := R6.out.cell 1
      have r2 := R6.out.cell 2
      have rl := R6.out.lt
      have rf := R6.out.free
      simp only [List.getElem?_toArray, List.getElem?_cons_succ, List.getElem?_cons_zero] at r0 r1 r2
      go_wp2
      have hne : ∀ y, da = some ⟨y, 0, none⟩ → (some (w.heap.size + 1 + 1) : Option Nat) ≠ some y := fun y e e' => by
        have := (O6.out.blk y e).1
        simp at e'
        omega
      have hbz : Below w.heap.size w w6 := HB6.out
      refine bodyPost_ret (v := .agg #[.int .i64 (offN sz sz.length : Int), .slice da TL.length dc, .int .i64 TR]) (by simp [results, Tryz.results76, go_sem, *]) rfl ⟨da, dc, by rw [HTT.out], ?_, ?_⟩
      · rw [HTT.out]
        exact ((((O6.out.keepG (set_grown _ _ _) hne).keepG (set_grown _ _ _) hne).keepG (set_grown _ _ _) hne)).le (by omega)
      · exact bel
end Go.Proofs.YtkaikbaagajckaaGreat
namespace Go.Proofs.YtkaikbaagajckaaGreat
open Go.RowKit
set_option linter.unusedVariables false
set_option linter.unusedSimpArgs false
set_option maxHeartbeats 1000000 in
theorem spec_l01Own9 {a : Option Addr} {n c : Nat} {l : List Int} {w : World} (hI : Ints w a n c l) (hn : n ≤ 1048576) :
    Calls Tryz.prog 159 #[.slice a n c] w fun e w' => ∃ a c, e = .returned (.slice a n c) ∧ Below w.heap.size w w' ∧ OwnI 2 w' w.heap.size a n c l := by
  have HI := Lib.hid hI
  clear hI
  go_enter Tryz.func159, Tryz.ntmps159
  go_wp2_with (at_builtin; refine appendL_i64 rfl _ _ 22 2 rfl Tryz.underlying22 Tryz.infoi64 w.heap.size _ _ _ _ (OwnI.empty w (Nat.le_refl _)) rfl _ _ _ _ rfl (HI.out.keep ((Below.refl _ _).alloc (Nat.le_refl _) _)) (by omega) (by omega) (by simp) ?_; intro a1 c1 w1 hown1 hb1 hg1 hnil1)
  have Hown := Lib.hid hown1
  clear hown1
  go_ret
  exact ⟨a1, c1, by simp, bel, by simpa using Hown.out⟩
/-- the code of a model and a diagram -/
def cdC (sz st : List Int) (l : List (RM × RuD)) (inp : Int) (L : List I3) (root : Int) : Int := if modelB sz st l = false then 1 else if diaB inp L root = false then 1 else if inp ≠ (offN sz sz.length : Int) then 2 else 0
section
variable {sz st : List Int} {l : List (RM × RuD)} {inp : Int} {L : List I3} {root : Int}
theorem cdC_1 (h : modelB sz st l = false) : cdC sz st l inp L root = 1 := if_pos h
theorem cdC_2 (h : modelB sz st l = true) (h2 : diaB inp L root = false) : cdC sz st l inp L root = 1 := by rw [cdC, if_neg (by simp [h]), if_pos h2]
theorem cdC_3 (h : modelB sz st l = true) (h2 : diaB inp L root = true) (h3 : inp ≠ (offN sz sz.length : Int)) : cdC sz st l inp L root = 2 := by rw [cdC, if_neg (by simp [h]), if_neg (by simp [h2]), if_pos h3]
theorem cdC_4 (h : modelB sz st l = true) (h2 : diaB inp L root = true) (h3 : inp = (offN sz sz.length : Int)) : cdC sz st l inp L root = 0 := by rw [cdC, if_neg (by simp [h]), if_neg (by simp [h2]), if_neg (by simp [h3])]
end
set_option maxRecDepth 100000 in
set_option maxHeartbeats 4000000 in
theorem spec_l23Code {sa ta ra da : Option Addr} {sn sc tn tc rn rc dc : Nat} {sz st : List Int} {l : List (RM × RuD)} {inp root : Int} {L : List I3} {w : World} (hI : Ints w sa sn sc sz) (hn : sn ≤ 1048576) (hT : Ints w ta tn tc st) (ht : tn ≤ 1048576) (hR : FR w w ra rn rc l) (hr : rn ≤ 1048576) (hD : F3 w da L.length dc L) (hdl : L.length ≤ maxLen) (hi64 : I64 inp) (hr64 : I64 root) :
    Calls Tryz.prog 104 #[.agg #[.slice sa sn sc, .slice ta tn tc, .slice ra rn rc], .agg #[.int .i64 inp, .slice da L.length dc, .int .i64 root]] w fun e w' => e = .returned (.int .i64 (cdC sz st l inp L root)) ∧ Below w.heap.size w w' := by
  have hb0 : Below w.heap.size w ((w.alloc (.cells #[.slice sa sn sc, .slice ta tn tc, .slice ra rn rc] 36)).alloc (.cells #[.int .i64 inp, .slice da L.length dc, .int .i64 root] 40)) := bel
  have X := Lib.hid ((Blk.made w #[.slice sa sn sc, .slice ta tn tc, .slice ra rn rc] 36).keep (below_alloc1 (Below.refl _ _) (.cells #[.int .i64 inp, .slice da L.length dc, .int .i64 root] 40)))
  have D := Lib.hid (Blk.made1 w (.cells #[.slice sa sn sc, .slice ta tn tc, .slice ra rn rc] 36) #[.int .i64 inp, .slice da L.length dc, .int .i64 root] 40)
  have KM := fun (wx : World) (hb : Below w.heap.size w wx) => spec_IsModel (hI.keep hb) hn (hT.keep hb) ht (hR.self hb) hr
  have KD := fun (wx : World) (hb : Below w.heap.size w wx) => spec_IsDiagram (inp := inp) (root := root) (hD.keep hb) hi64 hr64 hdl
  cases hm : modelB sz st l
  · simp only [hm] at KM
    have K1 := Lib.hid KM
    have HC := Lib.hid (cdC_1 (inp := inp) (L := L) (root := root) hm)
    clear KM KD hm hI hT hR hD
    go_enter Tryz.func104, Tryz.ntmps104
    go_wp2_with fail
    refine Calls.mono (K1.out _ hb0) ?_
    rintro e w1 ⟨rfl, hb⟩
    go_wp2
    go_ret
    exact ⟨by rw [HC.out]; rfl, below_callS hb0 hb⟩
  simp only [hm] at KM
  have K1 := Lib.hid KM
  have hs := modelB_all hm
  have KT := fun (wx : World) (hb : Below w.heap.size w wx) => spec_l23Total (ta := ta) (tn := tn) (tc := tc) (ra := ra) (rn := rn) (rc := rc) (hI.keep hb) hn hs
  rw [← offN_full hs] at KT
  cases hd : diaB inp L root
  · simp only [hd] at KD
    have K2 := Lib.hid KD
    have HC := Lib.hid (cdC_2 hm hd)
    clear KM KD KT hm hd hs hI hT hR hD
    go_enter Tryz.func104, Tryz.ntmps104
    go_wp2_with fail
    refine Calls.mono (K1.out _ hb0) ?_
    rintro e w1 ⟨rfl, hb⟩
    have D1 := Lib.hid (D.out.keep hb)
    have HB1 := Lib.hid (below_callS hb0 hb)
    clear hb
    have x0 := D1.out.cell 0
    have x1 := D1.out.cell 1
    have x2 := D1.out.cell 2
    have xl := D1.out.lt
    simp only [List.getElem?_toArray, List.getElem?_cons_zero, List.getElem?_cons_succ] at x0 x1 x2
    go_wp2_with fail
    refine Calls.mono (K2.out _ HB1.out) ?_
    rintro e w2 ⟨rfl, hb⟩
    go_wp2
    go_ret
    exact ⟨by rw [HC.out]; rfl, below_callS HB1.out hb⟩
  simp only [hd] at KD
  have K2 := Lib.hid KD
  have K3 := Lib.hid KT
  obtain ⟨_, _, h0, h20, _, _, _⟩ := dia_redu hd
  have KS := fun (wx : World) (hb : Below w.heap.size w wx) => spec_l23Small (ta := ta) (tn := tn) (tc := tc) (ra := ra) (rn := rn) (rc := rc) (hI.keep hb) hn hs
  have hfull := offN_full hs
  have hcase : inp = (offN sz sz.length : Int) ∨ inp ≠ (offN sz sz.length : Int) := Classical.em _
  rcases hcase with hin | hin
  all_goals
    first
      | (have HC := Lib.hid (cdC_4 hm hd hin)
         have hsm : smC sz = 0 := by rw [smC, smB, if_pos]; exact decide_eq_true (by omega)
         rw [hsm] at KS
         have K4 := Lib.hid KS
         have hne : (inp != (offN sz sz.length : Int)) = false := by simpa using hin)
      | (have HC := Lib.hid (cdC_3 hm hd hin)
         have hne : (inp != (offN sz sz.length : Int)) = true := by simpa using hin)
    clear KM KD KT KS hm hd hs hI hT hR hD hin hfull
    go_enter Tryz.func104, Tryz.ntmps104
    go_wp2_with fail
    refine Calls.mono (K1.out _ hb0) ?_
    rintro e w1 ⟨rfl, hb⟩
    have D1 := Lib.hid (D.out.keep hb)
    have X1 := Lib.hid (X.out.keep hb)
    have HB1 := Lib.hid (below_callS hb0 hb)
    clear hb
    have x0 := D1.out.cell 0
    have x1 := D1.out.cell 1
    have x2 := D1.out.cell 2
    have xl := D1.out.lt
    simp only [List.getElem?_toArray, List.getElem?_cons_zero, List.getElem?_cons_succ] at x0 x1 x2
    go_wp2_with fail
    refine Calls.mono (K2.out _ HB1.out) ?_
    rintro e w2 ⟨rfl, hb⟩
    have D2 := Lib.hid (D1.out.keep hb)
    have X2 := Lib.hid (X1.out.keep hb)
    have HB2 := Lib.hid (below_callS HB1.out hb)
    clear hb x0 x1 x2 xl
    have y0 := X2.out.cell 0
    have y1 := X2.out.cell 1
    have y2 := X2.out.cell 2
    have yl := X2.out.lt
    have x0 := D2.out.cell 0
    have xl := D2.out.lt
    simp only [List.getElem?_toArray, List.getElem?_cons_zero, List.getElem?_cons_succ] at x0 y0 y1 y2
    have hb2 := HB2.out
    go_wp2_with fail
    refine wp_region_noPanic ?_
    refine wp_region_held_drew (S := (fun wx => wx.cell? ⟨w.heap.size, 0, none⟩ = some (.slice sa sn sc) ∧ wx.cell? ⟨w.heap.size, 1, none⟩ = some (.slice ta tn tc) ∧ wx.cell? ⟨w.heap.size, 2, none⟩ = some (.slice ra rn rc) ∧ wx.cell? ⟨w.heap.size + 1, 0, none⟩ = some (.int .i64 inp) ∧ w.heap.size < wx.heap.size ∧ w.heap.size + 1 < wx.heap.size ∧ Below w.heap.size w wx)) (by kernel_rfl) ?_ (fun hHeld => ?_)
    · (try dsimp only); (((try go_split_ands); (repeat' apply And.intro) <;> first | (with_reducible assumption) | (with_reducible exact (hcx _ _ (by assumption)).trans (by assumption)) | (with_reducible exact Nat.lt_of_lt_of_le (by assumption) hsx) | (with_reducible exact below_callS (by assumption) hbx) | (with_reducible exact Below.drew (by assumption)) | (with_reducible exact Go.Proofs.YtkaikbaagajckaaGreat.cellR_drew (by assumption)) | (with_reducible exact Go.Proofs.YtkaikbaagajckaaGreat.ltR_drew (by assumption)) | (with_reducible exact (Below.refl _ _).drew)))
    refine tkH 0 ?_
    try simp only [Act.put, s1, s2, s3]
    refine tkH 1 ?_
    try simp only [Act.put, s1, s2, s3]
    refine tkH 2 ?_
    try simp only [Act.put, s1, s2, s3]
    refine wpAnyH_ready (rs := [3]) (by kernel_rfl) (by simp) ?_
    refine AllReadyH.cons rfl (fun K hK => ?_) AllReadyH.nil
    go_simp
    (go_at_call 82; refine Calls.mono (K3.out _ (by first | assumption | (go_split_ands; assumption))) ?_; rintro e wx2 ⟨rfl, hbx⟩; obtain ⟨hcx, hfx⟩ := bcell hbx; have hsx := hbx.size)
    go_wp2_with fail
    refine hK.out _ _ ?_ (fun hHeld => ?_)
    · (try dsimp only); (((try go_split_ands); (repeat' apply And.intro) <;> first | (with_reducible assumption) | (with_reducible exact (hcx _ _ (by assumption)).trans (by assumption)) | (with_reducible exact Nat.lt_of_lt_of_le (by assumption) hsx) | (with_reducible exact below_callS (by assumption) hbx) | (with_reducible exact Below.drew (by assumption)) | (with_reducible exact Go.Proofs.YtkaikbaagajckaaGreat.cellR_drew (by assumption)) | (with_reducible exact Go.Proofs.YtkaikbaagajckaaGreat.ltR_drew (by assumption)) | (with_reducible exact (Below.refl _ _).drew)))
    clear hK K
    try simp only [Act.put, s1, s2, s3]
    refine tkH 4 ?_
    try simp only [Act.put, s1, s2, s3]
    refine tkH 5 ?_
    try simp only [Act.put, s1, s2, s3]
    refine wpAnyH_done (by kernel_rfl) ?_ _
    refine NoPanic.normal ?_
    clear x0 xl y0 y1 y2 yl hb2
    obtain ⟨y0, y1, y2, _, yl, _, hb5⟩ := hHeld
    go_wp2_with fail
    try (refine Calls.mono (K4.out _ hb5) ?_; rintro e w7 ⟨rfl, hb7⟩; have hb5 := below_callS hb5 hb7; go_wp2)
    go_ret
    exact ⟨by rw [HC.out]; rfl, by assumption⟩
set_option maxRecDepth 100000 in
set_option maxHeartbeats 4000000 in
theorem spec_l23Begun {sa ta ra va : Option Addr} {sc tn tc rn rc m vc : Nat} {sz c : List Int} {w : World} (hI : Ints w sa sz.length sc sz) (h16 : sz.length ≤ 16) (hs : allIn 1 32 sz = true) (hV : Ints w va m vc c) (hc : bits01 c) (hm : m ≤ offN sz sz.length) :
    Calls Tryz.prog 168 #[.agg #[.slice sa sz.length sc, .slice ta tn tc, .slice ra rn rc], .slice va m vc] w fun e w' => e = .returned (.bool (begB sz (offN sz sz.length) c)) ∧ Below w.heap.size w w' := by
  obtain ⟨w0, hw0⟩ : ∃ w0, w0 = w.alloc (.cells #[.slice sa sz.length sc, .slice ta tn tc, .slice ra rn rc] 36) := ⟨_, rfl⟩
  have hb0 : Below w.heap.size w w0 := by rw [hw0]; exact below_alloc1 (Below.refl _ _) _
  have X := Lib.hid (show Blk w0 w.heap.size #[.slice sa sz.length sc, .slice ta tn tc, .slice ra rn rc] 36 by rw [hw0]; exact Blk.made _ _ _)
  have HV := Lib.hid (hV.keep hb0)
  have hml := hV.len
  obtain ⟨hfull, h80⟩ := off_sum hs h16
  have h80 := h80 _ (Nat.le_refl _)
  have KT := Lib.hid (fun (wx : World) (hb : Below w.heap.size w wx) => spec_l23Total (ta := ta) (tn := tn) (tc := tc) (ra := ra) (rn := rn) (rc := rc) (hI.keep hb) (by omega) hs)
  rw [hfull] at KT
  have KS := Lib.hid (fun (wx : World) (hb : Below w.heap.size w wx) (a9 : Option Addr) (c9 : Nat) (bs : List Int) (h : Ints wx a9 (offN sz sz.length) c9 bs) (hbs : allIn 0 1 bs = true) => spec_l23State (ta := ta) (tn := tn) (tc := tc) (ra := ra) (rn := rn) (rc := rc) (hI.keep hb) h h16 hs hbs rfl)
  have HB0 := Lib.hid hb0
  obtain ⟨N, hN⟩ : ∃ N, N = offN sz sz.length := ⟨_, rfl⟩
  have HN := Lib.hid hN
  have HCB := Lib.hid hc
  rw [← hN] at KT KS h80 hm ⊢
  clear hI hV hb0 hc hfull
  clear hN
  go_enter Tryz.func168, Tryz.ntmps168
  go_wp2_with fail
  rw [← hw0]
  clear hw0
  refine Calls.mono (spec_l01Own9 HV.out (by omega)) ?_
  rintro e w1 ⟨a1, c1, rfl, hb1, ho1⟩
  have X1 := Lib.hid (X.out.keep hb1)
  have HB1 := Lib.hid (below_callS HB0.out hb1)
  have hs1 := HB0.out.size
  have O1 := Lib.hid (ho1.le hs1)
  clear hb1 ho1 X HB0 HV
  go_wp2_with fail
  go_loopw [5] (fun s5 wr => ∃ (j c2 : Nat) (a2 : Option Addr), s5 = .slice a2 j c2 ∧ m ≤ j ∧ j ≤ N ∧ Hid (Below w.heap.size w wr) ∧ Hid (Blk wr w.heap.size #[.slice sa sz.length sc, .slice ta tn tc, .slice ra rn rc] 36) ∧ Hid (OwnI 2 wr w.heap.size a2 j c2 (c ++ List.replicate (j - m) 0))) (fun s5 _ => N - (match s5 with | .slice _ n _ => n | _ => 0))
  case atStart => exact ⟨m, c1, a1, rfl, by omega, hm, HB1, X1, Lib.hid (by rw [Nat.sub_self]; simpa using O1.out)⟩
  case round =>
    clear X1 HB1 O1
    obtain ⟨j, c2, a2, rfl, hmj, hjN, HB, X, O⟩ := hrel
    have y0 := X.out.cell 0
    have y1 := X.out.cell 1
    have y2 := X.out.cell 2
    have yl := X.out.lt
    simp only [List.getElem?_toArray, List.getElem?_cons_zero, List.getElem?_cons_succ] at y0 y1 y2
    go_wp2_with fail
    refine Calls.mono (KT.out _ HB.out) ?_
    rintro e w3 ⟨rfl, hb3⟩
    have X3 := Lib.hid (X.out.keep hb3)
    have O3 := Lib.hid (O.out.keep hb3)
    have HB3 := Lib.hid (below_callS HB.out hb3)
    have hsz3 := HB3.out.size
    clear hb3 y0 y1 y2 yl X O HB
    by_cases hlt : j < N
    · have hlt' : (j : Int) < (N : Int) := by omega
      go_wp2_with (at_builtin; refine appI1 (z := 0) rfl _ _ rfl Tryz.underlying22 Tryz.infoi64 w.heap.size _ _ _ _ O3.out rfl _ rfl rfl (by unfold I64; omega) (by omega) (by omega) ?_; intro g' c4 w4 ho hb4 ht4 hat hsz; refine Hid.out ?_)
      have X4 := Lib.hid (X3.out.keepA ht4 (blk_ne X3.out (fun {g} e => O3.out.typ e) (by decide)))
      have O4 := Lib.hid ho
      have HB4 := Lib.hid (HB3.out.trans hb4)
      clear ho hb4 ht4 hat hsz X3 O3 HB3
      refine Lib.hid ?_
      go_wp2_with fail
      go_roundw
      case rel => exact ⟨j + 1, _, _, rfl, by omega, by omega, HB4, X4, Lib.hid (by
        rw [show j + 1 - m = (j - m) + 1 by omega, List.replicate_succ', ← List.append_assoc]
        exact O4.out)⟩
      case measure => simp; omega
    · have hlt' : ¬ (j : Int) < (N : Int) := by omega
      have hj : j = N := by omega
      subst hj
      have y0 := X3.out.cell 0
      have y1 := X3.out.cell 1
      have y2 := X3.out.cell 2
      have yl := X3.out.lt
      simp only [List.getElem?_toArray, List.getElem?_cons_zero, List.getElem?_cons_succ] at y0 y1 y2
      have hall : allIn 0 1 (c ++ List.replicate (j - m) (0 : Int)) = true := List.all_eq_true.2 fun x hx => by
        rcases List.mem_append.1 hx with hx | hx
        · rcases HCB.out x hx with rfl | rfl <;> rfl
        · rw [(List.mem_replicate.1 hx).2]; rfl
      go_wp2_with fail
      refine Calls.mono (KS.out _ HB3.out _ _ _ O3.out.ints hall) ?_
      rintro e w5 ⟨a5, c5, rfl, hb5, ho5⟩
      go_wp2
      go_ret
      refine ⟨?_, below_callS HB3.out hb5⟩
      rw [begB, okB, hml]
      rfl
end Go.Proofs.YtkaikbaagajckaaGreat
namespace Go.Proofs.YtkaikbaagajckaaGreat
open Go.RowKit
set_option linter.unusedVariables false
set_option linter.unusedSimpArgs false
section
variable {P : Program} {ops : Array Oper} {Q : Exit → Act → World → Prop} {md : Region.Mode} {S : World → Prop}
/-- whatever order is picked for the next k steps: S holds behind each, and R behind the last -/
def wpK (P : Program) (md : Region.Mode) (ops : Array Oper) (Q : Exit → Act → World → Prop) (S : World → Prop) (R : Array Bool → Act → World → Prop) : Nat → Array Bool → Act → World → Prop
  | 0, listed, a, w => R listed a w
  | k + 1, listed, a, w => Region.ready md ops listed ≠ [] ∧ ∀ i ∈ Region.ready md ops listed, wpOp P ops Q i (fun a' w' => S w' ∧ wpK P md ops Q S R k (listed.setIfInBounds i true) a' w') a w
theorem wpAnyH_of_K {R : Array Bool → Act → World → Prop} {fuel : Nat} (h : ∀ l a w, S w → R l a w → wpAnyH P md ops Q S fuel l a w) : ∀ (k : Nat) (listed : Array Bool) (a : Act) (w : World), S w → wpK P md ops Q S R k listed a w → wpAnyH P md ops Q S (fuel + k) listed a w
  | 0, listed, a, w, hS, hk => h _ _ _ hS hk
  | k + 1, listed, a, w, hS, hk => ⟨fun h0 => absurd h0 hk.1, fun i hi => wpOp_mono (fun a' w' h' => ⟨h'.1, wpAnyH_of_K h k _ a' w' h'.1 h'.2⟩) (hk.2 i hi)⟩
def AllReadyK (P : Program) (md : Region.Mode) (ops : Array Oper) (Q : Exit → Act → World → Prop) (S : World → Prop) (R : Array Bool → Act → World → Prop) (k : Nat) (listed : Array Bool) (a : Act) (w : World) (rs : List Nat) : Prop :=
  ∀ i ∈ rs, wpOp P ops Q i (fun a' w' => S w' ∧ wpK P md ops Q S R k (listed.setIfInBounds i true) a' w') a w
theorem AllReadyK.nil {R : Array Bool → Act → World → Prop} {k : Nat} {listed : Array Bool} {a : Act} {w : World} : AllReadyK P md ops Q S R k listed a w [] := fun _ h => by cases h
theorem AllReadyK.cons {R : Array Bool → Act → World → Prop} {k : Nat} {listed : Array Bool} {a : Act} {w : World} {i : Nat} {o : Oper} {rs : List Nat} (ho : ops[i]? = some o)
    (h : ∀ K' : Act → World → Prop, Shut (∀ a w, S w → (S w → wpK P md ops Q S R k (listed.setIfInBounds i true) a w) → K' a w) → if Region.wanted o (yielded ops a.tmps) = true then Oper.wp P o a w K' Q else K' (a.put o.dst undef) w)
    (hs : AllReadyK P md ops Q S R k listed a w rs) : AllReadyK P md ops Q S R k listed a w (i :: rs) := fun j hj => by
  rcases List.mem_cons.1 hj with rfl | hj
  · exact wpOp_step ho (fun K' hK => h K' (fun a w hS hW => hK a w ⟨hS, hW hS⟩))
  · exact hs j hj
theorem wpK_ready {R : Array Bool → Act → World → Prop} {k : Nat} {rs : List Nat} {listed : Array Bool} {a : Act} {w : World} (hr : Region.ready md ops listed = rs) (hne : rs ≠ [])
    (h : AllReadyK P md ops Q S R k listed a w rs) : wpK P md ops Q S R (k + 1) listed a w := ⟨fun h0 => hne (hr ▸ h0), hr ▸ h⟩
/-- a call that yields a slice and a made slice of one element, in both orders -/
theorem wpAnyH_two {F : Option Addr → Nat → Nat → World → Prop} {i j n fuel : Nat} {di dj : Option Nat} {listed : Array Bool} {a : Act} {w : World} (hS : S w)
    (hk : wpK P md ops Q S (fun l a' wn => ∃ a3 c3 gx, l = (listed.setIfInBounds i true).setIfInBounds j true ∧ a' = (a.put di (.slice a3 n c3)).put dj (.slice (some ⟨gx, 0, none⟩) 1 1) ∧ F a3 c3 gx wn) 2 listed a w)
    (h : ∀ a3 c3 gx wn, S wn → F a3 c3 gx wn → wpAnyH P md ops Q S fuel ((listed.setIfInBounds i true).setIfInBounds j true) ((a.put di (.slice a3 n c3)).put dj (.slice (some ⟨gx, 0, none⟩) 1 1)) wn) : wpAnyH P md ops Q S (fuel + 2) listed a w :=
  wpAnyH_of_K (fun l a' wn hSn hR => by
    obtain ⟨a3, c3, gx, rfl, rfl, hF⟩ := hR
    exact h a3 c3 gx wn hSn hF) 2 listed a w hS hk
/-- .. and a call that yields v before the first -/
theorem wpAnyH_three {F : Option Addr → Nat → Nat → World → Prop} {i0 i j n fuel : Nat} {d0 di dj : Option Nat} {v : Value} {listed : Array Bool} {a : Act} {w : World} (hS : S w)
    (hk : wpK P md ops Q S (fun l a' wn => ∃ a3 c3 gx, l = ((listed.setIfInBounds i0 true).setIfInBounds i true).setIfInBounds j true ∧ a' = ((a.put d0 v).put di (.slice a3 n c3)).put dj (.slice (some ⟨gx, 0, none⟩) 1 1) ∧ F a3 c3 gx wn) 3 listed a w)
    (h : ∀ a3 c3 gx wn, S wn → F a3 c3 gx wn → wpAnyH P md ops Q S fuel (((listed.setIfInBounds i0 true).setIfInBounds i true).setIfInBounds j true) (((a.put d0 v).put di (.slice a3 n c3)).put dj (.slice (some ⟨gx, 0, none⟩) 1 1)) wn) : wpAnyH P md ops Q S (fuel + 3) listed a w :=
  wpAnyH_of_K (fun l a' wn hSn hR => by
    obtain ⟨a3, c3, gx, rfl, rfl, hF⟩ := hR
    exact h a3 c3 gx wn hSn hF) 3 listed a w hS hk
end
end Go.Proofs.YtkaikbaagajckaaGreat
namespace Go.Proofs.YtkaikbaagajckaaGreat
open Go.RowKit
set_option linter.unusedVariables false
set_option linter.unusedSimpArgs false
attribute [local go_sem ↓] Go.wp_at_zero Go.wp_at_succ
/-- where a bit of an input leads -/
def brN (n : Int) (L : List I3) (r input bit : Int) : Int := if bit = 0 then (chN n L r input).1 else (chN n L r input).2
set_option maxHeartbeats 2000000 in
theorem spec_l22Branch {a : Option Addr} {n c : Nat} {L : List I3} {inp root r input bit : Int} {w : World} (hI : F3 w a n c L) (hn : n ≤ 1048576) (hr : RefB r L.length) :
    Calls Tryz.prog 169 #[.agg #[.int .i64 inp, .slice a n c, .int .i64 root], .int .i64 r, .int .i64 input, .int .i64 bit] w fun e w' => e = .returned (.int .i64 (brN inp L r input bit)) ∧ Below w.heap.size w w' := by
  have hb0 : Below w.heap.size w (w.alloc (.cells #[.int .i64 inp, .slice a n c, .int .i64 root] 40)) := bel
  have X := Lib.hid (Blk.made w #[.int .i64 inp, .slice a n c, .int .i64 root] 40)
  have HC := Lib.hid (spec_l22Level (inp := inp) (root := root) (hI.keep hb0) hn hr)
  by_cases hl : lvlN inp L r = input
  · have HL := Lib.hid hl
    by_cases h2 : r < 2
    · have HF := Lib.hid (show brN inp L r input bit = r by rw [brN, ch_skip (.inr h2)]; simp)
      clear hI hl
      go_enter Tryz.func169, Tryz.ntmps169
      go_wp2_with fail
      refine Calls.mono HC.out ?_
      rintro e w1 ⟨rfl, hb1⟩
      rw [HL.out]
      go_wp2
      go_ret
      exact ⟨by rw [HF.out]; rfl, below_callS hb0 hb1⟩
    · obtain ⟨k, rfl⟩ : ∃ k : Nat, r = (k : Int) + 2 := ⟨(r - 2).toNat, by omega⟩
      have hkn : k < n := by rw [← hI.len]; have := hr.2; omega
      obtain ⟨b, off, x, rfl, hb, hx, hwf, hc0, hc1, hc2⟩ := F3.get hI hkn
      have hk0 : (0 : Int) ≤ (k : Int) := by omega
      have hkn' : (k : Int) < (n : Int) := by omega
      have i1 : IntKind.i64.wrap ((k : Int) + 2 - 2) = (k : Int) := by rw [IntWalk.i64_in _ (by omega)]; omega
      have HX := Lib.hid (ch_node (n := inp) hx (show x.a = input by rw [← hl, lvl_node hx]))
      have HI := Lib.hid hI
      have HC0 := Lib.hid hc0
      have HC1 := Lib.hid hc1
      have HC2 := Lib.hid hc2
      clear hI hl hx hc0 hc1 hc2
      by_cases hbt : bit = 0
      · have e1 : (bit == 0) = true := by simpa using hbt
        have HBT := Lib.hid hbt
        clear hbt
        go_enter Tryz.func169, Tryz.ntmps169
        go_wp2_with fail
        refine Calls.mono HC.out ?_
        rintro e w1 ⟨rfl, hb1⟩
        rw [HL.out]
        have x1 := (X.out.keep hb1).cell 1
        have xl := (X.out.keep hb1).lt
        simp only [List.getElem?_toArray, List.getElem?_cons_succ, List.getElem?_cons_zero] at x1
        have hb01 := below_callS hb0 hb1
        have c0 := cell_of_keep hb01 HC0.out
        have c1 := cell_of_keep hb01 HC1.out
        have c2 := cell_of_keep hb01 HC2.out
        have bl := Nat.lt_of_lt_of_le hb hb01.size
        go_wp2
        go_ret
        exact ⟨by rw [brN, HX.out, if_pos HBT.out]; rfl, hb01⟩
      · have e1 : (bit == 0) = false := by simpa using hbt
        have HBT := Lib.hid hbt
        clear hbt
        go_enter Tryz.func169, Tryz.ntmps169
        go_wp2_with fail
        refine Calls.mono HC.out ?_
        rintro e w1 ⟨rfl, hb1⟩
        rw [HL.out]
        have x1 := (X.out.keep hb1).cell 1
        have xl := (X.out.keep hb1).lt
        simp only [List.getElem?_toArray, List.getElem?_cons_succ, List.getElem?_cons_zero] at x1
        have hb01 := below_callS hb0 hb1
        have c0 := cell_of_keep hb01 HC0.out
        have c1 := cell_of_keep hb01 HC1.out
        have c2 := cell_of_keep hb01 HC2.out
        have bl := Nat.lt_of_lt_of_le hb hb01.size
        go_wp2
        go_ret
        exact ⟨by rw [brN, HX.out, if_neg HBT.out]; rfl, hb01⟩
  · have HF := Lib.hid (show brN inp L r input bit = r by rw [brN, ch_skip (.inl hl)]; simp)
    have e1 : (lvlN inp L r == input) = false := by simpa using hl
    have e2 : (lvlN inp L r != input) = true := by simpa using hl
    clear hI hl
    go_enter Tryz.func169, Tryz.ntmps169
    go_wp2_with fail
    refine Calls.mono HC.out ?_
    rintro e w1 ⟨rfl, hb1⟩
    go_wp2
    go_ret
    exact ⟨by rw [HF.out]; rfl, below_callS hb0 hb1⟩
end Go.Proofs.YtkaikbaagajckaaGreat
