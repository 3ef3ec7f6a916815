/- Tests as diagrams: the program, walked. -/
import Derived.Test.YtkaikbaagajckaaVx
import Derived.Test.YtkaikbaagajckaaVq
import Derived.Test.YtkaikbaagajckaaKp
namespace Go.Proofs.Ytkaikbaagajckaa
open Go.RowKit
set_option linter.unusedVariables false
set_option linter.unusedSimpArgs false
/-- what a function value g bound to lb answers at a number, while a forest grows -/
def PredV (g : Nat) (lb : Array Value) (al : Int → Bool) (lo p mb : Nat) (w : World) : Prop :=
  ∀ (W : World) (v : Int), 0 ≤ v → v ≤ 31 → FrF lo p mb w W → Calls Try.prog g (#[.int .i64 v] ++ lb) W fun e w' => e = .returned (.bool (al v)) ∧ Below W.heap.size W w'
theorem PredV.step {g : Nat} {lb : Array Value} {al : Int → Bool} {lo p mb : Nat} {w w' : World} (h : PredV g lb al lo p mb w) (hf : FrF lo p mb w w') : PredV g lb al lo p mb w' := fun W v h0 h1 hW => h W v h0 h1 (hf.trans hW)
set_option maxHeartbeats 4000000 in
theorem impl_valueTree {g : Nat} {lb : Array Value} {al : Int → Bool} {lo p mb : Nat} {inp : Int} (eg : ∀ args w, (callFunc g args).run Try.prog w = .ok (.enter g args) w) :
    ∀ (k : Nat) (v i rest : Int) (L : List I3) (w : World), PredV g lb al lo p mb w → (∃ na nc mn, ForA w lo p mb inp na nc mn L) → 0 ≤ v → (v + 1) * 2 ^ k ≤ 32 → k ≤ 5 → 0 ≤ i → i + k ≤ 1000 → RefB rest L.length → L.length + 2 ^ k ≤ 1048576 → lo ≤ w.heap.size →
    Calls Try.prog 138 #[.pointer (some ⟨p, 0, none⟩), .func (.func g) #[] lb, .int .i64 v, .int .i64 (k : Int), .int .i64 i, .int .i64 rest] w fun e w' => e = .returned (.int .i64 (vtN al k L v i rest).2) ∧ (∃ na nc mn, ForA w' lo p mb inp na nc mn (vtN al k L v i rest).1) ∧ FrF lo p mb w w' := by
  intro k
  induction k with
  | zero =>
    intro v i rest L w hP hF h0 h1 hk hi0 hi1 hr hL hlo
    rw [Int.pow_zero, Int.mul_one] at h1
    have hcall := hP w v h0 (by omega) (FrF.refl _ _ _ _)
    have HFO := Lib.hid hF
    clear hF hP
    cases ha : al v
    · rw [ha] at hcall
      have HA := Lib.hid ha
      clear ha
      go_enter Try.func138, Try.ntmps138
      go_wp2_with (go_at_fn g; refine hcall.mono ?_; rintro e w1 ⟨rfl, hb1⟩)
      go_ret
      refine ⟨ret_int (by rw [vtN, HA.out]; rfl), ?_, FrF.of_below hb1⟩
      obtain ⟨na, nc, mn, h⟩ := HFO.out
      exact ⟨na, nc, mn, h.keep hb1⟩
    · rw [ha] at hcall
      have HA := Lib.hid ha
      clear ha
      go_enter Try.func138, Try.ntmps138
      go_wp2_with (go_at_fn g; refine hcall.mono ?_; rintro e w1 ⟨rfl, hb1⟩)
      go_ret
      refine ⟨ret_int (by rw [vtN, HA.out]; rfl), ?_, FrF.of_below hb1⟩
      obtain ⟨na, nc, mn, h⟩ := HFO.out
      exact ⟨na, nc, mn, h.keep hb1⟩
  | succ k ih =>
    intro v i rest L w hP hF h0 h1 hk hi0 hi1 hr hL hlo
    have hpk : (1 : Int) ≤ 2 ^ k := by
      have := Nat.two_pow_pos k
      have h : ((1 : Nat) : Int) ≤ ((2 ^ k : Nat) : Int) := by exact_mod_cast this
      rw [Int.natCast_pow] at h; exact h
    have hv1 : (2 * v + 1) * 2 ^ k ≤ 32 := by
      have e : (v + 1) * 2 ^ (k + 1) = (2 * v + 1) * 2 ^ k + 2 ^ k := by rw [Int.pow_succ]; generalize (2 : Int) ^ k = q; rw [Int.add_mul, Int.add_mul, Int.one_mul, Int.one_mul, ← Int.mul_assoc, Int.mul_comm v q, Int.mul_comm (2 * v) q, ← Int.mul_assoc, Int.mul_comm (q * v) 2, Int.mul_comm q 2, ← Int.mul_assoc]; omega
      omega
    have hv2 : (2 * v + 1 + 1) * 2 ^ k ≤ 32 := by
      have e : (v + 1) * 2 ^ (k + 1) = (2 * v + 1 + 1) * 2 ^ k := by rw [Int.pow_succ, show 2 * v + 1 + 1 = 2 * (v + 1) by omega]; generalize (2 : Int) ^ k = q; rw [Int.mul_comm q 2, ← Int.mul_assoc, Int.mul_comm 2 (v + 1)]
      omega
    have hvs : v ≤ 31 := by
      have h3 : (v + 1) * 1 ≤ (v + 1) * 2 ^ (k + 1) := Int.mul_le_mul_of_nonneg_left (by
        have := Nat.two_pow_pos (k + 1)
        have h : ((1 : Nat) : Int) ≤ ((2 ^ (k + 1) : Nat) : Int) := by exact_mod_cast this
        rw [Int.natCast_pow] at h; exact h) (by omega)
      omega
    have e1 : IntKind.i64.wrap (2 * v) = 2 * v := IntWalk.i64_in _ (by omega)
    have e2 : IntKind.i64.wrap (2 * v + 1) = 2 * v + 1 := IntWalk.i64_in _ (by omega)
    have e3 : IntKind.i64.wrap (((k + 1 : Nat) : Int) - 1) = (k : Int) := by rw [IntWalk.i64_in _ (by omega)]; omega
    have e3' : IntKind.i64.wrap ((k : Int) + 1 - 1) = (k : Int) := by rw [IntWalk.i64_in _ (by omega)]; omega
    have e4 : IntKind.i64.wrap (i + 1) = i + 1 := IntWalk.i64_in _ (by omega)
    have e5 : (((k + 1 : Nat) : Int) == 0) = false := by simpa using (show ¬ ((k + 1 : Nat) : Int) = 0 by omega)
    have e5' : (((k : Int) + 1) == 0) = false := by simpa using (show ¬ (k : Int) + 1 = 0 by omega)
    have e6 : ¬ ((k : Int) + 1 = 0) := by omega
    have hpw : 2 ^ (k + 1) = 2 ^ k + 2 ^ k := by rw [Nat.pow_succ]; omega
    have HP := Lib.hid hP
    have HFO := Lib.hid hF
    have HR := Lib.hid hr
    obtain ⟨q1, q2, q3⟩ := vt_ref (al := al) k L (2 * v) (i + 1) rest hr
    obtain ⟨A, hA⟩ : ∃ A, vtN al k L (2 * v) (i + 1) rest = A := ⟨_, rfl⟩
    rw [hA] at q1 q2 q3
    obtain ⟨r1, r2, r3⟩ := vt_ref (al := al) k A.1 (2 * v + 1) (i + 1) rest (hr.mono q2)
    obtain ⟨B, hB⟩ : ∃ B, vtN al k A.1 (2 * v + 1) (i + 1) rest = B := ⟨_, rfl⟩
    rw [hB] at r1 r2 r3
    have HN := Lib.hid (vt_new hA hB)
    obtain ⟨A1, A2⟩ := A
    obtain ⟨B1, B2⟩ := B
    simp only at q1 q2 q3 r1 r2 r3
    have K1 := Lib.hid (ih (2 * v) (i + 1) rest L w hP hF (by omega) hv1 (by omega) (by omega) (by omega) hr (by omega) hlo)
    have K2 := Lib.hid (fun (w1 : World) (hf : FrF lo p mb w w1) (h : ∃ na nc mn, ForA w1 lo p mb inp na nc mn A1) => ih (2 * v + 1) (i + 1) rest A1 w1 (HP.out.step hf) h (by omega) hv2 (by omega) (by omega) (by omega) (HR.out.mono q2) (by omega) (by have := hf.size; omega))
    have HA := Lib.hid hA
    have HB := Lib.hid hB
    have hq1 : I64 A2 := by have h1 := q1.1; have h2 := q1.2; unfold I64; omega
    have hq2 : I64 B2 := by have h1 := r1.1; have h2 := r1.2; unfold I64; omega
    clear hA hB hF hP hr ih h1 hv1 hv2 hpk
    go_enter Try.func138, Try.ntmps138
    go_wp2_with fail
    refine Calls.mono K1.out ?_
    rintro e w1 ⟨rfl, hF1, hf1⟩
    rw [HA.out] at hF1 ⊢
    have HF1 := Lib.hid hF1
    have Hf1 := Lib.hid hf1
    clear hF1 hf1
    go_wp2_with fail
    refine Calls.mono (K2.out w1 Hf1.out HF1.out) ?_
    rintro e w2 ⟨rfl, hF2, hf2⟩
    rw [HB.out] at hF2 ⊢
    obtain ⟨na, nc, mn, hF2⟩ := hF2
    have HF2 := Lib.hid hF2
    have Hf2 := Lib.hid (Hf1.out.trans hf2)
    have hs2 := Hf2.out.size
    clear hF2 hf2
    go_wp2_with fail
    refine Calls.mono (impl_node HF2.out (by omega) (by unfold I64; omega) hq1 hq2 (by omega)) ?_
    rintro e w3 ⟨rfl, hF3, hf3⟩
    have HF3 := Lib.hid hF3
    have Hf3 := Lib.hid (Hf2.out.trans hf3)
    clear hF3 hf3
    go_wp2
    go_ret
    refine ⟨ret_int (by rw [HN.out]), ?_, Hf3.out⟩
    rw [HN.out]
    exact HF3.out
end Go.Proofs.Ytkaikbaagajckaa
