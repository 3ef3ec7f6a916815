/- The diagram of tests: the reference, walked. -/
import Derived.Test.YtkaikbaagajckaaWl
namespace Go.Proofs.Ytkaikbaagajckaa
open Go.RowKit
set_option linter.unusedVariables false
set_option linter.unusedSimpArgs false
attribute [local go_sem ↓] Go.wp_at_zero Go.wp_at_succ
theorem vt_congr {al al' : Int → Bool} (h : ∀ v, 0 ≤ v → al v = al' v) : ∀ (k : Nat) (L : List I3) (v i rest : Int), 0 ≤ v → vtN al k L v i rest = vtN al' k L v i rest := by
  intro k
  induction k with
  | zero => intro L v i rest hv; rw [vtN, vtN, h v hv]
  | succ k ih => intro L v i rest hv; rw [vtN, vtN, ih L (2 * v) _ _ (by omega), ih _ (2 * v + 1) _ _ (by omega)]
def alA (A : List Bool) (v : Int) : Bool := decide (v < (A.length : Int)) && A.getD v.toNat false
theorem alA_line (sz : List Int) (g : List I2b) (j : Nat) (v : Int) (hv : 0 ≤ v) : alA (lnB sz g j) v = alB sz g j v := by
  rw [alA, lnB_len]
  by_cases h : v < sz.getD j 0
  · have h2 : v.toNat < (sz.getD j 0).toNat := by omega
    rw [decide_eq_true (show v < ((sz.getD j 0).toNat : Int) by omega), Bool.true_and, List.getD_eq_getElem?_getD, lnB_at h2, show ((v.toNat : Nat) : Int) = v by omega]
    rfl
  · rw [decide_eq_false (show ¬ v < ((sz.getD j 0).toNat : Int) by omega), Bool.false_and, alB, decide_eq_false h, Bool.false_and]
theorem OwnF.frf {α : Type} {k' : Nat} {enc : α → List Value} {ok : α → Prop} {E : TypeId} {w w' : World} {base lo p mb : Nat} {a : Option Addr} {n c : Nat} {l : List α} (h : OwnF k' enc ok E w base a n c l) (hf : FrF lo p mb w w') (hE : E ≠ 76) (hp : ∀ g, a = some ⟨g, 0, none⟩ → g ≠ p ∧ g ≠ mb) : OwnF k' enc ok E w' base a n c l := by
  cases a with
  | none => exact OwnF.here (lo := 0) (hi := 0) (fun g e => by cases e) w w' (fun k h1 h2 => by omega) h
  | some ad =>
    have hsh : ∃ g, (some ad : Option Addr) = some ⟨g, 0, none⟩ := by
      rcases h.1.2 with ⟨he, _⟩ | ⟨g, cap, cur, he, _⟩
      · simp only [Value.slice.injEq] at he; cases he.1
      · simp only [Value.slice.injEq] at he; exact ⟨g, he.1⟩
    obtain ⟨g, hg⟩ := hsh
    rw [hg] at h hp ⊢
    refine OwnF.here (lo := g) (hi := g + 1) (fun g' e => by simp at e; omega) w w' (fun k h1 h2 => ?_) h
    obtain rfl : k = g := by omega
    exact hf.block k (h.blk k rfl).2 (hp k rfl).1 (hp k rfl).2 (.inr fun cs l he => by
      obtain ⟨cur, hc⟩ := h.typN rfl
      rw [hc] at he
      simp only [Option.some.injEq, Obj.cells.injEq] at he
      exact hE he.2.1)
theorem blk_off {α : Type} {k' : Nat} {enc : α → List Value} {ok : α → Prop} {E T : TypeId} {w : World} {base b : Nat} {a : Option Addr} {n c : Nat} {l : List α} {cs : Array Value} (h : OwnF k' enc ok E w base a n c l) (hB : Blk w b cs T) (hE : E ≠ T) : ∀ g, a = some ⟨g, 0, none⟩ → g ≠ b ∧ g ≠ b := fun g e => by
  have : g ≠ b := fun e2 => blk_ne hB h.typN hE (by rw [e, e2])
  exact ⟨this, this⟩
theorem BRow.frf {w w' : World} {lo lo' p : Nat} {a : Option Addr} {n c : Nat} {l : List (LnB × List Bool)} {cs : Array Value} (h : BRow w lo a n c l) (hB : Blk w p cs 100) (hf : FrF lo' p p w w') : BRow w' lo a n c l :=
  ⟨h.row.frf hf (by decide) (blk_off h.row hB (by decide)), fun x hx => (h.each x hx).frf hf (by decide) (blk_off (h.each x hx) hB (by decide))⟩
theorem BRow.get {w : World} {lo : Nat} {a : Option Addr} {n c : Nat} {l : List (LnB × List Bool)} (h : BRow w lo a n c l) {i : Nat} (hi : i < n) :
    ∃ b R v, a = some ⟨b, 0, none⟩ ∧ b < w.heap.size ∧ l[i]? = some (R, v) ∧ OwnB 4 w lo R.a R.n R.c v ∧ w.cell? ⟨b, i, none⟩ = some (.slice R.a R.n R.c) := by
  obtain ⟨g, hg⟩ := h.row.shape (by omega)
  subst hg
  obtain ⟨b, off, x, h1, h2, h3, _, h5⟩ := h.row.flats.at hi
  cases h1
  have := h5 0 _ rfl
  rw [Nat.mul_one] at this
  exact ⟨g, x.1, x.2, rfl, h2, h3, h.each x (List.mem_of_getElem? h3), by simpa using this⟩
set_option maxHeartbeats 4000000 in
theorem spec_l23Value {lo p base n c : Nat} {a : Option Addr} {A : List Bool} (hn : n ≤ 1048576) :
    ∀ (k : Nat) (v i rest : Int) (L : List I3) (w : World), (∃ na nc, BldA w lo p na nc L) → OwnB 4 w base a n c A → 0 ≤ v → (v + 1) * 2 ^ k ≤ 32 → k ≤ 5 → 0 ≤ i → i + k ≤ 1000 → RefB rest L.length → L.length + 2 ^ k ≤ 1048576 → lo ≤ w.heap.size →
    Calls Try.prog 126 #[.pointer (some ⟨p, 0, none⟩), .slice a n c, .int .i64 rest, .int .i64 v, .int .i64 (k : Int), .int .i64 i] w fun e w' => e = .returned (.int .i64 (vtN (alA A) k L v i rest).2) ∧ (∃ na nc, BldA w' lo p na nc (vtN (alA A) k L v i rest).1) ∧ FrF lo p p w w' := by
  intro k
  induction k with
  | zero =>
    intro v i rest L w hF hA h0 h1 hk hi0 hi1 hr hL hlo
    rw [Int.pow_zero, Int.mul_one] at h1
    have hAl : A.length = n := hA.len
    have HFO := Lib.hid hF
    obtain ⟨vn, rfl⟩ : ∃ m : Nat, v = (m : Int) := ⟨v.toNat, by omega⟩
    by_cases hvl : vn < n
    · have hvl' : (vn : Int) < (n : Int) := by omega
      obtain ⟨b, off, x, rfl, hb, hx, _, hc⟩ := hA.flats.at hvl
      have hxc := hc 0 _ rfl
      simp only [Nat.mul_one, Nat.add_zero] at hxc
      have hal : alA A (vn : Int) = x := by rw [alA, hAl, decide_eq_true hvl', Bool.true_and, Int.toNat_natCast, List.getD_eq_getElem?_getD, hx]; rfl
      have HA := Lib.hid hal
      clear hF hA hc hx hal
      cases x
      · go_enter Try.func126, Try.ntmps126
        go_wp2
        go_ret
        exact ⟨ret_int (by rw [vtN, HA.out]; rfl), HFO.out, FrF.refl _ _ _ _⟩
      · go_enter Try.func126, Try.ntmps126
        go_wp2
        go_ret
        exact ⟨ret_int (by rw [vtN, HA.out]; rfl), HFO.out, FrF.refl _ _ _ _⟩
    · have hvl' : ¬ (vn : Int) < (n : Int) := by omega
      have HA := Lib.hid (show alA A (vn : Int) = false by rw [alA, hAl, decide_eq_false hvl', Bool.false_and])
      clear hF hA
      go_enter Try.func126, Try.ntmps126
      go_wp2
      go_ret
      exact ⟨ret_int (by rw [vtN, HA.out]; rfl), HFO.out, FrF.refl _ _ _ _⟩
  | succ k ih =>
    intro v i rest L w hF hRow h0 h1 hk hi0 hi1 hr hL hlo
    have hpk : (1 : Int) ≤ 2 ^ k := by
      have := Nat.two_pow_pos k
      have h : ((1 : Nat) : Int) ≤ ((2 ^ k : Nat) : Int) := by exact_mod_cast this
      rw [Int.natCast_pow] at h; exact h
    have hv1 : (2 * v + 1) * 2 ^ k ≤ 32 := by
      have e : (v + 1) * 2 ^ (k + 1) = (2 * v + 1) * 2 ^ k + 2 ^ k := by rw [Int.pow_succ]; generalize (2 : Int) ^ k = q; rw [Int.add_mul, Int.add_mul, Int.one_mul, Int.one_mul, ← Int.mul_assoc, Int.mul_comm v q, Int.mul_comm (2 * v) q, ← Int.mul_assoc, Int.mul_comm (q * v) 2, Int.mul_comm q 2, ← Int.mul_assoc]; omega
      omega
    have hv2 : (2 * v + 1 + 1) * 2 ^ k ≤ 32 := by
      have e : (v + 1) * 2 ^ (k + 1) = (2 * v + 1 + 1) * 2 ^ k := by rw [Int.pow_succ, show 2 * v + 1 + 1 = 2 * (v + 1) by omega]; generalize (2 : Int) ^ k = q; rw [Int.mul_comm q 2, ← Int.mul_assoc, Int.mul_comm 2 (v + 1)]
      omega
    have hvs : v ≤ 31 := by
      have h3 : (v + 1) * 1 ≤ (v + 1) * 2 ^ (k + 1) := Int.mul_le_mul_of_nonneg_left (by
        have := Nat.two_pow_pos (k + 1)
        have h : ((1 : Nat) : Int) ≤ ((2 ^ (k + 1) : Nat) : Int) := by exact_mod_cast this
        rw [Int.natCast_pow] at h; exact h) (by omega)
      omega
    have e1 : IntKind.i64.wrap (2 * v) = 2 * v := IntWalk.i64_in _ (by omega)
    have e2 : IntKind.i64.wrap (2 * v + 1) = 2 * v + 1 := IntWalk.i64_in _ (by omega)
    have e3 : IntKind.i64.wrap (((k + 1 : Nat) : Int) - 1) = (k : Int) := by rw [IntWalk.i64_in _ (by omega)]; omega
    have e3' : IntKind.i64.wrap ((k : Int) + 1 - 1) = (k : Int) := by rw [IntWalk.i64_in _ (by omega)]; omega
    have e4 : IntKind.i64.wrap (i + 1) = i + 1 := IntWalk.i64_in _ (by omega)
    have e5 : (((k + 1 : Nat) : Int) == 0) = false := by simpa using (show ¬ ((k + 1 : Nat) : Int) = 0 by omega)
    have e5' : (((k : Int) + 1) == 0) = false := by simpa using (show ¬ (k : Int) + 1 = 0 by omega)
    have e6 : ¬ ((k : Int) + 1 = 0) := by omega
    have hpw : 2 ^ (k + 1) = 2 ^ k + 2 ^ k := by rw [Nat.pow_succ]; omega
    have HFO := Lib.hid hF
    have HR := Lib.hid hr
    have HRow := Lib.hid hRow
    obtain ⟨q1, q2, q3⟩ := vt_ref (al := alA A) k L (2 * v) (i + 1) rest hr
    obtain ⟨C, hC⟩ : ∃ C, vtN (alA A) k L (2 * v) (i + 1) rest = C := ⟨_, rfl⟩
    rw [hC] at q1 q2 q3
    obtain ⟨r1, r2, r3⟩ := vt_ref (al := alA A) k C.1 (2 * v + 1) (i + 1) rest (hr.mono q2)
    obtain ⟨B, hB⟩ : ∃ B, vtN (alA A) k C.1 (2 * v + 1) (i + 1) rest = B := ⟨_, rfl⟩
    rw [hB] at r1 r2 r3
    have HN := Lib.hid (vt_new hC hB)
    obtain ⟨C1, C2⟩ := C
    obtain ⟨B1, B2⟩ := B
    simp only at q1 q2 q3 r1 r2 r3
    have K1 := Lib.hid (ih (2 * v) (i + 1) rest L w hF hRow (by omega) hv1 (by omega) (by omega) (by omega) hr (by omega) hlo)
    have K2 := Lib.hid (fun (w1 : World) (hf : FrF lo p p w w1) (h : ∃ na nc, BldA w1 lo p na nc C1) => ih (2 * v + 1) (i + 1) rest C1 w1 h (by
      obtain ⟨na, nc, h9⟩ := HFO.out
      exact HRow.out.frf hf (by decide) (blk_off HRow.out h9.blk (by decide))) (by omega) hv2 (by omega) (by omega) (by omega) (HR.out.mono q2) (by omega) (by have := hf.size; omega))
    have HA := Lib.hid hC
    have HB := Lib.hid hB
    have hq1 : I64 C2 := by have h1 := q1.1; have h2 := q1.2; unfold I64; omega
    have hq2 : I64 B2 := by have h1 := r1.1; have h2 := r1.2; unfold I64; omega
    clear hC hB hF hr ih h1 hv1 hv2 hpk hRow
    go_enter Try.func126, Try.ntmps126
    go_wp2_with fail
    refine Calls.mono K1.out ?_
    rintro e w1 ⟨rfl, hF1, hf1⟩
    rw [HA.out] at hF1 ⊢
    have HF1 := Lib.hid hF1
    have Hf1 := Lib.hid hf1
    clear hF1 hf1
    go_wp2_with fail
    refine Calls.mono (K2.out w1 Hf1.out HF1.out) ?_
    rintro e w2 ⟨rfl, hF2, hf2⟩
    rw [HB.out] at hF2 ⊢
    obtain ⟨na, nc, hF2⟩ := hF2
    have HF2 := Lib.hid hF2
    have Hf2 := Lib.hid (Hf1.out.trans hf2)
    have hs2 := Hf2.out.size
    clear hF2 hf2
    go_wp2_with fail
    refine Calls.mono (spec_l22Node HF2.out (by omega) (by unfold I64; omega) hq1 hq2 (by omega)) ?_
    rintro e w3 ⟨rfl, hF3, hf3⟩
    have HF3 := Lib.hid hF3
    have Hf3 := Lib.hid (Hf2.out.trans hf3)
    clear hF3 hf3
    go_wp2
    go_ret
    refine ⟨ret_int (by rw [HN.out]), ?_, Hf3.out⟩
    rw [HN.out]
    exact HF3.out
end Go.Proofs.Ytkaikbaagajckaa
