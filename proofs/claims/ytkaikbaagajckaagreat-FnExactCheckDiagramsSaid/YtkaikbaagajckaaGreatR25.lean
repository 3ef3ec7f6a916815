/- The diagram of tests: the reference, walked.; The diagram of tests, with its code: the reference, walked.; The diagram of tests, with its code: the reference, walked. (Printed by mkwo.py.); TestDiagram by what the model means.; How many nodes a join makes: plain laws.; Valid diagrams: levels and comparisons, walked.; The join of two diagrams: the program, walked: a pair of references. -/
import Derived.Test.YtkaikbaagajckaaGreatR24
import Derived.Test.YtkaikbaagajckaaGreatR17
import Derived.Test.YtkaikbaagajckaaGreatR12
import Derived.Test.YtkaikbaagajckaaGreatR10
import Derived.Test.YtkaikbaagajckaaGreatR14
import Derived.Test.YtkaikbaagajckaaGreatR13
import Derived.Deep.DrawnRows
namespace Go.Proofs.YtkaikbaagajckaaGreat
open Go.RowKit
set_option linter.unusedVariables false
set_option linter.unusedSimpArgs false
attribute [local go_sem ↓] Go.wp_at_zero Go.wp_at_succ
theorem vt_congr {al al' : Int → Bool} (h : ∀ v, 0 ≤ v → al v = al' v) : ∀ (k : Nat) (L : List I3) (v i rest : Int), 0 ≤ v → vtN al k L v i rest = vtN al' k L v i rest := by
  intro k
  induction k with
  | zero => intro L v i rest hv; rw [vtN, vtN, h v hv]
  | succ k ih => intro L v i rest hv; rw [vtN, vtN, ih L (2 * v) _ _ (by omega), ih _ (2 * v + 1) _ _ (by omega)]
def alA (A : List Bool) (v : Int) : Bool := decide (v < (A.length : Int)) && A.getD v.toNat false
theorem alA_line (sz : List Int) (g : List I2b) (j : Nat) (v : Int) (hv : 0 ≤ v) : alA (lnB sz g j) v = alB sz g j v := by
  rw [alA, lnB_len]
  by_cases h : v < sz.getD j 0
  · have h2 : v.toNat < (sz.getD j 0).toNat := by omega
    rw [decide_eq_true (show v < ((sz.getD j 0).toNat : Int) by omega), Bool.true_and, List.getD_eq_getElem?_getD, lnB_at h2, show ((v.toNat : Nat) : Int) = v by omega]
    rfl
  · rw [decide_eq_false (show ¬ v < ((sz.getD j 0).toNat : Int) by omega), Bool.false_and, alB, decide_eq_false h, Bool.false_and]
theorem OwnF.frf {α : Type} {k' : Nat} {enc : α → List Value} {ok : α → Prop} {E : TypeId} {w w' : World} {base lo p mb : Nat} {a : Option Addr} {n c : Nat} {l : List α} (h : OwnF k' enc ok E w base a n c l) (hf : FrF lo p mb w w') (hE : E ≠ 117) (hp : ∀ g, a = some ⟨g, 0, none⟩ → g ≠ p ∧ g ≠ mb) : OwnF k' enc ok E w' base a n c l := by
  cases a with
  | none => exact OwnF.here (lo := 0) (hi := 0) (fun g e => by cases e) w w' (fun k h1 h2 => by omega) h
  | some ad =>
    have hsh : ∃ g, (some ad : Option Addr) = some ⟨g, 0, none⟩ := by
      rcases h.1.2 with ⟨he, _⟩ | ⟨g, cap, cur, he, _⟩
      · simp only [Value.slice.injEq] at he; cases he.1
      · simp only [Value.slice.injEq] at he; exact ⟨g, he.1⟩
    obtain ⟨g, hg⟩ := hsh
    rw [hg] at h hp ⊢
    refine OwnF.here (lo := g) (hi := g + 1) (fun g' e => by simp at e; omega) w w' (fun k h1 h2 => ?_) h
    obtain rfl : k = g := by omega
    exact hf.block k (h.blk k rfl).2 (hp k rfl).1 (hp k rfl).2 (.inr fun cs l he => by
      obtain ⟨cur, hc⟩ := h.typN rfl
      rw [hc] at he
      simp only [Option.some.injEq, Obj.cells.injEq] at he
      exact hE he.2.1)
theorem blk_off {α : Type} {k' : Nat} {enc : α → List Value} {ok : α → Prop} {E T : TypeId} {w : World} {base b : Nat} {a : Option Addr} {n c : Nat} {l : List α} {cs : Array Value} (h : OwnF k' enc ok E w base a n c l) (hB : Blk w b cs T) (hE : E ≠ T) : ∀ g, a = some ⟨g, 0, none⟩ → g ≠ b ∧ g ≠ b := fun g e => by
  have : g ≠ b := fun e2 => blk_ne hB h.typN hE (by rw [e, e2])
  exact ⟨this, this⟩
theorem BRow.frf {w w' : World} {lo lo' p : Nat} {a : Option Addr} {n c : Nat} {l : List (LnB × List Bool)} {cs : Array Value} (h : BRow w lo a n c l) (hB : Blk w p cs 110) (hf : FrF lo' p p w w') : BRow w' lo a n c l :=
  ⟨h.row.frf hf (by decide) (blk_off h.row hB (by decide)), fun x hx => (h.each x hx).frf hf (by decide) (blk_off (h.each x hx) hB (by decide))⟩
theorem BRow.get {w : World} {lo : Nat} {a : Option Addr} {n c : Nat} {l : List (LnB × List Bool)} (h : BRow w lo a n c l) {i : Nat} (hi : i < n) :
    ∃ b R v, a = some ⟨b, 0, none⟩ ∧ b < w.heap.size ∧ l[i]? = some (R, v) ∧ OwnB 4 w lo R.a R.n R.c v ∧ w.cell? ⟨b, i, none⟩ = some (.slice R.a R.n R.c) := by
  obtain ⟨g, hg⟩ := h.row.shape (by omega)
  subst hg
  obtain ⟨b, off, x, h1, h2, h3, _, h5⟩ := h.row.flats.at hi
  cases h1
  have := h5 0 _ rfl
  rw [Nat.mul_one] at this
  exact ⟨g, x.1, x.2, rfl, h2, h3, h.each x (List.mem_of_getElem? h3), by simpa using this⟩
set_option maxHeartbeats 4000000 in
theorem spec_l23Value {lo p base n c : Nat} {a : Option Addr} {A : List Bool} (hn : n ≤ 1048576) :
    ∀ (k : Nat) (v i rest : Int) (L : List I3) (w : World), (∃ na nc, BldA w lo p na nc L) → OwnB 4 w base a n c A → 0 ≤ v → (v + 1) * 2 ^ k ≤ 32 → k ≤ 5 → 0 ≤ i → i + k ≤ 1000 → RefB rest L.length → L.length + 2 ^ k ≤ 1048576 → lo ≤ w.heap.size →
    Calls Tryz.prog 150 #[.pointer (some ⟨p, 0, none⟩), .slice a n c, .int .i64 rest, .int .i64 v, .int .i64 (k : Int), .int .i64 i] w fun e w' => e = .returned (.int .i64 (vtN (alA A) k L v i rest).2) ∧ (∃ na nc, BldA w' lo p na nc (vtN (alA A) k L v i rest).1) ∧ FrF lo p p w w' := by
  intro k
  induction k with
  | zero =>
    intro v i rest L w hF hA h0 h1 hk hi0 hi1 hr hL hlo
    rw [Int.pow_zero, Int.mul_one] at h1
    have hAl : A.length = n := hA.len
    have HFO := Lib.hid hF
    obtain ⟨vn, rfl⟩ : ∃ m : Nat, v = (m : Int) := ⟨v.toNat, by omega⟩
    by_cases hvl : vn < n
    · have hvl' : (vn : Int) < (n : Int) := by omega
      obtain ⟨b, off, x, rfl, hb, hx, _, hc⟩ := hA.flats.at hvl
      have hxc := hc 0 _ rfl
      simp only [Nat.mul_one, Nat.add_zero] at hxc
      have hal : alA A (vn : Int) = x := by rw [alA, hAl, decide_eq_true hvl', Bool.true_and, Int.toNat_natCast, List.getD_eq_getElem?_getD, hx]; rfl
      have HA := Lib.hid hal
      clear hF hA hc hx hal
      cases x
      · go_enter Tryz.func150, Tryz.ntmps150
        go_wp2
        go_ret
        exact ⟨ret_int (by rw [vtN, HA.out]; rfl), HFO.out, FrF.refl _ _ _ _⟩
      · go_enter Tryz.func150, Tryz.ntmps150
        go_wp2
        go_ret
        exact ⟨ret_int (by rw [vtN, HA.out]; rfl), HFO.out, FrF.refl _ _ _ _⟩
    · have hvl' : ¬ (vn : Int) < (n : Int) := by omega
      have HA := Lib.hid (show alA A (vn : Int) = false by rw [alA, hAl, decide_eq_false hvl', Bool.false_and])
      clear hF hA
      go_enter Tryz.func150, Tryz.ntmps150
      go_wp2
      go_ret
      exact ⟨ret_int (by rw [vtN, HA.out]; rfl), HFO.out, FrF.refl _ _ _ _⟩
  | succ k ih =>
    intro v i rest L w hF hRow h0 h1 hk hi0 hi1 hr hL hlo
    have hpk : (1 : Int) ≤ 2 ^ k := by
      have := Nat.two_pow_pos k
      have h : ((1 : Nat) : Int) ≤ ((2 ^ k : Nat) : Int) := by exact_mod_cast this
      rw [Int.natCast_pow] at h; exact h
    have hv1 : (2 * v + 1) * 2 ^ k ≤ 32 := by
      have e : (v + 1) * 2 ^ (k + 1) = (2 * v + 1) * 2 ^ k + 2 ^ k := by rw [Int.pow_succ]; generalize (2 : Int) ^ k = q; rw [Int.add_mul, Int.add_mul, Int.one_mul, Int.one_mul, ← Int.mul_assoc, Int.mul_comm v q, Int.mul_comm (2 * v) q, ← Int.mul_assoc, Int.mul_comm (q * v) 2, Int.mul_comm q 2, ← Int.mul_assoc]; omega
      omega
    have hv2 : (2 * v + 1 + 1) * 2 ^ k ≤ 32 := by
      have e : (v + 1) * 2 ^ (k + 1) = (2 * v + 1 + 1) * 2 ^ k := by rw [Int.pow_succ, show 2 * v + 1 + 1 = 2 * (v + 1) by omega]; generalize (2 : Int) ^ k = q; rw [Int.mul_comm q 2, ← Int.mul_assoc, Int.mul_comm 2 (v + 1)]
      omega
    have hvs : v ≤ 31 := by
      have h3 : (v + 1) * 1 ≤ (v + 1) * 2 ^ (k + 1) := Int.mul_le_mul_of_nonneg_left (by
        have := Nat.two_pow_pos (k + 1)
        have h : ((1 : Nat) : Int) ≤ ((2 ^ (k + 1) : Nat) : Int) := by exact_mod_cast this
        rw [Int.natCast_pow] at h; exact h) (by omega)
      omega
    have e1 : IntKind.i64.wrap (2 * v) = 2 * v := IntWalk.i64_in _ (by omega)
    have e2 : IntKind.i64.wrap (2 * v + 1) = 2 * v + 1 := IntWalk.i64_in _ (by omega)
    have e3 : IntKind.i64.wrap (((k + 1 : Nat) : Int) - 1) = (k : Int) := by rw [IntWalk.i64_in _ (by omega)]; omega
    have e3' : IntKind.i64.wrap ((k : Int) + 1 - 1) = (k : Int) := by rw [IntWalk.i64_in _ (by omega)]; omega
    have e4 : IntKind.i64.wrap (i + 1) = i + 1 := IntWalk.i64_in _ (by omega)
    have e5 : (((k + 1 : Nat) : Int) == 0) = false := by simpa using (show ¬ ((k + 1 : Nat) : Int) = 0 by omega)
    have e5' : (((k : Int) + 1) == 0) = false := by simpa using (show ¬ (k : Int) + 1 = 0 by omega)
    have e6 : ¬ ((k : Int) + 1 = 0) := by omega
    have hpw : 2 ^ (k + 1) = 2 ^ k + 2 ^ k := by rw [Nat.pow_succ]; omega
    have HFO := Lib.hid hF
    have HR := Lib.hid hr
    have HRow := Lib.hid hRow
    obtain ⟨q1, q2, q3⟩ := vt_ref (al := alA A) k L (2 * v) (i + 1) rest hr
    obtain ⟨C, hC⟩ : ∃ C, vtN (alA A) k L (2 * v) (i + 1) rest = C := ⟨_, rfl⟩
    rw [hC] at q1 q2 q3
    obtain ⟨r1, r2, r3⟩ := vt_ref (al := alA A) k C.1 (2 * v + 1) (i + 1) rest (hr.mono q2)
    obtain ⟨B, hB⟩ : ∃ B, vtN (alA A) k C.1 (2 * v + 1) (i + 1) rest = B := ⟨_, rfl⟩
    rw [hB] at r1 r2 r3
    have HN := Lib.hid (vt_new hC hB)
    obtain ⟨C1, C2⟩ := C
    obtain ⟨B1, B2⟩ := B
    simp only at q1 q2 q3 r1 r2 r3
    have K1 := Lib.hid (ih (2 * v) (i + 1) rest L w hF hRow (by omega) hv1 (by omega) (by omega) (by omega) hr (by omega) hlo)
    have K2 := Lib.hid (fun (w1 : World) (hf : FrF lo p p w w1) (h : ∃ na nc, BldA w1 lo p na nc C1) => ih (2 * v + 1) (i + 1) rest C1 w1 h (by
      obtain ⟨na, nc, h9⟩ := HFO.out
      exact HRow.out.frf hf (by decide) (blk_off HRow.out h9.blk (by decide))) (by omega) hv2 (by omega) (by omega) (by omega) (HR.out.mono q2) (by omega) (by have := hf.size; omega))
    have HA := Lib.hid hC
    have HB := Lib.hid hB
    have hq1 : I64 C2 := by have h1 := q1.1; have h2 := q1.2; unfold I64; omega
    have hq2 : I64 B2 := by have h1 := r1.1; have h2 := r1.2; unfold I64; omega
    clear hC hB hF hr ih h1 hv1 hv2 hpk hRow
    go_enter Tryz.func150, Tryz.ntmps150
    go_wp2_with fail
    refine Calls.mono K1.out ?_
    rintro e w1 ⟨rfl, hF1, hf1⟩
    rw [HA.out] at hF1 ⊢
    have HF1 := Lib.hid hF1
    have Hf1 := Lib.hid hf1
    clear hF1 hf1
    go_wp2_with fail
    refine Calls.mono (K2.out w1 Hf1.out HF1.out) ?_
    rintro e w2 ⟨rfl, hF2, hf2⟩
    rw [HB.out] at hF2 ⊢
    obtain ⟨na, nc, hF2⟩ := hF2
    have HF2 := Lib.hid hF2
    have Hf2 := Lib.hid (Hf1.out.trans hf2)
    have hs2 := Hf2.out.size
    clear hF2 hf2
    go_wp2_with fail
    refine Calls.mono (spec_l22Node HF2.out (by omega) (by unfold I64; omega) hq1 hq2 (by omega)) ?_
    rintro e w3 ⟨rfl, hF3, hf3⟩
    have HF3 := Lib.hid hF3
    have Hf3 := Lib.hid (Hf2.out.trans hf3)
    clear hF3 hf3
    go_wp2
    go_ret
    refine ⟨ret_int (by rw [HN.out]), ?_, Hf3.out⟩
    rw [HN.out]
    exact HF3.out
end Go.Proofs.YtkaikbaagajckaaGreat
namespace Go.Proofs.YtkaikbaagajckaaGreat
open Go.RowKit
set_option linter.unusedVariables false
set_option linter.unusedSimpArgs false
attribute [local go_sem ↓] Go.wp_at_zero Go.wp_at_succ
theorem tb_at {sz : List Int} {g : List I2b} {n q : Nat} {Tb : List (LnB × List Bool)} {x : LnB × List Bool} (h : Tb.map (·.2) = tbB sz g n) (hq : q < n) (hx : Tb[q]? = some x) : x.2 = lnB sz g q := by
  have h1 : (Tb.map (·.2))[q]? = some x.2 := by rw [List.getElem?_map, hx]; rfl
  rw [h, tbB, range_get hq] at h1
  exact (Option.some.inj h1).symm
set_option maxRecDepth 100000 in
set_option maxHeartbeats 8000000 in
theorem spec_l23Product {lo p base c : Nat} {a sa ta ra : Option Addr} {sc tn tc rn rc : Nat} {sz : List Int} {g : List I2b} {Tb : List (LnB × List Bool)} {wS : World} (hI : Ints wS sa sz.length sc sz) (hn : sz.length ≤ 16) (hs : allIn 1 32 sz = true) (hlS : wS.heap.size ≤ lo) (hT : Tb.map (·.2) = tbB sz g sz.length) :
    ∀ (k : Nat) (w : World), k ≤ sz.length → Below wS.heap.size wS w → (∃ na nc, BldA w lo p na nc []) → BRow w base a sz.length c Tb → lo ≤ w.heap.size →
    Calls Tryz.prog 78 #[.pointer (some ⟨p, 0, none⟩), .agg #[.slice sa sz.length sc, .slice ta tn tc, .slice ra rn rc], .slice a sz.length c, .int .i64 ((sz.length - k : Nat) : Int), .int .i64 (offN sz (sz.length - k) : Int)] w fun e w' => e = .returned (.int .i64 (tdN sz g k).2) ∧ (∃ na nc, BldA w' lo p na nc (tdN sz g k).1) ∧ FrF lo p p w w' := by
  intro k
  induction k with
  | zero =>
    intro w hk hB hF hRow hlo
    have hb0 : Below w.heap.size w (w.alloc (.cells #[.slice sa sz.length sc, .slice ta tn tc, .slice ra rn rc] 36)) := below_alloc1 (Below.refl _ _) _
    have HF := Lib.hid hF
    have e0 : (((sz.length - 0 : Nat) : Int) == (sz.length : Int)) = true := by simp
    clear hF hI hRow
    go_enter Tryz.func78, Tryz.ntmps78
    go_wp2
    go_ret
    refine ⟨by rw [tdN]; rfl, ?_, FrF.of_below hb0⟩
    obtain ⟨na, nc, h⟩ := HF.out
    exact ⟨na, nc, by rw [tdN]; exact h.keep hb0⟩
  | succ k ih =>
    intro w hk hB hF hRow hlo
    obtain ⟨q, hq⟩ : ∃ q, q = sz.length - 1 - k := ⟨_, rfl⟩
    have hql : q < sz.length := by omega
    have eq1 : sz.length - (k + 1) = q := by omega
    have eq2 : sz.length - k = q + 1 := by omega
    obtain ⟨z, hz⟩ : ∃ z, sz[q]? = some z := ⟨_, List.getElem?_eq_getElem hql⟩
    have hz2 := allIn_at hs hz
    have hwz := wN_in hz2.1 hz2.2
    have hst := offN_step hz
    have hoff := (off_sum hs hn).2 q (by omega)
    have hnx := td_next (g := g) hq hz
    obtain ⟨i1, i2, _, i4, _⟩ := td_inv (g := g) hs k (by omega)
    obtain ⟨ww, hww⟩ : ∃ m : Nat, (wN z).toNat = m := ⟨_, rfl⟩
    have hwi : wN z = (ww : Int) := by omega
    have hw5 : ww ≤ 5 := by omega
    rw [hww] at hnx hst
    rw [eq1]
    have ihk := fun (w' : World) => ih w' (by omega)
    rw [eq2] at ihk
    have K1 := Lib.hid (spec_l23Width (z := z) (w := w) hz2.1 hz2.2)
    have KW := Lib.hid (fun (wx : World) => (spec_l23Width (z := z) (w := wx) hz2.1 hz2.2))
    rw [hwi] at KW
    have e1 : IntKind.i64.wrap ((offN sz q : Int) + (ww : Int)) = (offN sz (q + 1) : Int) := by rw [hst]; push_cast; exact IntWalk.i64_in _ (by omega)
    have e2 : IntKind.i64.wrap ((q : Int) + 1) = ((q + 1 : Nat) : Int) := by rw [show IntKind.i64.wrap ((q : Int) + 1) = (q : Int) + 1 from IntWalk.i64_in _ (by omega)]; omega
    have e3 : ((q : Int) == (sz.length : Int)) = false := by simpa using (show ¬ (q : Int) = (sz.length : Int) by omega)
    have hq0 : (0 : Int) ≤ (q : Int) := by omega
    have hqn : (q : Int) < (sz.length : Int) := by omega
    obtain ⟨W, hW⟩ : ∃ W, W = w.alloc (.cells #[.slice sa sz.length sc, .slice ta tn tc, .slice ra rn rc] 36) := ⟨_, rfl⟩
    have hb0 : Below w.heap.size w W := by rw [hW]; exact below_alloc1 (Below.refl _ _) _
    have X := Lib.hid (show Blk W w.heap.size #[.slice sa sz.length sc, .slice ta tn tc, .slice ra rn rc] 36 by rw [hW]; exact Blk.made _ _ _)
    have HBW := Lib.hid (hB.trans (hb0.mono hB.size))
    have HF := Lib.hid (show ∃ na nc, BldA W lo p na nc [] from by obtain ⟨na, nc, h⟩ := hF; exact ⟨na, nc, h.keep hb0⟩)
    have HRow := Lib.hid (hRow.keep hb0)
    have hpw : p < w.heap.size := by obtain ⟨na, nc, h⟩ := hF; exact h.blk.lt
    have hlp : lo ≤ p := by obtain ⟨na, nc, h⟩ := hF; exact h.lop
    have hWs : W.heap.size = w.heap.size + 1 := by rw [hW]; simp
    have HI := Lib.hid hI
    have HZ := Lib.hid hz
    have HT := Lib.hid hT
    have HB0 := Lib.hid hb0
    have HIK := Lib.hid ihk
    have HNX := Lib.hid hnx
    have x0 := X.out.cell 0
    have x1 := X.out.cell 1
    have x2 := X.out.cell 2
    have xl := X.out.lt
    simp only [List.getElem?_toArray, List.getElem?_cons_succ, List.getElem?_cons_zero] at x0 x1 x2
    obtain ⟨b1, o1, z', hsa, hb1, hz', hzc, _⟩ := (hI.keep HBW.out).at hql
    rw [hz] at hz'
    cases hz'
    subst hsa
    have hqa : q + 1 + k ≤ sz.length := by omega
    have hqb : sz.length ≤ q + 1 + k := by omega
    clear hI hF hRow hT hb0 ih ihk hnx hz hq eq1 eq2 hst hwi hww K1
    go_enter Tryz.func78, Tryz.ntmps78
    go_wp2_with fail
    rw [← hW]
    clear hW
    refine wp_region_noPanic ?_
    refine wp_region_M (L := 13) (S := fun wx => Below W.heap.size W wx) (by kernel_rfl) ?_ (fun hHeld => ?_)
    · exact (Below.refl _ _).drew
    refine tkMB 0 ?_
    try simp only [Act.put, s1, s2, s3]
    refine tkMB 2 ?_
    try simp only [Act.put, s1, s2, s3]
    refine tkMB 3 ?_
    try simp only [Act.put, s1, s2, s3]
    refine tkMB 4 ?_
    try simp only [Act.put, s1, s2, s3]
    refine tkMB 5 ?_
    try simp only [Act.put, s1, s2, s3]
    refine tkMB 6 ?_
    try simp only [Act.put, s1, s2, s3]
    refine tkMB 8 ?_
    try simp only [Act.put, s1, s2, s3]
    refine tkM0 1 (v := ?_) ?_ ?_
    rotate_left
    · (intro wv hSw; (try dsimp only at hSw); obtain ⟨hcq, _⟩ := bcell hSw; have hsq := Below.size hSw; have p0 := (hcq _ _ xl).trans x0; have p1 := (hcq _ _ xl).trans x1; have p2 := (hcq _ _ xl).trans x2; have pl := Nat.lt_of_lt_of_le xl hsq; go_simp; try with_reducible rfl)
    try simp only [Act.put, s1, s2, s3]
    refine tkM0 7 (v := ?_) ?_ ?_
    rotate_left
    · (intro wv hSw; (try dsimp only at hSw); obtain ⟨hcq, _⟩ := bcell hSw; have hsq := Below.size hSw; have p0 := (hcq _ _ xl).trans x0; have pl := Nat.lt_of_lt_of_le xl hsq; go_simp; try with_reducible rfl)
    try simp only [Act.put, s1, s2, s3]
    refine tkMB 9 ?_
    try simp only [Act.put, s1, s2, s3]
    refine tkM0 10 (v := ?_) ?_ ?_
    rotate_left
    · (intro wv hSw; (try dsimp only at hSw); obtain ⟨hcq, _⟩ := bcell hSw; have hsq := Below.size hSw; have p0 := (hcq _ _ hb1).trans hzc; have pl := Nat.lt_of_lt_of_le hb1 hsq; go_simp; try with_reducible rfl)
    try simp only [Act.put, s1, s2, s3]
    refine wpAnyM_ready (rs := [11]) (by kernel_rfl) (by simp) ?_
    refine AllReadyM.cons rfl (fun K hK => ?_) AllReadyM.nil
    go_simp
    refine Calls.mono (KW.out _) ?_
    rintro e _ ⟨rfl, rfl⟩
    go_wp2_with fail
    refine hK.out _ _ hHeld (fun hHeld => ?_)
    clear hK K
    try simp only [Act.put, s1, s2, s3]
    refine tkMB 12 ?_
    try simp only [Act.put, s1, s2, s3]
    refine wpAnyM_ready (rs := [13]) (by kernel_rfl) (by simp) ?_
    refine AllReadyM.last rfl (fun K hK => ?_)
    go_simp
    refine Calls.mono (HIK.out _ (HBW.out.trans (Below.mono hHeld (by have := HBW.out.size; omega))) (by obtain ⟨na, nc, h⟩ := HF.out; exact ⟨na, nc, h.keep hHeld⟩) (HRow.out.keep hHeld) (by have := Below.size hHeld; omega)) ?_
    rintro e w2 ⟨rfl, hF2, hf2⟩
    have HFF := Lib.hid ((FrF.of_below (lo := lo) (p := p) (mb := p) HB0.out).trans ((FrF.of_below hHeld).trans hf2))
    have X2 := Lib.hid ((X.out.keep hHeld).frf hf2 (by omega) (by decide) (by omega))
    have HB2 := Lib.hid (show Below wS.heap.size wS w2 from HBW.out.trans ((Below.mono hHeld (by have := HBW.out.size; omega)).trans ((hf2.below (Below.refl _ _) (by have := Below.size hHeld; omega) (Nat.le_refl _) hlp hlp).mono hlS)))
    have HR2 := Lib.hid (show BRow w2 base a sz.length c Tb from by
      obtain ⟨na, nc, h⟩ := HF.out
      exact (HRow.out.keep hHeld).frf (h.keep hHeld).blk hf2)
    have HF2 := Lib.hid hF2
    have hs2 := hf2.size
    have hs1 := Below.size hHeld
    clear hF2 hf2 x0 x1 x2 xl X HF HRow HBW hzc hb1
    go_wp2_with fail
    refine hK.out _ _ ?_
    clear hK K
    try simp only [Act.put, s1, s2, s3]
    refine wpAnyM_ready (rs := [14]) (by kernel_rfl) (by simp) ?_
    refine AllReadyM.then (by kernel_rfl) rfl (fun K hK => ?_)
    go_simp
    refine hK.out _ _ ?_
    clear hK K
    try simp only [Act.put, s1, s2, s3]
    refine wpAnyM_done (by kernel_rfl) ?_ _
    refine NoPanic.normal ?_
    clear hHeld
    obtain ⟨gr, R, A, rfl, hgr, hTq, hA, rcell⟩ := HR2.out.get hql
    have hAq := tb_at HT.out hql hTq
    simp only at hAq
    subst hAq
    have x0 := X2.out.cell 0
    have x1 := X2.out.cell 1
    have x2 := X2.out.cell 2
    have xl := X2.out.lt
    simp only [List.getElem?_toArray, List.getElem?_cons_succ, List.getElem?_cons_zero] at x0 x1 x2
    obtain ⟨b2, o2, z', hsa, hb1, hz', hzc, _⟩ := (HI.out.keep HB2.out).at hql
    cases hsa
    have hzz : z' = z := by have h := HZ.out; rw [hz'] at h; exact Option.some.inj h
    subst hzz
    clear hz'
    have hpw32 : 2 ^ ww ≤ 32 := Nat.le_trans (Nat.pow_le_pow_right (by decide) (show ww ≤ 5 by omega)) (by decide)
    have hpw' : ((0 : Int) + 1) * 2 ^ ww ≤ 32 := by
      have h : ((2 ^ ww : Nat) : Int) ≤ ((32 : Nat) : Int) := by exact_mod_cast hpw32
      rw [Int.natCast_pow] at h
      have e : ((2 : Nat) : Int) = 2 := rfl
      rw [e] at h
      omega
    have HVC := Lib.hid (show vtN (alA (lnB sz g q)) ww (tdN sz g k).1 0 (offN sz q : Int) (tdN sz g k).2 = tdN sz g (k + 1) from by rw [vt_congr (fun v hv => alA_line sz g q v hv) _ _ _ _ _ (Int.le_refl _), HNX.out])
    have hRn : R.n ≤ 1048576 := by
      have h := hA.len
      rw [lnB_len, getD_of HZ.out] at h
      omega
    have HA := Lib.hid hA
    clear hA hTq
    go_wp2_with fail
    refine wp_region_noPanic ?_
    refine wp_region_M (L := 13) (S := fun wx => Below w2.heap.size w2 wx) (by kernel_rfl) ?_ (fun hHeld => ?_)
    · exact (Below.refl _ _).drew
    refine tkMB 0 ?_
    try simp only [Act.put, s1, s2, s3]
    refine tkMB 1 ?_
    try simp only [Act.put, s1, s2, s3]
    refine tkMB 2 ?_
    try simp only [Act.put, s1, s2, s3]
    refine tkMB 3 ?_
    try simp only [Act.put, s1, s2, s3]
    refine tkMB 5 ?_
    try simp only [Act.put, s1, s2, s3]
    refine tkMB 6 ?_
    try simp only [Act.put, s1, s2, s3]
    refine tkMB 8 ?_
    try simp only [Act.put, s1, s2, s3]
    refine tkMB 12 ?_
    try simp only [Act.put, s1, s2, s3]
    refine tkM0 4 (v := ?_) ?_ ?_
    rotate_left
    · (intro wv hSw; (try dsimp only at hSw); obtain ⟨hcq, _⟩ := bcell hSw; have hsq := Below.size hSw; have p0 := (hcq _ _ hgr).trans rcell; have pl := Nat.lt_of_lt_of_le hgr hsq; go_simp; try with_reducible rfl)
    try simp only [Act.put, s1, s2, s3]
    refine tkM0 7 (v := ?_) ?_ ?_
    rotate_left
    · (intro wv hSw; (try dsimp only at hSw); obtain ⟨hcq, _⟩ := bcell hSw; have hsq := Below.size hSw; have p0 := (hcq _ _ xl).trans x0; have pl := Nat.lt_of_lt_of_le xl hsq; go_simp; try with_reducible rfl)
    try simp only [Act.put, s1, s2, s3]
    refine tkMB 9 ?_
    try simp only [Act.put, s1, s2, s3]
    refine tkM0 10 (v := ?_) ?_ ?_
    rotate_left
    · (intro wv hSw; (try dsimp only at hSw); obtain ⟨hcq, _⟩ := bcell hSw; have hsq := Below.size hSw; have p0 := (hcq _ _ hb1).trans hzc; have pl := Nat.lt_of_lt_of_le hb1 hsq; go_simp; try with_reducible rfl)
    try simp only [Act.put, s1, s2, s3]
    refine wpAnyM_ready (rs := [11]) (by kernel_rfl) (by simp) ?_
    refine AllReadyM.cons rfl (fun K hK => ?_) AllReadyM.nil
    go_simp
    refine Calls.mono (KW.out _) ?_
    rintro e _ ⟨rfl, rfl⟩
    go_wp2_with fail
    refine hK.out _ _ hHeld (fun hHeld => ?_)
    clear hK K
    try simp only [Act.put, s1, s2, s3]
    refine wpAnyM_ready (rs := [13]) (by kernel_rfl) (by simp) ?_
    refine AllReadyM.last rfl (fun K hK => ?_)
    go_simp
    refine Calls.mono (spec_l23Value (base := base) hRn ww 0 (offN sz q : Int) (tdN sz g k).2 (tdN sz g k).1 _ (by obtain ⟨na, nc, h⟩ := HF2.out; exact ⟨na, nc, h.keep hHeld⟩) (HA.out.keep hHeld) (Int.le_refl _) hpw' (by omega) (by omega) (by omega) i2 (by omega) (by have := Below.size hHeld; omega)) ?_
    rintro e w3 ⟨rfl, hF3, hf3⟩
    rw [HVC.out] at hF3 ⊢
    have HF3 := Lib.hid hF3
    have Hf3 := Lib.hid (HFF.out.trans ((FrF.of_below hHeld).trans hf3))
    clear hF3 hf3 x0 x1 x2 xl rcell hgr hzc hb1
    go_wp2_with fail
    refine hK.out _ _ ?_
    clear hK K
    try simp only [Act.put, s1, s2, s3]
    refine wpAnyM_ready (rs := [14]) (by kernel_rfl) (by simp) ?_
    refine AllReadyM.then (by kernel_rfl) rfl (fun K hK => ?_)
    go_simp
    refine hK.out _ _ ?_
    clear hK K
    try simp only [Act.put, s1, s2, s3]
    refine wpAnyM_done (by kernel_rfl) ?_ _
    refine NoPanic.normal ?_
    go_wp2
    go_ret
    exact ⟨rfl, HF3.out, Hf3.out⟩
end Go.Proofs.YtkaikbaagajckaaGreat
namespace Go.Proofs.YtkaikbaagajckaaGreat
open Go.RowKit
set_option linter.unusedVariables false
set_option linter.unusedSimpArgs false
attribute [local go_sem ↓] Go.wp_at_zero Go.wp_at_succ
set_option maxRecDepth 100000 in
set_option maxHeartbeats 8000000 in
theorem spec_TestDiagram {sa ta ra ga : Option Addr} {sn sc tn tc rn rc gn gc : Nat} {sz st : List Int} {l : List (RM × RuD)} {g : List I2b} {w : World} (hI : Ints w sa sn sc sz) (hn : sn ≤ 1048576) (hT : Ints w ta tn tc st) (ht : tn ≤ 1048576) (hR : FR w w ra rn rc l) (hr : rn ≤ 1048576) (hG : F2b w ga gn gc g) (hg : gn ≤ 1048576) :
    Calls Tryz.prog 30 #[.agg #[.slice sa sn sc, .slice ta tn tc, .slice ra rn rc], .slice ga gn gc] w (DgR w (tdC sz st l g)) := by
  have hb0 : Below w.heap.size w ((w.alloc (.cells #[.slice sa sn sc, .slice ta tn tc, .slice ra rn rc] 36)).alloc (.cells #[.int .i64 0, .slice none 0 0, .int .i64 0] 40)) := bel
  have X := Lib.hid ((Blk.made w #[.slice sa sn sc, .slice ta tn tc, .slice ra rn rc] 36).keep (below_alloc1 (Below.refl _ _) (.cells #[.int .i64 0, .slice none 0 0, .int .i64 0] 40)))
  have R := Lib.hid (Blk.made1 w (.cells #[.slice sa sn sc, .slice ta tn tc, .slice ra rn rc] 36) #[.int .i64 0, .slice none 0 0, .int .i64 0] 40)
  have KM := fun (wx : World) (hb : Below w.heap.size w wx) => spec_IsModel (hI.keep hb) hn (hT.keep hb) ht (hR.self hb) hr
  cases hm : modelB sz st l
  · simp only [hm] at KM
    have K1 := Lib.hid KM
    have HC := Lib.hid (tdC_1 (g := g) hm)
    clear KM hm hI hT hR hG
    go_enter Tryz.func30, Tryz.ntmps30
    go_wp2_with fail
    refine Calls.mono (K1.out _ hb0) ?_
    rintro e w1 ⟨rfl, hb⟩
    have X1 := Lib.hid (X.out.keep hb)
    have R1 := Lib.hid (R.out.keep hb)
    have HB1 := Lib.hid (below_callS hb0 hb)
    clear hb X R
    clear hb0
    have r0 := R1.out.cell 0
    have r1 := R1.out.cell 1
    have r2 := R1.out.cell 2
    have rl := R1.out.lt
    have rf := R1.out.free
    simp only [List.getElem?_toArray, List.getElem?_cons_zero, List.getElem?_cons_succ] at r0 r1 r2
    have hbz : Below w.heap.size w w1 := HB1.out
    go_wp2
    refine bodyPost_ret (v := .tuple #[.agg #[.int .i64 0, .slice none 0 0, .int .i64 0], .int .i64 1]) (by simp [results, Tryz.results30, go_sem, *]) rfl ⟨none, 0, by rw [HC.out]; rfl, by rw [HC.out]; exact ⟨World.ownsRow_nil _ _ _ 3, (fun _ h => by cases h), rfl, fun _ => rfl⟩, bel⟩
  · simp only [hm] at KM
    have K1 := Lib.hid KM
    have hs := modelB_all hm
    have KT := fun (wx : World) (hb : Below w.heap.size w wx) => spec_l20Tests (ta := ta) (tn := tn) (tc := tc) (ra := ra) (rn := rn) (rc := rc) (hI.keep hb) hn hs (hG.keep hb) hg
    cases htt : testsB sz g
    · simp only [htt] at KT
      have K2 := Lib.hid KT
      have HC := Lib.hid (tdC_2 hm htt)
      clear KM KT hm htt hs hI hT hR hG
      go_enter Tryz.func30, Tryz.ntmps30
      go_wp2_with fail
      refine Calls.mono (K1.out _ hb0) ?_
      rintro e w1 ⟨rfl, hb⟩
      have X1 := Lib.hid (X.out.keep hb)
      have R1 := Lib.hid (R.out.keep hb)
      have HB1 := Lib.hid (below_callS hb0 hb)
      clear hb X R
      clear hb0
      have x0 := X1.out.cell 0
      have x1 := X1.out.cell 1
      have x2 := X1.out.cell 2
      have xl := X1.out.lt
      simp only [List.getElem?_toArray, List.getElem?_cons_zero, List.getElem?_cons_succ] at x0 x1 x2
      go_wp2_with fail
      refine Calls.mono (K2.out _ HB1.out) ?_
      rintro e w2 ⟨rfl, hb⟩
      have X2 := Lib.hid (X1.out.keep hb)
      have R2 := Lib.hid (R1.out.keep hb)
      have HB2 := Lib.hid (below_callS HB1.out hb)
      clear hb X1 R1
      try clear x0 x1 x2 xl
      have r0 := R2.out.cell 0
      have r1 := R2.out.cell 1
      have r2 := R2.out.cell 2
      have rl := R2.out.lt
      have rf := R2.out.free
      simp only [List.getElem?_toArray, List.getElem?_cons_zero, List.getElem?_cons_succ] at r0 r1 r2
      have hbz : Below w.heap.size w w2 := HB2.out
      go_wp2
      refine bodyPost_ret (v := .tuple #[.agg #[.int .i64 0, .slice none 0 0, .int .i64 0], .int .i64 2]) (by simp [results, Tryz.results30, go_sem, *]) rfl ⟨none, 0, by rw [HC.out]; rfl, by rw [HC.out]; exact ⟨World.ownsRow_nil _ _ _ 3, (fun _ h => by cases h), rfl, fun _ => rfl⟩, bel⟩
    · simp only [htt] at KT
      have K2 := Lib.hid KT
      have KS := fun (wx : World) (hb : Below w.heap.size w wx) => spec_l23Small (ta := ta) (tn := tn) (tc := tc) (ra := ra) (rn := rn) (rc := rc) (hI.keep hb) hn hs
      cases hq : smB sz
      · simp only [smC, hq] at KS
        have K3 := Lib.hid KS
        have HC := Lib.hid (tdC_3 hm htt hq)
        clear KM KT KS hm htt hs hq hI hT hR hG
        go_enter Tryz.func30, Tryz.ntmps30
        go_wp2_with fail
        refine Calls.mono (K1.out _ hb0) ?_
        rintro e w1 ⟨rfl, hb⟩
        have X1 := Lib.hid (X.out.keep hb)
        have R1 := Lib.hid (R.out.keep hb)
        have HB1 := Lib.hid (below_callS hb0 hb)
        clear hb X R
        clear hb0
        have x0 := X1.out.cell 0
        have x1 := X1.out.cell 1
        have x2 := X1.out.cell 2
        have xl := X1.out.lt
        simp only [List.getElem?_toArray, List.getElem?_cons_zero, List.getElem?_cons_succ] at x0 x1 x2
        go_wp2_with fail
        refine Calls.mono (K2.out _ HB1.out) ?_
        rintro e w2 ⟨rfl, hb⟩
        have X2 := Lib.hid (X1.out.keep hb)
        have R2 := Lib.hid (R1.out.keep hb)
        have HB2 := Lib.hid (below_callS HB1.out hb)
        clear hb X1 R1
        try clear x0 x1 x2 xl
        have x0 := X2.out.cell 0
        have x1 := X2.out.cell 1
        have x2 := X2.out.cell 2
        have xl := X2.out.lt
        simp only [List.getElem?_toArray, List.getElem?_cons_zero, List.getElem?_cons_succ] at x0 x1 x2
        go_wp2_with fail
        refine Calls.mono (K3.out _ HB2.out) ?_
        rintro e w3 ⟨rfl, hb⟩
        have X3 := Lib.hid (X2.out.keep hb)
        have R3 := Lib.hid (R2.out.keep hb)
        have HB3 := Lib.hid (below_callS HB2.out hb)
        clear hb X2 R2
        try clear x0 x1 x2 xl
        have r0 := R3.out.cell 0
        have r1 := R3.out.cell 1
        have r2 := R3.out.cell 2
        have rl := R3.out.lt
        have rf := R3.out.free
        simp only [List.getElem?_toArray, List.getElem?_cons_zero, List.getElem?_cons_succ] at r0 r1 r2
        have hbz : Below w.heap.size w w3 := HB3.out
        go_wp2
        refine bodyPost_ret (v := .tuple #[.agg #[.int .i64 0, .slice none 0 0, .int .i64 0], .int .i64 3]) (by simp [results, Tryz.results30, go_sem, *]) rfl ⟨none, 0, by rw [HC.out]; rfl, by rw [HC.out]; exact ⟨World.ownsRow_nil _ _ _ 3, (fun _ h => by cases h), rfl, fun _ => rfl⟩, bel⟩
      · simp only [smC, hq] at KS
        have K3 := Lib.hid KS
        have HC := Lib.hid (tdC_4 hm htt hq)
        have hlen := modelB_len hm
        obtain rfl : sz.length = sn := hI.len
        have hfew := ts_few (g := g) hs hlen
        have hsum := (off_sum hs hlen).1
        have hofl := (off_sum hs hlen).2 sz.length (Nat.le_refl _)
        have HI := Lib.hid hI
        have HS := Lib.hid hs
        have KA := Lib.hid (fun (wx : World) (hb : Below w.heap.size w wx) => spec_l23Allowed (ta := ta) (tn := tn) (tc := tc) (ra := ra) (rn := rn) (rc := rc) (hI.keep hb) hlen hs (hG.keep hb) hg)
        have KTT := fun (wx : World) (hb : Below w.heap.size w wx) => spec_l23Total (ta := ta) (tn := tn) (tc := tc) (ra := ra) (rn := rn) (rc := rc) (hI.keep hb) hn hs
        rw [hsum] at KTT
        have KTT := Lib.hid KTT
        obtain ⟨i1, i2, _, i4, _⟩ := td_inv (g := g) hs sz.length (Nat.le_refl _)
        have HFR := Lib.hid i1.redu.frst
        have HTS := Lib.hid (show tsN sz g = canN mkN (tdN sz g sz.length).1 (tdN sz g sz.length).2 from rfl)
        obtain ⟨⟨TL, TR⟩, hTS⟩ : ∃ x, tsN sz g = x := ⟨_, rfl⟩
        rw [hTS] at HC hfew HTS
        simp only at HC hfew
        clear KM KT KS hm htt hs hq hI hT hR hG hsum hTS i1
        go_enter Tryz.func30, Tryz.ntmps30
        go_wp2_with fail
        refine Calls.mono (K1.out _ hb0) ?_
        rintro e w1 ⟨rfl, hb⟩
        have X1 := Lib.hid (X.out.keep hb)
        have R1 := Lib.hid (R.out.keep hb)
        have HB1 := Lib.hid (below_callS hb0 hb)
        clear hb X R
        clear hb0
        have x0 := X1.out.cell 0
        have x1 := X1.out.cell 1
        have x2 := X1.out.cell 2
        have xl := X1.out.lt
        simp only [List.getElem?_toArray, List.getElem?_cons_zero, List.getElem?_cons_succ] at x0 x1 x2
        go_wp2_with fail
        refine Calls.mono (K2.out _ HB1.out) ?_
        rintro e w2 ⟨rfl, hb⟩
        have X2 := Lib.hid (X1.out.keep hb)
        have R2 := Lib.hid (R1.out.keep hb)
        have HB2 := Lib.hid (below_callS HB1.out hb)
        clear hb X1 R1
        try clear x0 x1 x2 xl
        have x0 := X2.out.cell 0
        have x1 := X2.out.cell 1
        have x2 := X2.out.cell 2
        have xl := X2.out.lt
        simp only [List.getElem?_toArray, List.getElem?_cons_zero, List.getElem?_cons_succ] at x0 x1 x2
        go_wp2_with fail
        refine Calls.mono (K3.out _ HB2.out) ?_
        rintro e w3 ⟨rfl, hb⟩
        have X3 := Lib.hid (X2.out.keep hb)
        have R3 := Lib.hid (R2.out.keep hb)
        have HB3 := Lib.hid (below_callS HB2.out hb)
        clear hb X2 R2
        try clear x0 x1 x2 xl
        have x0 := X3.out.cell 0
        have x1 := X3.out.cell 1
        have x2 := X3.out.cell 2
        have xl := X3.out.lt
        simp only [List.getElem?_toArray, List.getElem?_cons_zero, List.getElem?_cons_succ] at x0 x1 x2
        have hrl3 := R3.out.lt
        have hs3 := HB3.out.size
        go_wp2_with fail
        obtain ⟨W, hW⟩ : ∃ W, W = w3.alloc (.cells #[.slice none 0 0] 110) := ⟨_, rfl⟩
        have hbW : Below w3.heap.size w3 W := by rw [hW]; exact below_alloc1 (Below.refl _ _) _
        have B4 := Lib.hid (show BldA W w3.heap.size w3.heap.size none 0 [] by rw [hW]; exact ⟨Blk.made _ _ _, ⟨World.ownsRow_nil _ _ _ 3, (fun _ h => by cases h), rfl, fun _ => rfl⟩, Nat.le_refl _⟩)
        have X4 := Lib.hid (X3.out.keep hbW)
        have R4 := Lib.hid (R3.out.keep hbW)
        have HB4 := Lib.hid (below_callS HB3.out hbW)
        have hs4 := hbW.size
        rw [← hW]
        clear hW hbW x0 x1 x2 xl X3 R3
        have x0 := X4.out.cell 0
        have x1 := X4.out.cell 1
        have x2 := X4.out.cell 2
        have xl := X4.out.lt
        simp only [List.getElem?_toArray, List.getElem?_cons_zero, List.getElem?_cons_succ] at x0 x1 x2
        refine wp_region_noPanic ?_
        refine wp_region_M (L := 5) (S := fun wx => Below W.heap.size W wx) (by kernel_rfl) ?_ (fun hHeld => ?_)
        · exact (Below.refl _ _).drew
        refine tkMB 0 ?_
        try simp only [Act.put, s1, s2, s3]
        refine tkMB 3 ?_
        try simp only [Act.put, s1, s2, s3]
        refine tkM0 1 (v := ?_) ?_ ?_
        rotate_left
        · (intro wv hSw; (try dsimp only at hSw); obtain ⟨hcq, _⟩ := bcell hSw; have hsq := Below.size hSw; have p0 := (hcq _ _ xl).trans x0; have p1 := (hcq _ _ xl).trans x1; have p2 := (hcq _ _ xl).trans x2; have pl := Nat.lt_of_lt_of_le xl hsq; go_simp; try with_reducible rfl)
        try simp only [Act.put, s1, s2, s3]
        refine tkM0 2 (v := ?_) ?_ ?_
        rotate_left
        · (intro wv hSw; (try dsimp only at hSw); obtain ⟨hcq, _⟩ := bcell hSw; have hsq := Below.size hSw; have p0 := (hcq _ _ xl).trans x0; have p1 := (hcq _ _ xl).trans x1; have p2 := (hcq _ _ xl).trans x2; have pl := Nat.lt_of_lt_of_le xl hsq; go_simp; try with_reducible rfl)
        try simp only [Act.put, s1, s2, s3]
        refine wpAnyM_ready (rs := [4]) (by kernel_rfl) (by simp) ?_
        refine AllReadyM.cons rfl (fun K hK => ?_) AllReadyM.nil
        go_simp
        refine Calls.mono (KA.out _ (below_callS HB4.out hHeld)) ?_
        rintro e w5 ⟨aT, cT, Tb, rfl, hTb, hTm, hb5⟩
        have hb5' := below_callS hHeld hb5
        have TB := Lib.hid (hTb.le (show w.heap.size ≤ _ by have := Below.size hHeld; omega))
        have HTM := Lib.hid hTm
        clear hTb hTm
        go_wp2_with fail
        refine hK.out _ _ hb5' (fun hHeld => ?_)
        clear hK K
        try simp only [Act.put, s1, s2, s3]
        refine wpAnyM_ready (rs := [5]) (by kernel_rfl) (by simp) ?_
        refine AllReadyM.last rfl (fun K hK => ?_)
        go_simp
        have e0 : ((sz.length - sz.length : Nat) : Int) = 0 := by omega
        have e1 : (offN sz (sz.length - sz.length) : Int) = 0 := by rw [Nat.sub_self]; rfl
        have hkp := spec_l23Product (lo := w3.heap.size) (p := w3.heap.size) (base := w.heap.size) (a := aT) (c := cT) (ta := ta) (ra := ra) (tn := tn) (tc := tc) (rn := rn) (rc := rc) (g := g) (Tb := Tb) HI.out hlen HS.out (by omega) HTM.out sz.length w5 (Nat.le_refl _) (below_callS HB4.out hb5') ⟨_, _, B4.out.keep hb5'⟩ TB.out (by have := hb5'.size; omega)
        rw [e0, e1] at hkp
        refine Calls.mono hkp ?_
        clear hkp e0 e1
        rintro e w6 ⟨rfl, hB6, hf6⟩
        have hb56 : Below w3.heap.size W w6 := (hb5'.mono hs4).trans (hf6.below (Below.refl _ _) (by have := hb5'.size; omega) (Nat.le_refl _) (Nat.le_refl _) (Nat.le_refl _))
        have X6 := Lib.hid (X4.out.keepB hb56 (by omega))
        have R6 := Lib.hid (R4.out.keepB hb56 (by omega))
        have HB6 := Lib.hid (HB4.out.trans (hb56.mono hs3))
        obtain ⟨na, nc, hB6⟩ := hB6
        have B6 := Lib.hid hB6
        have hs6 := hb56.size
        clear hB6 hf6 hb56 hb5 hb5' x0 x1 x2 xl X4 R4 B4 TB
        go_wp2_with fail
        refine hK.out _ _ ?_
        clear hK K
        try simp only [Act.put, s1, s2, s3]
        refine wpAnyM_ready (rs := [6]) (by kernel_rfl) (by simp) ?_
        refine AllReadyM.then (by kernel_rfl) rfl (fun K hK => ?_)
        go_simp
        refine hK.out _ _ ?_
        clear hK K
        try simp only [Act.put, s1, s2, s3]
        refine wpAnyM_done (by kernel_rfl) ?_ _
        refine NoPanic.normal ?_
        clear hHeld
        have x0 := X6.out.cell 0
        have x1 := X6.out.cell 1
        have x2 := X6.out.cell 2
        have xl := X6.out.lt
        have p0 := B6.out.blk.cell 0
        have pl := B6.out.blk.lt
        simp only [List.getElem?_toArray, List.getElem?_cons_zero, List.getElem?_cons_succ] at x0 x1 x2 p0
        go_wp2_with fail
        refine wp_region_noPanic ?_
        refine wp_region_M (L := 11) (S := fun wx => Below w6.heap.size w6 wx) (by kernel_rfl) ?_ (fun hHeld => ?_)
        · exact (Below.refl _ _).drew
        refine tkM0 0 (v := ?_) ?_ ?_
        rotate_left
        · (intro wv hSw; (try dsimp only at hSw); obtain ⟨hcq, _⟩ := bcell hSw; have hsq := Below.size hSw; have q0 := (hcq _ _ xl).trans x0; have q1 := (hcq _ _ xl).trans x1; have q2 := (hcq _ _ xl).trans x2; have ql := Nat.lt_of_lt_of_le xl hsq; go_simp; try with_reducible rfl)
        try simp only [Act.put, s1, s2, s3]
        refine tkMB 2 ?_
        try simp only [Act.put, s1, s2, s3]
        refine tkMB 3 ?_
        try simp only [Act.put, s1, s2, s3]
        refine tkMB 4 ?_
        try simp only [Act.put, s1, s2, s3]
        refine tkM0 5 (v := ?_) ?_ ?_
        rotate_left
        · (intro wv hSw; (try dsimp only at hSw); obtain ⟨hcq, _⟩ := bcell hSw; have hsq := Below.size hSw; have q0 := (hcq _ _ pl).trans p0; have ql := Nat.lt_of_lt_of_le pl hsq; go_simp; try with_reducible rfl)
        try simp only [Act.put, s1, s2, s3]
        refine tkMB 6 ?_
        try simp only [Act.put, s1, s2, s3]
        refine wpAnyM_ready (rs := [1]) (by kernel_rfl) (by simp) ?_
        refine AllReadyM.cons rfl (fun K hK => ?_) AllReadyM.nil
        go_simp
        refine Calls.mono (KTT.out _ (below_callS HB6.out hHeld)) ?_
        rintro e w7 ⟨rfl, hb7⟩
        have hb7' := below_callS hHeld hb7
        go_wp2_with fail
        refine hK.out _ _ hb7' (fun hHeld => ?_)
        clear hK K
        try simp only [Act.put, s1, s2, s3]
        refine wpAnyM_ready (rs := [7]) (by kernel_rfl) (by simp) ?_
        refine AllReadyM.cons rfl (fun K hK => ?_) AllReadyM.nil
        go_simp
        refine Calls.mono (spec_l22Canonical HFR.out (by omega) (B6.out.own.flats.keep hb7') i2) ?_
        rintro e w8 ⟨da, dc, rfl, hO, hb8⟩
        rw [← HTS.out] at hO ⊢
        have hb8' := below_callS hb7' hb8
        have O8 := Lib.hid hO
        have hs8 := hb8.size
        have hs7 := hb7'.size
        clear hO
        go_wp2_with fail
        refine hK.out _ _ hb8' (fun hHeld => ?_)
        clear hK K
        try simp only [Act.put, s1, s2, s3]
        refine wpAnyM_ready (rs := [8]) (by kernel_rfl) (by simp) ?_
        refine AllReadyM.cons rfl (fun K hK => ?_) AllReadyM.nil
        go_simp
        refine Calls.mono (spec_l22Small O8.out (by omega) (by omega)) ?_
        rintro e w9 ⟨ea, ec, rfl, hO, hb9⟩
        rw [lmC_yes (show TL.length ≤ 2000 by omega)] at hO ⊢
        have hb9' := below_callS hb8' hb9
        have R9 := Lib.hid (R6.out.keep hb9')
        have HB9 := Lib.hid (below_callS HB6.out hb9')
        have O9 := Lib.hid hO
        clear hO x0 x1 x2 xl p0 pl
        go_wp2_with fail
        refine hK.out _ _ hb9' (fun hHeld => ?_)
        clear hK K
        try simp only [Act.put, s1, s2, s3]
        have r0 := R9.out.cell 0
        have r1 := R9.out.cell 1
        have r2 := R9.out.cell 2
        have rl := R9.out.lt
        have rf := R9.out.free
        simp only [List.getElem?_toArray, List.getElem?_cons_zero, List.getElem?_cons_succ] at r0 r1 r2
        refine tkMB 9 ?_
        try simp only [Act.put, s1, s2, s3]
        refine tkMB 10 ?_
        try simp only [Act.put, s1, s2, s3]
        refine wpAnyM_ready (rs := [11]) (by kernel_rfl) (by simp) ?_
        refine AllReadyM.last rfl (fun K hK => ?_)
        go_simp
        refine hK.out _ _ ?_
        clear hK K
        try simp only [Act.put, s1, s2, s3]
        refine wpAnyM_ready (rs := [12]) (by kernel_rfl) (by simp) ?_
        refine AllReadyM.then (by kernel_rfl) rfl (fun K hK => ?_)
        go_simp
        refine hK.out _ _ ?_
        clear hK K
        try simp only [Act.put, s1, s2, s3]
        refine wpAnyM_done (by kernel_rfl) ?_ _
        refine NoPanic.normal ?_
        clear hHeld
        have hne : ∀ y, ea = some ⟨y, 0, none⟩ → (some (w.heap.size + 1) : Option Nat) ≠ some y := fun y e e' => by
          have := (O9.out.blk y e).1
          simp at e'
          omega
        have hbz : Below w.heap.size w w9 := HB9.out
        clear hb7 hb7' hb8 hb8' hb9 hb9'
        go_wp2
        refine bodyPost_ret (v := .tuple #[.agg #[.int .i64 (offN sz sz.length : Int), .slice ea TL.length ec, .int .i64 TR], .int .i64 0]) (by simp [results, Tryz.results30, go_sem, *]) rfl ⟨ea, ec, by rw [HC.out], ?_, ?_⟩
        · rw [HC.out]
          exact (((O9.out.keepG (set_grown _ _ _) hne).keepG (set_grown _ _ _) hne).keepG (set_grown _ _ _) hne).le (by omega)
        · exact bel
end Go.Proofs.YtkaikbaagajckaaGreat
namespace Go.Proofs.YtkaikbaagajckaaGreat
open Go.RowKit
set_option linter.unusedVariables false
set_option linter.unusedSimpArgs false
theorem tdC_rs {sz st : List Int} {l : List (RM × RuD)} {rs : List RuD} {g : List I2b} (h : l.map (·.2) = rs) : tdC sz st l g = tdC sz st (rsM rs) g := by rw [tdC, tdC, modelB_rs h]
theorem mkN_rf {L : List I3} {i lo hi : Int} (hl : RefB lo L.length) : RefB (mkN L i lo hi).2 (mkN L i lo hi).1.length := by
  unfold mkN
  split
  · exact hl
  · split
    · rename_i k hk
      have := (List.getElem?_eq_some_iff.1 (posN_some hk).1).1
      exact ⟨by simp only; omega, by simp only; omega⟩
    · exact ⟨by simp only; omega, by simp only [List.length_append, List.length_cons, List.length_nil]; omega⟩
/-- the number of a pair -/
def pcN (A B : List I3) (a b : Int) : Nat := a.toNat * (B.length + 2) + b.toNat
theorem pc_inj {A B : List I3} {a b c d : Int} (ha : RefB a A.length) (hb : RefB b B.length) (hc : RefB c A.length) (hd : RefB d B.length) (h : pcN A B a b = pcN A B c d) : a = c ∧ b = d := by
  have hb1 := hb.1
  have hb2 := hb.2
  have hd1 := hd.1
  have hd2 := hd.2
  have ha1 := ha.1
  have hc1 := hc.1
  have hbn : b.toNat < B.length + 2 := by omega
  have hdn : d.toNat < B.length + 2 := by omega
  unfold pcN at h
  have e1 : (a.toNat * (B.length + 2) + b.toNat) / (B.length + 2) = a.toNat := by rw [Nat.mul_comm, Nat.mul_add_div (by omega), Nat.div_eq_of_lt hbn]; omega
  have e2 : (c.toNat * (B.length + 2) + d.toNat) / (B.length + 2) = c.toNat := by rw [Nat.mul_comm, Nat.mul_add_div (by omega), Nat.div_eq_of_lt hdn]; omega
  rw [h, e2] at e1
  rw [e1] at h
  omega
theorem pc_lt {A B : List I3} {a b : Int} (ha : RefB a A.length) (hb : RefB b B.length) : pcN A B a b < (A.length + 2) * (B.length + 2) := by
  have hb1 := hb.1
  have hb2 := hb.2
  have ha1 := ha.1
  have ha2 := ha.2
  have h1 : (a.toNat + 1) * (B.length + 2) ≤ (A.length + 2) * (B.length + 2) := Nat.mul_le_mul_right _ (by omega)
  rw [Nat.add_mul] at h1
  unfold pcN
  omega
/-- the pairs that are known, counted -/
structure JnK (A B : List I3) (L : List I3) (M : Mem) (S : List Nat) : Prop where
  nodup : S.Nodup
  lt : ∀ s ∈ S, s < (A.length + 2) * (B.length + 2)
  cov : ∀ a b, RefB a A.length → RefB b B.length → M a b = none → pcN A B a b ∉ S
  few : L.length ≤ S.length
theorem JnK.start (A B : List I3) : JnK A B [] (fun _ _ => none) [] := ⟨List.nodup_nil, (fun s h => by cases h), (fun a b _ _ _ h => by cases h), Nat.le_refl _⟩
theorem JnK.len {A B : List I3} {L : List I3} {M : Mem} {S : List Nat} (h : JnK A B L M S) : S.length ≤ (A.length + 2) * (B.length + 2) := nodup_lt _ _ h.nodup h.lt
theorem JnK.most {A B : List I3} {L : List I3} {M : Mem} {S : List Nat} (h : JnK A B L M S) (hA : A.length ≤ 2000) (hB : B.length ≤ 2000) : S.length ≤ 4008004 ∧ L.length ≤ 4008004 := by
  have h1 := h.len
  have h2 : (A.length + 2) * (B.length + 2) ≤ 2002 * 2002 := Nat.mul_le_mul (by omega) (by omega)
  have h3 := h.few
  omega
theorem JnK.add {A B : List I3} {L : List I3} {M : Mem} {S : List Nat} (h : JnK A B L M S) {a b : Int} (ha : RefB a A.length) (hb : RefB b B.length) (hm : M a b = none) {i lo hi v : Int} : JnK A B (mkN L i lo hi).1 (fun x y => if x = a ∧ y = b then some v else M x y) (pcN A B a b :: S) := by
  obtain ⟨t, ht, ht1⟩ := mkN_pre L i lo hi
  refine ⟨List.nodup_cons.2 ⟨h.cov a b ha hb hm, h.nodup⟩, fun s hs => ?_, fun x y hx hy hn hin => ?_, ?_⟩
  · rcases List.mem_cons.1 hs with rfl | hs
    · exact pc_lt ha hb
    · exact h.lt s hs
  · split at hn
    · cases hn
    · rename_i hne
      rcases List.mem_cons.1 hin with e | hin
      · obtain ⟨e1, e2⟩ := pc_inj hx hy ha hb e
        exact hne ⟨e1, e2⟩
      · exact h.cov x y hx hy hn hin
  · rw [ht, List.length_append, List.length_cons]
    have := h.few
    omega
/-- what goes down goes down -/
theorem ch_down {n : Int} {A B : List I3} (hA : Frst A) (hB : Frst B) (oA : OrdN n A) (oB : OrdN n B) {a b : Int} (ha : RefB a A.length) (hb : RefB b B.length) (h : ¬ (a < 2 ∧ b < 2)) {i : Int} (hi : min (lvlN n A a) (lvlN n B b) = i) :
    RefB (chN n A a i).1 A.length ∧ RefB (chN n A a i).2 A.length ∧ RefB (chN n B b i).1 B.length ∧ RefB (chN n B b i).2 B.length ∧ (chN n A a i).1.toNat + (chN n B b i).1.toNat < a.toNat + b.toNat ∧ (chN n A a i).2.toNat + (chN n B b i).2.toNat < a.toNat + b.toNat ∧ i < n ∧ (0 ≤ n → 0 ≤ i) := by
  subst hi
  have hi := ch_less (n := n) (i := min (lvlN n A a) (lvlN n B b)) hA ha
  have hk := ch_less (n := n) (i := min (lvlN n A a) (lvlN n B b)) hB hb
  have ea := lvl_le oA ha
  have eb := lvl_le oB hb
  have hpos : ∀ {L : List I3} {r : Int}, OrdN n L → RefB r L.length → 0 ≤ n → 0 ≤ lvlN n L r := fun {L r} ho hr hn => by
    by_cases h2 : r < 2
    · rw [lvl_low h2]; exact hn
    · obtain ⟨k, rfl⟩ : ∃ k : Nat, r = (k : Int) + 2 := ⟨(r - 2).toNat, by omega⟩
      have hk : k < L.length := by have := hr.2; omega
      have hx := List.getElem?_eq_getElem hk
      rw [lvl_node hx]
      exact (ho _ _ hx).1
  have hlt : min (lvlN n A a) (lvlN n B b) < n := by
    by_cases h2 : a < 2
    · have hb2 : ¬ b < 2 := fun hb2 => h ⟨h2, hb2⟩
      obtain ⟨q, rfl⟩ : ∃ q : Nat, b = (q : Int) + 2 := ⟨(b - 2).toNat, by omega⟩
      have hq : q < B.length := by have := hb.2; omega
      have hx := List.getElem?_eq_getElem hq
      have := (oB _ _ hx).2.1
      rw [lvl_node hx]
      omega
    · obtain ⟨q, rfl⟩ : ∃ q : Nat, a = (q : Int) + 2 := ⟨(a - 2).toNat, by omega⟩
      have hq : q < A.length := by have := ha.2; omega
      have hx := List.getElem?_eq_getElem hq
      have := (oA _ _ hx).2.1
      rw [lvl_node hx]
      omega
  have h0 : 0 ≤ n → 0 ≤ min (lvlN n A a) (lvlN n B b) := fun hn => by
    have := hpos oA ha hn
    have := hpos oB hb hn
    omega
  have hd : (chN n A a (min (lvlN n A a) (lvlN n B b))).1.toNat + (chN n B b (min (lvlN n A a) (lvlN n B b))).1.toNat < a.toNat + b.toNat ∧ (chN n A a (min (lvlN n A a) (lvlN n B b))).2.toNat + (chN n B b (min (lvlN n A a) (lvlN n B b))).2.toNat < a.toNat + b.toNat := by
    rcases Int.le_total (lvlN n A a) (lvlN n B b) with e | e
    · rw [Int.min_eq_left e] at hi hk hlt ⊢
      by_cases h2 : a < 2
      · rw [lvl_low h2] at hlt; omega
      · have := hi.2.2.1 (by omega) rfl
        omega
    · rw [Int.min_eq_right e] at hi hk hlt ⊢
      by_cases h2 : b < 2
      · rw [lvl_low h2] at hlt; omega
      · have := hk.2.2.1 (by omega) rfl
        omega
  exact ⟨hi.2.2.2.1, hi.2.2.2.2, hk.2.2.2.1, hk.2.2.2.2, hd.1, hd.2, hlt, h0⟩
theorem jn_cnt {j n : Int} {A B : List I3} (hA : Frst A) (hB : Frst B) (oA : OrdN n A) (oB : OrdN n B) : ∀ (f : Nat) (L : List I3) (M : Mem) (S : List Nat) (a b : Int), RefB a A.length → RefB b B.length → a.toNat + b.toNat ≤ f → JnK A B L M S →
    (∃ S', JnK A B (jnF j n A B f (L, M) a b).1 (jnF j n A B f (L, M) a b).2.1 S') ∧ ∀ x y, a.toNat + b.toNat < x.toNat + y.toNat → (jnF j n A B f (L, M) a b).2.1 x y = M x y := by
  intro f
  induction f with
  | zero =>
    intro L M S a b ha hb hf h
    rw [jn_low _ _ (by omega)]
    exact ⟨⟨S, h⟩, fun _ _ _ => rfl⟩
  | succ f ih =>
    intro L M S a b ha hb hf h
    by_cases h0 : a < 2 ∧ b < 2
    · rw [jn_low _ _ h0]; exact ⟨⟨S, h⟩, fun _ _ _ => rfl⟩
    · cases hm : M a b with
      | some r => rw [jn_old _ _ h0 hm]; exact ⟨⟨S, h⟩, fun _ _ _ => rfl⟩
      | none =>
        obtain ⟨i, hi⟩ : ∃ i, min (lvlN n A a) (lvlN n B b) = i := ⟨_, rfl⟩
        obtain ⟨c1, c2, c3, c4, d1, d2, _, _⟩ := ch_down hA hB oA oB ha hb h0 hi
        obtain ⟨⟨S1, u1⟩, u2⟩ := ih L M S _ _ c1 c3 (by omega) h
        obtain ⟨u, hu⟩ : ∃ u, jnF j n A B f (L, M) (chN n A a i).1 (chN n B b i).1 = u := ⟨_, rfl⟩
        rw [hu] at u1 u2
        obtain ⟨⟨S2, v1⟩, v2⟩ := ih u.1 u.2.1 S1 _ _ c2 c4 (by omega) u1
        obtain ⟨v, hv⟩ : ∃ v, jnF j n A B f (u.1, u.2.1) (chN n A a i).2 (chN n B b i).2 = v := ⟨_, rfl⟩
        rw [hv] at v1 v2
        rw [jn_new f (L, M) h0 hm hi hu hv]
        have hn : v.2.1 a b = none := by rw [v2 a b (by omega), u2 a b (by omega), hm]
        refine ⟨⟨_, v1.add ha hb hn⟩, fun x y hxy => ?_⟩
        simp only
        rw [if_neg (fun e => by rw [e.1, e.2] at hxy; omega), v2 x y (by omega), u2 x y (by omega)]
theorem cellR_drew {w : World} {a : Addr} {u : Value} (h : w.cell? a = some u) : w.drew.cell? a = some u := h
theorem ltR_drew {w : World} {g : Nat} (h : g < w.heap.size) : g < w.drew.heap.size := h
set_option maxHeartbeats 1000000 in
theorem spec_l22Level {a : Option Addr} {n c : Nat} {L : List I3} {inp root r : Int} {w : World} (hI : F3 w a n c L) (hn : n ≤ 1048576) (hr : RefB r L.length) :
    Calls Tryz.prog 195 #[.agg #[.int .i64 inp, .slice a n c, .int .i64 root], .int .i64 r] w fun e w' => e = .returned (.int .i64 (lvlN inp L r)) ∧ Below w.heap.size w w' := by
  by_cases h2 : r < 2
  · have HL := Lib.hid (lvl_low (n := inp) (L := L) h2)
    go_enter Tryz.func195, Tryz.ntmps195
    go_wp2
    go_ret
    exact ⟨by rw [HL.out]; rfl, bel⟩
  · obtain ⟨k, rfl⟩ : ∃ k : Nat, r = (k : Int) + 2 := ⟨(r - 2).toNat, by omega⟩
    have hkn : k < n := by rw [← hI.len]; have := hr.2; omega
    obtain ⟨b, off, x, rfl, hb, hx, hwf, hc0, hc1, hc2⟩ := F3.get hI hkn
    have HL := Lib.hid (lvl_node (n := inp) hx)
    have hk0 : (0 : Int) ≤ (k : Int) := by omega
    have hkn' : (k : Int) < (n : Int) := by omega
    have i1 : IntKind.i64.wrap ((k : Int) + 2 - 2) = (k : Int) := by rw [IntWalk.i64_in _ (by omega)]; omega
    have HI := Lib.hid hI
    clear hI hx
    go_enter Tryz.func195, Tryz.ntmps195
    go_wp2
    go_ret
    exact ⟨by rw [HL.out]; rfl, bel⟩
set_option maxHeartbeats 1000000 in
theorem impl_inputOf {a : Option Addr} {n c : Nat} {L : List I3} {inp root r : Int} {w : World} (hI : F3 w a n c L) (hn : n ≤ 4190000) (hr : RefB r L.length) :
    Calls Tryz.prog 139 #[.agg #[.int .i64 inp, .slice a n c, .int .i64 root], .int .i64 r] w fun e w' => e = .returned (.int .i64 (lvlN inp L r)) ∧ Below w.heap.size w w' := by
  by_cases h2 : r < 2
  · have HL := Lib.hid (lvl_low (n := inp) (L := L) h2)
    go_enter Tryz.func139, Tryz.ntmps139
    go_wp2
    go_ret
    exact ⟨by rw [HL.out]; rfl, bel⟩
  · obtain ⟨k, rfl⟩ : ∃ k : Nat, r = (k : Int) + 2 := ⟨(r - 2).toNat, by omega⟩
    have hkn : k < n := by rw [← hI.len]; have := hr.2; omega
    obtain ⟨b, off, x, rfl, hb, hx, hwf, hc0, hc1, hc2⟩ := F3.get hI hkn
    have HL := Lib.hid (lvl_node (n := inp) hx)
    have hk0 : (0 : Int) ≤ (k : Int) := by omega
    have hkn' : (k : Int) < (n : Int) := by omega
    have i1 : IntKind.i64.wrap ((k : Int) + 2 - 2) = (k : Int) := by rw [IntWalk.i64_in _ (by omega)]; omega
    have HI := Lib.hid hI
    clear hI hx
    go_enter Tryz.func139, Tryz.ntmps139
    go_wp2
    go_ret
    exact ⟨by rw [HL.out]; rfl, bel⟩
theorem neqNode (x y : I3) (wx : World) : (binOp .neq 117 (.agg #[.int .i64 x.a, .int .i64 x.b, .int .i64 x.c]) (.agg #[.int .i64 y.a, .int .i64 y.b, .int .i64 y.c])).run Tryz.prog wx = .ok (.bool (decide (x ≠ y))) wx := by
  rw [run_neq_struct, eqNode]
  by_cases h : x = y
  · rw [h]; simp [Result.andThen]
  · have : (x.a == y.a && (x.b == y.b && x.c == y.c)) = false := by
      rw [Bool.eq_false_iff]
      intro h1
      simp only [Bool.and_eq_true, beq_iff_eq] at h1
      exact h (by rw [I3.eta x, I3.eta y, h1.1, h1.2.1, h1.2.2])
    rw [this]; simp [Result.andThen, h]
set_option maxHeartbeats 1000000 in
theorem spec_l22Same {a b : Option Addr} {n c m d : Nat} {L M : List I3} {inp ra rb : Int} {w : World} (hI : F3 w a n c L) (hJ : F3 w b m d M) (hn : n ≤ 1048576) (hm : m ≤ 1048576) :
    Calls Tryz.prog 196 #[.agg #[.int .i64 inp, .slice a n c, .int .i64 ra], .agg #[.int .i64 inp, .slice b m d, .int .i64 rb]] w fun e w' => e = .returned (.bool (decide ((M, rb) = (L, ra)))) ∧ Below w.heap.size w w' := by
  have HI := Lib.hid hI
  have HJ := Lib.hid hJ
  have q1 := hI.len
  have q2 := hJ.len
  by_cases hr : ra = rb
  · subst hr
    by_cases hl : n = m
    · obtain rfl := hl
      have X := Lib.hid ((Blk.made w #[.int .i64 inp, .slice a n c, .int .i64 ra] 40).keep (below_alloc1 (Below.refl _ _) (.cells #[.int .i64 inp, .slice b n d, .int .i64 ra] 40)))
      have Y := Lib.hid (Blk.made1 w (.cells #[.int .i64 inp, .slice a n c, .int .i64 ra] 40) #[.int .i64 inp, .slice b n d, .int .i64 ra] 40)
      have hb0 : Below w.heap.size w ((w.alloc (.cells #[.int .i64 inp, .slice a n c, .int .i64 ra] 40)).alloc (.cells #[.int .i64 inp, .slice b n d, .int .i64 ra] 40)) := bel
      clear hI hJ
      go_enter Tryz.func196, Tryz.ntmps196
      go_wp2_with fail
      go_loopw [5] (fun s5 wr => ∃ j : Nat, s5 = .int .i64 j ∧ j ≤ n ∧ Hid (Below w.heap.size w wr) ∧ Hid (Blk wr w.heap.size #[.int .i64 inp, .slice a n c, .int .i64 ra] 40) ∧ Hid (Blk wr (w.heap.size + 1) #[.int .i64 inp, .slice b n d, .int .i64 ra] 40) ∧ Hid (∀ q, q < j → L[q]? = M[q]?)) (fun s5 _ => n - (intOf s5).toNat)
      case atStart => exact ⟨0, rfl, by omega, Lib.hid hb0, X, Y, Lib.hid fun q h => by omega⟩
      case round =>
        clear X Y hb0
        obtain ⟨j, rfl, hj, HB, X, Y, A⟩ := hrel
        have x1 := X.out.cell 1
        have xl := X.out.lt
        have y1 := Y.out.cell 1
        have yl := Y.out.lt
        simp at x1 y1
        by_cases hlt : j < n
        · have hlt' : (j : Int) < (n : Int) := by omega
          have hj0 : (0 : Int) ≤ (j : Int) := by omega
          obtain ⟨b1, o1, x, rfl, hb1, hx, _, c0, c1, c2⟩ := F3.get (HI.out.keep HB.out) hlt
          obtain ⟨b2, o2, y, rfl, hb2, hy, _, d0, d1, d2⟩ := F3.get (HJ.out.keep HB.out) hlt
          have HX := Lib.hid hx
          have HY := Lib.hid hy
          clear hx hy
          have hE := neqNode x y
          by_cases he : x = y
          · subst he
            simp only [ne_eq, not_true_eq_false, decide_false] at hE
            have A2 := Lib.hid (show ∀ q, q < j + 1 → L[q]? = M[q]? from fun q hq => by
              rcases (show q < j ∨ q = j by omega) with h | rfl
              · exact A.out q h
              · rw [HX.out, HY.out])
            go_wp2_with fail
            go_quiet (fail)
            go_wp2
            go_roundw
            case rel => exact ⟨j + 1, by go_num, by omega, Lib.hid (below_drewN HB.out _), Lib.hid (X.out.keep (below_drewN (Below.refl _ _) _)), Lib.hid (Y.out.keep (below_drewN (Below.refl _ _) _)), A2⟩
            case measure => simp [intOf]; omega
          · simp only [ne_eq, he, not_false_eq_true, decide_true] at hE
            have hne := Lib.hid (show ¬ ((M, ra) = (L, ra)) from fun e => by
              simp only [Prod.mk.injEq, and_true] at e
              have h1 := HX.out
              rw [← e, HY.out] at h1
              exact he (Option.some.inj h1).symm)
            go_wp2_with fail
            go_quiet (fail)
            go_wp2
            go_ret
            exact ⟨ret_bool (decide_eq_false hne.out).symm, below_drewN HB.out _⟩
        · have hjn : j = n := by omega
          subst hjn
          have hlt' : ¬ (j : Int) < (j : Int) := by omega
          have heq := Lib.hid (show (M, ra) = (L, ra) from by
            rw [show M = L from List.ext_getElem? fun q => by
              by_cases hq : q < j
              · exact (A.out q hq).symm
              · rw [List.getElem?_eq_none (by omega), List.getElem?_eq_none (by omega)]])
          go_wp2
          go_ret
          exact ⟨ret_bool (by have h := heq.out; simp only [Prod.mk.injEq, and_true] at h; simp [h]), HB.out⟩
    · have hl1 : ¬ (n : Int) = (m : Int) := by omega
      have hne := Lib.hid (show ¬ ((M, ra) = (L, ra)) from fun e => by
        simp only [Prod.mk.injEq, and_true] at e
        rw [e] at q2; omega)
      have e1 : ((n : Int) == (m : Int)) = false := by simpa using hl1
      have e2 : (n == m) = false := by simpa using hl
      clear hI hJ q1 q2
      go_enter Tryz.func196, Tryz.ntmps196
      go_wp2
      go_ret
      exact ⟨ret_bool (decide_eq_false hne.out).symm, bel⟩
  · have e1 : (ra == rb) = false := by simpa using hr
    have hne := Lib.hid (show ¬ ((M, rb) = (L, ra)) from fun e => by
      simp only [Prod.mk.injEq] at e
      exact hr e.2.symm)
    clear hI hJ q1 q2
    go_enter Tryz.func196, Tryz.ntmps196
    go_wp2
    go_ret
    exact ⟨ret_bool (decide_eq_false hne.out).symm, bel⟩
end Go.Proofs.YtkaikbaagajckaaGreat
namespace Go.Proofs.YtkaikbaagajckaaGreat
open Go.RowKit
set_option linter.unusedVariables false
set_option linter.unusedSimpArgs false
attribute [local go_sem ↓] Go.wp_at_zero Go.wp_at_succ
instance I2.dec : DecidableEq I2 := fun x y =>
  if h : x.a = y.a ∧ x.b = y.b then .isTrue (by cases x; cases y; obtain ⟨h1, h2⟩ := h; simp only at h1 h2; subst h1 h2; rfl)
  else .isFalse (fun e => h (by subst e; exact ⟨rfl, rfl⟩))
def encK2 (x : I2) : Value := .agg #[.int .i64 x.a, .int .i64 x.b]
def litK2 (x : I2) : Lit := .string (keyBytes [.int .i64 x.a, .int .i64 x.b])
theorem key2_at {P : Program} {Kt I m : Nat} (hu : P.underlying Kt = some (.array 2 I)) (hI : P.underlying I = some (.int .i64)) (hk : P.keyType Kt = true) (hm : P.types.size = m + 1) (hc : P.cellsOf Kt = 2) (hcI : P.cellsOf I = 1) (x : I2) (h : x.ok) : keyOf P Kt (encK2 x) = some (litK2 x) := by
  have h1 := h.1.wf
  have h2 := h.2.wf
  simp [keyOf, hu, hk, encK2, Value.formed, hc, Program.keyLits, hm, Value.cells, hcI, hI, h1, h2, litK2, List.range_succ]
theorem Tryz.rowP : (182 : TypeId) < Tryz.prog.types.size := of_decide_eq_true (by kernel_rfl)
theorem Tryz.deepP : Tryz.prog.keyTypeAt 3 182 = true := by kernel_rfl
theorem keyedP : Maps.Keyed Tryz.prog 182 := Maps.Keyed.of_law (deep_law_laid Tryz.laidV (m := 3) (by omega) Tryz.rowP Tryz.deepP (by rw [Tryz.underlying182]))
theorem Tryz.cellsP : Tryz.prog.cellsOf 182 = 2 := by kernel_rfl
theorem Tryz.keyP : Tryz.prog.keyType 182 = true := by kernel_rfl
theorem keyP : KeyA 182 encK2 I2.ok litK2 := ⟨keyedP, fun x h => by
  obtain ⟨m, hm⟩ : ∃ m, Tryz.prog.types.size = m + 1 := ⟨Tryz.prog.types.size - 1, by have := Tryz.someTypes; omega⟩
  exact key2_at Tryz.underlying182 Tryz.underlying2 Tryz.keyP hm Tryz.cellsP Tryz.cellsI x h, fun x y h => by
  simp [encK2] at h
  cases x; cases y; simp only at h; rw [h.1, h.2]⟩
theorem MapA.updL {α : Type} {Kt : TypeId} {enc : α → Value} {ok : α → Prop} {lit : α → Lit} [DecidableEq α] {w : World} {b n : Nat} {f : α → Option Int} (h : MapA Kt ok lit w b n f) (hK : KeyA Kt enc ok lit) {t : TypeId} (ht : Tryz.prog.underlying t = some (.map Kt 2)) (hn : n < maxLen) {x : α} (hx : ok x) {v : Int} (hv : I64 v)
    {o : Oper} {ops : Array Oper} {rest : List Oper} {act : Act} {Q : Exit → Act → World → Prop} (hgd : o.guard = none) (m y z : Operand) (hop : o.op = Op.mapUpdate t m y z) (hm : act.eval m = .map (some b)) (hy : act.eval y = enc x) (hz : act.eval z = .int .i64 v)
    (hk : ∀ w', MapA Kt ok lit w' b (n + 1) (fun y => if y = x then some v else f y) → w.grownBy w' (some b) → wpList Tryz.prog ops Q rest (act.put o.dst undef) w') : wpList Tryz.prog ops Q (o :: rest) act w :=
  wpList_plain hgd fun K hKK => h.wp hK ht hn hx hv m y z hop hm hy hz fun w' h1 h2 => hKK _ _ (hk w' h1 h2)
set_option maxHeartbeats 1000000 in
theorem impl_joined {j x y : Int} {w : World} (hx : x = 0 ∨ x = 1) (hy : y = 0 ∨ y = 1) : Calls Tryz.prog 138 #[.int .i64 j, .int .i64 x, .int .i64 y] w fun e w' => e = .returned (.int .i64 (jopN j x y)) ∧ w = w' := by
  by_cases h0 : j = 0
  · subst h0
    rcases hx with rfl | rfl <;> rcases hy with rfl | rfl
    all_goals
      go_enter Tryz.func138, Tryz.ntmps138
      go_wp2
      go_ret
      exact ⟨rfl, rfl⟩
  · have e0 : (j == 0) = false := by simpa using h0
    by_cases h1 : j = 1
    · subst h1
      rcases hx with rfl | rfl <;> rcases hy with rfl | rfl
      all_goals
        go_enter Tryz.func138, Tryz.ntmps138
        go_wp2
        go_ret
        exact ⟨rfl, rfl⟩
    · have e1 : (j == 1) = false := by simpa using h1
      have HJ := Lib.hid (show ∀ x y : Int, jopN j x y = if xor (x == 1) (y == 1) = true then 1 else 0 from fun x y => by rw [jopN, bopN, if_neg h0, if_neg h1])
      clear h0 h1
      rcases hx with rfl | rfl <;> rcases hy with rfl | rfl
      all_goals
        go_enter Tryz.func138, Tryz.ntmps138
        go_wp2
        go_ret
        exact ⟨by rw [HJ.out]; rfl, rfl⟩
set_option maxHeartbeats 2000000 in
theorem impl_children {a : Option Addr} {n c : Nat} {L : List I3} {inp root r input : Int} {w : World} (hI : F3 w a n c L) (hn : n ≤ 4190000) (hr : RefB r L.length) (hin : r < 2 → inp ≠ input) :
    Calls Tryz.prog 140 #[.agg #[.int .i64 inp, .slice a n c, .int .i64 root], .int .i64 r, .int .i64 input] w fun e w' => e = .returned (.tuple #[.int .i64 (chN inp L r input).1, .int .i64 (chN inp L r input).2]) ∧ Below w.heap.size w w' := by
  have hb0 : Below w.heap.size w (w.alloc (.cells #[.int .i64 inp, .slice a n c, .int .i64 root] 40)) := bel
  have X := Lib.hid (Blk.made w #[.int .i64 inp, .slice a n c, .int .i64 root] 40)
  have HC := Lib.hid (impl_inputOf (inp := inp) (root := root) (hI.keep hb0) hn hr)
  by_cases hl : lvlN inp L r = input
  · have h2 : ¬ r < 2 := fun h => by
      rw [lvl_low h] at hl
      exact hin h hl
    obtain ⟨k, rfl⟩ : ∃ k : Nat, r = (k : Int) + 2 := ⟨(r - 2).toNat, by omega⟩
    have hkn : k < n := by rw [← hI.len]; have := hr.2; omega
    obtain ⟨b, off, x, rfl, hb, hx, hwf, hc0, hc1, hc2⟩ := F3.get hI hkn
    have hk0 : (0 : Int) ≤ (k : Int) := by omega
    have hkn' : (k : Int) < (n : Int) := by omega
    have i1 : IntKind.i64.wrap ((k : Int) + 2 - 2) = (k : Int) := by rw [IntWalk.i64_in _ (by omega)]; omega
    have HX := Lib.hid (ch_node (n := inp) hx (show x.a = input by rw [← hl, lvl_node hx]))
    have HL := Lib.hid hl
    have e1 : (input != input) = false := by simp
    clear hl hx hin hI
    go_enter Tryz.func140, Tryz.ntmps140
    go_wp2_with fail
    refine Calls.mono HC.out ?_
    rintro e w1 ⟨rfl, hb1⟩
    rw [HL.out]
    have x1 := (X.out.keep hb1).cell 1
    have xl := (X.out.keep hb1).lt
    simp only [List.getElem?_toArray, List.getElem?_cons_succ, List.getElem?_cons_zero] at x1
    have hb01 := below_callS hb0 hb1
    have c0 := cell_of_keep hb01 hc0
    have c1 := cell_of_keep hb01 hc1
    have c2 := cell_of_keep hb01 hc2
    have bl := Nat.lt_of_lt_of_le hb hb01.size
    go_wp2_with fail
    go_quiet (fail)
    have hbe := below_drewN (below_alloc1 hb01 (.cells #[.int .i64 x.a, .int .i64 x.b, .int .i64 x.c] 117)) nq
    go_wp2
    go_ret2
    exact ⟨by rw [HX.out]; rfl, hbe⟩
  · have HF := Lib.hid (show chN inp L r input = (r, r) from ch_skip (.inl hl))
    have e1 : (lvlN inp L r == input) = false := by simpa using hl
    have e2 : (lvlN inp L r != input) = true := by simpa using hl
    clear hI hl hin
    go_enter Tryz.func140, Tryz.ntmps140
    go_wp2_with fail
    refine Calls.mono HC.out ?_
    rintro e w1 ⟨rfl, hb1⟩
    go_wp2
    go_ret2
    exact ⟨by rw [HF.out]; rfl, below_callS hb0 hb1⟩
end Go.Proofs.YtkaikbaagajckaaGreat
