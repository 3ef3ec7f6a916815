/- A region that draws its order and in which one operation changes what the loads before it read: operations that read nothing, at any time.; Tests as diagrams: the program, walked.; The diagram of tests: the program, walked.; The diagram of tests, with its code: the program, walked. (Printed by mkwj.py.); Tables of truth values, and which values tests allow: the reference, walked. -/
import Derived.Test.YtkaikbaagajckaaGreatR12
import Derived.Test.YtkaikbaagajckaaGreatR16
import Derived.Test.YtkaikbaagajckaaGreatR14
import Derived.Test.YtkaikbaagajckaaGreatR10
import Derived.Test.YtkaikbaagajckaaGreatR13
import Derived.Deep.DrawnRows
import Derived.Test.YtkaikbaagajckaaGreatR11
namespace Go.Proofs.YtkaikbaagajckaaGreat
open Go.RowKit
set_option linter.unusedVariables false
set_option linter.unusedSimpArgs false
theorem cell_of_keep {w w' : World} {b o : Nat} {v : Value} (hb : Below w.heap.size w w') (h : w.cell? ⟨b, o, none⟩ = some v) : w'.cell? ⟨b, o, none⟩ = some v :=
  (hb.cell (p := ⟨b, o, none⟩) (World.block_lt_of_cell? w _ h)).trans h
section
variable {P : Program} {ops : Array Oper} {Q : Exit → Act → World → Prop} {md : Region.Mode} {S : World → Prop}
theorem wpAnyM_firstP {i L : Nat} {oi : Oper} {v : Value} (hi : ops[i]? = some oi) (hsel : ∀ (j : Nat) (o : Oper) cs b, ops[j]? = some o → o.op ≠ .select cs b) (hiL : i ≠ L)
    (hQ : ∀ c a w, Q (.panic c) (a.put oi.dst v) w → Q (.panic c) a w) :
    ∀ (fuel : Nat) (listed : Array Bool) (a : Act) (w : World), dcL md ops listed →
      (∀ j oj, ops[j]? = some oj → j ≠ i → listed.getD j true = false → (∀ e ∈ oj.after, Region.binds md e = true → e.on ≠ i) → oi.apart ops oj = true) →
      i ∈ Region.ready md ops listed → YieldsIf P ops (fun _ => True) oi v a → (listed.getD L true = false → S w) →
      wpAnyM P md ops Q S L fuel (listed.setIfInBounds i true) (a.put oi.dst v) w → wpAnyM P md ops Q S L (fuel + 1) listed a w := by
  intro fuel
  induction fuel with
  | zero =>
    intro listed a w _ _ hr hy hS H
    refine ⟨fun h => (by rw [h] at hr; cases hr), fun j hj => ?_⟩
    by_cases hji : j = i
    · subst hji; exact hy.wpOp hi trivial ⟨fun _ hl => hS hl, H⟩
    · have := ready_mono hj hji
      rw [H.1] at this
      cases this
  | succ fuel ih =>
    intro listed a w hdc hfree hr hy hS H
    refine ⟨fun h => (by rw [h] at hr; cases hr), fun j hj => ?_⟩
    by_cases hji : j = i
    · subst hji; exact hy.wpOp hi trivial ⟨fun _ hl => hS hl, H⟩
    · have hgL : (listed.setIfInBounds i true).getD L true = listed.getD L true := getD_set_ne true hiL
      have h1 := H.2 j (ready_mono hj hji)
      obtain ⟨hjun, oj, hoj, hall⟩ := mem_ready.1 hj
      have hnot : ∀ e ∈ oj.after, Region.binds md e = true → e.on ≠ i := fun e he hb heq => by
        have h1 := hall e he hb
        have h0 := (mem_ready.1 hr).1
        rw [heq] at h1
        rcases Nat.lt_or_ge i listed.size with h' | h'
        · simp [h'] at h0 h1; rw [h0] at h1; cases h1
        · simp [Array.getElem?_eq_none h'] at h1
      have h2 := wpOp_putIf hoj (hfree j oj hoj hji hjun hnot) (fun cs b => hsel i oi cs b hi) (fun cs b => hsel j oj cs b hoj) hQ hy h1
      have hfree' : ∀ k ok, ops[k]? = some ok → k ≠ i → (listed.setIfInBounds j true).getD k true = false →
          (∀ e ∈ ok.after, Region.binds md e = true → e.on ≠ i) → oi.apart ops ok = true := fun k ok hk hki hun hno => by
        refine hfree k ok hk hki ?_ hno
        by_cases hjk : j = k
        · subst hjk; exact hjun
        · rw [getD_set_ne true hjk] at hun; exact hun
      refine wpOp_mono (fun a' w' h3 => ⟨fun hjL hl => h3.2.1 hjL (by rw [hgL]; exact hl), ih (listed.setIfInBounds j true) a' w' (dcL_set hdc hj) hfree' (ready_mono hr (Ne.symm hji)) h3.1 ?_ ?_⟩) h2
      · intro hl
        by_cases hjL : j = L
        · subst hjL
          rcases Nat.lt_or_ge j listed.size with h' | h'
          · simp [h'] at hl
          · simp [Array.getElem?_eq_none h'] at hl
        · rw [getD_set_ne true hjL] at hl
          exact h3.2.1 hjL (by rw [hgL]; exact hl)
      · rw [Array.setIfInBounds_comm _ _ hji]
        exact h3.2.2
theorem wpAnyM_takeP {i L : Nat} {oi : Oper} {v : Value} {fuel : Nat} {listed : Array Bool} {a : Act} {w : World} (hi : ops[i]? = some oi) (hiL : i ≠ L) (hdc : dcB md ops listed = true)
    (hs : Region.noSelect ops = true) (hf : Region.free md ops listed i = true) (hr : (Region.ready md ops listed).contains i = true)
    (hQ : ∀ c a w, Q (.panic c) (a.put oi.dst v) w → Q (.panic c) a w) (hy : YieldsIf P ops (fun _ => True) oi v a) (hS : listed.getD L true = false → S w)
    (h : wpAnyM P md ops Q S L fuel (listed.setIfInBounds i true) (a.put oi.dst v) w) : wpAnyM P md ops Q S L (fuel + 1) listed a w :=
  wpAnyM_firstP hi (Region.noSelect_spec hs) hiL hQ fuel listed a w (dcB_spec hdc) (Region.free_spec hi hf) (by simpa using hr) hy hS h
theorem tkP0 (i : Nat) {L : Nat} {oi : Oper} {v : Value} {fuel : Nat} {listed : Array Bool} {a : Act} {w : World} (hy : ∀ w, True → (execOp a.eval oi).run P w = .ok (.value v) w) (h : wpAnyM P md ops Q S L fuel (listed.setIfInBounds i true) (a.put oi.dst v) w)
    (hi : ops[i]? = some oi := by simp only [List.getElem?_toArray, List.getElem?_cons_succ, List.getElem?_cons_zero] <;> rfl) (hiL : i ≠ L := by decide) (hdc : dcB md ops listed = true := by kernel_rfl) (hs : Region.noSelect ops = true := by kernel_rfl) (hf : Region.free md ops listed i = true := by kernel_rfl) (hr : (Region.ready md ops listed).contains i = true := by kernel_rfl)
    (hw : Region.wanted oi (yielded ops a.tmps) = true := by rfl)
    (hQ : ∀ c a w, Q (.panic c) (a.put oi.dst v) w → Q (.panic c) a w := by exact fun _ _ _ h => h) (hS : listed.getD L true = false → S w := by first | exact (fun _ => by assumption) | exact (fun h => by cases h)) : wpAnyM P md ops Q S L (fuel + 1) listed a w :=
  wpAnyM_takeP hi hiL hdc hs hf hr hQ (Or.inl ⟨hw, hy⟩) hS h
theorem tkP (i : Nat) {L : Nat} {oi : Oper} {v : Value} {fuel : Nat} {listed : Array Bool} {a : Act} {w : World} (h : wpAnyM P md ops Q S L fuel (listed.setIfInBounds i true) (a.put oi.dst v) w)
    (hi : ops[i]? = some oi := by simp only [List.getElem?_toArray, List.getElem?_cons_succ, List.getElem?_cons_zero] <;> rfl) (hiL : i ≠ L := by decide) (hdc : dcB md ops listed = true := by kernel_rfl) (hs : Region.noSelect ops = true := by kernel_rfl) (hf : Region.free md ops listed i = true := by kernel_rfl) (hr : (Region.ready md ops listed).contains i = true := by kernel_rfl)
    (hw : Region.wanted oi (yielded ops a.tmps) = true := by rfl)
    (hy : ∀ w, True → (execOp a.eval oi).run P w = .ok (.value v) w := by intro wv hSw; clear hSw; go_simp; try with_reducible rfl) (hQ : ∀ c a w, Q (.panic c) (a.put oi.dst v) w → Q (.panic c) a w := by exact fun _ _ _ h => h) (hS : listed.getD L true = false → S w := by first | exact (fun _ => by assumption) | exact (fun h => by cases h)) : wpAnyM P md ops Q S L (fuel + 1) listed a w :=
  wpAnyM_takeP hi hiL hdc hs hf hr hQ (Or.inl ⟨hw, hy⟩) hS h
end
/-- what a function value g bound to lb answers at a number, while a forest grows -/
def PredV (g : Nat) (lb : Array Value) (al : Int → Bool) (lo p mb : Nat) (w : World) : Prop :=
  ∀ (W : World) (v : Int), 0 ≤ v → v ≤ 31 → FrF lo p mb w W → Calls Tryz.prog g (#[.int .i64 v] ++ lb) W fun e w' => e = .returned (.bool (al v)) ∧ Below W.heap.size W w'
theorem PredV.step {g : Nat} {lb : Array Value} {al : Int → Bool} {lo p mb : Nat} {w w' : World} (h : PredV g lb al lo p mb w) (hf : FrF lo p mb w w') : PredV g lb al lo p mb w' := fun W v h0 h1 hW => h W v h0 h1 (hf.trans hW)
set_option maxHeartbeats 4000000 in
theorem impl_valueTree {g : Nat} {lb : Array Value} {al : Int → Bool} {lo p mb : Nat} {inp : Int} (eg : ∀ args w, (callFunc g args).run Tryz.prog w = .ok (.enter g args) w) :
    ∀ (k : Nat) (v i rest : Int) (L : List I3) (w : World), PredV g lb al lo p mb w → (∃ na nc mn, ForA w lo p mb inp na nc mn L) → 0 ≤ v → (v + 1) * 2 ^ k ≤ 32 → k ≤ 5 → 0 ≤ i → i + k ≤ 1000 → RefB rest L.length → L.length + 2 ^ k ≤ 1048576 → lo ≤ w.heap.size →
    Calls Tryz.prog 147 #[.pointer (some ⟨p, 0, none⟩), .func (.func g) #[] lb, .int .i64 v, .int .i64 (k : Int), .int .i64 i, .int .i64 rest] w fun e w' => e = .returned (.int .i64 (vtN al k L v i rest).2) ∧ (∃ na nc mn, ForA w' lo p mb inp na nc mn (vtN al k L v i rest).1) ∧ FrF lo p mb w w' := by
  intro k
  induction k with
  | zero =>
    intro v i rest L w hP hF h0 h1 hk hi0 hi1 hr hL hlo
    rw [Int.pow_zero, Int.mul_one] at h1
    have hcall := hP w v h0 (by omega) (FrF.refl _ _ _ _)
    have HFO := Lib.hid hF
    clear hF hP
    cases ha : al v
    · rw [ha] at hcall
      have HA := Lib.hid ha
      clear ha
      go_enter Tryz.func147, Tryz.ntmps147
      go_wp2_with (go_at_fn g; refine hcall.mono ?_; rintro e w1 ⟨rfl, hb1⟩)
      go_ret
      refine ⟨ret_int (by rw [vtN, HA.out]; rfl), ?_, FrF.of_below hb1⟩
      obtain ⟨na, nc, mn, h⟩ := HFO.out
      exact ⟨na, nc, mn, h.keep hb1⟩
    · rw [ha] at hcall
      have HA := Lib.hid ha
      clear ha
      go_enter Tryz.func147, Tryz.ntmps147
      go_wp2_with (go_at_fn g; refine hcall.mono ?_; rintro e w1 ⟨rfl, hb1⟩)
      go_ret
      refine ⟨ret_int (by rw [vtN, HA.out]; rfl), ?_, FrF.of_below hb1⟩
      obtain ⟨na, nc, mn, h⟩ := HFO.out
      exact ⟨na, nc, mn, h.keep hb1⟩
  | succ k ih =>
    intro v i rest L w hP hF h0 h1 hk hi0 hi1 hr hL hlo
    have hpk : (1 : Int) ≤ 2 ^ k := by
      have := Nat.two_pow_pos k
      have h : ((1 : Nat) : Int) ≤ ((2 ^ k : Nat) : Int) := by exact_mod_cast this
      rw [Int.natCast_pow] at h; exact h
    have hv1 : (2 * v + 1) * 2 ^ k ≤ 32 := by
      have e : (v + 1) * 2 ^ (k + 1) = (2 * v + 1) * 2 ^ k + 2 ^ k := by rw [Int.pow_succ]; generalize (2 : Int) ^ k = q; rw [Int.add_mul, Int.add_mul, Int.one_mul, Int.one_mul, ← Int.mul_assoc, Int.mul_comm v q, Int.mul_comm (2 * v) q, ← Int.mul_assoc, Int.mul_comm (q * v) 2, Int.mul_comm q 2, ← Int.mul_assoc]; omega
      omega
    have hv2 : (2 * v + 1 + 1) * 2 ^ k ≤ 32 := by
      have e : (v + 1) * 2 ^ (k + 1) = (2 * v + 1 + 1) * 2 ^ k := by rw [Int.pow_succ, show 2 * v + 1 + 1 = 2 * (v + 1) by omega]; generalize (2 : Int) ^ k = q; rw [Int.mul_comm q 2, ← Int.mul_assoc, Int.mul_comm 2 (v + 1)]
      omega
    have hvs : v ≤ 31 := by
      have h3 : (v + 1) * 1 ≤ (v + 1) * 2 ^ (k + 1) := Int.mul_le_mul_of_nonneg_left (by
        have := Nat.two_pow_pos (k + 1)
        have h : ((1 : Nat) : Int) ≤ ((2 ^ (k + 1) : Nat) : Int) := by exact_mod_cast this
        rw [Int.natCast_pow] at h; exact h) (by omega)
      omega
    have e1 : IntKind.i64.wrap (2 * v) = 2 * v := IntWalk.i64_in _ (by omega)
    have e2 : IntKind.i64.wrap (2 * v + 1) = 2 * v + 1 := IntWalk.i64_in _ (by omega)
    have e3 : IntKind.i64.wrap (((k + 1 : Nat) : Int) - 1) = (k : Int) := by rw [IntWalk.i64_in _ (by omega)]; omega
    have e3' : IntKind.i64.wrap ((k : Int) + 1 - 1) = (k : Int) := by rw [IntWalk.i64_in _ (by omega)]; omega
    have e4 : IntKind.i64.wrap (i + 1) = i + 1 := IntWalk.i64_in _ (by omega)
    have e5 : (((k + 1 : Nat) : Int) == 0) = false := by simpa using (show ¬ ((k + 1 : Nat) : Int) = 0 by omega)
    have e5' : (((k : Int) + 1) == 0) = false := by simpa using (show ¬ (k : Int) + 1 = 0 by omega)
    have e6 : ¬ ((k : Int) + 1 = 0) := by omega
    have hpw : 2 ^ (k + 1) = 2 ^ k + 2 ^ k := by rw [Nat.pow_succ]; omega
    have HP := Lib.hid hP
    have HFO := Lib.hid hF
    have HR := Lib.hid hr
    obtain ⟨q1, q2, q3⟩ := vt_ref (al := al) k L (2 * v) (i + 1) rest hr
    obtain ⟨A, hA⟩ : ∃ A, vtN al k L (2 * v) (i + 1) rest = A := ⟨_, rfl⟩
    rw [hA] at q1 q2 q3
    obtain ⟨r1, r2, r3⟩ := vt_ref (al := al) k A.1 (2 * v + 1) (i + 1) rest (hr.mono q2)
    obtain ⟨B, hB⟩ : ∃ B, vtN al k A.1 (2 * v + 1) (i + 1) rest = B := ⟨_, rfl⟩
    rw [hB] at r1 r2 r3
    have HN := Lib.hid (vt_new hA hB)
    obtain ⟨A1, A2⟩ := A
    obtain ⟨B1, B2⟩ := B
    simp only at q1 q2 q3 r1 r2 r3
    have K1 := Lib.hid (ih (2 * v) (i + 1) rest L w hP hF (by omega) hv1 (by omega) (by omega) (by omega) hr (by omega) hlo)
    have K2 := Lib.hid (fun (w1 : World) (hf : FrF lo p mb w w1) (h : ∃ na nc mn, ForA w1 lo p mb inp na nc mn A1) => ih (2 * v + 1) (i + 1) rest A1 w1 (HP.out.step hf) h (by omega) hv2 (by omega) (by omega) (by omega) (HR.out.mono q2) (by omega) (by have := hf.size; omega))
    have HA := Lib.hid hA
    have HB := Lib.hid hB
    have hq1 : I64 A2 := by have h1 := q1.1; have h2 := q1.2; unfold I64; omega
    have hq2 : I64 B2 := by have h1 := r1.1; have h2 := r1.2; unfold I64; omega
    clear hA hB hF hP hr ih h1 hv1 hv2 hpk
    go_enter Tryz.func147, Tryz.ntmps147
    go_wp2_with fail
    refine Calls.mono K1.out ?_
    rintro e w1 ⟨rfl, hF1, hf1⟩
    rw [HA.out] at hF1 ⊢
    have HF1 := Lib.hid hF1
    have Hf1 := Lib.hid hf1
    clear hF1 hf1
    go_wp2_with fail
    refine Calls.mono (K2.out w1 Hf1.out HF1.out) ?_
    rintro e w2 ⟨rfl, hF2, hf2⟩
    rw [HB.out] at hF2 ⊢
    obtain ⟨na, nc, mn, hF2⟩ := hF2
    have HF2 := Lib.hid hF2
    have Hf2 := Lib.hid (Hf1.out.trans hf2)
    have hs2 := Hf2.out.size
    clear hF2 hf2
    go_wp2_with fail
    refine Calls.mono (impl_node HF2.out (by omega) (by unfold I64; omega) hq1 hq2 (by omega)) ?_
    rintro e w3 ⟨rfl, hF3, hf3⟩
    have HF3 := Lib.hid hF3
    have Hf3 := Lib.hid (Hf2.out.trans hf3)
    clear hF3 hf3
    go_wp2
    go_ret
    refine ⟨ret_int (by rw [HN.out]), ?_, Hf3.out⟩
    rw [HN.out]
    exact HF3.out
end Go.Proofs.YtkaikbaagajckaaGreat
namespace Go.Proofs.YtkaikbaagajckaaGreat
open Go.RowKit
set_option linter.unusedVariables false
set_option linter.unusedSimpArgs false
attribute [local go_sem ↓] Go.wp_at_zero Go.wp_at_succ
set_option maxHeartbeats 1000000 in
theorem impl_testDiagram_11 {x : I2b} {bi bv : Nat} {j v : Int} {w : World} (hi : Blk w bi #[.int .i64 j] 2) (hv : Blk w bv #[.int .i64 v] 2) :
    Calls Tryz.prog 146 (#[.agg x.enc.toArray] ++ #[.pointer (some ⟨bi, 0, none⟩), .pointer (some ⟨bv, 0, none⟩)]) w fun e w' => e = .returned (.bool (decide (x.a = j) && (decide (v = x.b) != x.c))) ∧ Below w.heap.size w w' := by
  have i0 := hi.cell 0
  have il := hi.lt
  have v0 := hv.cell 0
  have vl := hv.lt
  simp at i0 v0
  clear hi hv
  show Calls _ _ #[.agg #[.int .i64 x.a, .int .i64 x.b, .bool x.c], .pointer (some ⟨bi, 0, none⟩), .pointer (some ⟨bv, 0, none⟩)] _ _
  obtain ⟨xa, xb, xc⟩ := x
  simp only
  by_cases h1 : xa = j
  · have e1 : (xa == j) = true := by simpa using h1
    by_cases h2 : v = xb
    · have e2 : (v == xb) = true := by simpa using h2
      have HF := Lib.hid (show (decide (xa = j) && (decide (v = xb) != xc)) = (true != xc) by rw [decide_eq_true h1, decide_eq_true h2]; rfl)
      clear h1 h2
      cases xc
      · go_enter Tryz.func146, Tryz.ntmps146
        go_wp2
        go_ret
        exact ⟨ret_bool (by rw [HF.out]; rfl), bel⟩
      · go_enter Tryz.func146, Tryz.ntmps146
        go_wp2
        go_ret
        exact ⟨ret_bool (by rw [HF.out]; rfl), bel⟩
    · have e2 : (v == xb) = false := by simpa using h2
      have HF := Lib.hid (show (decide (xa = j) && (decide (v = xb) != xc)) = (false != xc) by rw [decide_eq_true h1, decide_eq_false h2]; rfl)
      clear h1 h2
      cases xc
      · go_enter Tryz.func146, Tryz.ntmps146
        go_wp2
        go_ret
        exact ⟨ret_bool (by rw [HF.out]; rfl), bel⟩
      · go_enter Tryz.func146, Tryz.ntmps146
        go_wp2
        go_ret
        exact ⟨ret_bool (by rw [HF.out]; rfl), bel⟩
  · have e1 : (xa == j) = false := by simpa using h1
    have HF := Lib.hid (show (decide (xa = j) && (decide (v = xb) != xc)) = false by rw [decide_eq_false h1]; rfl)
    clear h1
    go_enter Tryz.func146, Tryz.ntmps146
    go_wp2
    go_ret
    exact ⟨ret_bool HF.out.symm, bel⟩
set_option maxRecDepth 100000 in
set_option maxHeartbeats 2000000 in
theorem impl_testDiagram_1 {v : Int} {bM bi bT j : Nat} {sa ta ra ga : Option Addr} {sn sc tn tc rn rc gn gc : Nat} {sz : List Int} {g : List I2b} {w : World} (hM : Blk w bM #[.slice sa sn sc, .slice ta tn tc, .slice ra rn rc] 36) (hI : Ints w sa sn sc sz) (hi : Blk w bi #[.int .i64 (j : Int)] 2) (hj : j < sn) (hn : sn ≤ 1048576) (hT : Blk w bT #[.slice ga gn gc] 54) (hG : F2b w ga gn gc g) (hg : gn ≤ 1048576) (hv : I64 v) :
    Calls Tryz.prog 145 (#[.int .i64 v] ++ #[.pointer (some ⟨bM, 0, none⟩), .pointer (some ⟨bi, 0, none⟩), .pointer (some ⟨bT, 0, none⟩)]) w fun e w' => e = .returned (.bool (alB sz g j v)) ∧ Below w.heap.size w w' := by
  have hbW : Below w.heap.size w (w.alloc (.cells #[.int .i64 v] 2)) := below_alloc1 (Below.refl _ _) _
  have V := Lib.hid (Blk.made w #[.int .i64 v] 2)
  have M := Lib.hid (hM.keep hbW)
  have I := Lib.hid (hi.keep hbW)
  have TT := Lib.hid (hT.keep hbW)
  have HG := Lib.hid (hG.keep hbW)
  obtain ⟨b1, o1, z, rfl, hb1, hz, hzc, _⟩ := (hI.keep hbW).at hj
  have hgd : sz.getD j 0 = z := getD_of hz
  have hp := fun (wx : World) (hb : Below (w.alloc (.cells #[.int .i64 v] 2)).heap.size (w.alloc (.cells #[.int .i64 v] 2)) wx) => slices_ContainsFunc_Test (g := 146) (lb := #[.pointer (some ⟨bi, 0, none⟩), .pointer (some ⟨w.heap.size, 0, none⟩)]) (p := fun t => decide (t.a = (j : Int)) && (decide (v = t.b) != t.c)) (fun _ _ => by kernel_rfl) (fun W x hx hb' => impl_testDiagram_11 ((I.out.keep hb).keep hb') ((V.out.keep hb).keep hb')) (HG.out.keep hb) hg
  have HP := Lib.hid hp
  clear hM hI hi hT hG hp hz
  have hj0 : (0 : Int) ≤ (j : Int) := by omega
  have hjn : (j : Int) < (sn : Int) := by omega
  obtain ⟨W, hW⟩ : ∃ W, W = w.alloc (.cells #[.int .i64 v] 2) := ⟨_, rfl⟩
  rw [← hW] at V M I TT HP hzc hb1 hbW
  have v0 := V.out.cell 0
  have vl := V.out.lt
  have m0 := M.out.cell 0
  have ml := M.out.lt
  have i0 := I.out.cell 0
  have il := I.out.lt
  have t0 := TT.out.cell 0
  have tl := TT.out.lt
  simp only [List.getElem?_toArray, List.getElem?_cons_zero] at v0 m0 i0 t0
  show Calls _ _ #[.int .i64 v, .pointer (some ⟨bM, 0, none⟩), .pointer (some ⟨bi, 0, none⟩), .pointer (some ⟨bT, 0, none⟩)] _ _
  by_cases hlt : v < z
  · have HF := Lib.hid (show alB sz g j v = !(g.any fun t => decide (t.a = (j : Int)) && (decide (v = t.b) != t.c)) by rw [alB, hgd, decide_eq_true hlt, Bool.true_and])
    have hd : decide (v < z) = true := decide_eq_true hlt
    clear hgd
    go_enter Tryz.func145, Tryz.ntmps145
    go_wp2_with fail
    rw [← hW]
    clear hW
    refine wp_region_noPanic ?_
    refine wp_region_M (L := 13) (S := fun wx => Below W.heap.size W wx) (by kernel_rfl) ?_ (fun hHeld => ?_)
    · exact (Below.refl _ _).drew
    refine tkM0 0 (v := ?_) ?_ ?_
    rotate_left
    · (intro wv hSw; (try dsimp only at hSw); obtain ⟨hcq, _⟩ := bcell hSw; have hsq := Below.size hSw; have q0 := (hcq _ _ vl).trans v0; have ql := Nat.lt_of_lt_of_le vl hsq; go_simp; try with_reducible rfl)
    try simp only [Act.put, s1, s2, s3]
    refine tkMB 1 ?_
    try simp only [Act.put, s1, s2, s3]
    refine tkM0 2 (v := ?_) ?_ ?_
    rotate_left
    · (intro wv hSw; (try dsimp only at hSw); obtain ⟨hcq, _⟩ := bcell hSw; have hsq := Below.size hSw; have q0 := (hcq _ _ ml).trans m0; have ql := Nat.lt_of_lt_of_le ml hsq; go_simp; try with_reducible rfl)
    try simp only [Act.put, s1, s2, s3]
    refine tkM0 3 (v := ?_) ?_ ?_
    rotate_left
    · (intro wv hSw; (try dsimp only at hSw); obtain ⟨hcq, _⟩ := bcell hSw; have hsq := Below.size hSw; have q0 := (hcq _ _ il).trans i0; have ql := Nat.lt_of_lt_of_le il hsq; go_simp; try with_reducible rfl)
    try simp only [Act.put, s1, s2, s3]
    refine tkMB 4 ?_
    try simp only [Act.put, s1, s2, s3]
    refine tkM0 5 (v := ?_) ?_ ?_
    rotate_left
    · (intro wv hSw; (try dsimp only at hSw); obtain ⟨hcq, _⟩ := bcell hSw; have hsq := Below.size hSw; have q0 := (hcq _ _ hb1).trans hzc; have ql := Nat.lt_of_lt_of_le hb1 hsq; go_simp; try with_reducible rfl)
    try simp only [Act.put, s1, s2, s3]
    refine tkMB 6 ?_
    try simp only [Act.put, s1, s2, s3]
    refine tkMB 7 ?_
    try simp only [Act.put, s1, s2, s3]
    refine tkM0 8 (v := ?_) ?_ ?_
    rotate_left
    · (intro wv hSw; (try dsimp only at hSw); obtain ⟨hcq, _⟩ := bcell hSw; have hsq := Below.size hSw; have q0 := (hcq _ _ tl).trans t0; have ql := Nat.lt_of_lt_of_le tl hsq; go_simp; try with_reducible rfl)
    try simp only [Act.put, s1, s2, s3]
    refine tkMB 9 ?_
    try simp only [Act.put, s1, s2, s3]
    refine wpAnyM_ready (rs := [10]) (by kernel_rfl) (by simp) ?_
    refine AllReadyM.cons rfl (fun K hK => ?_) AllReadyM.nil
    go_simp
    refine Calls.mono (HP.out _ hHeld) ?_
    rintro e w2 ⟨rfl, hb2⟩
    have hb3 := below_callS hHeld hb2
    go_wp2_with fail
    refine hK.out _ _ hb3 (fun hHeld => ?_)
    clear hK K
    try simp only [Act.put, s1, s2, s3]
    refine tkMB 11 ?_
    try simp only [Act.put, s1, s2, s3]
    refine tkMB 12 ?_
    try simp only [Act.put, s1, s2, s3]
    refine wpAnyM_ready (rs := [13]) (by kernel_rfl) (by simp) ?_
    refine AllReadyM.last rfl (fun K hK => ?_)
    go_simp
    refine hK.out _ _ ?_
    clear hK K
    try simp only [Act.put, s1, s2, s3]
    refine wpAnyM_done (by kernel_rfl) ?_ _
    refine NoPanic.normal ?_
    have hbe := below_callS hbW hb3
    go_wp2
    go_ret
    exact ⟨ret_bool (by rw [HF.out]), hbe⟩
  · have HF := Lib.hid (show alB sz g j v = false by rw [alB, hgd, decide_eq_false hlt, Bool.false_and])
    have hd : decide (v < z) = false := decide_eq_false hlt
    clear hgd
    go_enter Tryz.func145, Tryz.ntmps145
    go_wp2_with fail
    rw [← hW]
    clear hW
    refine wp_region_noPanic ?_
    refine wp_region_M (L := 13) (S := fun wx => Below W.heap.size W wx) (by kernel_rfl) ?_ (fun hHeld => ?_)
    · exact (Below.refl _ _).drew
    refine tkM0 0 (v := ?_) ?_ ?_
    rotate_left
    · (intro wv hSw; (try dsimp only at hSw); obtain ⟨hcq, _⟩ := bcell hSw; have hsq := Below.size hSw; have q0 := (hcq _ _ vl).trans v0; have ql := Nat.lt_of_lt_of_le vl hsq; go_simp; try with_reducible rfl)
    try simp only [Act.put, s1, s2, s3]
    refine tkMB 1 ?_
    try simp only [Act.put, s1, s2, s3]
    refine tkM0 2 (v := ?_) ?_ ?_
    rotate_left
    · (intro wv hSw; (try dsimp only at hSw); obtain ⟨hcq, _⟩ := bcell hSw; have hsq := Below.size hSw; have q0 := (hcq _ _ ml).trans m0; have ql := Nat.lt_of_lt_of_le ml hsq; go_simp; try with_reducible rfl)
    try simp only [Act.put, s1, s2, s3]
    refine tkM0 3 (v := ?_) ?_ ?_
    rotate_left
    · (intro wv hSw; (try dsimp only at hSw); obtain ⟨hcq, _⟩ := bcell hSw; have hsq := Below.size hSw; have q0 := (hcq _ _ il).trans i0; have ql := Nat.lt_of_lt_of_le il hsq; go_simp; try with_reducible rfl)
    try simp only [Act.put, s1, s2, s3]
    refine tkMB 4 ?_
    try simp only [Act.put, s1, s2, s3]
    refine tkM0 5 (v := ?_) ?_ ?_
    rotate_left
    · (intro wv hSw; (try dsimp only at hSw); obtain ⟨hcq, _⟩ := bcell hSw; have hsq := Below.size hSw; have q0 := (hcq _ _ hb1).trans hzc; have ql := Nat.lt_of_lt_of_le hb1 hsq; go_simp; try with_reducible rfl)
    try simp only [Act.put, s1, s2, s3]
    refine tkMB 6 ?_
    try simp only [Act.put, s1, s2, s3]
    refine tkMB 7 ?_
    try simp only [Act.put, s1, s2, s3]
    refine wpAnyM_take (i := 8) (v := undef) (by simp only [List.getElem?_toArray, List.getElem?_cons_succ, List.getElem?_cons_zero] <;> rfl) (by kernel_rfl) (by kernel_rfl) (by kernel_rfl) (by kernel_rfl) (by kernel_rfl) (fun _ _ _ h => h) (Or.inr ⟨by rfl, rfl⟩) (by assumption) ?_
    try simp only [Act.put, s1, s2, s3]
    refine wpAnyM_take (i := 9) (v := undef) (by simp only [List.getElem?_toArray, List.getElem?_cons_succ, List.getElem?_cons_zero] <;> rfl) (by kernel_rfl) (by kernel_rfl) (by kernel_rfl) (by kernel_rfl) (by kernel_rfl) (fun _ _ _ h => h) (Or.inr ⟨by rfl, rfl⟩) (by assumption) ?_
    try simp only [Act.put, s1, s2, s3]
    refine wpAnyM_take (i := 10) (v := undef) (by simp only [List.getElem?_toArray, List.getElem?_cons_succ, List.getElem?_cons_zero] <;> rfl) (by kernel_rfl) (by kernel_rfl) (by kernel_rfl) (by kernel_rfl) (by kernel_rfl) (fun _ _ _ h => h) (Or.inr ⟨by rfl, rfl⟩) (by assumption) ?_
    try simp only [Act.put, s1, s2, s3]
    refine wpAnyM_take (i := 11) (v := undef) (by simp only [List.getElem?_toArray, List.getElem?_cons_succ, List.getElem?_cons_zero] <;> rfl) (by kernel_rfl) (by kernel_rfl) (by kernel_rfl) (by kernel_rfl) (by kernel_rfl) (fun _ _ _ h => h) (Or.inr ⟨by rfl, rfl⟩) (by assumption) ?_
    try simp only [Act.put, s1, s2, s3]
    refine tkMB 12 ?_
    try simp only [Act.put, s1, s2, s3]
    refine wpAnyM_ready (rs := [13]) (by kernel_rfl) (by simp) ?_
    refine AllReadyM.last rfl (fun K hK => ?_)
    go_simp
    refine hK.out _ _ ?_
    clear hK K
    try simp only [Act.put, s1, s2, s3]
    refine wpAnyM_done (by kernel_rfl) ?_ _
    refine NoPanic.normal ?_
    have hbe := below_callS hbW hHeld
    go_wp2
    go_ret
    exact ⟨ret_bool (by rw [HF.out]), hbe⟩
theorem td_next {sz : List Int} {g : List I2b} {k q : Nat} {z : Int} (hq : q = sz.length - 1 - k) (hz : sz[q]? = some z) : tdN sz g (k + 1) = vtN (alB sz g q) (wN z).toNat (tdN sz g k).1 0 (offN sz q : Int) (tdN sz g k).2 := by
  rw [tdN, ← hq, getD_of hz]
set_option maxRecDepth 100000 in
set_option maxHeartbeats 8000000 in
theorem impl_testDiagram {sa ta ra ga : Option Addr} {sn sc tn tc rn rc gn gc : Nat} {sz : List Int} {g : List I2b} {w : World} (hI : Ints w sa sn sc sz) (hn : sn ≤ 16) (hs : allIn 1 32 sz = true) (hG : F2b w ga gn gc g) (hg : gn ≤ 1048576) :
    Calls Tryz.prog 76 #[.agg #[.slice sa sn sc, .slice ta tn tc, .slice ra rn rc], .slice ga gn gc] w fun e w' => ∃ da dc, e = .returned (.agg #[.int .i64 (sz.map wN).sum, .slice da (tsN sz g).1.length dc, .int .i64 (tsN sz g).2]) ∧ OwnF 3 I3.enc I3.ok 117 w' w.heap.size da (tsN sz g).1.length dc (tsN sz g).1 ∧ Below w.heap.size w w' := by
  obtain rfl : sz.length = sn := hI.len
  have HI := Lib.hid hI
  have HS := Lib.hid hs
  have HG := Lib.hid hG
  obtain ⟨hsum, hoff⟩ := off_sum hs hn
  have hofl := hoff sz.length (Nat.le_refl _)
  obtain ⟨w0, hw0⟩ : ∃ w0, w0 = ((w.alloc (.cells #[.slice sa sz.length sc, .slice ta tn tc, .slice ra rn rc] 36)).alloc (.cells #[.slice ga gn gc] 54)).alloc (.cells #[.int .i64 0, .slice none 0 0, .int .i64 0] 40) := ⟨_, rfl⟩
  have hb0 : Below w.heap.size w w0 := by rw [hw0]; exact below_alloc1 (below_alloc1 (below_alloc1 (Below.refl _ _) _) _) _
  have M0 := Lib.hid (show Blk w0 w.heap.size #[.slice sa sz.length sc, .slice ta tn tc, .slice ra rn rc] 36 by rw [hw0]; exact (Blk.made _ _ _).keep (below_alloc1 (below_alloc1 (Below.refl _ _) _) _))
  have T0 := Lib.hid (show Blk w0 (w.heap.size + 1) #[.slice ga gn gc] 54 by rw [hw0]; exact (Blk.made1 _ _ _ _).keep (below_alloc1 (Below.refl _ _) _))
  have R0 := Lib.hid (show Blk w0 (w.heap.size + 1 + 1) #[.int .i64 0, .slice none 0 0, .int .i64 0] 40 by rw [hw0]; exact Blk.made2 _ _ _ _ _)
  have hkw := impl_widths (ta := ta) (tn := tn) (tc := tc) (ra := ra) (rn := rn) (rc := rc) (hI.keep hb0) (by omega) hs
  rw [hsum] at hkw ⊢
  have KW := Lib.hid hkw
  clear hI hG hs hkw hsum
  have hs0 : w0.heap.size = w.heap.size + 1 + 1 + 1 := by rw [hw0]; simp
  go_enter Tryz.func76, Tryz.ntmps76
  go_wp2_with fail
  rw [← hw0]
  clear hw0
  refine Calls.mono KW.out ?_
  rintro e w1 ⟨aw, cw, rfl, hb1, hW⟩
  have M1 := Lib.hid (M0.out.keep hb1)
  have T1 := Lib.hid (T0.out.keep hb1)
  have R1 := Lib.hid (R0.out.keep hb1)
  have W1 := Lib.hid hW
  have HB1 := Lib.hid (below_callS hb0 hb1)
  have hs1 := hb1.size
  clear hb1 hW M0 T0 R0 hb0 KW
  go_wp2_with fail
  refine Calls.mono impl_newForest ?_
  rintro e w2 ⟨p, mb, rfl, hFor, hb2, hp2⟩
  obtain ⟨lo, hlo⟩ : ∃ lo, lo = w1.heap.size := ⟨_, rfl⟩
  rw [← hlo] at hFor
  have M2 := Lib.hid (M1.out.keep hb2)
  have T2 := Lib.hid (T1.out.keep hb2)
  have R2 := Lib.hid (R1.out.keep hb2)
  have W2 := Lib.hid (W1.out.keep hb2)
  have HB2 := Lib.hid (below_callS HB1.out hb2)
  have hs2 := hb2.size
  have hplo : lo ≤ p := hFor.lop
  have hmlo : lo ≤ mb := hFor.lom
  have F2 := Lib.hid hFor
  have hlw : w.heap.size + 1 + 1 < lo := by omega
  have HWL := Lib.hid (show ∀ gg, aw = some ⟨gg, 0, none⟩ → gg < lo from fun gg e => by have := (W1.out.blk gg e).2; omega)
  clear hFor hb2 hp2 M1 T1 R1 W1 HB1
  have m0 := M2.out.cell 0
  have ml := M2.out.lt
  simp only [List.getElem?_toArray, List.getElem?_cons_zero] at m0
  have e0 : IntKind.i64.wrap ((sz.length : Int) - 1) = (sz.length : Int) - 1 := IntWalk.i64_in _ (by omega)
  go_wp2_with fail
  go_wp2_with fail
  refine Calls.mono (impl_length_i64) ?_
  rintro e _ ⟨rfl, rfl⟩
  go_wp2_with fail
  have hbA : Below w2.heap.size w2 (w2.alloc (.cells #[.int .i64 ((sz.length : Int) - 1)] 2)) := below_alloc1 (Below.refl _ _) _
  have hlo2 : lo ≤ w2.heap.size := by omega
  have B3 := Lib.hid (hbA.mono hlo2)
  have F3' := Lib.hid (show ∃ na nc mn, ForA (w2.alloc (.cells #[.int .i64 ((sz.length : Int) - 1)] 2)) lo p mb (offN sz sz.length : Int) na nc mn (tdN sz g 0).1 from ⟨_, _, _, F2.out.keep hbA⟩)
  have I3' := Lib.hid (Blk.made w2 #[.int .i64 ((sz.length : Int) - 1)] 2)
  clear m0 ml F2 hbA
  go_loopg [8, 9, 10] sz.length (fun gg s8 s9 s10 wr => ∃ (k bi : Nat), k ≤ sz.length ∧ sz.length - k ≤ gg ∧ s8 = .int .i64 (tdN sz g k).2 ∧ s9 = .int .i64 (offN sz (sz.length - k) : Int) ∧ s10 = .pointer (some ⟨bi, 0, none⟩) ∧ lo ≤ bi ∧ lo ≤ wr.heap.size ∧ Hid (Below lo w2 wr) ∧ Hid (Blk wr bi #[.int .i64 ((sz.length : Int) - 1 - (k : Int))] 2) ∧ Hid (∃ na nc mn, ForA wr lo p mb (offN sz sz.length : Int) na nc mn (tdN sz g k).1))
  case atStart => exact ⟨0, _, Nat.zero_le _, by omega, rfl, rfl, rfl, hlo2, by simp; omega, B3, by simpa using I3', F3'⟩
  case round =>
    clear B3 F3' I3'
    obtain ⟨k, bi, hk, hgg, rfl, rfl, rfl, hbi, hlr, HBL, IB, FO⟩ := hrel
    have i0 := IB.out.cell 0
    have il := IB.out.lt
    simp only [List.getElem?_toArray, List.getElem?_cons_zero] at i0
    have hbw := HB2.out.trans (HBL.out.mono (show w.heap.size ≤ lo by omega))
    by_cases hlt : k < sz.length
    · obtain ⟨q, hq⟩ : ∃ q, q = sz.length - 1 - k := ⟨_, rfl⟩
      have hqi : (sz.length : Int) - 1 - (k : Int) = (q : Int) := by omega
      rw [hqi] at i0 IB
      have hql : q < sz.length := by omega
      obtain ⟨z, hz⟩ : ∃ z, sz[q]? = some z := ⟨_, List.getElem?_eq_getElem hql⟩
      have hz2 := allIn_at HS.out hz
      have hwz := wN_in hz2.1 hz2.2
      have hst := offN_step hz
      have hnx := td_next (g := g) hq hz
      obtain ⟨i1, i2, _, i4, _⟩ := td_inv (g := g) HS.out k hk
      obtain ⟨ww, hww⟩ : ∃ m : Nat, (wN z).toNat = m := ⟨_, rfl⟩
      have hwi : wN z = (ww : Int) := by omega
      rw [hww] at hnx hst
      have HNX := Lib.hid hnx
      have hoq := hoff q (by omega)
      have e1 : sz.length - k = q + 1 := by omega
      obtain ⟨gw, hgw⟩ := W2.out.shape (by omega)
      subst hgw
      obtain ⟨wv, hwv, hwvi, cw9⟩ := (W2.out.atB (HBL.out.block gw (HWL.out gw rfl))).cell (k := q) hql
      have hwv' : wv = (ww : Int) := by rw [List.getElem?_map, hz] at hwv; simp at hwv; omega
      subst hwv'
      have gl := Nat.lt_of_lt_of_le (HWL.out gw rfl) hlr
      have e2 : IntKind.i64.wrap ((offN sz (sz.length - k) : Int) - (ww : Int)) = (offN sz q : Int) := by rw [e1, hst]; push_cast; rw [IntWalk.i64_in _ (by omega)]; omega
      have hq0 : (0 : Int) ≤ (q : Int) := by omega
      have hqn : (q : Int) < (sz.length : Int) := by omega
      obtain ⟨na, nc, mn, hfor⟩ := FO.out
      have hbp : bi ≠ p := fun e => by
        have h := hfor.blk
        have h2 := IB.out
        rw [Blk] at h h2
        rw [e, h] at h2
        simp at h2
      have hbm : bi ≠ mb := fun e => by
        obtain ⟨es, cl, hm⟩ := hfor.map.isMap
        have h2 := IB.out
        rw [Blk, e, hm] at h2
        cases h2
      have HPV := Lib.hid (show PredV 145 #[.pointer (some ⟨w.heap.size, 0, none⟩), .pointer (some ⟨bi, 0, none⟩), .pointer (some ⟨w.heap.size + 1, 0, none⟩)] (alB sz g q) lo p mb wr from fun W v h0 h1 hf => by
        have hBW := hf.below HBL.out hlr (Nat.le_refl _) hplo hmlo
        have hbW := HB2.out.trans (hBW.mono (show w.heap.size ≤ lo by omega))
        exact impl_testDiagram_1 (M2.out.keepB hBW (by omega)) (HI.out.keep hbW) (IB.out.frf hf hbp (by decide) hbm) hql (by omega) (T2.out.keepB hBW (by omega)) (HG.out.keep hbW) hg (by unfold I64; omega))
      have HZ := Lib.hid hz
      have hw5 : ww ≤ 5 := by omega
      have hqa : q + 1 + k ≤ sz.length := by omega
      have hqb : sz.length ≤ q + 1 + k := by omega
      clear hz hnx hwv hwvi hq hqi e1 hww hwi hst
      have hpw : 2 ^ ww ≤ 32 := Nat.le_trans (Nat.pow_le_pow_right (by decide) (show ww ≤ 5 by omega)) (by decide)
      have hpw' : ((0 : Int) + 1) * 2 ^ ww ≤ 32 := by
        have h : ((2 ^ ww : Nat) : Int) ≤ ((32 : Nat) : Int) := by exact_mod_cast hpw
        rw [Int.natCast_pow] at h
        have e : ((2 : Nat) : Int) = 2 := rfl
        rw [e] at h
        omega
      go_wp2_with fail
      refine Calls.mono (impl_valueTree (fun _ _ => by kernel_rfl) ww 0 (offN sz q : Int) (tdN sz g k).2 (tdN sz g k).1 wr HPV.out ⟨_, _, _, hfor⟩ (Int.le_refl _) hpw' (by omega) (by omega) (by omega) i2 (by omega) hlr) ?_
      rintro e w6 ⟨rfl, hF6, hf6⟩
      rw [← HNX.out] at hF6 ⊢
      have HBL6 := Lib.hid (hf6.below HBL.out hlr (Nat.le_refl _) hplo hmlo)
      have IB6 := Lib.hid (IB.out.frf hf6 hbp (by decide) hbm)
      have F6 := Lib.hid hF6
      have hs6 := hf6.size
      clear hF6 hf6 HBL IB FO hfor HPV i0 il cw9 gl
      have i0 := IB6.out.cell 0
      have il := IB6.out.lt
      simp only [List.getElem?_toArray, List.getElem?_cons_zero] at i0
      have e7 : IntKind.i64.wrap ((q : Int) - 1) = (q : Int) - 1 := IntWalk.i64_in _ (by omega)
      go_wp2_with fail
      have hbN : Below w6.heap.size w6 (w6.alloc (.cells #[.int .i64 ((q : Int) - 1)] 2)) := below_alloc1 (Below.refl _ _) _
      have BLN := Lib.hid (HBL6.out.trans (hbN.mono (show lo ≤ w6.heap.size by omega)))
      have IBN := Lib.hid (Blk.made w6 #[.int .i64 ((q : Int) - 1)] 2)
      have FN := Lib.hid (show ∃ na nc mn, ForA (w6.alloc (.cells #[.int .i64 ((q : Int) - 1)] 2)) lo p mb (offN sz sz.length : Int) na nc mn (tdN sz g (k + 1)).1 from by
        obtain ⟨na, nc, mn, h⟩ := F6.out
        exact ⟨na, nc, mn, h.keep hbN⟩)
      clear hbN HBL6 IB6 F6 i0 il
      go_roundg (sz.length - (k + 1))
      case measure => omega
      case rel => exact ⟨k + 1, w6.heap.size, by omega, by omega, rfl, by rw [show sz.length - (k + 1) = q by omega], rfl, by omega, by simp; omega, BLN, by rw [show (sz.length : Int) - 1 - ((k + 1 : Nat) : Int) = (q : Int) - 1 by omega]; exact IBN, FN⟩
    · obtain rfl : sz.length = k := by omega
      have hm1 : (sz.length : Int) - 1 - (sz.length : Int) = -1 := by omega
      rw [hm1] at i0
      obtain ⟨i1, i2, _, i4, _⟩ := td_inv (g := g) HS.out sz.length (Nat.le_refl _)
      obtain ⟨na, nc, mn, hfor⟩ := FO.out
      have R3 := Lib.hid (R2.out.keepB HBL.out (by omega))
      have HBW := Lib.hid hbw
      have HTS := Lib.hid (show tsN sz g = canN mkN (tdN sz g sz.length).1 (tdN sz g sz.length).2 from rfl)
      clear hm1 hbw
      go_wp2_with fail
      refine Calls.mono (impl_canonical hfor i1.redu (by omega) (by unfold I64; omega) i2) ?_
      rintro e w6 ⟨da, dc, rfl, hO, hb6⟩
      obtain ⟨⟨TL, TR⟩, hTS⟩ : ∃ x, tsN sz g = x := ⟨_, rfl⟩
      have HTT := Lib.hid hTS
      rw [← HTS.out, hTS] at hO ⊢
      clear hTS
      have R6 := Lib.hid (R3.out.keep hb6)
      have HB6 := Lib.hid (below_callS HBW.out hb6)
      have hs6 := hb6.size
      have O6 := Lib.hid hO
      clear hO hb6 HBL IB FO hfor i0 il R3 HBW
      have r0 := R6.out.cell 0
      have r1 := R6.out.cell 1
      have r2 := R6.out.cell 2
      have rl := R6.out.lt
      have rf := R6.out.free
      simp only [List.getElem?_toArray, List.getElem?_cons_succ, List.getElem?_cons_zero] at r0 r1 r2
      go_wp2
      have hne : ∀ y, da = some ⟨y, 0, none⟩ → (some (w.heap.size + 1 + 1) : Option Nat) ≠ some y := fun y e e' => by
        have := (O6.out.blk y e).1
        simp at e'
        omega
      have hbz : Below w.heap.size w w6 := HB6.out
      refine bodyPost_ret (v := .agg #[.int .i64 (offN sz sz.length : Int), .slice da TL.length dc, .int .i64 TR]) (by simp [results, Tryz.results76, go_sem, *]) rfl ⟨da, dc, by rw [HTT.out], ?_, ?_⟩
      · rw [HTT.out]
        exact ((((O6.out.keepG (set_grown _ _ _) hne).keepG (set_grown _ _ _) hne).keepG (set_grown _ _ _) hne)).le (by omega)
      · exact bel
end Go.Proofs.YtkaikbaagajckaaGreat
namespace Go.Proofs.YtkaikbaagajckaaGreat
open Go.RowKit
set_option linter.unusedVariables false
set_option linter.unusedSimpArgs false
attribute [local go_sem ↓] Go.wp_at_zero Go.wp_at_succ
def tdC (sz st : List Int) (l : List (RM × RuD)) (g : List I2b) : Int × List I3 × Int × Int := if modelB sz st l = false then (0, [], 0, 1) else if testsB sz g = false then (0, [], 0, 2) else if smB sz = false then (0, [], 0, 3) else ((offN sz sz.length : Int), (tsN sz g).1, (tsN sz g).2, 0)
theorem tdC_1 {sz st : List Int} {l : List (RM × RuD)} {g : List I2b} (h : modelB sz st l = false) : tdC sz st l g = (0, [], 0, 1) := if_pos h
theorem tdC_2 {sz st : List Int} {l : List (RM × RuD)} {g : List I2b} (h : modelB sz st l = true) (h2 : testsB sz g = false) : tdC sz st l g = (0, [], 0, 2) := by rw [tdC, if_neg (by simp [h]), if_pos h2]
theorem tdC_3 {sz st : List Int} {l : List (RM × RuD)} {g : List I2b} (h : modelB sz st l = true) (h2 : testsB sz g = true) (h3 : smB sz = false) : tdC sz st l g = (0, [], 0, 3) := by rw [tdC, if_neg (by simp [h]), if_neg (by simp [h2]), if_pos h3]
theorem tdC_4 {sz st : List Int} {l : List (RM × RuD)} {g : List I2b} (h : modelB sz st l = true) (h2 : testsB sz g = true) (h3 : smB sz = true) : tdC sz st l g = ((offN sz sz.length : Int), (tsN sz g).1, (tsN sz g).2, 0) := by rw [tdC, if_neg (by simp [h]), if_neg (by simp [h2]), if_neg (by simp [h3])]
set_option maxRecDepth 100000 in
set_option maxHeartbeats 8000000 in
theorem impl_TestDiagram {sa ta ra ga : Option Addr} {sn sc tn tc rn rc gn gc : Nat} {sz st : List Int} {l : List (RM × RuD)} {g : List I2b} {w : World} (hI : Ints w sa sn sc sz) (hn : sn ≤ 1048576) (hT : Ints w ta tn tc st) (ht : tn ≤ 1048576) (hR : FR w w ra rn rc l) (hr : rn ≤ 1048576) (hG : F2b w ga gn gc g) (hg : gn ≤ 1048576) :
    Calls Tryz.prog 29 #[.agg #[.slice sa sn sc, .slice ta tn tc, .slice ra rn rc], .slice ga gn gc] w (DgR w (tdC sz st l g)) := by
  have hb0 : Below w.heap.size w ((w.alloc (.cells #[.slice sa sn sc, .slice ta tn tc, .slice ra rn rc] 36)).alloc (.cells #[.int .i64 0, .slice none 0 0, .int .i64 0] 40)) := bel
  have X := Lib.hid ((Blk.made w #[.slice sa sn sc, .slice ta tn tc, .slice ra rn rc] 36).keep (below_alloc1 (Below.refl _ _) (.cells #[.int .i64 0, .slice none 0 0, .int .i64 0] 40)))
  have R := Lib.hid (Blk.made1 w (.cells #[.slice sa sn sc, .slice ta tn tc, .slice ra rn rc] 36) #[.int .i64 0, .slice none 0 0, .int .i64 0] 40)
  have KM := fun (wx : World) (hb : Below w.heap.size w wx) => impl_IsModel (hI.keep hb) hn (hT.keep hb) ht (hR.self hb) hr
  cases hm : modelB sz st l
  · simp only [hm] at KM
    have K1 := Lib.hid KM
    have HC := Lib.hid (tdC_1 (g := g) hm)
    clear KM hm hI hT hR hG
    go_enter Tryz.func29, Tryz.ntmps29
    go_wp2_with fail
    refine Calls.mono (K1.out _ hb0) ?_
    rintro e w1 ⟨rfl, hb⟩
    have X1 := Lib.hid (X.out.keep hb)
    have R1 := Lib.hid (R.out.keep hb)
    have HB1 := Lib.hid (below_callS hb0 hb)
    clear hb X R
    clear hb0
    have r0 := R1.out.cell 0
    have r1 := R1.out.cell 1
    have r2 := R1.out.cell 2
    have rl := R1.out.lt
    have rf := R1.out.free
    simp only [List.getElem?_toArray, List.getElem?_cons_zero, List.getElem?_cons_succ] at r0 r1 r2
    have hbz : Below w.heap.size w w1 := HB1.out
    go_wp2
    refine bodyPost_ret (v := .tuple #[.agg #[.int .i64 0, .slice none 0 0, .int .i64 0], .int .i64 1]) (by simp [results, Tryz.results29, go_sem, *]) rfl ⟨none, 0, by rw [HC.out]; rfl, by rw [HC.out]; exact ⟨World.ownsRow_nil _ _ _ 3, (fun _ h => by cases h), rfl, fun _ => rfl⟩, bel⟩
  · simp only [hm] at KM
    have K1 := Lib.hid KM
    have hs := modelB_all hm
    have KT := fun (wx : World) (hb : Below w.heap.size w wx) => impl_areTests (ta := ta) (tn := tn) (tc := tc) (ra := ra) (rn := rn) (rc := rc) (hI.keep hb) hn hs (hG.keep hb) hg
    cases htt : testsB sz g
    · simp only [htt] at KT
      have K2 := Lib.hid KT
      have HC := Lib.hid (tdC_2 hm htt)
      clear KM KT hm htt hs hI hT hR hG
      go_enter Tryz.func29, Tryz.ntmps29
      go_wp2_with fail
      refine Calls.mono (K1.out _ hb0) ?_
      rintro e w1 ⟨rfl, hb⟩
      have X1 := Lib.hid (X.out.keep hb)
      have R1 := Lib.hid (R.out.keep hb)
      have HB1 := Lib.hid (below_callS hb0 hb)
      clear hb X R
      clear hb0
      have x0 := X1.out.cell 0
      have x1 := X1.out.cell 1
      have x2 := X1.out.cell 2
      have xl := X1.out.lt
      simp only [List.getElem?_toArray, List.getElem?_cons_zero, List.getElem?_cons_succ] at x0 x1 x2
      go_wp2_with fail
      refine Calls.mono (K2.out _ HB1.out) ?_
      rintro e w2 ⟨rfl, hb⟩
      have X2 := Lib.hid (X1.out.keep hb)
      have R2 := Lib.hid (R1.out.keep hb)
      have HB2 := Lib.hid (below_callS HB1.out hb)
      clear hb X1 R1
      try clear x0 x1 x2 xl
      have r0 := R2.out.cell 0
      have r1 := R2.out.cell 1
      have r2 := R2.out.cell 2
      have rl := R2.out.lt
      have rf := R2.out.free
      simp only [List.getElem?_toArray, List.getElem?_cons_zero, List.getElem?_cons_succ] at r0 r1 r2
      have hbz : Below w.heap.size w w2 := HB2.out
      go_wp2
      refine bodyPost_ret (v := .tuple #[.agg #[.int .i64 0, .slice none 0 0, .int .i64 0], .int .i64 2]) (by simp [results, Tryz.results29, go_sem, *]) rfl ⟨none, 0, by rw [HC.out]; rfl, by rw [HC.out]; exact ⟨World.ownsRow_nil _ _ _ 3, (fun _ h => by cases h), rfl, fun _ => rfl⟩, bel⟩
    · simp only [htt] at KT
      have K2 := Lib.hid KT
      have KS := fun (wx : World) (hb : Below w.heap.size w wx) => impl_isSmall (ta := ta) (tn := tn) (tc := tc) (ra := ra) (rn := rn) (rc := rc) (hI.keep hb) hn hs
      cases hq : smB sz
      · simp only [hq] at KS
        have K3 := Lib.hid KS
        have HC := Lib.hid (tdC_3 hm htt hq)
        clear KM KT KS hm htt hs hq hI hT hR hG
        go_enter Tryz.func29, Tryz.ntmps29
        go_wp2_with fail
        refine Calls.mono (K1.out _ hb0) ?_
        rintro e w1 ⟨rfl, hb⟩
        have X1 := Lib.hid (X.out.keep hb)
        have R1 := Lib.hid (R.out.keep hb)
        have HB1 := Lib.hid (below_callS hb0 hb)
        clear hb X R
        clear hb0
        have x0 := X1.out.cell 0
        have x1 := X1.out.cell 1
        have x2 := X1.out.cell 2
        have xl := X1.out.lt
        simp only [List.getElem?_toArray, List.getElem?_cons_zero, List.getElem?_cons_succ] at x0 x1 x2
        go_wp2_with fail
        refine Calls.mono (K2.out _ HB1.out) ?_
        rintro e w2 ⟨rfl, hb⟩
        have X2 := Lib.hid (X1.out.keep hb)
        have R2 := Lib.hid (R1.out.keep hb)
        have HB2 := Lib.hid (below_callS HB1.out hb)
        clear hb X1 R1
        try clear x0 x1 x2 xl
        have x0 := X2.out.cell 0
        have x1 := X2.out.cell 1
        have x2 := X2.out.cell 2
        have xl := X2.out.lt
        simp only [List.getElem?_toArray, List.getElem?_cons_zero, List.getElem?_cons_succ] at x0 x1 x2
        go_wp2_with fail
        refine Calls.mono (K3.out _ HB2.out) ?_
        rintro e w3 ⟨rfl, hb⟩
        have X3 := Lib.hid (X2.out.keep hb)
        have R3 := Lib.hid (R2.out.keep hb)
        have HB3 := Lib.hid (below_callS HB2.out hb)
        clear hb X2 R2
        try clear x0 x1 x2 xl
        have r0 := R3.out.cell 0
        have r1 := R3.out.cell 1
        have r2 := R3.out.cell 2
        have rl := R3.out.lt
        have rf := R3.out.free
        simp only [List.getElem?_toArray, List.getElem?_cons_zero, List.getElem?_cons_succ] at r0 r1 r2
        have hbz : Below w.heap.size w w3 := HB3.out
        go_wp2
        refine bodyPost_ret (v := .tuple #[.agg #[.int .i64 0, .slice none 0 0, .int .i64 0], .int .i64 3]) (by simp [results, Tryz.results29, go_sem, *]) rfl ⟨none, 0, by rw [HC.out]; rfl, by rw [HC.out]; exact ⟨World.ownsRow_nil _ _ _ 3, (fun _ h => by cases h), rfl, fun _ => rfl⟩, bel⟩
      · simp only [hq] at KS
        have K3 := Lib.hid KS
        have HC := Lib.hid (tdC_4 hm htt hq)
        have hn16 : sn ≤ 16 := by have := modelB_len hm; have := hI.len; omega
        have hfew := ts_few (g := g) hs (modelB_len hm)
        have hsum := (off_sum hs (modelB_len hm)).1
        have K4 := Lib.hid (fun (wx : World) (hb : Below w.heap.size w wx) => impl_testDiagram (ta := ta) (tn := tn) (tc := tc) (ra := ra) (rn := rn) (rc := rc) (hI.keep hb) hn16 hs (hG.keep hb) hg)
        obtain ⟨⟨TL, TR⟩, hTS⟩ : ∃ x, tsN sz g = x := ⟨_, rfl⟩
        rw [hTS] at HC hfew
        rw [hTS, hsum] at K4
        simp only at HC hfew K4
        clear KM KT KS hm htt hs hq hI hT hR hG hsum hTS
        go_enter Tryz.func29, Tryz.ntmps29
        go_wp2_with fail
        refine Calls.mono (K1.out _ hb0) ?_
        rintro e w1 ⟨rfl, hb⟩
        have X1 := Lib.hid (X.out.keep hb)
        have R1 := Lib.hid (R.out.keep hb)
        have HB1 := Lib.hid (below_callS hb0 hb)
        clear hb X R
        clear hb0
        have x0 := X1.out.cell 0
        have x1 := X1.out.cell 1
        have x2 := X1.out.cell 2
        have xl := X1.out.lt
        simp only [List.getElem?_toArray, List.getElem?_cons_zero, List.getElem?_cons_succ] at x0 x1 x2
        go_wp2_with fail
        refine Calls.mono (K2.out _ HB1.out) ?_
        rintro e w2 ⟨rfl, hb⟩
        have X2 := Lib.hid (X1.out.keep hb)
        have R2 := Lib.hid (R1.out.keep hb)
        have HB2 := Lib.hid (below_callS HB1.out hb)
        clear hb X1 R1
        try clear x0 x1 x2 xl
        have x0 := X2.out.cell 0
        have x1 := X2.out.cell 1
        have x2 := X2.out.cell 2
        have xl := X2.out.lt
        simp only [List.getElem?_toArray, List.getElem?_cons_zero, List.getElem?_cons_succ] at x0 x1 x2
        go_wp2_with fail
        refine Calls.mono (K3.out _ HB2.out) ?_
        rintro e w3 ⟨rfl, hb⟩
        have X3 := Lib.hid (X2.out.keep hb)
        have R3 := Lib.hid (R2.out.keep hb)
        have HB3 := Lib.hid (below_callS HB2.out hb)
        clear hb X2 R2
        try clear x0 x1 x2 xl
        have x0 := X3.out.cell 0
        have x1 := X3.out.cell 1
        have x2 := X3.out.cell 2
        have xl := X3.out.lt
        simp only [List.getElem?_toArray, List.getElem?_cons_zero, List.getElem?_cons_succ] at x0 x1 x2
        go_wp2_with fail
        refine Calls.mono (K4.out _ HB3.out) ?_
        rintro e w4 ⟨da, dc, rfl, hO, hb⟩
        have R4 := Lib.hid (R3.out.keep hb)
        have HB4 := Lib.hid (below_callS HB3.out hb)
        have hs4 := hb.size
        have hs3 := HB3.out.size
        have O4 := Lib.hid hO
        have hrl3 := R3.out.lt
        clear hb hO X3 R3 x0 x1 x2 xl
        have r0 := R4.out.cell 0
        have r1 := R4.out.cell 1
        have r2 := R4.out.cell 2
        have rl := R4.out.lt
        have rf := R4.out.free
        simp only [List.getElem?_toArray, List.getElem?_cons_zero, List.getElem?_cons_succ] at r0 r1 r2
        have hgt : ¬ (2000 : Int) < (TL.length : Int) := by omega
        go_wp2
        have hne : ∀ y, da = some ⟨y, 0, none⟩ → (some (w.heap.size + 1) : Option Nat) ≠ some y := fun y e e' => by
          have := (O4.out.blk y e).1
          have h3 := R4.out
          simp at e'
          have h9 := rl
          have h8 := hrl3
          omega
        have hbz : Below w.heap.size w w4 := HB4.out
        refine bodyPost_ret (v := .tuple #[.agg #[.int .i64 (offN sz sz.length : Int), .slice da TL.length dc, .int .i64 TR], .int .i64 0]) (by simp [results, Tryz.results29, go_sem, *]) rfl ⟨da, dc, by rw [HC.out], ?_, ?_⟩
        · rw [HC.out]
          exact ((((O4.out.keepG (set_grown _ _ _) hne).keepG (set_grown _ _ _) hne).keepG (set_grown _ _ _) hne).keep (below_alloc1 (Below.refl _ _) _)).le (by omega)
        · exact bel
end Go.Proofs.YtkaikbaagajckaaGreat
namespace Go.Proofs.YtkaikbaagajckaaGreat
open Go.RowKit
set_option linter.unusedVariables false
set_option linter.unusedSimpArgs false
attribute [local go_sem ↓] Go.wp_at_zero Go.wp_at_succ
/-- where a list lies -/
structure LnB where
  a : Option Addr
  n : Nat
  c : Nat
def encB1 (b : Bool) : List Value := [.bool b]
def encLB (x : LnB × List Bool) : List Value := [.slice x.1.a x.1.n x.1.c]
theorem encB1_one (y : Bool) : ∀ u ∈ encB1 y, u.oneCell' = true := fun u hu => by simp [encB1] at hu; subst hu; rfl
theorem encLB_one (y : LnB × List Bool) : ∀ u ∈ encLB y, u.oneCell' = true := fun u hu => by simp [encLB] at hu; subst hu; rfl
abbrev OwnB (E : TypeId) := OwnF 1 encB1 (fun _ => True) E
theorem Tryz.infobool : (Tryz.prog.info? 4).map (fun i => (i.zero, i.size, i.bytes)) = some (some (.bool false), 1, 1) := by kernel_rfl
theorem Tryz.infolb : (Tryz.prog.info? 191).map (fun i => (i.zero, i.size, i.bytes)) = some (some (.slice none 0 0), 1, 24) := by kernel_rfl
/-- a table that is the call's own -/
structure BRow (w : World) (lo : Nat) (a : Option Addr) (n c : Nat) (l : List (LnB × List Bool)) : Prop where
  row : OwnF 1 encLB (fun _ => True) 191 w lo a n c l
  each : ∀ x ∈ l, OwnB 4 w lo x.1.a x.1.n x.1.c x.2
theorem BRow.keep {w w' : World} {lo : Nat} {a : Option Addr} {n c : Nat} {l : List (LnB × List Bool)} (h : BRow w lo a n c l) (hb : Below w.heap.size w w') : BRow w' lo a n c l :=
  ⟨h.row.keep hb, fun x hx => (h.each x hx).keep hb⟩
theorem BRow.le {w : World} {lo lo' : Nat} {a : Option Addr} {n c : Nat} {l : List (LnB × List Bool)} (h : BRow w lo a n c l) (hl : lo' ≤ lo) : BRow w lo' a n c l :=
  ⟨h.row.le hl, fun x hx => (h.each x hx).le hl⟩
theorem ownF_apart {α β : Type} {k k' : Nat} {enc : α → List Value} {enc' : β → List Value} {ok : α → Prop} {ok' : β → Prop} {E E' : TypeId} {w w' : World} {base base' : Nat} {a a' : Option Addr} {n c n' c' m : Nat} {l : List α} {l' : List β} (h : OwnF k enc ok E w base a n c l) (h' : OwnF k' enc' ok' E' w base' a' n' c' l') (hE : E ≠ E') (ht : Touch w w' m a') : OwnF k enc ok E w' base a n c l :=
  h.keepT ht fun g e e' => by
    obtain ⟨c1, e1⟩ := h.typN e
    obtain ⟨c2, e2⟩ := h'.typN e'
    rw [e2] at e1
    simp only [Option.some.injEq, Obj.cells.injEq] at e1
    exact hE e1.2.1.symm
theorem BRow.touchB {w w' : World} {lo base m : Nat} {a a' : Option Addr} {n c n' c' : Nat} {l : List (LnB × List Bool)} {l' : List Bool} (h : BRow w lo a n c l) (h' : OwnB 4 w base a' n' c' l') (hd : ∀ x ∈ l, ∀ g, x.1.a = some ⟨g, 0, none⟩ → a' = some ⟨g, 0, none⟩ → False) (ht : Touch w w' m a') : BRow w' lo a n c l :=
  ⟨ownF_apart h.row h' (by decide) ht, fun x hx => (h.each x hx).keepT ht (hd x hx)⟩
/-- the lines that the tests allow -/
def lnB (sz : List Int) (g : List I2b) (j : Nat) : List Bool := (List.range (sz.getD j 0).toNat).map fun v : Nat => alB sz g j (v : Int)
theorem lnB_len (sz : List Int) (g : List I2b) (j : Nat) : (lnB sz g j).length = (sz.getD j 0).toNat := by simp [lnB]
theorem lnB_at {sz : List Int} {g : List I2b} {j v : Nat} (h : v < (sz.getD j 0).toNat) : (lnB sz g j)[v]? = some (alB sz g j (v : Int)) := range_get h
theorem lnB_take {sz : List Int} {g : List I2b} {j v : Nat} (h : v < (sz.getD j 0).toNat) : (lnB sz g j).take (v + 1) = (lnB sz g j).take v ++ [alB sz g j (v : Int)] := take_at (lnB_at h)
def tbB (sz : List Int) (g : List I2b) (k : Nat) : List (List Bool) := (List.range k).map (lnB sz g)
theorem tbB_next (sz : List Int) (g : List I2b) (k : Nat) : tbB sz g (k + 1) = tbB sz g k ++ [lnB sz g k] := by simp [tbB, List.range_succ]
theorem tsAny_step {g : List I2b} {j i : Nat} {v : Int} {x : I2b} (hx : g[i]? = some x) : ((g.take (i + 1)).any fun t => decide (t.a = (j : Int)) && (decide (v = t.b) != t.c)) = (((g.take i).any fun t => decide (t.a = (j : Int)) && (decide (v = t.b) != t.c)) || (decide (x.a = (j : Int)) && (decide (v = x.b) != x.c))) := by
  rw [take_at hx, List.any_append]; simp
set_option maxRecDepth 100000 in
set_option maxHeartbeats 8000000 in
theorem spec_l23Allowed {sa ta ra ga : Option Addr} {sn sc tn tc rn rc gn gc : Nat} {sz : List Int} {g : List I2b} {w : World} (hI : Ints w sa sn sc sz) (hn : sn ≤ 16) (hs : allIn 1 32 sz = true) (hG : F2b w ga gn gc g) (hg : gn ≤ 1048576) :
    Calls Tryz.prog 79 #[.agg #[.slice sa sn sc, .slice ta tn tc, .slice ra rn rc], .slice ga gn gc] w fun e w' => ∃ a c l, e = .returned (.slice a sn c) ∧ BRow w' w.heap.size a sn c l ∧ l.map (·.2) = tbB sz g sn ∧ Below w.heap.size w w' := by
  obtain rfl : sz.length = sn := hI.len
  obtain rfl : g.length = gn := hG.len
  have HI := Lib.hid hI
  have HS := Lib.hid hs
  have HG := Lib.hid hG
  have hb0 : Below w.heap.size w ((w.alloc (.cells #[.slice sa sz.length sc, .slice ta tn tc, .slice ra rn rc] 36)).alloc (.cells #[] 191)) := bel
  have X0 := Lib.hid ((Blk.made w #[.slice sa sz.length sc, .slice ta tn tc, .slice ra rn rc] 36).keep (below_alloc1 (Below.refl _ _) (.cells #[] 191)))
  have O0 := Lib.hid (show BRow ((w.alloc (.cells #[.slice sa sz.length sc, .slice ta tn tc, .slice ra rn rc] 36)).alloc (.cells #[] 191)) (w.heap.size + 1) (some ⟨w.heap.size + 1, 0, none⟩) 0 0 [] from ⟨(by
    have h := OwnF.emp (enc := encLB) (k := 1) (ok := fun _ => True) (E := 191) (base := w.heap.size + 1) (w.alloc (.cells #[.slice sa sz.length sc, .slice ta tn tc, .slice ra rn rc] 36)) (by simp) (fun _ => rfl)
    simpa using h), fun _ h => by cases h⟩)
  have HB0 := Lib.hid hb0
  clear hI hs hG hb0
  go_enter Tryz.func79, Tryz.ntmps79
  go_wp2_with fail
  go_loopw [5, 6] (fun s5 s6 wr => ∃ (k ga' gc' : Nat) (l : List (LnB × List Bool)), s5 = .slice (some ⟨ga', 0, none⟩) k gc' ∧ s6 = .int .i64 k ∧ k ≤ sz.length ∧ w.heap.size + 1 < wr.heap.size ∧ Hid (Below w.heap.size w wr) ∧ Hid (Blk wr w.heap.size #[.slice sa sz.length sc, .slice ta tn tc, .slice ra rn rc] 36) ∧ Hid (BRow wr (w.heap.size + 1) (some ⟨ga', 0, none⟩) k gc' l) ∧ Hid (l.map (·.2) = tbB sz g k)) (fun _ s6 _ => sz.length - (intOf s6).toNat)
  case atStart => exact ⟨0, _, 0, [], rfl, rfl, by omega, by simp, HB0, X0, O0, Lib.hid rfl⟩
  case round =>
    clear X0 O0 HB0
    obtain ⟨k, ga', gc', l, rfl, rfl, hk, hsr, HB, X, O, A⟩ := hrel
    obtain ⟨wo, hwo⟩ : ∃ x : World, x = wr := ⟨_, rfl⟩
    subst hwo
    have x0 := X.out.cell 0
    have xl := X.out.lt
    simp only [List.getElem?_toArray, List.getElem?_cons_zero] at x0
    by_cases hlt : k < sz.length
    · have hlt' : (k : Int) < (sz.length : Int) := by omega
      have hk0 : (0 : Int) ≤ (k : Int) := by omega
      obtain ⟨b1, o1, z, rfl, hb1, hz, hzc, _⟩ := (HI.out.keep HB.out).at hlt
      have hz2 := allIn_at HS.out hz
      have hgd : sz.getD k 0 = z := getD_of hz
      obtain ⟨zn, rfl⟩ : ∃ m : Nat, z = (m : Int) := ⟨z.toNat, by omega⟩
      have HLN := Lib.hid (show (sz.getD k 0).toNat = zn by rw [hgd]; omega)
      have hbl : Below wo.heap.size wo (wo.alloc (.cells #[] 4)) := below_alloc1 (Below.refl _ _) _
      have X1 := Lib.hid (X.out.keep hbl)
      have O1 := Lib.hid (O.out.keep hbl)
      have HB1 := Lib.hid (below_callS HB.out hbl)
      have L1 := Lib.hid (show OwnB 4 (wo.alloc (.cells #[] 4)) wo.heap.size (some ⟨wo.heap.size, 0, none⟩) 0 0 [] from OwnF.emp wo (Nat.le_refl _) (fun _ => rfl))
      have HOL := Lib.hid (show ∀ x ∈ l, ∀ g, x.1.a = some ⟨g, 0, none⟩ → g < wo.heap.size from fun x hx g e => ((O.out.each x hx).blk g e).2)
      clear hz hgd
      go_wp2_with fail
      clear x0 xl hbl
      go_loopw [7, 8] (fun s7 s8 wx => ∃ (v la lc : Nat), s7 = .slice (some ⟨la, 0, none⟩) v lc ∧ s8 = .int .i64 v ∧ v ≤ zn ∧ wo.heap.size < wx.heap.size ∧ Hid (Below w.heap.size w wx) ∧ Hid (Blk wx w.heap.size #[.slice (some ⟨b1, o1, none⟩) sz.length sc, .slice ta tn tc, .slice ra rn rc] 36) ∧ Hid (BRow wx (w.heap.size + 1) (some ⟨ga', 0, none⟩) k gc' l) ∧ Hid (OwnB 4 wx wo.heap.size (some ⟨la, 0, none⟩) v lc ((lnB sz g k).take v))) (fun _ s8 _ => zn - (intOf s8).toNat)
      case atStart => exact ⟨0, _, 0, rfl, rfl, by omega, by simp, HB1, X1, O1, L1⟩
      case round =>
        clear X1 O1 HB1 L1 X O HB hzc hb1
        obtain ⟨v, la, lc, rfl, rfl, hv, hsx, HB, X, O, L⟩ := hrel
        obtain ⟨wx, hwx⟩ : ∃ x : World, x = wr := ⟨_, rfl⟩
        subst hwx
        have x0 := X.out.cell 0
        have xl := X.out.lt
        simp only [List.getElem?_toArray, List.getElem?_cons_zero] at x0
        obtain ⟨b2, o2, z2, hb2e, hb2, hz, hzc, _⟩ := (HI.out.keep HB.out).at hlt
        cases hb2e
        have hz9 : z2 = (zn : Int) := by
          have h := HLN.out
          rw [getD_of hz] at h
          have := (allIn_at HS.out hz).1
          omega
        subst hz9
        clear hz
        by_cases hvl : v < zn
        · have hvl' : (v : Int) < (zn : Int) := by omega
          go_wp2_with fail
          clear x0 xl
          go_loopw [9, 10] (fun s9 s10 wy => ∃ (i : Nat), s9 = .bool (!((g.take i).any fun t => decide (t.a = (k : Int)) && (decide ((v : Int) = t.b) != t.c))) ∧ s10 = .int .i64 i ∧ i ≤ g.length ∧ Hid (Below wx.heap.size wx wy)) (fun _ s10 _ => g.length - (intOf s10).toNat)
          case atStart => exact ⟨0, rfl, rfl, by omega, Lib.hid (Below.refl _ _)⟩
          case round =>
            obtain ⟨i, rfl, rfl, hi, HY⟩ := hrel
            obtain ⟨wy, hwy⟩ : ∃ x : World, x = wr := ⟨_, rfl⟩
            subst hwy
            have HBY := Lib.hid (below_callS HB.out HY.out)
            by_cases hil : i < g.length
            · have hil' : (i : Int) < (g.length : Int) := by omega
              have hi0 : (0 : Int) ≤ (i : Int) := by omega
              obtain ⟨b3, o3, x, rfl, hb3, hx, hwf, c0, c1, c2⟩ := F2b.get (HG.out.keep HBY.out) hil
              have HST := Lib.hid (tsAny_step (j := k) (v := (v : Int)) hx)
              obtain ⟨AA, hAA⟩ : ∃ AA, ((g.take i).any fun t => decide (t.a = (k : Int)) && (decide ((v : Int) = t.b) != t.c)) = AA := ⟨_, rfl⟩
              rw [hAA] at HST ⊢
              obtain ⟨xa, xb, xc⟩ := x
              simp only at c0 c1 c2 HST
              clear hx hAA
              by_cases h1 : xa = (k : Int)
              · have e1 : (xa == (k : Int)) = true := by simpa using h1
                by_cases h2 : (v : Int) = xb
                · have e2 : (xb == (v : Int)) = true := by simpa using h2.symm
                  rw [decide_eq_true h1, decide_eq_true h2] at HST
                  clear h1 h2
                  cases xc
                  · go_wp2_with fail
                    go_quiet (fail)
                    go_wp2
                    go_roundw
                    case rel => exact ⟨i + 1, by rw [HST.out]; simp, by go_num, by omega, Lib.hid (below_drewN HY.out _)⟩
                    case measure => simp [intOf]; omega
                  · go_wp2_with fail
                    go_quiet (fail)
                    go_wp2
                    go_roundw
                    case rel => exact ⟨i + 1, by rw [HST.out]; simp, by go_num, by omega, Lib.hid (below_drewN HY.out _)⟩
                    case measure => simp [intOf]; omega
                · have e2 : (xb == (v : Int)) = false := by simpa using fun h => h2 h.symm
                  rw [decide_eq_true h1, decide_eq_false h2] at HST
                  clear h1 h2
                  cases xc
                  · go_wp2_with fail
                    go_quiet (fail)
                    go_wp2
                    go_roundw
                    case rel => exact ⟨i + 1, by rw [HST.out]; simp, by go_num, by omega, Lib.hid (below_drewN HY.out _)⟩
                    case measure => simp [intOf]; omega
                  · go_wp2_with fail
                    go_quiet (fail)
                    go_wp2
                    go_roundw
                    case rel => exact ⟨i + 1, by rw [HST.out]; simp, by go_num, by omega, Lib.hid (below_drewN HY.out _)⟩
                    case measure => simp [intOf]; omega
              · have e1 : (xa == (k : Int)) = false := by simpa using h1
                rw [decide_eq_false h1] at HST
                clear h1
                go_wp2_with fail
                go_quiet (fail)
                go_wp2
                go_roundw
                case rel => exact ⟨i + 1, by rw [HST.out]; simp, by go_num, by omega, Lib.hid (below_drewN HY.out _)⟩
                case measure => simp [intOf]; omega
            · have hig : i = g.length := by omega
              subst hig
              have hil' : ¬ (g.length : Int) < (g.length : Int) := by omega
              have HAL := Lib.hid (show alB sz g k (v : Int) = !((g.take g.length).any fun t => decide (t.a = (k : Int)) && (decide ((v : Int) = t.b) != t.c)) by
                rw [alB, List.take_length]
                have h := HLN.out
                have h3 : (v : Int) < sz.getD k 0 := by omega
                rw [decide_eq_true h3, Bool.true_and])
              rw [← HAL.out]
              have HTK := Lib.hid (lnB_take (sz := sz) (g := g) (j := k) (v := v) (by rw [HLN.out]; exact hvl))
              generalize alB sz g k (v : Int) = bb at *
              have XY := Lib.hid (X.out.keep HY.out)
              have OY := Lib.hid (O.out.keep HY.out)
              have LY := Lib.hid (L.out.keep HY.out)
              have hsy := HY.out.size
              clear HY X O L HB
              go_wp2_with (at_builtin; refine appAtL (k := 1) (m := 1) (enc := encB1) (ok := fun _ => True) rfl _ _ rfl Tryz.underlying191 Tryz.infobool rfl (by decide) (by decide) encB1_one wo.heap.size _ _ _ _ [bb] LY.out rfl _ rfl (by simp) rfl rfl (fun _ _ => trivial) (by decide) (by omega) (by decide) (by omega) ?_; intro g' c' wn ho hb hgr hat hsz; have ht : Touch wy wn 1 (some ⟨la, 0, none⟩) := ⟨_, hgr, fun b e => ⟨by decide, own_block LY.out.1 b e⟩⟩; have LN := Lib.hid ho; have XN := Lib.hid (XY.out.keepA ht (blk_ne XY.out LY.out.typN (by decide))); have ON := Lib.hid (OY.out.touchB LY.out (fun x hx q e e' => by (have h1 := HOL.out x hx q e; have h2 := (LY.out.blk q e').1; omega)) ht); have HBN := Lib.hid (show Below w.heap.size w wn from HBY.out.trans (hb.mono (by omega))); clear ho hb hgr hat ht)
              go_roundw
              case rel => exact ⟨v + 1, g', c', rfl, by go_num, by omega, by omega, HBN, XN, ON, Lib.hid (by rw [HTK.out]; exact LN.out)⟩
              case measure => simp [intOf]; omega
        · have hvz : v = zn := by omega
          subst hvz
          have hvl' : ¬ (v : Int) < (v : Int) := by omega
          have LE := Lib.hid (show OwnB 4 wx wo.heap.size (some ⟨la, 0, none⟩) v lc (lnB sz g k) from by
            have h := L.out
            rw [List.take_of_length_le (by rw [lnB_len, HLN.out]; exact Nat.le_refl _)] at h
            exact h)
          clear L
          go_wp2_with (at_builtin; refine appAtL (k := 1) (m := 1) (enc := encLB) (ok := fun _ => True) rfl _ _ rfl Tryz.underlying112 Tryz.infolb rfl (by decide) (by decide) encLB_one (w.heap.size + 1) _ _ _ _ [(⟨some ⟨la, 0, none⟩, v, lc⟩, lnB sz g k)] O.out.row rfl _ rfl (by simp) rfl rfl (fun _ _ => trivial) (by decide) (by omega) (by decide) (by omega) ?_; intro g' c' wn ho hb hgr hat hsz; have ht : Touch wx wn 1 (some ⟨ga', 0, none⟩) := ⟨_, hgr, fun b e => ⟨by decide, own_block O.out.row.1 b e⟩⟩; have ON := Lib.hid (show BRow wn (w.heap.size + 1) (some ⟨g', 0, none⟩) (k + 1) c' (l ++ [(⟨some ⟨la, 0, none⟩, v, lc⟩, lnB sz g k)]) from ⟨ho, fun x hx => by (rcases List.mem_append.1 hx with hx | hx; exact ownF_apart (O.out.each x hx) O.out.row (by decide) ht; simp at hx; subst hx; exact (ownF_apart LE.out O.out.row (by decide) ht).le (by omega))⟩); have XN := Lib.hid (X.out.keepA ht (blk_ne X.out O.out.row.typN (by decide))); have HBN := Lib.hid (show Below w.heap.size w wn from HB.out.trans (hb.mono (by omega))); clear ho hb hgr hat ht)
          go_roundw
          case rel => exact ⟨k + 1, g', c', _, rfl, by go_num, by omega, by omega, HBN, XN, ON, Lib.hid (by rw [List.map_append, A.out, tbB_next]; rfl)⟩
          case measure => simp [intOf]; omega
    · have hkn : k = sz.length := by omega
      subst hkn
      have hlt' : ¬ (sz.length : Int) < (sz.length : Int) := by omega
      go_wp2
      go_ret
      exact ⟨_, _, rfl, l, O.out.le (by omega), A.out, HB.out⟩
end Go.Proofs.YtkaikbaagajckaaGreat
