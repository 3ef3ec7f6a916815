/- Decision diagrams: the reference's walk, over nodes that need not be different: plain laws. -/
import Derived.Test.YtkaikbaagajckaaVb
namespace Go.Proofs.Ytkaikbaagajckaa
open Go.RowKit
set_option linter.unusedVariables false
set_option linter.unusedSimpArgs false
/-- how many references below m have a name -/
def nmC (P : Nms) : Nat → Nat
  | 0 => 0
  | m + 1 => nmC P m + (if P m > 0 then 1 else 0)
theorem nmC_le (P : Nms) : ∀ m, nmC P m ≤ m
  | 0 => Nat.le_refl _
  | m + 1 => by
    have := nmC_le P m
    rw [nmC]
    split <;> omega
theorem nmC_far {P : Nms} {r : Nat} {v : Int} : ∀ m, m ≤ r → nmC (fun q => if q = r then v else P q) m = nmC P m
  | 0, _ => rfl
  | m + 1, h => by
    rw [nmC, nmC, nmC_far m (by omega), if_neg (show ¬ m = r by omega)]
theorem nmC_new {P : Nms} {r : Nat} {v : Int} (h : ¬ P r > 0) (hv : v > 0) : ∀ m, r < m → nmC (fun q => if q = r then v else P q) m = nmC P m + 1
  | 0, hr => by omega
  | m + 1, hr => by
    rw [nmC, nmC]
    by_cases e : m = r
    · subst e
      rw [nmC_far m (Nat.le_refl _), if_pos rfl, if_pos hv, if_neg h]
    · rw [nmC_new h hv m (by omega), if_neg e]; omega
theorem nmC_ge {P : Nms} {r : Nat} {v : Int} (h : ¬ P r > 0) : ∀ m, nmC P m ≤ nmC (fun q => if q = r then v else P q) m
  | 0 => Nat.le_refl _
  | m + 1 => by
    have := nmC_ge (v := v) h m
    rw [nmC, nmC]
    by_cases e : m = r
    · subst e
      rw [if_neg h]; omega
    · rw [if_neg e]; omega
structure WmI (N D : List I3) (P : Nms) : Prop where
  frst : Frst D
  nm : ∀ q, RefB (P q) D.length
  few : D.length ≤ nmC P (N.length + 2)
theorem WmI.start (N : List I3) : WmI N [] (fun _ => 0) := ⟨Frst.nil, fun q => ⟨by omega, by simp⟩, by simp⟩
theorem WmI.len {N D : List I3} {P : Nms} (h : WmI N D P) : D.length ≤ N.length + 2 := Nat.le_trans h.few (nmC_le _ _)
structure WmR (N : List I3) (D : List I3) (P : Nms) (r : Nat) (A : List I3 × Nms × Int) : Prop where
  inv : WmI N A.1 A.2.1
  ref : RefB A.2.2 A.1.length
  far : ∀ q, r < q → A.2.1 q = P q
  len : D.length ≤ A.1.length
theorem wm_inv {N : List I3} (hF : Frst N) : ∀ (f r : Nat) (D : List I3) (P : Nms), r ≤ f → r < N.length + 2 → WmI N D P → WmR N D P r (wlkN mkN N f (D, P) r) := by
  intro f
  induction f with
  | zero =>
    intro r D P hr hrn h
    rw [wlk_low _ _ _ _ (show r < 2 by omega)]
    exact ⟨h, ⟨by simp only; omega, by simp only; omega⟩, fun q _ => rfl, Nat.le_refl _⟩
  | succ f ih =>
    intro r D P hr hrn h
    by_cases h2 : r < 2
    · rw [wlk_low _ _ _ _ h2]
      exact ⟨h, ⟨by simp only; omega, by simp only; omega⟩, fun q _ => rfl, Nat.le_refl _⟩
    by_cases hp : P r > 0
    · rw [wlk_old _ _ _ _ h2 hp]
      exact ⟨h, h.nm r, fun q _ => rfl, Nat.le_refl _⟩
    obtain ⟨x, hx⟩ : ∃ x, N[r - 2]? = some x := ⟨_, List.getElem?_eq_getElem (by omega)⟩
    have h3 := hF.low _ _ hx
    have h4 := hF.high _ _ hx
    unfold RefB at h3 h4
    have R1 := ih x.b.toNat D P (by omega) (by omega) h
    rw [wlk_new _ _ _ _ h2 hp hx]
    generalize wlkN mkN N f (D, P) x.b.toNat = A at *
    obtain ⟨D1, P1, r1⟩ := A
    have R2 := ih x.c.toNat D1 P1 (by omega) (by omega) R1.inv
    simp only at R1 R2 ⊢
    generalize wlkN mkN N f (D1, P1) x.c.toNat = B at *
    obtain ⟨D2, P2, r2⟩ := B
    have q1 : RefB r1 D2.length := R1.ref.mono R2.len
    have q2 : RefB r2 D2.length := R2.ref
    have hpr : ¬ P2 r > 0 := by
      have e2 : P2 r = P1 r := R2.far r (by omega)
      have e1 : P1 r = P r := R1.far r (by omega)
      rw [e2, e1]; exact hp
    have hA := R2.inv.frst.add (i := x.a) q1 q2
    have hl1 : D.length ≤ D1.length := R1.len
    have hl2 : D1.length ≤ D2.length := R2.len
    have hf1 := R1.far
    have hf2 := R2.far
    have hnm := R2.inv.nm
    have hfw := R2.inv.few
    simp only at hA hf1 hf2 hnm hfw ⊢
    obtain ⟨t, ht, ht1⟩ := mkN_pre D2 x.a r1 r2
    have hl3 : D2.length ≤ (mkN D2 x.a r1 r2).1.length := by rw [ht, List.length_append]; omega
    refine ⟨⟨hA.1, fun q => ?_, ?_⟩, hA.2, fun q hq => ?_, by simp only; omega⟩
    · simp only
      split
      · exact hA.2
      · exact (hnm q).mono hl3
    · simp only
      by_cases he : r1 = r2
      · rw [mkN_eq he]
        exact Nat.le_trans hfw (nmC_ge hpr _)
      · cases hpos : posN ⟨x.a, r1, r2⟩ D2 with
        | some k =>
          rw [mkN_old he hpos]
          exact Nat.le_trans hfw (nmC_ge hpr _)
        | none =>
          rw [mkN_new he (posN_none.1 hpos)]
          have e9 := nmC_new (P := P2) (r := r) (v := (D2.length : Int) + 2) hpr (by omega) (N.length + 2) (by omega)
          simp only [List.length_append, List.length_cons, List.length_nil]
          rw [e9]; omega
    · simp only
      rw [if_neg (by omega), hf2 q (by omega), hf1 q (by omega)]
theorem canm_ref {N : List I3} (hF : Frst N) {root : Int} (hr : RefB root N.length) : Frst (canN mkN N root).1 ∧ RefB (canN mkN N root).2 (canN mkN N root).1.length ∧ (canN mkN N root).1.length ≤ N.length + 2 := by
  have h := wm_inv hF root.toNat root.toNat [] (fun _ => 0) (Nat.le_refl _) (by unfold RefB at hr; omega) (WmI.start N)
  exact ⟨h.inv.frst, h.ref, h.inv.len⟩
/-- the names as the reference keeps them -/
def nmsL (P : Nms) (m : Nat) : List Int := (List.range m).map P
theorem nmsL_len (P : Nms) (m : Nat) : (nmsL P m).length = m := by simp [nmsL]
theorem nmsL_at (P : Nms) {m r : Nat} (h : r < m) : (nmsL P m)[r]? = some (P r) := by simp [nmsL, h]
theorem nmsL_set (P : Nms) {m r : Nat} (h : r < m) (v : Int) : (nmsL P m).set r v = nmsL (fun q => if q = r then v else P q) m := by
  apply List.ext_getElem?
  intro i
  rw [List.getElem?_set]
  by_cases hi : i < m
  · rw [nmsL_at _ hi, nmsL_len, nmsL_at _ hi]
    by_cases e : r = i
    · rw [if_pos e, if_pos h, if_pos e.symm]
    · rw [if_neg e, if_neg (fun h => e h.symm)]
  · rw [List.getElem?_eq_none (by rw [nmsL_len]; omega), List.getElem?_eq_none (l := nmsL (fun q => if q = r then v else P q) m) (by rw [nmsL_len]; omega)]
    by_cases e : r = i
    · omega
    · rw [if_neg e]
theorem nmsL_zero (m : Nat) : nmsL (fun _ => 0) m = List.replicate m 0 := by
  apply List.ext_getElem?
  intro i
  by_cases hi : i < m
  · rw [nmsL_at _ hi, List.getElem?_replicate, if_pos hi]
  · rw [List.getElem?_eq_none (by rw [nmsL_len]; omega), List.getElem?_replicate, if_neg hi]
end Go.Proofs.Ytkaikbaagajckaa
