/- Seatings of layer 28: the reference's two passes are the program's one. -/
import Derived.Test.YtijdcacplibmhaaL28d
namespace Go.Proofs.Ytijdcacplibmhaa
open Go.RowKit
set_option linter.unusedVariables false
set_option linter.unusedSimpArgs false
def seatS1 (l a m : Int) (hs ss : List Int) (R : Int) (i : Nat) : Bool :=
  ((inB (ss[i]?.getD 0) 0 (2 * R - 1) && !(verd l a m (hs[i]?.getD 0) == 0)) && !(verd l a m (hs[i]?.getD 0) == 3)) && !((ss.take i).any fun y => ss[i]?.getD 0 == y)
def seatS2 (l a m : Int) (hs ss : List Int) (i : Nat) : Bool :=
  !((verd l a m (hs[i]?.getD 0) == 1) && (decide (compF ss i (fun _ => true) < 0) || !(aloneP l a m hs (compF ss i (fun _ => true)))))
theorem idxF_get {α : Type} {p : α → Bool} {l : List α} (h : 0 ≤ idxF p l) : ∃ x, l[(idxF p l).toNat]? = some x ∧ p x = true := by
  induction l with
  | nil => simp [idxF] at h
  | cons x r ih =>
    unfold idxF at h ⊢
    by_cases hp : p x = true
    · rw [if_pos hp]; exact ⟨x, rfl, hp⟩
    · rw [if_neg hp] at h ⊢
      by_cases h0 : idxF p r < 0
      · rw [if_pos h0] at h; omega
      · rw [if_neg h0]
        obtain ⟨y, hy, hpy⟩ := ih (by omega)
        refine ⟨y, ?_, hpy⟩
        have e : (idxF p r + 1).toNat = (idxF p r).toNat + 1 := by omega
        rw [e]; exact hy
theorem compF_neg {l : List Int} {g : Nat} {p : Int → Bool} : compF l g p < 0 ↔ ∀ j, j < l.length → compAt l g p j = false := by
  have h := idxF_nonneg (compAt l g p) (List.range l.length)
  have e : compF l g p = idxF (compAt l g p) (List.range l.length) := rfl
  constructor
  · intro hlt j hj
    rw [e] at hlt
    have : (List.range l.length).any (compAt l g p) = false := by rw [← h]; exact decide_eq_false (by omega)
    rw [List.any_eq_false] at this
    simpa using this j (by simpa using hj)
  · intro hall
    apply Classical.byContradiction
    intro hn
    rw [e] at hn
    have : (List.range l.length).any (compAt l g p) = true := by rw [← h]; exact decide_eq_true (by omega)
    rw [List.any_eq_true] at this
    obtain ⟨j, hj, hp⟩ := this
    rw [hall j (by simpa using hj)] at hp
    cases hp
theorem compF_get {l : List Int} {g : Nat} {p : Int → Bool} (h : ¬ compF l g p < 0) : (compF l g p).toNat < l.length ∧ compAt l g p (compF l g p).toNat = true := by
  obtain ⟨x, hx, hp⟩ := idxF_get (p := compAt l g p) (l := List.range l.length) (show 0 ≤ compF l g p by omega)
  rw [List.getElem?_eq_some_iff] at hx
  obtain ⟨hlt, hx⟩ := hx
  simp at hx hlt
  have e : idxF (compAt l g p) (List.range l.length) = compF l g p := rfl
  rw [e] at hx hlt
  subst hx
  exact ⟨hlt, hp⟩
theorem same_row {x y z : Int} (hx : 0 ≤ x) (hy : 0 ≤ y) (hz : 0 ≤ z) (h1 : y.tdiv 2 = x.tdiv 2) (h2 : z.tdiv 2 = x.tdiv 2) (hyx : y ≠ x) (hzx : z ≠ x) : y = z := by
  rw [Int.tdiv_eq_ediv_of_nonneg hy, Int.tdiv_eq_ediv_of_nonneg hx] at h1
  rw [Int.tdiv_eq_ediv_of_nonneg hz, Int.tdiv_eq_ediv_of_nonneg hx] at h2
  omega
theorem seat_row {l a m R : Int} {hs ss : List Int} (h1 : ∀ i, i < ss.length → seatS1 l a m hs ss R i = true) {i : Nat} (hi : i < ss.length) : seatS2 l a m hs ss i = seatAt l a m hs ss R i := by
  have hpos : ∀ j, j < ss.length → 0 ≤ ss[j]?.getD 0 := fun j hj => by
    have h := h1 j hj
    simp only [seatS1, Bool.and_eq_true, inB, decide_eq_true_eq] at h
    exact h.1.1.1.1
  have hlt : ∀ j k, j < k → k < ss.length → ss[j]?.getD 0 ≠ ss[k]?.getD 0 := fun j k hjk hk e => by
    have h := h1 k hk
    simp only [seatS1, Bool.and_eq_true, Bool.not_eq_true', List.any_eq_false, beq_iff_eq] at h
    refine h.2 (ss[j]?.getD 0) ?_ e.symm
    have hj : j < ss.length := by omega
    rw [List.getElem?_eq_getElem hj]
    exact List.mem_take_iff_getElem.2 ⟨j, by omega, rfl⟩
  have hdis : ∀ j k, j ≠ k → j < ss.length → k < ss.length → ss[j]?.getD 0 ≠ ss[k]?.getD 0 := fun j k hjk hj hk => by
    rcases Nat.lt_or_ge j k with h | h
    · exact hlt j k h hk
    · exact fun e => hlt k j (by omega) hj e.symm
  have h := h1 i hi
  have hcmp : decide (compF ss i (aloneP l a m hs) < 0) = (decide (compF ss i (fun _ => true) < 0) || !(aloneP l a m hs (compF ss i (fun _ => true)))) := by
    by_cases hq : compF ss i (fun _ => true) < 0
    · rw [decide_eq_true hq, Bool.true_or]
      apply decide_eq_true
      rw [compF_neg] at hq ⊢
      intro j hj
      have := hq j hj
      unfold compAt at this ⊢
      rw [Bool.and_true] at this
      rw [this]; rfl
    · rw [decide_eq_false hq, Bool.false_or]
      obtain ⟨hj0, hc0⟩ := compF_get hq
      have hq0 : ((compF ss i (fun _ => true)).toNat : Int) = compF ss i (fun _ => true) := by omega
      generalize compF ss i (fun _ => true) = q at *
      unfold compAt at hc0
      simp only [Bool.and_true, Bool.and_eq_true, bne_iff_ne, ne_eq, beq_iff_eq] at hc0
      have huniq : ∀ j, j < ss.length → compAt ss i (fun _ => true) j = true → j = q.toNat := fun j hj hc => by
        unfold compAt at hc
        simp only [Bool.and_true, Bool.and_eq_true, bne_iff_ne, ne_eq, beq_iff_eq] at hc
        apply Classical.byContradiction
        intro hne
        exact hdis j q.toNat hne hj hj0 (same_row (hpos i hi) (hpos j hj) (hpos _ hj0) hc.2 hc0.2 (hdis j i (by omega) hj hi) (hdis _ i (by omega) hj0 hi))
      cases hal : aloneP l a m hs q
      · apply decide_eq_true
        rw [compF_neg]
        intro j hj
        apply Classical.byContradiction
        intro hn
        have hn' : compAt ss i (aloneP l a m hs) j = true := by simpa using hn
        unfold compAt at hn'
        rw [Bool.and_eq_true] at hn'
        have := huniq j hj (by unfold compAt; rw [hn'.1]; rfl)
        subst this
        rw [hq0, hal] at hn'
        exact absurd hn'.2 (by decide)
      · apply decide_eq_false
        rw [compF_neg]
        intro hall
        have := hall q.toNat hj0
        unfold compAt at this
        rw [hq0, hal, Bool.and_true] at this
        have e : (((q : Int) != (i : Int)) && (ss[q.toNat]?.getD 0).tdiv 2 == (ss[i]?.getD 0).tdiv 2) = true := by
          rw [Bool.and_eq_true, bne_iff_ne, beq_iff_eq]
          exact ⟨by omega, hc0.2⟩
        rw [e] at this
        cases this
  rw [seatS2, seatAt, hcmp]
  simp only [seatS1, Bool.and_eq_true, Bool.not_eq_true'] at h
  obtain ⟨⟨⟨h11, h12⟩, h13⟩, h14⟩ := h
  rw [h11, h14]
  rcases verd_cases l a m (hs[i]?.getD 0) with hv | hv | hv | hv
  · rw [hv] at h12; exact absurd h12 (by decide)
  · rw [hv]; rfl
  · rw [hv]; rfl
  · rw [hv] at h13; exact absurd h13 (by decide)
theorem seat_two (l a m R : Int) (hs ss : List Int) : ((List.range ss.length).all (seatS1 l a m hs ss R) && (List.range ss.length).all (seatS2 l a m hs ss)) = (List.range ss.length).all (seatAt l a m hs ss R) := by
  cases h1 : (List.range ss.length).all (seatS1 l a m hs ss R)
  · rw [Bool.false_and]
    symm
    rw [List.all_eq_false] at h1
    obtain ⟨i, hi, h⟩ := h1
    refine rall_false (by simpa using hi) ?_
    have h' : seatS1 l a m hs ss R i = false := by simpa using h
    unfold seatS1 at h'
    unfold seatAt
    cases e1 : inB (ss[i]?.getD 0) 0 (2 * R - 1)
    · rfl
    · cases e2 : ((ss.take i).any fun y => ss[i]?.getD 0 == y)
      · rw [e1, e2] at h'
        rcases verd_cases l a m (hs[i]?.getD 0) with hv | hv | hv | hv
        · rw [hv]; rfl
        · rw [hv] at h'; exact absurd h' (by decide)
        · rw [hv] at h'; exact absurd h' (by decide)
        · rw [hv]; rfl
      · rfl
  · rw [Bool.true_and]
    rw [List.all_eq_true] at h1
    rw [Bool.eq_iff_iff, List.all_eq_true, List.all_eq_true]
    have h1' : ∀ i, i < ss.length → seatS1 l a m hs ss R i = true := fun i hi => h1 i (by simpa using hi)
    constructor
    · intro h i hi
      rw [← seat_row h1' (by simpa using hi)]; exact h i hi
    · intro h i hi
      rw [seat_row h1' (by simpa using hi)]; exact h i hi
end Go.Proofs.Ytijdcacplibmhaa
