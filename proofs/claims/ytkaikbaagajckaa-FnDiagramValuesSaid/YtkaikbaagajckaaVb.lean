/- Decision diagrams: what is valid, and that both ways to tell agree: plain laws. -/
import Derived.Test.YtkaikbaagajckaaVa
namespace Go.Proofs.Ytkaikbaagajckaa
open Go.RowKit
set_option linter.unusedVariables false
set_option linter.unusedSimpArgs false
theorem wlk_nodup {N : List I3} : ∀ (f r : Nat) (D : List I3) (P : Nms), D.Nodup → (wlkN mkN N f (D, P) r).1.Nodup := by
  intro f
  induction f with
  | zero => intro r D P h; exact h
  | succ f ih =>
    intro r D P h
    rw [wlkN]
    split
    · exact h
    · split
      · exact h
      · split
        · exact h
        · rename_i x hx
          exact mkN_nodup (ih _ _ _ (ih _ _ _ h)) _ _ _
/-- more fuel than the reference needs changes nothing -/
theorem wlk_fuel {mkf : List I3 → Int → Int → Int → List I3 × Int} {N : List I3} (hF : Frst N) : ∀ (f g r : Nat) (s : List I3 × Nms), r ≤ f → r ≤ g → wlkN mkf N f s r = wlkN mkf N g s r := by
  intro f
  induction f with
  | zero =>
    intro g r s hf hg
    rw [wlk_low _ _ _ _ (by omega), wlk_low _ _ _ _ (by omega)]
  | succ f ih =>
    intro g r s hf hg
    by_cases hr : r < 2
    · rw [wlk_low _ _ _ _ hr, wlk_low _ _ _ _ hr]
    · obtain ⟨g, rfl⟩ : ∃ g', g = g' + 1 := ⟨g - 1, by omega⟩
      by_cases hp : s.2 r > 0
      · rw [wlk_old _ _ _ _ hr hp, wlk_old _ _ _ _ hr hp]
      · cases hx : N[r - 2]? with
        | none => rw [wlkN, wlkN, if_neg hr, if_neg hr, if_neg hp, if_neg hp, hx]
        | some x =>
          have h3 := hF.low _ _ hx
          have h4 := hF.high _ _ hx
          unfold RefB at h3 h4
          rw [wlk_new _ _ _ _ hr hp hx, wlk_new _ _ _ _ hr hp hx, ih g x.b.toNat s (by omega) (by omega), ih g x.c.toNat _ (by omega) (by omega)]
/-- the canonical nodes of a root, and the root's reference -/
def canN (mkf : List I3 → Int → Int → Int → List I3 × Int) (N : List I3) (root : Int) : List I3 × Int :=
  ((wlkN mkf N root.toNat ([], fun _ => 0) root.toNat).1, (wlkN mkf N root.toNat ([], fun _ => 0) root.toNat).2.2)
/-- different nodes with different branches, each behind those that it refers to -/
structure Redu (L : List I3) : Prop where
  nodup : L.Nodup
  frst : Frst L
  diff : ∀ x ∈ L, x.b ≠ x.c
theorem Redu.nil : Redu [] := ⟨List.nodup_nil, Frst.nil, fun x h => by cases h⟩
theorem Redu.add {L : List I3} (h : Redu L) {i lo hi : Int} (hl : RefB lo L.length) (hh : RefB hi L.length) : Redu (mkN L i lo hi).1 := by
  refine ⟨mkN_nodup h.nodup _ _ _, (h.frst.add hl hh).1, fun x hx => ?_⟩
  unfold mkN at hx
  split at hx
  · exact h.diff x hx
  · rename_i hne
    split at hx
    · exact h.diff x hx
    · rcases List.mem_append.1 hx with h1 | h1
      · exact h.diff x h1
      · simp at h1
        rw [h1]; exact hne
theorem can_same {N : List I3} (h : Redu N) {root : Int} (hr : RefB root N.length) : canN mkN N root = canN appN N root := by
  obtain ⟨h1, _⟩ := wlk_same h.nodup h.frst h.diff root.toNat root.toNat [] (fun _ => 0) (Nat.le_refl _) (by unfold RefB at hr; omega) (WkI.start N)
  rw [canN, canN, h1]
/-- the input of a reference, n for a constant -/
def lvlN (n : Int) (L : List I3) (r : Int) : Int := if r < 2 then n else (L.getD (r - 2).toNat ⟨0, 0, 0⟩).a
def ndB (n : Int) (L : List I3) (i : Nat) : Bool := inB (L.getD i ⟨0, 0, 0⟩).a 0 (n - 1) && inB (L.getD i ⟨0, 0, 0⟩).b 0 ((i : Int) + 1) && inB (L.getD i ⟨0, 0, 0⟩).c 0 ((i : Int) + 1) && ((L.getD i ⟨0, 0, 0⟩).b != (L.getD i ⟨0, 0, 0⟩).c) && decide ((L.getD i ⟨0, 0, 0⟩).a < lvlN n L (L.getD i ⟨0, 0, 0⟩).b) && decide ((L.getD i ⟨0, 0, 0⟩).a < lvlN n L (L.getD i ⟨0, 0, 0⟩).c)
def dia0 (n : Int) (L : List I3) (root : Int) : Bool := inB n 0 20 && decide (L.length ≤ 2000) && inB root 0 ((L.length : Int) + 1)
/-- a valid diagram -/
def diaB (n : Int) (L : List I3) (root : Int) : Bool := dia0 n L root && upB (ndB n L) L.length && decide (canN mkN L root = (L, root))
structure NdOk (n : Int) (L : List I3) (i : Nat) (x : I3) : Prop where
  inp : 0 ≤ x.a ∧ x.a ≤ n - 1
  low : 0 ≤ x.b ∧ x.b ≤ (i : Int) + 1
  high : 0 ≤ x.c ∧ x.c ≤ (i : Int) + 1
  ne : x.b ≠ x.c
  lb : x.a < lvlN n L x.b
  lc : x.a < lvlN n L x.c
theorem ndB_iff {n : Int} {L : List I3} {i : Nat} {x : I3} (hx : L[i]? = some x) : ndB n L i = true ↔ NdOk n L i x := by
  have e : L.getD i ⟨0, 0, 0⟩ = x := by rw [List.getD_eq_getElem?_getD, hx]; rfl
  rw [ndB, e]
  simp only [Bool.and_eq_true, inB, decide_eq_true_eq, bne_iff_ne]
  constructor
  · rintro ⟨⟨⟨⟨⟨h1, h2⟩, h3⟩, h4⟩, h5⟩, h6⟩
    exact ⟨h1, h2, h3, h4, h5, h6⟩
  · rintro ⟨h1, h2, h3, h4, h5, h6⟩
    exact ⟨⟨⟨⟨⟨h1, h2⟩, h3⟩, h4⟩, h5⟩, h6⟩
theorem upB_at {p : Nat → Bool} {n i : Nat} (h : upB p n = true) (hi : i < n) : p i = true := by
  rw [upB, List.all_eq_true] at h
  exact h i (List.mem_range.2 hi)
theorem nds_frst {n : Int} {L : List I3} (h : upB (ndB n L) L.length = true) : Frst L ∧ ∀ x ∈ L, x.b ≠ x.c := by
  refine ⟨⟨fun i x hx => ?_, fun i x hx => ?_⟩, fun x hx => ?_⟩
  · have := (ndB_iff hx).1 (upB_at h (List.getElem?_eq_some_iff.1 hx).1)
    exact ⟨this.low.1, by have := this.low.2; omega⟩
  · have := (ndB_iff hx).1 (upB_at h (List.getElem?_eq_some_iff.1 hx).1)
    exact ⟨this.high.1, by have := this.high.2; omega⟩
  · obtain ⟨i, hi⟩ := List.getElem?_of_mem hx
    exact ((ndB_iff hi).1 (upB_at h (List.getElem?_eq_some_iff.1 hi).1)).ne
/-- the program's way: nodes are different, and the walk appends -/
theorem dia_impl {n : Int} {L : List I3} {root : Int} : diaB n L root = (dia0 n L root && upB (ndB n L) L.length && decide L.Nodup && decide (canN appN L root = (L, root))) := by
  rw [diaB]
  cases h0 : dia0 n L root
  · rfl
  cases h1 : upB (ndB n L) L.length
  · rfl
  obtain ⟨hF, hR⟩ := nds_frst h1
  simp only [Bool.true_and]
  by_cases hd : L.Nodup
  · rw [decide_eq_true hd, Bool.true_and]
    have hr : RefB root L.length := by
      have h9 := h0
      rw [dia0, Bool.and_eq_true, Bool.and_eq_true, inB, inB, Bool.and_eq_true, Bool.and_eq_true] at h9
      simp only [decide_eq_true_eq] at h9
      exact ⟨h9.2.1, by have := h9.2.2; omega⟩
    rw [can_same ⟨hd, hF, hR⟩ hr]
  · rw [decide_eq_false hd, Bool.false_and, decide_eq_false]
    intro e
    have := wlk_nodup (N := L) root.toNat root.toNat [] (fun _ => 0) List.nodup_nil
    rw [canN, Prod.mk.injEq] at e
    rw [e.1] at this
    exact hd this
theorem dia_redu {n : Int} {L : List I3} {root : Int} (h : diaB n L root = true) : Redu L ∧ RefB root L.length ∧ 0 ≤ n ∧ n ≤ 20 ∧ L.length ≤ 2000 ∧ canN mkN L root = (L, root) ∧ ∀ (i : Nat) (x : I3), L[i]? = some x → NdOk n L i x := by
  rw [dia_impl] at h
  simp only [Bool.and_eq_true, decide_eq_true_eq] at h
  obtain ⟨⟨⟨h0, h1⟩, h2⟩, h3⟩ := h
  obtain ⟨hF, hR⟩ := nds_frst h1
  have h00 := h0
  rw [dia0, Bool.and_eq_true, Bool.and_eq_true, inB, inB, Bool.and_eq_true, Bool.and_eq_true] at h0
  simp only [decide_eq_true_eq] at h0
  obtain ⟨⟨h4, h5⟩, h6⟩ := h0
  have hr : RefB root L.length := ⟨h6.1, by have := h6.2; omega⟩
  exact ⟨⟨h2, hF, hR⟩, hr, h4.1, h4.2, h5, by rw [can_same ⟨h2, hF, hR⟩ hr]; exact h3, fun i x hx => (ndB_iff hx).1 (upB_at h1 (List.getElem?_eq_some_iff.1 hx).1)⟩
end Go.Proofs.Ytkaikbaagajckaa
