/- Decision diagrams: the diagram with the other value everywhere: plain laws. -/
import Derived.Test.YtkaikbaagajckaaVf
namespace Go.Proofs.Ytkaikbaagajckaa
open Go.RowKit
set_option linter.unusedVariables false
set_option linter.unusedSimpArgs false
def flpR (r : Int) : Int := if r < 2 then 1 - r else r
def flpN (x : I3) : I3 := ⟨x.a, flpR x.b, flpR x.c⟩
theorem flp_low {r : Int} (h : r < 2) : flpR r = 1 - r := if_pos h
theorem flp_high {r : Int} (h : ¬ r < 2) : flpR r = r := if_neg h
theorem flp_ref {r : Int} {n : Nat} (h : RefB r n) : RefB (flpR r) n := by
  unfold RefB at *
  by_cases h2 : r < 2
  · rw [flp_low h2]; omega
  · rw [flp_high h2]; exact h
theorem flp_inj {r s : Int} (hr : 0 ≤ r) (hs : 0 ≤ s) (h : flpR r = flpR s) : r = s := by
  unfold flpR at h
  split at h <;> split at h <;> omega
theorem flp_ne {r s : Int} (hr : 0 ≤ r) (hs : 0 ≤ s) (h : r ≠ s) : flpR r ≠ flpR s := fun e => h (flp_inj hr hs e)
theorem flp_again {r : Int} (hr : 0 ≤ r) : flpR (flpR r) = r := by
  by_cases h : r < 2
  · rw [flp_low h, flp_low (by omega)]; omega
  · rw [flp_high h, flp_high h]
theorem posN_flp {x : I3} : ∀ {L : List I3}, (∀ y ∈ L, 0 ≤ y.b ∧ 0 ≤ y.c) → 0 ≤ x.b → 0 ≤ x.c → posN (flpN x) (L.map flpN) = posN x L
  | [], _, _, _ => rfl
  | y :: r, h, h1, h2 => by
    have hy := h y (List.mem_cons_self ..)
    rw [List.map_cons, posN, posN, posN_flp (fun z hz => h z (List.mem_cons_of_mem _ hz)) h1 h2]
    by_cases e : y = x
    · rw [if_pos e, if_pos (by rw [e])]
    · rw [if_neg e, if_neg]
      intro e2
      simp only [flpN, I3.mk.injEq] at e2
      apply e
      rw [I3.eta y, I3.eta x, e2.1, flp_inj hy.1 h1 e2.2.1, flp_inj hy.2 h2 e2.2.2]
theorem frst_nonneg {L : List I3} (h : Frst L) : ∀ y ∈ L, 0 ≤ y.b ∧ 0 ≤ y.c := fun y hy => by
  obtain ⟨i, hi⟩ := List.getElem?_of_mem hy
  exact ⟨(h.low i y hi).1, (h.high i y hi).1⟩
theorem mkN_flp {D : List I3} (hF : Frst D) {i lo hi : Int} (hl : 0 ≤ lo) (hh : 0 ≤ hi) : mkN (D.map flpN) i (flpR lo) (flpR hi) = ((mkN D i lo hi).1.map flpN, flpR (mkN D i lo hi).2) := by
  by_cases he : lo = hi
  · rw [he, mkN_eq rfl, mkN_eq rfl]
  have he2 := flp_ne hl hh he
  have hpf := posN_flp (x := ⟨i, lo, hi⟩) (frst_nonneg hF) hl hh
  cases hp : posN ⟨i, lo, hi⟩ D with
  | some k =>
    rw [hp] at hpf
    rw [mkN_old he hp, mkN_old he2 hpf]
    simp only
    rw [flp_high (by omega)]
  | none =>
    rw [hp] at hpf
    rw [mkN_new he (posN_none.1 hp), mkN_new he2 (posN_none.1 hpf)]
    simp only [List.map_append, List.map_cons, List.map_nil, List.length_map, flpN]
    rw [flp_high (r := (D.length : Int) + 2) (by omega)]
theorem flp_get {N : List I3} {k : Nat} {x : I3} (h : N[k]? = some x) : (N.map flpN)[k]? = some (flpN x) := by rw [List.getElem?_map, h]; rfl
theorem wlk_flp {N : List I3} (hR : Redu N) : ∀ (f : Nat) (b : Int) (D : List I3) (P : Nms), 0 ≤ b → b.toNat ≤ f → b.toNat < N.length + 2 → WkI N D P →
    wlkN mkN (N.map flpN) f (D.map flpN, P) (flpR b).toNat = ((wlkN mkN N f (D, P) b.toNat).1.map flpN, (wlkN mkN N f (D, P) b.toNat).2.1, flpR (wlkN mkN N f (D, P) b.toNat).2.2) := by
  intro f
  induction f with
  | zero =>
    intro b D P h0 hb hn hW
    rw [flp_low (by omega), wlk_low _ _ _ _ (show (1 - b).toNat < 2 by omega), wlk_low _ _ _ _ (show b.toNat < 2 by omega)]
    simp only
    rw [flp_low (by omega), show ((1 - b).toNat : Int) = 1 - (b.toNat : Int) by omega]
  | succ f ih =>
    intro b D P h0 hb hn hW
    by_cases h2 : b < 2
    · rw [flp_low h2, wlk_low _ _ _ _ (show (1 - b).toNat < 2 by omega), wlk_low _ _ _ _ (show b.toNat < 2 by omega)]
      simp only
      rw [flp_low (by omega), show ((1 - b).toNat : Int) = 1 - (b.toNat : Int) by omega]
    rw [flp_high h2]
    obtain ⟨r, hr⟩ : ∃ r, b.toNat = r := ⟨_, rfl⟩
    rw [hr] at hb hn ⊢
    have hr2 : ¬ r < 2 := by omega
    by_cases hp : P r > 0
    · rw [wlk_old _ _ _ _ hr2 hp, wlk_old _ _ _ _ hr2 hp]
      simp only
      rw [flp_high (by have := hW.ge2 hp; omega)]
    obtain ⟨x, hx⟩ : ∃ x, N[r - 2]? = some x := ⟨_, List.getElem?_eq_getElem (by omega)⟩
    have h3 := hR.frst.low _ _ hx
    have h4 := hR.frst.high _ _ hx
    unfold RefB at h3 h4
    have hge : 2 ≤ (wlkN mkN N (f + 1) (D, P) r).2.2 := by
      obtain ⟨s3, R3⟩ := wlk_same hR.nodup hR.frst hR.diff (f + 1) r D P (by omega) (by omega) hW
      have hvis := R3.vis (by omega)
      have hg := R3.inv.ge2 hvis
      have hrf := R3.ref
      rw [rvN, if_neg (by omega), Int.toNat_natCast] at hrf
      rw [s3, hrf]; exact hg
    obtain ⟨s1, R1⟩ := wlk_same hR.nodup hR.frst hR.diff f x.b.toNat D P (by omega) (by omega) hW
    have i1 := ih x.b D P h3.1 (by omega) (by omega) hW
    rw [wlk_new _ _ _ _ hr2 hp hx] at hge
    rw [wlk_new _ _ _ _ hr2 hp hx, wlk_new _ _ _ _ hr2 hp (flp_get hx)]
    rw [← s1] at R1
    simp only [flpN] at hge ⊢
    rw [i1]
    clear i1 s1
    generalize wlkN mkN N f (D, P) x.b.toNat = A at *
    obtain ⟨D1, P1, r1⟩ := A
    obtain ⟨s2, R2⟩ := wlk_same hR.nodup hR.frst hR.diff f x.c.toNat D1 P1 (by omega) (by omega) R1.inv
    have i2 := ih x.c D1 P1 h4.1 (by omega) (by omega) R1.inv
    rw [← s2] at R2
    simp only at hge ⊢
    rw [i2]
    clear i2 s2
    generalize wlkN mkN N f (D1, P1) x.c.toNat = B at *
    obtain ⟨D2, P2, r2⟩ := B
    have g1 : 0 ≤ r1 := by
      have := R1.ref
      simp only at this
      rw [this, rvN]
      split
      · omega
      · exact R1.inv.neg _
    have g2 : 0 ≤ r2 := by
      have := R2.ref
      simp only at this
      rw [this, rvN]
      split
      · omega
      · exact R2.inv.neg _
    simp only at hge ⊢
    rw [mkN_flp R2.inv.frst g1 g2]
    simp only
    rw [flp_high (r := (mkN D2 x.a r1 r2).2) (by omega)]
theorem can_flp {N : List I3} (hR : Redu N) {root : Int} (hr : RefB root N.length) : canN mkN (N.map flpN) (flpR root) = ((canN mkN N root).1.map flpN, flpR (canN mkN N root).2) := by
  have h0 := hr.1
  have h9 := hr.2
  have h := wlk_flp hR root.toNat root [] (fun _ => 0) h0 (Nat.le_refl _) (by omega) (WkI.start N)
  by_cases h2 : root < 2
  · rw [canN, canN, wlk_low _ _ _ _ (show (flpR root).toNat < 2 by rw [flp_low h2]; omega), wlk_low _ _ _ _ (show root.toNat < 2 by omega)]
    simp only [List.map_nil]
    rw [flp_low h2, flp_low (by omega), show ((1 - root).toNat : Int) = 1 - (root.toNat : Int) by omega]
  · rw [canN, canN]
    rw [flp_high h2] at h ⊢
    rw [List.map_nil] at h
    rw [h]
theorem lvl_flp {n : Int} {L : List I3} {r : Int} (h : RefB r L.length) : lvlN n (L.map flpN) (flpR r) = lvlN n L r := by
  by_cases h2 : r < 2
  · rw [lvl_low h2, lvl_low (by rw [flp_low h2]; have := h.1; omega)]
  · obtain ⟨k, rfl⟩ : ∃ k : Nat, r = (k : Int) + 2 := ⟨(r - 2).toNat, by omega⟩
    have hk : k < L.length := by have := h.2; omega
    have hx := List.getElem?_eq_getElem hk
    rw [flp_high h2, lvl_node hx, lvl_node (flp_get hx)]
    rfl
theorem dia_flp {n : Int} {L : List I3} {root : Int} (h : diaB n L root = true) : diaB n (L.map flpN) (flpR root) = true := by
  obtain ⟨hR, hr, h0, hn, hl, hc, hnd⟩ := dia_redu h
  have hr' := flp_ref hr
  rw [diaB, dia0, Bool.and_eq_true, Bool.and_eq_true, Bool.and_eq_true, Bool.and_eq_true]
  refine ⟨⟨⟨⟨?_, ?_⟩, ?_⟩, ?_⟩, ?_⟩
  · rw [inB, Bool.and_eq_true]; exact ⟨decide_eq_true h0, decide_eq_true hn⟩
  · rw [List.length_map]; exact decide_eq_true hl
  · rw [inB, Bool.and_eq_true, List.length_map]; exact ⟨decide_eq_true hr'.1, decide_eq_true (by have := hr'.2; omega)⟩
  · rw [upB, List.all_eq_true, List.length_map]
    intro i hi
    have hi' := List.mem_range.1 hi
    have hx := List.getElem?_eq_getElem hi'
    have h1 := hnd i _ hx
    have r1 := hR.frst.low i _ hx
    have r2 := hR.frst.high i _ hx
    have r1' := flp_ref r1
    have r2' := flp_ref r2
    refine (ndB_iff (flp_get hx)).2 ⟨h1.inp, ⟨r1'.1, by have := r1'.2; simp only [flpN]; omega⟩, ⟨r2'.1, by have := r2'.2; simp only [flpN]; omega⟩, flp_ne r1.1 r2.1 h1.ne, ?_, ?_⟩
    · simp only [flpN]
      rw [lvl_flp (r1.mono (by omega))]; exact h1.lb
    · simp only [flpN]
      rw [lvl_flp (r2.mono (by omega))]; exact h1.lc
  · rw [can_flp hR hr, hc]; exact decide_eq_true rfl
theorem flp_frst {L : List I3} (h : Frst L) : Frst (L.map flpN) := by
  refine ⟨fun i x hx => ?_, fun i x hx => ?_⟩
  · rw [List.getElem?_map] at hx
    cases hy : L[i]? with
    | none => rw [hy] at hx; cases hx
    | some y => rw [hy] at hx; simp only [Option.map_some, Option.some.injEq] at hx; rw [← hx]; exact flp_ref (h.low i y hy)
  · rw [List.getElem?_map] at hx
    cases hy : L[i]? with
    | none => rw [hy] at hx; cases hx
    | some y => rw [hy] at hx; simp only [Option.map_some, Option.some.injEq] at hx; rw [← hx]; exact flp_ref (h.high i y hy)
theorem ev_flp {L : List I3} (hF : Frst L) {β : Nat → Bool} : ∀ (m : Nat) (r : Int), r.toNat ≤ m → RefB r L.length → evR (L.map flpN) β (flpR r) = !evR L β r := by
  have low : ∀ r : Int, r < 2 → 0 ≤ r → evR (L.map flpN) β (flpR r) = !evR L β r := fun r h h0 => by
    rw [flp_low h, ev_low h, ev_low (show 1 - r < 2 by omega)]
    have : r = 0 ∨ r = 1 := by omega
    rcases this with rfl | rfl <;> rfl
  intro m
  induction m with
  | zero => intro r hm hr; exact low r (by omega) hr.1
  | succ m ih =>
    intro r hm hr
    by_cases h2 : r < 2
    · exact low r h2 hr.1
    · obtain ⟨k, rfl⟩ : ∃ k : Nat, r = (k : Int) + 2 := ⟨(r - 2).toNat, by omega⟩
      have hk : k < L.length := by have := hr.2; omega
      have hx := List.getElem?_eq_getElem hk
      have r1 := hF.low k _ hx
      have r2 := hF.high k _ hx
      have l1 := r1.2
      have l2 := r2.2
      have l3 := r1.1
      have l4 := r2.1
      rw [flp_high h2, ev_node (flp_frst hF) (flp_get hx), ev_node hF hx]
      have i1 := ih _ (show L[k].c.toNat ≤ m by omega) (r2.mono (Nat.le_of_lt hk))
      have i2 := ih _ (show L[k].b.toNat ≤ m by omega) (r1.mono (Nat.le_of_lt hk))
      have ea : (flpN L[k]).a = L[k].a := rfl
      have eb : (flpN L[k]).b = flpR L[k].b := rfl
      have ec : (flpN L[k]).c = flpR L[k].c := rfl
      rw [ea, eb, ec]
      by_cases hb : β L[k].a.toNat = true
      · rw [if_pos hb, if_pos hb]; exact i1
      · rw [if_neg hb, if_neg hb]; exact i2
end Go.Proofs.Ytkaikbaagajckaa
