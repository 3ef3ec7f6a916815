/- Decision diagrams: a canonical diagram is valid, and canonical itself: plain laws. -/
import Derived.Test.YtkaikbaagajckaaVe
namespace Go.Proofs.Ytkaikbaagajckaa
open Go.RowKit
set_option linter.unusedVariables false
set_option linter.unusedSimpArgs false
/-- each reference keeps its name -/
def idN (m : Nat) : Nms := fun q => if 2 ≤ q ∧ q < m + 2 then (q : Int) else 0
theorem idN_yes {m q : Nat} (h : 2 ≤ q ∧ q < m + 2) : idN m q = (q : Int) := if_pos h
theorem idN_no {m q : Nat} (h : ¬ (2 ≤ q ∧ q < m + 2)) : idN m q = 0 := if_neg h
theorem wlk_again {N Qd : List I3} (hR : Redu N) (hF : Frst Qd) : ∀ (f r : Nat) (D : List I3) (P : Nms), r ≤ f → r < N.length + 2 → WkI N D P → (∃ t, Qd = (wlkN appN N f (D, P) r).1 ++ t) → ∀ g, (wlkN appN N f (D, P) r).2.2.toNat ≤ g →
    wlkN appN Qd g (D, idN D.length) (wlkN appN N f (D, P) r).2.2.toNat = ((wlkN appN N f (D, P) r).1, idN (wlkN appN N f (D, P) r).1.length, (wlkN appN N f (D, P) r).2.2) := by
  intro f
  induction f with
  | zero =>
    intro r D P hr _ h _ g hg
    have hr0 : r < 2 := by omega
    rw [wlk_low _ _ _ _ hr0] at hg ⊢
    simp only at hg ⊢
    rw [wlk_low _ _ _ _ (by omega), Int.toNat_natCast]
  | succ f ih =>
    intro r D P hr hrn h hex g hg
    by_cases hr2 : r < 2
    · rw [wlk_low _ _ _ _ hr2] at hg ⊢
      simp only at hg ⊢
      rw [wlk_low _ _ _ _ (by omega), Int.toNat_natCast]
    · by_cases hp : P r > 0
      · rw [wlk_old _ _ _ _ hr2 hp] at hg ⊢
        simp only at hg ⊢
        obtain ⟨_, x, k, _, hk, hd, _⟩ := h.nodes hR.frst hp
        have hkl := (List.getElem?_eq_some_iff.1 hd).1
        obtain ⟨g, rfl⟩ : ∃ g', g = g' + 1 := ⟨g - 1, by omega⟩
        rw [wlk_old _ _ _ _ (by omega) (show (D, idN D.length).2 (P r).toNat > 0 by
          show idN D.length (P r).toNat > 0
          rw [idN_yes (by omega)]; omega)]
        simp only
        rw [idN_yes (by omega)]
        congr 2
        omega
      · obtain ⟨x, hx⟩ : ∃ x, N[r - 2]? = some x := ⟨_, List.getElem?_eq_getElem (by omega)⟩
        have h3 := hR.frst.low _ _ hx
        have h4 := hR.frst.high _ _ hx
        unfold RefB at h3 h4
        rw [wlk_new _ _ _ _ hr2 hp hx] at hex hg ⊢
        obtain ⟨_, R1⟩ := wlk_same hR.nodup hR.frst hR.diff f x.b.toNat D P (by omega) (by omega) h
        have I1 := ih x.b.toNat D P (by omega) (by omega) h
        generalize wlkN appN N f (D, P) x.b.toNat = A at *
        obtain ⟨D1, P1, r1⟩ := A
        obtain ⟨_, R2⟩ := wlk_same hR.nodup hR.frst hR.diff f x.c.toNat D1 P1 (by omega) (by omega) R1.inv
        have I2 := ih x.c.toNat D1 P1 (by omega) (by omega) R1.inv
        simp only at hex hg ⊢
        generalize wlkN appN N f (D1, P1) x.c.toNat = B at *
        obtain ⟨D2, P2, r2⟩ := B
        obtain ⟨t1, p1⟩ := R1.pre
        obtain ⟨t2, p2⟩ := R2.pre
        obtain ⟨t, ht⟩ := hex
        simp only [appN] at p1 p2 ht hg I1 I2 ⊢
        have hl1 : D.length ≤ D1.length := by rw [p1, List.length_append]; omega
        have hl2 : D1.length ≤ D2.length := by rw [p2, List.length_append]; omega
        have hm : Qd[D2.length]? = some ⟨x.a, r1, r2⟩ := by rw [ht, List.append_assoc, List.getElem?_append_right (Nat.le_refl _), Nat.sub_self]; rfl
        have f3 := hF.low _ _ hm
        have f4 := hF.high _ _ hm
        unfold RefB at f3 f4
        simp only at f3 f4
        have er : ((D2.length : Int) + 2).toNat = D2.length + 2 := by omega
        rw [er] at hg ⊢
        obtain ⟨g, rfl⟩ : ∃ g', g = g' + 1 := ⟨g - 1, by omega⟩
        rw [wlk_new _ _ _ _ (by omega) (show ¬ (D, idN D.length).2 (D2.length + 2) > 0 by
          show ¬ idN D.length (D2.length + 2) > 0
          rw [idN_no (by omega)]; omega) (show Qd[D2.length + 2 - 2]? = some ⟨x.a, r1, r2⟩ by rw [Nat.add_sub_cancel]; exact hm)]
        have J1 := I1 ⟨t2 ++ [⟨x.a, r1, r2⟩] ++ t, by rw [ht, p2]; simp⟩ g (by omega)
        have J2 := I2 ⟨[⟨x.a, r1, r2⟩] ++ t, by rw [ht]; simp⟩ g (by omega)
        simp only [appN]
        rw [J1]
        simp only
        rw [J2]
        simp only
        refine Prod.ext rfl (Prod.ext ?_ rfl)
        funext q
        simp only [List.length_append, List.length_cons, List.length_nil]
        by_cases hq : q = D2.length + 2
        · rw [if_pos hq, idN_yes (by omega), hq]; omega
        · rw [if_neg hq]
          by_cases hq2 : 2 ≤ q ∧ q < D2.length + 2
          · rw [idN_yes hq2, idN_yes (by omega)]
          · rw [idN_no hq2, idN_no (by omega)]
theorem idN_zero : idN 0 = fun _ => 0 := by
  funext q
  exact idN_no (by omega)
/-- the canonical nodes: sound, with the same inputs -/
theorem wk_lvl {n : Int} {N D : List I3} {P : Nms} (h : WkI N D P) (hF : Frst N) {b : Int} (hv : VisN P b) : lvlN n D (rvN P b) = lvlN n N b := by
  rw [rvN]
  split
  · rename_i h2
    rw [lvl_low h2, lvl_low h2]
  · rename_i h2
    obtain ⟨_, x, k, hx, hk, hd, _⟩ := h.nodes hF (hv.2 (by omega))
    rw [hk, lvl_node hd, show b = ((b.toNat - 2 : Nat) : Int) + 2 by omega, lvl_node hx]
theorem wk_snd {n : Int} {N D : List I3} {P : Nms} (h : WkI N D P) (hS : Snd n N) : Snd n D := by
  have hF := hS.redu.frst
  have H : ∀ (k : Nat) (y : I3), D[k]? = some y → ∃ x, x ∈ N ∧ y = ⟨x.a, rvN P x.b, rvN P x.c⟩ ∧ VisN P x.b ∧ VisN P x.c ∧ (0 ≤ x.a ∧ x.a < n ∧ x.a < lvlN n N x.b ∧ x.a < lvlN n N x.c) := fun k y hy => by
    obtain ⟨r, hr⟩ := h.from' k (List.getElem?_eq_some_iff.1 hy).1
    obtain ⟨_, x, j, hx, hj, hd, vb, vc, _⟩ := h.nodes hF (show P r > 0 by omega)
    have : k = j := by omega
    subst this
    rw [hy] at hd
    simp only [Option.some.injEq] at hd
    exact ⟨x, List.mem_of_getElem? hx, hd, vb, vc, hS.ord _ _ hx⟩
  refine ⟨⟨h.nodup, h.frst, fun y hy => ?_⟩, fun k y hy => ?_⟩
  · obtain ⟨k, hk⟩ := List.getElem?_of_mem hy
    obtain ⟨x, hx, rfl, vb, vc, _⟩ := H k y hk
    exact fun e => hS.redu.diff x hx (h.rinj hS.redu.nodup hF vb vc e)
  · obtain ⟨x, hx, rfl, vb, vc, o1, o2, o3, o4⟩ := H k y hy
    simp only
    rw [wk_lvl h hF vb, wk_lvl h hF vc]
    exact ⟨o1, o2, o3, o4⟩
theorem can_snd {n : Int} {N : List I3} (hS : Snd n N) {root : Int} (hr : RefB root N.length) : Snd n (canN mkN N root).1 ∧ RefB (canN mkN N root).2 (canN mkN N root).1.length ∧ lvlN n (canN mkN N root).1 (canN mkN N root).2 = lvlN n N root := by
  obtain ⟨P, h1, h2, h3⟩ := can_walk hS.redu hr
  refine ⟨wk_snd h1 hS, ?_, by rw [h2]; exact wk_lvl h1 hS.redu.frst h3⟩
  rw [h2, rvN]
  split
  · exact ⟨hr.1, by omega⟩
  · obtain ⟨_, x, k, _, hk, hd, _⟩ := h1.nodes hS.redu.frst (h3.2 (by omega))
    have := (List.getElem?_eq_some_iff.1 hd).1
    exact ⟨by omega, by omega⟩
theorem can_again {n : Int} {N : List I3} (hS : Snd n N) {root : Int} (hr : RefB root N.length) : canN mkN (canN mkN N root).1 (canN mkN N root).2 = canN mkN N root := by
  obtain ⟨hS2, hr2, _⟩ := can_snd hS hr
  rw [can_same hS2.redu hr2, can_same hS.redu hr]
  rw [can_same hS.redu hr] at hS2 hr2
  have h := wlk_again hS.redu hS2.redu.frst root.toNat root.toNat [] (fun _ => 0) (Nat.le_refl _) (by unfold RefB at hr; omega) (WkI.start N) ⟨[], by rw [List.append_nil]; rfl⟩ (canN appN N root).2.toNat (Nat.le_refl _)
  rw [List.length_nil, idN_zero] at h
  have h' : wlkN appN (canN appN N root).1 (canN appN N root).2.toNat ([], fun _ => 0) (canN appN N root).2.toNat = ((canN appN N root).1, idN (canN appN N root).1.length, (canN appN N root).2) := h
  have e : canN appN (canN appN N root).1 (canN appN N root).2 = ((wlkN appN (canN appN N root).1 (canN appN N root).2.toNat ([], fun _ => 0) (canN appN N root).2.toNat).1, (wlkN appN (canN appN N root).1 (canN appN N root).2.toNat ([], fun _ => 0) (canN appN N root).2.toNat).2.2) := rfl
  rw [e, h']
/-- a canonical diagram is valid -/
theorem can_dia {n : Int} {N : List I3} (hS : Snd n N) {root : Int} (hr : RefB root N.length) (h0 : 0 ≤ n) (hn : n ≤ 20) (hl : (canN mkN N root).1.length ≤ 2000) : diaB n (canN mkN N root).1 (canN mkN N root).2 = true := by
  obtain ⟨hS2, hr2, _⟩ := can_snd hS hr
  rw [diaB, can_again hS hr, Bool.and_eq_true, Bool.and_eq_true]
  obtain ⟨⟨D, r⟩, hE⟩ : ∃ E, canN mkN N root = E := ⟨_, rfl⟩
  rw [hE] at hS2 hr2 hl ⊢
  simp only at hS2 hr2 hl ⊢
  refine ⟨⟨?_, ?_⟩, by simp⟩
  · rw [dia0, Bool.and_eq_true, Bool.and_eq_true, inB, inB, Bool.and_eq_true, Bool.and_eq_true]
    simp only [decide_eq_true_eq]
    exact ⟨⟨⟨h0, hn⟩, hl⟩, hr2.1, by have := hr2.2; omega⟩
  · rw [upB, List.all_eq_true]
    intro i hi
    have hi' := List.mem_range.1 hi
    have hx := List.getElem?_eq_getElem hi'
    rw [ndB_iff hx]
    obtain ⟨o1, o2, o3, o4⟩ := hS2.ord _ _ hx
    have f3 := hS2.redu.frst.low _ _ hx
    have f4 := hS2.redu.frst.high _ _ hx
    exact ⟨⟨o1, by omega⟩, ⟨f3.1, by have := f3.2; omega⟩, ⟨f4.1, by have := f4.2; omega⟩, hS2.redu.diff _ (List.getElem_mem hi'), o3, o4⟩
/-- different numbers below n are at most n -/
theorem nodup_lt : ∀ (n : Nat) (S : List Nat), S.Nodup → (∀ s ∈ S, s < n) → S.length ≤ n := by
  intro n
  induction n with
  | zero =>
    intro S _ h
    cases S with
    | nil => exact Nat.le_refl _
    | cons x r => have := h x (List.mem_cons_self ..); omega
  | succ n ih =>
    intro S hn h
    by_cases hm : n ∈ S
    · have h1 := ih (S.erase n) (hn.erase n) fun s hs => by
        have h2 := (List.Nodup.mem_erase_iff hn).1 hs
        have := h s h2.2
        have := h2.1
        omega
      rw [List.length_erase_of_mem hm] at h1
      omega
    · have := ih S hn fun s hs => by
        have := h s hs
        have : s ≠ n := fun e => hm (e ▸ hs)
        omega
      omega
/-- no more canonical nodes than nodes -/
theorem can_length {N : List I3} (hR : Redu N) {root : Int} (hr : RefB root N.length) : (canN mkN N root).1.length ≤ N.length := by
  obtain ⟨P, h1, h2, h3⟩ := can_walk hR hr
  generalize (canN mkN N root).1 = D at *
  -- each new node comes from another old one
  have hch : ∀ k, k < D.length → ∃ r : Nat, P r = (k : Int) + 2 ∧ 2 ≤ r ∧ r - 2 < N.length := fun k hk => by
    obtain ⟨r, hr⟩ := h1.from' k hk
    obtain ⟨g, x, _, hx, _⟩ := h1.nodes hR.frst (show P r > 0 by omega)
    exact ⟨r, hr, g, (List.getElem?_eq_some_iff.1 hx).1⟩
  have key : ∀ m, m ≤ D.length → ∃ S : List Nat, S.length = m ∧ S.Nodup ∧ ∀ s ∈ S, s < N.length ∧ ∃ k, k < m ∧ P (s + 2) = (k : Int) + 2 := by
    intro m
    induction m with
    | zero => intro _; exact ⟨[], rfl, List.nodup_nil, fun s h => by cases h⟩
    | succ m ih =>
      intro hm
      obtain ⟨S, h1, h2, h3⟩ := ih (by omega)
      obtain ⟨r, hr, g, hl⟩ := hch m (by omega)
      refine ⟨(r - 2) :: S, by simp [h1], ?_, fun s hs => ?_⟩
      · rw [List.nodup_cons]
        refine ⟨fun hin => ?_, h2⟩
        obtain ⟨_, k, hk, hP⟩ := h3 _ hin
        rw [show r - 2 + 2 = r by omega, hr] at hP
        omega
      · rcases List.mem_cons.1 hs with rfl | hs
        · exact ⟨hl, m, by omega, by rw [show r - 2 + 2 = r by omega]; exact hr⟩
        · obtain ⟨g1, k, g2, g3⟩ := h3 s hs
          exact ⟨g1, k, by omega, g3⟩
  obtain ⟨S, s1, s2, s3⟩ := key D.length (Nat.le_refl _)
  have hsub := nodup_lt N.length S s2 fun s hs => (s3 s hs).1
  rw [s1] at hsub
  exact hsub
end Go.Proofs.Ytkaikbaagajckaa
