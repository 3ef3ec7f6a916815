/- Decision diagrams: nodes that are made once, and the canonical order of those that a root reaches: plain laws.; Decision diagrams: what is valid, and that both ways to tell agree: plain laws.; Decision diagrams: the values of references: plain laws.; Decision diagrams: the lists of bits with the value 1, and how many there are: plain laws. -/
import Derived.Test.YtkaikbaagajckaaGreatBase
namespace Go.Proofs.YtkaikbaagajckaaGreat
open Go.RowKit
set_option linter.unusedVariables false
set_option linter.unusedSimpArgs false
theorem I3.eta (x : I3) : x = ⟨x.a, x.b, x.c⟩ := rfl
instance I3.dec : DecidableEq I3 := fun x y =>
  if h : x.a = y.a ∧ x.b = y.b ∧ x.c = y.c then .isTrue (by cases x; cases y; obtain ⟨h1, h2, h3⟩ := h; simp only at h1 h2 h3; subst h1 h2 h3; rfl)
  else .isFalse (fun e => h (by subst e; exact ⟨rfl, rfl, rfl⟩))
/-- the place of a node among nodes -/
def posN (x : I3) : List I3 → Option Nat
  | [] => none
  | y :: r => if y = x then some 0 else (posN x r).map (· + 1)
theorem posN_some {x : I3} : ∀ {L : List I3} {k : Nat}, posN x L = some k → L[k]? = some x ∧ ∀ j, j < k → L[j]? ≠ some x
  | [], k, h => by cases h
  | y :: r, k, h => by
    rw [posN] at h
    split at h
    · rename_i e
      cases h
      exact ⟨by rw [e]; rfl, fun j hj => by omega⟩
    · rename_i e
      cases hp : posN x r with
      | none => rw [hp] at h; cases h
      | some m =>
        rw [hp] at h
        simp only [Option.map_some, Option.some.injEq] at h
        subst h
        obtain ⟨h1, h2⟩ := posN_some hp
        refine ⟨by simpa using h1, fun j hj hc => ?_⟩
        cases j with
        | zero => simp at hc; exact e hc
        | succ j => exact h2 j (by omega) (by simpa using hc)
theorem posN_none {x : I3} : ∀ {L : List I3}, posN x L = none ↔ x ∉ L
  | [] => by simp [posN]
  | y :: r => by
    rw [posN]
    split
    · rename_i e; simp [e]
    · rename_i e
      rw [Option.map_eq_none_iff, posN_none, List.mem_cons, not_or]
      exact ⟨fun h => ⟨fun h2 => e h2.symm, h⟩, fun h => h.2⟩
theorem posN_hit {x : I3} {L : List I3} {k : Nat} (h : L[k]? = some x) (hf : ∀ j, j < k → L[j]? ≠ some x) : posN x L = some k := by
  cases hp : posN x L with
  | none => exact absurd (List.mem_of_getElem? h) (posN_none.1 hp)
  | some m =>
    obtain ⟨h1, h2⟩ := posN_some hp
    congr 1
    rcases Nat.lt_trichotomy m k with e | e | e
    · exact absurd h1 (hf m e)
    · exact e
    · exact absurd h (h2 k e)
/-- distinct nodes -/
theorem nodup_get {L : List I3} (h : L.Nodup) {i j : Nat} {x : I3} (hi : L[i]? = some x) (hj : L[j]? = some x) : i = j := by
  have h1 := (List.getElem?_eq_some_iff.1 hi)
  have h2 := (List.getElem?_eq_some_iff.1 hj)
  obtain ⟨l1, e1⟩ := h1
  obtain ⟨l2, e2⟩ := h2
  have hp := List.pairwise_iff_getElem.1 h
  rcases Nat.lt_trichotomy i j with e | e | e
  · exact absurd (e1.trans e2.symm) (hp i j l1 l2 e)
  · exact e
  · exact absurd (e2.trans e1.symm) (hp j i l2 l1 e)
/-- the reference to a node, which is added if it is not there -/
def mkN (L : List I3) (i lo hi : Int) : List I3 × Int :=
  if lo = hi then (L, lo) else match posN ⟨i, lo, hi⟩ L with
    | some k => (L, (k : Int) + 2)
    | none => (L ++ [⟨i, lo, hi⟩], (L.length : Int) + 2)
theorem mkN_eq {L : List I3} {i lo hi : Int} (h : lo = hi) : mkN L i lo hi = (L, lo) := if_pos h
theorem mkN_old {L : List I3} {i lo hi : Int} {k : Nat} (h : lo ≠ hi) (hp : posN ⟨i, lo, hi⟩ L = some k) : mkN L i lo hi = (L, (k : Int) + 2) := by rw [mkN, if_neg h, hp]
theorem mkN_new {L : List I3} {i lo hi : Int} (h : lo ≠ hi) (hp : (⟨i, lo, hi⟩ : I3) ∉ L) : mkN L i lo hi = (L ++ [⟨i, lo, hi⟩], (L.length : Int) + 2) := by rw [mkN, if_neg h, posN_none.2 hp]
theorem mkN_pre (L : List I3) (i lo hi : Int) : ∃ t, (mkN L i lo hi).1 = L ++ t ∧ t.length ≤ 1 := by
  unfold mkN
  split
  · exact ⟨[], by simp, by simp⟩
  · split
    · exact ⟨[], by simp, by simp⟩
    · exact ⟨[_], rfl, by simp⟩
theorem mkN_nodup {L : List I3} (h : L.Nodup) (i lo hi : Int) : (mkN L i lo hi).1.Nodup := by
  unfold mkN
  split
  · exact h
  · split
    · exact h
    · rename_i hp
      have := posN_none.1 hp
      rw [List.nodup_append]
      refine ⟨h, by simp, fun a ha b hb => ?_⟩
      simp at hb
      rw [hb]
      intro e; exact this (e ▸ ha)
/-- what a reference stands for -/
theorem mkN_is (L : List I3) {i lo hi : Int} (h : lo ≠ hi) : ∃ k : Nat, (mkN L i lo hi).2 = (k : Int) + 2 ∧ (mkN L i lo hi).1[k]? = some ⟨i, lo, hi⟩ := by
  unfold mkN
  rw [if_neg h]
  split
  · rename_i k hk
    exact ⟨k, rfl, (posN_some hk).1⟩
  · exact ⟨L.length, rfl, by simp⟩
/-- nodes of which each refers to earlier ones -/
def RefB (r : Int) (n : Nat) : Prop := 0 ≤ r ∧ r < (n : Int) + 2
structure Frst (L : List I3) : Prop where
  low : ∀ (i : Nat) (x : I3), L[i]? = some x → RefB x.b i
  high : ∀ (i : Nat) (x : I3), L[i]? = some x → RefB x.c i
theorem Frst.nil : Frst [] := ⟨fun i x h => by simp at h, fun i x h => by simp at h⟩
theorem RefB.mono {r : Int} {n m : Nat} (h : RefB r n) (hm : n ≤ m) : RefB r m := ⟨h.1, by have := h.2; omega⟩
theorem Frst.app {L : List I3} (h : Frst L) {i lo hi : Int} (hl : RefB lo L.length) (hh : RefB hi L.length) : Frst (L ++ [⟨i, lo, hi⟩]) := by
  refine ⟨fun j x hj => ?_, fun j x hj => ?_⟩
  · rw [List.getElem?_append] at hj
    split at hj
    · exact h.low j x hj
    · have hj2 : j = L.length := by
        have := (List.getElem?_eq_some_iff.1 hj).1
        simp at this; omega
      subst hj2
      simp at hj
      subst hj
      exact hl
  · rw [List.getElem?_append] at hj
    split at hj
    · exact h.high j x hj
    · have hj2 : j = L.length := by
        have := (List.getElem?_eq_some_iff.1 hj).1
        simp at this; omega
      subst hj2
      simp at hj
      subst hj
      exact hh
theorem Frst.add {L : List I3} (h : Frst L) {i lo hi : Int} (hl : RefB lo L.length) (hh : RefB hi L.length) : Frst (mkN L i lo hi).1 ∧ RefB (mkN L i lo hi).2 (mkN L i lo hi).1.length := by
  unfold mkN
  split
  · exact ⟨h, hl⟩
  · split
    · rename_i k hk
      have := (List.getElem?_eq_some_iff.1 (posN_some hk).1).1
      refine ⟨h, ?_, ?_⟩
      · simp only; omega
      · simp only; omega
    · refine ⟨⟨fun j x hj => ?_, fun j x hj => ?_⟩, ?_, ?_⟩
      · rw [List.getElem?_append] at hj
        split at hj
        · exact h.low j x hj
        · have hj2 : j = L.length := by
            have := (List.getElem?_eq_some_iff.1 hj).1
            simp at this; omega
          subst hj2
          simp at hj
          subst hj
          exact hl
      · rw [List.getElem?_append] at hj
        split at hj
        · exact h.high j x hj
        · have hj2 : j = L.length := by
            have := (List.getElem?_eq_some_iff.1 hj).1
            simp at this; omega
          subst hj2
          simp at hj
          subst hj
          exact hh
      · simp only; omega
      · simp only [List.length_append, List.length_cons, List.length_nil]; omega

/-! ### the nodes that a root reaches, in the order in which they are left -/
/-- new references: 0 where there is none yet -/
abbrev Nms := Nat → Int
/-- 'walk' with a rule that makes the node -/
def wlkN (mkf : List I3 → Int → Int → Int → List I3 × Int) (N : List I3) : Nat → List I3 × Nms → Nat → List I3 × Nms × Int
  | 0, s, r => (s.1, s.2, (r : Int))
  | f + 1, s, r =>
    if r < 2 then (s.1, s.2, (r : Int))
    else if s.2 r > 0 then (s.1, s.2, s.2 r)
    else match N[r - 2]? with
      | none => (s.1, s.2, (r : Int))
      | some x =>
        let a := wlkN mkf N f s x.b.toNat
        let b := wlkN mkf N f (a.1, a.2.1) x.c.toNat
        let m := mkf b.1 x.a a.2.2 b.2.2
        (m.1, fun q => if q = r then m.2 else b.2.1 q, m.2)
/-- appending, whatever stands there -/
def appN (L : List I3) (i lo hi : Int) : List I3 × Int := (L ++ [⟨i, lo, hi⟩], (L.length : Int) + 2)
theorem wlk_low (mkf : List I3 → Int → Int → Int → List I3 × Int) (N : List I3) (f : Nat) (s : List I3 × Nms) {r : Nat} (h : r < 2) : wlkN mkf N f s r = (s.1, s.2, (r : Int)) := by
  cases f with
  | zero => rfl
  | succ f => rw [wlkN, if_pos h]
theorem wlk_old (mkf : List I3 → Int → Int → Int → List I3 × Int) (N : List I3) (f : Nat) (s : List I3 × Nms) {r : Nat} (h : ¬ r < 2) (hp : s.2 r > 0) : wlkN mkf N (f + 1) s r = (s.1, s.2, s.2 r) := by
  rw [wlkN, if_neg h, if_pos hp]
theorem wlk_new (mkf : List I3 → Int → Int → Int → List I3 × Int) (N : List I3) (f : Nat) (s : List I3 × Nms) {r : Nat} {x : I3} (h : ¬ r < 2) (hp : ¬ s.2 r > 0) (hx : N[r - 2]? = some x) :
    wlkN mkf N (f + 1) s r = ((mkf (wlkN mkf N f ((wlkN mkf N f s x.b.toNat).1, (wlkN mkf N f s x.b.toNat).2.1) x.c.toNat).1 x.a (wlkN mkf N f s x.b.toNat).2.2 (wlkN mkf N f ((wlkN mkf N f s x.b.toNat).1, (wlkN mkf N f s x.b.toNat).2.1) x.c.toNat).2.2).1,
      (fun q => if q = r then (mkf (wlkN mkf N f ((wlkN mkf N f s x.b.toNat).1, (wlkN mkf N f s x.b.toNat).2.1) x.c.toNat).1 x.a (wlkN mkf N f s x.b.toNat).2.2 (wlkN mkf N f ((wlkN mkf N f s x.b.toNat).1, (wlkN mkf N f s x.b.toNat).2.1) x.c.toNat).2.2).2 else (wlkN mkf N f ((wlkN mkf N f s x.b.toNat).1, (wlkN mkf N f s x.b.toNat).2.1) x.c.toNat).2.1 q),
      (mkf (wlkN mkf N f ((wlkN mkf N f s x.b.toNat).1, (wlkN mkf N f s x.b.toNat).2.1) x.c.toNat).1 x.a (wlkN mkf N f s x.b.toNat).2.2 (wlkN mkf N f ((wlkN mkf N f s x.b.toNat).1, (wlkN mkf N f s x.b.toNat).2.1) x.c.toNat).2.2).2) := by
  rw [wlkN, if_neg h, if_neg hp, hx]
/-- what a walk keeps: the new nodes are the old ones with new references -/
structure WkI (N D : List I3) (P : Nms) : Prop where
  nodup : D.Nodup
  frst : Frst D
  at' : ∀ r : Nat, P r > 0 → 2 ≤ r ∧ ∃ (x : I3) (k : Nat), N[r - 2]? = some x ∧ P r = (k : Int) + 2 ∧ D[k]? = some ⟨x.a, (if x.b < 2 then x.b else P x.b.toNat), (if x.c < 2 then x.c else P x.c.toNat)⟩ ∧ (2 ≤ x.b → P x.b.toNat > 0) ∧ (2 ≤ x.c → P x.c.toNat > 0)
  from' : ∀ k : Nat, k < D.length → ∃ r : Nat, P r = (k : Int) + 2
  neg : ∀ r, 0 ≤ P r
theorem WkI.start (N : List I3) : WkI N [] (fun _ => 0) := ⟨List.nodup_nil, Frst.nil, fun r h => by simp at h, fun k h => by simp at h, fun r => by simp⟩
/-- the new reference of an old one -/
def rvN (P : Nms) (b : Int) : Int := if b < 2 then b else P b.toNat
def VisN (P : Nms) (b : Int) : Prop := 0 ≤ b ∧ (2 ≤ b → P b.toNat > 0)
theorem WkI.ge2 {N D : List I3} {P : Nms} (h : WkI N D P) {r : Nat} (hr : P r > 0) : 2 ≤ P r := by
  obtain ⟨_, x, k, _, e, _⟩ := h.at' r hr
  omega
theorem WkI.nodes {N D : List I3} {P : Nms} (h : WkI N D P) (hF : Frst N) {r : Nat} (hr : P r > 0) : 2 ≤ r ∧ ∃ (x : I3) (k : Nat), N[r - 2]? = some x ∧ P r = (k : Int) + 2 ∧ D[k]? = some ⟨x.a, rvN P x.b, rvN P x.c⟩ ∧ VisN P x.b ∧ VisN P x.c ∧ x.b.toNat < r ∧ x.c.toNat < r := by
  obtain ⟨h2, x, k, hx, hk, hd, hb, hc⟩ := h.at' r hr
  have h3 := hF.low _ _ hx
  have h4 := hF.high _ _ hx
  unfold RefB at h3 h4
  exact ⟨h2, x, k, hx, hk, hd, ⟨h3.1, hb⟩, ⟨h4.1, hc⟩, by omega, by omega⟩
theorem WkI.inj {N D : List I3} {P : Nms} (h : WkI N D P) (hN : N.Nodup) (hF : Frst N) : ∀ (m q1 q2 : Nat), q1 ≤ m → P q1 > 0 → P q1 = P q2 → q1 = q2 := by
  intro m
  induction m with
  | zero =>
    intro q1 q2 hm h1 _
    obtain ⟨h2, _⟩ := h.nodes hF h1
    omega
  | succ m ih =>
    intro q1 q2 hm h1 he
    obtain ⟨a1, x, k, hx, hk, hd, vb, vc, lb, lc⟩ := h.nodes hF h1
    obtain ⟨a2, y, j, hy, hj, he2, ub, uc, mb, mc⟩ := h.nodes hF (show P q2 > 0 by omega)
    have hkj : k = j := by omega
    subst hkj
    rw [hd] at he2
    simp only [Option.some.injEq, I3.mk.injEq] at he2
    obtain ⟨e1, e2, e3⟩ := he2
    have key : ∀ {b c : Int}, VisN P b → VisN P c → b.toNat ≤ m → rvN P b = rvN P c → b = c := by
      intro b c v1 v2 hb e
      unfold rvN at e
      by_cases b2 : b < 2
      · rw [if_pos b2] at e
        by_cases c2 : c < 2
        · rw [if_pos c2] at e; exact e
        · rw [if_neg c2] at e
          have := h.ge2 (v2.2 (by omega))
          omega
      · rw [if_neg b2] at e
        by_cases c2 : c < 2
        · rw [if_pos c2] at e
          have := h.ge2 (v1.2 (by omega))
          omega
        · rw [if_neg c2] at e
          have := ih b.toNat c.toNat hb (v1.2 (by omega)) e
          have h1 := v1.1
          have h2 := v2.1
          omega
    have eb := key vb ub (by omega) e2
    have ec := key vc uc (by omega) e3
    have exy : x = y := by rw [I3.eta x, I3.eta y, e1, eb, ec]
    subst exy
    have := nodup_get hN hx hy
    omega
theorem WkI.rinj {N D : List I3} {P : Nms} (h : WkI N D P) (hN : N.Nodup) (hF : Frst N) {b c : Int} (v1 : VisN P b) (v2 : VisN P c) (e : rvN P b = rvN P c) : b = c := by
  unfold rvN at e
  by_cases b2 : b < 2
  · rw [if_pos b2] at e
    by_cases c2 : c < 2
    · rw [if_pos c2] at e; exact e
    · rw [if_neg c2] at e
      have := h.ge2 (v2.2 (by omega))
      omega
  · rw [if_neg b2] at e
    by_cases c2 : c < 2
    · rw [if_pos c2] at e
      have := h.ge2 (v1.2 (by omega))
      omega
    · rw [if_neg c2] at e
      have := h.inj hN hF _ _ _ (Nat.le_refl _) (v1.2 (by omega)) e
      have h1 := v1.1
      have h2 := v2.1
      omega
/-- what a walk from a reference gives -/
structure WkR (N : List I3) (D : List I3) (P : Nms) (r : Nat) (A : List I3 × Nms × Int) : Prop where
  inv : WkI N A.1 A.2.1
  ref : A.2.2 = rvN A.2.1 (r : Int)
  vis : 2 ≤ r → A.2.1 r > 0
  old : ∀ q, P q > 0 → A.2.1 q = P q
  far : ∀ q, r < q → A.2.1 q = P q
  pre : ∃ t, A.1 = D ++ t
theorem wlk_same {N : List I3} (hN : N.Nodup) (hF : Frst N) (hR : ∀ x ∈ N, x.b ≠ x.c) : ∀ (f r : Nat) (D : List I3) (P : Nms), r ≤ f → r < N.length + 2 → WkI N D P →
    wlkN mkN N f (D, P) r = wlkN appN N f (D, P) r ∧ WkR N D P r (wlkN appN N f (D, P) r) := by
  intro f
  induction f with
  | zero =>
    intro r D P hr hrn h
    have hr0 : r < 2 := by omega
    rw [wlk_low _ _ _ _ hr0, wlk_low _ _ _ _ hr0]
    refine ⟨rfl, h, ?_, fun h2 => by omega, fun q _ => rfl, fun q _ => rfl, [], by simp⟩
    show (r : Int) = rvN P (r : Int)
    rw [rvN, if_pos (by omega)]
  | succ f ih =>
    intro r D P hr hrn h
    by_cases hr2 : r < 2
    · rw [wlk_low _ _ _ _ hr2, wlk_low _ _ _ _ hr2]
      refine ⟨rfl, h, ?_, fun h2 => by omega, fun q _ => rfl, fun q _ => rfl, [], by simp⟩
      show (r : Int) = rvN P (r : Int)
      rw [rvN, if_pos (by omega)]
    · by_cases hp : P r > 0
      · rw [wlk_old _ _ _ _ hr2 hp, wlk_old _ _ _ _ hr2 hp]
        refine ⟨rfl, h, ?_, fun h2 => hp, fun q _ => rfl, fun q _ => rfl, [], by simp⟩
        show P r = rvN P (r : Int)
        rw [rvN, if_neg (by omega), Int.toNat_natCast]
      · obtain ⟨x, hx⟩ : ∃ x, N[r - 2]? = some x := ⟨_, List.getElem?_eq_getElem (by omega)⟩
        have h3 := hF.low _ _ hx
        have h4 := hF.high _ _ hx
        unfold RefB at h3 h4
        have hb : x.b.toNat < r := by omega
        have hc : x.c.toNat < r := by omega
        rw [wlk_new _ _ _ _ hr2 hp hx, wlk_new _ _ _ _ hr2 hp hx]
        obtain ⟨s1, R1⟩ := ih x.b.toNat D P (by omega) (by omega) h
        rw [s1]
        generalize wlkN appN N f (D, P) x.b.toNat = A at *
        obtain ⟨D1, P1, r1⟩ := A
        obtain ⟨s2, R2⟩ := ih x.c.toNat D1 P1 (by omega) (by omega) R1.inv
        simp only
        rw [s2]
        generalize wlkN appN N f (D1, P1) x.c.toNat = B at *
        obtain ⟨D2, P2, r2⟩ := B
        have i1 := R1.inv
        have i2 := R2.inv
        have o2 := R2.old
        have f1 := R1.far
        have f2 := R2.far
        have v1 := R1.vis
        have v2 := R2.vis
        have e1 := R1.ref
        have e2 := R2.ref
        obtain ⟨t1, p1⟩ := R1.pre
        obtain ⟨t2, p2⟩ := R2.pre
        simp only at i1 i2 o2 f1 f2 v1 v2 e1 e2 p1 p2 ⊢
        have hb0 : (x.b.toNat : Int) = x.b := by omega
        have hc0 : (x.c.toNat : Int) = x.c := by omega
        rw [hb0] at e1
        rw [hc0] at e2
        have vb1 : VisN P1 x.b := ⟨h3.1, fun h => v1 (by omega)⟩
        have vb : VisN P2 x.b := ⟨h3.1, fun h => by rw [o2 _ (vb1.2 h)]; exact vb1.2 h⟩
        have vc : VisN P2 x.c := ⟨h4.1, fun h => v2 (by omega)⟩
        have e1' : r1 = rvN P2 x.b := by
          rw [e1, rvN, rvN]
          split
          · rfl
          · rw [o2 _ (vb1.2 (by omega))]
        have hr0 : P2 r = 0 := by
          have := f2 r hc
          have := f1 r hb
          have := h.neg r
          omega
        have hne : r1 ≠ r2 := fun e => by
          rw [e1', e2] at e
          exact hR x (List.mem_of_getElem? hx) (i2.rinj hN hF vb vc e)
        have hnot : (⟨x.a, r1, r2⟩ : I3) ∉ D2 := fun hm => by
          obtain ⟨k, hk⟩ := List.getElem?_of_mem hm
          obtain ⟨r', hr'⟩ := i2.from' k (List.getElem?_eq_some_iff.1 hk).1
          obtain ⟨g1, y, j, hy, hj, hd, ub, uc, _, _⟩ := i2.nodes hF (show P2 r' > 0 by omega)
          have hkj : k = j := by omega
          subst hkj
          rw [hk] at hd
          simp only [Option.some.injEq, I3.mk.injEq] at hd
          obtain ⟨d1, d2, d3⟩ := hd
          have eb := i2.rinj hN hF vb ub (by rw [← e1', d2])
          have ec := i2.rinj hN hF vc uc (by rw [← e2, d3])
          have exy : x = y := by rw [I3.eta x, I3.eta y, d1, eb, ec]
          subst exy
          have := nodup_get hN hx hy
          have : r = r' := by omega
          subst this
          omega
        rw [mkN_new hne hnot, appN]
        have hrb : ∀ {b : Int}, VisN P2 b → RefB (rvN P2 b) D2.length := by
          intro b vb
          rw [rvN]
          split
          · exact ⟨vb.1, by omega⟩
          · obtain ⟨_, _, k, _, hk, hd, _⟩ := i2.nodes hF (vb.2 (by omega))
            have := (List.getElem?_eq_some_iff.1 hd).1
            exact ⟨by omega, by omega⟩
        refine ⟨rfl, ⟨?_, i2.frst.app (e1' ▸ hrb vb) (e2 ▸ hrb vc), ?_, ?_, ?_⟩, ?_, ?_, ?_, ?_, ?_⟩
        · simp only
          rw [List.nodup_append]
          refine ⟨i2.nodup, by simp, fun a ha b hb => ?_⟩
          simp at hb
          rw [hb]
          intro e; exact hnot (e ▸ ha)
        · intro q hq
          simp only at hq ⊢
          by_cases hqr : q = r
          · subst hqr
            refine ⟨by omega, x, D2.length, hx, by rw [if_pos rfl], ?_, ?_, ?_⟩
            · rw [List.getElem?_append_right (Nat.le_refl _), Nat.sub_self, List.getElem?_cons_zero, e1', e2, rvN, rvN]
              rw [if_neg (show ¬ x.b.toNat = q by omega), if_neg (show ¬ x.c.toNat = q by omega)]
            · intro h2
              rw [if_neg (show ¬ x.b.toNat = q by omega)]; exact vb.2 h2
            · intro h2
              rw [if_neg (show ¬ x.c.toNat = q by omega)]; exact vc.2 h2
          · rw [if_neg hqr] at hq ⊢
            obtain ⟨g1, y, j, hy, hj, hd, ub, uc, lb, lc⟩ := i2.nodes hF hq
            have nb : 2 ≤ y.b → ¬ y.b.toNat = r := fun h2 e => by
              have := ub.2 h2
              rw [e, hr0] at this; omega
            have nc : 2 ≤ y.c → ¬ y.c.toNat = r := fun h2 e => by
              have := uc.2 h2
              rw [e, hr0] at this; omega
            refine ⟨g1, y, j, hy, hj, ?_, fun h2 => ?_, fun h2 => ?_⟩
            · rw [List.getElem?_append_left (List.getElem?_eq_some_iff.1 hd).1, hd, rvN, rvN]
              congr 2
              · by_cases b2 : y.b < 2
                · rw [if_pos b2, if_pos b2]
                · rw [if_neg b2, if_neg b2, if_neg (nb (by omega))]
              · by_cases c2 : y.c < 2
                · rw [if_pos c2, if_pos c2]
                · rw [if_neg c2, if_neg c2, if_neg (nc (by omega))]
            · rw [if_neg (nb h2)]; exact ub.2 h2
            · rw [if_neg (nc h2)]; exact uc.2 h2
        · intro k hk
          simp only [List.length_append, List.length_cons, List.length_nil] at hk ⊢
          by_cases hk2 : k < D2.length
          · obtain ⟨r', hr'⟩ := i2.from' k hk2
            have : r' ≠ r := fun e => by rw [e, hr0] at hr'; omega
            exact ⟨r', by rw [if_neg this]; exact hr'⟩
          · have : k = D2.length := by omega
            subst this
            exact ⟨r, by rw [if_pos rfl]⟩
        · intro q
          simp only
          split
          · omega
          · exact i2.neg q
        · simp only
          rw [rvN, if_neg (by omega), Int.toNat_natCast, if_pos rfl]
        · intro _
          show (if r = r then (D2.length : Int) + 2 else P2 r) > 0
          rw [if_pos rfl]; omega
        · intro q hq
          simp only
          have hqr : q ≠ r := fun e => hp (e ▸ hq)
          have h1 := R1.old q hq
          simp only at h1
          rw [if_neg hqr, o2 q (by omega), h1]
        · intro q hq
          simp only
          rw [if_neg (by omega), f2 q (by omega), f1 q (by omega)]
        · exact ⟨t1 ++ (t2 ++ [⟨x.a, r1, r2⟩]), by simp only; rw [p2, p1]; simp⟩
end Go.Proofs.YtkaikbaagajckaaGreat
namespace Go.Proofs.YtkaikbaagajckaaGreat
open Go.RowKit
set_option linter.unusedVariables false
set_option linter.unusedSimpArgs false
theorem wlk_nodup {N : List I3} : ∀ (f r : Nat) (D : List I3) (P : Nms), D.Nodup → (wlkN mkN N f (D, P) r).1.Nodup := by
  intro f
  induction f with
  | zero => intro r D P h; exact h
  | succ f ih =>
    intro r D P h
    rw [wlkN]
    split
    · exact h
    · split
      · exact h
      · split
        · exact h
        · rename_i x hx
          exact mkN_nodup (ih _ _ _ (ih _ _ _ h)) _ _ _
/-- more fuel than the reference needs changes nothing -/
theorem wlk_fuel {mkf : List I3 → Int → Int → Int → List I3 × Int} {N : List I3} (hF : Frst N) : ∀ (f g r : Nat) (s : List I3 × Nms), r ≤ f → r ≤ g → wlkN mkf N f s r = wlkN mkf N g s r := by
  intro f
  induction f with
  | zero =>
    intro g r s hf hg
    rw [wlk_low _ _ _ _ (by omega), wlk_low _ _ _ _ (by omega)]
  | succ f ih =>
    intro g r s hf hg
    by_cases hr : r < 2
    · rw [wlk_low _ _ _ _ hr, wlk_low _ _ _ _ hr]
    · obtain ⟨g, rfl⟩ : ∃ g', g = g' + 1 := ⟨g - 1, by omega⟩
      by_cases hp : s.2 r > 0
      · rw [wlk_old _ _ _ _ hr hp, wlk_old _ _ _ _ hr hp]
      · cases hx : N[r - 2]? with
        | none => rw [wlkN, wlkN, if_neg hr, if_neg hr, if_neg hp, if_neg hp, hx]
        | some x =>
          have h3 := hF.low _ _ hx
          have h4 := hF.high _ _ hx
          unfold RefB at h3 h4
          rw [wlk_new _ _ _ _ hr hp hx, wlk_new _ _ _ _ hr hp hx, ih g x.b.toNat s (by omega) (by omega), ih g x.c.toNat _ (by omega) (by omega)]
/-- the canonical nodes of a root, and the root's reference -/
def canN (mkf : List I3 → Int → Int → Int → List I3 × Int) (N : List I3) (root : Int) : List I3 × Int :=
  ((wlkN mkf N root.toNat ([], fun _ => 0) root.toNat).1, (wlkN mkf N root.toNat ([], fun _ => 0) root.toNat).2.2)
/-- different nodes with different branches, each behind those that it refers to -/
structure Redu (L : List I3) : Prop where
  nodup : L.Nodup
  frst : Frst L
  diff : ∀ x ∈ L, x.b ≠ x.c
theorem Redu.nil : Redu [] := ⟨List.nodup_nil, Frst.nil, fun x h => by cases h⟩
theorem Redu.add {L : List I3} (h : Redu L) {i lo hi : Int} (hl : RefB lo L.length) (hh : RefB hi L.length) : Redu (mkN L i lo hi).1 := by
  refine ⟨mkN_nodup h.nodup _ _ _, (h.frst.add hl hh).1, fun x hx => ?_⟩
  unfold mkN at hx
  split at hx
  · exact h.diff x hx
  · rename_i hne
    split at hx
    · exact h.diff x hx
    · rcases List.mem_append.1 hx with h1 | h1
      · exact h.diff x h1
      · simp at h1
        rw [h1]; exact hne
theorem can_same {N : List I3} (h : Redu N) {root : Int} (hr : RefB root N.length) : canN mkN N root = canN appN N root := by
  obtain ⟨h1, _⟩ := wlk_same h.nodup h.frst h.diff root.toNat root.toNat [] (fun _ => 0) (Nat.le_refl _) (by unfold RefB at hr; omega) (WkI.start N)
  rw [canN, canN, h1]
/-- the input of a reference, n for a constant -/
def lvlN (n : Int) (L : List I3) (r : Int) : Int := if r < 2 then n else (L.getD (r - 2).toNat ⟨0, 0, 0⟩).a
def ndB (n : Int) (L : List I3) (i : Nat) : Bool := inB (L.getD i ⟨0, 0, 0⟩).a 0 (n - 1) && inB (L.getD i ⟨0, 0, 0⟩).b 0 ((i : Int) + 1) && inB (L.getD i ⟨0, 0, 0⟩).c 0 ((i : Int) + 1) && ((L.getD i ⟨0, 0, 0⟩).b != (L.getD i ⟨0, 0, 0⟩).c) && decide ((L.getD i ⟨0, 0, 0⟩).a < lvlN n L (L.getD i ⟨0, 0, 0⟩).b) && decide ((L.getD i ⟨0, 0, 0⟩).a < lvlN n L (L.getD i ⟨0, 0, 0⟩).c)
def dia0 (n : Int) (L : List I3) (root : Int) : Bool := inB n 0 20 && decide (L.length ≤ 2000) && inB root 0 ((L.length : Int) + 1)
/-- a valid diagram -/
def diaB (n : Int) (L : List I3) (root : Int) : Bool := dia0 n L root && upB (ndB n L) L.length && decide (canN mkN L root = (L, root))
structure NdOk (n : Int) (L : List I3) (i : Nat) (x : I3) : Prop where
  inp : 0 ≤ x.a ∧ x.a ≤ n - 1
  low : 0 ≤ x.b ∧ x.b ≤ (i : Int) + 1
  high : 0 ≤ x.c ∧ x.c ≤ (i : Int) + 1
  ne : x.b ≠ x.c
  lb : x.a < lvlN n L x.b
  lc : x.a < lvlN n L x.c
theorem ndB_iff {n : Int} {L : List I3} {i : Nat} {x : I3} (hx : L[i]? = some x) : ndB n L i = true ↔ NdOk n L i x := by
  have e : L.getD i ⟨0, 0, 0⟩ = x := by rw [List.getD_eq_getElem?_getD, hx]; rfl
  rw [ndB, e]
  simp only [Bool.and_eq_true, inB, decide_eq_true_eq, bne_iff_ne]
  constructor
  · rintro ⟨⟨⟨⟨⟨h1, h2⟩, h3⟩, h4⟩, h5⟩, h6⟩
    exact ⟨h1, h2, h3, h4, h5, h6⟩
  · rintro ⟨h1, h2, h3, h4, h5, h6⟩
    exact ⟨⟨⟨⟨⟨h1, h2⟩, h3⟩, h4⟩, h5⟩, h6⟩
theorem upB_at {p : Nat → Bool} {n i : Nat} (h : upB p n = true) (hi : i < n) : p i = true := by
  rw [upB, List.all_eq_true] at h
  exact h i (List.mem_range.2 hi)
theorem nds_frst {n : Int} {L : List I3} (h : upB (ndB n L) L.length = true) : Frst L ∧ ∀ x ∈ L, x.b ≠ x.c := by
  refine ⟨⟨fun i x hx => ?_, fun i x hx => ?_⟩, fun x hx => ?_⟩
  · have := (ndB_iff hx).1 (upB_at h (List.getElem?_eq_some_iff.1 hx).1)
    exact ⟨this.low.1, by have := this.low.2; omega⟩
  · have := (ndB_iff hx).1 (upB_at h (List.getElem?_eq_some_iff.1 hx).1)
    exact ⟨this.high.1, by have := this.high.2; omega⟩
  · obtain ⟨i, hi⟩ := List.getElem?_of_mem hx
    exact ((ndB_iff hi).1 (upB_at h (List.getElem?_eq_some_iff.1 hi).1)).ne
/-- the program's way: nodes are different, and the walk appends -/
theorem dia_impl {n : Int} {L : List I3} {root : Int} : diaB n L root = (dia0 n L root && upB (ndB n L) L.length && decide L.Nodup && decide (canN appN L root = (L, root))) := by
  rw [diaB]
  cases h0 : dia0 n L root
  · rfl
  cases h1 : upB (ndB n L) L.length
  · rfl
  obtain ⟨hF, hR⟩ := nds_frst h1
  simp only [Bool.true_and]
  by_cases hd : L.Nodup
  · rw [decide_eq_true hd, Bool.true_and]
    have hr : RefB root L.length := by
      have h9 := h0
      rw [dia0, Bool.and_eq_true, Bool.and_eq_true, inB, inB, Bool.and_eq_true, Bool.and_eq_true] at h9
      simp only [decide_eq_true_eq] at h9
      exact ⟨h9.2.1, by have := h9.2.2; omega⟩
    rw [can_same ⟨hd, hF, hR⟩ hr]
  · rw [decide_eq_false hd, Bool.false_and, decide_eq_false]
    intro e
    have := wlk_nodup (N := L) root.toNat root.toNat [] (fun _ => 0) List.nodup_nil
    rw [canN, Prod.mk.injEq] at e
    rw [e.1] at this
    exact hd this
theorem dia_redu {n : Int} {L : List I3} {root : Int} (h : diaB n L root = true) : Redu L ∧ RefB root L.length ∧ 0 ≤ n ∧ n ≤ 20 ∧ L.length ≤ 2000 ∧ canN mkN L root = (L, root) ∧ ∀ (i : Nat) (x : I3), L[i]? = some x → NdOk n L i x := by
  rw [dia_impl] at h
  simp only [Bool.and_eq_true, decide_eq_true_eq] at h
  obtain ⟨⟨⟨h0, h1⟩, h2⟩, h3⟩ := h
  obtain ⟨hF, hR⟩ := nds_frst h1
  have h00 := h0
  rw [dia0, Bool.and_eq_true, Bool.and_eq_true, inB, inB, Bool.and_eq_true, Bool.and_eq_true] at h0
  simp only [decide_eq_true_eq] at h0
  obtain ⟨⟨h4, h5⟩, h6⟩ := h0
  have hr : RefB root L.length := ⟨h6.1, by have := h6.2; omega⟩
  exact ⟨⟨h2, hF, hR⟩, hr, h4.1, h4.2, h5, by rw [can_same ⟨h2, hF, hR⟩ hr]; exact h3, fun i x hx => (ndB_iff hx).1 (upB_at h1 (List.getElem?_eq_some_iff.1 hx).1)⟩
end Go.Proofs.YtkaikbaagajckaaGreat
namespace Go.Proofs.YtkaikbaagajckaaGreat
open Go.RowKit
set_option linter.unusedVariables false
set_option linter.unusedSimpArgs false
/-- the value of a reference -/
def evF (L : List I3) (β : Nat → Bool) : Nat → Int → Bool
  | 0, r => decide (r = 1)
  | f + 1, r => if r < 2 then decide (r = 1) else match L[(r - 2).toNat]? with
    | none => false
    | some x => evF L β f (if β x.a.toNat = true then x.c else x.b)
def evR (L : List I3) (β : Nat → Bool) (r : Int) : Bool := evF L β r.toNat r
theorem evF_low {L : List I3} {β : Nat → Bool} (f : Nat) {r : Int} (h : r < 2) : evF L β f r = decide (r = 1) := by
  cases f with
  | zero => rfl
  | succ f => rw [evF, if_pos h]
theorem evF_fuel {L : List I3} (hF : Frst L) {β : Nat → Bool} : ∀ (f g : Nat) (r : Int), r.toNat ≤ f → r.toNat ≤ g → evF L β f r = evF L β g r := by
  intro f
  induction f with
  | zero => intro g r hf hg; rw [evF_low _ (by omega), evF_low _ (by omega)]
  | succ f ih =>
    intro g r hf hg
    by_cases hr : r < 2
    · rw [evF_low _ hr, evF_low _ hr]
    · obtain ⟨g, rfl⟩ : ∃ g', g = g' + 1 := ⟨g - 1, by omega⟩
      rw [evF, evF, if_neg hr, if_neg hr]
      cases hx : L[(r - 2).toNat]? with
      | none => rfl
      | some x =>
        have h3 := hF.low _ _ hx
        have h4 := hF.high _ _ hx
        unfold RefB at h3 h4
        simp only
        split
        · exact ih g x.c (by omega) (by omega)
        · exact ih g x.b (by omega) (by omega)
theorem ev_low {L : List I3} {β : Nat → Bool} {r : Int} (h : r < 2) : evR L β r = decide (r = 1) := evF_low _ h
theorem ev_node {L : List I3} (hF : Frst L) {β : Nat → Bool} {k : Nat} {x : I3} (hx : L[k]? = some x) : evR L β ((k : Int) + 2) = evR L β (if β x.a.toNat = true then x.c else x.b) := by
  have h3 := hF.low _ _ hx
  have h4 := hF.high _ _ hx
  unfold RefB at h3 h4
  rw [evR, show ((k : Int) + 2).toNat = (k + 1) + 1 by omega, evF, if_neg (by omega), show ((k : Int) + 2 - 2).toNat = k by omega, hx]
  simp only
  split
  · exact evF_fuel hF _ _ _ (by omega) (Nat.le_refl _)
  · exact evF_fuel hF _ _ _ (by omega) (Nat.le_refl _)
/-- more nodes behind change nothing -/
theorem evF_app {L t : List I3} (hF : Frst L) {β : Nat → Bool} : ∀ (f : Nat) (r : Int), RefB r L.length → evF (L ++ t) β f r = evF L β f r := by
  intro f
  induction f with
  | zero => intro r _; rfl
  | succ f ih =>
    intro r hr
    rw [evF, evF]
    split
    · rfl
    · rename_i h2
      have hlt : (r - 2).toNat < L.length := by have := hr.2; have := hr.1; omega
      rw [List.getElem?_append_left hlt]
      have hx := List.getElem?_eq_getElem hlt
      rw [hx]
      simp only
      have h3 := (hF.low _ _ hx).mono (Nat.le_of_lt hlt)
      have h4 := (hF.high _ _ hx).mono (Nat.le_of_lt hlt)
      split
      · exact ih _ h4
      · exact ih _ h3
theorem ev_app {L t : List I3} (hF : Frst L) {β : Nat → Bool} {r : Int} (hr : RefB r L.length) : evR (L ++ t) β r = evR L β r := evF_app hF _ _ hr
theorem ev_mk {L : List I3} (hF : Frst L) {β : Nat → Bool} {i lo hi : Int} (hl : RefB lo L.length) (hh : RefB hi L.length) : evR (mkN L i lo hi).1 β (mkN L i lo hi).2 = if β i.toNat = true then evR L β hi else evR L β lo := by
  by_cases he : lo = hi
  · rw [mkN_eq he, he]; simp
  · obtain ⟨k, hk, hx⟩ := mkN_is L (i := i) he
    obtain ⟨hF2, hr2⟩ := hF.add (i := i) hl hh
    rw [hk, ev_node hF2 hx]
    obtain ⟨t, ht, _⟩ := mkN_pre L i lo hi
    rw [ht]
    simp only
    split
    · exact ev_app hF hh
    · exact ev_app hF hl
theorem ev_keep {L : List I3} (hF : Frst L) {β : Nat → Bool} {i lo hi r : Int} (hr : RefB r L.length) : evR (mkN L i lo hi).1 β r = evR L β r := by
  obtain ⟨t, ht, _⟩ := mkN_pre L i lo hi
  rw [ht]; exact ev_app hF hr
/-- the new references of a walk have the old values -/
theorem wk_ev {N D : List I3} {P : Nms} (h : WkI N D P) (hF : Frst N) {β : Nat → Bool} : ∀ (m : Nat) (r : Int), r.toNat ≤ m → VisN P r → evR D β (rvN P r) = evR N β r := by
  intro m
  induction m with
  | zero => intro r hm hv; rw [rvN, if_pos (by omega), ev_low (by omega), ev_low (by omega)]
  | succ m ih =>
    intro r hm hv
    by_cases h2 : r < 2
    · rw [rvN, if_pos h2, ev_low h2, ev_low h2]
    · obtain ⟨_, x, k, hx, hk, hd, vb, vc, lb, lc⟩ := h.nodes hF (hv.2 (by omega))
      rw [rvN, if_neg h2, hk, ev_node h.frst hd, show r = ((r.toNat - 2 : Nat) : Int) + 2 by omega, ev_node hF hx]
      simp only
      split
      · exact ih x.c (by omega) vc
      · exact ih x.b (by omega) vb
theorem can_walk {N : List I3} (h : Redu N) {root : Int} (hr : RefB root N.length) : ∃ P, WkI N (canN mkN N root).1 P ∧ (canN mkN N root).2 = rvN P root ∧ VisN P root := by
  obtain ⟨h1, R⟩ := wlk_same h.nodup h.frst h.diff root.toNat root.toNat [] (fun _ => 0) (Nat.le_refl _) (by unfold RefB at hr; omega) (WkI.start N)
  refine ⟨(wlkN appN N root.toNat ([], fun _ => 0) root.toNat).2.1, ?_, ?_, hr.1, fun h2 => R.vis (by omega)⟩
  · rw [canN, h1]; exact R.inv
  · have := R.ref
    rw [canN, h1, this]
    congr 1
    have := hr.1
    omega
theorem can_ev {N : List I3} (h : Redu N) {root : Int} (hr : RefB root N.length) (β : Nat → Bool) : evR (canN mkN N root).1 β (canN mkN N root).2 = evR N β root := by
  obtain ⟨P, h1, h2, h3⟩ := can_walk h hr
  rw [h2]
  exact wk_ev h1 h.frst _ _ (Nat.le_refl _) h3
/-- each node's input comes before those below it -/
def OrdN (n : Int) (L : List I3) : Prop := ∀ (i : Nat) (x : I3), L[i]? = some x → 0 ≤ x.a ∧ x.a < n ∧ x.a < lvlN n L x.b ∧ x.a < lvlN n L x.c
theorem lvl_node {n : Int} {L : List I3} {k : Nat} {x : I3} (hx : L[k]? = some x) : lvlN n L ((k : Int) + 2) = x.a := by
  rw [lvlN, if_neg (by omega), show ((k : Int) + 2 - 2).toNat = k by omega, List.getD_eq_getElem?_getD, hx]; rfl
theorem lvl_low {n : Int} {L : List I3} {r : Int} (h : r < 2) : lvlN n L r = n := if_pos h
theorem lvl_app {n : Int} {L t : List I3} {r : Int} (hr : RefB r L.length) : lvlN n (L ++ t) r = lvlN n L r := by
  rw [lvlN, lvlN]
  split
  · rfl
  · have := hr.1
    have := hr.2
    rw [List.getD_eq_getElem?_getD, List.getD_eq_getElem?_getD, List.getElem?_append_left (by omega)]
theorem OrdN.nil (n : Int) : OrdN n [] := fun i x h => by simp at h
theorem OrdN.add {n : Int} {L : List I3} (h : OrdN n L) (hF : Frst L) {i lo hi : Int} (hl : RefB lo L.length) (hh : RefB hi L.length) (h0 : 0 ≤ i) (hn : i < n) (h1 : i < lvlN n L lo) (h2 : i < lvlN n L hi) : OrdN n (mkN L i lo hi).1 ∧ i ≤ lvlN n (mkN L i lo hi).1 (mkN L i lo hi).2 := by
  unfold mkN
  split
  · exact ⟨h, by simp only; omega⟩
  · split
    · rename_i k hk
      refine ⟨h, ?_⟩
      simp only
      rw [lvl_node (posN_some hk).1]
      exact Int.le_refl _
    · refine ⟨fun j x hj => ?_, ?_⟩
      · simp only at hj ⊢
        by_cases hjl : j < L.length
        · rw [List.getElem?_append_left hjl] at hj
          have h3 := (hF.low _ _ hj).mono (Nat.le_of_lt hjl)
          have h4 := (hF.high _ _ hj).mono (Nat.le_of_lt hjl)
          rw [lvl_app h3, lvl_app h4]
          exact h j x hj
        · have hj2 : j = L.length := by
            have := (List.getElem?_eq_some_iff.1 hj).1
            simp at this; omega
          subst hj2
          simp at hj
          subst hj
          simp only
          rw [lvl_app hl, lvl_app hh]
          exact ⟨h0, hn, h1, h2⟩
      · simp only
        rw [lvl_node (x := ⟨i, lo, hi⟩) (by simp)]
        exact Int.le_refl _
/-- inputs before the reference's own do not matter -/
theorem ev_indep {n : Int} {L : List I3} (hF : Frst L) (hO : OrdN n L) {β γ : Nat → Bool} : ∀ (m : Nat) (r : Int), r.toNat ≤ m → RefB r L.length → (∀ i : Nat, lvlN n L r ≤ (i : Int) → (i : Int) < n → β i = γ i) → evR L β r = evR L γ r := by
  intro m
  induction m with
  | zero => intro r hm _ _; rw [ev_low (by omega), ev_low (by omega)]
  | succ m ih =>
    intro r hm hr hb
    by_cases h2 : r < 2
    · rw [ev_low h2, ev_low h2]
    · obtain ⟨k, rfl⟩ : ∃ k : Nat, r = (k : Int) + 2 := ⟨(r - 2).toNat, by omega⟩
      have hlt : k < L.length := by have := hr.2; omega
      obtain ⟨x, hx⟩ : ∃ x, L[k]? = some x := ⟨_, List.getElem?_eq_getElem hlt⟩
      obtain ⟨o1, o2, o3, o4⟩ := hO _ _ hx
      have h3 := hF.low _ _ hx
      have h4 := hF.high _ _ hx
      rw [lvl_node hx] at hb
      have hba : β x.a.toNat = γ x.a.toNat := hb _ (by omega) (by omega)
      rw [ev_node hF hx, ev_node hF hx, hba]
      have h3' := h3.2
      have h4' := h4.2
      split
      · exact ih _ (by omega) (h4.mono (Nat.le_of_lt hlt)) (fun i hi hn => hb i (by omega) hn)
      · exact ih _ (by omega) (h3.mono (Nat.le_of_lt hlt)) (fun i hi hn => hb i (by omega) hn)
theorem lvl_le {n : Int} {L : List I3} (hO : OrdN n L) {r : Int} (hr : RefB r L.length) : lvlN n L r ≤ n := by
  by_cases h2 : r < 2
  · rw [lvl_low h2]; exact Int.le_refl _
  · obtain ⟨k, rfl⟩ : ∃ k : Nat, r = (k : Int) + 2 := ⟨(r - 2).toNat, by omega⟩
    have hlt : k < L.length := by have := hr.2; omega
    obtain ⟨x, hx⟩ : ∃ x, L[k]? = some x := ⟨_, List.getElem?_eq_getElem hlt⟩
    rw [lvl_node hx]
    have := (hO _ _ hx).2.1
    omega
/-- an assignment with one input fixed -/
def fixB (β : Nat → Bool) (i : Nat) (b : Bool) : Nat → Bool := fun j => if j = i then b else β j
theorem ev_fix {n : Int} {L : List I3} (hF : Frst L) (hO : OrdN n L) {β : Nat → Bool} {r : Int} (hr : RefB r L.length) {i : Nat} {b : Bool} (hi : (i : Int) < lvlN n L r) : evR L (fixB β i b) r = evR L β r :=
  ev_indep hF hO _ r (Nat.le_refl _) hr fun j hj _ => by
    rw [fixB, if_neg (by omega)]
/-- equal values, equal references: nodes are different and so are their branches -/
theorem ev_inj {n : Int} {L : List I3} (hR : Redu L) (hO : OrdN n L) : ∀ (m : Nat) (r s : Int), r.toNat + s.toNat ≤ m → RefB r L.length → RefB s L.length → (∀ β, evR L β r = evR L β s) → r = s := by
  have hF := hR.frst
  intro m
  induction m with
  | zero =>
    intro r s hm hr hs _
    have := hr.1
    have := hs.1
    omega
  | succ m ih =>
    intro r s hm hr hs he
    -- a node whose input comes first differs from what does not look at it
    have key : ∀ (k : Nat) (x : I3) (q : Int), L[k]? = some x → RefB q L.length → x.a < lvlN n L q → (k + 2 + q.toNat ≤ m + 1) → (∀ β, evR L β ((k : Int) + 2) = evR L β q) → False := by
      intro k x q hx hq hlv hsum he
      obtain ⟨o1, o2, o3, o4⟩ := hO _ _ hx
      have hkl := (List.getElem?_eq_some_iff.1 hx).1
      have h3 := hF.low _ _ hx
      have h4 := hF.high _ _ hx
      have h3' := h3.2
      have h4' := h4.2
      have h3m := h3.mono (Nat.le_of_lt hkl)
      have h4m := h4.mono (Nat.le_of_lt hkl)
      have eb : x.b = q := ih x.b q (by omega) h3m hq fun β => by
        have h := he (fixB β x.a.toNat false)
        rw [ev_node hF hx, if_neg (by rw [fixB, if_pos rfl]; decide), ev_fix hF hO h3m (by omega), ev_fix hF hO hq (by omega)] at h
        exact h
      have ec : x.c = q := ih x.c q (by omega) h4m hq fun β => by
        have h := he (fixB β x.a.toNat true)
        rw [ev_node hF hx, if_pos (by rw [fixB, if_pos rfl]), ev_fix hF hO h4m (by omega), ev_fix hF hO hq (by omega)] at h
        exact h
      exact hR.diff x (List.mem_of_getElem? hx) (eb.trans ec.symm)
    by_cases r2 : r < 2
    · by_cases s2 : s < 2
      · have h := he (fun _ => false)
        rw [ev_low r2, ev_low s2] at h
        have h1 := hr.1
        have h2 := hs.1
        by_cases e : r = 1
        · rw [decide_eq_true e] at h
          have := of_decide_eq_true h.symm
          omega
        · rw [decide_eq_false e] at h
          have := of_decide_eq_false h.symm
          omega
      · obtain ⟨k, rfl⟩ : ∃ k : Nat, s = (k : Int) + 2 := ⟨(s - 2).toNat, by omega⟩
        have hlt : k < L.length := by have := hs.2; omega
        obtain ⟨x, hx⟩ : ∃ x, L[k]? = some x := ⟨_, List.getElem?_eq_getElem hlt⟩
        exact (key k x r hx hr (by rw [lvl_low r2]; exact (hO _ _ hx).2.1) (by omega) (fun β => (he β).symm)).elim
    · obtain ⟨k, rfl⟩ : ∃ k : Nat, r = (k : Int) + 2 := ⟨(r - 2).toNat, by omega⟩
      have hlt : k < L.length := by have := hr.2; omega
      obtain ⟨x, hx⟩ : ∃ x, L[k]? = some x := ⟨_, List.getElem?_eq_getElem hlt⟩
      obtain ⟨o1, o2, o3, o4⟩ := hO _ _ hx
      by_cases s2 : s < 2
      · exact (key k x s hx hs (by rw [lvl_low s2]; exact o2) (by omega) he).elim
      · obtain ⟨j, rfl⟩ : ∃ j : Nat, s = (j : Int) + 2 := ⟨(s - 2).toNat, by omega⟩
        have hlt2 : j < L.length := by have := hs.2; omega
        obtain ⟨y, hy⟩ : ∃ y, L[j]? = some y := ⟨_, List.getElem?_eq_getElem hlt2⟩
        obtain ⟨p1, p2, p3, p4⟩ := hO _ _ hy
        rcases Int.lt_trichotomy x.a y.a with e | e | e
        · exact (key k x _ hx hs (by rw [lvl_node hy]; exact e) (by omega) he).elim
        · have g3 := hF.low _ _ hx
          have g4 := hF.high _ _ hx
          have f3 := hF.low _ _ hy
          have f4 := hF.high _ _ hy
          have g3' := g3.2
          have g4' := g4.2
          have f3' := f3.2
          have f4' := f4.2
          have g3m := g3.mono (Nat.le_of_lt hlt)
          have g4m := g4.mono (Nat.le_of_lt hlt)
          have f3m := f3.mono (Nat.le_of_lt hlt2)
          have f4m := f4.mono (Nat.le_of_lt hlt2)
          have eb : x.b = y.b := ih x.b y.b (by omega) g3m f3m fun β => by
            have h := he (fixB β x.a.toNat false)
            rw [ev_node hF hx, ev_node hF hy, ← e, if_neg (by rw [fixB, if_pos rfl]; decide), if_neg (by rw [fixB, if_pos rfl]; decide), ev_fix hF hO g3m (by omega), ev_fix hF hO f3m (by omega)] at h
            exact h
          have ec : x.c = y.c := ih x.c y.c (by omega) g4m f4m fun β => by
            have h := he (fixB β x.a.toNat true)
            rw [ev_node hF hx, ev_node hF hy, ← e, if_pos (by rw [fixB, if_pos rfl]), if_pos (by rw [fixB, if_pos rfl]), ev_fix hF hO g4m (by omega), ev_fix hF hO f4m (by omega)] at h
            exact h
          have exy : x = y := by rw [I3.eta x, I3.eta y, e, eb, ec]
          subst exy
          rw [nodup_get hR.nodup hx hy]
        · exact (key j y _ hy hr (by rw [lvl_node hx]; exact e) (by omega) (fun β => (he β).symm)).elim
end Go.Proofs.YtkaikbaagajckaaGreat
namespace Go.Proofs.YtkaikbaagajckaaGreat
open Go.RowKit
set_option linter.unusedVariables false
set_option linter.unusedSimpArgs false
/-- all lists of so many bits, in lexicographic order -/
def allB : Nat → List (List Int)
  | 0 => [[]]
  | k + 1 => (allB k).map (0 :: ·) ++ (allB k).map (1 :: ·)
theorem allB_len : ∀ k, (allB k).length = 2 ^ k
  | 0 => rfl
  | k + 1 => by rw [allB, List.length_append, List.length_map, List.length_map, allB_len k, Nat.pow_succ]; omega
theorem allB_mem : ∀ {k : Nat} {s : List Int}, s ∈ allB k ↔ s.length = k ∧ ∀ x ∈ s, x = 0 ∨ x = 1
  | 0, s => by
    rw [allB, List.mem_singleton]
    constructor
    · rintro rfl; exact ⟨rfl, fun x h => by cases h⟩
    · rintro ⟨h, _⟩; exact List.length_eq_zero_iff.1 h
  | k + 1, s => by
    rw [allB, List.mem_append, List.mem_map, List.mem_map]
    constructor
    · rintro (⟨t, ht, rfl⟩ | ⟨t, ht, rfl⟩)
      · obtain ⟨h1, h2⟩ := allB_mem.1 ht
        exact ⟨by rw [List.length_cons, h1], fun x hx => by
          rcases List.mem_cons.1 hx with rfl | hx
          · exact .inl rfl
          · exact h2 x hx⟩
      · obtain ⟨h1, h2⟩ := allB_mem.1 ht
        exact ⟨by rw [List.length_cons, h1], fun x hx => by
          rcases List.mem_cons.1 hx with rfl | hx
          · exact .inr rfl
          · exact h2 x hx⟩
    · rintro ⟨h1, h2⟩
      cases s with
      | nil => cases h1
      | cons y t =>
        have ht : t ∈ allB k := allB_mem.2 ⟨by simpa using h1, fun x hx => h2 x (List.mem_cons_of_mem _ hx)⟩
        rcases h2 y (List.mem_cons_self ..) with rfl | rfl
        · exact .inl ⟨t, ht, rfl⟩
        · exact .inr ⟨t, ht, rfl⟩
theorem allB_nodup : ∀ k, (allB k).Nodup
  | 0 => by simp [allB]
  | k + 1 => by
    rw [allB, List.nodup_append]
    have hi : ∀ b : Int, ((allB k).map (b :: ·)).Nodup := fun b => by
      rw [List.Nodup, List.pairwise_map]
      exact (allB_nodup k).imp fun h e => h (by simpa using e)
    refine ⟨hi 0, hi 1, fun a ha b hb e => ?_⟩
    obtain ⟨x, _, rfl⟩ := List.mem_map.1 ha
    obtain ⟨y, _, rfl⟩ := List.mem_map.1 hb
    simp at e
/-- what a list of bits gives to the inputs from one on -/
def bitF (off : Nat) (s : List Int) : Nat → Bool := fun i => decide (off ≤ i) && (s.getD (i - off) 0 == 1)
theorem bitF_at (off : Nat) (b : Int) (t : List Int) : bitF off (b :: t) off = (b == 1) := by
  rw [bitF, decide_eq_true (Nat.le_refl _), Nat.sub_self]; rfl
theorem bitF_next (off : Nat) (b : Int) (t : List Int) {i : Nat} (h : off + 1 ≤ i) : bitF off (b :: t) i = bitF (off + 1) t i := by
  rw [bitF, bitF, decide_eq_true (show off ≤ i by omega), decide_eq_true h, show i - off = (i - (off + 1)) + 1 by omega]; rfl
/-- the branches of a reference at an input -/
def chN (n : Int) (L : List I3) (r : Int) (i : Int) : Int × Int := if lvlN n L r = i ∧ 2 ≤ r then ((L.getD (r - 2).toNat ⟨0, 0, 0⟩).b, (L.getD (r - 2).toNat ⟨0, 0, 0⟩).c) else (r, r)
theorem ch_skip {n : Int} {L : List I3} {r i : Int} (h : lvlN n L r ≠ i ∨ r < 2) : chN n L r i = (r, r) := if_neg (by omega)
theorem ch_node {n : Int} {L : List I3} {k : Nat} {x : I3} {i : Int} (hx : L[k]? = some x) (h : x.a = i) : chN n L ((k : Int) + 2) i = (x.b, x.c) := by
  rw [chN, if_pos ⟨(lvl_node hx).trans h, by omega⟩, show ((k : Int) + 2 - 2).toNat = k by omega, List.getD_eq_getElem?_getD, hx]; rfl
/-- both branches, and what they have to do with the value -/
theorem ch_all {n : Int} {L : List I3} (hF : Frst L) (hO : OrdN n L) {r : Int} (hr : RefB r L.length) {i : Nat} (hi : (i : Int) ≤ lvlN n L r) (hn : (i : Int) < n) :
    RefB (chN n L r i).1 L.length ∧ RefB (chN n L r i).2 L.length ∧ (i : Int) + 1 ≤ lvlN n L (chN n L r i).1 ∧ (i : Int) + 1 ≤ lvlN n L (chN n L r i).2 ∧ ∀ β : Nat → Bool, evR L β r = if β i = true then evR L β (chN n L r i).2 else evR L β (chN n L r i).1 := by
  by_cases h2 : r < 2
  · rw [ch_skip (.inr h2)]
    have := lvl_low (n := n) (L := L) h2
    exact ⟨hr, hr, by simp only; omega, by simp only; omega, fun β => by simp⟩
  · obtain ⟨k, rfl⟩ : ∃ k : Nat, r = (k : Int) + 2 := ⟨(r - 2).toNat, by omega⟩
    have hlt : k < L.length := by have := hr.2; omega
    obtain ⟨x, hx⟩ : ∃ x, L[k]? = some x := ⟨_, List.getElem?_eq_getElem hlt⟩
    obtain ⟨o1, o2, o3, o4⟩ := hO _ _ hx
    have hl := lvl_node (n := n) hx
    by_cases he : x.a = (i : Int)
    · rw [ch_node hx he]
      refine ⟨(hF.low _ _ hx).mono (Nat.le_of_lt hlt), (hF.high _ _ hx).mono (Nat.le_of_lt hlt), by simp only; omega, by simp only; omega, fun β => ?_⟩
      rw [ev_node hF hx, he, Int.toNat_natCast]
      simp only
      split <;> rfl
    · rw [ch_skip (.inl (by rw [hl]; exact he))]
      exact ⟨hr, hr, by simp only; omega, by simp only; omega, fun β => by simp⟩
/-- the lists of bits from an input on with the value 1 -/
def lsN (n : Int) (L : List I3) : Nat → Int → List (List Int)
  | 0, r => if r = 0 then [] else [[]]
  | k + 1, r => if r = 0 then [] else (lsN n L k (chN n L r (n - ((k : Int) + 1))).1).map (0 :: ·) ++ (lsN n L k (chN n L r (n - ((k : Int) + 1))).2).map (1 :: ·)
theorem ev_zero (L : List I3) (β : Nat → Bool) : evR L β 0 = false := by rw [ev_low (by omega)]; rfl
theorem ev_bit {n : Int} {L : List I3} (hF : Frst L) (hO : OrdN n L) {r : Int} (hr : RefB r L.length) {i : Nat} (hi : (i : Int) + 1 ≤ lvlN n L r) (b : Int) (t : List Int) : evR L (bitF i (b :: t)) r = evR L (bitF (i + 1) t) r :=
  ev_indep hF hO _ r (Nat.le_refl _) hr fun j hj _ => bitF_next i b t (by omega)
theorem ls_filter {n : Nat} {L : List I3} (hF : Frst L) (hO : OrdN (n : Int) L) : ∀ (k : Nat) (r : Int), k ≤ n → RefB r L.length → ((n - k : Nat) : Int) ≤ lvlN (n : Int) L r → lsN (n : Int) L k r = (allB k).filter fun s => evR L (bitF (n - k) s) r := by
  intro k
  induction k with
  | zero =>
    intro r _ hr hl
    have h2 : r < 2 := by
      by_cases h2 : r < 2
      · exact h2
      · obtain ⟨k, rfl⟩ : ∃ k : Nat, r = (k : Int) + 2 := ⟨(r - 2).toNat, by omega⟩
        have hlt : k < L.length := by have := hr.2; omega
        have hx := List.getElem?_eq_getElem hlt
        have h3 := (hO _ _ hx).2.1
        rw [lvl_node hx] at hl
        omega
    have h0 := hr.1
    rw [lsN, allB]
    by_cases h : r = 0
    · rw [if_pos h, h, List.filter_cons, ev_zero]; rfl
    · rw [if_neg h, List.filter_cons, ev_low h2, decide_eq_true (show r = 1 by omega)]; rfl
  | succ k ih =>
    intro r hk hr hl
    rw [lsN, allB]
    by_cases h : r = 0
    · rw [if_pos h, h]
      symm
      rw [List.filter_eq_nil_iff]
      intro s _
      rw [ev_zero]; decide
    · rw [if_neg h]
      have e1 : (n : Int) - ((k : Int) + 1) = ((n - (k + 1) : Nat) : Int) := by omega
      rw [e1]
      obtain ⟨c1, c2, c3, c4, c5⟩ := ch_all hF hO hr (i := n - (k + 1)) hl (by omega)
      have e2 : n - (k + 1) + 1 = n - k := by omega
      rw [ih _ (by omega) c1 (by omega), ih _ (by omega) c2 (by omega), List.filter_append, List.filter_map, List.filter_map]
      congr 2
      · apply List.filter_congr
        intro s _
        show evR L (bitF (n - k) s) _ = evR L (bitF (n - (k + 1)) (0 :: s)) r
        rw [c5, bitF_at, if_neg (by decide), ev_bit hF hO c1 c3, e2]
      · apply List.filter_congr
        intro s _
        show evR L (bitF (n - k) s) _ = evR L (bitF (n - (k + 1)) (1 :: s)) r
        rw [c5, bitF_at, if_pos (by decide), ev_bit hF hO c2 c4, e2]
/-- for how many lists of bits from its own input on a reference has the value 1 -/
def cntF (n : Int) (L : List I3) : Nat → Int → Nat
  | 0, r => if r = 0 then 0 else 1
  | f + 1, r => if r < 2 then (if r = 0 then 0 else 1) else match L[(r - 2).toNat]? with
    | none => 0
    | some x => cntF n L f x.b * 2 ^ (lvlN n L x.b - (x.a + 1)).toNat + cntF n L f x.c * 2 ^ (lvlN n L x.c - (x.a + 1)).toNat
def cntR (n : Int) (L : List I3) (r : Int) : Nat := cntF n L r.toNat r
theorem cntF_low {n : Int} {L : List I3} (f : Nat) {r : Int} (h : r < 2) : cntF n L f r = if r = 0 then 0 else 1 := by
  cases f with
  | zero => rfl
  | succ f => rw [cntF, if_pos h]
theorem cntF_fuel {n : Int} {L : List I3} (hF : Frst L) : ∀ (f g : Nat) (r : Int), r.toNat ≤ f → r.toNat ≤ g → cntF n L f r = cntF n L g r := by
  intro f
  induction f with
  | zero => intro g r hf hg; rw [cntF_low _ (by omega), cntF_low _ (by omega)]
  | succ f ih =>
    intro g r hf hg
    by_cases hr : r < 2
    · rw [cntF_low _ hr, cntF_low _ hr]
    · obtain ⟨g, rfl⟩ : ∃ g', g = g' + 1 := ⟨g - 1, by omega⟩
      rw [cntF, cntF, if_neg hr, if_neg hr]
      cases hx : L[(r - 2).toNat]? with
      | none => rfl
      | some x =>
        have h3 := hF.low _ _ hx
        have h4 := hF.high _ _ hx
        unfold RefB at h3 h4
        simp only
        rw [ih g x.b (by omega) (by omega), ih g x.c (by omega) (by omega)]
theorem cnt_low {n : Int} {L : List I3} {r : Int} (h : r < 2) : cntR n L r = if r = 0 then 0 else 1 := cntF_low _ h
theorem cnt_node {n : Int} {L : List I3} (hF : Frst L) {k : Nat} {x : I3} (hx : L[k]? = some x) : cntR n L ((k : Int) + 2) = cntR n L x.b * 2 ^ (lvlN n L x.b - (x.a + 1)).toNat + cntR n L x.c * 2 ^ (lvlN n L x.c - (x.a + 1)).toNat := by
  have h3 := hF.low _ _ hx
  have h4 := hF.high _ _ hx
  unfold RefB at h3 h4
  rw [cntR, show ((k : Int) + 2).toNat = (k + 1) + 1 by omega, cntF, if_neg (by omega), show ((k : Int) + 2 - 2).toNat = k by omega, hx]
  simp only
  rw [cntF_fuel hF (k + 1) x.b.toNat x.b (by omega) (Nat.le_refl _), cntF_fuel hF (k + 1) x.c.toNat x.c (by omega) (Nat.le_refl _)]
  rfl
/-- the count is that of the lists -/
theorem cnt_ls {n : Nat} {L : List I3} (hF : Frst L) (hO : OrdN (n : Int) L) : ∀ (k : Nat) (r : Int), k ≤ n → RefB r L.length → ((n - k : Nat) : Int) ≤ lvlN (n : Int) L r → (lsN (n : Int) L k r).length = cntR (n : Int) L r * 2 ^ (lvlN (n : Int) L r - ((n - k : Nat) : Int)).toNat := by
  intro k
  induction k with
  | zero =>
    intro r _ hr hl
    have h2 : r < 2 := by
      by_cases h2 : r < 2
      · exact h2
      · obtain ⟨k, rfl⟩ : ∃ k : Nat, r = (k : Int) + 2 := ⟨(r - 2).toNat, by omega⟩
        have hlt : k < L.length := by have := hr.2; omega
        have hx := List.getElem?_eq_getElem hlt
        have h3 := (hO _ _ hx).2.1
        rw [lvl_node hx] at hl
        omega
    rw [lsN, cnt_low h2, lvl_low h2, show ((n : Int) - ((n - 0 : Nat) : Int)).toNat = 0 by omega]
    split <;> rfl
  | succ k ih =>
    intro r hk hr hl
    rw [lsN]
    by_cases h : r = 0
    · rw [if_pos h, h, cnt_low (by omega)]; simp
    · rw [if_neg h, List.length_append, List.length_map, List.length_map]
      have e1 : (n : Int) - ((k : Int) + 1) = ((n - (k + 1) : Nat) : Int) := by omega
      rw [e1]
      obtain ⟨c1, c2, c3, c4, c5⟩ := ch_all hF hO hr (i := n - (k + 1)) hl (by omega)
      rw [ih _ (by omega) c1 (by omega), ih _ (by omega) c2 (by omega)]
      have e2 : ((n - k : Nat) : Int) = ((n - (k + 1) : Nat) : Int) + 1 := by omega
      by_cases hlv : lvlN (n : Int) L r = ((n - (k + 1) : Nat) : Int) ∧ 2 ≤ r
      · obtain ⟨q, rfl⟩ : ∃ q : Nat, r = (q : Int) + 2 := ⟨(r - 2).toNat, by omega⟩
        have hlt : q < L.length := by have := hr.2; omega
        obtain ⟨x, hx⟩ : ∃ x, L[q]? = some x := ⟨_, List.getElem?_eq_getElem hlt⟩
        have hxa : x.a = ((n - (k + 1) : Nat) : Int) := by rw [← lvl_node (n := (n : Int)) hx]; exact hlv.1
        rw [ch_node hx hxa, cnt_node hF hx, lvl_node hx, hxa, show (((n - (k + 1) : Nat) : Int) - ((n - (k + 1) : Nat) : Int)).toNat = 0 by omega, e2]
        simp
      · rw [ch_skip (by omega), e2]
        simp only
        have hl3 : ((n - (k + 1) : Nat) : Int) + 1 ≤ lvlN (n : Int) L r := by
          by_cases h2 : r < 2
          · rw [lvl_low h2]; omega
          · omega
        have e3 : (lvlN (n : Int) L r - ((n - (k + 1) : Nat) : Int)).toNat = (lvlN (n : Int) L r - (((n - (k + 1) : Nat) : Int) + 1)).toNat + 1 := by omega
        rw [e3, Nat.pow_succ]
        rw [← Nat.mul_assoc]; omega
end Go.Proofs.YtkaikbaagajckaaGreat
