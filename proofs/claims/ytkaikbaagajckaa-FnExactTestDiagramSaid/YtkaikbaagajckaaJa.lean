/- Decision diagrams: nodes that are made once, and the canonical order of those that a root reaches: plain laws.; Decision diagrams: what is valid, and that both ways to tell agree: plain laws.; Decision diagrams: the values of references: plain laws.; Decision diagrams: the lists of bits with the value 1, and how many there are: plain laws.; Decision diagrams: joining two, fixing an input: plain laws.; Decision diagrams: a canonical diagram is valid, and canonical itself: plain laws.; Decision diagrams: an input fixed, ones counted: plain laws.; Decision diagrams: the reference's walk, over nodes that need not be different: plain laws. -/
import Derived.Test.YtkaikbaagajckaaBase
namespace Go.Proofs.Ytkaikbaagajckaa
open Go.RowKit
set_option linter.unusedVariables false
set_option linter.unusedSimpArgs false
theorem I3.eta (x : I3) : x = ⟨x.a, x.b, x.c⟩ := rfl
instance I3.dec : DecidableEq I3 := fun x y =>
  if h : x.a = y.a ∧ x.b = y.b ∧ x.c = y.c then .isTrue (by cases x; cases y; obtain ⟨h1, h2, h3⟩ := h; simp only at h1 h2 h3; subst h1 h2 h3; rfl)
  else .isFalse (fun e => h (by subst e; exact ⟨rfl, rfl, rfl⟩))
/-- the place of a node among nodes -/
def posN (x : I3) : List I3 → Option Nat
  | [] => none
  | y :: r => if y = x then some 0 else (posN x r).map (· + 1)
theorem posN_some {x : I3} : ∀ {L : List I3} {k : Nat}, posN x L = some k → L[k]? = some x ∧ ∀ j, j < k → L[j]? ≠ some x
  | [], k, h => by cases h
  | y :: r, k, h => by
    rw [posN] at h
    split at h
    · rename_i e
      cases h
      exact ⟨by rw [e]; rfl, fun j hj => by omega⟩
    · rename_i e
      cases hp : posN x r with
      | none => rw [hp] at h; cases h
      | some m =>
        rw [hp] at h
        simp only [Option.map_some, Option.some.injEq] at h
        subst h
        obtain ⟨h1, h2⟩ := posN_some hp
        refine ⟨by simpa using h1, fun j hj hc => ?_⟩
        cases j with
        | zero => simp at hc; exact e hc
        | succ j => exact h2 j (by omega) (by simpa using hc)
theorem posN_none {x : I3} : ∀ {L : List I3}, posN x L = none ↔ x ∉ L
  | [] => by simp [posN]
  | y :: r => by
    rw [posN]
    split
    · rename_i e; simp [e]
    · rename_i e
      rw [Option.map_eq_none_iff, posN_none, List.mem_cons, not_or]
      exact ⟨fun h => ⟨fun h2 => e h2.symm, h⟩, fun h => h.2⟩
theorem posN_hit {x : I3} {L : List I3} {k : Nat} (h : L[k]? = some x) (hf : ∀ j, j < k → L[j]? ≠ some x) : posN x L = some k := by
  cases hp : posN x L with
  | none => exact absurd (List.mem_of_getElem? h) (posN_none.1 hp)
  | some m =>
    obtain ⟨h1, h2⟩ := posN_some hp
    congr 1
    rcases Nat.lt_trichotomy m k with e | e | e
    · exact absurd h1 (hf m e)
    · exact e
    · exact absurd h (h2 k e)
/-- distinct nodes -/
theorem nodup_get {L : List I3} (h : L.Nodup) {i j : Nat} {x : I3} (hi : L[i]? = some x) (hj : L[j]? = some x) : i = j := by
  have h1 := (List.getElem?_eq_some_iff.1 hi)
  have h2 := (List.getElem?_eq_some_iff.1 hj)
  obtain ⟨l1, e1⟩ := h1
  obtain ⟨l2, e2⟩ := h2
  have hp := List.pairwise_iff_getElem.1 h
  rcases Nat.lt_trichotomy i j with e | e | e
  · exact absurd (e1.trans e2.symm) (hp i j l1 l2 e)
  · exact e
  · exact absurd (e2.trans e1.symm) (hp j i l2 l1 e)
/-- the reference to a node, which is added if it is not there -/
def mkN (L : List I3) (i lo hi : Int) : List I3 × Int :=
  if lo = hi then (L, lo) else match posN ⟨i, lo, hi⟩ L with
    | some k => (L, (k : Int) + 2)
    | none => (L ++ [⟨i, lo, hi⟩], (L.length : Int) + 2)
theorem mkN_eq {L : List I3} {i lo hi : Int} (h : lo = hi) : mkN L i lo hi = (L, lo) := if_pos h
theorem mkN_old {L : List I3} {i lo hi : Int} {k : Nat} (h : lo ≠ hi) (hp : posN ⟨i, lo, hi⟩ L = some k) : mkN L i lo hi = (L, (k : Int) + 2) := by rw [mkN, if_neg h, hp]
theorem mkN_new {L : List I3} {i lo hi : Int} (h : lo ≠ hi) (hp : (⟨i, lo, hi⟩ : I3) ∉ L) : mkN L i lo hi = (L ++ [⟨i, lo, hi⟩], (L.length : Int) + 2) := by rw [mkN, if_neg h, posN_none.2 hp]
theorem mkN_pre (L : List I3) (i lo hi : Int) : ∃ t, (mkN L i lo hi).1 = L ++ t ∧ t.length ≤ 1 := by
  unfold mkN
  split
  · exact ⟨[], by simp, by simp⟩
  · split
    · exact ⟨[], by simp, by simp⟩
    · exact ⟨[_], rfl, by simp⟩
theorem mkN_nodup {L : List I3} (h : L.Nodup) (i lo hi : Int) : (mkN L i lo hi).1.Nodup := by
  unfold mkN
  split
  · exact h
  · split
    · exact h
    · rename_i hp
      have := posN_none.1 hp
      rw [List.nodup_append]
      refine ⟨h, by simp, fun a ha b hb => ?_⟩
      simp at hb
      rw [hb]
      intro e; exact this (e ▸ ha)
/-- what a reference stands for -/
theorem mkN_is (L : List I3) {i lo hi : Int} (h : lo ≠ hi) : ∃ k : Nat, (mkN L i lo hi).2 = (k : Int) + 2 ∧ (mkN L i lo hi).1[k]? = some ⟨i, lo, hi⟩ := by
  unfold mkN
  rw [if_neg h]
  split
  · rename_i k hk
    exact ⟨k, rfl, (posN_some hk).1⟩
  · exact ⟨L.length, rfl, by simp⟩
/-- nodes of which each refers to earlier ones -/
def RefB (r : Int) (n : Nat) : Prop := 0 ≤ r ∧ r < (n : Int) + 2
structure Frst (L : List I3) : Prop where
  low : ∀ (i : Nat) (x : I3), L[i]? = some x → RefB x.b i
  high : ∀ (i : Nat) (x : I3), L[i]? = some x → RefB x.c i
theorem Frst.nil : Frst [] := ⟨fun i x h => by simp at h, fun i x h => by simp at h⟩
theorem RefB.mono {r : Int} {n m : Nat} (h : RefB r n) (hm : n ≤ m) : RefB r m := ⟨h.1, by have := h.2; omega⟩
theorem Frst.app {L : List I3} (h : Frst L) {i lo hi : Int} (hl : RefB lo L.length) (hh : RefB hi L.length) : Frst (L ++ [⟨i, lo, hi⟩]) := by
  refine ⟨fun j x hj => ?_, fun j x hj => ?_⟩
  · rw [List.getElem?_append] at hj
    split at hj
    · exact h.low j x hj
    · have hj2 : j = L.length := by
        have := (List.getElem?_eq_some_iff.1 hj).1
        simp at this; omega
      subst hj2
      simp at hj
      subst hj
      exact hl
  · rw [List.getElem?_append] at hj
    split at hj
    · exact h.high j x hj
    · have hj2 : j = L.length := by
        have := (List.getElem?_eq_some_iff.1 hj).1
        simp at this; omega
      subst hj2
      simp at hj
      subst hj
      exact hh
theorem Frst.add {L : List I3} (h : Frst L) {i lo hi : Int} (hl : RefB lo L.length) (hh : RefB hi L.length) : Frst (mkN L i lo hi).1 ∧ RefB (mkN L i lo hi).2 (mkN L i lo hi).1.length := by
  unfold mkN
  split
  · exact ⟨h, hl⟩
  · split
    · rename_i k hk
      have := (List.getElem?_eq_some_iff.1 (posN_some hk).1).1
      refine ⟨h, ?_, ?_⟩
      · simp only; omega
      · simp only; omega
    · refine ⟨⟨fun j x hj => ?_, fun j x hj => ?_⟩, ?_, ?_⟩
      · rw [List.getElem?_append] at hj
        split at hj
        · exact h.low j x hj
        · have hj2 : j = L.length := by
            have := (List.getElem?_eq_some_iff.1 hj).1
            simp at this; omega
          subst hj2
          simp at hj
          subst hj
          exact hl
      · rw [List.getElem?_append] at hj
        split at hj
        · exact h.high j x hj
        · have hj2 : j = L.length := by
            have := (List.getElem?_eq_some_iff.1 hj).1
            simp at this; omega
          subst hj2
          simp at hj
          subst hj
          exact hh
      · simp only; omega
      · simp only [List.length_append, List.length_cons, List.length_nil]; omega

/-! ### the nodes that a root reaches, in the order in which they are left -/
/-- new references: 0 where there is none yet -/
abbrev Nms := Nat → Int
/-- 'walk' with a rule that makes the node -/
def wlkN (mkf : List I3 → Int → Int → Int → List I3 × Int) (N : List I3) : Nat → List I3 × Nms → Nat → List I3 × Nms × Int
  | 0, s, r => (s.1, s.2, (r : Int))
  | f + 1, s, r =>
    if r < 2 then (s.1, s.2, (r : Int))
    else if s.2 r > 0 then (s.1, s.2, s.2 r)
    else match N[r - 2]? with
      | none => (s.1, s.2, (r : Int))
      | some x =>
        let a := wlkN mkf N f s x.b.toNat
        let b := wlkN mkf N f (a.1, a.2.1) x.c.toNat
        let m := mkf b.1 x.a a.2.2 b.2.2
        (m.1, fun q => if q = r then m.2 else b.2.1 q, m.2)
/-- appending, whatever stands there -/
def appN (L : List I3) (i lo hi : Int) : List I3 × Int := (L ++ [⟨i, lo, hi⟩], (L.length : Int) + 2)
theorem wlk_low (mkf : List I3 → Int → Int → Int → List I3 × Int) (N : List I3) (f : Nat) (s : List I3 × Nms) {r : Nat} (h : r < 2) : wlkN mkf N f s r = (s.1, s.2, (r : Int)) := by
  cases f with
  | zero => rfl
  | succ f => rw [wlkN, if_pos h]
theorem wlk_old (mkf : List I3 → Int → Int → Int → List I3 × Int) (N : List I3) (f : Nat) (s : List I3 × Nms) {r : Nat} (h : ¬ r < 2) (hp : s.2 r > 0) : wlkN mkf N (f + 1) s r = (s.1, s.2, s.2 r) := by
  rw [wlkN, if_neg h, if_pos hp]
theorem wlk_new (mkf : List I3 → Int → Int → Int → List I3 × Int) (N : List I3) (f : Nat) (s : List I3 × Nms) {r : Nat} {x : I3} (h : ¬ r < 2) (hp : ¬ s.2 r > 0) (hx : N[r - 2]? = some x) :
    wlkN mkf N (f + 1) s r = ((mkf (wlkN mkf N f ((wlkN mkf N f s x.b.toNat).1, (wlkN mkf N f s x.b.toNat).2.1) x.c.toNat).1 x.a (wlkN mkf N f s x.b.toNat).2.2 (wlkN mkf N f ((wlkN mkf N f s x.b.toNat).1, (wlkN mkf N f s x.b.toNat).2.1) x.c.toNat).2.2).1,
      (fun q => if q = r then (mkf (wlkN mkf N f ((wlkN mkf N f s x.b.toNat).1, (wlkN mkf N f s x.b.toNat).2.1) x.c.toNat).1 x.a (wlkN mkf N f s x.b.toNat).2.2 (wlkN mkf N f ((wlkN mkf N f s x.b.toNat).1, (wlkN mkf N f s x.b.toNat).2.1) x.c.toNat).2.2).2 else (wlkN mkf N f ((wlkN mkf N f s x.b.toNat).1, (wlkN mkf N f s x.b.toNat).2.1) x.c.toNat).2.1 q),
      (mkf (wlkN mkf N f ((wlkN mkf N f s x.b.toNat).1, (wlkN mkf N f s x.b.toNat).2.1) x.c.toNat).1 x.a (wlkN mkf N f s x.b.toNat).2.2 (wlkN mkf N f ((wlkN mkf N f s x.b.toNat).1, (wlkN mkf N f s x.b.toNat).2.1) x.c.toNat).2.2).2) := by
  rw [wlkN, if_neg h, if_neg hp, hx]
/-- what a walk keeps: the new nodes are the old ones with new references -/
structure WkI (N D : List I3) (P : Nms) : Prop where
  nodup : D.Nodup
  frst : Frst D
  at' : ∀ r : Nat, P r > 0 → 2 ≤ r ∧ ∃ (x : I3) (k : Nat), N[r - 2]? = some x ∧ P r = (k : Int) + 2 ∧ D[k]? = some ⟨x.a, (if x.b < 2 then x.b else P x.b.toNat), (if x.c < 2 then x.c else P x.c.toNat)⟩ ∧ (2 ≤ x.b → P x.b.toNat > 0) ∧ (2 ≤ x.c → P x.c.toNat > 0)
  from' : ∀ k : Nat, k < D.length → ∃ r : Nat, P r = (k : Int) + 2
  neg : ∀ r, 0 ≤ P r
theorem WkI.start (N : List I3) : WkI N [] (fun _ => 0) := ⟨List.nodup_nil, Frst.nil, fun r h => by simp at h, fun k h => by simp at h, fun r => by simp⟩
/-- the new reference of an old one -/
def rvN (P : Nms) (b : Int) : Int := if b < 2 then b else P b.toNat
def VisN (P : Nms) (b : Int) : Prop := 0 ≤ b ∧ (2 ≤ b → P b.toNat > 0)
theorem WkI.ge2 {N D : List I3} {P : Nms} (h : WkI N D P) {r : Nat} (hr : P r > 0) : 2 ≤ P r := by
  obtain ⟨_, x, k, _, e, _⟩ := h.at' r hr
  omega
theorem WkI.nodes {N D : List I3} {P : Nms} (h : WkI N D P) (hF : Frst N) {r : Nat} (hr : P r > 0) : 2 ≤ r ∧ ∃ (x : I3) (k : Nat), N[r - 2]? = some x ∧ P r = (k : Int) + 2 ∧ D[k]? = some ⟨x.a, rvN P x.b, rvN P x.c⟩ ∧ VisN P x.b ∧ VisN P x.c ∧ x.b.toNat < r ∧ x.c.toNat < r := by
  obtain ⟨h2, x, k, hx, hk, hd, hb, hc⟩ := h.at' r hr
  have h3 := hF.low _ _ hx
  have h4 := hF.high _ _ hx
  unfold RefB at h3 h4
  exact ⟨h2, x, k, hx, hk, hd, ⟨h3.1, hb⟩, ⟨h4.1, hc⟩, by omega, by omega⟩
theorem WkI.inj {N D : List I3} {P : Nms} (h : WkI N D P) (hN : N.Nodup) (hF : Frst N) : ∀ (m q1 q2 : Nat), q1 ≤ m → P q1 > 0 → P q1 = P q2 → q1 = q2 := by
  intro m
  induction m with
  | zero =>
    intro q1 q2 hm h1 _
    obtain ⟨h2, _⟩ := h.nodes hF h1
    omega
  | succ m ih =>
    intro q1 q2 hm h1 he
    obtain ⟨a1, x, k, hx, hk, hd, vb, vc, lb, lc⟩ := h.nodes hF h1
    obtain ⟨a2, y, j, hy, hj, he2, ub, uc, mb, mc⟩ := h.nodes hF (show P q2 > 0 by omega)
    have hkj : k = j := by omega
    subst hkj
    rw [hd] at he2
    simp only [Option.some.injEq, I3.mk.injEq] at he2
    obtain ⟨e1, e2, e3⟩ := he2
    have key : ∀ {b c : Int}, VisN P b → VisN P c → b.toNat ≤ m → rvN P b = rvN P c → b = c := by
      intro b c v1 v2 hb e
      unfold rvN at e
      by_cases b2 : b < 2
      · rw [if_pos b2] at e
        by_cases c2 : c < 2
        · rw [if_pos c2] at e; exact e
        · rw [if_neg c2] at e
          have := h.ge2 (v2.2 (by omega))
          omega
      · rw [if_neg b2] at e
        by_cases c2 : c < 2
        · rw [if_pos c2] at e
          have := h.ge2 (v1.2 (by omega))
          omega
        · rw [if_neg c2] at e
          have := ih b.toNat c.toNat hb (v1.2 (by omega)) e
          have h1 := v1.1
          have h2 := v2.1
          omega
    have eb := key vb ub (by omega) e2
    have ec := key vc uc (by omega) e3
    have exy : x = y := by rw [I3.eta x, I3.eta y, e1, eb, ec]
    subst exy
    have := nodup_get hN hx hy
    omega
theorem WkI.rinj {N D : List I3} {P : Nms} (h : WkI N D P) (hN : N.Nodup) (hF : Frst N) {b c : Int} (v1 : VisN P b) (v2 : VisN P c) (e : rvN P b = rvN P c) : b = c := by
  unfold rvN at e
  by_cases b2 : b < 2
  · rw [if_pos b2] at e
    by_cases c2 : c < 2
    · rw [if_pos c2] at e; exact e
    · rw [if_neg c2] at e
      have := h.ge2 (v2.2 (by omega))
      omega
  · rw [if_neg b2] at e
    by_cases c2 : c < 2
    · rw [if_pos c2] at e
      have := h.ge2 (v1.2 (by omega))
      omega
    · rw [if_neg c2] at e
      have := h.inj hN hF _ _ _ (Nat.le_refl _) (v1.2 (by omega)) e
      have h1 := v1.1
      have h2 := v2.1
      omega
/-- what a walk from a reference gives -/
structure WkR (N : List I3) (D : List I3) (P : Nms) (r : Nat) (A : List I3 × Nms × Int) : Prop where
  inv : WkI N A.1 A.2.1
  ref : A.2.2 = rvN A.2.1 (r : Int)
  vis : 2 ≤ r → A.2.1 r > 0
  old : ∀ q, P q > 0 → A.2.1 q = P q
  far : ∀ q, r < q → A.2.1 q = P q
  pre : ∃ t, A.1 = D ++ t
theorem wlk_same {N : List I3} (hN : N.Nodup) (hF : Frst N) (hR : ∀ x ∈ N, x.b ≠ x.c) : ∀ (f r : Nat) (D : List I3) (P : Nms), r ≤ f → r < N.length + 2 → WkI N D P →
    wlkN mkN N f (D, P) r = wlkN appN N f (D, P) r ∧ WkR N D P r (wlkN appN N f (D, P) r) := by
  intro f
  induction f with
  | zero =>
    intro r D P hr hrn h
    have hr0 : r < 2 := by omega
    rw [wlk_low _ _ _ _ hr0, wlk_low _ _ _ _ hr0]
    refine ⟨rfl, h, ?_, fun h2 => by omega, fun q _ => rfl, fun q _ => rfl, [], by simp⟩
    show (r : Int) = rvN P (r : Int)
    rw [rvN, if_pos (by omega)]
  | succ f ih =>
    intro r D P hr hrn h
    by_cases hr2 : r < 2
    · rw [wlk_low _ _ _ _ hr2, wlk_low _ _ _ _ hr2]
      refine ⟨rfl, h, ?_, fun h2 => by omega, fun q _ => rfl, fun q _ => rfl, [], by simp⟩
      show (r : Int) = rvN P (r : Int)
      rw [rvN, if_pos (by omega)]
    · by_cases hp : P r > 0
      · rw [wlk_old _ _ _ _ hr2 hp, wlk_old _ _ _ _ hr2 hp]
        refine ⟨rfl, h, ?_, fun h2 => hp, fun q _ => rfl, fun q _ => rfl, [], by simp⟩
        show P r = rvN P (r : Int)
        rw [rvN, if_neg (by omega), Int.toNat_natCast]
      · obtain ⟨x, hx⟩ : ∃ x, N[r - 2]? = some x := ⟨_, List.getElem?_eq_getElem (by omega)⟩
        have h3 := hF.low _ _ hx
        have h4 := hF.high _ _ hx
        unfold RefB at h3 h4
        have hb : x.b.toNat < r := by omega
        have hc : x.c.toNat < r := by omega
        rw [wlk_new _ _ _ _ hr2 hp hx, wlk_new _ _ _ _ hr2 hp hx]
        obtain ⟨s1, R1⟩ := ih x.b.toNat D P (by omega) (by omega) h
        rw [s1]
        generalize wlkN appN N f (D, P) x.b.toNat = A at *
        obtain ⟨D1, P1, r1⟩ := A
        obtain ⟨s2, R2⟩ := ih x.c.toNat D1 P1 (by omega) (by omega) R1.inv
        simp only
        rw [s2]
        generalize wlkN appN N f (D1, P1) x.c.toNat = B at *
        obtain ⟨D2, P2, r2⟩ := B
        have i1 := R1.inv
        have i2 := R2.inv
        have o2 := R2.old
        have f1 := R1.far
        have f2 := R2.far
        have v1 := R1.vis
        have v2 := R2.vis
        have e1 := R1.ref
        have e2 := R2.ref
        obtain ⟨t1, p1⟩ := R1.pre
        obtain ⟨t2, p2⟩ := R2.pre
        simp only at i1 i2 o2 f1 f2 v1 v2 e1 e2 p1 p2 ⊢
        have hb0 : (x.b.toNat : Int) = x.b := by omega
        have hc0 : (x.c.toNat : Int) = x.c := by omega
        rw [hb0] at e1
        rw [hc0] at e2
        have vb1 : VisN P1 x.b := ⟨h3.1, fun h => v1 (by omega)⟩
        have vb : VisN P2 x.b := ⟨h3.1, fun h => by rw [o2 _ (vb1.2 h)]; exact vb1.2 h⟩
        have vc : VisN P2 x.c := ⟨h4.1, fun h => v2 (by omega)⟩
        have e1' : r1 = rvN P2 x.b := by
          rw [e1, rvN, rvN]
          split
          · rfl
          · rw [o2 _ (vb1.2 (by omega))]
        have hr0 : P2 r = 0 := by
          have := f2 r hc
          have := f1 r hb
          have := h.neg r
          omega
        have hne : r1 ≠ r2 := fun e => by
          rw [e1', e2] at e
          exact hR x (List.mem_of_getElem? hx) (i2.rinj hN hF vb vc e)
        have hnot : (⟨x.a, r1, r2⟩ : I3) ∉ D2 := fun hm => by
          obtain ⟨k, hk⟩ := List.getElem?_of_mem hm
          obtain ⟨r', hr'⟩ := i2.from' k (List.getElem?_eq_some_iff.1 hk).1
          obtain ⟨g1, y, j, hy, hj, hd, ub, uc, _, _⟩ := i2.nodes hF (show P2 r' > 0 by omega)
          have hkj : k = j := by omega
          subst hkj
          rw [hk] at hd
          simp only [Option.some.injEq, I3.mk.injEq] at hd
          obtain ⟨d1, d2, d3⟩ := hd
          have eb := i2.rinj hN hF vb ub (by rw [← e1', d2])
          have ec := i2.rinj hN hF vc uc (by rw [← e2, d3])
          have exy : x = y := by rw [I3.eta x, I3.eta y, d1, eb, ec]
          subst exy
          have := nodup_get hN hx hy
          have : r = r' := by omega
          subst this
          omega
        rw [mkN_new hne hnot, appN]
        have hrb : ∀ {b : Int}, VisN P2 b → RefB (rvN P2 b) D2.length := by
          intro b vb
          rw [rvN]
          split
          · exact ⟨vb.1, by omega⟩
          · obtain ⟨_, _, k, _, hk, hd, _⟩ := i2.nodes hF (vb.2 (by omega))
            have := (List.getElem?_eq_some_iff.1 hd).1
            exact ⟨by omega, by omega⟩
        refine ⟨rfl, ⟨?_, i2.frst.app (e1' ▸ hrb vb) (e2 ▸ hrb vc), ?_, ?_, ?_⟩, ?_, ?_, ?_, ?_, ?_⟩
        · simp only
          rw [List.nodup_append]
          refine ⟨i2.nodup, by simp, fun a ha b hb => ?_⟩
          simp at hb
          rw [hb]
          intro e; exact hnot (e ▸ ha)
        · intro q hq
          simp only at hq ⊢
          by_cases hqr : q = r
          · subst hqr
            refine ⟨by omega, x, D2.length, hx, by rw [if_pos rfl], ?_, ?_, ?_⟩
            · rw [List.getElem?_append_right (Nat.le_refl _), Nat.sub_self, List.getElem?_cons_zero, e1', e2, rvN, rvN]
              rw [if_neg (show ¬ x.b.toNat = q by omega), if_neg (show ¬ x.c.toNat = q by omega)]
            · intro h2
              rw [if_neg (show ¬ x.b.toNat = q by omega)]; exact vb.2 h2
            · intro h2
              rw [if_neg (show ¬ x.c.toNat = q by omega)]; exact vc.2 h2
          · rw [if_neg hqr] at hq ⊢
            obtain ⟨g1, y, j, hy, hj, hd, ub, uc, lb, lc⟩ := i2.nodes hF hq
            have nb : 2 ≤ y.b → ¬ y.b.toNat = r := fun h2 e => by
              have := ub.2 h2
              rw [e, hr0] at this; omega
            have nc : 2 ≤ y.c → ¬ y.c.toNat = r := fun h2 e => by
              have := uc.2 h2
              rw [e, hr0] at this; omega
            refine ⟨g1, y, j, hy, hj, ?_, fun h2 => ?_, fun h2 => ?_⟩
            · rw [List.getElem?_append_left (List.getElem?_eq_some_iff.1 hd).1, hd, rvN, rvN]
              congr 2
              · by_cases b2 : y.b < 2
                · rw [if_pos b2, if_pos b2]
                · rw [if_neg b2, if_neg b2, if_neg (nb (by omega))]
              · by_cases c2 : y.c < 2
                · rw [if_pos c2, if_pos c2]
                · rw [if_neg c2, if_neg c2, if_neg (nc (by omega))]
            · rw [if_neg (nb h2)]; exact ub.2 h2
            · rw [if_neg (nc h2)]; exact uc.2 h2
        · intro k hk
          simp only [List.length_append, List.length_cons, List.length_nil] at hk ⊢
          by_cases hk2 : k < D2.length
          · obtain ⟨r', hr'⟩ := i2.from' k hk2
            have : r' ≠ r := fun e => by rw [e, hr0] at hr'; omega
            exact ⟨r', by rw [if_neg this]; exact hr'⟩
          · have : k = D2.length := by omega
            subst this
            exact ⟨r, by rw [if_pos rfl]⟩
        · intro q
          simp only
          split
          · omega
          · exact i2.neg q
        · simp only
          rw [rvN, if_neg (by omega), Int.toNat_natCast, if_pos rfl]
        · intro _
          show (if r = r then (D2.length : Int) + 2 else P2 r) > 0
          rw [if_pos rfl]; omega
        · intro q hq
          simp only
          have hqr : q ≠ r := fun e => hp (e ▸ hq)
          have h1 := R1.old q hq
          simp only at h1
          rw [if_neg hqr, o2 q (by omega), h1]
        · intro q hq
          simp only
          rw [if_neg (by omega), f2 q (by omega), f1 q (by omega)]
        · exact ⟨t1 ++ (t2 ++ [⟨x.a, r1, r2⟩]), by simp only; rw [p2, p1]; simp⟩
end Go.Proofs.Ytkaikbaagajckaa
namespace Go.Proofs.Ytkaikbaagajckaa
open Go.RowKit
set_option linter.unusedVariables false
set_option linter.unusedSimpArgs false
theorem wlk_nodup {N : List I3} : ∀ (f r : Nat) (D : List I3) (P : Nms), D.Nodup → (wlkN mkN N f (D, P) r).1.Nodup := by
  intro f
  induction f with
  | zero => intro r D P h; exact h
  | succ f ih =>
    intro r D P h
    rw [wlkN]
    split
    · exact h
    · split
      · exact h
      · split
        · exact h
        · rename_i x hx
          exact mkN_nodup (ih _ _ _ (ih _ _ _ h)) _ _ _
/-- more fuel than the reference needs changes nothing -/
theorem wlk_fuel {mkf : List I3 → Int → Int → Int → List I3 × Int} {N : List I3} (hF : Frst N) : ∀ (f g r : Nat) (s : List I3 × Nms), r ≤ f → r ≤ g → wlkN mkf N f s r = wlkN mkf N g s r := by
  intro f
  induction f with
  | zero =>
    intro g r s hf hg
    rw [wlk_low _ _ _ _ (by omega), wlk_low _ _ _ _ (by omega)]
  | succ f ih =>
    intro g r s hf hg
    by_cases hr : r < 2
    · rw [wlk_low _ _ _ _ hr, wlk_low _ _ _ _ hr]
    · obtain ⟨g, rfl⟩ : ∃ g', g = g' + 1 := ⟨g - 1, by omega⟩
      by_cases hp : s.2 r > 0
      · rw [wlk_old _ _ _ _ hr hp, wlk_old _ _ _ _ hr hp]
      · cases hx : N[r - 2]? with
        | none => rw [wlkN, wlkN, if_neg hr, if_neg hr, if_neg hp, if_neg hp, hx]
        | some x =>
          have h3 := hF.low _ _ hx
          have h4 := hF.high _ _ hx
          unfold RefB at h3 h4
          rw [wlk_new _ _ _ _ hr hp hx, wlk_new _ _ _ _ hr hp hx, ih g x.b.toNat s (by omega) (by omega), ih g x.c.toNat _ (by omega) (by omega)]
/-- the canonical nodes of a root, and the root's reference -/
def canN (mkf : List I3 → Int → Int → Int → List I3 × Int) (N : List I3) (root : Int) : List I3 × Int :=
  ((wlkN mkf N root.toNat ([], fun _ => 0) root.toNat).1, (wlkN mkf N root.toNat ([], fun _ => 0) root.toNat).2.2)
/-- different nodes with different branches, each behind those that it refers to -/
structure Redu (L : List I3) : Prop where
  nodup : L.Nodup
  frst : Frst L
  diff : ∀ x ∈ L, x.b ≠ x.c
theorem Redu.nil : Redu [] := ⟨List.nodup_nil, Frst.nil, fun x h => by cases h⟩
theorem Redu.add {L : List I3} (h : Redu L) {i lo hi : Int} (hl : RefB lo L.length) (hh : RefB hi L.length) : Redu (mkN L i lo hi).1 := by
  refine ⟨mkN_nodup h.nodup _ _ _, (h.frst.add hl hh).1, fun x hx => ?_⟩
  unfold mkN at hx
  split at hx
  · exact h.diff x hx
  · rename_i hne
    split at hx
    · exact h.diff x hx
    · rcases List.mem_append.1 hx with h1 | h1
      · exact h.diff x h1
      · simp at h1
        rw [h1]; exact hne
theorem can_same {N : List I3} (h : Redu N) {root : Int} (hr : RefB root N.length) : canN mkN N root = canN appN N root := by
  obtain ⟨h1, _⟩ := wlk_same h.nodup h.frst h.diff root.toNat root.toNat [] (fun _ => 0) (Nat.le_refl _) (by unfold RefB at hr; omega) (WkI.start N)
  rw [canN, canN, h1]
/-- the input of a reference, n for a constant -/
def lvlN (n : Int) (L : List I3) (r : Int) : Int := if r < 2 then n else (L.getD (r - 2).toNat ⟨0, 0, 0⟩).a
def ndB (n : Int) (L : List I3) (i : Nat) : Bool := inB (L.getD i ⟨0, 0, 0⟩).a 0 (n - 1) && inB (L.getD i ⟨0, 0, 0⟩).b 0 ((i : Int) + 1) && inB (L.getD i ⟨0, 0, 0⟩).c 0 ((i : Int) + 1) && ((L.getD i ⟨0, 0, 0⟩).b != (L.getD i ⟨0, 0, 0⟩).c) && decide ((L.getD i ⟨0, 0, 0⟩).a < lvlN n L (L.getD i ⟨0, 0, 0⟩).b) && decide ((L.getD i ⟨0, 0, 0⟩).a < lvlN n L (L.getD i ⟨0, 0, 0⟩).c)
def dia0 (n : Int) (L : List I3) (root : Int) : Bool := inB n 0 20 && decide (L.length ≤ 2000) && inB root 0 ((L.length : Int) + 1)
/-- a valid diagram -/
def diaB (n : Int) (L : List I3) (root : Int) : Bool := dia0 n L root && upB (ndB n L) L.length && decide (canN mkN L root = (L, root))
structure NdOk (n : Int) (L : List I3) (i : Nat) (x : I3) : Prop where
  inp : 0 ≤ x.a ∧ x.a ≤ n - 1
  low : 0 ≤ x.b ∧ x.b ≤ (i : Int) + 1
  high : 0 ≤ x.c ∧ x.c ≤ (i : Int) + 1
  ne : x.b ≠ x.c
  lb : x.a < lvlN n L x.b
  lc : x.a < lvlN n L x.c
theorem ndB_iff {n : Int} {L : List I3} {i : Nat} {x : I3} (hx : L[i]? = some x) : ndB n L i = true ↔ NdOk n L i x := by
  have e : L.getD i ⟨0, 0, 0⟩ = x := by rw [List.getD_eq_getElem?_getD, hx]; rfl
  rw [ndB, e]
  simp only [Bool.and_eq_true, inB, decide_eq_true_eq, bne_iff_ne]
  constructor
  · rintro ⟨⟨⟨⟨⟨h1, h2⟩, h3⟩, h4⟩, h5⟩, h6⟩
    exact ⟨h1, h2, h3, h4, h5, h6⟩
  · rintro ⟨h1, h2, h3, h4, h5, h6⟩
    exact ⟨⟨⟨⟨⟨h1, h2⟩, h3⟩, h4⟩, h5⟩, h6⟩
theorem upB_at {p : Nat → Bool} {n i : Nat} (h : upB p n = true) (hi : i < n) : p i = true := by
  rw [upB, List.all_eq_true] at h
  exact h i (List.mem_range.2 hi)
theorem nds_frst {n : Int} {L : List I3} (h : upB (ndB n L) L.length = true) : Frst L ∧ ∀ x ∈ L, x.b ≠ x.c := by
  refine ⟨⟨fun i x hx => ?_, fun i x hx => ?_⟩, fun x hx => ?_⟩
  · have := (ndB_iff hx).1 (upB_at h (List.getElem?_eq_some_iff.1 hx).1)
    exact ⟨this.low.1, by have := this.low.2; omega⟩
  · have := (ndB_iff hx).1 (upB_at h (List.getElem?_eq_some_iff.1 hx).1)
    exact ⟨this.high.1, by have := this.high.2; omega⟩
  · obtain ⟨i, hi⟩ := List.getElem?_of_mem hx
    exact ((ndB_iff hi).1 (upB_at h (List.getElem?_eq_some_iff.1 hi).1)).ne
/-- the program's way: nodes are different, and the walk appends -/
theorem dia_impl {n : Int} {L : List I3} {root : Int} : diaB n L root = (dia0 n L root && upB (ndB n L) L.length && decide L.Nodup && decide (canN appN L root = (L, root))) := by
  rw [diaB]
  cases h0 : dia0 n L root
  · rfl
  cases h1 : upB (ndB n L) L.length
  · rfl
  obtain ⟨hF, hR⟩ := nds_frst h1
  simp only [Bool.true_and]
  by_cases hd : L.Nodup
  · rw [decide_eq_true hd, Bool.true_and]
    have hr : RefB root L.length := by
      have h9 := h0
      rw [dia0, Bool.and_eq_true, Bool.and_eq_true, inB, inB, Bool.and_eq_true, Bool.and_eq_true] at h9
      simp only [decide_eq_true_eq] at h9
      exact ⟨h9.2.1, by have := h9.2.2; omega⟩
    rw [can_same ⟨hd, hF, hR⟩ hr]
  · rw [decide_eq_false hd, Bool.false_and, decide_eq_false]
    intro e
    have := wlk_nodup (N := L) root.toNat root.toNat [] (fun _ => 0) List.nodup_nil
    rw [canN, Prod.mk.injEq] at e
    rw [e.1] at this
    exact hd this
theorem dia_redu {n : Int} {L : List I3} {root : Int} (h : diaB n L root = true) : Redu L ∧ RefB root L.length ∧ 0 ≤ n ∧ n ≤ 20 ∧ L.length ≤ 2000 ∧ canN mkN L root = (L, root) ∧ ∀ (i : Nat) (x : I3), L[i]? = some x → NdOk n L i x := by
  rw [dia_impl] at h
  simp only [Bool.and_eq_true, decide_eq_true_eq] at h
  obtain ⟨⟨⟨h0, h1⟩, h2⟩, h3⟩ := h
  obtain ⟨hF, hR⟩ := nds_frst h1
  have h00 := h0
  rw [dia0, Bool.and_eq_true, Bool.and_eq_true, inB, inB, Bool.and_eq_true, Bool.and_eq_true] at h0
  simp only [decide_eq_true_eq] at h0
  obtain ⟨⟨h4, h5⟩, h6⟩ := h0
  have hr : RefB root L.length := ⟨h6.1, by have := h6.2; omega⟩
  exact ⟨⟨h2, hF, hR⟩, hr, h4.1, h4.2, h5, by rw [can_same ⟨h2, hF, hR⟩ hr]; exact h3, fun i x hx => (ndB_iff hx).1 (upB_at h1 (List.getElem?_eq_some_iff.1 hx).1)⟩
end Go.Proofs.Ytkaikbaagajckaa
namespace Go.Proofs.Ytkaikbaagajckaa
open Go.RowKit
set_option linter.unusedVariables false
set_option linter.unusedSimpArgs false
/-- the value of a reference -/
def evF (L : List I3) (β : Nat → Bool) : Nat → Int → Bool
  | 0, r => decide (r = 1)
  | f + 1, r => if r < 2 then decide (r = 1) else match L[(r - 2).toNat]? with
    | none => false
    | some x => evF L β f (if β x.a.toNat = true then x.c else x.b)
def evR (L : List I3) (β : Nat → Bool) (r : Int) : Bool := evF L β r.toNat r
theorem evF_low {L : List I3} {β : Nat → Bool} (f : Nat) {r : Int} (h : r < 2) : evF L β f r = decide (r = 1) := by
  cases f with
  | zero => rfl
  | succ f => rw [evF, if_pos h]
theorem evF_fuel {L : List I3} (hF : Frst L) {β : Nat → Bool} : ∀ (f g : Nat) (r : Int), r.toNat ≤ f → r.toNat ≤ g → evF L β f r = evF L β g r := by
  intro f
  induction f with
  | zero => intro g r hf hg; rw [evF_low _ (by omega), evF_low _ (by omega)]
  | succ f ih =>
    intro g r hf hg
    by_cases hr : r < 2
    · rw [evF_low _ hr, evF_low _ hr]
    · obtain ⟨g, rfl⟩ : ∃ g', g = g' + 1 := ⟨g - 1, by omega⟩
      rw [evF, evF, if_neg hr, if_neg hr]
      cases hx : L[(r - 2).toNat]? with
      | none => rfl
      | some x =>
        have h3 := hF.low _ _ hx
        have h4 := hF.high _ _ hx
        unfold RefB at h3 h4
        simp only
        split
        · exact ih g x.c (by omega) (by omega)
        · exact ih g x.b (by omega) (by omega)
theorem ev_low {L : List I3} {β : Nat → Bool} {r : Int} (h : r < 2) : evR L β r = decide (r = 1) := evF_low _ h
theorem ev_node {L : List I3} (hF : Frst L) {β : Nat → Bool} {k : Nat} {x : I3} (hx : L[k]? = some x) : evR L β ((k : Int) + 2) = evR L β (if β x.a.toNat = true then x.c else x.b) := by
  have h3 := hF.low _ _ hx
  have h4 := hF.high _ _ hx
  unfold RefB at h3 h4
  rw [evR, show ((k : Int) + 2).toNat = (k + 1) + 1 by omega, evF, if_neg (by omega), show ((k : Int) + 2 - 2).toNat = k by omega, hx]
  simp only
  split
  · exact evF_fuel hF _ _ _ (by omega) (Nat.le_refl _)
  · exact evF_fuel hF _ _ _ (by omega) (Nat.le_refl _)
/-- more nodes behind change nothing -/
theorem evF_app {L t : List I3} (hF : Frst L) {β : Nat → Bool} : ∀ (f : Nat) (r : Int), RefB r L.length → evF (L ++ t) β f r = evF L β f r := by
  intro f
  induction f with
  | zero => intro r _; rfl
  | succ f ih =>
    intro r hr
    rw [evF, evF]
    split
    · rfl
    · rename_i h2
      have hlt : (r - 2).toNat < L.length := by have := hr.2; have := hr.1; omega
      rw [List.getElem?_append_left hlt]
      have hx := List.getElem?_eq_getElem hlt
      rw [hx]
      simp only
      have h3 := (hF.low _ _ hx).mono (Nat.le_of_lt hlt)
      have h4 := (hF.high _ _ hx).mono (Nat.le_of_lt hlt)
      split
      · exact ih _ h4
      · exact ih _ h3
theorem ev_app {L t : List I3} (hF : Frst L) {β : Nat → Bool} {r : Int} (hr : RefB r L.length) : evR (L ++ t) β r = evR L β r := evF_app hF _ _ hr
theorem ev_mk {L : List I3} (hF : Frst L) {β : Nat → Bool} {i lo hi : Int} (hl : RefB lo L.length) (hh : RefB hi L.length) : evR (mkN L i lo hi).1 β (mkN L i lo hi).2 = if β i.toNat = true then evR L β hi else evR L β lo := by
  by_cases he : lo = hi
  · rw [mkN_eq he, he]; simp
  · obtain ⟨k, hk, hx⟩ := mkN_is L (i := i) he
    obtain ⟨hF2, hr2⟩ := hF.add (i := i) hl hh
    rw [hk, ev_node hF2 hx]
    obtain ⟨t, ht, _⟩ := mkN_pre L i lo hi
    rw [ht]
    simp only
    split
    · exact ev_app hF hh
    · exact ev_app hF hl
theorem ev_keep {L : List I3} (hF : Frst L) {β : Nat → Bool} {i lo hi r : Int} (hr : RefB r L.length) : evR (mkN L i lo hi).1 β r = evR L β r := by
  obtain ⟨t, ht, _⟩ := mkN_pre L i lo hi
  rw [ht]; exact ev_app hF hr
/-- the new references of a walk have the old values -/
theorem wk_ev {N D : List I3} {P : Nms} (h : WkI N D P) (hF : Frst N) {β : Nat → Bool} : ∀ (m : Nat) (r : Int), r.toNat ≤ m → VisN P r → evR D β (rvN P r) = evR N β r := by
  intro m
  induction m with
  | zero => intro r hm hv; rw [rvN, if_pos (by omega), ev_low (by omega), ev_low (by omega)]
  | succ m ih =>
    intro r hm hv
    by_cases h2 : r < 2
    · rw [rvN, if_pos h2, ev_low h2, ev_low h2]
    · obtain ⟨_, x, k, hx, hk, hd, vb, vc, lb, lc⟩ := h.nodes hF (hv.2 (by omega))
      rw [rvN, if_neg h2, hk, ev_node h.frst hd, show r = ((r.toNat - 2 : Nat) : Int) + 2 by omega, ev_node hF hx]
      simp only
      split
      · exact ih x.c (by omega) vc
      · exact ih x.b (by omega) vb
theorem can_walk {N : List I3} (h : Redu N) {root : Int} (hr : RefB root N.length) : ∃ P, WkI N (canN mkN N root).1 P ∧ (canN mkN N root).2 = rvN P root ∧ VisN P root := by
  obtain ⟨h1, R⟩ := wlk_same h.nodup h.frst h.diff root.toNat root.toNat [] (fun _ => 0) (Nat.le_refl _) (by unfold RefB at hr; omega) (WkI.start N)
  refine ⟨(wlkN appN N root.toNat ([], fun _ => 0) root.toNat).2.1, ?_, ?_, hr.1, fun h2 => R.vis (by omega)⟩
  · rw [canN, h1]; exact R.inv
  · have := R.ref
    rw [canN, h1, this]
    congr 1
    have := hr.1
    omega
theorem can_ev {N : List I3} (h : Redu N) {root : Int} (hr : RefB root N.length) (β : Nat → Bool) : evR (canN mkN N root).1 β (canN mkN N root).2 = evR N β root := by
  obtain ⟨P, h1, h2, h3⟩ := can_walk h hr
  rw [h2]
  exact wk_ev h1 h.frst _ _ (Nat.le_refl _) h3
/-- each node's input comes before those below it -/
def OrdN (n : Int) (L : List I3) : Prop := ∀ (i : Nat) (x : I3), L[i]? = some x → 0 ≤ x.a ∧ x.a < n ∧ x.a < lvlN n L x.b ∧ x.a < lvlN n L x.c
theorem lvl_node {n : Int} {L : List I3} {k : Nat} {x : I3} (hx : L[k]? = some x) : lvlN n L ((k : Int) + 2) = x.a := by
  rw [lvlN, if_neg (by omega), show ((k : Int) + 2 - 2).toNat = k by omega, List.getD_eq_getElem?_getD, hx]; rfl
theorem lvl_low {n : Int} {L : List I3} {r : Int} (h : r < 2) : lvlN n L r = n := if_pos h
theorem lvl_app {n : Int} {L t : List I3} {r : Int} (hr : RefB r L.length) : lvlN n (L ++ t) r = lvlN n L r := by
  rw [lvlN, lvlN]
  split
  · rfl
  · have := hr.1
    have := hr.2
    rw [List.getD_eq_getElem?_getD, List.getD_eq_getElem?_getD, List.getElem?_append_left (by omega)]
theorem OrdN.nil (n : Int) : OrdN n [] := fun i x h => by simp at h
theorem OrdN.add {n : Int} {L : List I3} (h : OrdN n L) (hF : Frst L) {i lo hi : Int} (hl : RefB lo L.length) (hh : RefB hi L.length) (h0 : 0 ≤ i) (hn : i < n) (h1 : i < lvlN n L lo) (h2 : i < lvlN n L hi) : OrdN n (mkN L i lo hi).1 ∧ i ≤ lvlN n (mkN L i lo hi).1 (mkN L i lo hi).2 := by
  unfold mkN
  split
  · exact ⟨h, by simp only; omega⟩
  · split
    · rename_i k hk
      refine ⟨h, ?_⟩
      simp only
      rw [lvl_node (posN_some hk).1]
      exact Int.le_refl _
    · refine ⟨fun j x hj => ?_, ?_⟩
      · simp only at hj ⊢
        by_cases hjl : j < L.length
        · rw [List.getElem?_append_left hjl] at hj
          have h3 := (hF.low _ _ hj).mono (Nat.le_of_lt hjl)
          have h4 := (hF.high _ _ hj).mono (Nat.le_of_lt hjl)
          rw [lvl_app h3, lvl_app h4]
          exact h j x hj
        · have hj2 : j = L.length := by
            have := (List.getElem?_eq_some_iff.1 hj).1
            simp at this; omega
          subst hj2
          simp at hj
          subst hj
          simp only
          rw [lvl_app hl, lvl_app hh]
          exact ⟨h0, hn, h1, h2⟩
      · simp only
        rw [lvl_node (x := ⟨i, lo, hi⟩) (by simp)]
        exact Int.le_refl _
/-- inputs before the reference's own do not matter -/
theorem ev_indep {n : Int} {L : List I3} (hF : Frst L) (hO : OrdN n L) {β γ : Nat → Bool} : ∀ (m : Nat) (r : Int), r.toNat ≤ m → RefB r L.length → (∀ i : Nat, lvlN n L r ≤ (i : Int) → (i : Int) < n → β i = γ i) → evR L β r = evR L γ r := by
  intro m
  induction m with
  | zero => intro r hm _ _; rw [ev_low (by omega), ev_low (by omega)]
  | succ m ih =>
    intro r hm hr hb
    by_cases h2 : r < 2
    · rw [ev_low h2, ev_low h2]
    · obtain ⟨k, rfl⟩ : ∃ k : Nat, r = (k : Int) + 2 := ⟨(r - 2).toNat, by omega⟩
      have hlt : k < L.length := by have := hr.2; omega
      obtain ⟨x, hx⟩ : ∃ x, L[k]? = some x := ⟨_, List.getElem?_eq_getElem hlt⟩
      obtain ⟨o1, o2, o3, o4⟩ := hO _ _ hx
      have h3 := hF.low _ _ hx
      have h4 := hF.high _ _ hx
      rw [lvl_node hx] at hb
      have hba : β x.a.toNat = γ x.a.toNat := hb _ (by omega) (by omega)
      rw [ev_node hF hx, ev_node hF hx, hba]
      have h3' := h3.2
      have h4' := h4.2
      split
      · exact ih _ (by omega) (h4.mono (Nat.le_of_lt hlt)) (fun i hi hn => hb i (by omega) hn)
      · exact ih _ (by omega) (h3.mono (Nat.le_of_lt hlt)) (fun i hi hn => hb i (by omega) hn)
theorem lvl_le {n : Int} {L : List I3} (hO : OrdN n L) {r : Int} (hr : RefB r L.length) : lvlN n L r ≤ n := by
  by_cases h2 : r < 2
  · rw [lvl_low h2]; exact Int.le_refl _
  · obtain ⟨k, rfl⟩ : ∃ k : Nat, r = (k : Int) + 2 := ⟨(r - 2).toNat, by omega⟩
    have hlt : k < L.length := by have := hr.2; omega
    obtain ⟨x, hx⟩ : ∃ x, L[k]? = some x := ⟨_, List.getElem?_eq_getElem hlt⟩
    rw [lvl_node hx]
    have := (hO _ _ hx).2.1
    omega
/-- an assignment with one input fixed -/
def fixB (β : Nat → Bool) (i : Nat) (b : Bool) : Nat → Bool := fun j => if j = i then b else β j
theorem ev_fix {n : Int} {L : List I3} (hF : Frst L) (hO : OrdN n L) {β : Nat → Bool} {r : Int} (hr : RefB r L.length) {i : Nat} {b : Bool} (hi : (i : Int) < lvlN n L r) : evR L (fixB β i b) r = evR L β r :=
  ev_indep hF hO _ r (Nat.le_refl _) hr fun j hj _ => by
    rw [fixB, if_neg (by omega)]
/-- equal values, equal references: nodes are different and so are their branches -/
theorem ev_inj {n : Int} {L : List I3} (hR : Redu L) (hO : OrdN n L) : ∀ (m : Nat) (r s : Int), r.toNat + s.toNat ≤ m → RefB r L.length → RefB s L.length → (∀ β, evR L β r = evR L β s) → r = s := by
  have hF := hR.frst
  intro m
  induction m with
  | zero =>
    intro r s hm hr hs _
    have := hr.1
    have := hs.1
    omega
  | succ m ih =>
    intro r s hm hr hs he
    -- a node whose input comes first differs from what does not look at it
    have key : ∀ (k : Nat) (x : I3) (q : Int), L[k]? = some x → RefB q L.length → x.a < lvlN n L q → (k + 2 + q.toNat ≤ m + 1) → (∀ β, evR L β ((k : Int) + 2) = evR L β q) → False := by
      intro k x q hx hq hlv hsum he
      obtain ⟨o1, o2, o3, o4⟩ := hO _ _ hx
      have hkl := (List.getElem?_eq_some_iff.1 hx).1
      have h3 := hF.low _ _ hx
      have h4 := hF.high _ _ hx
      have h3' := h3.2
      have h4' := h4.2
      have h3m := h3.mono (Nat.le_of_lt hkl)
      have h4m := h4.mono (Nat.le_of_lt hkl)
      have eb : x.b = q := ih x.b q (by omega) h3m hq fun β => by
        have h := he (fixB β x.a.toNat false)
        rw [ev_node hF hx, if_neg (by rw [fixB, if_pos rfl]; decide), ev_fix hF hO h3m (by omega), ev_fix hF hO hq (by omega)] at h
        exact h
      have ec : x.c = q := ih x.c q (by omega) h4m hq fun β => by
        have h := he (fixB β x.a.toNat true)
        rw [ev_node hF hx, if_pos (by rw [fixB, if_pos rfl]), ev_fix hF hO h4m (by omega), ev_fix hF hO hq (by omega)] at h
        exact h
      exact hR.diff x (List.mem_of_getElem? hx) (eb.trans ec.symm)
    by_cases r2 : r < 2
    · by_cases s2 : s < 2
      · have h := he (fun _ => false)
        rw [ev_low r2, ev_low s2] at h
        have h1 := hr.1
        have h2 := hs.1
        by_cases e : r = 1
        · rw [decide_eq_true e] at h
          have := of_decide_eq_true h.symm
          omega
        · rw [decide_eq_false e] at h
          have := of_decide_eq_false h.symm
          omega
      · obtain ⟨k, rfl⟩ : ∃ k : Nat, s = (k : Int) + 2 := ⟨(s - 2).toNat, by omega⟩
        have hlt : k < L.length := by have := hs.2; omega
        obtain ⟨x, hx⟩ : ∃ x, L[k]? = some x := ⟨_, List.getElem?_eq_getElem hlt⟩
        exact (key k x r hx hr (by rw [lvl_low r2]; exact (hO _ _ hx).2.1) (by omega) (fun β => (he β).symm)).elim
    · obtain ⟨k, rfl⟩ : ∃ k : Nat, r = (k : Int) + 2 := ⟨(r - 2).toNat, by omega⟩
      have hlt : k < L.length := by have := hr.2; omega
      obtain ⟨x, hx⟩ : ∃ x, L[k]? = some x := ⟨_, List.getElem?_eq_getElem hlt⟩
      obtain ⟨o1, o2, o3, o4⟩ := hO _ _ hx
      by_cases s2 : s < 2
      · exact (key k x s hx hs (by rw [lvl_low s2]; exact o2) (by omega) he).elim
      · obtain ⟨j, rfl⟩ : ∃ j : Nat, s = (j : Int) + 2 := ⟨(s - 2).toNat, by omega⟩
        have hlt2 : j < L.length := by have := hs.2; omega
        obtain ⟨y, hy⟩ : ∃ y, L[j]? = some y := ⟨_, List.getElem?_eq_getElem hlt2⟩
        obtain ⟨p1, p2, p3, p4⟩ := hO _ _ hy
        rcases Int.lt_trichotomy x.a y.a with e | e | e
        · exact (key k x _ hx hs (by rw [lvl_node hy]; exact e) (by omega) he).elim
        · have g3 := hF.low _ _ hx
          have g4 := hF.high _ _ hx
          have f3 := hF.low _ _ hy
          have f4 := hF.high _ _ hy
          have g3' := g3.2
          have g4' := g4.2
          have f3' := f3.2
          have f4' := f4.2
          have g3m := g3.mono (Nat.le_of_lt hlt)
          have g4m := g4.mono (Nat.le_of_lt hlt)
          have f3m := f3.mono (Nat.le_of_lt hlt2)
          have f4m := f4.mono (Nat.le_of_lt hlt2)
          have eb : x.b = y.b := ih x.b y.b (by omega) g3m f3m fun β => by
            have h := he (fixB β x.a.toNat false)
            rw [ev_node hF hx, ev_node hF hy, ← e, if_neg (by rw [fixB, if_pos rfl]; decide), if_neg (by rw [fixB, if_pos rfl]; decide), ev_fix hF hO g3m (by omega), ev_fix hF hO f3m (by omega)] at h
            exact h
          have ec : x.c = y.c := ih x.c y.c (by omega) g4m f4m fun β => by
            have h := he (fixB β x.a.toNat true)
            rw [ev_node hF hx, ev_node hF hy, ← e, if_pos (by rw [fixB, if_pos rfl]), if_pos (by rw [fixB, if_pos rfl]), ev_fix hF hO g4m (by omega), ev_fix hF hO f4m (by omega)] at h
            exact h
          have exy : x = y := by rw [I3.eta x, I3.eta y, e, eb, ec]
          subst exy
          rw [nodup_get hR.nodup hx hy]
        · exact (key j y _ hy hr (by rw [lvl_node hx]; exact e) (by omega) (fun β => (he β).symm)).elim
end Go.Proofs.Ytkaikbaagajckaa
namespace Go.Proofs.Ytkaikbaagajckaa
open Go.RowKit
set_option linter.unusedVariables false
set_option linter.unusedSimpArgs false
/-- all lists of so many bits, in lexicographic order -/
def allB : Nat → List (List Int)
  | 0 => [[]]
  | k + 1 => (allB k).map (0 :: ·) ++ (allB k).map (1 :: ·)
theorem allB_len : ∀ k, (allB k).length = 2 ^ k
  | 0 => rfl
  | k + 1 => by rw [allB, List.length_append, List.length_map, List.length_map, allB_len k, Nat.pow_succ]; omega
theorem allB_mem : ∀ {k : Nat} {s : List Int}, s ∈ allB k ↔ s.length = k ∧ ∀ x ∈ s, x = 0 ∨ x = 1
  | 0, s => by
    rw [allB, List.mem_singleton]
    constructor
    · rintro rfl; exact ⟨rfl, fun x h => by cases h⟩
    · rintro ⟨h, _⟩; exact List.length_eq_zero_iff.1 h
  | k + 1, s => by
    rw [allB, List.mem_append, List.mem_map, List.mem_map]
    constructor
    · rintro (⟨t, ht, rfl⟩ | ⟨t, ht, rfl⟩)
      · obtain ⟨h1, h2⟩ := allB_mem.1 ht
        exact ⟨by rw [List.length_cons, h1], fun x hx => by
          rcases List.mem_cons.1 hx with rfl | hx
          · exact .inl rfl
          · exact h2 x hx⟩
      · obtain ⟨h1, h2⟩ := allB_mem.1 ht
        exact ⟨by rw [List.length_cons, h1], fun x hx => by
          rcases List.mem_cons.1 hx with rfl | hx
          · exact .inr rfl
          · exact h2 x hx⟩
    · rintro ⟨h1, h2⟩
      cases s with
      | nil => cases h1
      | cons y t =>
        have ht : t ∈ allB k := allB_mem.2 ⟨by simpa using h1, fun x hx => h2 x (List.mem_cons_of_mem _ hx)⟩
        rcases h2 y (List.mem_cons_self ..) with rfl | rfl
        · exact .inl ⟨t, ht, rfl⟩
        · exact .inr ⟨t, ht, rfl⟩
theorem allB_nodup : ∀ k, (allB k).Nodup
  | 0 => by simp [allB]
  | k + 1 => by
    rw [allB, List.nodup_append]
    have hi : ∀ b : Int, ((allB k).map (b :: ·)).Nodup := fun b => by
      rw [List.Nodup, List.pairwise_map]
      exact (allB_nodup k).imp fun h e => h (by simpa using e)
    refine ⟨hi 0, hi 1, fun a ha b hb e => ?_⟩
    obtain ⟨x, _, rfl⟩ := List.mem_map.1 ha
    obtain ⟨y, _, rfl⟩ := List.mem_map.1 hb
    simp at e
/-- what a list of bits gives to the inputs from one on -/
def bitF (off : Nat) (s : List Int) : Nat → Bool := fun i => decide (off ≤ i) && (s.getD (i - off) 0 == 1)
theorem bitF_at (off : Nat) (b : Int) (t : List Int) : bitF off (b :: t) off = (b == 1) := by
  rw [bitF, decide_eq_true (Nat.le_refl _), Nat.sub_self]; rfl
theorem bitF_next (off : Nat) (b : Int) (t : List Int) {i : Nat} (h : off + 1 ≤ i) : bitF off (b :: t) i = bitF (off + 1) t i := by
  rw [bitF, bitF, decide_eq_true (show off ≤ i by omega), decide_eq_true h, show i - off = (i - (off + 1)) + 1 by omega]; rfl
/-- the branches of a reference at an input -/
def chN (n : Int) (L : List I3) (r : Int) (i : Int) : Int × Int := if lvlN n L r = i ∧ 2 ≤ r then ((L.getD (r - 2).toNat ⟨0, 0, 0⟩).b, (L.getD (r - 2).toNat ⟨0, 0, 0⟩).c) else (r, r)
theorem ch_skip {n : Int} {L : List I3} {r i : Int} (h : lvlN n L r ≠ i ∨ r < 2) : chN n L r i = (r, r) := if_neg (by omega)
theorem ch_node {n : Int} {L : List I3} {k : Nat} {x : I3} {i : Int} (hx : L[k]? = some x) (h : x.a = i) : chN n L ((k : Int) + 2) i = (x.b, x.c) := by
  rw [chN, if_pos ⟨(lvl_node hx).trans h, by omega⟩, show ((k : Int) + 2 - 2).toNat = k by omega, List.getD_eq_getElem?_getD, hx]; rfl
/-- both branches, and what they have to do with the value -/
theorem ch_all {n : Int} {L : List I3} (hF : Frst L) (hO : OrdN n L) {r : Int} (hr : RefB r L.length) {i : Nat} (hi : (i : Int) ≤ lvlN n L r) (hn : (i : Int) < n) :
    RefB (chN n L r i).1 L.length ∧ RefB (chN n L r i).2 L.length ∧ (i : Int) + 1 ≤ lvlN n L (chN n L r i).1 ∧ (i : Int) + 1 ≤ lvlN n L (chN n L r i).2 ∧ ∀ β : Nat → Bool, evR L β r = if β i = true then evR L β (chN n L r i).2 else evR L β (chN n L r i).1 := by
  by_cases h2 : r < 2
  · rw [ch_skip (.inr h2)]
    have := lvl_low (n := n) (L := L) h2
    exact ⟨hr, hr, by simp only; omega, by simp only; omega, fun β => by simp⟩
  · obtain ⟨k, rfl⟩ : ∃ k : Nat, r = (k : Int) + 2 := ⟨(r - 2).toNat, by omega⟩
    have hlt : k < L.length := by have := hr.2; omega
    obtain ⟨x, hx⟩ : ∃ x, L[k]? = some x := ⟨_, List.getElem?_eq_getElem hlt⟩
    obtain ⟨o1, o2, o3, o4⟩ := hO _ _ hx
    have hl := lvl_node (n := n) hx
    by_cases he : x.a = (i : Int)
    · rw [ch_node hx he]
      refine ⟨(hF.low _ _ hx).mono (Nat.le_of_lt hlt), (hF.high _ _ hx).mono (Nat.le_of_lt hlt), by simp only; omega, by simp only; omega, fun β => ?_⟩
      rw [ev_node hF hx, he, Int.toNat_natCast]
      simp only
      split <;> rfl
    · rw [ch_skip (.inl (by rw [hl]; exact he))]
      exact ⟨hr, hr, by simp only; omega, by simp only; omega, fun β => by simp⟩
/-- the lists of bits from an input on with the value 1 -/
def lsN (n : Int) (L : List I3) : Nat → Int → List (List Int)
  | 0, r => if r = 0 then [] else [[]]
  | k + 1, r => if r = 0 then [] else (lsN n L k (chN n L r (n - ((k : Int) + 1))).1).map (0 :: ·) ++ (lsN n L k (chN n L r (n - ((k : Int) + 1))).2).map (1 :: ·)
theorem ev_zero (L : List I3) (β : Nat → Bool) : evR L β 0 = false := by rw [ev_low (by omega)]; rfl
theorem ev_bit {n : Int} {L : List I3} (hF : Frst L) (hO : OrdN n L) {r : Int} (hr : RefB r L.length) {i : Nat} (hi : (i : Int) + 1 ≤ lvlN n L r) (b : Int) (t : List Int) : evR L (bitF i (b :: t)) r = evR L (bitF (i + 1) t) r :=
  ev_indep hF hO _ r (Nat.le_refl _) hr fun j hj _ => bitF_next i b t (by omega)
theorem ls_filter {n : Nat} {L : List I3} (hF : Frst L) (hO : OrdN (n : Int) L) : ∀ (k : Nat) (r : Int), k ≤ n → RefB r L.length → ((n - k : Nat) : Int) ≤ lvlN (n : Int) L r → lsN (n : Int) L k r = (allB k).filter fun s => evR L (bitF (n - k) s) r := by
  intro k
  induction k with
  | zero =>
    intro r _ hr hl
    have h2 : r < 2 := by
      by_cases h2 : r < 2
      · exact h2
      · obtain ⟨k, rfl⟩ : ∃ k : Nat, r = (k : Int) + 2 := ⟨(r - 2).toNat, by omega⟩
        have hlt : k < L.length := by have := hr.2; omega
        have hx := List.getElem?_eq_getElem hlt
        have h3 := (hO _ _ hx).2.1
        rw [lvl_node hx] at hl
        omega
    have h0 := hr.1
    rw [lsN, allB]
    by_cases h : r = 0
    · rw [if_pos h, h, List.filter_cons, ev_zero]; rfl
    · rw [if_neg h, List.filter_cons, ev_low h2, decide_eq_true (show r = 1 by omega)]; rfl
  | succ k ih =>
    intro r hk hr hl
    rw [lsN, allB]
    by_cases h : r = 0
    · rw [if_pos h, h]
      symm
      rw [List.filter_eq_nil_iff]
      intro s _
      rw [ev_zero]; decide
    · rw [if_neg h]
      have e1 : (n : Int) - ((k : Int) + 1) = ((n - (k + 1) : Nat) : Int) := by omega
      rw [e1]
      obtain ⟨c1, c2, c3, c4, c5⟩ := ch_all hF hO hr (i := n - (k + 1)) hl (by omega)
      have e2 : n - (k + 1) + 1 = n - k := by omega
      rw [ih _ (by omega) c1 (by omega), ih _ (by omega) c2 (by omega), List.filter_append, List.filter_map, List.filter_map]
      congr 2
      · apply List.filter_congr
        intro s _
        show evR L (bitF (n - k) s) _ = evR L (bitF (n - (k + 1)) (0 :: s)) r
        rw [c5, bitF_at, if_neg (by decide), ev_bit hF hO c1 c3, e2]
      · apply List.filter_congr
        intro s _
        show evR L (bitF (n - k) s) _ = evR L (bitF (n - (k + 1)) (1 :: s)) r
        rw [c5, bitF_at, if_pos (by decide), ev_bit hF hO c2 c4, e2]
/-- for how many lists of bits from its own input on a reference has the value 1 -/
def cntF (n : Int) (L : List I3) : Nat → Int → Nat
  | 0, r => if r = 0 then 0 else 1
  | f + 1, r => if r < 2 then (if r = 0 then 0 else 1) else match L[(r - 2).toNat]? with
    | none => 0
    | some x => cntF n L f x.b * 2 ^ (lvlN n L x.b - (x.a + 1)).toNat + cntF n L f x.c * 2 ^ (lvlN n L x.c - (x.a + 1)).toNat
def cntR (n : Int) (L : List I3) (r : Int) : Nat := cntF n L r.toNat r
theorem cntF_low {n : Int} {L : List I3} (f : Nat) {r : Int} (h : r < 2) : cntF n L f r = if r = 0 then 0 else 1 := by
  cases f with
  | zero => rfl
  | succ f => rw [cntF, if_pos h]
theorem cntF_fuel {n : Int} {L : List I3} (hF : Frst L) : ∀ (f g : Nat) (r : Int), r.toNat ≤ f → r.toNat ≤ g → cntF n L f r = cntF n L g r := by
  intro f
  induction f with
  | zero => intro g r hf hg; rw [cntF_low _ (by omega), cntF_low _ (by omega)]
  | succ f ih =>
    intro g r hf hg
    by_cases hr : r < 2
    · rw [cntF_low _ hr, cntF_low _ hr]
    · obtain ⟨g, rfl⟩ : ∃ g', g = g' + 1 := ⟨g - 1, by omega⟩
      rw [cntF, cntF, if_neg hr, if_neg hr]
      cases hx : L[(r - 2).toNat]? with
      | none => rfl
      | some x =>
        have h3 := hF.low _ _ hx
        have h4 := hF.high _ _ hx
        unfold RefB at h3 h4
        simp only
        rw [ih g x.b (by omega) (by omega), ih g x.c (by omega) (by omega)]
theorem cnt_low {n : Int} {L : List I3} {r : Int} (h : r < 2) : cntR n L r = if r = 0 then 0 else 1 := cntF_low _ h
theorem cnt_node {n : Int} {L : List I3} (hF : Frst L) {k : Nat} {x : I3} (hx : L[k]? = some x) : cntR n L ((k : Int) + 2) = cntR n L x.b * 2 ^ (lvlN n L x.b - (x.a + 1)).toNat + cntR n L x.c * 2 ^ (lvlN n L x.c - (x.a + 1)).toNat := by
  have h3 := hF.low _ _ hx
  have h4 := hF.high _ _ hx
  unfold RefB at h3 h4
  rw [cntR, show ((k : Int) + 2).toNat = (k + 1) + 1 by omega, cntF, if_neg (by omega), show ((k : Int) + 2 - 2).toNat = k by omega, hx]
  simp only
  rw [cntF_fuel hF (k + 1) x.b.toNat x.b (by omega) (Nat.le_refl _), cntF_fuel hF (k + 1) x.c.toNat x.c (by omega) (Nat.le_refl _)]
  rfl
/-- the count is that of the lists -/
theorem cnt_ls {n : Nat} {L : List I3} (hF : Frst L) (hO : OrdN (n : Int) L) : ∀ (k : Nat) (r : Int), k ≤ n → RefB r L.length → ((n - k : Nat) : Int) ≤ lvlN (n : Int) L r → (lsN (n : Int) L k r).length = cntR (n : Int) L r * 2 ^ (lvlN (n : Int) L r - ((n - k : Nat) : Int)).toNat := by
  intro k
  induction k with
  | zero =>
    intro r _ hr hl
    have h2 : r < 2 := by
      by_cases h2 : r < 2
      · exact h2
      · obtain ⟨k, rfl⟩ : ∃ k : Nat, r = (k : Int) + 2 := ⟨(r - 2).toNat, by omega⟩
        have hlt : k < L.length := by have := hr.2; omega
        have hx := List.getElem?_eq_getElem hlt
        have h3 := (hO _ _ hx).2.1
        rw [lvl_node hx] at hl
        omega
    rw [lsN, cnt_low h2, lvl_low h2, show ((n : Int) - ((n - 0 : Nat) : Int)).toNat = 0 by omega]
    split <;> rfl
  | succ k ih =>
    intro r hk hr hl
    rw [lsN]
    by_cases h : r = 0
    · rw [if_pos h, h, cnt_low (by omega)]; simp
    · rw [if_neg h, List.length_append, List.length_map, List.length_map]
      have e1 : (n : Int) - ((k : Int) + 1) = ((n - (k + 1) : Nat) : Int) := by omega
      rw [e1]
      obtain ⟨c1, c2, c3, c4, c5⟩ := ch_all hF hO hr (i := n - (k + 1)) hl (by omega)
      rw [ih _ (by omega) c1 (by omega), ih _ (by omega) c2 (by omega)]
      have e2 : ((n - k : Nat) : Int) = ((n - (k + 1) : Nat) : Int) + 1 := by omega
      by_cases hlv : lvlN (n : Int) L r = ((n - (k + 1) : Nat) : Int) ∧ 2 ≤ r
      · obtain ⟨q, rfl⟩ : ∃ q : Nat, r = (q : Int) + 2 := ⟨(r - 2).toNat, by omega⟩
        have hlt : q < L.length := by have := hr.2; omega
        obtain ⟨x, hx⟩ : ∃ x, L[q]? = some x := ⟨_, List.getElem?_eq_getElem hlt⟩
        have hxa : x.a = ((n - (k + 1) : Nat) : Int) := by rw [← lvl_node (n := (n : Int)) hx]; exact hlv.1
        rw [ch_node hx hxa, cnt_node hF hx, lvl_node hx, hxa, show (((n - (k + 1) : Nat) : Int) - ((n - (k + 1) : Nat) : Int)).toNat = 0 by omega, e2]
        simp
      · rw [ch_skip (by omega), e2]
        simp only
        have hl3 : ((n - (k + 1) : Nat) : Int) + 1 ≤ lvlN (n : Int) L r := by
          by_cases h2 : r < 2
          · rw [lvl_low h2]; omega
          · omega
        have e3 : (lvlN (n : Int) L r - ((n - (k + 1) : Nat) : Int)).toNat = (lvlN (n : Int) L r - (((n - (k + 1) : Nat) : Int) + 1)).toNat + 1 := by omega
        rw [e3, Nat.pow_succ]
        rw [← Nat.mul_assoc]; omega
end Go.Proofs.Ytkaikbaagajckaa
namespace Go.Proofs.Ytkaikbaagajckaa
open Go.RowKit
set_option linter.unusedVariables false
set_option linter.unusedSimpArgs false
/-- a sound forest: reduced and ordered -/
structure Snd (n : Int) (L : List I3) : Prop where
  redu : Redu L
  ord : OrdN n L
theorem Snd.nil (n : Int) : Snd n [] := ⟨Redu.nil, OrdN.nil n⟩
theorem Snd.add {n : Int} {L : List I3} (h : Snd n L) {i lo hi : Int} (hl : RefB lo L.length) (hh : RefB hi L.length) (h0 : 0 ≤ i) (hn : i < n) (h1 : i < lvlN n L lo) (h2 : i < lvlN n L hi) : Snd n (mkN L i lo hi).1 :=
  ⟨h.redu.add hl hh, (h.ord.add h.redu.frst hl hh h0 hn h1 h2).1⟩
theorem dia_snd {n : Int} {L : List I3} {root : Int} (h : diaB n L root = true) : Snd n L := by
  obtain ⟨h1, _, _, _, _, _, h2⟩ := dia_redu h
  exact ⟨h1, fun i x hx => by
    have := h2 i x hx
    exact ⟨this.inp.1, by have := this.inp.2; omega, this.lb, this.lc⟩⟩
/-- what joins two truth values -/
def bopN (j : Int) (a b : Bool) : Bool := if j = 0 then a && b else if j = 1 then a || b else xor a b
def jopN (j a b : Int) : Int := if bopN j (a == 1) (b == 1) = true then 1 else 0
theorem jop_low {j a b : Int} : jopN j a b < 2 ∧ 0 ≤ jopN j a b := by
  rw [jopN]; split <;> omega
/-- what is known of pairs -/
abbrev Mem := Int → Int → Option Int
def jnF (j n : Int) (A B : List I3) : Nat → List I3 × Mem → Int → Int → List I3 × Mem × Int
  | 0, s, a, b => (s.1, s.2, jopN j a b)
  | f + 1, s, a, b =>
    if a < 2 ∧ b < 2 then (s.1, s.2, jopN j a b)
    else match s.2 a b with
      | some r => (s.1, s.2, r)
      | none =>
        let i := min (lvlN n A a) (lvlN n B b)
        let u := jnF j n A B f s (chN n A a i).1 (chN n B b i).1
        let v := jnF j n A B f (u.1, u.2.1) (chN n A a i).2 (chN n B b i).2
        let m := mkN v.1 i u.2.2 v.2.2
        (m.1, fun x y => if x = a ∧ y = b then some m.2 else v.2.1 x y, m.2)
theorem jn_low {j n : Int} {A B : List I3} (f : Nat) (s : List I3 × Mem) {a b : Int} (h : a < 2 ∧ b < 2) : jnF j n A B f s a b = (s.1, s.2, jopN j a b) := by
  cases f with
  | zero => rfl
  | succ f => rw [jnF, if_pos h]
theorem jn_old {j n : Int} {A B : List I3} (f : Nat) (s : List I3 × Mem) {a b r : Int} (h : ¬ (a < 2 ∧ b < 2)) (hr : s.2 a b = some r) : jnF j n A B (f + 1) s a b = (s.1, s.2, r) := by
  rw [jnF, if_neg h, hr]
theorem jn_new {j n : Int} {A B : List I3} (f : Nat) (s : List I3 × Mem) {a b i : Int} (h : ¬ (a < 2 ∧ b < 2)) (hr : s.2 a b = none) (hi : min (lvlN n A a) (lvlN n B b) = i) {u v : List I3 × Mem × Int} (hu : jnF j n A B f s (chN n A a i).1 (chN n B b i).1 = u) (hv : jnF j n A B f (u.1, u.2.1) (chN n A a i).2 (chN n B b i).2 = v) :
    jnF j n A B (f + 1) s a b = ((mkN v.1 i u.2.2 v.2.2).1, (fun x y => if x = a ∧ y = b then some (mkN v.1 i u.2.2 v.2.2).2 else v.2.1 x y), (mkN v.1 i u.2.2 v.2.2).2) := by
  subst hi hu hv
  rw [jnF, if_neg h, hr]
/-- how far a pair still goes down -/
theorem ch_less {n : Int} {L : List I3} (hF : Frst L) {r i : Int} (hr : RefB r L.length) : (chN n L r i).1.toNat ≤ r.toNat ∧ (chN n L r i).2.toNat ≤ r.toNat ∧ (2 ≤ r → lvlN n L r = i → (chN n L r i).1.toNat < r.toNat ∧ (chN n L r i).2.toNat < r.toNat) ∧ RefB (chN n L r i).1 L.length ∧ RefB (chN n L r i).2 L.length := by
  by_cases hc : lvlN n L r = i ∧ 2 ≤ r
  · obtain ⟨k, rfl⟩ : ∃ k : Nat, r = (k : Int) + 2 := ⟨(r - 2).toNat, by omega⟩
    have hlt : k < L.length := by have := hr.2; omega
    obtain ⟨x, hx⟩ : ∃ x, L[k]? = some x := ⟨_, List.getElem?_eq_getElem hlt⟩
    have h3 := hF.low _ _ hx
    have h4 := hF.high _ _ hx
    have h3' := h3.2
    have h4' := h4.2
    have h3'' := h3.1
    have h4'' := h4.1
    rw [ch_node hx ((lvl_node hx).symm.trans hc.1)]
    refine ⟨?_, ?_, fun _ _ => ⟨?_, ?_⟩, h3.mono (Nat.le_of_lt hlt), h4.mono (Nat.le_of_lt hlt)⟩ <;> (simp only; omega)
  · rw [chN, if_neg hc]
    exact ⟨Nat.le_refl _, Nat.le_refl _, fun h1 h2 => absurd ⟨h2, h1⟩ hc, hr, hr⟩
theorem jn_fuel {j n : Int} {A B : List I3} (hA : Frst A) (hB : Frst B) (oA : OrdN n A) (oB : OrdN n B) : ∀ (f g : Nat) (s : List I3 × Mem) (a b : Int), RefB a A.length → RefB b B.length → a.toNat + b.toNat ≤ f → a.toNat + b.toNat ≤ g → jnF j n A B f s a b = jnF j n A B g s a b := by
  intro f
  induction f with
  | zero =>
    intro g s a b ha hb hf hg
    rw [jn_low _ _ (by omega), jn_low _ _ (by omega)]
  | succ f ih =>
    intro g s a b ha hb hf hg
    by_cases h : a < 2 ∧ b < 2
    · rw [jn_low _ _ h, jn_low _ _ h]
    · obtain ⟨g, rfl⟩ : ∃ g', g = g' + 1 := ⟨g - 1, by omega⟩
      cases hm : s.2 a b with
      | some r => rw [jn_old _ _ h hm, jn_old _ _ h hm]
      | none =>
        have hi := ch_less (n := n) (i := min (lvlN n A a) (lvlN n B b)) hA ha
        have hk := ch_less (n := n) (i := min (lvlN n A a) (lvlN n B b)) hB hb
        have hd : (chN n A a (min (lvlN n A a) (lvlN n B b))).1.toNat + (chN n B b (min (lvlN n A a) (lvlN n B b))).1.toNat < a.toNat + b.toNat ∧ (chN n A a (min (lvlN n A a) (lvlN n B b))).2.toNat + (chN n B b (min (lvlN n A a) (lvlN n B b))).2.toNat < a.toNat + b.toNat := by
          have ea := lvl_le oA ha
          have eb := lvl_le oB hb
          rcases Int.le_total (lvlN n A a) (lvlN n B b) with e | e
          · rw [Int.min_eq_left e] at hi hk ⊢
            by_cases h2 : a < 2
            · rw [lvl_low h2] at e
              -- then b's level is n, too: b is a node of level n, which none has
              have hb2 : ¬ b < 2 := fun hb2 => h ⟨h2, hb2⟩
              obtain ⟨q, rfl⟩ : ∃ q : Nat, b = (q : Int) + 2 := ⟨(b - 2).toNat, by omega⟩
              have hq : q < B.length := by have := hb.2; omega
              have hx := List.getElem?_eq_getElem hq
              have := (oB _ _ hx).2.1
              rw [lvl_node hx] at e
              omega
            · have := hi.2.2.1 (by omega) rfl
              omega
          · rw [Int.min_eq_right e] at hi hk ⊢
            by_cases h2 : b < 2
            · rw [lvl_low h2] at e
              have ha2 : ¬ a < 2 := fun ha2 => h ⟨ha2, h2⟩
              obtain ⟨q, rfl⟩ : ∃ q : Nat, a = (q : Int) + 2 := ⟨(a - 2).toNat, by omega⟩
              have hq : q < A.length := by have := ha.2; omega
              have hx := List.getElem?_eq_getElem hq
              have := (oA _ _ hx).2.1
              rw [lvl_node hx] at e
              omega
            · have := hk.2.2.1 (by omega) rfl
              omega
        rw [jn_new f s h hm rfl rfl rfl, jn_new g s h hm rfl rfl rfl]
        rw [ih g s _ _ hi.2.2.2.1 hk.2.2.2.1 (by omega) (by omega), ih g _ _ _ hi.2.2.2.2 hk.2.2.2.2 (by omega) (by omega)]
/-- what is known is right -/
structure JnI (j n : Int) (A B : List I3) (L : List I3) (M : Mem) : Prop where
  snd : Snd n L
  mem : ∀ a b r, M a b = some r → RefB r L.length ∧ min (lvlN n A a) (lvlN n B b) ≤ lvlN n L r ∧ ∀ β, evR L β r = bopN j (evR A β a) (evR B β b)
theorem JnI.start (j n : Int) (A B : List I3) : JnI j n A B [] (fun _ _ => none) := ⟨Snd.nil n, fun a b r h => by cases h⟩
theorem jn_ev {j n : Int} {A B : List I3} (hA : Frst A) (hB : Frst B) (oA : OrdN n A) (oB : OrdN n B) (hn : 0 ≤ n) : ∀ (f : Nat) (L : List I3) (M : Mem) (a b : Int), RefB a A.length → RefB b B.length → a.toNat + b.toNat ≤ f → JnI j n A B L M →
    JnI j n A B (jnF j n A B f (L, M) a b).1 (jnF j n A B f (L, M) a b).2.1 ∧ RefB (jnF j n A B f (L, M) a b).2.2 (jnF j n A B f (L, M) a b).1.length ∧ min (lvlN n A a) (lvlN n B b) ≤ lvlN n (jnF j n A B f (L, M) a b).1 (jnF j n A B f (L, M) a b).2.2 ∧
    (∀ β, evR (jnF j n A B f (L, M) a b).1 β (jnF j n A B f (L, M) a b).2.2 = bopN j (evR A β a) (evR B β b)) ∧ ∃ t, (jnF j n A B f (L, M) a b).1 = L ++ t := by
  intro f
  induction f with
  | zero =>
    intro L M a b ha hb hf h
    have h0 : a < 2 ∧ b < 2 := by omega
    have ha0 := ha.1
    have hb0 := hb.1
    obtain ⟨j1, j2⟩ := jop_low (j := j) (a := a) (b := b)
    rw [jn_low _ _ h0]
    refine ⟨h, ⟨j2, by simp only; omega⟩, ?_, fun β => ?_, [], by simp⟩
    · simp only
      rw [lvl_low j1, lvl_low h0.1, lvl_low h0.2]; omega
    · simp only
      rw [ev_low j1, ev_low h0.1, ev_low h0.2, jopN]
      have e1 : (a == 1) = decide (a = 1) := rfl
      have e2 : (b == 1) = decide (b = 1) := rfl
      rw [e1, e2]
      cases bopN j (decide (a = 1)) (decide (b = 1)) <;> simp
  | succ f ih =>
    intro L M a b ha hb hf h
    by_cases h0 : a < 2 ∧ b < 2
    · have ha0 := ha.1
      have hb0 := hb.1
      obtain ⟨j1, j2⟩ := jop_low (j := j) (a := a) (b := b)
      rw [jn_low _ _ h0]
      refine ⟨h, ⟨j2, by simp only; omega⟩, ?_, fun β => ?_, [], by simp⟩
      · simp only
        rw [lvl_low j1, lvl_low h0.1, lvl_low h0.2]; omega
      · simp only
        rw [ev_low j1, ev_low h0.1, ev_low h0.2, jopN]
        have e1 : (a == 1) = decide (a = 1) := rfl
        have e2 : (b == 1) = decide (b = 1) := rfl
        rw [e1, e2]
        cases bopN j (decide (a = 1)) (decide (b = 1)) <;> simp
    · cases hm : M a b with
      | some r =>
        rw [jn_old _ _ h0 hm]
        obtain ⟨m1, m2, m3⟩ := h.mem a b r hm
        exact ⟨h, m1, m2, m3, [], by simp⟩
      | none =>
        have ea := lvl_le oA ha
        have eb := lvl_le oB hb
        have hlt : min (lvlN n A a) (lvlN n B b) < n := by
          by_cases h2 : a < 2
          · have hb2 : ¬ b < 2 := fun hb2 => h0 ⟨h2, hb2⟩
            obtain ⟨q, rfl⟩ : ∃ q : Nat, b = (q : Int) + 2 := ⟨(b - 2).toNat, by omega⟩
            have hq : q < B.length := by have := hb.2; omega
            have hx := List.getElem?_eq_getElem hq
            have := (oB _ _ hx).2.1
            rw [lvl_node hx]
            omega
          · obtain ⟨q, rfl⟩ : ∃ q : Nat, a = (q : Int) + 2 := ⟨(a - 2).toNat, by omega⟩
            have hq : q < A.length := by have := ha.2; omega
            have hx := List.getElem?_eq_getElem hq
            have := (oA _ _ hx).2.1
            rw [lvl_node hx]
            omega
        have h00 : 0 ≤ min (lvlN n A a) (lvlN n B b) := by
          have la : 0 ≤ lvlN n A a := by
            by_cases h2 : a < 2
            · rw [lvl_low h2]; exact hn
            · obtain ⟨q, rfl⟩ : ∃ q : Nat, a = (q : Int) + 2 := ⟨(a - 2).toNat, by omega⟩
              have hq : q < A.length := by have := ha.2; omega
              have hx := List.getElem?_eq_getElem hq
              rw [lvl_node hx]; exact (oA _ _ hx).1
          have lb : 0 ≤ lvlN n B b := by
            by_cases h2 : b < 2
            · rw [lvl_low h2]; exact hn
            · obtain ⟨q, rfl⟩ : ∃ q : Nat, b = (q : Int) + 2 := ⟨(b - 2).toNat, by omega⟩
              have hq : q < B.length := by have := hb.2; omega
              have hx := List.getElem?_eq_getElem hq
              rw [lvl_node hx]; exact (oB _ _ hx).1
          omega
        obtain ⟨i, hi⟩ : ∃ i : Nat, min (lvlN n A a) (lvlN n B b) = (i : Int) := ⟨(min (lvlN n A a) (lvlN n B b)).toNat, by omega⟩
        have hin : (i : Int) < n := by rw [← hi]; exact hlt
        obtain ⟨a1, a2, a3, a4, a5⟩ := ch_all hA oA ha (i := i) (by omega) (by omega)
        obtain ⟨b1, b2, b3, b4, b5⟩ := ch_all hB oB hb (i := i) (by omega) (by omega)
        have ka := ch_less (n := n) (i := (i : Int)) hA ha
        have kb := ch_less (n := n) (i := (i : Int)) hB hb
        have hd : (chN n A a i).1.toNat + (chN n B b i).1.toNat < a.toNat + b.toNat ∧ (chN n A a i).2.toNat + (chN n B b i).2.toNat < a.toNat + b.toNat := by
          rcases Int.le_total (lvlN n A a) (lvlN n B b) with e | e
          · have := ka.2.2.1 (by
              by_cases h2 : a < 2
              · rw [lvl_low h2] at e hi; omega
              · omega) (by omega)
            omega
          · have := kb.2.2.1 (by
              by_cases h2 : b < 2
              · rw [lvl_low h2] at e hi; omega
              · omega) (by omega)
            omega
        obtain ⟨u, hu⟩ : ∃ u, jnF j n A B f (L, M) (chN n A a i).1 (chN n B b i).1 = u := ⟨_, rfl⟩
        obtain ⟨v, hv⟩ : ∃ v, jnF j n A B f (u.1, u.2.1) (chN n A a i).2 (chN n B b i).2 = v := ⟨_, rfl⟩
        have R1 := ih L M _ _ a1 b1 (by omega) h
        rw [hu] at R1
        obtain ⟨i1, f1, l1, e1, t1, p1⟩ := R1
        have R2 := ih u.1 u.2.1 _ _ a2 b2 (by omega) i1
        rw [hv] at R2
        obtain ⟨i2, f2, l2, e2, t2, p2⟩ := R2
        rw [jn_new f (L, M) h0 hm hi hu hv]
        have hF1 := i1.snd.redu.frst
        have hF2 := i2.snd.redu.frst
        have hlen : u.1.length ≤ v.1.length := by rw [p2, List.length_append]; omega
        have f1' : RefB u.2.2 v.1.length := f1.mono hlen
        have e1' : ∀ β, evR v.1 β u.2.2 = bopN j (evR A β (chN n A a i).1) (evR B β (chN n B b i).1) := fun β => by rw [p2, ev_app hF1 f1]; exact e1 β
        have l1' : (i : Int) < lvlN n v.1 u.2.2 := by rw [p2, lvl_app f1]; omega
        have l2' : (i : Int) < lvlN n v.1 v.2.2 := by omega
        have hS := i2.snd.add (i := (i : Int)) f1' f2 (by omega) (by omega) l1' l2'
        have hO := i2.snd.ord.add hF2 (i := (i : Int)) f1' f2 (by omega) (by omega) l1' l2'
        have hR := (hF2.add (i := (i : Int)) f1' f2).2
        have hev : ∀ β, evR (mkN v.1 i u.2.2 v.2.2).1 β (mkN v.1 i u.2.2 v.2.2).2 = bopN j (evR A β a) (evR B β b) := fun β => by
          rw [ev_mk hF2 f1' f2, Int.toNat_natCast, e2, e1', a5, b5]
          split <;> rfl
        obtain ⟨t3, p3, _⟩ := mkN_pre v.1 i u.2.2 v.2.2
        refine ⟨⟨hS, fun x y r hr => ?_⟩, hR, by simp only; rw [hi]; exact hO.2, hev, ⟨t1 ++ (t2 ++ t3), by simp only; rw [p3, p2, p1]; simp⟩⟩
        simp only at hr ⊢
        split at hr
        · rename_i hxy
          obtain ⟨rfl, rfl⟩ := hxy
          cases hr
          exact ⟨hR, by rw [hi]; exact hO.2, hev⟩
        · obtain ⟨m1, m2, m3⟩ := i2.mem x y r hr
          refine ⟨?_, ?_, fun β => ?_⟩
          · rw [p3, List.length_append]; exact m1.mono (by omega)
          · rw [p3, lvl_app m1]; exact m2
          · rw [ev_keep hF2 m1]; exact m3 β
end Go.Proofs.Ytkaikbaagajckaa
namespace Go.Proofs.Ytkaikbaagajckaa
open Go.RowKit
set_option linter.unusedVariables false
set_option linter.unusedSimpArgs false
/-- each reference keeps its name -/
def idN (m : Nat) : Nms := fun q => if 2 ≤ q ∧ q < m + 2 then (q : Int) else 0
theorem idN_yes {m q : Nat} (h : 2 ≤ q ∧ q < m + 2) : idN m q = (q : Int) := if_pos h
theorem idN_no {m q : Nat} (h : ¬ (2 ≤ q ∧ q < m + 2)) : idN m q = 0 := if_neg h
theorem wlk_again {N Qd : List I3} (hR : Redu N) (hF : Frst Qd) : ∀ (f r : Nat) (D : List I3) (P : Nms), r ≤ f → r < N.length + 2 → WkI N D P → (∃ t, Qd = (wlkN appN N f (D, P) r).1 ++ t) → ∀ g, (wlkN appN N f (D, P) r).2.2.toNat ≤ g →
    wlkN appN Qd g (D, idN D.length) (wlkN appN N f (D, P) r).2.2.toNat = ((wlkN appN N f (D, P) r).1, idN (wlkN appN N f (D, P) r).1.length, (wlkN appN N f (D, P) r).2.2) := by
  intro f
  induction f with
  | zero =>
    intro r D P hr _ h _ g hg
    have hr0 : r < 2 := by omega
    rw [wlk_low _ _ _ _ hr0] at hg ⊢
    simp only at hg ⊢
    rw [wlk_low _ _ _ _ (by omega), Int.toNat_natCast]
  | succ f ih =>
    intro r D P hr hrn h hex g hg
    by_cases hr2 : r < 2
    · rw [wlk_low _ _ _ _ hr2] at hg ⊢
      simp only at hg ⊢
      rw [wlk_low _ _ _ _ (by omega), Int.toNat_natCast]
    · by_cases hp : P r > 0
      · rw [wlk_old _ _ _ _ hr2 hp] at hg ⊢
        simp only at hg ⊢
        obtain ⟨_, x, k, _, hk, hd, _⟩ := h.nodes hR.frst hp
        have hkl := (List.getElem?_eq_some_iff.1 hd).1
        obtain ⟨g, rfl⟩ : ∃ g', g = g' + 1 := ⟨g - 1, by omega⟩
        rw [wlk_old _ _ _ _ (by omega) (show (D, idN D.length).2 (P r).toNat > 0 by
          show idN D.length (P r).toNat > 0
          rw [idN_yes (by omega)]; omega)]
        simp only
        rw [idN_yes (by omega)]
        congr 2
        omega
      · obtain ⟨x, hx⟩ : ∃ x, N[r - 2]? = some x := ⟨_, List.getElem?_eq_getElem (by omega)⟩
        have h3 := hR.frst.low _ _ hx
        have h4 := hR.frst.high _ _ hx
        unfold RefB at h3 h4
        rw [wlk_new _ _ _ _ hr2 hp hx] at hex hg ⊢
        obtain ⟨_, R1⟩ := wlk_same hR.nodup hR.frst hR.diff f x.b.toNat D P (by omega) (by omega) h
        have I1 := ih x.b.toNat D P (by omega) (by omega) h
        generalize wlkN appN N f (D, P) x.b.toNat = A at *
        obtain ⟨D1, P1, r1⟩ := A
        obtain ⟨_, R2⟩ := wlk_same hR.nodup hR.frst hR.diff f x.c.toNat D1 P1 (by omega) (by omega) R1.inv
        have I2 := ih x.c.toNat D1 P1 (by omega) (by omega) R1.inv
        simp only at hex hg ⊢
        generalize wlkN appN N f (D1, P1) x.c.toNat = B at *
        obtain ⟨D2, P2, r2⟩ := B
        obtain ⟨t1, p1⟩ := R1.pre
        obtain ⟨t2, p2⟩ := R2.pre
        obtain ⟨t, ht⟩ := hex
        simp only [appN] at p1 p2 ht hg I1 I2 ⊢
        have hl1 : D.length ≤ D1.length := by rw [p1, List.length_append]; omega
        have hl2 : D1.length ≤ D2.length := by rw [p2, List.length_append]; omega
        have hm : Qd[D2.length]? = some ⟨x.a, r1, r2⟩ := by rw [ht, List.append_assoc, List.getElem?_append_right (Nat.le_refl _), Nat.sub_self]; rfl
        have f3 := hF.low _ _ hm
        have f4 := hF.high _ _ hm
        unfold RefB at f3 f4
        simp only at f3 f4
        have er : ((D2.length : Int) + 2).toNat = D2.length + 2 := by omega
        rw [er] at hg ⊢
        obtain ⟨g, rfl⟩ : ∃ g', g = g' + 1 := ⟨g - 1, by omega⟩
        rw [wlk_new _ _ _ _ (by omega) (show ¬ (D, idN D.length).2 (D2.length + 2) > 0 by
          show ¬ idN D.length (D2.length + 2) > 0
          rw [idN_no (by omega)]; omega) (show Qd[D2.length + 2 - 2]? = some ⟨x.a, r1, r2⟩ by rw [Nat.add_sub_cancel]; exact hm)]
        have J1 := I1 ⟨t2 ++ [⟨x.a, r1, r2⟩] ++ t, by rw [ht, p2]; simp⟩ g (by omega)
        have J2 := I2 ⟨[⟨x.a, r1, r2⟩] ++ t, by rw [ht]; simp⟩ g (by omega)
        simp only [appN]
        rw [J1]
        simp only
        rw [J2]
        simp only
        refine Prod.ext rfl (Prod.ext ?_ rfl)
        funext q
        simp only [List.length_append, List.length_cons, List.length_nil]
        by_cases hq : q = D2.length + 2
        · rw [if_pos hq, idN_yes (by omega), hq]; omega
        · rw [if_neg hq]
          by_cases hq2 : 2 ≤ q ∧ q < D2.length + 2
          · rw [idN_yes hq2, idN_yes (by omega)]
          · rw [idN_no hq2, idN_no (by omega)]
theorem idN_zero : idN 0 = fun _ => 0 := by
  funext q
  exact idN_no (by omega)
/-- the canonical nodes: sound, with the same inputs -/
theorem wk_lvl {n : Int} {N D : List I3} {P : Nms} (h : WkI N D P) (hF : Frst N) {b : Int} (hv : VisN P b) : lvlN n D (rvN P b) = lvlN n N b := by
  rw [rvN]
  split
  · rename_i h2
    rw [lvl_low h2, lvl_low h2]
  · rename_i h2
    obtain ⟨_, x, k, hx, hk, hd, _⟩ := h.nodes hF (hv.2 (by omega))
    rw [hk, lvl_node hd, show b = ((b.toNat - 2 : Nat) : Int) + 2 by omega, lvl_node hx]
theorem wk_snd {n : Int} {N D : List I3} {P : Nms} (h : WkI N D P) (hS : Snd n N) : Snd n D := by
  have hF := hS.redu.frst
  have H : ∀ (k : Nat) (y : I3), D[k]? = some y → ∃ x, x ∈ N ∧ y = ⟨x.a, rvN P x.b, rvN P x.c⟩ ∧ VisN P x.b ∧ VisN P x.c ∧ (0 ≤ x.a ∧ x.a < n ∧ x.a < lvlN n N x.b ∧ x.a < lvlN n N x.c) := fun k y hy => by
    obtain ⟨r, hr⟩ := h.from' k (List.getElem?_eq_some_iff.1 hy).1
    obtain ⟨_, x, j, hx, hj, hd, vb, vc, _⟩ := h.nodes hF (show P r > 0 by omega)
    have : k = j := by omega
    subst this
    rw [hy] at hd
    simp only [Option.some.injEq] at hd
    exact ⟨x, List.mem_of_getElem? hx, hd, vb, vc, hS.ord _ _ hx⟩
  refine ⟨⟨h.nodup, h.frst, fun y hy => ?_⟩, fun k y hy => ?_⟩
  · obtain ⟨k, hk⟩ := List.getElem?_of_mem hy
    obtain ⟨x, hx, rfl, vb, vc, _⟩ := H k y hk
    exact fun e => hS.redu.diff x hx (h.rinj hS.redu.nodup hF vb vc e)
  · obtain ⟨x, hx, rfl, vb, vc, o1, o2, o3, o4⟩ := H k y hy
    simp only
    rw [wk_lvl h hF vb, wk_lvl h hF vc]
    exact ⟨o1, o2, o3, o4⟩
theorem can_snd {n : Int} {N : List I3} (hS : Snd n N) {root : Int} (hr : RefB root N.length) : Snd n (canN mkN N root).1 ∧ RefB (canN mkN N root).2 (canN mkN N root).1.length ∧ lvlN n (canN mkN N root).1 (canN mkN N root).2 = lvlN n N root := by
  obtain ⟨P, h1, h2, h3⟩ := can_walk hS.redu hr
  refine ⟨wk_snd h1 hS, ?_, by rw [h2]; exact wk_lvl h1 hS.redu.frst h3⟩
  rw [h2, rvN]
  split
  · exact ⟨hr.1, by omega⟩
  · obtain ⟨_, x, k, _, hk, hd, _⟩ := h1.nodes hS.redu.frst (h3.2 (by omega))
    have := (List.getElem?_eq_some_iff.1 hd).1
    exact ⟨by omega, by omega⟩
theorem can_again {n : Int} {N : List I3} (hS : Snd n N) {root : Int} (hr : RefB root N.length) : canN mkN (canN mkN N root).1 (canN mkN N root).2 = canN mkN N root := by
  obtain ⟨hS2, hr2, _⟩ := can_snd hS hr
  rw [can_same hS2.redu hr2, can_same hS.redu hr]
  rw [can_same hS.redu hr] at hS2 hr2
  have h := wlk_again hS.redu hS2.redu.frst root.toNat root.toNat [] (fun _ => 0) (Nat.le_refl _) (by unfold RefB at hr; omega) (WkI.start N) ⟨[], by rw [List.append_nil]; rfl⟩ (canN appN N root).2.toNat (Nat.le_refl _)
  rw [List.length_nil, idN_zero] at h
  have h' : wlkN appN (canN appN N root).1 (canN appN N root).2.toNat ([], fun _ => 0) (canN appN N root).2.toNat = ((canN appN N root).1, idN (canN appN N root).1.length, (canN appN N root).2) := h
  have e : canN appN (canN appN N root).1 (canN appN N root).2 = ((wlkN appN (canN appN N root).1 (canN appN N root).2.toNat ([], fun _ => 0) (canN appN N root).2.toNat).1, (wlkN appN (canN appN N root).1 (canN appN N root).2.toNat ([], fun _ => 0) (canN appN N root).2.toNat).2.2) := rfl
  rw [e, h']
/-- a canonical diagram is valid -/
theorem can_dia {n : Int} {N : List I3} (hS : Snd n N) {root : Int} (hr : RefB root N.length) (h0 : 0 ≤ n) (hn : n ≤ 20) (hl : (canN mkN N root).1.length ≤ 2000) : diaB n (canN mkN N root).1 (canN mkN N root).2 = true := by
  obtain ⟨hS2, hr2, _⟩ := can_snd hS hr
  rw [diaB, can_again hS hr, Bool.and_eq_true, Bool.and_eq_true]
  obtain ⟨⟨D, r⟩, hE⟩ : ∃ E, canN mkN N root = E := ⟨_, rfl⟩
  rw [hE] at hS2 hr2 hl ⊢
  simp only at hS2 hr2 hl ⊢
  refine ⟨⟨?_, ?_⟩, by simp⟩
  · rw [dia0, Bool.and_eq_true, Bool.and_eq_true, inB, inB, Bool.and_eq_true, Bool.and_eq_true]
    simp only [decide_eq_true_eq]
    exact ⟨⟨⟨h0, hn⟩, hl⟩, hr2.1, by have := hr2.2; omega⟩
  · rw [upB, List.all_eq_true]
    intro i hi
    have hi' := List.mem_range.1 hi
    have hx := List.getElem?_eq_getElem hi'
    rw [ndB_iff hx]
    obtain ⟨o1, o2, o3, o4⟩ := hS2.ord _ _ hx
    have f3 := hS2.redu.frst.low _ _ hx
    have f4 := hS2.redu.frst.high _ _ hx
    exact ⟨⟨o1, by omega⟩, ⟨f3.1, by have := f3.2; omega⟩, ⟨f4.1, by have := f4.2; omega⟩, hS2.redu.diff _ (List.getElem_mem hi'), o3, o4⟩
/-- different numbers below n are at most n -/
theorem nodup_lt : ∀ (n : Nat) (S : List Nat), S.Nodup → (∀ s ∈ S, s < n) → S.length ≤ n := by
  intro n
  induction n with
  | zero =>
    intro S _ h
    cases S with
    | nil => exact Nat.le_refl _
    | cons x r => have := h x (List.mem_cons_self ..); omega
  | succ n ih =>
    intro S hn h
    by_cases hm : n ∈ S
    · have h1 := ih (S.erase n) (hn.erase n) fun s hs => by
        have h2 := (List.Nodup.mem_erase_iff hn).1 hs
        have := h s h2.2
        have := h2.1
        omega
      rw [List.length_erase_of_mem hm] at h1
      omega
    · have := ih S hn fun s hs => by
        have := h s hs
        have : s ≠ n := fun e => hm (e ▸ hs)
        omega
      omega
/-- no more canonical nodes than nodes -/
theorem can_length {N : List I3} (hR : Redu N) {root : Int} (hr : RefB root N.length) : (canN mkN N root).1.length ≤ N.length := by
  obtain ⟨P, h1, h2, h3⟩ := can_walk hR hr
  generalize (canN mkN N root).1 = D at *
  -- each new node comes from another old one
  have hch : ∀ k, k < D.length → ∃ r : Nat, P r = (k : Int) + 2 ∧ 2 ≤ r ∧ r - 2 < N.length := fun k hk => by
    obtain ⟨r, hr⟩ := h1.from' k hk
    obtain ⟨g, x, _, hx, _⟩ := h1.nodes hR.frst (show P r > 0 by omega)
    exact ⟨r, hr, g, (List.getElem?_eq_some_iff.1 hx).1⟩
  have key : ∀ m, m ≤ D.length → ∃ S : List Nat, S.length = m ∧ S.Nodup ∧ ∀ s ∈ S, s < N.length ∧ ∃ k, k < m ∧ P (s + 2) = (k : Int) + 2 := by
    intro m
    induction m with
    | zero => intro _; exact ⟨[], rfl, List.nodup_nil, fun s h => by cases h⟩
    | succ m ih =>
      intro hm
      obtain ⟨S, h1, h2, h3⟩ := ih (by omega)
      obtain ⟨r, hr, g, hl⟩ := hch m (by omega)
      refine ⟨(r - 2) :: S, by simp [h1], ?_, fun s hs => ?_⟩
      · rw [List.nodup_cons]
        refine ⟨fun hin => ?_, h2⟩
        obtain ⟨_, k, hk, hP⟩ := h3 _ hin
        rw [show r - 2 + 2 = r by omega, hr] at hP
        omega
      · rcases List.mem_cons.1 hs with rfl | hs
        · exact ⟨hl, m, by omega, by rw [show r - 2 + 2 = r by omega]; exact hr⟩
        · obtain ⟨g1, k, g2, g3⟩ := h3 s hs
          exact ⟨g1, k, by omega, g3⟩
  obtain ⟨S, s1, s2, s3⟩ := key D.length (Nat.le_refl _)
  have hsub := nodup_lt N.length S s2 fun s hs => (s3 s hs).1
  rw [s1] at hsub
  exact hsub
end Go.Proofs.Ytkaikbaagajckaa
namespace Go.Proofs.Ytkaikbaagajckaa
open Go.RowKit
set_option linter.unusedVariables false
set_option linter.unusedSimpArgs false
/-- one node of a diagram in which an input is fixed -/
def fxS (inp bit : Int) (s : List I3 × List Int) (x : I3) : List I3 × List Int :=
  if x.a ≠ inp then ((mkN s.1 x.a (s.2.getD x.b.toNat 0) (s.2.getD x.c.toNat 0)).1, s.2 ++ [(mkN s.1 x.a (s.2.getD x.b.toNat 0) (s.2.getD x.c.toNat 0)).2])
  else (s.1, s.2 ++ [if bit = 0 then s.2.getD x.b.toNat 0 else s.2.getD x.c.toNat 0])
def fxN (inp bit : Int) (N : List I3) : List I3 × List Int := N.foldl (fxS inp bit) ([], [0, 1])
structure FxI (n : Int) (inp : Nat) (bit : Int) (N : List I3) (k : Nat) (s : List I3 × List Int) : Prop where
  snd : Snd n s.1
  len : s.2.length = k + 2
  few : s.1.length ≤ k
  low : s.2[0]? = some 0 ∧ s.2[1]? = some 1
  at' : ∀ (r : Nat) (q : Int), s.2[r]? = some q → RefB q s.1.length ∧ lvlN n N (r : Int) ≤ lvlN n s.1 q ∧ ∀ β, evR s.1 β q = evR N (fixB β inp (decide (bit ≠ 0))) (r : Int)
theorem FxI.start {n : Int} {inp : Nat} {bit : Int} {N : List I3} : FxI n inp bit N 0 ([], [0, 1]) := by
  refine ⟨Snd.nil n, rfl, Nat.le_refl _, ⟨rfl, rfl⟩, fun r q h => ?_⟩
  have hr : r = 0 ∨ r = 1 := by
    have := (List.getElem?_eq_some_iff.1 h).1
    simp at this; omega
  rcases hr with rfl | rfl
  · simp at h; subst h
    exact ⟨⟨by omega, by simp⟩, by rw [lvl_low (by omega), lvl_low (by omega)]; exact Int.le_refl _, fun β => by rw [ev_low (by omega), ev_low (by omega)]; rfl⟩
  · simp at h; subst h
    exact ⟨⟨by omega, by simp⟩, by rw [lvl_low (by omega), lvl_low (by omega)]; exact Int.le_refl _, fun β => by rw [ev_low (by omega), ev_low (by omega)]; rfl⟩
theorem FxI.step {n : Int} {inp : Nat} {bit : Int} {N : List I3} {k : Nat} {s : List I3 × List Int} (hN : Snd n N) (h : FxI n inp bit N k s) {x : I3} (hx : N[k]? = some x) : FxI n inp bit N (k + 1) (fxS inp bit s x) := by
  obtain ⟨o1, o2, o3, o4⟩ := hN.ord _ _ hx
  have hF := hN.redu.frst
  have f3 := hF.low _ _ hx
  have f4 := hF.high _ _ hx
  have f3' := f3.1
  have f3'' := f3.2
  have f4' := f4.1
  have f4'' := f4.2
  have hl := h.len
  obtain ⟨lo, hlo⟩ : ∃ lo, s.2[x.b.toNat]? = some lo := ⟨_, List.getElem?_eq_getElem (by omega)⟩
  obtain ⟨hi, hhi⟩ : ∃ hi, s.2[x.c.toNat]? = some hi := ⟨_, List.getElem?_eq_getElem (by omega)⟩
  have e1 : s.2.getD x.b.toNat 0 = lo := by rw [List.getD_eq_getElem?_getD, hlo]; rfl
  have e2 : s.2.getD x.c.toNat 0 = hi := by rw [List.getD_eq_getElem?_getD, hhi]; rfl
  obtain ⟨b1, b2, b3⟩ := h.at' _ _ hlo
  obtain ⟨c1, c2, c3⟩ := h.at' _ _ hhi
  have hb0 : (x.b.toNat : Int) = x.b := by omega
  have hc0 : (x.c.toNat : Int) = x.c := by omega
  rw [hb0] at b2 b3
  rw [hc0] at c2 c3
  have hLF := h.snd.redu.frst
  rw [fxS, e1, e2]
  by_cases hi2 : x.a = (inp : Int)
  · rw [if_neg (by simpa using hi2)]
    have hev : ∀ β, evR N (fixB β inp (decide (bit ≠ 0))) ((k : Int) + 2) = evR s.1 β (if bit = 0 then lo else hi) := fun β => by
      rw [ev_node hF hx, hi2, Int.toNat_natCast, fixB, if_pos rfl]
      by_cases hb : bit = 0
      · rw [if_pos hb, if_neg (by simpa using hb), b3]
      · rw [if_neg hb, if_pos (by simpa using hb), c3]
    refine ⟨h.snd, by rw [List.length_append, hl]; rfl, Nat.le_succ_of_le h.few, ?_, fun r q hq => ?_⟩
    · rw [List.getElem?_append_left (by omega), List.getElem?_append_left (by omega)]; exact h.low
    · simp only at hq ⊢
      by_cases hr : r < k + 2
      · rw [List.getElem?_append_left (by omega)] at hq
        exact h.at' r q hq
      · have hr2 : r = k + 2 := by
          have := (List.getElem?_eq_some_iff.1 hq).1
          simp at this; omega
        subst hr2
        rw [List.getElem?_append_right (by omega), hl, Nat.sub_self] at hq
        simp at hq
        rw [show ((k + 2 : Nat) : Int) = (k : Int) + 2 by omega, lvl_node hx]
        subst hq
        refine ⟨?_, ?_, fun β => (hev β).symm⟩
        · split
          · exact b1
          · exact c1
        · split <;> omega
  · rw [if_pos hi2]
    have l1 : x.a < lvlN n s.1 lo := by omega
    have l2 : x.a < lvlN n s.1 hi := by omega
    have hS := h.snd.add b1 c1 o1 o2 l1 l2
    have hO := h.snd.ord.add hLF b1 c1 o1 o2 l1 l2
    have hR := (hLF.add (i := x.a) b1 c1).2
    obtain ⟨t, ht, ht1⟩ := mkN_pre s.1 x.a lo hi
    have hn : ¬ x.a.toNat = inp := fun e => hi2 (by omega)
    refine ⟨hS, by simp only [List.length_append, hl, List.length_cons, List.length_nil], by simp only [ht, List.length_append]; have := h.few; omega, ?_, fun r q hq => ?_⟩
    · simp only
      rw [List.getElem?_append_left (by omega), List.getElem?_append_left (by omega)]; exact h.low
    · simp only at hq ⊢
      by_cases hr : r < k + 2
      · rw [List.getElem?_append_left (by omega)] at hq
        obtain ⟨m1, m2, m3⟩ := h.at' r q hq
        refine ⟨?_, ?_, fun β => ?_⟩
        · rw [ht, List.length_append]; exact m1.mono (by omega)
        · rw [ht, lvl_app m1]; exact m2
        · rw [ev_keep hLF m1]; exact m3 β
      · have hr2 : r = k + 2 := by
          have := (List.getElem?_eq_some_iff.1 hq).1
          simp at this; omega
        subst hr2
        rw [List.getElem?_append_right (by omega), hl, Nat.sub_self] at hq
        simp at hq
        subst hq
        rw [show ((k + 2 : Nat) : Int) = (k : Int) + 2 by omega, lvl_node hx]
        refine ⟨hR, hO.2, fun β => ?_⟩
        rw [ev_mk hLF b1 c1, ev_node hF hx, fixB, if_neg hn]
        by_cases hb : β x.a.toNat = true
        · rw [if_pos hb, if_pos hb, c3]
        · rw [if_neg hb, if_neg hb, b3]
theorem fx_inv {n : Int} {inp : Nat} {bit : Int} {N : List I3} (hN : Snd n N) : FxI n inp bit N N.length (fxN inp bit N) := by
  have key : ∀ k, k ≤ N.length → FxI n inp bit N k ((N.take k).foldl (fxS inp bit) ([], [0, 1])) := by
    intro k
    induction k with
    | zero => intro _; exact FxI.start
    | succ k ih =>
      intro hk
      have hx := List.getElem?_eq_getElem (show k < N.length by omega)
      have := (ih (by omega)).step hN hx
      rw [take_at hx, List.foldl_append]
      exact this
  have := key N.length (Nat.le_refl _)
  rw [List.take_length] at this
  exact this
/-! ### counting -/
theorem fix_comm (β : Nat → Bool) {i j : Nat} (h : i ≠ j) (c d : Bool) : fixB (fixB β i c) j d = fixB (fixB β j d) i c := by
  funext q
  simp only [fixB]
  by_cases h1 : q = i
  · subst h1
    simp [h]
  · simp [h1]
theorem bit_fix (off : Nat) (b : Int) (t : List Int) : bitF off (b :: t) = fixB (bitF (off + 1) t) off (b == 1) := by
  funext q
  rw [fixB]
  by_cases h : q = off
  · rw [if_pos h, h, bitF_at]
  · rw [if_neg h]
    by_cases h2 : off + 1 ≤ q
    · exact bitF_next off b t h2
    · rw [bitF, bitF, decide_eq_false (show ¬ off ≤ q by omega), decide_eq_false h2]; rfl
theorem fix_fix (β : Nat → Bool) (i : Nat) (c d : Bool) : fixB (fixB β i c) i d = fixB β i d := by
  funext q
  simp only [fixB]
  split <;> rfl
def cntB (k off : Nat) (p : (Nat → Bool) → Bool) : Nat := (allB k).countP fun s => p (bitF off s)
theorem cntB_succ (k off : Nat) (p : (Nat → Bool) → Bool) : cntB (k + 1) off p = cntB k (off + 1) (fun β => p (fixB β off false)) + cntB k (off + 1) (fun β => p (fixB β off true)) := by
  rw [cntB, allB, List.countP_append, List.countP_map, List.countP_map, cntB, cntB]
  congr 2
  · funext s
    show p (bitF off (0 :: s)) = _
    rw [bit_fix]; rfl
  · funext s
    show p (bitF off (1 :: s)) = _
    rw [bit_fix]; rfl
theorem cnt_halves : ∀ (k off : Nat) (p : (Nat → Bool) → Bool) (i : Nat), off ≤ i → i < off + k → cntB k off (fun β => p (fixB β i false)) + cntB k off (fun β => p (fixB β i true)) = 2 * cntB k off p := by
  intro k
  induction k with
  | zero => intro off p i h1 h2; omega
  | succ k ih =>
    intro off p i h1 h2
    have A : ∀ d : Bool, cntB (k + 1) off (fun β => p (fixB β i d)) = cntB k (off + 1) (fun β => p (fixB (fixB β off false) i d)) + cntB k (off + 1) (fun β => p (fixB (fixB β off true) i d)) := fun d => cntB_succ k off _
    rw [A false, A true, cntB_succ k off p]
    by_cases he : i = off
    · subst he
      have e : ∀ c d : Bool, (fun β => p (fixB (fixB β i c) i d)) = fun β => p (fixB β i d) := fun c d => by
        funext β; rw [fix_fix]
      rw [e, e, e, e]
      omega
    · have e : ∀ c d : Bool, (fun β => p (fixB (fixB β off c) i d)) = fun β => p (fixB (fixB β i d) off c) := fun c d => by
        funext β; rw [fix_comm β (fun h => he h.symm)]
      rw [e, e, e, e]
      have q1 : cntB k (off + 1) (fun β => p (fixB (fixB β i false) off false)) + cntB k (off + 1) (fun β => p (fixB (fixB β i true) off false)) = 2 * cntB k (off + 1) (fun β => p (fixB β off false)) := ih (off + 1) (fun γ => p (fixB γ off false)) i (by omega) (by omega)
      have q2 : cntB k (off + 1) (fun β => p (fixB (fixB β i false) off true)) + cntB k (off + 1) (fun β => p (fixB (fixB β i true) off true)) = 2 * cntB k (off + 1) (fun β => p (fixB β off true)) := ih (off + 1) (fun γ => p (fixB γ off true)) i (by omega) (by omega)
      omega
/-- for how many lists of bits a diagram has the value 1 -/
def onesN (n : Int) (L : List I3) (root : Int) : Nat := cntR n L root * 2 ^ (lvlN n L root).toNat
theorem lvl_pos {n : Int} {L : List I3} (hO : OrdN n L) (hn : 0 ≤ n) {r : Int} (hr : RefB r L.length) : 0 ≤ lvlN n L r := by
  by_cases h2 : r < 2
  · rw [lvl_low h2]; exact hn
  · obtain ⟨k, rfl⟩ : ∃ k : Nat, r = (k : Int) + 2 := ⟨(r - 2).toNat, by omega⟩
    have hlt : k < L.length := by have := hr.2; omega
    have hx := List.getElem?_eq_getElem hlt
    rw [lvl_node hx]; exact (hO _ _ hx).1
theorem ones_ls {n : Nat} {L : List I3} (h : Snd (n : Int) L) {root : Int} (hr : RefB root L.length) : onesN (n : Int) L root = (lsN (n : Int) L n root).length := by
  have := cnt_ls h.redu.frst h.ord n root (Nat.le_refl _) hr (by rw [Nat.sub_self]; exact lvl_pos h.ord (by omega) hr)
  rw [this, onesN, Nat.sub_self, show lvlN (n : Int) L root - ((0 : Nat) : Int) = lvlN (n : Int) L root by omega]
theorem ones_cnt {n : Nat} {L : List I3} (h : Snd (n : Int) L) {root : Int} (hr : RefB root L.length) : onesN (n : Int) L root = cntB n 0 (fun β => evR L β root) := by
  rw [ones_ls h hr, ls_filter h.redu.frst h.ord n root (Nat.le_refl _) hr (by rw [Nat.sub_self]; exact lvl_pos h.ord (by omega) hr), cntB, ← List.countP_eq_length_filter, Nat.sub_self]
theorem allB_cnt_le (k off : Nat) (p : (Nat → Bool) → Bool) : cntB k off p ≤ 2 ^ k := by
  rw [cntB, ← allB_len k]; exact List.countP_le_length
/-- a reference other than 0 has the value 1 somewhere -/
theorem cnt_pos {n : Int} {L : List I3} (h : Snd n L) : ∀ (m : Nat) (r : Int), r.toNat ≤ m → RefB r L.length → r ≠ 0 → 0 < cntR n L r := by
  intro m
  induction m with
  | zero => intro r hm hr h0; have := hr.1; omega
  | succ m ih =>
    intro r hm hr h0
    by_cases h2 : r < 2
    · rw [cnt_low h2, if_neg h0]; decide
    · obtain ⟨k, rfl⟩ : ∃ k : Nat, r = (k : Int) + 2 := ⟨(r - 2).toNat, by omega⟩
      have hlt : k < L.length := by have := hr.2; omega
      obtain ⟨x, hx⟩ : ∃ x, L[k]? = some x := ⟨_, List.getElem?_eq_getElem hlt⟩
      have f3 := h.redu.frst.low _ _ hx
      have f4 := h.redu.frst.high _ _ hx
      have f3' := f3.2
      have f4' := f4.2
      have hd := h.redu.diff x (List.mem_of_getElem? hx)
      rw [cnt_node h.redu.frst hx]
      by_cases hb : x.b = 0
      · have := ih x.c (by omega) (f4.mono (Nat.le_of_lt hlt)) (fun e => hd (by omega))
        exact Nat.lt_of_lt_of_le (Nat.mul_pos this (Nat.two_pow_pos _)) (Nat.le_add_left _ _)
      · have := ih x.b (by omega) (f3.mono (Nat.le_of_lt hlt)) hb
        exact Nat.lt_of_lt_of_le (Nat.mul_pos this (Nat.two_pow_pos _)) (Nat.le_add_right _ _)
theorem ones_zero {n : Int} {L : List I3} (h : Snd n L) {root : Int} (hr : RefB root L.length) : onesN n L root = 0 ↔ root = 0 := by
  constructor
  · intro h0
    by_cases e : root = 0
    · exact e
    · have := cnt_pos h _ root (Nat.le_refl _) hr e
      have := Nat.mul_pos this (Nat.two_pow_pos (lvlN n L root).toNat)
      rw [onesN] at h0
      omega
  · rintro rfl
    rw [onesN, cnt_low (by omega), if_pos rfl, Nat.zero_mul]
end Go.Proofs.Ytkaikbaagajckaa
namespace Go.Proofs.Ytkaikbaagajckaa
open Go.RowKit
set_option linter.unusedVariables false
set_option linter.unusedSimpArgs false
/-- how many references below m have a name -/
def nmC (P : Nms) : Nat → Nat
  | 0 => 0
  | m + 1 => nmC P m + (if P m > 0 then 1 else 0)
theorem nmC_le (P : Nms) : ∀ m, nmC P m ≤ m
  | 0 => Nat.le_refl _
  | m + 1 => by
    have := nmC_le P m
    rw [nmC]
    split <;> omega
theorem nmC_far {P : Nms} {r : Nat} {v : Int} : ∀ m, m ≤ r → nmC (fun q => if q = r then v else P q) m = nmC P m
  | 0, _ => rfl
  | m + 1, h => by
    rw [nmC, nmC, nmC_far m (by omega), if_neg (show ¬ m = r by omega)]
theorem nmC_new {P : Nms} {r : Nat} {v : Int} (h : ¬ P r > 0) (hv : v > 0) : ∀ m, r < m → nmC (fun q => if q = r then v else P q) m = nmC P m + 1
  | 0, hr => by omega
  | m + 1, hr => by
    rw [nmC, nmC]
    by_cases e : m = r
    · subst e
      rw [nmC_far m (Nat.le_refl _), if_pos rfl, if_pos hv, if_neg h]
    · rw [nmC_new h hv m (by omega), if_neg e]; omega
theorem nmC_ge {P : Nms} {r : Nat} {v : Int} (h : ¬ P r > 0) : ∀ m, nmC P m ≤ nmC (fun q => if q = r then v else P q) m
  | 0 => Nat.le_refl _
  | m + 1 => by
    have := nmC_ge (v := v) h m
    rw [nmC, nmC]
    by_cases e : m = r
    · subst e
      rw [if_neg h]; omega
    · rw [if_neg e]; omega
structure WmI (N D : List I3) (P : Nms) : Prop where
  frst : Frst D
  nm : ∀ q, RefB (P q) D.length
  few : D.length ≤ nmC P (N.length + 2)
theorem WmI.start (N : List I3) : WmI N [] (fun _ => 0) := ⟨Frst.nil, fun q => ⟨by omega, by simp⟩, by simp⟩
theorem WmI.len {N D : List I3} {P : Nms} (h : WmI N D P) : D.length ≤ N.length + 2 := Nat.le_trans h.few (nmC_le _ _)
structure WmR (N : List I3) (D : List I3) (P : Nms) (r : Nat) (A : List I3 × Nms × Int) : Prop where
  inv : WmI N A.1 A.2.1
  ref : RefB A.2.2 A.1.length
  far : ∀ q, r < q → A.2.1 q = P q
  len : D.length ≤ A.1.length
theorem wm_inv {N : List I3} (hF : Frst N) : ∀ (f r : Nat) (D : List I3) (P : Nms), r ≤ f → r < N.length + 2 → WmI N D P → WmR N D P r (wlkN mkN N f (D, P) r) := by
  intro f
  induction f with
  | zero =>
    intro r D P hr hrn h
    rw [wlk_low _ _ _ _ (show r < 2 by omega)]
    exact ⟨h, ⟨by simp only; omega, by simp only; omega⟩, fun q _ => rfl, Nat.le_refl _⟩
  | succ f ih =>
    intro r D P hr hrn h
    by_cases h2 : r < 2
    · rw [wlk_low _ _ _ _ h2]
      exact ⟨h, ⟨by simp only; omega, by simp only; omega⟩, fun q _ => rfl, Nat.le_refl _⟩
    by_cases hp : P r > 0
    · rw [wlk_old _ _ _ _ h2 hp]
      exact ⟨h, h.nm r, fun q _ => rfl, Nat.le_refl _⟩
    obtain ⟨x, hx⟩ : ∃ x, N[r - 2]? = some x := ⟨_, List.getElem?_eq_getElem (by omega)⟩
    have h3 := hF.low _ _ hx
    have h4 := hF.high _ _ hx
    unfold RefB at h3 h4
    have R1 := ih x.b.toNat D P (by omega) (by omega) h
    rw [wlk_new _ _ _ _ h2 hp hx]
    generalize wlkN mkN N f (D, P) x.b.toNat = A at *
    obtain ⟨D1, P1, r1⟩ := A
    have R2 := ih x.c.toNat D1 P1 (by omega) (by omega) R1.inv
    simp only at R1 R2 ⊢
    generalize wlkN mkN N f (D1, P1) x.c.toNat = B at *
    obtain ⟨D2, P2, r2⟩ := B
    have q1 : RefB r1 D2.length := R1.ref.mono R2.len
    have q2 : RefB r2 D2.length := R2.ref
    have hpr : ¬ P2 r > 0 := by
      have e2 : P2 r = P1 r := R2.far r (by omega)
      have e1 : P1 r = P r := R1.far r (by omega)
      rw [e2, e1]; exact hp
    have hA := R2.inv.frst.add (i := x.a) q1 q2
    have hl1 : D.length ≤ D1.length := R1.len
    have hl2 : D1.length ≤ D2.length := R2.len
    have hf1 := R1.far
    have hf2 := R2.far
    have hnm := R2.inv.nm
    have hfw := R2.inv.few
    simp only at hA hf1 hf2 hnm hfw ⊢
    obtain ⟨t, ht, ht1⟩ := mkN_pre D2 x.a r1 r2
    have hl3 : D2.length ≤ (mkN D2 x.a r1 r2).1.length := by rw [ht, List.length_append]; omega
    refine ⟨⟨hA.1, fun q => ?_, ?_⟩, hA.2, fun q hq => ?_, by simp only; omega⟩
    · simp only
      split
      · exact hA.2
      · exact (hnm q).mono hl3
    · simp only
      by_cases he : r1 = r2
      · rw [mkN_eq he]
        exact Nat.le_trans hfw (nmC_ge hpr _)
      · cases hpos : posN ⟨x.a, r1, r2⟩ D2 with
        | some k =>
          rw [mkN_old he hpos]
          exact Nat.le_trans hfw (nmC_ge hpr _)
        | none =>
          rw [mkN_new he (posN_none.1 hpos)]
          have e9 := nmC_new (P := P2) (r := r) (v := (D2.length : Int) + 2) hpr (by omega) (N.length + 2) (by omega)
          simp only [List.length_append, List.length_cons, List.length_nil]
          rw [e9]; omega
    · simp only
      rw [if_neg (by omega), hf2 q (by omega), hf1 q (by omega)]
theorem canm_ref {N : List I3} (hF : Frst N) {root : Int} (hr : RefB root N.length) : Frst (canN mkN N root).1 ∧ RefB (canN mkN N root).2 (canN mkN N root).1.length ∧ (canN mkN N root).1.length ≤ N.length + 2 := by
  have h := wm_inv hF root.toNat root.toNat [] (fun _ => 0) (Nat.le_refl _) (by unfold RefB at hr; omega) (WmI.start N)
  exact ⟨h.inv.frst, h.ref, h.inv.len⟩
/-- the names as the reference keeps them -/
def nmsL (P : Nms) (m : Nat) : List Int := (List.range m).map P
theorem nmsL_len (P : Nms) (m : Nat) : (nmsL P m).length = m := by simp [nmsL]
theorem nmsL_at (P : Nms) {m r : Nat} (h : r < m) : (nmsL P m)[r]? = some (P r) := by simp [nmsL, h]
theorem nmsL_set (P : Nms) {m r : Nat} (h : r < m) (v : Int) : (nmsL P m).set r v = nmsL (fun q => if q = r then v else P q) m := by
  apply List.ext_getElem?
  intro i
  rw [List.getElem?_set]
  by_cases hi : i < m
  · rw [nmsL_at _ hi, nmsL_len, nmsL_at _ hi]
    by_cases e : r = i
    · rw [if_pos e, if_pos h, if_pos e.symm]
    · rw [if_neg e, if_neg (fun h => e h.symm)]
  · rw [List.getElem?_eq_none (by rw [nmsL_len]; omega), List.getElem?_eq_none (l := nmsL (fun q => if q = r then v else P q) m) (by rw [nmsL_len]; omega)]
    by_cases e : r = i
    · omega
    · rw [if_neg e]
theorem nmsL_zero (m : Nat) : nmsL (fun _ => 0) m = List.replicate m 0 := by
  apply List.ext_getElem?
  intro i
  by_cases hi : i < m
  · rw [nmsL_at _ hi, List.getElem?_replicate, if_pos hi]
  · rw [List.getElem?_eq_none (by rw [nmsL_len]; omega), List.getElem?_replicate, if_neg hi]
end Go.Proofs.Ytkaikbaagajckaa
