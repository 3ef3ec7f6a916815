/- Decision diagrams: joining two, fixing an input: plain laws.; Decision diagrams: a canonical diagram is valid, and canonical itself: plain laws.; Decision diagrams: an input fixed, ones counted: plain laws.; The scalar helpers of layer 1, walked once: each returns what its Lean function says and leaves the world alone.; The copies, comparisons and marks of the exact laws, walked.; Generic functions of Go's package slices, walked over int64. -/
import Derived.Test.YtkaikbaagajckaaGreatK01
import Derived.Test.YtkaikbaagajckaaGreatBase
import Derived.Lib.SliceRun
namespace Go.Proofs.YtkaikbaagajckaaGreat
open Go.RowKit
set_option linter.unusedVariables false
set_option linter.unusedSimpArgs false
/-- a sound forest: reduced and ordered -/
structure Snd (n : Int) (L : List I3) : Prop where
  redu : Redu L
  ord : OrdN n L
theorem Snd.nil (n : Int) : Snd n [] := ⟨Redu.nil, OrdN.nil n⟩
theorem Snd.add {n : Int} {L : List I3} (h : Snd n L) {i lo hi : Int} (hl : RefB lo L.length) (hh : RefB hi L.length) (h0 : 0 ≤ i) (hn : i < n) (h1 : i < lvlN n L lo) (h2 : i < lvlN n L hi) : Snd n (mkN L i lo hi).1 :=
  ⟨h.redu.add hl hh, (h.ord.add h.redu.frst hl hh h0 hn h1 h2).1⟩
theorem dia_snd {n : Int} {L : List I3} {root : Int} (h : diaB n L root = true) : Snd n L := by
  obtain ⟨h1, _, _, _, _, _, h2⟩ := dia_redu h
  exact ⟨h1, fun i x hx => by
    have := h2 i x hx
    exact ⟨this.inp.1, by have := this.inp.2; omega, this.lb, this.lc⟩⟩
/-- what joins two truth values -/
def bopN (j : Int) (a b : Bool) : Bool := if j = 0 then a && b else if j = 1 then a || b else xor a b
def jopN (j a b : Int) : Int := if bopN j (a == 1) (b == 1) = true then 1 else 0
theorem jop_low {j a b : Int} : jopN j a b < 2 ∧ 0 ≤ jopN j a b := by
  rw [jopN]; split <;> omega
/-- what is known of pairs -/
abbrev Mem := Int → Int → Option Int
def jnF (j n : Int) (A B : List I3) : Nat → List I3 × Mem → Int → Int → List I3 × Mem × Int
  | 0, s, a, b => (s.1, s.2, jopN j a b)
  | f + 1, s, a, b =>
    if a < 2 ∧ b < 2 then (s.1, s.2, jopN j a b)
    else match s.2 a b with
      | some r => (s.1, s.2, r)
      | none =>
        let i := min (lvlN n A a) (lvlN n B b)
        let u := jnF j n A B f s (chN n A a i).1 (chN n B b i).1
        let v := jnF j n A B f (u.1, u.2.1) (chN n A a i).2 (chN n B b i).2
        let m := mkN v.1 i u.2.2 v.2.2
        (m.1, fun x y => if x = a ∧ y = b then some m.2 else v.2.1 x y, m.2)
theorem jn_low {j n : Int} {A B : List I3} (f : Nat) (s : List I3 × Mem) {a b : Int} (h : a < 2 ∧ b < 2) : jnF j n A B f s a b = (s.1, s.2, jopN j a b) := by
  cases f with
  | zero => rfl
  | succ f => rw [jnF, if_pos h]
theorem jn_old {j n : Int} {A B : List I3} (f : Nat) (s : List I3 × Mem) {a b r : Int} (h : ¬ (a < 2 ∧ b < 2)) (hr : s.2 a b = some r) : jnF j n A B (f + 1) s a b = (s.1, s.2, r) := by
  rw [jnF, if_neg h, hr]
theorem jn_new {j n : Int} {A B : List I3} (f : Nat) (s : List I3 × Mem) {a b i : Int} (h : ¬ (a < 2 ∧ b < 2)) (hr : s.2 a b = none) (hi : min (lvlN n A a) (lvlN n B b) = i) {u v : List I3 × Mem × Int} (hu : jnF j n A B f s (chN n A a i).1 (chN n B b i).1 = u) (hv : jnF j n A B f (u.1, u.2.1) (chN n A a i).2 (chN n B b i).2 = v) :
    jnF j n A B (f + 1) s a b = ((mkN v.1 i u.2.2 v.2.2).1, (fun x y => if x = a ∧ y = b then some (mkN v.1 i u.2.2 v.2.2).2 else v.2.1 x y), (mkN v.1 i u.2.2 v.2.2).2) := by
  subst hi hu hv
  rw [jnF, if_neg h, hr]
/-- how far a pair still goes down -/
theorem ch_less {n : Int} {L : List I3} (hF : Frst L) {r i : Int} (hr : RefB r L.length) : (chN n L r i).1.toNat ≤ r.toNat ∧ (chN n L r i).2.toNat ≤ r.toNat ∧ (2 ≤ r → lvlN n L r = i → (chN n L r i).1.toNat < r.toNat ∧ (chN n L r i).2.toNat < r.toNat) ∧ RefB (chN n L r i).1 L.length ∧ RefB (chN n L r i).2 L.length := by
  by_cases hc : lvlN n L r = i ∧ 2 ≤ r
  · obtain ⟨k, rfl⟩ : ∃ k : Nat, r = (k : Int) + 2 := ⟨(r - 2).toNat, by omega⟩
    have hlt : k < L.length := by have := hr.2; omega
    obtain ⟨x, hx⟩ : ∃ x, L[k]? = some x := ⟨_, List.getElem?_eq_getElem hlt⟩
    have h3 := hF.low _ _ hx
    have h4 := hF.high _ _ hx
    have h3' := h3.2
    have h4' := h4.2
    have h3'' := h3.1
    have h4'' := h4.1
    rw [ch_node hx ((lvl_node hx).symm.trans hc.1)]
    refine ⟨?_, ?_, fun _ _ => ⟨?_, ?_⟩, h3.mono (Nat.le_of_lt hlt), h4.mono (Nat.le_of_lt hlt)⟩ <;> (simp only; omega)
  · rw [chN, if_neg hc]
    exact ⟨Nat.le_refl _, Nat.le_refl _, fun h1 h2 => absurd ⟨h2, h1⟩ hc, hr, hr⟩
theorem jn_fuel {j n : Int} {A B : List I3} (hA : Frst A) (hB : Frst B) (oA : OrdN n A) (oB : OrdN n B) : ∀ (f g : Nat) (s : List I3 × Mem) (a b : Int), RefB a A.length → RefB b B.length → a.toNat + b.toNat ≤ f → a.toNat + b.toNat ≤ g → jnF j n A B f s a b = jnF j n A B g s a b := by
  intro f
  induction f with
  | zero =>
    intro g s a b ha hb hf hg
    rw [jn_low _ _ (by omega), jn_low _ _ (by omega)]
  | succ f ih =>
    intro g s a b ha hb hf hg
    by_cases h : a < 2 ∧ b < 2
    · rw [jn_low _ _ h, jn_low _ _ h]
    · obtain ⟨g, rfl⟩ : ∃ g', g = g' + 1 := ⟨g - 1, by omega⟩
      cases hm : s.2 a b with
      | some r => rw [jn_old _ _ h hm, jn_old _ _ h hm]
      | none =>
        have hi := ch_less (n := n) (i := min (lvlN n A a) (lvlN n B b)) hA ha
        have hk := ch_less (n := n) (i := min (lvlN n A a) (lvlN n B b)) hB hb
        have hd : (chN n A a (min (lvlN n A a) (lvlN n B b))).1.toNat + (chN n B b (min (lvlN n A a) (lvlN n B b))).1.toNat < a.toNat + b.toNat ∧ (chN n A a (min (lvlN n A a) (lvlN n B b))).2.toNat + (chN n B b (min (lvlN n A a) (lvlN n B b))).2.toNat < a.toNat + b.toNat := by
          have ea := lvl_le oA ha
          have eb := lvl_le oB hb
          rcases Int.le_total (lvlN n A a) (lvlN n B b) with e | e
          · rw [Int.min_eq_left e] at hi hk ⊢
            by_cases h2 : a < 2
            · rw [lvl_low h2] at e
              -- then b's level is n, too: b is a node of level n, which none has
              have hb2 : ¬ b < 2 := fun hb2 => h ⟨h2, hb2⟩
              obtain ⟨q, rfl⟩ : ∃ q : Nat, b = (q : Int) + 2 := ⟨(b - 2).toNat, by omega⟩
              have hq : q < B.length := by have := hb.2; omega
              have hx := List.getElem?_eq_getElem hq
              have := (oB _ _ hx).2.1
              rw [lvl_node hx] at e
              omega
            · have := hi.2.2.1 (by omega) rfl
              omega
          · rw [Int.min_eq_right e] at hi hk ⊢
            by_cases h2 : b < 2
            · rw [lvl_low h2] at e
              have ha2 : ¬ a < 2 := fun ha2 => h ⟨ha2, h2⟩
              obtain ⟨q, rfl⟩ : ∃ q : Nat, a = (q : Int) + 2 := ⟨(a - 2).toNat, by omega⟩
              have hq : q < A.length := by have := ha.2; omega
              have hx := List.getElem?_eq_getElem hq
              have := (oA _ _ hx).2.1
              rw [lvl_node hx] at e
              omega
            · have := hk.2.2.1 (by omega) rfl
              omega
        rw [jn_new f s h hm rfl rfl rfl, jn_new g s h hm rfl rfl rfl]
        rw [ih g s _ _ hi.2.2.2.1 hk.2.2.2.1 (by omega) (by omega), ih g _ _ _ hi.2.2.2.2 hk.2.2.2.2 (by omega) (by omega)]
/-- what is known is right -/
structure JnI (j n : Int) (A B : List I3) (L : List I3) (M : Mem) : Prop where
  snd : Snd n L
  mem : ∀ a b r, M a b = some r → RefB r L.length ∧ min (lvlN n A a) (lvlN n B b) ≤ lvlN n L r ∧ ∀ β, evR L β r = bopN j (evR A β a) (evR B β b)
theorem JnI.start (j n : Int) (A B : List I3) : JnI j n A B [] (fun _ _ => none) := ⟨Snd.nil n, fun a b r h => by cases h⟩
theorem jn_ev {j n : Int} {A B : List I3} (hA : Frst A) (hB : Frst B) (oA : OrdN n A) (oB : OrdN n B) (hn : 0 ≤ n) : ∀ (f : Nat) (L : List I3) (M : Mem) (a b : Int), RefB a A.length → RefB b B.length → a.toNat + b.toNat ≤ f → JnI j n A B L M →
    JnI j n A B (jnF j n A B f (L, M) a b).1 (jnF j n A B f (L, M) a b).2.1 ∧ RefB (jnF j n A B f (L, M) a b).2.2 (jnF j n A B f (L, M) a b).1.length ∧ min (lvlN n A a) (lvlN n B b) ≤ lvlN n (jnF j n A B f (L, M) a b).1 (jnF j n A B f (L, M) a b).2.2 ∧
    (∀ β, evR (jnF j n A B f (L, M) a b).1 β (jnF j n A B f (L, M) a b).2.2 = bopN j (evR A β a) (evR B β b)) ∧ ∃ t, (jnF j n A B f (L, M) a b).1 = L ++ t := by
  intro f
  induction f with
  | zero =>
    intro L M a b ha hb hf h
    have h0 : a < 2 ∧ b < 2 := by omega
    have ha0 := ha.1
    have hb0 := hb.1
    obtain ⟨j1, j2⟩ := jop_low (j := j) (a := a) (b := b)
    rw [jn_low _ _ h0]
    refine ⟨h, ⟨j2, by simp only; omega⟩, ?_, fun β => ?_, [], by simp⟩
    · simp only
      rw [lvl_low j1, lvl_low h0.1, lvl_low h0.2]; omega
    · simp only
      rw [ev_low j1, ev_low h0.1, ev_low h0.2, jopN]
      have e1 : (a == 1) = decide (a = 1) := rfl
      have e2 : (b == 1) = decide (b = 1) := rfl
      rw [e1, e2]
      cases bopN j (decide (a = 1)) (decide (b = 1)) <;> simp
  | succ f ih =>
    intro L M a b ha hb hf h
    by_cases h0 : a < 2 ∧ b < 2
    · have ha0 := ha.1
      have hb0 := hb.1
      obtain ⟨j1, j2⟩ := jop_low (j := j) (a := a) (b := b)
      rw [jn_low _ _ h0]
      refine ⟨h, ⟨j2, by simp only; omega⟩, ?_, fun β => ?_, [], by simp⟩
      · simp only
        rw [lvl_low j1, lvl_low h0.1, lvl_low h0.2]; omega
      · simp only
        rw [ev_low j1, ev_low h0.1, ev_low h0.2, jopN]
        have e1 : (a == 1) = decide (a = 1) := rfl
        have e2 : (b == 1) = decide (b = 1) := rfl
        rw [e1, e2]
        cases bopN j (decide (a = 1)) (decide (b = 1)) <;> simp
    · cases hm : M a b with
      | some r =>
        rw [jn_old _ _ h0 hm]
        obtain ⟨m1, m2, m3⟩ := h.mem a b r hm
        exact ⟨h, m1, m2, m3, [], by simp⟩
      | none =>
        have ea := lvl_le oA ha
        have eb := lvl_le oB hb
        have hlt : min (lvlN n A a) (lvlN n B b) < n := by
          by_cases h2 : a < 2
          · have hb2 : ¬ b < 2 := fun hb2 => h0 ⟨h2, hb2⟩
            obtain ⟨q, rfl⟩ : ∃ q : Nat, b = (q : Int) + 2 := ⟨(b - 2).toNat, by omega⟩
            have hq : q < B.length := by have := hb.2; omega
            have hx := List.getElem?_eq_getElem hq
            have := (oB _ _ hx).2.1
            rw [lvl_node hx]
            omega
          · obtain ⟨q, rfl⟩ : ∃ q : Nat, a = (q : Int) + 2 := ⟨(a - 2).toNat, by omega⟩
            have hq : q < A.length := by have := ha.2; omega
            have hx := List.getElem?_eq_getElem hq
            have := (oA _ _ hx).2.1
            rw [lvl_node hx]
            omega
        have h00 : 0 ≤ min (lvlN n A a) (lvlN n B b) := by
          have la : 0 ≤ lvlN n A a := by
            by_cases h2 : a < 2
            · rw [lvl_low h2]; exact hn
            · obtain ⟨q, rfl⟩ : ∃ q : Nat, a = (q : Int) + 2 := ⟨(a - 2).toNat, by omega⟩
              have hq : q < A.length := by have := ha.2; omega
              have hx := List.getElem?_eq_getElem hq
              rw [lvl_node hx]; exact (oA _ _ hx).1
          have lb : 0 ≤ lvlN n B b := by
            by_cases h2 : b < 2
            · rw [lvl_low h2]; exact hn
            · obtain ⟨q, rfl⟩ : ∃ q : Nat, b = (q : Int) + 2 := ⟨(b - 2).toNat, by omega⟩
              have hq : q < B.length := by have := hb.2; omega
              have hx := List.getElem?_eq_getElem hq
              rw [lvl_node hx]; exact (oB _ _ hx).1
          omega
        obtain ⟨i, hi⟩ : ∃ i : Nat, min (lvlN n A a) (lvlN n B b) = (i : Int) := ⟨(min (lvlN n A a) (lvlN n B b)).toNat, by omega⟩
        have hin : (i : Int) < n := by rw [← hi]; exact hlt
        obtain ⟨a1, a2, a3, a4, a5⟩ := ch_all hA oA ha (i := i) (by omega) (by omega)
        obtain ⟨b1, b2, b3, b4, b5⟩ := ch_all hB oB hb (i := i) (by omega) (by omega)
        have ka := ch_less (n := n) (i := (i : Int)) hA ha
        have kb := ch_less (n := n) (i := (i : Int)) hB hb
        have hd : (chN n A a i).1.toNat + (chN n B b i).1.toNat < a.toNat + b.toNat ∧ (chN n A a i).2.toNat + (chN n B b i).2.toNat < a.toNat + b.toNat := by
          rcases Int.le_total (lvlN n A a) (lvlN n B b) with e | e
          · have := ka.2.2.1 (by
              by_cases h2 : a < 2
              · rw [lvl_low h2] at e hi; omega
              · omega) (by omega)
            omega
          · have := kb.2.2.1 (by
              by_cases h2 : b < 2
              · rw [lvl_low h2] at e hi; omega
              · omega) (by omega)
            omega
        obtain ⟨u, hu⟩ : ∃ u, jnF j n A B f (L, M) (chN n A a i).1 (chN n B b i).1 = u := ⟨_, rfl⟩
        obtain ⟨v, hv⟩ : ∃ v, jnF j n A B f (u.1, u.2.1) (chN n A a i).2 (chN n B b i).2 = v := ⟨_, rfl⟩
        have R1 := ih L M _ _ a1 b1 (by omega) h
        rw [hu] at R1
        obtain ⟨i1, f1, l1, e1, t1, p1⟩ := R1
        have R2 := ih u.1 u.2.1 _ _ a2 b2 (by omega) i1
        rw [hv] at R2
        obtain ⟨i2, f2, l2, e2, t2, p2⟩ := R2
        rw [jn_new f (L, M) h0 hm hi hu hv]
        have hF1 := i1.snd.redu.frst
        have hF2 := i2.snd.redu.frst
        have hlen : u.1.length ≤ v.1.length := by rw [p2, List.length_append]; omega
        have f1' : RefB u.2.2 v.1.length := f1.mono hlen
        have e1' : ∀ β, evR v.1 β u.2.2 = bopN j (evR A β (chN n A a i).1) (evR B β (chN n B b i).1) := fun β => by rw [p2, ev_app hF1 f1]; exact e1 β
        have l1' : (i : Int) < lvlN n v.1 u.2.2 := by rw [p2, lvl_app f1]; omega
        have l2' : (i : Int) < lvlN n v.1 v.2.2 := by omega
        have hS := i2.snd.add (i := (i : Int)) f1' f2 (by omega) (by omega) l1' l2'
        have hO := i2.snd.ord.add hF2 (i := (i : Int)) f1' f2 (by omega) (by omega) l1' l2'
        have hR := (hF2.add (i := (i : Int)) f1' f2).2
        have hev : ∀ β, evR (mkN v.1 i u.2.2 v.2.2).1 β (mkN v.1 i u.2.2 v.2.2).2 = bopN j (evR A β a) (evR B β b) := fun β => by
          rw [ev_mk hF2 f1' f2, Int.toNat_natCast, e2, e1', a5, b5]
          split <;> rfl
        obtain ⟨t3, p3, _⟩ := mkN_pre v.1 i u.2.2 v.2.2
        refine ⟨⟨hS, fun x y r hr => ?_⟩, hR, by simp only; rw [hi]; exact hO.2, hev, ⟨t1 ++ (t2 ++ t3), by simp only; rw [p3, p2, p1]; simp⟩⟩
        simp only at hr ⊢
        split at hr
        · rename_i hxy
          obtain ⟨rfl, rfl⟩ := hxy
          cases hr
          exact ⟨hR, by rw [hi]; exact hO.2, hev⟩
        · obtain ⟨m1, m2, m3⟩ := i2.mem x y r hr
          refine ⟨?_, ?_, fun β => ?_⟩
          · rw [p3, List.length_append]; exact m1.mono (by omega)
          · rw [p3, lvl_app m1]; exact m2
          · rw [ev_keep hF2 m1]; exact m3 β
end Go.Proofs.YtkaikbaagajckaaGreat
namespace Go.Proofs.YtkaikbaagajckaaGreat
open Go.RowKit
set_option linter.unusedVariables false
set_option linter.unusedSimpArgs false
/-- each reference keeps its name -/
def idN (m : Nat) : Nms := fun q => if 2 ≤ q ∧ q < m + 2 then (q : Int) else 0
theorem idN_yes {m q : Nat} (h : 2 ≤ q ∧ q < m + 2) : idN m q = (q : Int) := if_pos h
theorem idN_no {m q : Nat} (h : ¬ (2 ≤ q ∧ q < m + 2)) : idN m q = 0 := if_neg h
theorem wlk_again {N Qd : List I3} (hR : Redu N) (hF : Frst Qd) : ∀ (f r : Nat) (D : List I3) (P : Nms), r ≤ f → r < N.length + 2 → WkI N D P → (∃ t, Qd = (wlkN appN N f (D, P) r).1 ++ t) → ∀ g, (wlkN appN N f (D, P) r).2.2.toNat ≤ g →
    wlkN appN Qd g (D, idN D.length) (wlkN appN N f (D, P) r).2.2.toNat = ((wlkN appN N f (D, P) r).1, idN (wlkN appN N f (D, P) r).1.length, (wlkN appN N f (D, P) r).2.2) := by
  intro f
  induction f with
  | zero =>
    intro r D P hr _ h _ g hg
    have hr0 : r < 2 := by omega
    rw [wlk_low _ _ _ _ hr0] at hg ⊢
    simp only at hg ⊢
    rw [wlk_low _ _ _ _ (by omega), Int.toNat_natCast]
  | succ f ih =>
    intro r D P hr hrn h hex g hg
    by_cases hr2 : r < 2
    · rw [wlk_low _ _ _ _ hr2] at hg ⊢
      simp only at hg ⊢
      rw [wlk_low _ _ _ _ (by omega), Int.toNat_natCast]
    · by_cases hp : P r > 0
      · rw [wlk_old _ _ _ _ hr2 hp] at hg ⊢
        simp only at hg ⊢
        obtain ⟨_, x, k, _, hk, hd, _⟩ := h.nodes hR.frst hp
        have hkl := (List.getElem?_eq_some_iff.1 hd).1
        obtain ⟨g, rfl⟩ : ∃ g', g = g' + 1 := ⟨g - 1, by omega⟩
        rw [wlk_old _ _ _ _ (by omega) (show (D, idN D.length).2 (P r).toNat > 0 by
          show idN D.length (P r).toNat > 0
          rw [idN_yes (by omega)]; omega)]
        simp only
        rw [idN_yes (by omega)]
        congr 2
        omega
      · obtain ⟨x, hx⟩ : ∃ x, N[r - 2]? = some x := ⟨_, List.getElem?_eq_getElem (by omega)⟩
        have h3 := hR.frst.low _ _ hx
        have h4 := hR.frst.high _ _ hx
        unfold RefB at h3 h4
        rw [wlk_new _ _ _ _ hr2 hp hx] at hex hg ⊢
        obtain ⟨_, R1⟩ := wlk_same hR.nodup hR.frst hR.diff f x.b.toNat D P (by omega) (by omega) h
        have I1 := ih x.b.toNat D P (by omega) (by omega) h
        generalize wlkN appN N f (D, P) x.b.toNat = A at *
        obtain ⟨D1, P1, r1⟩ := A
        obtain ⟨_, R2⟩ := wlk_same hR.nodup hR.frst hR.diff f x.c.toNat D1 P1 (by omega) (by omega) R1.inv
        have I2 := ih x.c.toNat D1 P1 (by omega) (by omega) R1.inv
        simp only at hex hg ⊢
        generalize wlkN appN N f (D1, P1) x.c.toNat = B at *
        obtain ⟨D2, P2, r2⟩ := B
        obtain ⟨t1, p1⟩ := R1.pre
        obtain ⟨t2, p2⟩ := R2.pre
        obtain ⟨t, ht⟩ := hex
        simp only [appN] at p1 p2 ht hg I1 I2 ⊢
        have hl1 : D.length ≤ D1.length := by rw [p1, List.length_append]; omega
        have hl2 : D1.length ≤ D2.length := by rw [p2, List.length_append]; omega
        have hm : Qd[D2.length]? = some ⟨x.a, r1, r2⟩ := by rw [ht, List.append_assoc, List.getElem?_append_right (Nat.le_refl _), Nat.sub_self]; rfl
        have f3 := hF.low _ _ hm
        have f4 := hF.high _ _ hm
        unfold RefB at f3 f4
        simp only at f3 f4
        have er : ((D2.length : Int) + 2).toNat = D2.length + 2 := by omega
        rw [er] at hg ⊢
        obtain ⟨g, rfl⟩ : ∃ g', g = g' + 1 := ⟨g - 1, by omega⟩
        rw [wlk_new _ _ _ _ (by omega) (show ¬ (D, idN D.length).2 (D2.length + 2) > 0 by
          show ¬ idN D.length (D2.length + 2) > 0
          rw [idN_no (by omega)]; omega) (show Qd[D2.length + 2 - 2]? = some ⟨x.a, r1, r2⟩ by rw [Nat.add_sub_cancel]; exact hm)]
        have J1 := I1 ⟨t2 ++ [⟨x.a, r1, r2⟩] ++ t, by rw [ht, p2]; simp⟩ g (by omega)
        have J2 := I2 ⟨[⟨x.a, r1, r2⟩] ++ t, by rw [ht]; simp⟩ g (by omega)
        simp only [appN]
        rw [J1]
        simp only
        rw [J2]
        simp only
        refine Prod.ext rfl (Prod.ext ?_ rfl)
        funext q
        simp only [List.length_append, List.length_cons, List.length_nil]
        by_cases hq : q = D2.length + 2
        · rw [if_pos hq, idN_yes (by omega), hq]; omega
        · rw [if_neg hq]
          by_cases hq2 : 2 ≤ q ∧ q < D2.length + 2
          · rw [idN_yes hq2, idN_yes (by omega)]
          · rw [idN_no hq2, idN_no (by omega)]
theorem idN_zero : idN 0 = fun _ => 0 := by
  funext q
  exact idN_no (by omega)
/-- the canonical nodes: sound, with the same inputs -/
theorem wk_lvl {n : Int} {N D : List I3} {P : Nms} (h : WkI N D P) (hF : Frst N) {b : Int} (hv : VisN P b) : lvlN n D (rvN P b) = lvlN n N b := by
  rw [rvN]
  split
  · rename_i h2
    rw [lvl_low h2, lvl_low h2]
  · rename_i h2
    obtain ⟨_, x, k, hx, hk, hd, _⟩ := h.nodes hF (hv.2 (by omega))
    rw [hk, lvl_node hd, show b = ((b.toNat - 2 : Nat) : Int) + 2 by omega, lvl_node hx]
theorem wk_snd {n : Int} {N D : List I3} {P : Nms} (h : WkI N D P) (hS : Snd n N) : Snd n D := by
  have hF := hS.redu.frst
  have H : ∀ (k : Nat) (y : I3), D[k]? = some y → ∃ x, x ∈ N ∧ y = ⟨x.a, rvN P x.b, rvN P x.c⟩ ∧ VisN P x.b ∧ VisN P x.c ∧ (0 ≤ x.a ∧ x.a < n ∧ x.a < lvlN n N x.b ∧ x.a < lvlN n N x.c) := fun k y hy => by
    obtain ⟨r, hr⟩ := h.from' k (List.getElem?_eq_some_iff.1 hy).1
    obtain ⟨_, x, j, hx, hj, hd, vb, vc, _⟩ := h.nodes hF (show P r > 0 by omega)
    have : k = j := by omega
    subst this
    rw [hy] at hd
    simp only [Option.some.injEq] at hd
    exact ⟨x, List.mem_of_getElem? hx, hd, vb, vc, hS.ord _ _ hx⟩
  refine ⟨⟨h.nodup, h.frst, fun y hy => ?_⟩, fun k y hy => ?_⟩
  · obtain ⟨k, hk⟩ := List.getElem?_of_mem hy
    obtain ⟨x, hx, rfl, vb, vc, _⟩ := H k y hk
    exact fun e => hS.redu.diff x hx (h.rinj hS.redu.nodup hF vb vc e)
  · obtain ⟨x, hx, rfl, vb, vc, o1, o2, o3, o4⟩ := H k y hy
    simp only
    rw [wk_lvl h hF vb, wk_lvl h hF vc]
    exact ⟨o1, o2, o3, o4⟩
theorem can_snd {n : Int} {N : List I3} (hS : Snd n N) {root : Int} (hr : RefB root N.length) : Snd n (canN mkN N root).1 ∧ RefB (canN mkN N root).2 (canN mkN N root).1.length ∧ lvlN n (canN mkN N root).1 (canN mkN N root).2 = lvlN n N root := by
  obtain ⟨P, h1, h2, h3⟩ := can_walk hS.redu hr
  refine ⟨wk_snd h1 hS, ?_, by rw [h2]; exact wk_lvl h1 hS.redu.frst h3⟩
  rw [h2, rvN]
  split
  · exact ⟨hr.1, by omega⟩
  · obtain ⟨_, x, k, _, hk, hd, _⟩ := h1.nodes hS.redu.frst (h3.2 (by omega))
    have := (List.getElem?_eq_some_iff.1 hd).1
    exact ⟨by omega, by omega⟩
theorem can_again {n : Int} {N : List I3} (hS : Snd n N) {root : Int} (hr : RefB root N.length) : canN mkN (canN mkN N root).1 (canN mkN N root).2 = canN mkN N root := by
  obtain ⟨hS2, hr2, _⟩ := can_snd hS hr
  rw [can_same hS2.redu hr2, can_same hS.redu hr]
  rw [can_same hS.redu hr] at hS2 hr2
  have h := wlk_again hS.redu hS2.redu.frst root.toNat root.toNat [] (fun _ => 0) (Nat.le_refl _) (by unfold RefB at hr; omega) (WkI.start N) ⟨[], by rw [List.append_nil]; rfl⟩ (canN appN N root).2.toNat (Nat.le_refl _)
  rw [List.length_nil, idN_zero] at h
  have h' : wlkN appN (canN appN N root).1 (canN appN N root).2.toNat ([], fun _ => 0) (canN appN N root).2.toNat = ((canN appN N root).1, idN (canN appN N root).1.length, (canN appN N root).2) := h
  have e : canN appN (canN appN N root).1 (canN appN N root).2 = ((wlkN appN (canN appN N root).1 (canN appN N root).2.toNat ([], fun _ => 0) (canN appN N root).2.toNat).1, (wlkN appN (canN appN N root).1 (canN appN N root).2.toNat ([], fun _ => 0) (canN appN N root).2.toNat).2.2) := rfl
  rw [e, h']
/-- a canonical diagram is valid -/
theorem can_dia {n : Int} {N : List I3} (hS : Snd n N) {root : Int} (hr : RefB root N.length) (h0 : 0 ≤ n) (hn : n ≤ 20) (hl : (canN mkN N root).1.length ≤ 2000) : diaB n (canN mkN N root).1 (canN mkN N root).2 = true := by
  obtain ⟨hS2, hr2, _⟩ := can_snd hS hr
  rw [diaB, can_again hS hr, Bool.and_eq_true, Bool.and_eq_true]
  obtain ⟨⟨D, r⟩, hE⟩ : ∃ E, canN mkN N root = E := ⟨_, rfl⟩
  rw [hE] at hS2 hr2 hl ⊢
  simp only at hS2 hr2 hl ⊢
  refine ⟨⟨?_, ?_⟩, by simp⟩
  · rw [dia0, Bool.and_eq_true, Bool.and_eq_true, inB, inB, Bool.and_eq_true, Bool.and_eq_true]
    simp only [decide_eq_true_eq]
    exact ⟨⟨⟨h0, hn⟩, hl⟩, hr2.1, by have := hr2.2; omega⟩
  · rw [upB, List.all_eq_true]
    intro i hi
    have hi' := List.mem_range.1 hi
    have hx := List.getElem?_eq_getElem hi'
    rw [ndB_iff hx]
    obtain ⟨o1, o2, o3, o4⟩ := hS2.ord _ _ hx
    have f3 := hS2.redu.frst.low _ _ hx
    have f4 := hS2.redu.frst.high _ _ hx
    exact ⟨⟨o1, by omega⟩, ⟨f3.1, by have := f3.2; omega⟩, ⟨f4.1, by have := f4.2; omega⟩, hS2.redu.diff _ (List.getElem_mem hi'), o3, o4⟩
/-- different numbers below n are at most n -/
theorem nodup_lt : ∀ (n : Nat) (S : List Nat), S.Nodup → (∀ s ∈ S, s < n) → S.length ≤ n := by
  intro n
  induction n with
  | zero =>
    intro S _ h
    cases S with
    | nil => exact Nat.le_refl _
    | cons x r => have := h x (List.mem_cons_self ..); omega
  | succ n ih =>
    intro S hn h
    by_cases hm : n ∈ S
    · have h1 := ih (S.erase n) (hn.erase n) fun s hs => by
        have h2 := (List.Nodup.mem_erase_iff hn).1 hs
        have := h s h2.2
        have := h2.1
        omega
      rw [List.length_erase_of_mem hm] at h1
      omega
    · have := ih S hn fun s hs => by
        have := h s hs
        have : s ≠ n := fun e => hm (e ▸ hs)
        omega
      omega
/-- no more canonical nodes than nodes -/
theorem can_length {N : List I3} (hR : Redu N) {root : Int} (hr : RefB root N.length) : (canN mkN N root).1.length ≤ N.length := by
  obtain ⟨P, h1, h2, h3⟩ := can_walk hR hr
  generalize (canN mkN N root).1 = D at *
  -- each new node comes from another old one
  have hch : ∀ k, k < D.length → ∃ r : Nat, P r = (k : Int) + 2 ∧ 2 ≤ r ∧ r - 2 < N.length := fun k hk => by
    obtain ⟨r, hr⟩ := h1.from' k hk
    obtain ⟨g, x, _, hx, _⟩ := h1.nodes hR.frst (show P r > 0 by omega)
    exact ⟨r, hr, g, (List.getElem?_eq_some_iff.1 hx).1⟩
  have key : ∀ m, m ≤ D.length → ∃ S : List Nat, S.length = m ∧ S.Nodup ∧ ∀ s ∈ S, s < N.length ∧ ∃ k, k < m ∧ P (s + 2) = (k : Int) + 2 := by
    intro m
    induction m with
    | zero => intro _; exact ⟨[], rfl, List.nodup_nil, fun s h => by cases h⟩
    | succ m ih =>
      intro hm
      obtain ⟨S, h1, h2, h3⟩ := ih (by omega)
      obtain ⟨r, hr, g, hl⟩ := hch m (by omega)
      refine ⟨(r - 2) :: S, by simp [h1], ?_, fun s hs => ?_⟩
      · rw [List.nodup_cons]
        refine ⟨fun hin => ?_, h2⟩
        obtain ⟨_, k, hk, hP⟩ := h3 _ hin
        rw [show r - 2 + 2 = r by omega, hr] at hP
        omega
      · rcases List.mem_cons.1 hs with rfl | hs
        · exact ⟨hl, m, by omega, by rw [show r - 2 + 2 = r by omega]; exact hr⟩
        · obtain ⟨g1, k, g2, g3⟩ := h3 s hs
          exact ⟨g1, k, by omega, g3⟩
  obtain ⟨S, s1, s2, s3⟩ := key D.length (Nat.le_refl _)
  have hsub := nodup_lt N.length S s2 fun s hs => (s3 s hs).1
  rw [s1] at hsub
  exact hsub
end Go.Proofs.YtkaikbaagajckaaGreat
namespace Go.Proofs.YtkaikbaagajckaaGreat
open Go.RowKit
set_option linter.unusedVariables false
set_option linter.unusedSimpArgs false
/-- one node of a diagram in which an input is fixed -/
def fxS (inp bit : Int) (s : List I3 × List Int) (x : I3) : List I3 × List Int :=
  if x.a ≠ inp then ((mkN s.1 x.a (s.2.getD x.b.toNat 0) (s.2.getD x.c.toNat 0)).1, s.2 ++ [(mkN s.1 x.a (s.2.getD x.b.toNat 0) (s.2.getD x.c.toNat 0)).2])
  else (s.1, s.2 ++ [if bit = 0 then s.2.getD x.b.toNat 0 else s.2.getD x.c.toNat 0])
def fxN (inp bit : Int) (N : List I3) : List I3 × List Int := N.foldl (fxS inp bit) ([], [0, 1])
structure FxI (n : Int) (inp : Nat) (bit : Int) (N : List I3) (k : Nat) (s : List I3 × List Int) : Prop where
  snd : Snd n s.1
  len : s.2.length = k + 2
  few : s.1.length ≤ k
  low : s.2[0]? = some 0 ∧ s.2[1]? = some 1
  at' : ∀ (r : Nat) (q : Int), s.2[r]? = some q → RefB q s.1.length ∧ lvlN n N (r : Int) ≤ lvlN n s.1 q ∧ ∀ β, evR s.1 β q = evR N (fixB β inp (decide (bit ≠ 0))) (r : Int)
theorem FxI.start {n : Int} {inp : Nat} {bit : Int} {N : List I3} : FxI n inp bit N 0 ([], [0, 1]) := by
  refine ⟨Snd.nil n, rfl, Nat.le_refl _, ⟨rfl, rfl⟩, fun r q h => ?_⟩
  have hr : r = 0 ∨ r = 1 := by
    have := (List.getElem?_eq_some_iff.1 h).1
    simp at this; omega
  rcases hr with rfl | rfl
  · simp at h; subst h
    exact ⟨⟨by omega, by simp⟩, by rw [lvl_low (by omega), lvl_low (by omega)]; exact Int.le_refl _, fun β => by rw [ev_low (by omega), ev_low (by omega)]; rfl⟩
  · simp at h; subst h
    exact ⟨⟨by omega, by simp⟩, by rw [lvl_low (by omega), lvl_low (by omega)]; exact Int.le_refl _, fun β => by rw [ev_low (by omega), ev_low (by omega)]; rfl⟩
theorem FxI.step {n : Int} {inp : Nat} {bit : Int} {N : List I3} {k : Nat} {s : List I3 × List Int} (hN : Snd n N) (h : FxI n inp bit N k s) {x : I3} (hx : N[k]? = some x) : FxI n inp bit N (k + 1) (fxS inp bit s x) := by
  obtain ⟨o1, o2, o3, o4⟩ := hN.ord _ _ hx
  have hF := hN.redu.frst
  have f3 := hF.low _ _ hx
  have f4 := hF.high _ _ hx
  have f3' := f3.1
  have f3'' := f3.2
  have f4' := f4.1
  have f4'' := f4.2
  have hl := h.len
  obtain ⟨lo, hlo⟩ : ∃ lo, s.2[x.b.toNat]? = some lo := ⟨_, List.getElem?_eq_getElem (by omega)⟩
  obtain ⟨hi, hhi⟩ : ∃ hi, s.2[x.c.toNat]? = some hi := ⟨_, List.getElem?_eq_getElem (by omega)⟩
  have e1 : s.2.getD x.b.toNat 0 = lo := by rw [List.getD_eq_getElem?_getD, hlo]; rfl
  have e2 : s.2.getD x.c.toNat 0 = hi := by rw [List.getD_eq_getElem?_getD, hhi]; rfl
  obtain ⟨b1, b2, b3⟩ := h.at' _ _ hlo
  obtain ⟨c1, c2, c3⟩ := h.at' _ _ hhi
  have hb0 : (x.b.toNat : Int) = x.b := by omega
  have hc0 : (x.c.toNat : Int) = x.c := by omega
  rw [hb0] at b2 b3
  rw [hc0] at c2 c3
  have hLF := h.snd.redu.frst
  rw [fxS, e1, e2]
  by_cases hi2 : x.a = (inp : Int)
  · rw [if_neg (by simpa using hi2)]
    have hev : ∀ β, evR N (fixB β inp (decide (bit ≠ 0))) ((k : Int) + 2) = evR s.1 β (if bit = 0 then lo else hi) := fun β => by
      rw [ev_node hF hx, hi2, Int.toNat_natCast, fixB, if_pos rfl]
      by_cases hb : bit = 0
      · rw [if_pos hb, if_neg (by simpa using hb), b3]
      · rw [if_neg hb, if_pos (by simpa using hb), c3]
    refine ⟨h.snd, by rw [List.length_append, hl]; rfl, Nat.le_succ_of_le h.few, ?_, fun r q hq => ?_⟩
    · rw [List.getElem?_append_left (by omega), List.getElem?_append_left (by omega)]; exact h.low
    · simp only at hq ⊢
      by_cases hr : r < k + 2
      · rw [List.getElem?_append_left (by omega)] at hq
        exact h.at' r q hq
      · have hr2 : r = k + 2 := by
          have := (List.getElem?_eq_some_iff.1 hq).1
          simp at this; omega
        subst hr2
        rw [List.getElem?_append_right (by omega), hl, Nat.sub_self] at hq
        simp at hq
        rw [show ((k + 2 : Nat) : Int) = (k : Int) + 2 by omega, lvl_node hx]
        subst hq
        refine ⟨?_, ?_, fun β => (hev β).symm⟩
        · split
          · exact b1
          · exact c1
        · split <;> omega
  · rw [if_pos hi2]
    have l1 : x.a < lvlN n s.1 lo := by omega
    have l2 : x.a < lvlN n s.1 hi := by omega
    have hS := h.snd.add b1 c1 o1 o2 l1 l2
    have hO := h.snd.ord.add hLF b1 c1 o1 o2 l1 l2
    have hR := (hLF.add (i := x.a) b1 c1).2
    obtain ⟨t, ht, ht1⟩ := mkN_pre s.1 x.a lo hi
    have hn : ¬ x.a.toNat = inp := fun e => hi2 (by omega)
    refine ⟨hS, by simp only [List.length_append, hl, List.length_cons, List.length_nil], by simp only [ht, List.length_append]; have := h.few; omega, ?_, fun r q hq => ?_⟩
    · simp only
      rw [List.getElem?_append_left (by omega), List.getElem?_append_left (by omega)]; exact h.low
    · simp only at hq ⊢
      by_cases hr : r < k + 2
      · rw [List.getElem?_append_left (by omega)] at hq
        obtain ⟨m1, m2, m3⟩ := h.at' r q hq
        refine ⟨?_, ?_, fun β => ?_⟩
        · rw [ht, List.length_append]; exact m1.mono (by omega)
        · rw [ht, lvl_app m1]; exact m2
        · rw [ev_keep hLF m1]; exact m3 β
      · have hr2 : r = k + 2 := by
          have := (List.getElem?_eq_some_iff.1 hq).1
          simp at this; omega
        subst hr2
        rw [List.getElem?_append_right (by omega), hl, Nat.sub_self] at hq
        simp at hq
        subst hq
        rw [show ((k + 2 : Nat) : Int) = (k : Int) + 2 by omega, lvl_node hx]
        refine ⟨hR, hO.2, fun β => ?_⟩
        rw [ev_mk hLF b1 c1, ev_node hF hx, fixB, if_neg hn]
        by_cases hb : β x.a.toNat = true
        · rw [if_pos hb, if_pos hb, c3]
        · rw [if_neg hb, if_neg hb, b3]
theorem fx_inv {n : Int} {inp : Nat} {bit : Int} {N : List I3} (hN : Snd n N) : FxI n inp bit N N.length (fxN inp bit N) := by
  have key : ∀ k, k ≤ N.length → FxI n inp bit N k ((N.take k).foldl (fxS inp bit) ([], [0, 1])) := by
    intro k
    induction k with
    | zero => intro _; exact FxI.start
    | succ k ih =>
      intro hk
      have hx := List.getElem?_eq_getElem (show k < N.length by omega)
      have := (ih (by omega)).step hN hx
      rw [take_at hx, List.foldl_append]
      exact this
  have := key N.length (Nat.le_refl _)
  rw [List.take_length] at this
  exact this
/-! ### counting -/
theorem fix_comm (β : Nat → Bool) {i j : Nat} (h : i ≠ j) (c d : Bool) : fixB (fixB β i c) j d = fixB (fixB β j d) i c := by
  funext q
  simp only [fixB]
  by_cases h1 : q = i
  · subst h1
    simp [h]
  · simp [h1]
theorem bit_fix (off : Nat) (b : Int) (t : List Int) : bitF off (b :: t) = fixB (bitF (off + 1) t) off (b == 1) := by
  funext q
  rw [fixB]
  by_cases h : q = off
  · rw [if_pos h, h, bitF_at]
  · rw [if_neg h]
    by_cases h2 : off + 1 ≤ q
    · exact bitF_next off b t h2
    · rw [bitF, bitF, decide_eq_false (show ¬ off ≤ q by omega), decide_eq_false h2]; rfl
theorem fix_fix (β : Nat → Bool) (i : Nat) (c d : Bool) : fixB (fixB β i c) i d = fixB β i d := by
  funext q
  simp only [fixB]
  split <;> rfl
def cntB (k off : Nat) (p : (Nat → Bool) → Bool) : Nat := (allB k).countP fun s => p (bitF off s)
theorem cntB_succ (k off : Nat) (p : (Nat → Bool) → Bool) : cntB (k + 1) off p = cntB k (off + 1) (fun β => p (fixB β off false)) + cntB k (off + 1) (fun β => p (fixB β off true)) := by
  rw [cntB, allB, List.countP_append, List.countP_map, List.countP_map, cntB, cntB]
  congr 2
  · funext s
    show p (bitF off (0 :: s)) = _
    rw [bit_fix]; rfl
  · funext s
    show p (bitF off (1 :: s)) = _
    rw [bit_fix]; rfl
theorem cnt_halves : ∀ (k off : Nat) (p : (Nat → Bool) → Bool) (i : Nat), off ≤ i → i < off + k → cntB k off (fun β => p (fixB β i false)) + cntB k off (fun β => p (fixB β i true)) = 2 * cntB k off p := by
  intro k
  induction k with
  | zero => intro off p i h1 h2; omega
  | succ k ih =>
    intro off p i h1 h2
    have A : ∀ d : Bool, cntB (k + 1) off (fun β => p (fixB β i d)) = cntB k (off + 1) (fun β => p (fixB (fixB β off false) i d)) + cntB k (off + 1) (fun β => p (fixB (fixB β off true) i d)) := fun d => cntB_succ k off _
    rw [A false, A true, cntB_succ k off p]
    by_cases he : i = off
    · subst he
      have e : ∀ c d : Bool, (fun β => p (fixB (fixB β i c) i d)) = fun β => p (fixB β i d) := fun c d => by
        funext β; rw [fix_fix]
      rw [e, e, e, e]
      omega
    · have e : ∀ c d : Bool, (fun β => p (fixB (fixB β off c) i d)) = fun β => p (fixB (fixB β i d) off c) := fun c d => by
        funext β; rw [fix_comm β (fun h => he h.symm)]
      rw [e, e, e, e]
      have q1 : cntB k (off + 1) (fun β => p (fixB (fixB β i false) off false)) + cntB k (off + 1) (fun β => p (fixB (fixB β i true) off false)) = 2 * cntB k (off + 1) (fun β => p (fixB β off false)) := ih (off + 1) (fun γ => p (fixB γ off false)) i (by omega) (by omega)
      have q2 : cntB k (off + 1) (fun β => p (fixB (fixB β i false) off true)) + cntB k (off + 1) (fun β => p (fixB (fixB β i true) off true)) = 2 * cntB k (off + 1) (fun β => p (fixB β off true)) := ih (off + 1) (fun γ => p (fixB γ off true)) i (by omega) (by omega)
      omega
/-- for how many lists of bits a diagram has the value 1 -/
def onesN (n : Int) (L : List I3) (root : Int) : Nat := cntR n L root * 2 ^ (lvlN n L root).toNat
theorem lvl_pos {n : Int} {L : List I3} (hO : OrdN n L) (hn : 0 ≤ n) {r : Int} (hr : RefB r L.length) : 0 ≤ lvlN n L r := by
  by_cases h2 : r < 2
  · rw [lvl_low h2]; exact hn
  · obtain ⟨k, rfl⟩ : ∃ k : Nat, r = (k : Int) + 2 := ⟨(r - 2).toNat, by omega⟩
    have hlt : k < L.length := by have := hr.2; omega
    have hx := List.getElem?_eq_getElem hlt
    rw [lvl_node hx]; exact (hO _ _ hx).1
theorem ones_ls {n : Nat} {L : List I3} (h : Snd (n : Int) L) {root : Int} (hr : RefB root L.length) : onesN (n : Int) L root = (lsN (n : Int) L n root).length := by
  have := cnt_ls h.redu.frst h.ord n root (Nat.le_refl _) hr (by rw [Nat.sub_self]; exact lvl_pos h.ord (by omega) hr)
  rw [this, onesN, Nat.sub_self, show lvlN (n : Int) L root - ((0 : Nat) : Int) = lvlN (n : Int) L root by omega]
theorem ones_cnt {n : Nat} {L : List I3} (h : Snd (n : Int) L) {root : Int} (hr : RefB root L.length) : onesN (n : Int) L root = cntB n 0 (fun β => evR L β root) := by
  rw [ones_ls h hr, ls_filter h.redu.frst h.ord n root (Nat.le_refl _) hr (by rw [Nat.sub_self]; exact lvl_pos h.ord (by omega) hr), cntB, ← List.countP_eq_length_filter, Nat.sub_self]
theorem allB_cnt_le (k off : Nat) (p : (Nat → Bool) → Bool) : cntB k off p ≤ 2 ^ k := by
  rw [cntB, ← allB_len k]; exact List.countP_le_length
/-- a reference other than 0 has the value 1 somewhere -/
theorem cnt_pos {n : Int} {L : List I3} (h : Snd n L) : ∀ (m : Nat) (r : Int), r.toNat ≤ m → RefB r L.length → r ≠ 0 → 0 < cntR n L r := by
  intro m
  induction m with
  | zero => intro r hm hr h0; have := hr.1; omega
  | succ m ih =>
    intro r hm hr h0
    by_cases h2 : r < 2
    · rw [cnt_low h2, if_neg h0]; decide
    · obtain ⟨k, rfl⟩ : ∃ k : Nat, r = (k : Int) + 2 := ⟨(r - 2).toNat, by omega⟩
      have hlt : k < L.length := by have := hr.2; omega
      obtain ⟨x, hx⟩ : ∃ x, L[k]? = some x := ⟨_, List.getElem?_eq_getElem hlt⟩
      have f3 := h.redu.frst.low _ _ hx
      have f4 := h.redu.frst.high _ _ hx
      have f3' := f3.2
      have f4' := f4.2
      have hd := h.redu.diff x (List.mem_of_getElem? hx)
      rw [cnt_node h.redu.frst hx]
      by_cases hb : x.b = 0
      · have := ih x.c (by omega) (f4.mono (Nat.le_of_lt hlt)) (fun e => hd (by omega))
        exact Nat.lt_of_lt_of_le (Nat.mul_pos this (Nat.two_pow_pos _)) (Nat.le_add_left _ _)
      · have := ih x.b (by omega) (f3.mono (Nat.le_of_lt hlt)) hb
        exact Nat.lt_of_lt_of_le (Nat.mul_pos this (Nat.two_pow_pos _)) (Nat.le_add_right _ _)
theorem ones_zero {n : Int} {L : List I3} (h : Snd n L) {root : Int} (hr : RefB root L.length) : onesN n L root = 0 ↔ root = 0 := by
  constructor
  · intro h0
    by_cases e : root = 0
    · exact e
    · have := cnt_pos h _ root (Nat.le_refl _) hr e
      have := Nat.mul_pos this (Nat.two_pow_pos (lvlN n L root).toNat)
      rw [onesN] at h0
      omega
  · rintro rfl
    rw [onesN, cnt_low (by omega), if_pos rfl, Nat.zero_mul]
end Go.Proofs.YtkaikbaagajckaaGreat
namespace Go.Proofs.YtkaikbaagajckaaGreat
open Go.RowKit
set_option linter.unusedVariables false
set_option linter.unusedSimpArgs false
theorem spec_l01In {x lo hi : Int} {w : World} : Calls Tryz.prog 117 #[.int .i64 x, .int .i64 lo, .int .i64 hi] w fun e w' => e = .returned (.bool (inB x lo hi)) ∧ w = w' := by
  go_enter Tryz.func117, Tryz.ntmps117
  go_wp2
  all_goals
    go_ret
    exact ⟨ret_bool (by simp [inB]; omega), rfl⟩
theorem impl_within {x lo hi : Int} {w : World} : Calls Tryz.prog 89 #[.int .i64 x, .int .i64 lo, .int .i64 hi] w fun e w' => e = .returned (.bool (inB x lo hi)) ∧ w = w' := by
  go_enter Tryz.func89, Tryz.ntmps89
  go_wp2
  all_goals
    go_ret
    exact ⟨ret_bool (by simp [inB]; omega), rfl⟩
theorem impl_length_i64 {a : Option Addr} {n c : Nat} {w : World} : Calls Tryz.prog 123 #[.slice a n c] w fun e w' => e = .returned (.int .i64 n) ∧ w = w' := by
  go_enter Tryz.func123, Tryz.ntmps123
  go_wp2
  go_ret
  exact ⟨rfl, rfl⟩
end Go.Proofs.YtkaikbaagajckaaGreat
namespace Go.Proofs.YtkaikbaagajckaaGreat
open Go.RowKit
set_option linter.unusedVariables false
set_option linter.unusedSimpArgs false
theorem Tryz.infoi64 : (Tryz.prog.info? 2).map (fun i => (i.zero, i.size, i.bytes)) = some (some (.int .i64 0), 1, 8) := by kernel_rfl
set_option maxHeartbeats 1000000 in
theorem laws_toInt64S {a : Option Addr} {n c : Nat} {l : List Int} {w : World} (hI : Ints w a n c l) (hn : n ≤ 1048576) :
    Calls Tryz.prog 50 #[.slice a n c] w fun e w' => e = .returned (.slice (some ⟨w.heap.size, 0, none⟩) n n) ∧ Below w.heap.size w w' ∧ OwnI 2 w' w.heap.size (some ⟨w.heap.size, 0, none⟩) n n l := by
  obtain ⟨i0, hi, hz0, hz1, hz2⟩ := info_parts Tryz.infoi64
  obtain ⟨w1, hmk, hown, hgr⟩ := run_make_full (P := Tryz.prog) w w.heap.size 22 2 i0 (.int .i64 0) 1 Tryz.underlying22 hi hz0 hz1 .i64 .i64 n (by rw [hz2]; omega) (by unfold maxLen; omega) (Nat.le_refl _)
  have hb1 : Below w.heap.size w w1 := (Below.refl _ _).grown hgr (Nat.le_refl _) (fun k h => by cases h)
  have ho : OwnI 2 w1 w.heap.size (some ⟨w.heap.size, 0, none⟩) n n (l.take 0 ++ List.replicate (n - 0) 0) := by
    refine ⟨?_, fun x hx => ?_⟩
    · have : (madeCells (Value.cells (.int .i64 0)) (n * 1)).toList = (l.take 0 ++ List.replicate (n - 0) 0).map (Value.int .i64) := by
        rw [Nat.mul_one, show Value.cells (.int .i64 0) = #[.int .i64 0] from rfl, toList_madeCells_one]; simp
      rw [this] at hown; exact hown
    · simp at hx; rw [hx.2]; exact ⟨by omega, by omega⟩
  have HI := Lib.hid hI
  have HO := Lib.hid ho
  clear hI ho hown hgr hi hz0 hz1 hz2
  go_enter Tryz.func50, Tryz.ntmps50
  go_wp2
  clear hmk
  go_loopw [4] (fun i wr => ∃ k : Nat, k ≤ n ∧ i = .int .i64 k ∧ Below w.heap.size w wr ∧ Hid (OwnI 2 wr w.heap.size (some ⟨w.heap.size, 0, none⟩) n n (l.take k ++ List.replicate (n - k) 0))) (fun i _ => n - (intOf i).toNat)
  case atStart => exact ⟨0, Nat.zero_le _, rfl, hb1, HO.out⟩
  case round =>
    obtain ⟨k, hk, rfl, hbl, hO⟩ := hrel
    by_cases hlt : k < n
    · obtain ⟨b, off, x, rfl, hb, hx, hcell, hwf⟩ := (HI.out.keep hbl).at hlt
      have Hx := Lib.hid hx
      obtain ⟨y, _, _, hcy⟩ := hO.out.cell hlt
      have hfz := hO.out.free k
      have hne : b ≠ w.heap.size := by
        have := HI.out.pos
        rcases this with h0 | ⟨b', off', he, hb', _⟩
        · omega
        · simp at he; omega
      clear hx
      go_wp2
      go_roundw
      case rel => exact ⟨k + 1, by omega, by go_num, hbl.setCell (by simp) _, by have := hO.out.set k hwf; rw [set_fill Hx.out n HI.out.len] at this; exact this⟩
      case measure => simp [intOf]; omega
    · go_wp2
      go_ret
      have e : k = n := by omega
      have h1 := hO.out
      rw [e, take_len HI.out.len, Nat.sub_self, List.replicate_zero, List.append_nil] at h1
      exact ⟨rfl, hbl, h1⟩
set_option maxHeartbeats 1000000 in
theorem laws_eqInt64S {a a' : Option Addr} {n c n' c' : Nat} {l l' : List Int} {w : World} (hI : Ints w a n c l) (hI' : Ints w a' n' c' l') (hn : n ≤ 1048576) (hn' : n' ≤ 1048576) :
    Calls Tryz.prog 54 #[.slice a n c, .slice a' n' c'] w fun e w' => e = .returned (.bool (decide (l = l'))) ∧ Below w.heap.size w w' := by
  have HI := Lib.hid hI
  have HI' := Lib.hid hI'
  clear hI hI'
  by_cases hnn : n = n'
  · subst hnn
    have hq : ((n : Int) != (n : Int)) = false := by simp
    go_enter Tryz.func54, Tryz.ntmps54
    go_wp2
    go_loopw [5] (fun i wr => ∃ k : Nat, k ≤ n ∧ i = .int .i64 k ∧ Below w.heap.size w wr ∧ Hid (l.take k = l'.take k)) (fun i _ => n - (intOf i).toNat)
    case atStart => exact ⟨0, Nat.zero_le _, rfl, Below.refl _ _, rfl⟩
    case round =>
      obtain ⟨k, hk, rfl, hbl, hO⟩ := hrel
      by_cases hlt : k < n
      · obtain ⟨b, off, x, rfl, hb, hx, hcell, hwf⟩ := (HI.out.keep hbl).at hlt
        obtain ⟨b', off', x', rfl, hb', hx', hcell', hwf'⟩ := (HI'.out.keep hbl).at hlt
        have Hx := Lib.hid hx
        have Hx' := Lib.hid hx'
        clear hx hx'
        have hlt' : (k : Int) < (n : Int) := by omega
        have hpos : (0 : Int) ≤ (k : Int) := by omega
        by_cases hxx : x = x'
        · have hd : (x != x') = false := by simp [hxx]
          have Hxx := Lib.hid hxx
          clear hxx
          go_wp2
          go_quiet (fail)
          go_wp2
          go_roundw
          case rel => exact ⟨k + 1, by omega, by go_num, below_drewN hbl _, by show _ = _; rw [take_at Hx.out, take_at Hx'.out, hO.out, Hxx.out]⟩
          case measure => simp [intOf]; omega
        · have hd : (x != x') = true := by simp [hxx]
          go_wp2
          go_quiet (fail)
          go_wp2
          go_ret
          refine ⟨ret_bool ?_, below_drewN hbl _⟩
          have : l ≠ l' := fun h => hxx (by have h1 := Hx.out; have h2 := Hx'.out; rw [h, h2] at h1; simpa using h1.symm)
          simp [this]
      · go_wp2
        go_ret
        have e : k = n := by omega
        have h1 := hO.out
        rw [e, take_len HI.out.len, take_len HI'.out.len] at h1
        exact ⟨ret_bool (by simp [h1]), hbl⟩
  · have hq : ((n : Int) != (n' : Int)) = true := by simp; omega
    have hne : l ≠ l' := fun h => hnn (by rw [← HI.out.len, ← HI'.out.len, h])
    have Hne := Lib.hid hne
    clear hne
    go_enter Tryz.func54, Tryz.ntmps54
    go_wp2
    go_ret
    exact ⟨ret_bool (by simp [Hne.out]), Below.refl _ _⟩
set_option maxHeartbeats 1000000 in
theorem laws_markInt64S {a : Option Addr} {n c base : Nat} {l : List Int} {q : Int} {w : World} (hI : OwnI 2 w base a n c l) (hn : n ≤ 1048576) (hq0 : 0 ≤ q) (hq1 : q ≤ 1099511627776) :
    Calls Tryz.prog 57 #[.slice a n c, .int .i64 q] w fun e w' => e = .returned (.int .i64 (q + n)) ∧ Touch w w' n a ∧ OwnI 2 w' base a n c (marksI q n) := by
  by_cases hn0 : n = 0
  · subst hn0
    have HI := Lib.hid hI
    have hl : l = marksI q 0 := by have := hI.len; cases l with | nil => rfl | cons => simp at this
    subst hl
    clear hI
    go_enter Tryz.func57, Tryz.ntmps57
    go_wp2
    go_loopw [1, 5] (fun s1 s5 wr => s1 = .int .i64 q ∧ s5 = .int .i64 0 ∧ wr = w) (fun _ _ _ => 0)
    case atStart => exact ⟨rfl, rfl, rfl⟩
    case round =>
      obtain ⟨rfl, rfl, rfl⟩ := hrel
      go_wp2
      go_ret
      exact ⟨ret_int (by omega), ⟨none, grownBy_refl _ _, fun _ h => by cases h⟩, HI.out⟩
  · obtain ⟨g, rfl⟩ := hI.shape (by omega)
    have HI := Lib.hid (show OwnI 2 w base (some ⟨g, 0, none⟩) n c ((marksI q n).take 0 ++ l.drop 0) by simpa using hI)
    have hlen := hI.len
    have Hlen := Lib.hid hlen
    clear hI hlen
    go_enter Tryz.func57, Tryz.ntmps57
    go_wp2
    go_loopw [1, 5] (fun s1 s5 wr => ∃ j : Nat, j ≤ n ∧ s1 = .int .i64 (q + j) ∧ s5 = .int .i64 j ∧ w.grownBy wr (some g) ∧ Hid (OwnI 2 wr base (some ⟨g, 0, none⟩) n c ((marksI q n).take j ++ l.drop j))) (fun _ s5 _ => n - (intOf s5).toNat)
    case atStart => exact ⟨0, Nat.zero_le _, by simp, rfl, grownBy_refl _ _, HI.out⟩
    case round =>
      obtain ⟨j, hj, rfl, rfl, hg, hO⟩ := hrel
      by_cases hlt : j < n
      · obtain ⟨y, _, _, hc0⟩ := hO.out.cell hlt
        have hfz := hO.out.free
        go_wp2
        go_roundw
        case rel =>
          refine ⟨j + 1, by omega, by go_num, by go_num, ?_, ?_⟩
          · repeat (first | exact hg | refine grownBy_set ?_ _ _)
          · have := hO.out.set j (x := q + (j : Int)) ⟨by omega, by omega⟩
            rw [show q + (j : Int) = (fun i : Nat => q + (i : Int)) j from rfl, marksI, mix_set hlt Hlen.out] at this
            exact this
        case measure => simp [intOf]; omega
      · go_wp2
        go_ret
        have e : j = n := by omega
        have h1 := hO.out
        rw [e, List.drop_of_length_le (by have := Hlen.out; omega), List.append_nil, List.take_of_length_le (by simp [marksI])] at h1
        exact ⟨ret_int (by rw [e]), ⟨_, hg, fun b hb => by cases hb; exact ⟨by omega, rfl⟩⟩, h1⟩
set_option maxHeartbeats 1000000 in
theorem laws_heldInt64S {a : Option Addr} {n c : Nat} {q : Int} {w : World} (hI : Ints w a n c (marksI q n)) (hn : n ≤ 1048576) (hq0 : 0 ≤ q) (hq1 : q ≤ 1099511627776) :
    Calls Tryz.prog 60 #[.slice a n c, .int .i64 q] w fun e w' => e = .returned (.int .i64 (q + n)) ∧ w = w' := by
  have HI := Lib.hid hI
  clear hI
  go_enter Tryz.func60, Tryz.ntmps60
  go_wp2
  go_loop [1, 5] (fun s1 s5 => ∃ j : Nat, j ≤ n ∧ s1 = .int .i64 (q + j) ∧ s5 = .int .i64 j) (fun _ s5 => n - (intOf s5).toNat)
  case atStart => exact ⟨0, Nat.zero_le _, by simp, rfl⟩
  case round =>
    obtain ⟨j, hj, rfl, rfl⟩ := hrel
    by_cases hlt : j < n
    · obtain ⟨b, off, x, rfl, hb, hx, hcell, hwf⟩ := HI.out.at hlt
      rw [marksI, range_get hlt] at hx
      simp only [Option.some.injEq] at hx
      subst hx
      go_wp2
      go_round
      case rel => exact ⟨j + 1, by omega, by go_num, by go_num⟩
      case measure => simp [intOf]; omega
    · go_wp2
      go_ret
      have e : j = n := by omega
      exact ⟨ret_int (by rw [e]), rfl⟩
theorem laws_toInt64S_g {a : Option Addr} {n c : Nat} {l : List Int} {w : World} (hI : Ints w a n c l) (hn : n ≤ 1048576) :
    Calls Tryz.prog 50 #[.slice a n c] w fun e w' => ∃ g, e = .returned (.slice (some ⟨g, 0, none⟩) n n) ∧ Below w.heap.size w w' ∧ OwnI 2 w' w.heap.size (some ⟨g, 0, none⟩) n n l :=
  Calls.mono (laws_toInt64S hI hn) fun e w' ⟨h1, h2, h3⟩ => ⟨_, h1, h2, h3⟩
end Go.Proofs.YtkaikbaagajckaaGreat
namespace Go.Proofs.YtkaikbaagajckaaGreat
open Go.RowKit
set_option linter.unusedVariables false
set_option linter.unusedSimpArgs false

/-- what a function value g bound to lb answers at an int64 -/
def PredI (P : Program) (g : Nat) (lb : Array Value) (p : Int → Bool) (w : World) : Prop :=
  ∀ (W : World) (x : Int), I64 x → Below w.heap.size w W → Calls P g (#[.int .i64 x] ++ lb) W fun e w' => e = .returned (.bool (p x)) ∧ Below W.heap.size W w'
theorem PredI.later {P : Program} {g : Nat} {lb : Array Value} {p : Int → Bool} {w w' : World} (h : PredI P g lb p w) (hb : Below w.heap.size w w') : PredI P g lb p w' :=
  fun W x hx h' => h W x hx (below_call hb h' hb.size)
/-- the place of the first element at which p holds, or -1 -/
def idxF {α : Type} (p : α → Bool) : List α → Int
  | [] => -1
  | x :: r => if p x then 0 else (if idxF p r < 0 then -1 else idxF p r + 1)
theorem idxF_nonneg {α : Type} (p : α → Bool) (l : List α) : decide (0 ≤ idxF p l) = l.any p := by
  induction l with
  | nil => simp [idxF]
  | cons x r ih =>
    rw [List.any_cons, ← ih, idxF]
    by_cases h : p x = true
    · simp [h]
    · by_cases h' : idxF p r < 0
      · simp [h, h']
      · simp [h, h']; omega
theorem idxF_ge {α : Type} (p : α → Bool) (l : List α) : -1 ≤ idxF p l := by
  induction l with
  | nil => simp [idxF]
  | cons x r ih => rw [idxF]; split <;> (try split) <;> omega
theorem idxF_lt {α : Type} (p : α → Bool) (l : List α) : idxF p l < l.length := by
  induction l with
  | nil => simp [idxF]
  | cons x r ih => rw [idxF, List.length_cons]; split <;> (try split) <;> omega
theorem idxF_hit {α : Type} {p : α → Bool} {l : List α} {k : Nat} {x : α} (hk : l[k]? = some x) (hp : p x = true) (hb : (l.take k).any p = false) : idxF p l = k := by
  induction l generalizing k with
  | nil => simp at hk
  | cons y r ih =>
    cases k with
    | zero => simp at hk; subst hk; simp [idxF, hp]
    | succ k =>
      simp only [List.take_succ_cons, List.any_cons, Bool.or_eq_false_iff] at hb
      have := ih (k := k) (by simpa using hk) hb.2
      rw [idxF, this]; simp [hb.1]; omega
theorem idxF_miss {α : Type} {p : α → Bool} {l : List α} (hb : l.any p = false) : idxF p l = -1 := by
  have h := idxF_nonneg p l
  have h' := idxF_ge p l
  rw [hb] at h
  have := of_decide_eq_false h
  omega
set_option maxHeartbeats 1000000 in
theorem slices_IndexFunc_i64 {g : Nat} {lb : Array Value} {p : Int → Bool} {a : Option Addr} {n c : Nat} {l : List Int} {w : World}
    (eg : ∀ args w, (callFunc g args).run Tryz.prog w = .ok (.enter g args) w) (hp : PredI Tryz.prog g lb p w) (hI : Ints w a n c l) (hn : n ≤ 1048576) :
    Calls Tryz.prog 180 #[.slice a n c, .func (.func g) #[] lb] w fun e w' => e = .returned (.int .i64 (idxF p l)) ∧ Below w.heap.size w w' := by
  have HP := Lib.hid hp
  clear hp
  go_enter Tryz.func180, Tryz.ntmps180
  go_wp2
  go_loopg [5, 8] n (fun gg _ s8 wr => ∃ kk : Nat, kk ≤ n ∧ n - kk ≤ gg ∧ s8 = .int .i64 kk ∧ Below w.heap.size w wr ∧ Hid ((l.take kk).any p = false))
  case atStart => exact ⟨0, Nat.zero_le _, by omega, rfl, Below.refl _ _, rfl⟩
  case round =>
    obtain ⟨kk, hkk, hg, rfl, hbl, A⟩ := hrel
    have HI := Lib.hid hI
    by_cases hlt : kk < n
    · obtain ⟨b, off, x, rfl, hb, hx, hcell, hwf⟩ := (hI.keep hbl).at hlt
      have Hx := Lib.hid hx
      have hcall := HP.out _ x hwf hbl
      clear hx hI
      cases hq : p x with
      | true =>
        have Hq := Lib.hid hq
        rw [hq] at hcall
        clear hq
        go_wp2_with (go_at_fn g; refine hcall.mono ?_; rintro e w1 ⟨rfl, hb1⟩)
        go_ret
        exact ⟨ret_int (by rw [idxF_hit Hx.out Hq.out A.out]), below_call hbl hb1 hbl.size⟩
      | false =>
        have Hq := Lib.hid hq
        rw [hq] at hcall
        clear hq
        go_wp2_with (go_at_fn g; refine hcall.mono ?_; rintro e w1 ⟨rfl, hb1⟩)
        go_roundg (n - (kk + 1))
        case measure => omega
        case rel => exact ⟨kk + 1, by omega, by omega, by go_num, below_call hbl hb1 hbl.size, any_take_step Hx.out A.out Hq.out⟩
    · clear hI
      go_wp2
      go_ret
      have e : l.take kk = l := take_len (by have := HI.out.len; omega)
      have h1 := A.out
      rw [e] at h1
      exact ⟨ret_int (by rw [idxF_miss h1]), hbl⟩
theorem slices_ContainsFunc_i64 {g : Nat} {lb : Array Value} {p : Int → Bool} {a : Option Addr} {n c : Nat} {l : List Int} {w : World}
    (eg : ∀ args w, (callFunc g args).run Tryz.prog w = .ok (.enter g args) w) (hp : PredI Tryz.prog g lb p w) (hI : Ints w a n c l) (hn : n ≤ 1048576) :
    Calls Tryz.prog 124 #[.slice a n c, .func (.func g) #[] lb] w fun e w' => e = .returned (.bool (l.any p)) ∧ Below w.heap.size w w' := by
  have h := idxF_nonneg p l
  have hc := slices_IndexFunc_i64 eg hp hI hn
  generalize idxF p l = r at h hc
  have H := Lib.hid h
  have HI := Lib.hid hI
  have HP := Lib.hid hp
  clear h hI hp
  go_enter Tryz.func124, Tryz.ntmps124
  go_wp2_with fail
  refine Calls.mono hc ?_
  rintro e w1 ⟨rfl, hb1⟩
  go_wp2
  go_ret
  exact ⟨ret_bool H.out, hb1⟩
set_option maxHeartbeats 1000000 in
theorem slices_Clone_i64 {a : Option Addr} {n c : Nat} {l : List Int} {w : World} (hI : Ints w a n c l) (hn : n ≤ 1048576) :
    Calls Tryz.prog 175 #[.slice a n c] w fun e w' => ∃ a' c', e = .returned (.slice a' n c') ∧ Below w.heap.size w w' ∧ OwnI 2 w' w.heap.size a' n c' l ∧ NilBy a' a := by
  have hnl := fun (wx : World) => Lib.run_eql_slice_nil (P := Tryz.prog) wx 22 2 a n c 0 0 Tryz.underlying22
  cases a with
  | none =>
    obtain ⟨rfl, rfl⟩ := hI.nil rfl
    have hl : l = [] := List.length_eq_zero_iff.1 hI.len
    subst hl
    clear hI
    go_enter Tryz.func175, Tryz.ntmps175
    go_wp2
    go_ret
    exact ⟨none, 0, rfl, Below.refl _ _, OwnI.nil _ _ _, NilBy.refl _⟩
  | some ad =>
    have HI := Lib.hid hI
    clear hI
    go_enter Tryz.func175, Tryz.ntmps175
    go_wp2_with (at_builtin; refine appendL_i64 rfl _ _ 22 2 rfl Tryz.underlying22 Tryz.infoi64 w.heap.size _ _ _ _ (OwnI.empty w (Nat.le_refl _)) rfl _ _ _ _ rfl (HI.out.keep ((Below.refl _ _).alloc (Nat.le_refl _) _)) (by omega) (by omega) (by simp) ?_; intro a1 c1 w1 hown1 hb1 hg1 hnil1)
    have Hown := Lib.hid hown1
    clear hown1
    go_ret
    exact ⟨_, _, rfl, bel, by simpa using Hown.out, NilBy.some fun h => by have := hnil1 h; cases this⟩
end Go.Proofs.YtkaikbaagajckaaGreat
