/- Decision diagrams: joining two, fixing an input: plain laws. -/
import Derived.Test.YtkaikbaagajckaaVd
namespace Go.Proofs.Ytkaikbaagajckaa
open Go.RowKit
set_option linter.unusedVariables false
set_option linter.unusedSimpArgs false
/-- a sound forest: reduced and ordered -/
structure Snd (n : Int) (L : List I3) : Prop where
  redu : Redu L
  ord : OrdN n L
theorem Snd.nil (n : Int) : Snd n [] := ⟨Redu.nil, OrdN.nil n⟩
theorem Snd.add {n : Int} {L : List I3} (h : Snd n L) {i lo hi : Int} (hl : RefB lo L.length) (hh : RefB hi L.length) (h0 : 0 ≤ i) (hn : i < n) (h1 : i < lvlN n L lo) (h2 : i < lvlN n L hi) : Snd n (mkN L i lo hi).1 :=
  ⟨h.redu.add hl hh, (h.ord.add h.redu.frst hl hh h0 hn h1 h2).1⟩
theorem dia_snd {n : Int} {L : List I3} {root : Int} (h : diaB n L root = true) : Snd n L := by
  obtain ⟨h1, _, _, _, _, _, h2⟩ := dia_redu h
  exact ⟨h1, fun i x hx => by
    have := h2 i x hx
    exact ⟨this.inp.1, by have := this.inp.2; omega, this.lb, this.lc⟩⟩
/-- what joins two truth values -/
def bopN (j : Int) (a b : Bool) : Bool := if j = 0 then a && b else if j = 1 then a || b else xor a b
def jopN (j a b : Int) : Int := if bopN j (a == 1) (b == 1) = true then 1 else 0
theorem jop_low {j a b : Int} : jopN j a b < 2 ∧ 0 ≤ jopN j a b := by
  rw [jopN]; split <;> omega
/-- what is known of pairs -/
abbrev Mem := Int → Int → Option Int
def jnF (j n : Int) (A B : List I3) : Nat → List I3 × Mem → Int → Int → List I3 × Mem × Int
  | 0, s, a, b => (s.1, s.2, jopN j a b)
  | f + 1, s, a, b =>
    if a < 2 ∧ b < 2 then (s.1, s.2, jopN j a b)
    else match s.2 a b with
      | some r => (s.1, s.2, r)
      | none =>
        let i := min (lvlN n A a) (lvlN n B b)
        let u := jnF j n A B f s (chN n A a i).1 (chN n B b i).1
        let v := jnF j n A B f (u.1, u.2.1) (chN n A a i).2 (chN n B b i).2
        let m := mkN v.1 i u.2.2 v.2.2
        (m.1, fun x y => if x = a ∧ y = b then some m.2 else v.2.1 x y, m.2)
theorem jn_low {j n : Int} {A B : List I3} (f : Nat) (s : List I3 × Mem) {a b : Int} (h : a < 2 ∧ b < 2) : jnF j n A B f s a b = (s.1, s.2, jopN j a b) := by
  cases f with
  | zero => rfl
  | succ f => rw [jnF, if_pos h]
theorem jn_old {j n : Int} {A B : List I3} (f : Nat) (s : List I3 × Mem) {a b r : Int} (h : ¬ (a < 2 ∧ b < 2)) (hr : s.2 a b = some r) : jnF j n A B (f + 1) s a b = (s.1, s.2, r) := by
  rw [jnF, if_neg h, hr]
theorem jn_new {j n : Int} {A B : List I3} (f : Nat) (s : List I3 × Mem) {a b i : Int} (h : ¬ (a < 2 ∧ b < 2)) (hr : s.2 a b = none) (hi : min (lvlN n A a) (lvlN n B b) = i) {u v : List I3 × Mem × Int} (hu : jnF j n A B f s (chN n A a i).1 (chN n B b i).1 = u) (hv : jnF j n A B f (u.1, u.2.1) (chN n A a i).2 (chN n B b i).2 = v) :
    jnF j n A B (f + 1) s a b = ((mkN v.1 i u.2.2 v.2.2).1, (fun x y => if x = a ∧ y = b then some (mkN v.1 i u.2.2 v.2.2).2 else v.2.1 x y), (mkN v.1 i u.2.2 v.2.2).2) := by
  subst hi hu hv
  rw [jnF, if_neg h, hr]
/-- how far a pair still goes down -/
theorem ch_less {n : Int} {L : List I3} (hF : Frst L) {r i : Int} (hr : RefB r L.length) : (chN n L r i).1.toNat ≤ r.toNat ∧ (chN n L r i).2.toNat ≤ r.toNat ∧ (2 ≤ r → lvlN n L r = i → (chN n L r i).1.toNat < r.toNat ∧ (chN n L r i).2.toNat < r.toNat) ∧ RefB (chN n L r i).1 L.length ∧ RefB (chN n L r i).2 L.length := by
  by_cases hc : lvlN n L r = i ∧ 2 ≤ r
  · obtain ⟨k, rfl⟩ : ∃ k : Nat, r = (k : Int) + 2 := ⟨(r - 2).toNat, by omega⟩
    have hlt : k < L.length := by have := hr.2; omega
    obtain ⟨x, hx⟩ : ∃ x, L[k]? = some x := ⟨_, List.getElem?_eq_getElem hlt⟩
    have h3 := hF.low _ _ hx
    have h4 := hF.high _ _ hx
    have h3' := h3.2
    have h4' := h4.2
    have h3'' := h3.1
    have h4'' := h4.1
    rw [ch_node hx ((lvl_node hx).symm.trans hc.1)]
    refine ⟨?_, ?_, fun _ _ => ⟨?_, ?_⟩, h3.mono (Nat.le_of_lt hlt), h4.mono (Nat.le_of_lt hlt)⟩ <;> (simp only; omega)
  · rw [chN, if_neg hc]
    exact ⟨Nat.le_refl _, Nat.le_refl _, fun h1 h2 => absurd ⟨h2, h1⟩ hc, hr, hr⟩
theorem jn_fuel {j n : Int} {A B : List I3} (hA : Frst A) (hB : Frst B) (oA : OrdN n A) (oB : OrdN n B) : ∀ (f g : Nat) (s : List I3 × Mem) (a b : Int), RefB a A.length → RefB b B.length → a.toNat + b.toNat ≤ f → a.toNat + b.toNat ≤ g → jnF j n A B f s a b = jnF j n A B g s a b := by
  intro f
  induction f with
  | zero =>
    intro g s a b ha hb hf hg
    rw [jn_low _ _ (by omega), jn_low _ _ (by omega)]
  | succ f ih =>
    intro g s a b ha hb hf hg
    by_cases h : a < 2 ∧ b < 2
    · rw [jn_low _ _ h, jn_low _ _ h]
    · obtain ⟨g, rfl⟩ : ∃ g', g = g' + 1 := ⟨g - 1, by omega⟩
      cases hm : s.2 a b with
      | some r => rw [jn_old _ _ h hm, jn_old _ _ h hm]
      | none =>
        have hi := ch_less (n := n) (i := min (lvlN n A a) (lvlN n B b)) hA ha
        have hk := ch_less (n := n) (i := min (lvlN n A a) (lvlN n B b)) hB hb
        have hd : (chN n A a (min (lvlN n A a) (lvlN n B b))).1.toNat + (chN n B b (min (lvlN n A a) (lvlN n B b))).1.toNat < a.toNat + b.toNat ∧ (chN n A a (min (lvlN n A a) (lvlN n B b))).2.toNat + (chN n B b (min (lvlN n A a) (lvlN n B b))).2.toNat < a.toNat + b.toNat := by
          have ea := lvl_le oA ha
          have eb := lvl_le oB hb
          rcases Int.le_total (lvlN n A a) (lvlN n B b) with e | e
          · rw [Int.min_eq_left e] at hi hk ⊢
            by_cases h2 : a < 2
            · rw [lvl_low h2] at e
              -- then b's level is n, too: b is a node of level n, which none has
              have hb2 : ¬ b < 2 := fun hb2 => h ⟨h2, hb2⟩
              obtain ⟨q, rfl⟩ : ∃ q : Nat, b = (q : Int) + 2 := ⟨(b - 2).toNat, by omega⟩
              have hq : q < B.length := by have := hb.2; omega
              have hx := List.getElem?_eq_getElem hq
              have := (oB _ _ hx).2.1
              rw [lvl_node hx] at e
              omega
            · have := hi.2.2.1 (by omega) rfl
              omega
          · rw [Int.min_eq_right e] at hi hk ⊢
            by_cases h2 : b < 2
            · rw [lvl_low h2] at e
              have ha2 : ¬ a < 2 := fun ha2 => h ⟨ha2, h2⟩
              obtain ⟨q, rfl⟩ : ∃ q : Nat, a = (q : Int) + 2 := ⟨(a - 2).toNat, by omega⟩
              have hq : q < A.length := by have := ha.2; omega
              have hx := List.getElem?_eq_getElem hq
              have := (oA _ _ hx).2.1
              rw [lvl_node hx] at e
              omega
            · have := hk.2.2.1 (by omega) rfl
              omega
        rw [jn_new f s h hm rfl rfl rfl, jn_new g s h hm rfl rfl rfl]
        rw [ih g s _ _ hi.2.2.2.1 hk.2.2.2.1 (by omega) (by omega), ih g _ _ _ hi.2.2.2.2 hk.2.2.2.2 (by omega) (by omega)]
/-- what is known is right -/
structure JnI (j n : Int) (A B : List I3) (L : List I3) (M : Mem) : Prop where
  snd : Snd n L
  mem : ∀ a b r, M a b = some r → RefB r L.length ∧ min (lvlN n A a) (lvlN n B b) ≤ lvlN n L r ∧ ∀ β, evR L β r = bopN j (evR A β a) (evR B β b)
theorem JnI.start (j n : Int) (A B : List I3) : JnI j n A B [] (fun _ _ => none) := ⟨Snd.nil n, fun a b r h => by cases h⟩
theorem jn_ev {j n : Int} {A B : List I3} (hA : Frst A) (hB : Frst B) (oA : OrdN n A) (oB : OrdN n B) (hn : 0 ≤ n) : ∀ (f : Nat) (L : List I3) (M : Mem) (a b : Int), RefB a A.length → RefB b B.length → a.toNat + b.toNat ≤ f → JnI j n A B L M →
    JnI j n A B (jnF j n A B f (L, M) a b).1 (jnF j n A B f (L, M) a b).2.1 ∧ RefB (jnF j n A B f (L, M) a b).2.2 (jnF j n A B f (L, M) a b).1.length ∧ min (lvlN n A a) (lvlN n B b) ≤ lvlN n (jnF j n A B f (L, M) a b).1 (jnF j n A B f (L, M) a b).2.2 ∧
    (∀ β, evR (jnF j n A B f (L, M) a b).1 β (jnF j n A B f (L, M) a b).2.2 = bopN j (evR A β a) (evR B β b)) ∧ ∃ t, (jnF j n A B f (L, M) a b).1 = L ++ t := by
  intro f
  induction f with
  | zero =>
    intro L M a b ha hb hf h
    have h0 : a < 2 ∧ b < 2 := by omega
    have ha0 := ha.1
    have hb0 := hb.1
    obtain ⟨j1, j2⟩ := jop_low (j := j) (a := a) (b := b)
    rw [jn_low _ _ h0]
    refine ⟨h, ⟨j2, by simp only; omega⟩, ?_, fun β => ?_, [], by simp⟩
    · simp only
      rw [lvl_low j1, lvl_low h0.1, lvl_low h0.2]; omega
    · simp only
      rw [ev_low j1, ev_low h0.1, ev_low h0.2, jopN]
      have e1 : (a == 1) = decide (a = 1) := rfl
      have e2 : (b == 1) = decide (b = 1) := rfl
      rw [e1, e2]
      cases bopN j (decide (a = 1)) (decide (b = 1)) <;> simp
  | succ f ih =>
    intro L M a b ha hb hf h
    by_cases h0 : a < 2 ∧ b < 2
    · have ha0 := ha.1
      have hb0 := hb.1
      obtain ⟨j1, j2⟩ := jop_low (j := j) (a := a) (b := b)
      rw [jn_low _ _ h0]
      refine ⟨h, ⟨j2, by simp only; omega⟩, ?_, fun β => ?_, [], by simp⟩
      · simp only
        rw [lvl_low j1, lvl_low h0.1, lvl_low h0.2]; omega
      · simp only
        rw [ev_low j1, ev_low h0.1, ev_low h0.2, jopN]
        have e1 : (a == 1) = decide (a = 1) := rfl
        have e2 : (b == 1) = decide (b = 1) := rfl
        rw [e1, e2]
        cases bopN j (decide (a = 1)) (decide (b = 1)) <;> simp
    · cases hm : M a b with
      | some r =>
        rw [jn_old _ _ h0 hm]
        obtain ⟨m1, m2, m3⟩ := h.mem a b r hm
        exact ⟨h, m1, m2, m3, [], by simp⟩
      | none =>
        have ea := lvl_le oA ha
        have eb := lvl_le oB hb
        have hlt : min (lvlN n A a) (lvlN n B b) < n := by
          by_cases h2 : a < 2
          · have hb2 : ¬ b < 2 := fun hb2 => h0 ⟨h2, hb2⟩
            obtain ⟨q, rfl⟩ : ∃ q : Nat, b = (q : Int) + 2 := ⟨(b - 2).toNat, by omega⟩
            have hq : q < B.length := by have := hb.2; omega
            have hx := List.getElem?_eq_getElem hq
            have := (oB _ _ hx).2.1
            rw [lvl_node hx]
            omega
          · obtain ⟨q, rfl⟩ : ∃ q : Nat, a = (q : Int) + 2 := ⟨(a - 2).toNat, by omega⟩
            have hq : q < A.length := by have := ha.2; omega
            have hx := List.getElem?_eq_getElem hq
            have := (oA _ _ hx).2.1
            rw [lvl_node hx]
            omega
        have h00 : 0 ≤ min (lvlN n A a) (lvlN n B b) := by
          have la : 0 ≤ lvlN n A a := by
            by_cases h2 : a < 2
            · rw [lvl_low h2]; exact hn
            · obtain ⟨q, rfl⟩ : ∃ q : Nat, a = (q : Int) + 2 := ⟨(a - 2).toNat, by omega⟩
              have hq : q < A.length := by have := ha.2; omega
              have hx := List.getElem?_eq_getElem hq
              rw [lvl_node hx]; exact (oA _ _ hx).1
          have lb : 0 ≤ lvlN n B b := by
            by_cases h2 : b < 2
            · rw [lvl_low h2]; exact hn
            · obtain ⟨q, rfl⟩ : ∃ q : Nat, b = (q : Int) + 2 := ⟨(b - 2).toNat, by omega⟩
              have hq : q < B.length := by have := hb.2; omega
              have hx := List.getElem?_eq_getElem hq
              rw [lvl_node hx]; exact (oB _ _ hx).1
          omega
        obtain ⟨i, hi⟩ : ∃ i : Nat, min (lvlN n A a) (lvlN n B b) = (i : Int) := ⟨(min (lvlN n A a) (lvlN n B b)).toNat, by omega⟩
        have hin : (i : Int) < n := by rw [← hi]; exact hlt
        obtain ⟨a1, a2, a3, a4, a5⟩ := ch_all hA oA ha (i := i) (by omega) (by omega)
        obtain ⟨b1, b2, b3, b4, b5⟩ := ch_all hB oB hb (i := i) (by omega) (by omega)
        have ka := ch_less (n := n) (i := (i : Int)) hA ha
        have kb := ch_less (n := n) (i := (i : Int)) hB hb
        have hd : (chN n A a i).1.toNat + (chN n B b i).1.toNat < a.toNat + b.toNat ∧ (chN n A a i).2.toNat + (chN n B b i).2.toNat < a.toNat + b.toNat := by
          rcases Int.le_total (lvlN n A a) (lvlN n B b) with e | e
          · have := ka.2.2.1 (by
              by_cases h2 : a < 2
              · rw [lvl_low h2] at e hi; omega
              · omega) (by omega)
            omega
          · have := kb.2.2.1 (by
              by_cases h2 : b < 2
              · rw [lvl_low h2] at e hi; omega
              · omega) (by omega)
            omega
        obtain ⟨u, hu⟩ : ∃ u, jnF j n A B f (L, M) (chN n A a i).1 (chN n B b i).1 = u := ⟨_, rfl⟩
        obtain ⟨v, hv⟩ : ∃ v, jnF j n A B f (u.1, u.2.1) (chN n A a i).2 (chN n B b i).2 = v := ⟨_, rfl⟩
        have R1 := ih L M _ _ a1 b1 (by omega) h
        rw [hu] at R1
        obtain ⟨i1, f1, l1, e1, t1, p1⟩ := R1
        have R2 := ih u.1 u.2.1 _ _ a2 b2 (by omega) i1
        rw [hv] at R2
        obtain ⟨i2, f2, l2, e2, t2, p2⟩ := R2
        rw [jn_new f (L, M) h0 hm hi hu hv]
        have hF1 := i1.snd.redu.frst
        have hF2 := i2.snd.redu.frst
        have hlen : u.1.length ≤ v.1.length := by rw [p2, List.length_append]; omega
        have f1' : RefB u.2.2 v.1.length := f1.mono hlen
        have e1' : ∀ β, evR v.1 β u.2.2 = bopN j (evR A β (chN n A a i).1) (evR B β (chN n B b i).1) := fun β => by rw [p2, ev_app hF1 f1]; exact e1 β
        have l1' : (i : Int) < lvlN n v.1 u.2.2 := by rw [p2, lvl_app f1]; omega
        have l2' : (i : Int) < lvlN n v.1 v.2.2 := by omega
        have hS := i2.snd.add (i := (i : Int)) f1' f2 (by omega) (by omega) l1' l2'
        have hO := i2.snd.ord.add hF2 (i := (i : Int)) f1' f2 (by omega) (by omega) l1' l2'
        have hR := (hF2.add (i := (i : Int)) f1' f2).2
        have hev : ∀ β, evR (mkN v.1 i u.2.2 v.2.2).1 β (mkN v.1 i u.2.2 v.2.2).2 = bopN j (evR A β a) (evR B β b) := fun β => by
          rw [ev_mk hF2 f1' f2, Int.toNat_natCast, e2, e1', a5, b5]
          split <;> rfl
        obtain ⟨t3, p3, _⟩ := mkN_pre v.1 i u.2.2 v.2.2
        refine ⟨⟨hS, fun x y r hr => ?_⟩, hR, by simp only; rw [hi]; exact hO.2, hev, ⟨t1 ++ (t2 ++ t3), by simp only; rw [p3, p2, p1]; simp⟩⟩
        simp only at hr ⊢
        split at hr
        · rename_i hxy
          obtain ⟨rfl, rfl⟩ := hxy
          cases hr
          exact ⟨hR, by rw [hi]; exact hO.2, hev⟩
        · obtain ⟨m1, m2, m3⟩ := i2.mem x y r hr
          refine ⟨?_, ?_, fun β => ?_⟩
          · rw [p3, List.length_append]; exact m1.mono (by omega)
          · rw [p3, lvl_app m1]; exact m2
          · rw [ev_keep hF2 m1]; exact m3 β
end Go.Proofs.Ytkaikbaagajckaa
