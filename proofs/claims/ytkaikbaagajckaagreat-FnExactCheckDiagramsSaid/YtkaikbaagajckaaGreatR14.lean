/- Decision diagrams: joining two, fixing an input: plain laws.; Decision diagrams: a canonical diagram is valid, and canonical itself: plain laws.; The canonical diagram of a forest: the program, walked.; The canonical diagram of a reference among a forest's nodes: the program, walked. -/
import Derived.Test.YtkaikbaagajckaaGreatR13
import Derived.Test.YtkaikbaagajckaaGreatR12
import Derived.Laws.EntriesVeiled
namespace Go.Proofs.YtkaikbaagajckaaGreat
open Go.RowKit
set_option linter.unusedVariables false
set_option linter.unusedSimpArgs false
/-- a sound forest: reduced and ordered -/
structure Snd (n : Int) (L : List I3) : Prop where
  redu : Redu L
  ord : OrdN n L
theorem Snd.nil (n : Int) : Snd n [] := ⟨Redu.nil, OrdN.nil n⟩
theorem Snd.add {n : Int} {L : List I3} (h : Snd n L) {i lo hi : Int} (hl : RefB lo L.length) (hh : RefB hi L.length) (h0 : 0 ≤ i) (hn : i < n) (h1 : i < lvlN n L lo) (h2 : i < lvlN n L hi) : Snd n (mkN L i lo hi).1 :=
  ⟨h.redu.add hl hh, (h.ord.add h.redu.frst hl hh h0 hn h1 h2).1⟩
theorem dia_snd {n : Int} {L : List I3} {root : Int} (h : diaB n L root = true) : Snd n L := by
  obtain ⟨h1, _, _, _, _, _, h2⟩ := dia_redu h
  exact ⟨h1, fun i x hx => by
    have := h2 i x hx
    exact ⟨this.inp.1, by have := this.inp.2; omega, this.lb, this.lc⟩⟩
/-- what joins two truth values -/
def bopN (j : Int) (a b : Bool) : Bool := if j = 0 then a && b else if j = 1 then a || b else xor a b
def jopN (j a b : Int) : Int := if bopN j (a == 1) (b == 1) = true then 1 else 0
theorem jop_low {j a b : Int} : jopN j a b < 2 ∧ 0 ≤ jopN j a b := by
  rw [jopN]; split <;> omega
/-- what is known of pairs -/
abbrev Mem := Int → Int → Option Int
def jnF (j n : Int) (A B : List I3) : Nat → List I3 × Mem → Int → Int → List I3 × Mem × Int
  | 0, s, a, b => (s.1, s.2, jopN j a b)
  | f + 1, s, a, b =>
    if a < 2 ∧ b < 2 then (s.1, s.2, jopN j a b)
    else match s.2 a b with
      | some r => (s.1, s.2, r)
      | none =>
        let i := min (lvlN n A a) (lvlN n B b)
        let u := jnF j n A B f s (chN n A a i).1 (chN n B b i).1
        let v := jnF j n A B f (u.1, u.2.1) (chN n A a i).2 (chN n B b i).2
        let m := mkN v.1 i u.2.2 v.2.2
        (m.1, fun x y => if x = a ∧ y = b then some m.2 else v.2.1 x y, m.2)
theorem jn_low {j n : Int} {A B : List I3} (f : Nat) (s : List I3 × Mem) {a b : Int} (h : a < 2 ∧ b < 2) : jnF j n A B f s a b = (s.1, s.2, jopN j a b) := by
  cases f with
  | zero => rfl
  | succ f => rw [jnF, if_pos h]
theorem jn_old {j n : Int} {A B : List I3} (f : Nat) (s : List I3 × Mem) {a b r : Int} (h : ¬ (a < 2 ∧ b < 2)) (hr : s.2 a b = some r) : jnF j n A B (f + 1) s a b = (s.1, s.2, r) := by
  rw [jnF, if_neg h, hr]
theorem jn_new {j n : Int} {A B : List I3} (f : Nat) (s : List I3 × Mem) {a b i : Int} (h : ¬ (a < 2 ∧ b < 2)) (hr : s.2 a b = none) (hi : min (lvlN n A a) (lvlN n B b) = i) {u v : List I3 × Mem × Int} (hu : jnF j n A B f s (chN n A a i).1 (chN n B b i).1 = u) (hv : jnF j n A B f (u.1, u.2.1) (chN n A a i).2 (chN n B b i).2 = v) :
    jnF j n A B (f + 1) s a b = ((mkN v.1 i u.2.2 v.2.2).1, (fun x y => if x = a ∧ y = b then some (mkN v.1 i u.2.2 v.2.2).2 else v.2.1 x y), (mkN v.1 i u.2.2 v.2.2).2) := by
  subst hi hu hv
  rw [jnF, if_neg h, hr]
/-- how far a pair still goes down -/
theorem ch_less {n : Int} {L : List I3} (hF : Frst L) {r i : Int} (hr : RefB r L.length) : (chN n L r i).1.toNat ≤ r.toNat ∧ (chN n L r i).2.toNat ≤ r.toNat ∧ (2 ≤ r → lvlN n L r = i → (chN n L r i).1.toNat < r.toNat ∧ (chN n L r i).2.toNat < r.toNat) ∧ RefB (chN n L r i).1 L.length ∧ RefB (chN n L r i).2 L.length := by
  by_cases hc : lvlN n L r = i ∧ 2 ≤ r
  · obtain ⟨k, rfl⟩ : ∃ k : Nat, r = (k : Int) + 2 := ⟨(r - 2).toNat, by omega⟩
    have hlt : k < L.length := by have := hr.2; omega
    obtain ⟨x, hx⟩ : ∃ x, L[k]? = some x := ⟨_, List.getElem?_eq_getElem hlt⟩
    have h3 := hF.low _ _ hx
    have h4 := hF.high _ _ hx
    have h3' := h3.2
    have h4' := h4.2
    have h3'' := h3.1
    have h4'' := h4.1
    rw [ch_node hx ((lvl_node hx).symm.trans hc.1)]
    refine ⟨?_, ?_, fun _ _ => ⟨?_, ?_⟩, h3.mono (Nat.le_of_lt hlt), h4.mono (Nat.le_of_lt hlt)⟩ <;> (simp only; omega)
  · rw [chN, if_neg hc]
    exact ⟨Nat.le_refl _, Nat.le_refl _, fun h1 h2 => absurd ⟨h2, h1⟩ hc, hr, hr⟩
/-- what is known is right -/
structure JnI (j n : Int) (A B : List I3) (L : List I3) (M : Mem) : Prop where
  snd : Snd n L
  mem : ∀ a b r, M a b = some r → RefB r L.length ∧ min (lvlN n A a) (lvlN n B b) ≤ lvlN n L r ∧ ∀ β, evR L β r = bopN j (evR A β a) (evR B β b)
theorem JnI.start (j n : Int) (A B : List I3) : JnI j n A B [] (fun _ _ => none) := ⟨Snd.nil n, fun a b r h => by cases h⟩
theorem jn_ev {j n : Int} {A B : List I3} (hA : Frst A) (hB : Frst B) (oA : OrdN n A) (oB : OrdN n B) (hn : 0 ≤ n) : ∀ (f : Nat) (L : List I3) (M : Mem) (a b : Int), RefB a A.length → RefB b B.length → a.toNat + b.toNat ≤ f → JnI j n A B L M →
    JnI j n A B (jnF j n A B f (L, M) a b).1 (jnF j n A B f (L, M) a b).2.1 ∧ RefB (jnF j n A B f (L, M) a b).2.2 (jnF j n A B f (L, M) a b).1.length ∧ min (lvlN n A a) (lvlN n B b) ≤ lvlN n (jnF j n A B f (L, M) a b).1 (jnF j n A B f (L, M) a b).2.2 ∧
    (∀ β, evR (jnF j n A B f (L, M) a b).1 β (jnF j n A B f (L, M) a b).2.2 = bopN j (evR A β a) (evR B β b)) ∧ ∃ t, (jnF j n A B f (L, M) a b).1 = L ++ t := by
  intro f
  induction f with
  | zero =>
    intro L M a b ha hb hf h
    have h0 : a < 2 ∧ b < 2 := by omega
    have ha0 := ha.1
    have hb0 := hb.1
    obtain ⟨j1, j2⟩ := jop_low (j := j) (a := a) (b := b)
    rw [jn_low _ _ h0]
    refine ⟨h, ⟨j2, by simp only; omega⟩, ?_, fun β => ?_, [], by simp⟩
    · simp only
      rw [lvl_low j1, lvl_low h0.1, lvl_low h0.2]; omega
    · simp only
      rw [ev_low j1, ev_low h0.1, ev_low h0.2, jopN]
      have e1 : (a == 1) = decide (a = 1) := rfl
      have e2 : (b == 1) = decide (b = 1) := rfl
      rw [e1, e2]
      cases bopN j (decide (a = 1)) (decide (b = 1)) <;> simp
  | succ f ih =>
    intro L M a b ha hb hf h
    by_cases h0 : a < 2 ∧ b < 2
    · have ha0 := ha.1
      have hb0 := hb.1
      obtain ⟨j1, j2⟩ := jop_low (j := j) (a := a) (b := b)
      rw [jn_low _ _ h0]
      refine ⟨h, ⟨j2, by simp only; omega⟩, ?_, fun β => ?_, [], by simp⟩
      · simp only
        rw [lvl_low j1, lvl_low h0.1, lvl_low h0.2]; omega
      · simp only
        rw [ev_low j1, ev_low h0.1, ev_low h0.2, jopN]
        have e1 : (a == 1) = decide (a = 1) := rfl
        have e2 : (b == 1) = decide (b = 1) := rfl
        rw [e1, e2]
        cases bopN j (decide (a = 1)) (decide (b = 1)) <;> simp
    · cases hm : M a b with
      | some r =>
        rw [jn_old _ _ h0 hm]
        obtain ⟨m1, m2, m3⟩ := h.mem a b r hm
        exact ⟨h, m1, m2, m3, [], by simp⟩
      | none =>
        have ea := lvl_le oA ha
        have eb := lvl_le oB hb
        have hlt : min (lvlN n A a) (lvlN n B b) < n := by
          by_cases h2 : a < 2
          · have hb2 : ¬ b < 2 := fun hb2 => h0 ⟨h2, hb2⟩
            obtain ⟨q, rfl⟩ : ∃ q : Nat, b = (q : Int) + 2 := ⟨(b - 2).toNat, by omega⟩
            have hq : q < B.length := by have := hb.2; omega
            have hx := List.getElem?_eq_getElem hq
            have := (oB _ _ hx).2.1
            rw [lvl_node hx]
            omega
          · obtain ⟨q, rfl⟩ : ∃ q : Nat, a = (q : Int) + 2 := ⟨(a - 2).toNat, by omega⟩
            have hq : q < A.length := by have := ha.2; omega
            have hx := List.getElem?_eq_getElem hq
            have := (oA _ _ hx).2.1
            rw [lvl_node hx]
            omega
        have h00 : 0 ≤ min (lvlN n A a) (lvlN n B b) := by
          have la : 0 ≤ lvlN n A a := by
            by_cases h2 : a < 2
            · rw [lvl_low h2]; exact hn
            · obtain ⟨q, rfl⟩ : ∃ q : Nat, a = (q : Int) + 2 := ⟨(a - 2).toNat, by omega⟩
              have hq : q < A.length := by have := ha.2; omega
              have hx := List.getElem?_eq_getElem hq
              rw [lvl_node hx]; exact (oA _ _ hx).1
          have lb : 0 ≤ lvlN n B b := by
            by_cases h2 : b < 2
            · rw [lvl_low h2]; exact hn
            · obtain ⟨q, rfl⟩ : ∃ q : Nat, b = (q : Int) + 2 := ⟨(b - 2).toNat, by omega⟩
              have hq : q < B.length := by have := hb.2; omega
              have hx := List.getElem?_eq_getElem hq
              rw [lvl_node hx]; exact (oB _ _ hx).1
          omega
        obtain ⟨i, hi⟩ : ∃ i : Nat, min (lvlN n A a) (lvlN n B b) = (i : Int) := ⟨(min (lvlN n A a) (lvlN n B b)).toNat, by omega⟩
        have hin : (i : Int) < n := by rw [← hi]; exact hlt
        obtain ⟨a1, a2, a3, a4, a5⟩ := ch_all hA oA ha (i := i) (by omega) (by omega)
        obtain ⟨b1, b2, b3, b4, b5⟩ := ch_all hB oB hb (i := i) (by omega) (by omega)
        have ka := ch_less (n := n) (i := (i : Int)) hA ha
        have kb := ch_less (n := n) (i := (i : Int)) hB hb
        have hd : (chN n A a i).1.toNat + (chN n B b i).1.toNat < a.toNat + b.toNat ∧ (chN n A a i).2.toNat + (chN n B b i).2.toNat < a.toNat + b.toNat := by
          rcases Int.le_total (lvlN n A a) (lvlN n B b) with e | e
          · have := ka.2.2.1 (by
              by_cases h2 : a < 2
              · rw [lvl_low h2] at e hi; omega
              · omega) (by omega)
            omega
          · have := kb.2.2.1 (by
              by_cases h2 : b < 2
              · rw [lvl_low h2] at e hi; omega
              · omega) (by omega)
            omega
        obtain ⟨u, hu⟩ : ∃ u, jnF j n A B f (L, M) (chN n A a i).1 (chN n B b i).1 = u := ⟨_, rfl⟩
        obtain ⟨v, hv⟩ : ∃ v, jnF j n A B f (u.1, u.2.1) (chN n A a i).2 (chN n B b i).2 = v := ⟨_, rfl⟩
        have R1 := ih L M _ _ a1 b1 (by omega) h
        rw [hu] at R1
        obtain ⟨i1, f1, l1, e1, t1, p1⟩ := R1
        have R2 := ih u.1 u.2.1 _ _ a2 b2 (by omega) i1
        rw [hv] at R2
        obtain ⟨i2, f2, l2, e2, t2, p2⟩ := R2
        rw [jn_new f (L, M) h0 hm hi hu hv]
        have hF1 := i1.snd.redu.frst
        have hF2 := i2.snd.redu.frst
        have hlen : u.1.length ≤ v.1.length := by rw [p2, List.length_append]; omega
        have f1' : RefB u.2.2 v.1.length := f1.mono hlen
        have e1' : ∀ β, evR v.1 β u.2.2 = bopN j (evR A β (chN n A a i).1) (evR B β (chN n B b i).1) := fun β => by rw [p2, ev_app hF1 f1]; exact e1 β
        have l1' : (i : Int) < lvlN n v.1 u.2.2 := by rw [p2, lvl_app f1]; omega
        have l2' : (i : Int) < lvlN n v.1 v.2.2 := by omega
        have hS := i2.snd.add (i := (i : Int)) f1' f2 (by omega) (by omega) l1' l2'
        have hO := i2.snd.ord.add hF2 (i := (i : Int)) f1' f2 (by omega) (by omega) l1' l2'
        have hR := (hF2.add (i := (i : Int)) f1' f2).2
        have hev : ∀ β, evR (mkN v.1 i u.2.2 v.2.2).1 β (mkN v.1 i u.2.2 v.2.2).2 = bopN j (evR A β a) (evR B β b) := fun β => by
          rw [ev_mk hF2 f1' f2, Int.toNat_natCast, e2, e1', a5, b5]
          split <;> rfl
        obtain ⟨t3, p3, _⟩ := mkN_pre v.1 i u.2.2 v.2.2
        refine ⟨⟨hS, fun x y r hr => ?_⟩, hR, by simp only; rw [hi]; exact hO.2, hev, ⟨t1 ++ (t2 ++ t3), by simp only; rw [p3, p2, p1]; simp⟩⟩
        simp only at hr ⊢
        split at hr
        · rename_i hxy
          obtain ⟨rfl, rfl⟩ := hxy
          cases hr
          exact ⟨hR, by rw [hi]; exact hO.2, hev⟩
        · obtain ⟨m1, m2, m3⟩ := i2.mem x y r hr
          refine ⟨?_, ?_, fun β => ?_⟩
          · rw [p3, List.length_append]; exact m1.mono (by omega)
          · rw [p3, lvl_app m1]; exact m2
          · rw [ev_keep hF2 m1]; exact m3 β
/-- each reference keeps its name -/
def idN (m : Nat) : Nms := fun q => if 2 ≤ q ∧ q < m + 2 then (q : Int) else 0
theorem idN_yes {m q : Nat} (h : 2 ≤ q ∧ q < m + 2) : idN m q = (q : Int) := if_pos h
theorem idN_no {m q : Nat} (h : ¬ (2 ≤ q ∧ q < m + 2)) : idN m q = 0 := if_neg h
theorem wlk_again {N Qd : List I3} (hR : Redu N) (hF : Frst Qd) : ∀ (f r : Nat) (D : List I3) (P : Nms), r ≤ f → r < N.length + 2 → WkI N D P → (∃ t, Qd = (wlkN appN N f (D, P) r).1 ++ t) → ∀ g, (wlkN appN N f (D, P) r).2.2.toNat ≤ g →
    wlkN appN Qd g (D, idN D.length) (wlkN appN N f (D, P) r).2.2.toNat = ((wlkN appN N f (D, P) r).1, idN (wlkN appN N f (D, P) r).1.length, (wlkN appN N f (D, P) r).2.2) := by
  intro f
  induction f with
  | zero =>
    intro r D P hr _ h _ g hg
    have hr0 : r < 2 := by omega
    rw [wlk_low _ _ _ _ hr0] at hg ⊢
    simp only at hg ⊢
    rw [wlk_low _ _ _ _ (by omega), Int.toNat_natCast]
  | succ f ih =>
    intro r D P hr hrn h hex g hg
    by_cases hr2 : r < 2
    · rw [wlk_low _ _ _ _ hr2] at hg ⊢
      simp only at hg ⊢
      rw [wlk_low _ _ _ _ (by omega), Int.toNat_natCast]
    · by_cases hp : P r > 0
      · rw [wlk_old _ _ _ _ hr2 hp] at hg ⊢
        simp only at hg ⊢
        obtain ⟨_, x, k, _, hk, hd, _⟩ := h.nodes hR.frst hp
        have hkl := (List.getElem?_eq_some_iff.1 hd).1
        obtain ⟨g, rfl⟩ : ∃ g', g = g' + 1 := ⟨g - 1, by omega⟩
        rw [wlk_old _ _ _ _ (by omega) (show (D, idN D.length).2 (P r).toNat > 0 by
          show idN D.length (P r).toNat > 0
          rw [idN_yes (by omega)]; omega)]
        simp only
        rw [idN_yes (by omega)]
        congr 2
        omega
      · obtain ⟨x, hx⟩ : ∃ x, N[r - 2]? = some x := ⟨_, List.getElem?_eq_getElem (by omega)⟩
        have h3 := hR.frst.low _ _ hx
        have h4 := hR.frst.high _ _ hx
        unfold RefB at h3 h4
        rw [wlk_new _ _ _ _ hr2 hp hx] at hex hg ⊢
        obtain ⟨_, R1⟩ := wlk_same hR.nodup hR.frst hR.diff f x.b.toNat D P (by omega) (by omega) h
        have I1 := ih x.b.toNat D P (by omega) (by omega) h
        generalize wlkN appN N f (D, P) x.b.toNat = A at *
        obtain ⟨D1, P1, r1⟩ := A
        obtain ⟨_, R2⟩ := wlk_same hR.nodup hR.frst hR.diff f x.c.toNat D1 P1 (by omega) (by omega) R1.inv
        have I2 := ih x.c.toNat D1 P1 (by omega) (by omega) R1.inv
        simp only at hex hg ⊢
        generalize wlkN appN N f (D1, P1) x.c.toNat = B at *
        obtain ⟨D2, P2, r2⟩ := B
        obtain ⟨t1, p1⟩ := R1.pre
        obtain ⟨t2, p2⟩ := R2.pre
        obtain ⟨t, ht⟩ := hex
        simp only [appN] at p1 p2 ht hg I1 I2 ⊢
        have hl1 : D.length ≤ D1.length := by rw [p1, List.length_append]; omega
        have hl2 : D1.length ≤ D2.length := by rw [p2, List.length_append]; omega
        have hm : Qd[D2.length]? = some ⟨x.a, r1, r2⟩ := by rw [ht, List.append_assoc, List.getElem?_append_right (Nat.le_refl _), Nat.sub_self]; rfl
        have f3 := hF.low _ _ hm
        have f4 := hF.high _ _ hm
        unfold RefB at f3 f4
        simp only at f3 f4
        have er : ((D2.length : Int) + 2).toNat = D2.length + 2 := by omega
        rw [er] at hg ⊢
        obtain ⟨g, rfl⟩ : ∃ g', g = g' + 1 := ⟨g - 1, by omega⟩
        rw [wlk_new _ _ _ _ (by omega) (show ¬ (D, idN D.length).2 (D2.length + 2) > 0 by
          show ¬ idN D.length (D2.length + 2) > 0
          rw [idN_no (by omega)]; omega) (show Qd[D2.length + 2 - 2]? = some ⟨x.a, r1, r2⟩ by rw [Nat.add_sub_cancel]; exact hm)]
        have J1 := I1 ⟨t2 ++ [⟨x.a, r1, r2⟩] ++ t, by rw [ht, p2]; simp⟩ g (by omega)
        have J2 := I2 ⟨[⟨x.a, r1, r2⟩] ++ t, by rw [ht]; simp⟩ g (by omega)
        simp only [appN]
        rw [J1]
        simp only
        rw [J2]
        simp only
        refine Prod.ext rfl (Prod.ext ?_ rfl)
        funext q
        simp only [List.length_append, List.length_cons, List.length_nil]
        by_cases hq : q = D2.length + 2
        · rw [if_pos hq, idN_yes (by omega), hq]; omega
        · rw [if_neg hq]
          by_cases hq2 : 2 ≤ q ∧ q < D2.length + 2
          · rw [idN_yes hq2, idN_yes (by omega)]
          · rw [idN_no hq2, idN_no (by omega)]
theorem idN_zero : idN 0 = fun _ => 0 := by
  funext q
  exact idN_no (by omega)
/-- the canonical nodes: sound, with the same inputs -/
theorem wk_lvl {n : Int} {N D : List I3} {P : Nms} (h : WkI N D P) (hF : Frst N) {b : Int} (hv : VisN P b) : lvlN n D (rvN P b) = lvlN n N b := by
  rw [rvN]
  split
  · rename_i h2
    rw [lvl_low h2, lvl_low h2]
  · rename_i h2
    obtain ⟨_, x, k, hx, hk, hd, _⟩ := h.nodes hF (hv.2 (by omega))
    rw [hk, lvl_node hd, show b = ((b.toNat - 2 : Nat) : Int) + 2 by omega, lvl_node hx]
theorem wk_snd {n : Int} {N D : List I3} {P : Nms} (h : WkI N D P) (hS : Snd n N) : Snd n D := by
  have hF := hS.redu.frst
  have H : ∀ (k : Nat) (y : I3), D[k]? = some y → ∃ x, x ∈ N ∧ y = ⟨x.a, rvN P x.b, rvN P x.c⟩ ∧ VisN P x.b ∧ VisN P x.c ∧ (0 ≤ x.a ∧ x.a < n ∧ x.a < lvlN n N x.b ∧ x.a < lvlN n N x.c) := fun k y hy => by
    obtain ⟨r, hr⟩ := h.from' k (List.getElem?_eq_some_iff.1 hy).1
    obtain ⟨_, x, j, hx, hj, hd, vb, vc, _⟩ := h.nodes hF (show P r > 0 by omega)
    have : k = j := by omega
    subst this
    rw [hy] at hd
    simp only [Option.some.injEq] at hd
    exact ⟨x, List.mem_of_getElem? hx, hd, vb, vc, hS.ord _ _ hx⟩
  refine ⟨⟨h.nodup, h.frst, fun y hy => ?_⟩, fun k y hy => ?_⟩
  · obtain ⟨k, hk⟩ := List.getElem?_of_mem hy
    obtain ⟨x, hx, rfl, vb, vc, _⟩ := H k y hk
    exact fun e => hS.redu.diff x hx (h.rinj hS.redu.nodup hF vb vc e)
  · obtain ⟨x, hx, rfl, vb, vc, o1, o2, o3, o4⟩ := H k y hy
    simp only
    rw [wk_lvl h hF vb, wk_lvl h hF vc]
    exact ⟨o1, o2, o3, o4⟩
theorem can_snd {n : Int} {N : List I3} (hS : Snd n N) {root : Int} (hr : RefB root N.length) : Snd n (canN mkN N root).1 ∧ RefB (canN mkN N root).2 (canN mkN N root).1.length ∧ lvlN n (canN mkN N root).1 (canN mkN N root).2 = lvlN n N root := by
  obtain ⟨P, h1, h2, h3⟩ := can_walk hS.redu hr
  refine ⟨wk_snd h1 hS, ?_, by rw [h2]; exact wk_lvl h1 hS.redu.frst h3⟩
  rw [h2, rvN]
  split
  · exact ⟨hr.1, by omega⟩
  · obtain ⟨_, x, k, _, hk, hd, _⟩ := h1.nodes hS.redu.frst (h3.2 (by omega))
    have := (List.getElem?_eq_some_iff.1 hd).1
    exact ⟨by omega, by omega⟩
theorem can_again {n : Int} {N : List I3} (hS : Snd n N) {root : Int} (hr : RefB root N.length) : canN mkN (canN mkN N root).1 (canN mkN N root).2 = canN mkN N root := by
  obtain ⟨hS2, hr2, _⟩ := can_snd hS hr
  rw [can_same hS2.redu hr2, can_same hS.redu hr]
  rw [can_same hS.redu hr] at hS2 hr2
  have h := wlk_again hS.redu hS2.redu.frst root.toNat root.toNat [] (fun _ => 0) (Nat.le_refl _) (by unfold RefB at hr; omega) (WkI.start N) ⟨[], by rw [List.append_nil]; rfl⟩ (canN appN N root).2.toNat (Nat.le_refl _)
  rw [List.length_nil, idN_zero] at h
  have h' : wlkN appN (canN appN N root).1 (canN appN N root).2.toNat ([], fun _ => 0) (canN appN N root).2.toNat = ((canN appN N root).1, idN (canN appN N root).1.length, (canN appN N root).2) := h
  have e : canN appN (canN appN N root).1 (canN appN N root).2 = ((wlkN appN (canN appN N root).1 (canN appN N root).2.toNat ([], fun _ => 0) (canN appN N root).2.toNat).1, (wlkN appN (canN appN N root).1 (canN appN N root).2.toNat ([], fun _ => 0) (canN appN N root).2.toNat).2.2) := rfl
  rw [e, h']
/-- a canonical diagram is valid -/
theorem can_dia {n : Int} {N : List I3} (hS : Snd n N) {root : Int} (hr : RefB root N.length) (h0 : 0 ≤ n) (hn : n ≤ 20) (hl : (canN mkN N root).1.length ≤ 2000) : diaB n (canN mkN N root).1 (canN mkN N root).2 = true := by
  obtain ⟨hS2, hr2, _⟩ := can_snd hS hr
  rw [diaB, can_again hS hr, Bool.and_eq_true, Bool.and_eq_true]
  obtain ⟨⟨D, r⟩, hE⟩ : ∃ E, canN mkN N root = E := ⟨_, rfl⟩
  rw [hE] at hS2 hr2 hl ⊢
  simp only at hS2 hr2 hl ⊢
  refine ⟨⟨?_, ?_⟩, by simp⟩
  · rw [dia0, Bool.and_eq_true, Bool.and_eq_true, inB, inB, Bool.and_eq_true, Bool.and_eq_true]
    simp only [decide_eq_true_eq]
    exact ⟨⟨⟨h0, hn⟩, hl⟩, hr2.1, by have := hr2.2; omega⟩
  · rw [upB, List.all_eq_true]
    intro i hi
    have hi' := List.mem_range.1 hi
    have hx := List.getElem?_eq_getElem hi'
    rw [ndB_iff hx]
    obtain ⟨o1, o2, o3, o4⟩ := hS2.ord _ _ hx
    have f3 := hS2.redu.frst.low _ _ hx
    have f4 := hS2.redu.frst.high _ _ hx
    exact ⟨⟨o1, by omega⟩, ⟨f3.1, by have := f3.2; omega⟩, ⟨f4.1, by have := f4.2; omega⟩, hS2.redu.diff _ (List.getElem_mem hi'), o3, o4⟩
/-- different numbers below n are at most n -/
theorem nodup_lt : ∀ (n : Nat) (S : List Nat), S.Nodup → (∀ s ∈ S, s < n) → S.length ≤ n := by
  intro n
  induction n with
  | zero =>
    intro S _ h
    cases S with
    | nil => exact Nat.le_refl _
    | cons x r => have := h x (List.mem_cons_self ..); omega
  | succ n ih =>
    intro S hn h
    by_cases hm : n ∈ S
    · have h1 := ih (S.erase n) (hn.erase n) fun s hs => by
        have h2 := (List.Nodup.mem_erase_iff hn).1 hs
        have := h s h2.2
        have := h2.1
        omega
      rw [List.length_erase_of_mem hm] at h1
      omega
    · have := ih S hn fun s hs => by
        have := h s hs
        have : s ≠ n := fun e => hm (e ▸ hs)
        omega
      omega
/-- no more canonical nodes than nodes -/
theorem can_length {N : List I3} (hR : Redu N) {root : Int} (hr : RefB root N.length) : (canN mkN N root).1.length ≤ N.length := by
  obtain ⟨P, h1, h2, h3⟩ := can_walk hR hr
  generalize (canN mkN N root).1 = D at *
  -- each new node comes from another old one
  have hch : ∀ k, k < D.length → ∃ r : Nat, P r = (k : Int) + 2 ∧ 2 ≤ r ∧ r - 2 < N.length := fun k hk => by
    obtain ⟨r, hr⟩ := h1.from' k hk
    obtain ⟨g, x, _, hx, _⟩ := h1.nodes hR.frst (show P r > 0 by omega)
    exact ⟨r, hr, g, (List.getElem?_eq_some_iff.1 hx).1⟩
  have key : ∀ m, m ≤ D.length → ∃ S : List Nat, S.length = m ∧ S.Nodup ∧ ∀ s ∈ S, s < N.length ∧ ∃ k, k < m ∧ P (s + 2) = (k : Int) + 2 := by
    intro m
    induction m with
    | zero => intro _; exact ⟨[], rfl, List.nodup_nil, fun s h => by cases h⟩
    | succ m ih =>
      intro hm
      obtain ⟨S, h1, h2, h3⟩ := ih (by omega)
      obtain ⟨r, hr, g, hl⟩ := hch m (by omega)
      refine ⟨(r - 2) :: S, by simp [h1], ?_, fun s hs => ?_⟩
      · rw [List.nodup_cons]
        refine ⟨fun hin => ?_, h2⟩
        obtain ⟨_, k, hk, hP⟩ := h3 _ hin
        rw [show r - 2 + 2 = r by omega, hr] at hP
        omega
      · rcases List.mem_cons.1 hs with rfl | hs
        · exact ⟨hl, m, by omega, by rw [show r - 2 + 2 = r by omega]; exact hr⟩
        · obtain ⟨g1, k, g2, g3⟩ := h3 s hs
          exact ⟨g1, k, by omega, g3⟩
  obtain ⟨S, s1, s2, s3⟩ := key D.length (Nat.le_refl _)
  have hsub := nodup_lt N.length S s2 fun s hs => (s3 s hs).1
  rw [s1] at hsub
  exact hsub
/-- the new names as the program keeps them -/
def plF (P : Nms) (q : Int) : Option Int := if q = 0 then some 0 else if q = 1 then some 1 else if 0 ≤ q ∧ P q.toNat > 0 then some (P q.toNat) else none
theorem plF_low (P : Nms) {r : Nat} (h : r < 2) : plF P (r : Int) = some (r : Int) := by
  have : r = 0 ∨ r = 1 := by omega
  rcases this with rfl | rfl <;> simp [plF]
theorem plF_old {P : Nms} {r : Nat} (h : ¬ r < 2) (hp : P r > 0) : plF P (r : Int) = some (P r) := by
  rw [plF, if_neg (by omega), if_neg (by omega), Int.toNat_natCast, if_pos ⟨by omega, hp⟩]
theorem plF_new {P : Nms} {r : Nat} (h : ¬ r < 2) (hp : ¬ P r > 0) : plF P (r : Int) = none := by
  rw [plF, if_neg (by omega), if_neg (by omega), Int.toNat_natCast, if_neg (fun h => hp h.2)]
theorem plF_put {P : Nms} {r : Nat} {v : Int} (h : ¬ r < 2) (hv : v > 0) (q : Int) : (if q = (r : Int) then some v else plF P q) = plF (fun k => if k = r then v else P k) q := by
  by_cases hq : q = (r : Int)
  · rw [if_pos hq, hq, plF_old h (by rw [if_pos rfl]; exact hv), if_pos rfl]
  · rw [if_neg hq, plF, plF]
    split
    · rfl
    · split
      · rfl
      · by_cases h0 : 0 ≤ q
        · have : ¬ q.toNat = r := by omega
          rw [if_neg this]
        · rw [if_neg (fun h => h0 h.1), if_neg (fun h => h0 h.1)]
theorem wk_few {N D : List I3} {P : Nms} (h : WkI N D P) (hF : Frst N) : D.length ≤ N.length := by
  have hch : ∀ k, k < D.length → ∃ r : Nat, P r = (k : Int) + 2 ∧ 2 ≤ r ∧ r - 2 < N.length := fun k hk => by
    obtain ⟨r, hr⟩ := h.from' k hk
    obtain ⟨g, x, _, hx, _⟩ := h.nodes hF (show P r > 0 by omega)
    exact ⟨r, hr, g, (List.getElem?_eq_some_iff.1 hx).1⟩
  have key : ∀ m, m ≤ D.length → ∃ S : List Nat, S.length = m ∧ S.Nodup ∧ ∀ s ∈ S, s < N.length ∧ ∃ k, k < m ∧ P (s + 2) = (k : Int) + 2 := by
    intro m
    induction m with
    | zero => intro _; exact ⟨[], rfl, List.nodup_nil, fun s h => by cases h⟩
    | succ m ih =>
      intro hm
      obtain ⟨S, h1, h2, h3⟩ := ih (by omega)
      obtain ⟨r, hr, g, hl⟩ := hch m (by omega)
      refine ⟨(r - 2) :: S, by simp [h1], ?_, fun s hs => ?_⟩
      · rw [List.nodup_cons]
        refine ⟨fun hin => ?_, h2⟩
        obtain ⟨_, k, hk, hP⟩ := h3 _ hin
        rw [show r - 2 + 2 = r by omega, hr] at hP
        omega
      · rcases List.mem_cons.1 hs with rfl | hs
        · exact ⟨hl, m, by omega, by rw [show r - 2 + 2 = r by omega]; exact hr⟩
        · obtain ⟨g1, k, g2, g3⟩ := h3 s hs
          exact ⟨g1, k, by omega, g3⟩
  obtain ⟨S, s1, s2, s3⟩ := key D.length (Nat.le_refl _)
  have hsub := nodup_lt N.length S s2 fun s hs => (s3 s hs).1
  omega
theorem wk_ref {N D : List I3} {P : Nms} {r : Nat} {A : List I3 × Nms × Int} (h : WkR N D P r A) (hF : Frst N) : 0 ≤ A.2.2 ∧ A.2.2 ≤ (N.length : Int) + 2 := by
  rw [h.ref, rvN]
  split
  · omega
  · rename_i h2
    rw [Int.toNat_natCast]
    obtain ⟨_, x, k, _, hk, hd, _⟩ := h.inv.nodes hF (h.vis (by omega))
    have h1 := (List.getElem?_eq_some_iff.1 hd).1
    have h2 := wk_few h.inv hF
    omega
/-- what the walk of the program has at hand -/
structure CanW (w : World) (lo bF p bM mp bV bD : Nat) (inp : Int) (na : Option Addr) (n nc mb : Nat) (N : List I3) (da : Option Addr) (dc mn : Nat) (D : List I3) (P : Nms) : Prop where
  f : Blk w bF #[.pointer (some ⟨p, 0, none⟩)] 101
  fo : Blk w p #[.int .i64 inp, .slice na n nc, .map (some mb)] 213
  nd : F3 w na n nc N
  m : Blk w bM #[.map (some mp)] 214
  pl : MapA 2 I64 litK1 w mp mn (plF P)
  v : Blk w bV #[.func (.func 173) #[] #[.pointer (some ⟨bM, 0, none⟩), .pointer (some ⟨bF, 0, none⟩), .pointer (some ⟨bV, 0, none⟩), .pointer (some ⟨bD, 0, none⟩)]] 183
  d : Blk w bD #[.int .i64 inp, .slice da D.length dc, .int .i64 0] 40
  own : OwnF 3 I3.enc I3.ok 117 w lo da D.length dc D
  few : mn ≤ D.length + 2
  lows : bF < lo ∧ p < lo ∧ bM < lo ∧ mp < lo ∧ bV < lo ∧ bD < lo ∧ lo ≤ w.heap.size
  lown : ∀ g off, na = some ⟨g, off, none⟩ → g < lo ∧ g ≠ bD ∧ g ≠ mp
/-- what it may write: the map, the diagram's box, the new nodes' block -/
structure FrC (mp bD : Nat) (da : Option Addr) (w : World) (da' : Option Addr) (w' : World) : Prop where
  os : w'.os = w.os
  tape : w'.tape = w.tape
  output : w'.output = w.output
  size : w.heap.size ≤ w'.heap.size
  block : ∀ k, k < w.heap.size → k ≠ mp → k ≠ bD → (∀ g, da = some ⟨g, 0, none⟩ → k ≠ g) → w'.heap[k]? = w.heap[k]?
  fresh : ∀ g, da' = some ⟨g, 0, none⟩ → da = some ⟨g, 0, none⟩ ∨ w.heap.size ≤ g
theorem FrC.refl (mp bD : Nat) (da : Option Addr) (w : World) : FrC mp bD da w da w := ⟨rfl, rfl, rfl, Nat.le_refl _, fun _ _ _ _ _ => rfl, fun _ h => .inl h⟩
theorem FrC.trans {mp bD : Nat} {da da' da'' : Option Addr} {w w' w'' : World} (h : FrC mp bD da w da' w') (h' : FrC mp bD da' w' da'' w'') : FrC mp bD da w da'' w'' :=
  ⟨h'.os.trans h.os, h'.tape.trans h.tape, h'.output.trans h.output, Nat.le_trans h.size h'.size, fun k h0 h1 h2 h3 => (h'.block k (Nat.lt_of_lt_of_le h0 h.size) h1 h2 (fun g e => by
    rcases h.fresh g e with h4 | h4
    · exact h3 g h4
    · omega)).trans (h.block k h0 h1 h2 h3), fun g e => by
    rcases h'.fresh g e with h4 | h4
    · exact h.fresh g h4
    · exact .inr (Nat.le_trans h.size h4)⟩
theorem FrC.of_below {mp bD : Nat} {da : Option Addr} {w w' : World} (h : Below w.heap.size w w') : FrC mp bD da w da w' := ⟨h.os, h.tape, h.output, h.size, fun k h0 _ _ _ => h.block k h0, fun _ e => .inl e⟩
theorem Blk.frc {mp bD b : Nat} {da da' : Option Addr} {w w' : World} {cs : Array Value} {T : TypeId} (h : Blk w b cs T) (hf : FrC mp bD da w da' w') (h1 : b ≠ mp) (h2 : b ≠ bD) (h3 : ∀ g, da = some ⟨g, 0, none⟩ → b ≠ g) : Blk w' b cs T := (hf.block b h.lt h1 h2 h3).trans h
theorem CanW.keep {w w' : World} {lo bF p bM mp bV bD : Nat} {inp : Int} {na : Option Addr} {n nc mb : Nat} {N : List I3} {da : Option Addr} {dc mn : Nat} {D : List I3} {P : Nms} (h : CanW w lo bF p bM mp bV bD inp na n nc mb N da dc mn D P) (hb : Below w.heap.size w w') : CanW w' lo bF p bM mp bV bD inp na n nc mb N da dc mn D P :=
  ⟨h.f.keep hb, h.fo.keep hb, h.nd.keep hb, h.m.keep hb, h.pl.keep hb, h.v.keep hb, h.d.keep hb, h.own.keep hb, h.few, ⟨h.lows.1, h.lows.2.1, h.lows.2.2.1, h.lows.2.2.2.1, h.lows.2.2.2.2.1, h.lows.2.2.2.2.2.1, Nat.le_trans h.lows.2.2.2.2.2.2 hb.size⟩, h.lown⟩
set_option maxRecDepth 100000 in
set_option maxHeartbeats 1000000 in
theorem impl_visit_old {lo bF p bM mp bV bD n nc mb r : Nat} {inp q : Int} {na : Option Addr} {N : List I3} {D : List I3} {P : Nms} {da : Option Addr} {dc mn : Nat} {w : World} (hC : CanW w lo bF p bM mp bV bD inp na n nc mb N da dc mn D P) (hr : r ≤ 4194100) (hq : plF P (r : Int) = some q) :
    Calls Tryz.prog 173 #[.int .i64 (r : Int), .pointer (some ⟨bM, 0, none⟩), .pointer (some ⟨bF, 0, none⟩), .pointer (some ⟨bV, 0, none⟩), .pointer (some ⟨bD, 0, none⟩)] w fun e w' => e = .returned (.int .i64 q) ∧ w = w' := by
  have hlk := hC.pl.look keyI Tryz.underlying214 (x := (r : Int)) (by unfold I64; omega) true
  rw [hq] at hlk
  have hl := (show (Instr.lookup 214 (.map (some mp)) (.int .i64 (r : Int)) true).run Tryz.prog w = .ok (.tuple #[.int .i64 q, .bool true]) w from hlk)
  have m0 := hC.m.cell 0
  have ml := hC.m.lt
  simp at m0
  clear hC hlk hq
  go_enter Tryz.func173, Tryz.ntmps173
  go_wp2
  go_ret
  exact ⟨rfl, rfl⟩
set_option maxRecDepth 100000 in
set_option maxHeartbeats 4000000 in
theorem impl_visit {lo bF p bM mp bV bD n nc mb : Nat} {inp : Int} {na : Option Addr} {N : List I3} (hR : Redu N) (hN : N.length ≤ 4194000) (hinp : I64 inp) : ∀ (f r : Nat) (D : List I3) (P : Nms) (da : Option Addr) (dc mn : Nat) (w : World), CanW w lo bF p bM mp bV bD inp na n nc mb N da dc mn D P → WkI N D P → r ≤ f → r < N.length + 2 →
    Calls Tryz.prog 173 #[.int .i64 (r : Int), .pointer (some ⟨bM, 0, none⟩), .pointer (some ⟨bF, 0, none⟩), .pointer (some ⟨bV, 0, none⟩), .pointer (some ⟨bD, 0, none⟩)] w fun e w' => e = .returned (.int .i64 (wlkN appN N f (D, P) r).2.2) ∧ ∃ da' dc' mn', CanW w' lo bF p bM mp bV bD inp na n nc mb N da' dc' mn' (wlkN appN N f (D, P) r).1 (wlkN appN N f (D, P) r).2.1 ∧ FrC mp bD da w da' w' := by
  intro f
  induction f with
  | zero =>
    intro r D P da dc mn w hC hW hr hrn
    have h2 : r < 2 := by omega
    rw [wlk_low _ _ _ _ h2]
    refine (impl_visit_old hC (by omega) (plF_low P h2)).mono ?_
    rintro e w' ⟨rfl, rfl⟩
    exact ⟨rfl, _, _, _, hC, FrC.refl _ _ _ _⟩
  | succ f ih =>
    intro r D P da dc mn w hC hW hr hrn
    by_cases h2 : r < 2
    · rw [wlk_low _ _ _ _ h2]
      refine (impl_visit_old hC (by omega) (plF_low P h2)).mono ?_
      rintro e w' ⟨rfl, rfl⟩
      exact ⟨rfl, _, _, _, hC, FrC.refl _ _ _ _⟩
    by_cases hp : P r > 0
    · rw [wlk_old _ _ _ _ h2 hp]
      refine (impl_visit_old hC (by omega) (plF_old h2 hp)).mono ?_
      rintro e w' ⟨rfl, rfl⟩
      exact ⟨rfl, _, _, _, hC, FrC.refl _ _ _ _⟩
    obtain ⟨x, hx⟩ : ∃ x, N[r - 2]? = some x := ⟨_, List.getElem?_eq_getElem (by omega)⟩
    have h3 := hR.frst.low _ _ hx
    have h4 := hR.frst.high _ _ hx
    unfold RefB at h3 h4
    have hb0 : (x.b.toNat : Int) = x.b := by omega
    have hc0 : (x.c.toNat : Int) = x.c := by omega
    obtain ⟨_, R1⟩ := wlk_same hR.nodup hR.frst hR.diff f x.b.toNat D P (by omega) (by omega) hW
    rw [wlk_new _ _ _ _ h2 hp hx]
    have C1 := fun (da : Option Addr) (dc mn : Nat) (w : World) (hC : CanW w lo bF p bM mp bV bD inp na n nc mb N da dc mn D P) => ih x.b.toNat D P da dc mn w hC hW (by omega) (by omega)
    rw [hb0] at C1
    generalize wlkN appN N f (D, P) x.b.toNat = A at *
    obtain ⟨D1, P1, r1⟩ := A
    obtain ⟨_, R2⟩ := wlk_same hR.nodup hR.frst hR.diff f x.c.toNat D1 P1 (by omega) (by omega) R1.inv
    have C2 := fun (da : Option Addr) (dc mn : Nat) (w : World) (hC : CanW w lo bF p bM mp bV bD inp na n nc mb N da dc mn D1 P1) => ih x.c.toNat D1 P1 da dc mn w hC R1.inv (by omega) (by omega)
    rw [hc0] at C2
    simp only at C1 ⊢
    generalize wlkN appN N f (D1, P1) x.c.toNat = B at *
    obtain ⟨D2, P2, r2⟩ := B
    simp only [appN] at C2 ⊢
    have hlk := hC.pl.look keyI Tryz.underlying214 (x := (r : Int)) (by unfold I64; omega) true
    rw [plF_new h2 hp] at hlk
    have hl := (show (Instr.lookup 214 (.map (some mp)) (.int .i64 (r : Int)) true).run Tryz.prog w = .ok (.tuple #[.int .i64 0, .bool false]) w from hlk)
    obtain ⟨k, hk⟩ : ∃ k, r - 2 = k := ⟨_, rfl⟩
    rw [hk] at hx h3 h4
    have i1 : IntKind.i64.wrap ((r : Int) - 2) = (k : Int) := by rw [IntWalk.i64_in _ (by omega)]; omega
    have HK := Lib.hid hk
    have hkn : k < n := by rw [← hC.nd.len]; exact (List.getElem?_eq_some_iff.1 hx).1
    obtain ⟨b, off, y, rfl, hb, hy, hwf, hc0', hc1', hc2'⟩ := F3.get hC.nd hkn
    rw [hx] at hy
    cases hy
    have HC := Lib.hid hC
    have K1 := Lib.hid C1
    have K2 := Lib.hid C2
    have m0 := hC.m.cell 0
    have ml := hC.m.lt
    have f0 := hC.f.cell 0
    have fl := hC.f.lt
    have q1 := hC.fo.cell 1
    have ql := hC.fo.lt
    have v0 := hC.v.cell 0
    have vl := hC.v.lt
    simp at m0 f0 q1 v0
    have hr1 : 0 ≤ r1 ∧ r1 ≤ (N.length : Int) + 2 := wk_ref R1 hR.frst
    have hr2 : 0 ≤ r2 ∧ r2 ≤ (N.length : Int) + 2 := wk_ref R2 hR.frst
    have hd2 : D2.length ≤ N.length := wk_few R2.inv hR.frst
    have I1 := Lib.hid R1.inv
    have I2 := Lib.hid R2.inv
    have hk0 : (0 : Int) ≤ (k : Int) := by omega
    have hkn' : (k : Int) < (n : Int) := by omega
    clear hC hlk hx C1 C2 R1 R2 ih hW hk
    have hbW : Below w.heap.size w (w.alloc (.cells #[.int .i64 x.a, .int .i64 x.b, .int .i64 x.c] 117)) := bel
    have X1 := Lib.hid (Blk.made w #[.int .i64 x.a, .int .i64 x.b, .int .i64 x.c] 117)
    have hdg : ∀ g, da = some ⟨g, 0, none⟩ → w.heap.size ≠ g := fun g e => by have := (HC.out.own.blk g e).2; omega
    obtain ⟨z1, z2, z3, z4, z5, z6, z7⟩ := HC.out.lows
    go_enter Tryz.func173, Tryz.ntmps173
    go_wp2_with fail
    refine Calls.mono (K1.out _ _ _ _ (HC.out.keep hbW)) ?_
    rintro e w1 ⟨rfl, da1, dc1, mn1, hC1, hF1⟩
    have hs1 := hF1.size
    simp at hs1
    have HC1 := Lib.hid hC1
    have X2 := Lib.hid (X1.out.frc hF1 (by omega) (by omega) hdg)
    have HF1 := Lib.hid ((FrC.of_below (mp := mp) (bD := bD) (da := da) hbW).trans hF1)
    have hdg1 : ∀ g, da1 = some ⟨g, 0, none⟩ → w.heap.size ≠ g := fun g e => by
      rcases hF1.fresh g e with h | h
      · exact hdg g h
      · simp at h; omega
    clear hC1 hF1 m0 ml f0 fl q1 ql v0 vl X1 hbW hc0' hc1' hc2' hb hl
    have v0 := HC1.out.v.cell 0
    have vl := HC1.out.v.lt
    have x2 := X2.out.cell 2
    have xl := X2.out.lt
    simp at v0 x2
    go_wp2_with fail
    refine Calls.mono (K2.out _ _ _ _ HC1.out) ?_
    rintro e w2 ⟨rfl, da2, dc2, mn2, hC2, hF2⟩
    have hs2 := hF2.size
    have HC2 := Lib.hid hC2
    have X3 := Lib.hid (X2.out.frc hF2 (by omega) (by omega) hdg1)
    have HF2 := Lib.hid (HF1.out.trans hF2)
    clear hC2 hF2 v0 vl x2 xl X2 HF1 HC1 K1 K2
    have d1 := HC2.out.d.cell 1
    have dl := HC2.out.d.lt
    have df := HC2.out.d.free
    have x0 := X3.out.cell 0
    have xl := X3.out.lt
    simp at d1 x0
    have hx64 : I3.ok ⟨x.a, r1, r2⟩ := ⟨hwf.1, (by show I64 r1; unfold I64; omega), (by show I64 r2; unfold I64; omega)⟩
    go_wp2_with (at_builtin; refine appAtL (k := 3) (m := 1) (enc := I3.enc) (ok := I3.ok) rfl _ _ rfl Tryz.underlying38 Tryz.infoNode9 rfl (by decide) (by decide) I3.one9 lo _ _ _ _ [⟨x.a, r1, r2⟩] HC2.out.own rfl _ rfl rfl rfl rfl (fun y hy => by simp at hy; rw [hy]; exact hx64) (by decide) (by omega) (by decide) (by omega) ?_; intro g' c' w3 h1 h2 h3 h4 h5; have O4 := Lib.hid h1; have G4 := Lib.hid h2; have H4 := Lib.hid h3; clear h1 h2 h3; refine Hid.out ?_)
    have ht4 : Touch w2 w3 1 da2 := ⟨_, H4.out, fun b e => ⟨by decide, own_block HC2.out.own.1 b e⟩⟩
    have hty := fun {g : Nat} (e : da2 = some ⟨g, 0, none⟩) => HC2.out.own.typN e
    have f4 := Lib.hid (HC2.out.f.keepA ht4 (blk_ne HC2.out.f hty (by decide)))
    have fo4 := Lib.hid (HC2.out.fo.keepA ht4 (blk_ne HC2.out.fo hty (by decide)))
    have m4 := Lib.hid (HC2.out.m.keepA ht4 (blk_ne HC2.out.m hty (by decide)))
    have v4 := Lib.hid (HC2.out.v.keepA ht4 (blk_ne HC2.out.v hty (by decide)))
    have d4 := Lib.hid (HC2.out.d.keepA ht4 (blk_ne HC2.out.d hty (by decide)))
    have n4 := Lib.hid (HC2.out.nd.only (lo := lo) (hi := w3.heap.size) ⟨G4.out.os, G4.out.tape, G4.out.output, G4.out.size, fun k hk hr => G4.out.block k (by have := G4.out.size; omega)⟩ (fun g off e => .inl (HC2.out.lown g off e).1))
    have p4 := Lib.hid (HC2.out.pl.keepG H4.out (fun e => by
      have e1 := own_block HC2.out.own.1 _ e
      obtain ⟨cur, hc⟩ := HC2.out.own.typN e1
      obtain ⟨es, cl, hm⟩ := HC2.out.pl.isMap
      rw [hm] at hc
      cases hc))
    have NE : ∀ {b : Nat} {cs : Array Value} {T : TypeId}, Blk w3 b cs T → T ≠ 40 → b ≠ bD := fun {b cs T} h hT e => by
      have h2 := d4.out
      rw [Blk] at h h2
      rw [e, h2] at h
      simp only [Option.some.injEq, Obj.cells.injEq] at h
      exact hT h.2.1.symm
    have nf := NE f4.out (by decide)
    have nfo := NE fo4.out (by decide)
    have nm := NE m4.out (by decide)
    have nv := NE v4.out (by decide)
    have ng : g' ≠ bD := fun e => blk_ne d4.out O4.out.typN (by decide) (by rw [e])
    have np : mp ≠ bD := fun e => by
      obtain ⟨es, cl, hm⟩ := p4.out.isMap
      have h := d4.out
      rw [Blk, ← e, hm] at h
      cases h
    have HFR4 := Lib.hid (show FrC mp bD da2 w2 (some ⟨g', 0, none⟩) w3 from ⟨H4.out.os, H4.out.tape, H4.out.output, H4.out.size, fun k h1 h2 h3 h9 => H4.out.block k h1 (fun e => h9 k (own_block HC2.out.own.1 _ e.symm) rfl), fun g e => by
      cases e
      rcases h4 with h | h
      · exact .inl h
      · exact .inr (by omega)⟩)
    clear NE d1 dl df x0 xl X3 ht4 hty
    have d1 := d4.out.cell 1
    have dl := d4.out.lt
    have df := d4.out.free
    simp at d1
    refine Lib.hid ?_
    go_wp2_with fail
    obtain ⟨w4, hw4⟩ : ∃ w4, w4 = w3.setCell ⟨bD, 1, none⟩ (.slice (some ⟨g', 0, none⟩) (D2.length + 1) c') := ⟨_, rfl⟩
    have hsg := set_grown (w := w3) bD 1 (.slice (some ⟨g', 0, none⟩) (D2.length + 1) c')
    rw [← hw4] at hsg
    have d5 := Lib.hid (show Blk w4 bD #[.int .i64 inp, .slice (some ⟨g', 0, none⟩) (D2.length + 1) c', .int .i64 0] 40 by rw [hw4]; exact d4.out.set 1 _)
    have f5 := Lib.hid (f4.out.keepG hsg (by simpa using fun e => nf e.symm))
    have fo5 := Lib.hid (fo4.out.keepG hsg (by simpa using fun e => nfo e.symm))
    have m5 := Lib.hid (m4.out.keepG hsg (by simpa using fun e => nm e.symm))
    have v5 := Lib.hid (v4.out.keepG hsg (by simpa using fun e => nv e.symm))
    have o5 := Lib.hid (O4.out.keepG hsg (fun g e e' => by simp at e e'; omega))
    have p5 := Lib.hid (p4.out.keepG hsg (by simpa using fun e => np e.symm))
    have n5 := Lib.hid (n4.out.only (lo := bD) (hi := bD + 1) ⟨hsg.os, hsg.tape, hsg.output, hsg.size, fun k hk hr => hsg.block k hk (fun e => by simp at e; omega)⟩ (fun g off e => by have := (HC2.out.lown g off e).2.1; omega))
    have HFR5 := Lib.hid (show FrC mp bD (some ⟨g', 0, none⟩) w3 (some ⟨g', 0, none⟩) w4 from ⟨hsg.os, hsg.tape, hsg.output, hsg.size, fun k h1 h2 h3 h9 => hsg.block k h1 (fun e => h3 (by simpa using e)), fun g e => .inl e⟩)
    have hs4 := hsg.size
    have hlow := HC2.out.lows
    have hlwn := Lib.hid HC2.out.lown
    have hfew := HC2.out.few
    rw [← hw4]
    clear hw4 hsg d1 dl df d4 f4 fo4 m4 v4 O4 p4 n4
    have m0 := m5.out.cell 0
    have ml := m5.out.lt
    have d1 := d5.out.cell 1
    have dl := d5.out.lt
    simp at m0 d1
    go_wp2_with fail
    refine wp_region_noPanic ?_
    refine wp_region_M (L := 6) (S := fun wx => Below w4.heap.size w4 wx) (by kernel_rfl) ?_ (fun hHeld => ?_)
    · exact (Below.refl _ _).drew
    refine tkM0 0 (v := ?_) ?_ ?_
    rotate_left
    · (intro wv hSw; (try dsimp only at hSw); obtain ⟨hcq, _⟩ := bcell hSw; have hsq := Below.size hSw; have q0 := (hcq _ _ ml).trans m0; have ql := Nat.lt_of_lt_of_le ml hsq; go_simp; try with_reducible rfl)
    try simp only [Act.put, s1, s2, s3]
    refine tkMB 1 ?_
    try simp only [Act.put, s1, s2, s3]
    refine tkMB 2 ?_
    try simp only [Act.put, s1, s2, s3]
    refine tkM0 3 (v := ?_) ?_ ?_
    rotate_left
    · (intro wv hSw; (try dsimp only at hSw); obtain ⟨hcq, _⟩ := bcell hSw; have hsq := Below.size hSw; have q0 := (hcq _ _ dl).trans d1; have ql := Nat.lt_of_lt_of_le dl hsq; go_simp; try with_reducible rfl)
    try simp only [Act.put, s1, s2, s3]
    refine wpAnyM_ready (rs := [4]) (by kernel_rfl) (by simp) ?_
    refine AllReadyM.cons rfl (fun K hK => ?_) AllReadyM.nil
    go_simp
    refine Calls.mono impl_length_Node ?_
    rintro e _ ⟨rfl, rfl⟩
    go_wp2_with fail
    refine hK.out _ _ hHeld (fun hHeld => ?_)
    clear hK K
    try simp only [Act.put, s1, s2, s3]
    refine tkMB 5 ?_
    try simp only [Act.put, s1, s2, s3]
    refine wpAnyM_ready (rs := [6]) (by kernel_rfl) (by simp) ?_
    refine AllReadyM.last rfl (fun K hK => ?_)
    refine MapA.wp (p5.out.keep hHeld) keyI Tryz.underlying214 (by unfold maxLen; omega) (x := (r : Int)) (by unfold I64; omega) (v := (D2.length : Int) + 2) (by unfold I64; omega) _ _ _ rfl rfl rfl (by first | rfl | (show Value.int .i64 _ = Value.int .i64 _; congr 1; omega) | (show Value.int .i64 _ = Value.int .i64 _; congr 1; rw [IntWalk.i64_in _ (by push_cast; omega)]; push_cast; omega)) ?_
    intro w5 hm5 hg5
    have hM : ∀ {b : Nat} {cs : Array Value} {T : TypeId}, Blk w4 b cs T → (some mp : Option Nat) ≠ some b := fun {b cs T} h e => by
      simp only [Option.some.injEq] at e
      obtain ⟨es, cl, hm⟩ := p5.out.isMap
      rw [Blk, ← e, hm] at h
      cases h
    have d6 := Lib.hid ((d5.out.keep hHeld).keepG hg5 (hM d5.out))
    have f6 := Lib.hid ((f5.out.keep hHeld).keepG hg5 (hM f5.out))
    have fo6 := Lib.hid ((fo5.out.keep hHeld).keepG hg5 (hM fo5.out))
    have m6 := Lib.hid ((m5.out.keep hHeld).keepG hg5 (hM m5.out))
    have v6 := Lib.hid ((v5.out.keep hHeld).keepG hg5 (hM v5.out))
    have o6 := Lib.hid ((o5.out.keep hHeld).keepG hg5 (fun g e e' => by
      obtain ⟨cur, hc⟩ := o5.out.typN e
      obtain ⟨es, cl, hm⟩ := p5.out.isMap
      simp only [Option.some.injEq] at e'
      rw [← e', hm] at hc
      cases hc))
    have n6 := Lib.hid ((n5.out.keep hHeld).only (lo := mp) (hi := mp + 1) ⟨hg5.os, hg5.tape, hg5.output, hg5.size, fun k hk hr => hg5.block k hk (fun e => by simp at e; omega)⟩ (fun g off e => by have := (hlwn.out g off e).2.2; omega))
    have HFR6 := Lib.hid (show FrC mp bD (some ⟨g', 0, none⟩) w4 (some ⟨g', 0, none⟩) w5 from (FrC.of_below hHeld).trans ⟨hg5.os, hg5.tape, hg5.output, hg5.size, fun k h1 h2 h3 h9 => hg5.block k h1 (fun e => h2 (by simpa using e)), fun g e => .inl e⟩)
    have M6 := Lib.hid hm5
    have hl6 := (show (Instr.lookup 214 (.map (some mp)) (.int .i64 (r : Int)) false).run Tryz.prog w5 = .ok (.int .i64 ((D2.length : Int) + 2)) w5 from by
      have h := hm5.look keyI Tryz.underlying214 (x := (r : Int)) (by unfold I64; omega) false
      simp only [if_true] at h
      exact h)
    have hs5 := hg5.size
    have hsz := Below.size hHeld
    refine hK.out _ _ ?_
    clear hK K
    try simp only [Act.put, s1, s2, s3]
    refine wpAnyM_done (by kernel_rfl) ?_ _
    refine NoPanic.normal ?_
    clear hM hm5 hg5 m0 ml d1 dl hHeld
    have m0 := m6.out.cell 0
    have ml := m6.out.lt
    simp at m0
    go_wp2
    go_ret
    have hlen : (D2 ++ [(⟨x.a, r1, r2⟩ : I3)]).length = D2.length + 1 := by simp
    refine ⟨rfl, some ⟨g', 0, none⟩, c', mn2 + 1, ?_, ((HF2.out.trans HFR4.out).trans HFR5.out).trans HFR6.out⟩
    refine ⟨f6.out, fo6.out, n6.out, m6.out, M6.out.congr (fun q _ => plF_put h2 (by omega) q), v6.out, by rw [hlen]; exact d6.out, by rw [hlen]; exact o6.out, by rw [hlen]; omega, ⟨hlow.1, hlow.2.1, hlow.2.2.1, hlow.2.2.2.1, hlow.2.2.2.2.1, hlow.2.2.2.2.2.1, ?_⟩, hlwn.out⟩
    have h9 := hlow.2.2.2.2.2.2
    have h8 : w4.heap.size ≤ w5.heap.size := Nat.le_trans hsz hs5
    omega
/-- an entry of a map's literal -/
theorem MapA.insL {α : Type} {Kt : TypeId} {enc : α → Value} {ok : α → Prop} {lit : α → Lit} [DecidableEq α] {w : World} {b n : Nat} {f : α → Option Int} (h : MapA Kt ok lit w b n f) (hK : KeyA Kt enc ok lit) {t : TypeId} (ht : Tryz.prog.underlying t = some (.map Kt 2)) (hn : n < maxLen) {x : α} (hx : ok x) {v : Int} (hv : I64 v)
    {o : Oper} {ops : Array Oper} {rest : List Oper} {act : Act} {Q : Exit → Act → World → Prop} (hgd : o.guard = none) (m y z : Operand) (hop : o.op = Op.insert t m y z) (hm : act.eval m = .map (some b)) (hy : act.eval y = enc x) (hz : act.eval z = .int .i64 v)
    (hk : ∀ w', MapA Kt ok lit w' b (n + 1) (fun y => if y = x then some v else f y) → w.grownBy w' (some b) → wpList Tryz.prog ops Q rest (act.put o.dst undef) w') : wpList Tryz.prog ops Q (o :: rest) act w := by
  obtain ⟨w', hrun, h1, h2⟩ := h.put hK ht hn hx hv
  refine wpList_plain hgd fun K hKK => ?_
  unfold Oper.wp
  simp [execOp, hop, hm, hy, hz, hrun, Result.andThen]
  exact hKK _ _ (hk w' h1 h2)
set_option maxRecDepth 100000 in
set_option maxHeartbeats 4000000 in
theorem impl_canonical {lo p mb nc mn : Nat} {inp root : Int} {na : Option Addr} {L : List I3} {w : World} (hFor : ForA w lo p mb inp na nc mn L) (hR : Redu L) (hL : L.length ≤ 4194000) (hinp : I64 inp) (hr : RefB root L.length) :
    Calls Tryz.prog 109 #[.pointer (some ⟨p, 0, none⟩), .int .i64 root] w fun e w' => ∃ da dc, e = .returned (.agg #[.int .i64 inp, .slice da (canN mkN L root).1.length dc, .int .i64 (canN mkN L root).2]) ∧ OwnF 3 I3.enc I3.ok 117 w' w.heap.size da (canN mkN L root).1.length dc (canN mkN L root).1 ∧ Below w.heap.size w w' := by
  obtain ⟨r, rfl⟩ : ∃ r : Nat, root = (r : Int) := ⟨root.toNat, by have := hr.1; omega⟩
  have hrn : r < L.length + 2 := by have := hr.2; omega
  have p0 := hFor.blk.cell 0
  have pl := hFor.blk.lt
  simp at p0
  have HF := Lib.hid hFor
  clear hFor
  have hmm := @run_makeMap Tryz.prog
  have M0 : Hid (∀ o1 o2 o3, MapA 2 I64 litK1 ((((w.alloc o1).alloc o2).alloc o3).alloc (.map #[] 0)) (w.heap.size + 1 + 1 + 1) 0 (fun _ => none)) := Lib.hid fun o1 o2 o3 => by
    have h := MapA.made (Kt := 2) (ok := I64) (lit := litK1) (((w.alloc o1).alloc o2).alloc o3)
    simpa using h
  go_enter Tryz.func109, Tryz.ntmps109
  go_wp2_with (first
    | ((with_reducible show wpList _ _ _ (Oper.mk _ (Op.insert _ _ _ _) _ _ _ _ :: _) _ _); refine MapA.insL M1.out keyI Tryz.underlying214 (by unfold maxLen; omega) (x := (1 : Int)) (by unfold I64; omega) (v := (1 : Int)) (by unfold I64; omega) rfl _ _ _ rfl rfl rfl rfl ?_; intro w2 hm2 hg2; have M2 := Lib.hid hm2; have G2 := Lib.hid hg2; clear hm2 hg2)
    | ((with_reducible show wpList _ _ _ (Oper.mk _ (Op.insert _ _ _ _) _ _ _ _ :: _) _ _); refine MapA.insL (M0.out _ _ _) keyI Tryz.underlying214 (by unfold maxLen; omega) (x := (0 : Int)) (by unfold I64; omega) (v := (0 : Int)) (by unfold I64; omega) rfl _ _ _ rfl rfl rfl rfl ?_; intro w1 hm1 hg1; have M1 := Lib.hid hm1; have G1 := Lib.hid hg1; clear hm1 hg1))
  have hs1 : w.heap.size + 4 ≤ w1.heap.size := by have := G1.out.size; simp at this; omega
  have hs2 : w1.heap.size ≤ w2.heap.size := G2.out.size
  have lift : ∀ {b : Nat} {cs : Array Value} {T : TypeId}, Blk ((((w.alloc (.cells #[.pointer (some ⟨p, 0, none⟩)] 101)).alloc (.cells #[.int .i64 0, .slice none 0 0, .int .i64 0] 40)).alloc (.cells #[.int .i64 inp, .slice none 0 0, .int .i64 0] 40)).alloc (.map #[] 0)) b cs T → w.heap.size + 1 + 1 + 1 ≠ b → Blk w2 b cs T := fun h hb => (h.keepN G1.out hb).keepN G2.out hb
  have bF2 := Lib.hid (lift (b := w.heap.size) (cs := #[.pointer (some ⟨p, 0, none⟩)]) (T := 101) ((Blk.made _ _ _).keep (below_alloc1 (below_alloc1 (below_alloc1 (Below.refl _ _) _) _) _)) (by omega))
  have bR2 := Lib.hid (lift (b := w.heap.size + 1) (cs := #[.int .i64 0, .slice none 0 0, .int .i64 0]) (T := 40) ((Blk.made1 _ _ _ _).keep (below_alloc1 (below_alloc1 (Below.refl _ _) _) _)) (by omega))
  have bD2 := Lib.hid (lift (b := w.heap.size + 1 + 1) (cs := #[.int .i64 inp, .slice none 0 0, .int .i64 0]) (T := 40) ((Blk.made2 _ _ _ _ _).keep (below_alloc1 (Below.refl _ _) _)) (by omega))
  have hg02 : w.grownBy w2 (some (w.heap.size + 1 + 1 + 1)) := grownBy_trans (grownBy_trans (grownBy_allocT (grownBy_allocT (grownBy_allocT (grownBy_allocT (grownBy_refl _ _) _) _) _) _) G1.out) G2.out
  have hb02 : Below w.heap.size w w2 := ⟨hg02.os, hg02.tape, hg02.output, hg02.size, fun k hk => hg02.block k hk (fun e => by simp at e; omega)⟩
  have hbW := fun (o1 o2 : Obj) => (below_alloc1 (below_alloc1 (Below.refl w2.heap.size w2) o1) o2)
  have hb0W := fun (o1 o2 : Obj) => below_callS hb02 (hbW o1 o2)
  have M3 := Lib.hid (M2.out.congr (g := plF (fun _ => 0)) (fun x _ => by
    by_cases e1 : x = 1
    · subst e1; rfl
    · by_cases e0 : x = 0
      · subst e0; rfl
      · rw [if_neg e1, if_neg e0, plF, if_neg e0, if_neg e1, if_neg (by simp)]))
  have HR := Lib.hid hR
  have hlof : ∀ g off, na = some ⟨g, off, none⟩ → g < w.heap.size := fun g off e => by
    rcases HF.out.own.flats.pos with h | ⟨b, o, ha, hb, _⟩
    · have := HF.out.own.1.2
      rcases this with ⟨he, _⟩ | ⟨g', cap, cur, he, _, hg, _⟩
      · simp only [Value.slice.injEq] at he; rw [he.1] at e; cases e
      · simp only [Value.slice.injEq] at he
        rw [he.1] at e
        simp only [Option.some.injEq, Addr.mk.injEq] at e
        exact (HF.out.own.blk g (by rw [he.1, e.1])).2
    · rw [ha] at e
      simp only [Option.some.injEq, Addr.mk.injEq] at e
      omega
  refine Calls.mono (impl_visit (lo := w2.heap.size + 2) (p := p) (mp := w.heap.size + 1 + 1 + 1) (na := na) (n := L.length) (inp := inp) (nc := nc) (mb := mb) hR hL hinp r r [] (fun _ => 0) none 0 2 _ ?_ (WkI.start L) (Nat.le_refl _) hrn) ?_
  · refine ⟨bF2.out.keep (hbW _ _), (HF.out.keep (hb0W _ _)).blk, (HF.out.keep (hb0W _ _)).own.flats, ?_, M3.out.keep (hbW _ _), Blk.made1 _ _ _ _, bD2.out.keep (hbW _ _), ⟨World.ownsRow_nil _ _ _ 3, (fun _ h => by cases h), rfl, fun _ => rfl⟩, by omega, ?_, fun g off e => ?_⟩
    · exact (Blk.made _ _ _).keep (below_alloc1 (Below.refl _ _) _)
    · simp
      have := HF.out.blk.lt
      omega
    · have := hlof g off e
      omega
  rintro e w5 ⟨rfl, da, dc, mn', hC, hFr⟩
  have hca := Lib.hid (can_same hR hr)
  rw [canN, canN, Int.toNat_natCast] at hca
  have X5 := Lib.hid ((bR2.out.keep (hbW _ _)).frc hFr (by omega) (by omega) (fun g e => by cases e))
  have HC := Lib.hid hC
  have HB5 := Lib.hid (show Below w.heap.size w w5 from ⟨hFr.os.trans (hb0W _ _).os, hFr.tape.trans (hb0W _ _).tape, hFr.output.trans (hb0W _ _).output, Nat.le_trans (hb0W _ _).size hFr.size, fun k hk => (hFr.block k (Nat.lt_of_lt_of_le hk (hb0W _ _).size) (by omega) (by omega) (fun g e => by cases e)).trans ((hb0W _ _).block k hk)⟩)
  have hs5 := hFr.size
  simp at hs5
  clear hC hFr hbW hb0W lift
  generalize wlkN appN L r ([], fun _ => 0) r = A at *
  obtain ⟨D, P, rt⟩ := A
  simp only at HC
  have d0 := HC.out.d.cell 0
  have d1 := HC.out.d.cell 1
  have d2 := HC.out.d.cell 2
  have dl := HC.out.d.lt
  have df := HC.out.d.free
  have x0 := X5.out.cell 0
  have x1 := X5.out.cell 1
  have x2 := X5.out.cell 2
  have xl := X5.out.lt
  have xf := X5.out.free
  simp only [List.getElem?_toArray, List.getElem?_cons_succ, List.getElem?_cons_zero] at d0 d1 d2 x0 x1 x2
  go_wp2
  have hcan : canN mkN L (r : Int) = (D, rt) := by rw [canN, Int.toNat_natCast]; exact hca.out
  have hne : ∀ {b : Nat}, b < w2.heap.size → ∀ g, da = some ⟨g, 0, none⟩ → (some b : Option Nat) ≠ some g := fun {b} hb g e e' => by
    have := (HC.out.own.blk g e).1
    simp at e'
    omega
  have O := HC.out.own
  have HB := HB5.out
  refine bodyPost_ret (v := .agg #[.int .i64 inp, .slice da D.length dc, .int .i64 rt]) (by simp [results, Tryz.results109, go_sem, *]) rfl ⟨da, dc, ?_, ?_, ?_⟩
  · rw [hcan]
  · rw [hcan]
    exact ((((O.keepG (set_grown _ _ _) (hne (by omega))).keepG (set_grown _ _ _) (hne (by omega))).keepG (set_grown _ _ _) (hne (by omega))).keepG (set_grown _ _ _) (hne (by omega))).le (by omega)
  · exact bel
set_option maxRecDepth 100000 in
set_option maxHeartbeats 2000000 in
theorem impl_limited {lo p mb nc mn : Nat} {inp root : Int} {na : Option Addr} {L : List I3} {w : World} (hFor : ForA w lo p mb inp na nc mn L) (hR : Redu L) (hL : L.length ≤ 4194000) (hinp : I64 inp) (hr : RefB root L.length) (hfew : (canN mkN L root).1.length ≤ 2000) :
    Calls Tryz.prog 90 #[.pointer (some ⟨p, 0, none⟩), .int .i64 root] w fun e w' => ∃ da dc, e = .returned (.tuple #[.agg #[.int .i64 inp, .slice da (canN mkN L root).1.length dc, .int .i64 (canN mkN L root).2], .int .i64 0]) ∧ OwnF 3 I3.enc I3.ok 117 w' w.heap.size da (canN mkN L root).1.length dc (canN mkN L root).1 ∧ Below w.heap.size w w' := by
  have hbW := fun (o : Obj) => below_alloc1 (Below.refl w.heap.size w) o
  have HF := Lib.hid hFor
  clear hFor
  go_enter Tryz.func90, Tryz.ntmps90
  go_wp2_with fail
  refine Calls.mono (impl_canonical (HF.out.keep (hbW _)) hR hL hinp hr) ?_
  rintro e w1 ⟨da, dc, rfl, hO, hb1⟩
  have X1 := Lib.hid ((Blk.made w #[.int .i64 0, .slice none 0 0, .int .i64 0] 40).keep hb1)
  have hs1 := hb1.size
  simp at hs1
  have O1 := Lib.hid hO
  have HB1 := Lib.hid (below_callS (hbW _) hb1)
  clear hO hb1 hbW
  have hn : ¬ (2000 : Int) < ((canN mkN L root).1.length : Int) := by omega
  have x0 := X1.out.cell 0
  have x1 := X1.out.cell 1
  have x2 := X1.out.cell 2
  have xl := X1.out.lt
  have xf := X1.out.free
  simp only [List.getElem?_toArray, List.getElem?_cons_succ, List.getElem?_cons_zero] at x0 x1 x2
  go_wp2
  have hne : ∀ g, da = some ⟨g, 0, none⟩ → (some w.heap.size : Option Nat) ≠ some g := fun g e e' => by
    have := (O1.out.blk g e).1
    simp at e' this
    omega
  have hb0 : Below w.heap.size w w1 := HB1.out
  refine bodyPost_ret (v := .tuple #[.agg #[.int .i64 inp, .slice da (canN mkN L root).1.length dc, .int .i64 (canN mkN L root).2], .int .i64 0]) (by simp [results, Tryz.results90, go_sem, *]) rfl ⟨da, dc, rfl, ?_, ?_⟩
  · exact ((((O1.out.keepG (set_grown _ _ _) hne).keepG (set_grown _ _ _) hne).keepG (set_grown _ _ _) hne).keep (below_alloc1 (Below.refl _ _) _)).le (by simp)
  · exact bel
end Go.Proofs.YtkaikbaagajckaaGreat
