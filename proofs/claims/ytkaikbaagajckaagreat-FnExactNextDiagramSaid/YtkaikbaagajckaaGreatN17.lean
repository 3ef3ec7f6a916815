/- Decision diagrams: an input fixed, ones counted: plain laws.; Tests as diagrams: plain laws.; Sets of lists of bits as diagrams: plain laws.; Different states, sorted by the program: the states in order. -/
import Derived.Test.YtkaikbaagajckaaGreatN16
import Derived.Test.YtkaikbaagajckaaGreatN09
import Derived.Test.YtkaikbaagajckaaGreatN14
import Derived.Test.YtkaikbaagajckaaGreatN15
namespace Go.Proofs.YtkaikbaagajckaaGreat
open Go.RowKit
set_option linter.unusedVariables false
set_option linter.unusedSimpArgs false
/-- one node of a diagram in which an input is fixed -/
def fxS (inp bit : Int) (s : List I3 × List Int) (x : I3) : List I3 × List Int :=
  if x.a ≠ inp then ((mkN s.1 x.a (s.2.getD x.b.toNat 0) (s.2.getD x.c.toNat 0)).1, s.2 ++ [(mkN s.1 x.a (s.2.getD x.b.toNat 0) (s.2.getD x.c.toNat 0)).2])
  else (s.1, s.2 ++ [if bit = 0 then s.2.getD x.b.toNat 0 else s.2.getD x.c.toNat 0])
structure FxI (n : Int) (inp : Nat) (bit : Int) (N : List I3) (k : Nat) (s : List I3 × List Int) : Prop where
  snd : Snd n s.1
  len : s.2.length = k + 2
  few : s.1.length ≤ k
  low : s.2[0]? = some 0 ∧ s.2[1]? = some 1
  at' : ∀ (r : Nat) (q : Int), s.2[r]? = some q → RefB q s.1.length ∧ lvlN n N (r : Int) ≤ lvlN n s.1 q ∧ ∀ β, evR s.1 β q = evR N (fixB β inp (decide (bit ≠ 0))) (r : Int)
theorem FxI.start {n : Int} {inp : Nat} {bit : Int} {N : List I3} : FxI n inp bit N 0 ([], [0, 1]) := by
  refine ⟨Snd.nil n, rfl, Nat.le_refl _, ⟨rfl, rfl⟩, fun r q h => ?_⟩
  have hr : r = 0 ∨ r = 1 := by
    have := (List.getElem?_eq_some_iff.1 h).1
    simp at this; omega
  rcases hr with rfl | rfl
  · simp at h; subst h
    exact ⟨⟨by omega, by simp⟩, by rw [lvl_low (by omega), lvl_low (by omega)]; exact Int.le_refl _, fun β => by rw [ev_low (by omega), ev_low (by omega)]; rfl⟩
  · simp at h; subst h
    exact ⟨⟨by omega, by simp⟩, by rw [lvl_low (by omega), lvl_low (by omega)]; exact Int.le_refl _, fun β => by rw [ev_low (by omega), ev_low (by omega)]; rfl⟩
theorem FxI.step {n : Int} {inp : Nat} {bit : Int} {N : List I3} {k : Nat} {s : List I3 × List Int} (hN : Snd n N) (h : FxI n inp bit N k s) {x : I3} (hx : N[k]? = some x) : FxI n inp bit N (k + 1) (fxS inp bit s x) := by
  obtain ⟨o1, o2, o3, o4⟩ := hN.ord _ _ hx
  have hF := hN.redu.frst
  have f3 := hF.low _ _ hx
  have f4 := hF.high _ _ hx
  have f3' := f3.1
  have f3'' := f3.2
  have f4' := f4.1
  have f4'' := f4.2
  have hl := h.len
  obtain ⟨lo, hlo⟩ : ∃ lo, s.2[x.b.toNat]? = some lo := ⟨_, List.getElem?_eq_getElem (by omega)⟩
  obtain ⟨hi, hhi⟩ : ∃ hi, s.2[x.c.toNat]? = some hi := ⟨_, List.getElem?_eq_getElem (by omega)⟩
  have e1 : s.2.getD x.b.toNat 0 = lo := by rw [List.getD_eq_getElem?_getD, hlo]; rfl
  have e2 : s.2.getD x.c.toNat 0 = hi := by rw [List.getD_eq_getElem?_getD, hhi]; rfl
  obtain ⟨b1, b2, b3⟩ := h.at' _ _ hlo
  obtain ⟨c1, c2, c3⟩ := h.at' _ _ hhi
  have hb0 : (x.b.toNat : Int) = x.b := by omega
  have hc0 : (x.c.toNat : Int) = x.c := by omega
  rw [hb0] at b2 b3
  rw [hc0] at c2 c3
  have hLF := h.snd.redu.frst
  rw [fxS, e1, e2]
  by_cases hi2 : x.a = (inp : Int)
  · rw [if_neg (by simpa using hi2)]
    have hev : ∀ β, evR N (fixB β inp (decide (bit ≠ 0))) ((k : Int) + 2) = evR s.1 β (if bit = 0 then lo else hi) := fun β => by
      rw [ev_node hF hx, hi2, Int.toNat_natCast, fixB, if_pos rfl]
      by_cases hb : bit = 0
      · rw [if_pos hb, if_neg (by simpa using hb), b3]
      · rw [if_neg hb, if_pos (by simpa using hb), c3]
    refine ⟨h.snd, by rw [List.length_append, hl]; rfl, Nat.le_succ_of_le h.few, ?_, fun r q hq => ?_⟩
    · rw [List.getElem?_append_left (by omega), List.getElem?_append_left (by omega)]; exact h.low
    · simp only at hq ⊢
      by_cases hr : r < k + 2
      · rw [List.getElem?_append_left (by omega)] at hq
        exact h.at' r q hq
      · have hr2 : r = k + 2 := by
          have := (List.getElem?_eq_some_iff.1 hq).1
          simp at this; omega
        subst hr2
        rw [List.getElem?_append_right (by omega), hl, Nat.sub_self] at hq
        simp at hq
        rw [show ((k + 2 : Nat) : Int) = (k : Int) + 2 by omega, lvl_node hx]
        subst hq
        refine ⟨?_, ?_, fun β => (hev β).symm⟩
        · split
          · exact b1
          · exact c1
        · split <;> omega
  · rw [if_pos hi2]
    have l1 : x.a < lvlN n s.1 lo := by omega
    have l2 : x.a < lvlN n s.1 hi := by omega
    have hS := h.snd.add b1 c1 o1 o2 l1 l2
    have hO := h.snd.ord.add hLF b1 c1 o1 o2 l1 l2
    have hR := (hLF.add (i := x.a) b1 c1).2
    obtain ⟨t, ht, ht1⟩ := mkN_pre s.1 x.a lo hi
    have hn : ¬ x.a.toNat = inp := fun e => hi2 (by omega)
    refine ⟨hS, by simp only [List.length_append, hl, List.length_cons, List.length_nil], by simp only [ht, List.length_append]; have := h.few; omega, ?_, fun r q hq => ?_⟩
    · simp only
      rw [List.getElem?_append_left (by omega), List.getElem?_append_left (by omega)]; exact h.low
    · simp only at hq ⊢
      by_cases hr : r < k + 2
      · rw [List.getElem?_append_left (by omega)] at hq
        obtain ⟨m1, m2, m3⟩ := h.at' r q hq
        refine ⟨?_, ?_, fun β => ?_⟩
        · rw [ht, List.length_append]; exact m1.mono (by omega)
        · rw [ht, lvl_app m1]; exact m2
        · rw [ev_keep hLF m1]; exact m3 β
      · have hr2 : r = k + 2 := by
          have := (List.getElem?_eq_some_iff.1 hq).1
          simp at this; omega
        subst hr2
        rw [List.getElem?_append_right (by omega), hl, Nat.sub_self] at hq
        simp at hq
        subst hq
        rw [show ((k + 2 : Nat) : Int) = (k : Int) + 2 by omega, lvl_node hx]
        refine ⟨hR, hO.2, fun β => ?_⟩
        rw [ev_mk hLF b1 c1, ev_node hF hx, fixB, if_neg hn]
        by_cases hb : β x.a.toNat = true
        · rw [if_pos hb, if_pos hb, c3]
        · rw [if_neg hb, if_neg hb, b3]
/-! ### counting -/
/-- for how many lists of bits a diagram has the value 1 -/
def onesN (n : Int) (L : List I3) (root : Int) : Nat := cntR n L root * 2 ^ (lvlN n L root).toNat
theorem lvl_pos {n : Int} {L : List I3} (hO : OrdN n L) (hn : 0 ≤ n) {r : Int} (hr : RefB r L.length) : 0 ≤ lvlN n L r := by
  by_cases h2 : r < 2
  · rw [lvl_low h2]; exact hn
  · obtain ⟨k, rfl⟩ : ∃ k : Nat, r = (k : Int) + 2 := ⟨(r - 2).toNat, by omega⟩
    have hlt : k < L.length := by have := hr.2; omega
    have hx := List.getElem?_eq_getElem hlt
    rw [lvl_node hx]; exact (hO _ _ hx).1
theorem ones_ls {n : Nat} {L : List I3} (h : Snd (n : Int) L) {root : Int} (hr : RefB root L.length) : onesN (n : Int) L root = (lsN (n : Int) L n root).length := by
  have := cnt_ls h.redu.frst h.ord n root (Nat.le_refl _) hr (by rw [Nat.sub_self]; exact lvl_pos h.ord (by omega) hr)
  rw [this, onesN, Nat.sub_self, show lvlN (n : Int) L root - ((0 : Nat) : Int) = lvlN (n : Int) L root by omega]
theorem off_sum {sz : List Int} (hs : allIn 1 32 sz = true) (hn : sz.length ≤ 16) : (sz.map wN).sum = (offN sz sz.length : Int) ∧ ∀ k, k ≤ sz.length → offN sz k ≤ 5 * k := by
  refine ⟨(offN_full hs).symm, fun k => ?_⟩
  induction k with
  | zero => intro _; simp [offN]
  | succ k ih =>
    intro hk
    obtain ⟨z, hz⟩ : ∃ z, sz[k]? = some z := ⟨_, List.getElem?_eq_getElem (by omega)⟩
    have h2 := allIn_at hs hz
    have hw := wN_in h2.1 h2.2
    rw [offN_step hz]
    have := ih (by omega)
    omega
/-- the values of a variable that are allowed, from one of its bits on, and what follows -/
def vtN (al : Int → Bool) : Nat → List I3 → Int → Int → Int → List I3 × Int
  | 0, L, v, _, rest => (L, if al v = true then rest else 0)
  | k + 1, L, v, i, rest => mkN (vtN al k (vtN al k L (2 * v) (i + 1) rest).1 (2 * v + 1) (i + 1) rest).1 i (vtN al k L (2 * v) (i + 1) rest).2 (vtN al k (vtN al k L (2 * v) (i + 1) rest).1 (2 * v + 1) (i + 1) rest).2
/-- the value of k bits from i on, behind some -/
def vbN (β : Nat → Bool) : Nat → Nat → Int → Int
  | 0, _, v => v
  | k + 1, i, v => vbN β k (i + 1) (2 * v + if β i = true then 1 else 0)
theorem vt_inv {n : Int} {al : Int → Bool} : ∀ (k : Nat) (L : List I3) (v : Int) (i : Nat) (rest : Int), Snd n L → RefB rest L.length → (i : Int) + k ≤ n → (i : Int) + k ≤ lvlN n L rest →
    Snd n (vtN al k L v i rest).1 ∧ RefB (vtN al k L v i rest).2 (vtN al k L v i rest).1.length ∧ (i : Int) ≤ lvlN n (vtN al k L v i rest).1 (vtN al k L v i rest).2 ∧ (∃ t, (vtN al k L v i rest).1 = L ++ t ∧ t.length + 1 ≤ 2 ^ k) ∧
    ∀ β, evR (vtN al k L v i rest).1 β (vtN al k L v i rest).2 = (evR L β rest && al (vbN β k i v)) := by
  intro k
  induction k with
  | zero =>
    intro L v i rest hS hr hn hl
    rw [vtN]
    cases ha : al v
    · simp only [Bool.false_eq_true, if_false]
      refine ⟨hS, ⟨by omega, by omega⟩, by rw [lvl_low (by omega)]; omega, ⟨[], by simp, by simp⟩, fun β => ?_⟩
      rw [ev_zero, vbN, ha, Bool.and_false]
    · simp only [if_true]
      refine ⟨hS, hr, by omega, ⟨[], by simp, by simp⟩, fun β => ?_⟩
      rw [vbN, ha, Bool.and_true]
  | succ k ih =>
    intro L v i rest hS hr hn hl
    push_cast at hn hl
    obtain ⟨a1, a2, a3, ⟨t1, a4, a5⟩, a6⟩ := ih L (2 * v) (i + 1) rest hS hr (by push_cast; omega) (by push_cast; omega)
    have ei : (((i + 1 : Nat)) : Int) = (i : Int) + 1 := by omega
    rw [ei] at a1 a2 a3 a4 a6
    rw [vtN]
    generalize vtN al k L (2 * v) ((i : Int) + 1) rest = A at *
    obtain ⟨A1, A2⟩ := A
    simp only at a1 a2 a3 a4 a6 ⊢
    have hr1 : RefB rest A1.length := hr.mono (by rw [a4, List.length_append]; omega)
    have hl1 : lvlN n A1 rest = lvlN n L rest := by rw [a4]; exact lvl_app hr
    have he1 : ∀ β, evR A1 β rest = evR L β rest := fun β => by rw [a4]; exact ev_app hS.redu.frst hr
    obtain ⟨b1, b2, b3, ⟨t2, b4, b5⟩, b6⟩ := ih A1 (2 * v + 1) (i + 1) rest a1 hr1 (by push_cast; omega) (by rw [hl1]; push_cast; omega)
    rw [ei] at b1 b2 b3 b4 b6
    generalize vtN al k A1 (2 * v + 1) ((i : Int) + 1) rest = B at *
    obtain ⟨B1, B2⟩ := B
    simp only at b1 b2 b3 b4 b6 ⊢
    have hl2 : RefB A2 B1.length := a2.mono (by rw [b4, List.length_append]; omega)
    have hv2 : lvlN n B1 A2 = lvlN n A1 A2 := by rw [b4]; exact lvl_app a2
    have he2 : ∀ β, evR B1 β A2 = evR A1 β A2 := fun β => by rw [b4]; exact ev_app a1.redu.frst a2
    have hF := b1.redu.frst
    obtain ⟨t3, c4, c5⟩ := mkN_pre B1 i A2 B2
    have hA := hF.add (i := (i : Int)) hl2 b2
    have hO := b1.ord.add hF (i := (i : Int)) hl2 b2 (by omega) (by omega) (by rw [hv2]; omega) (by omega)
    refine ⟨b1.add hl2 b2 (by omega) (by omega) (by rw [hv2]; omega) (by omega), hA.2, hO.2, ⟨t1 ++ (t2 ++ t3), by rw [c4, b4, a4]; simp, ?_⟩, fun β => ?_⟩
    · rw [List.length_append, List.length_append, Nat.pow_succ]; omega
    · rw [ev_mk hF hl2 b2, Int.toNat_natCast, b6, he2, a6, he1, vbN]
      cases β i <;> simp
theorem mkN_ref {L : List I3} {i lo hi : Int} (hl : RefB lo L.length) : RefB (mkN L i lo hi).2 (mkN L i lo hi).1.length := by
  unfold mkN
  split
  · exact hl
  · split
    · rename_i k hk
      have := (List.getElem?_eq_some_iff.1 (posN_some hk).1).1
      exact ⟨by simp only; omega, by simp only; omega⟩
    · exact ⟨by simp only; omega, by simp only [List.length_append, List.length_cons, List.length_nil]; omega⟩
theorem vt_ref {al : Int → Bool} : ∀ (k : Nat) (L : List I3) (v i rest : Int), RefB rest L.length →
    RefB (vtN al k L v i rest).2 (vtN al k L v i rest).1.length ∧ L.length ≤ (vtN al k L v i rest).1.length ∧ (vtN al k L v i rest).1.length + 1 ≤ L.length + 2 ^ k := by
  intro k
  induction k with
  | zero =>
    intro L v i rest hr
    rw [vtN]
    refine ⟨?_, Nat.le_refl _, by simp⟩
    cases al v
    · exact ⟨by simp, by simp; omega⟩
    · exact hr
  | succ k ih =>
    intro L v i rest hr
    obtain ⟨a1, a2, a3⟩ := ih L (2 * v) (i + 1) rest hr
    rw [vtN]
    generalize vtN al k L (2 * v) (i + 1) rest = A at *
    obtain ⟨A1, A2⟩ := A
    simp only at a1 a2 a3 ⊢
    obtain ⟨b1, b2, b3⟩ := ih A1 (2 * v + 1) (i + 1) rest (hr.mono a2)
    generalize vtN al k A1 (2 * v + 1) (i + 1) rest = B at *
    obtain ⟨B1, B2⟩ := B
    simp only at b1 b2 b3 ⊢
    obtain ⟨t3, c4, c5⟩ := mkN_pre B1 i A2 B2
    have hlen : (mkN B1 i A2 B2).1.length = B1.length + t3.length := by rw [c4, List.length_append]
    refine ⟨mkN_ref (a1.mono b2), by omega, ?_⟩
    rw [Nat.pow_succ]; omega
theorem vt_new {al : Int → Bool} {k : Nat} {L : List I3} {v i rest : Int} {A B : List I3 × Int} (hA : vtN al k L (2 * v) (i + 1) rest = A) (hB : vtN al k A.1 (2 * v + 1) (i + 1) rest = B) : vtN al (k + 1) L v i rest = mkN B.1 i A.2 B.2 := by
  subst hA hB; rfl
/-- what a test allows -/
def alB (sz : List Int) (g : List I2b) (j : Nat) (v : Int) : Bool := decide (v < sz.getD j 0) && !(g.any fun t => decide (t.a = (j : Int)) && (decide (v = t.b) != t.c))
/-- behind the last k variables -/
def tdN (sz : List Int) (g : List I2b) : Nat → List I3 × Int
  | 0 => ([], 1)
  | k + 1 => vtN (alB sz g (sz.length - 1 - k)) (wN (sz.getD (sz.length - 1 - k) 0)).toNat (tdN sz g k).1 0 (offN sz (sz.length - 1 - k) : Int) (tdN sz g k).2
theorem td_inv {sz : List Int} {g : List I2b} (hs : allIn 1 32 sz = true) : ∀ k, k ≤ sz.length →
    Snd (offN sz sz.length : Int) (tdN sz g k).1 ∧ RefB (tdN sz g k).2 (tdN sz g k).1.length ∧ (offN sz (sz.length - k) : Int) ≤ lvlN (offN sz sz.length : Int) (tdN sz g k).1 (tdN sz g k).2 ∧ (tdN sz g k).1.length ≤ 31 * k ∧
    ∀ β, evR (tdN sz g k).1 β (tdN sz g k).2 = true ↔ ∀ j, sz.length - k ≤ j → j < sz.length → alB sz g j (vbN β (wN (sz.getD j 0)).toNat (offN sz j) 0) = true := by
  intro k
  induction k with
  | zero =>
    intro _
    rw [tdN]
    refine ⟨Snd.nil _, ⟨by omega, by simp⟩, by rw [lvl_low (by omega)]; simp, by simp, fun β => ?_⟩
    rw [ev_low (by omega)]
    simp only [decide_true, true_iff]
    intro j h1 h2
    omega
  | succ k ih =>
    intro hk
    obtain ⟨i1, i2, i3, i4, i5⟩ := ih (by omega)
    obtain ⟨q, hq⟩ : ∃ q, q = sz.length - 1 - k := ⟨_, rfl⟩
    have hql : q < sz.length := by omega
    obtain ⟨z, hz⟩ : ∃ z, sz[q]? = some z := ⟨_, List.getElem?_eq_getElem hql⟩
    have hgd : sz.getD q 0 = z := getD_of hz
    have hz2 := allIn_at hs hz
    have hw := wN_in hz2.1 hz2.2
    have hst := offN_step hz
    have hof := offN_le (sz := sz) (k := q + 1) (by omega)
    have e1 : sz.length - k = q + 1 := by omega
    rw [e1] at i3 i5
    rw [tdN, ← hq, hgd]
    generalize tdN sz g k = A at *
    obtain ⟨L, r⟩ := A
    simp only at i1 i2 i3 i4 i5 ⊢
    obtain ⟨b1, b2, b3, ⟨t, b4, b5⟩, b6⟩ := vt_inv (al := alB sz g q) (wN z).toNat L 0 (offN sz q) r i1 i2 (by omega) (by omega)
    have h32 : 2 ^ (wN z).toNat ≤ 32 := Nat.le_trans (Nat.pow_le_pow_right (by decide) (show (wN z).toNat ≤ 5 by omega)) (by decide)
    refine ⟨b1, b2, by rw [show sz.length - (k + 1) = q by omega]; exact b3, by rw [b4, List.length_append]; omega, fun β => ?_⟩
    rw [b6, Bool.and_eq_true, i5, show sz.length - (k + 1) = q by omega]
    constructor
    · rintro ⟨h1, h2⟩ j hj1 hj2
      by_cases hjq : j = q
      · subst hjq; rw [hgd]; exact h2
      · exact h1 j (by omega) hj2
    · intro h
      refine ⟨fun j h1 h2 => h j (by omega) h2, ?_⟩
      have := h q (Nat.le_refl _) hql
      rw [hgd] at this
      exact this
/-- the diagram of tests -/
def tsN (sz : List Int) (g : List I2b) : List I3 × Int := canN mkN (tdN sz g sz.length).1 (tdN sz g sz.length).2
theorem ts_few {sz : List Int} {g : List I2b} (hs : allIn 1 32 sz = true) (hn : sz.length ≤ 16) : (tsN sz g).1.length ≤ 496 := by
  obtain ⟨i1, i2, _, i4, _⟩ := td_inv (g := g) hs sz.length (Nat.le_refl _)
  have := can_length i1.redu i2
  rw [tsN]; omega
/-- how many of the lists come before the first with the bit 1 at an input -/
def cutN (i : Nat) (ls : List (List Int)) : Nat := (ls.takeWhile fun l => !(l.getD i 0 == 1)).length
theorem cut_le (i : Nat) (ls : List (List Int)) : cutN i ls ≤ ls.length := (List.takeWhile_sublist _).length_le
/-- the diagram of lists of bits from an input on; k inputs are left -/
def stN : Nat → Nat → List (List Int) → List I3 → List I3 × Int
  | 0, _, ls, L => (L, if ls = [] then 0 else 1)
  | k + 1, i, ls, L => if ls = [] then (L, 0) else
    mkN (stN k (i + 1) (ls.drop (cutN i ls)) (stN k (i + 1) (ls.take (cutN i ls)) L).1).1 (i : Int) (stN k (i + 1) (ls.take (cutN i ls)) L).2 (stN k (i + 1) (ls.drop (cutN i ls)) (stN k (i + 1) (ls.take (cutN i ls)) L).1).2
theorem st_nil (k i : Nat) (L : List I3) : stN k i [] L = (L, 0) := by cases k <;> rfl
theorem st_end {i : Nat} {ls : List (List Int)} {L : List I3} (h : ls ≠ []) : stN 0 i ls L = (L, 1) := by rw [stN, if_neg h]
theorem st_new {k i : Nat} {ls : List (List Int)} {L : List I3} {A B : List I3 × Int} (h : ls ≠ []) (hA : stN k (i + 1) (ls.take (cutN i ls)) L = A) (hB : stN k (i + 1) (ls.drop (cutN i ls)) A.1 = B) : stN (k + 1) i ls L = mkN B.1 (i : Int) A.2 B.2 := by
  subst hA hB; rw [stN, if_neg h]
theorem st_ref : ∀ (k i : Nat) (ls : List (List Int)) (L : List I3),
    RefB (stN k i ls L).2 (stN k i ls L).1.length ∧ L.length ≤ (stN k i ls L).1.length ∧ (stN k i ls L).1.length + 1 ≤ L.length + 2 ^ k := by
  intro k
  induction k with
  | zero =>
    intro i ls L
    rw [stN]
    refine ⟨?_, Nat.le_refl _, by simp⟩
    split <;> exact ⟨by simp, by simp; omega⟩
  | succ k ih =>
    intro i ls L
    by_cases h : ls = []
    · subst h
      rw [st_nil]
      exact ⟨⟨by simp, by simp; omega⟩, Nat.le_refl _, by have := Nat.two_pow_pos (k + 1); simp only; omega⟩
    · obtain ⟨a1, a2, a3⟩ := ih (i + 1) (ls.take (cutN i ls)) L
      obtain ⟨b1, b2, b3⟩ := ih (i + 1) (ls.drop (cutN i ls)) (stN k (i + 1) (ls.take (cutN i ls)) L).1
      rw [st_new h rfl rfl]
      generalize stN k (i + 1) (ls.take (cutN i ls)) L = A at *
      obtain ⟨A1, A2⟩ := A
      simp only at a1 a2 a3 b1 b2 b3 ⊢
      generalize stN k (i + 1) (ls.drop (cutN i ls)) A1 = B at *
      obtain ⟨B1, B2⟩ := B
      simp only at b1 b2 b3 ⊢
      obtain ⟨t3, c4, c5⟩ := mkN_pre B1 i A2 B2
      have hlen : (mkN B1 i A2 B2).1.length = B1.length + t3.length := by rw [c4, List.length_append]
      refine ⟨mkN_ref (a1.mono b2), by omega, ?_⟩
      rw [Nat.pow_succ]; omega
theorem st_inv {n : Nat} : ∀ (k i : Nat) (ls : List (List Int)) (L : List I3), Snd (n : Int) L → i + k = n →
    Snd (n : Int) (stN k i ls L).1 ∧ RefB (stN k i ls L).2 (stN k i ls L).1.length ∧ (i : Int) ≤ lvlN (n : Int) (stN k i ls L).1 (stN k i ls L).2 ∧ ∃ t, (stN k i ls L).1 = L ++ t := by
  intro k
  induction k with
  | zero =>
    intro i ls L hS hn
    have hrf := (st_ref 0 i ls L).1
    rw [stN] at hrf ⊢
    refine ⟨hS, hrf, ?_, [], by simp⟩
    rw [lvl_low (by simp only; split <;> omega)]; omega
  | succ k ih =>
    intro i ls L hS hn
    by_cases h : ls = []
    · subst h
      rw [st_nil]
      refine ⟨hS, ⟨by simp, by simp; omega⟩, by rw [lvl_low (by simp)]; omega, [], by simp⟩
    · obtain ⟨a1, a2, a3, t1, a4⟩ := ih (i + 1) (ls.take (cutN i ls)) L hS (by omega)
      rw [st_new h rfl rfl]
      generalize stN k (i + 1) (ls.take (cutN i ls)) L = A at *
      obtain ⟨A1, A2⟩ := A
      simp only at a1 a2 a3 a4 ⊢
      obtain ⟨b1, b2, b3, t2, b4⟩ := ih (i + 1) (ls.drop (cutN i ls)) A1 a1 (by omega)
      generalize stN k (i + 1) (ls.drop (cutN i ls)) A1 = B at *
      obtain ⟨B1, B2⟩ := B
      simp only at b1 b2 b3 b4 ⊢
      have hl2 : RefB A2 B1.length := a2.mono (by rw [b4, List.length_append]; omega)
      have hv2 : lvlN (n : Int) B1 A2 = lvlN (n : Int) A1 A2 := by rw [b4]; exact lvl_app a2
      have hF := b1.redu.frst
      push_cast at a3 b3
      obtain ⟨t3, c4, c5⟩ := mkN_pre B1 i A2 B2
      have hA := hF.add (i := (i : Int)) hl2 b2
      have hO := b1.ord.add hF (i := (i : Int)) hl2 b2 (by omega) (by omega) (by rw [hv2]; omega) (by omega)
      exact ⟨b1.add hl2 b2 (by omega) (by omega) (by rw [hv2]; omega) (by omega), hA.2, hO.2, t1 ++ (t2 ++ t3), by rw [c4, b4, a4]; simp⟩
/-- the canonical diagram of a set of lists of n bits -/
def rdN (n : Nat) (ls : List (List Int)) : List I3 × Int := canN mkN (stN n 0 ls []).1 (stN n 0 ls []).2
/-- a list of states in order, with one more -/
def insS (K : List (List Int)) (x : List Int) : List (List Int) := if x ∈ K then K else K.takeWhile (fun a => decide (cmpL a x < 0)) ++ [x] ++ K.dropWhile (fun a => decide (cmpL a x < 0))
/-- the different states of a list, in order -/
def srtS (xs : List (List Int)) : List (List Int) := xs.foldl insS []
theorem tw_take {α : Type} (p : α → Bool) : ∀ l : List α, l.take (l.takeWhile p).length = l.takeWhile p
  | [] => rfl
  | x :: r => by
    rw [List.takeWhile_cons]
    split
    · rw [List.length_cons, List.take_succ_cons, tw_take p r]
    · rfl
theorem tw_drop {α : Type} (p : α → Bool) : ∀ l : List α, l.drop (l.takeWhile p).length = l.dropWhile p
  | [] => rfl
  | x :: r => by
    rw [List.takeWhile_cons, List.dropWhile_cons]
    split
    · rw [List.length_cons, List.drop_succ_cons, tw_drop p r]
    · rfl
theorem tw_mem {α : Type} {p : α → Bool} : ∀ {l : List α} {a : α}, a ∈ l.takeWhile p → p a = true
  | [], a, h => by simp at h
  | x :: r, a, h => by
    rw [List.takeWhile_cons] at h
    split at h
    · rename_i hx
      rcases List.mem_cons.1 h with e | h
      · rw [e]; exact hx
      · exact tw_mem h
    · cases h
theorem tw_at {α : Type} {p : α → Bool} : ∀ {l : List α} {a : α}, l[(l.takeWhile p).length]? = some a → p a = false
  | [], a, h => by simp at h
  | x :: r, a, h => by
    rw [List.takeWhile_cons] at h
    split at h
    · rw [List.length_cons, List.getElem?_cons_succ] at h
      exact tw_at h
    · rename_i hx
      simp at h
      subst h
      simpa using hx
theorem tw_plc {m : Nat} {K : List (List Int)} {x : List Int} (h : AscS m K) (hx : x.length = m) : Plc K x (K.takeWhile (fun a => decide (cmpL a x < 0))).length := by
  refine ⟨(List.takeWhile_sublist _).length_le, fun i a ha hi => ?_, fun i a ha hi => ?_⟩
  · have h1 : (K.takeWhile (fun a => decide (cmpL a x < 0)))[i]? = some a := by rw [← tw_take, List.getElem?_take, if_pos hi]; exact ha
    exact of_decide_eq_true (tw_mem (p := fun a => decide (cmpL a x < 0)) (List.mem_of_getElem? h1))
  · obtain ⟨b, hb⟩ : ∃ b, K[(K.takeWhile (fun a => decide (cmpL a x < 0))).length]? = some b := ⟨_, List.getElem?_eq_getElem (by have := (List.getElem?_eq_some_iff.1 ha).1; omega)⟩
    have h1 := of_decide_eq_false (tw_at (p := fun a => decide (cmpL a x < 0)) hb)
    rcases Nat.lt_or_ge (K.takeWhile (fun a => decide (cmpL a x < 0))).length i with h2 | h2
    · have h3 := asc_lt h hb ha h2
      have lb := h.1 b (List.mem_of_getElem? hb)
      have la := h.1 a (List.mem_of_getElem? ha)
      refine Int.not_lt.1 fun h4 => h1 (cmpL_trans (by rw [lb, la]) (by rw [la, hx]) h3 h4)
    · have e : i = (K.takeWhile (fun a => decide (cmpL a x < 0))).length := by omega
      subst e
      rw [ha] at hb
      cases hb
      omega
theorem ins_asc {m : Nat} {K : List (List Int)} {x : List Int} (h : AscS m K) (hx : x.length = m) : AscS m (insS K x) ∧ ∀ y, y ∈ insS K x ↔ y = x ∨ y ∈ K := by
  unfold insS
  split
  · rename_i hm
    exact ⟨h, fun y => ⟨.inr, fun e => e.elim (fun e => e ▸ hm) id⟩⟩
  · rename_i hm
    have := asc_insert h hx (tw_plc h hx) hm
    rw [tw_take, tw_drop] at this
    exact this
theorem asc_nil (m : Nat) : AscS m [] := ⟨(fun _ h => by cases h), List.Pairwise.nil⟩
theorem srt_foldl {m : Nat} : ∀ (xs K : List (List Int)), AscS m K → (∀ x ∈ xs, x.length = m) → AscS m (xs.foldl insS K) ∧ ∀ y, y ∈ xs.foldl insS K ↔ y ∈ xs ∨ y ∈ K
  | [], K, h, _ => ⟨h, fun y => by simp⟩
  | x :: r, K, h, hx => by
    obtain ⟨h1, h2⟩ := ins_asc h (hx x (List.mem_cons_self ..))
    obtain ⟨h3, h4⟩ := srt_foldl r _ h1 (fun y hy => hx y (List.mem_cons_of_mem _ hy))
    refine ⟨h3, fun y => ?_⟩
    rw [List.foldl_cons, h4, h2, List.mem_cons]
    constructor
    · rintro (h | h | h)
      · exact .inl (.inr h)
      · exact .inl (.inl h)
      · exact .inr h
    · rintro ((h | h) | h)
      · exact .inr (.inl h)
      · exact .inl h
      · exact .inr (.inr h)
theorem srt_asc {m : Nat} {xs : List (List Int)} (h : ∀ x ∈ xs, x.length = m) : AscS m (srtS xs) := (srt_foldl xs [] (asc_nil m) h).1
theorem srt_mem {m : Nat} {xs : List (List Int)} (h : ∀ x ∈ xs, x.length = m) (y : List Int) : y ∈ srtS xs ↔ y ∈ xs := by
  rw [srtS, (srt_foldl xs [] (asc_nil m) h).2]; simp
theorem asc_uniq {m : Nat} : ∀ {K J : List (List Int)}, AscS m K → AscS m J → (∀ y, y ∈ K ↔ y ∈ J) → K = J
  | [], [], _, _, _ => rfl
  | [], b :: s, _, _, h => by have := (h b).2 (List.mem_cons_self ..); cases this
  | a :: r, [], _, _, h => by have := (h a).1 (List.mem_cons_self ..); cases this
  | a :: r, b :: s, hK, hJ, h => by
    obtain ⟨k1, k2⟩ := hK
    obtain ⟨j1, j2⟩ := hJ
    rw [List.pairwise_cons] at k2 j2
    have hab : a = b := by
      rcases List.mem_cons.1 ((h a).1 (List.mem_cons_self ..)) with e | ha
      · exact e
      · rcases List.mem_cons.1 ((h b).2 (List.mem_cons_self ..)) with e | hb
        · exact e.symm
        · have h1 := j2.1 a ha
          have h2 := k2.1 b hb
          have h3 := cmpL_anti a b
          omega
    subst hab
    congr 1
    refine asc_uniq ⟨fun x hx => k1 x (List.mem_cons_of_mem _ hx), k2.2⟩ ⟨fun x hx => j1 x (List.mem_cons_of_mem _ hx), j2.2⟩ fun y => ?_
    constructor
    · intro hy
      rcases List.mem_cons.1 ((h y).1 (List.mem_cons_of_mem _ hy)) with e | h1
      · have := k2.1 y hy
        rw [e, cmpL_self] at this; omega
      · exact h1
    · intro hy
      rcases List.mem_cons.1 ((h y).2 (List.mem_cons_of_mem _ hy)) with e | h1
      · have := j2.1 y hy
        rw [e, cmpL_self] at this; omega
      · exact h1
theorem srt_of {m : Nat} {xs K : List (List Int)} (h : ∀ x ∈ xs, x.length = m) (hK : AscS m K) (hm : ∀ y, y ∈ K ↔ y ∈ xs) : K = srtS xs :=
  asc_uniq hK (srt_asc h) fun y => (hm y).trans (srt_mem h y).symm
theorem SRow.apart9 {w : World} {lo l2 : Nat} {a : Option Addr} {n c : Nat} {l : List (QM × List Int)} (h : SRow w lo l2 a n c l) (hT : 2 ≠ 22) : ∀ x ∈ l, ∀ q off, x.1.a = some ⟨q, off, none⟩ → a ≠ some ⟨q, 0, none⟩ := by
  intro x hx q off e e2
  have hx' := h.each x hx
  rcases hx'.form with ⟨h1, _⟩ | ⟨g, h1⟩
  · rw [h1] at e; cases e
  · rw [h1] at e
    simp only [Option.some.injEq, Addr.mk.injEq, and_true] at e
    obtain ⟨rfl, rfl⟩ := e
    obtain ⟨c1, t1⟩ := hx'.typ h1
    obtain ⟨c2, t2⟩ := h.row.typ e2
    rw [t1] at t2
    simp only [Option.some.injEq, Obj.cells.injEq] at t2
    exact hT t2.2.1
open Go.Shelf Go.Lib Go.Sort in
theorem own_sortWorld {α : Type} [Inhabited α] {E : TypeId} (enc : α → Value) {w : World} {blk lo n c k : Nat} {xs : List Value} {d : Array α} {os : Array Obj} (h : w.ownsRow lo E 1 (.slice (some ⟨blk, 0, none⟩) n c) n xs) (hn : d.size = n) :
    (sortWorld enc w blk 0 k d os).ownsRow lo E 1 (.slice (some ⟨blk, 0, none⟩) n c) n (d.toList.map enc) := by
  refine ⟨by simp [hn], .inr ?_⟩
  rcases h.2 with ⟨he, _⟩ | ⟨g, cap, cur, he, hb, hg, hnc, hcm, hcs, ht⟩
  · simp at he
  · simp only [Value.slice.injEq, Option.some.injEq, Addr.mk.injEq, and_true, true_and] at he
    obtain ⟨rfl, rfl⟩ := he
    have hlt : blk < w.heap.size := Nat.lt_of_not_le fun h => by rw [Array.getElem?_eq_none h] at hg; cases hg
    refine ⟨blk, c, putCells enc 0 d cur, rfl, hb, ?_, hnc, hcm, by simp [putCells, hcs], ?_⟩
    · simp only [sortWorld, grow, putRow, mapBlock, ahead]
      rw [Array.getElem?_append_left (by simpa using hlt), Array.getElem?_modify, if_pos rfl]
      show Option.map (onCells (putCells enc 0 d)) w.heap[blk]? = _
      rw [hg]
      rfl
    · rw [Nat.mul_one]
      apply List.ext_getElem?
      intro i
      rw [List.getElem?_take]
      by_cases hi : i < n
      · rw [if_pos hi, List.getElem?_map, Array.getElem?_toList, Array.getElem?_toList, putCells, Array.getElem?_mapIdx]
        have h1 : i < cur.size := by omega
        rw [Array.getElem?_eq_getElem h1, Array.getElem?_eq_getElem (show i < d.size by omega)]
        simp only [Option.map_some, Nat.zero_le, Nat.zero_add, true_and, Nat.sub_zero]
        rw [if_pos (by omega), getElem!_pos d i (by omega)]
      · rw [if_neg hi, List.getElem?_eq_none (by simp; omega)]
open Go.Shelf Go.Lib Go.Sort in
theorem sort_R {m lo l2 g n c : Nat} {l : List (QM × List Int)} {w : World} (hO : SRow w lo l2 (some ⟨g, 0, none⟩) n c l) (hE : ∀ x ∈ l, x.1.n = m) (h0 : 0 < n) (hn : n ≤ 1048576) (hm : m ≤ 1048576) :
    Calls Tryz.prog 184 #[.slice (some ⟨g, 0, none⟩) n c, .func (.func 185) #[] #[]] w fun e w' => e = .returned (.tuple #[]) ∧ ∃ l', SRow w' lo l2 (some ⟨g, 0, none⟩) n c l' ∧ (∀ x ∈ l', x.1.n = m) ∧ (l'.map (·.2)).Perm (l.map (·.2)) ∧ (l'.map (·.2)).Pairwise (fun a b => cmpL a b ≤ 0) ∧ Below lo w w' ∧ w.grownBy w' (some g) := by
  have hap := hO.apart9 (by decide)
  have hP : ∀ x ∈ l, Ints w x.1.a m x.1.c x.2 ∧ x.2.length = m ∧ ∀ q off, x.1.a = some ⟨q, off, none⟩ → q ≠ g := fun x hx => by
    have h1 := (hO.each x hx).ints
    have h2 := hE x hx
    exact ⟨h2 ▸ h1, by rw [h1.len, h2], fun q off e e2 => hap x hx q off e (by rw [e2])⟩
  have hln := hO.len
  obtain ⟨x0, hx0⟩ : ∃ x, x ∈ l := List.exists_mem_of_length_pos (by omega)
  letI : Inhabited (Item w g m) := ⟨⟨x0, hP x0 hx0⟩⟩
  obtain ⟨d, hdl⟩ : ∃ d : Array (Item w g m), d.toList.map (·.1) = l := ⟨(l.attachWith _ hP).toArray, by rw [List.toList_toArray]; exact List.attachWith_map_subtype_val hP⟩
  have hds : d.size = n := by rw [← hln, ← hdl]; simp
  have hblk := hO.row.blk g rfl
  have hH : Holds (encI9 (w := w) (blk := g) (m := m)) w g 0 d := fun j hj => by
    refine ⟨?_, hO.row.free _⟩
    obtain ⟨b, off, x, he, _, hx, _, hc⟩ := hO.row.flats.at (show j < n by omega)
    simp only [Option.some.injEq, Addr.mk.injEq, and_true] at he
    obtain ⟨rfl, rfl⟩ := he
    have h1 := hc 0 _ rfl
    rw [Nat.mul_one, Nat.add_zero] at h1
    rw [h1]
    have h2 : l[j]? = some (d[j]!).1 := by
      rw [← hdl, List.getElem?_map, Array.getElem?_toList, Array.getElem?_eq_getElem hj, getElem!_pos d j hj]; rfl
    rw [hx] at h2
    have h3 := hE x (List.mem_of_getElem? hx)
    simp only [Option.some.injEq] at h2
    rw [encI9, ← h2, h3]
  have hcmp := (cmpReads9 (w := w) (blk := g) (off := 0) (m := m) (size := d.size) hm).lays
  have hrow := hO.row
  rw [← hds]
  refine Calls.mono (Tryz.slices_SortFunc (encI9 (w := w) (blk := g) (m := m)) (fun _ => rfl) cmpI9 swo9 185 #[] g 0 c d w (fun _ _ => by kernel_rfl) hcmp hH hblk.2 (by omega)) ?_
  rintro e w' ⟨rfl, d', k, os, hp, hst, rfl⟩
  obtain ⟨hs', hperm⟩ := perm9 hp
  have hg := grownBy_sortWorld (encI9 (w := w) (blk := g) (m := m)) w g 0 k d' os
  have hl' : ∀ x ∈ d'.toList, x.1 ∈ l := fun x hx => by rw [← hdl]; exact List.mem_map_of_mem (hperm.mem_iff.1 hx)
  have hen : d'.toList.map (encI9 (w := w) (blk := g) (m := m)) = (d'.toList.map (·.1)).flatMap encS := by
    rw [List.flatMap_map]
    have : ∀ q : List (Item w g m), (∀ x ∈ q, x.1 ∈ l) → q.map (encI9 (w := w) (blk := g) (m := m)) = q.flatMap fun x => encS x.1 := by
      intro q
      induction q with
      | nil => intro _; rfl
      | cons y r ih =>
        intro hq
        rw [List.map_cons, List.flatMap_cons, ih fun x hx => hq x (List.mem_cons_of_mem _ hx)]
        have h3 := hE y.1 (hq y (List.mem_cons_self ..))
        rw [encS, h3]; rfl
    exact this _ hl'
  have hown := own_sortWorld (E := 22) (encI9 (w := w) (blk := g) (m := m)) (k := k) (d := d') (os := os) hrow.1 (by omega)
  rw [hen] at hown
  have hpl : ((d'.toList.map (·.1)).map (·.2)).Perm (l.map (·.2)) := by
    rw [← hdl]; exact (hperm.map _).map _
  rw [hds]
  refine ⟨rfl, d'.toList.map (·.1), ⟨⟨hown, fun _ _ => trivial, by simp; omega, encS_len⟩, fun x hx => ?_⟩, fun x hx => ?_, hpl, ?_, (Below.refl _ _).grown hg (Nat.le_trans hblk.1 (Nat.le_of_lt hblk.2)) (fun q e => by cases e; exact hblk.1), hg⟩
  · obtain ⟨y, hy, rfl⟩ := List.mem_map.1 hx
    exact (hO.each _ (hl' y hy)).keepG hg fun q e e2 => by
      simp only [Option.some.injEq] at e2
      exact y.2.2.2 q 0 e e2.symm
  · obtain ⟨y, hy, rfl⟩ := List.mem_map.1 hx
    exact hE _ (hl' y hy)
  · rw [List.pairwise_map, List.pairwise_map, List.pairwise_iff_getElem]
    intro i j hi hj hij
    simp only [Array.length_toList] at hi hj
    have h1 := hst i j (Nat.zero_le _) hij (by omega)
    rw [getElem!_pos d' i hi, getElem!_pos d' j hj] at h1
    have h2 := of_decide_eq_false h1
    rw [cmpI9] at h2
    have h3 := cmpL_anti d'[i].1.2 d'[j].1.2
    simp only [Array.getElem_toList]
    omega
end Go.Proofs.YtkaikbaagajckaaGreat
