/- Decision diagrams: an input fixed, ones counted: plain laws.; Tests as diagrams: plain laws.; Sets of lists of bits as diagrams: plain laws.; Sets of lists of bits as diagrams: the program, walked. -/
import Derived.Test.YtkaikbaagajckaaGreatR14
import Derived.Test.YtkaikbaagajckaaGreatR09
import Derived.Test.YtkaikbaagajckaaGreatR15
import Derived.Test.YtkaikbaagajckaaGreatR13
import Derived.Test.YtkaikbaagajckaaGreatR01
namespace Go.Proofs.YtkaikbaagajckaaGreat
open Go.RowKit
set_option linter.unusedVariables false
set_option linter.unusedSimpArgs false
/-- one node of a diagram in which an input is fixed -/
def fxS (inp bit : Int) (s : List I3 × List Int) (x : I3) : List I3 × List Int :=
  if x.a ≠ inp then ((mkN s.1 x.a (s.2.getD x.b.toNat 0) (s.2.getD x.c.toNat 0)).1, s.2 ++ [(mkN s.1 x.a (s.2.getD x.b.toNat 0) (s.2.getD x.c.toNat 0)).2])
  else (s.1, s.2 ++ [if bit = 0 then s.2.getD x.b.toNat 0 else s.2.getD x.c.toNat 0])
structure FxI (n : Int) (inp : Nat) (bit : Int) (N : List I3) (k : Nat) (s : List I3 × List Int) : Prop where
  snd : Snd n s.1
  len : s.2.length = k + 2
  few : s.1.length ≤ k
  low : s.2[0]? = some 0 ∧ s.2[1]? = some 1
  at' : ∀ (r : Nat) (q : Int), s.2[r]? = some q → RefB q s.1.length ∧ lvlN n N (r : Int) ≤ lvlN n s.1 q ∧ ∀ β, evR s.1 β q = evR N (fixB β inp (decide (bit ≠ 0))) (r : Int)
theorem FxI.start {n : Int} {inp : Nat} {bit : Int} {N : List I3} : FxI n inp bit N 0 ([], [0, 1]) := by
  refine ⟨Snd.nil n, rfl, Nat.le_refl _, ⟨rfl, rfl⟩, fun r q h => ?_⟩
  have hr : r = 0 ∨ r = 1 := by
    have := (List.getElem?_eq_some_iff.1 h).1
    simp at this; omega
  rcases hr with rfl | rfl
  · simp at h; subst h
    exact ⟨⟨by omega, by simp⟩, by rw [lvl_low (by omega), lvl_low (by omega)]; exact Int.le_refl _, fun β => by rw [ev_low (by omega), ev_low (by omega)]; rfl⟩
  · simp at h; subst h
    exact ⟨⟨by omega, by simp⟩, by rw [lvl_low (by omega), lvl_low (by omega)]; exact Int.le_refl _, fun β => by rw [ev_low (by omega), ev_low (by omega)]; rfl⟩
theorem FxI.step {n : Int} {inp : Nat} {bit : Int} {N : List I3} {k : Nat} {s : List I3 × List Int} (hN : Snd n N) (h : FxI n inp bit N k s) {x : I3} (hx : N[k]? = some x) : FxI n inp bit N (k + 1) (fxS inp bit s x) := by
  obtain ⟨o1, o2, o3, o4⟩ := hN.ord _ _ hx
  have hF := hN.redu.frst
  have f3 := hF.low _ _ hx
  have f4 := hF.high _ _ hx
  have f3' := f3.1
  have f3'' := f3.2
  have f4' := f4.1
  have f4'' := f4.2
  have hl := h.len
  obtain ⟨lo, hlo⟩ : ∃ lo, s.2[x.b.toNat]? = some lo := ⟨_, List.getElem?_eq_getElem (by omega)⟩
  obtain ⟨hi, hhi⟩ : ∃ hi, s.2[x.c.toNat]? = some hi := ⟨_, List.getElem?_eq_getElem (by omega)⟩
  have e1 : s.2.getD x.b.toNat 0 = lo := by rw [List.getD_eq_getElem?_getD, hlo]; rfl
  have e2 : s.2.getD x.c.toNat 0 = hi := by rw [List.getD_eq_getElem?_getD, hhi]; rfl
  obtain ⟨b1, b2, b3⟩ := h.at' _ _ hlo
  obtain ⟨c1, c2, c3⟩ := h.at' _ _ hhi
  have hb0 : (x.b.toNat : Int) = x.b := by omega
  have hc0 : (x.c.toNat : Int) = x.c := by omega
  rw [hb0] at b2 b3
  rw [hc0] at c2 c3
  have hLF := h.snd.redu.frst
  rw [fxS, e1, e2]
  by_cases hi2 : x.a = (inp : Int)
  · rw [if_neg (by simpa using hi2)]
    have hev : ∀ β, evR N (fixB β inp (decide (bit ≠ 0))) ((k : Int) + 2) = evR s.1 β (if bit = 0 then lo else hi) := fun β => by
      rw [ev_node hF hx, hi2, Int.toNat_natCast, fixB, if_pos rfl]
      by_cases hb : bit = 0
      · rw [if_pos hb, if_neg (by simpa using hb), b3]
      · rw [if_neg hb, if_pos (by simpa using hb), c3]
    refine ⟨h.snd, by rw [List.length_append, hl]; rfl, Nat.le_succ_of_le h.few, ?_, fun r q hq => ?_⟩
    · rw [List.getElem?_append_left (by omega), List.getElem?_append_left (by omega)]; exact h.low
    · simp only at hq ⊢
      by_cases hr : r < k + 2
      · rw [List.getElem?_append_left (by omega)] at hq
        exact h.at' r q hq
      · have hr2 : r = k + 2 := by
          have := (List.getElem?_eq_some_iff.1 hq).1
          simp at this; omega
        subst hr2
        rw [List.getElem?_append_right (by omega), hl, Nat.sub_self] at hq
        simp at hq
        rw [show ((k + 2 : Nat) : Int) = (k : Int) + 2 by omega, lvl_node hx]
        subst hq
        refine ⟨?_, ?_, fun β => (hev β).symm⟩
        · split
          · exact b1
          · exact c1
        · split <;> omega
  · rw [if_pos hi2]
    have l1 : x.a < lvlN n s.1 lo := by omega
    have l2 : x.a < lvlN n s.1 hi := by omega
    have hS := h.snd.add b1 c1 o1 o2 l1 l2
    have hO := h.snd.ord.add hLF b1 c1 o1 o2 l1 l2
    have hR := (hLF.add (i := x.a) b1 c1).2
    obtain ⟨t, ht, ht1⟩ := mkN_pre s.1 x.a lo hi
    have hn : ¬ x.a.toNat = inp := fun e => hi2 (by omega)
    refine ⟨hS, by simp only [List.length_append, hl, List.length_cons, List.length_nil], by simp only [ht, List.length_append]; have := h.few; omega, ?_, fun r q hq => ?_⟩
    · simp only
      rw [List.getElem?_append_left (by omega), List.getElem?_append_left (by omega)]; exact h.low
    · simp only at hq ⊢
      by_cases hr : r < k + 2
      · rw [List.getElem?_append_left (by omega)] at hq
        obtain ⟨m1, m2, m3⟩ := h.at' r q hq
        refine ⟨?_, ?_, fun β => ?_⟩
        · rw [ht, List.length_append]; exact m1.mono (by omega)
        · rw [ht, lvl_app m1]; exact m2
        · rw [ev_keep hLF m1]; exact m3 β
      · have hr2 : r = k + 2 := by
          have := (List.getElem?_eq_some_iff.1 hq).1
          simp at this; omega
        subst hr2
        rw [List.getElem?_append_right (by omega), hl, Nat.sub_self] at hq
        simp at hq
        subst hq
        rw [show ((k + 2 : Nat) : Int) = (k : Int) + 2 by omega, lvl_node hx]
        refine ⟨hR, hO.2, fun β => ?_⟩
        rw [ev_mk hLF b1 c1, ev_node hF hx, fixB, if_neg hn]
        by_cases hb : β x.a.toNat = true
        · rw [if_pos hb, if_pos hb, c3]
        · rw [if_neg hb, if_neg hb, b3]
/-! ### counting -/
theorem lvl_pos {n : Int} {L : List I3} (hO : OrdN n L) (hn : 0 ≤ n) {r : Int} (hr : RefB r L.length) : 0 ≤ lvlN n L r := by
  by_cases h2 : r < 2
  · rw [lvl_low h2]; exact hn
  · obtain ⟨k, rfl⟩ : ∃ k : Nat, r = (k : Int) + 2 := ⟨(r - 2).toNat, by omega⟩
    have hlt : k < L.length := by have := hr.2; omega
    have hx := List.getElem?_eq_getElem hlt
    rw [lvl_node hx]; exact (hO _ _ hx).1
theorem off_sum {sz : List Int} (hs : allIn 1 32 sz = true) (hn : sz.length ≤ 16) : (sz.map wN).sum = (offN sz sz.length : Int) ∧ ∀ k, k ≤ sz.length → offN sz k ≤ 5 * k := by
  refine ⟨(offN_full hs).symm, fun k => ?_⟩
  induction k with
  | zero => intro _; simp [offN]
  | succ k ih =>
    intro hk
    obtain ⟨z, hz⟩ : ∃ z, sz[k]? = some z := ⟨_, List.getElem?_eq_getElem (by omega)⟩
    have h2 := allIn_at hs hz
    have hw := wN_in h2.1 h2.2
    rw [offN_step hz]
    have := ih (by omega)
    omega
/-- the values of a variable that are allowed, from one of its bits on, and what follows -/
def vtN (al : Int → Bool) : Nat → List I3 → Int → Int → Int → List I3 × Int
  | 0, L, v, _, rest => (L, if al v = true then rest else 0)
  | k + 1, L, v, i, rest => mkN (vtN al k (vtN al k L (2 * v) (i + 1) rest).1 (2 * v + 1) (i + 1) rest).1 i (vtN al k L (2 * v) (i + 1) rest).2 (vtN al k (vtN al k L (2 * v) (i + 1) rest).1 (2 * v + 1) (i + 1) rest).2
/-- the value of k bits from i on, behind some -/
def vbN (β : Nat → Bool) : Nat → Nat → Int → Int
  | 0, _, v => v
  | k + 1, i, v => vbN β k (i + 1) (2 * v + if β i = true then 1 else 0)
theorem vt_inv {n : Int} {al : Int → Bool} : ∀ (k : Nat) (L : List I3) (v : Int) (i : Nat) (rest : Int), Snd n L → RefB rest L.length → (i : Int) + k ≤ n → (i : Int) + k ≤ lvlN n L rest →
    Snd n (vtN al k L v i rest).1 ∧ RefB (vtN al k L v i rest).2 (vtN al k L v i rest).1.length ∧ (i : Int) ≤ lvlN n (vtN al k L v i rest).1 (vtN al k L v i rest).2 ∧ (∃ t, (vtN al k L v i rest).1 = L ++ t ∧ t.length + 1 ≤ 2 ^ k) ∧
    ∀ β, evR (vtN al k L v i rest).1 β (vtN al k L v i rest).2 = (evR L β rest && al (vbN β k i v)) := by
  intro k
  induction k with
  | zero =>
    intro L v i rest hS hr hn hl
    rw [vtN]
    cases ha : al v
    · simp only [Bool.false_eq_true, if_false]
      refine ⟨hS, ⟨by omega, by omega⟩, by rw [lvl_low (by omega)]; omega, ⟨[], by simp, by simp⟩, fun β => ?_⟩
      rw [ev_zero, vbN, ha, Bool.and_false]
    · simp only [if_true]
      refine ⟨hS, hr, by omega, ⟨[], by simp, by simp⟩, fun β => ?_⟩
      rw [vbN, ha, Bool.and_true]
  | succ k ih =>
    intro L v i rest hS hr hn hl
    push_cast at hn hl
    obtain ⟨a1, a2, a3, ⟨t1, a4, a5⟩, a6⟩ := ih L (2 * v) (i + 1) rest hS hr (by push_cast; omega) (by push_cast; omega)
    have ei : (((i + 1 : Nat)) : Int) = (i : Int) + 1 := by omega
    rw [ei] at a1 a2 a3 a4 a6
    rw [vtN]
    generalize vtN al k L (2 * v) ((i : Int) + 1) rest = A at *
    obtain ⟨A1, A2⟩ := A
    simp only at a1 a2 a3 a4 a6 ⊢
    have hr1 : RefB rest A1.length := hr.mono (by rw [a4, List.length_append]; omega)
    have hl1 : lvlN n A1 rest = lvlN n L rest := by rw [a4]; exact lvl_app hr
    have he1 : ∀ β, evR A1 β rest = evR L β rest := fun β => by rw [a4]; exact ev_app hS.redu.frst hr
    obtain ⟨b1, b2, b3, ⟨t2, b4, b5⟩, b6⟩ := ih A1 (2 * v + 1) (i + 1) rest a1 hr1 (by push_cast; omega) (by rw [hl1]; push_cast; omega)
    rw [ei] at b1 b2 b3 b4 b6
    generalize vtN al k A1 (2 * v + 1) ((i : Int) + 1) rest = B at *
    obtain ⟨B1, B2⟩ := B
    simp only at b1 b2 b3 b4 b6 ⊢
    have hl2 : RefB A2 B1.length := a2.mono (by rw [b4, List.length_append]; omega)
    have hv2 : lvlN n B1 A2 = lvlN n A1 A2 := by rw [b4]; exact lvl_app a2
    have he2 : ∀ β, evR B1 β A2 = evR A1 β A2 := fun β => by rw [b4]; exact ev_app a1.redu.frst a2
    have hF := b1.redu.frst
    obtain ⟨t3, c4, c5⟩ := mkN_pre B1 i A2 B2
    have hA := hF.add (i := (i : Int)) hl2 b2
    have hO := b1.ord.add hF (i := (i : Int)) hl2 b2 (by omega) (by omega) (by rw [hv2]; omega) (by omega)
    refine ⟨b1.add hl2 b2 (by omega) (by omega) (by rw [hv2]; omega) (by omega), hA.2, hO.2, ⟨t1 ++ (t2 ++ t3), by rw [c4, b4, a4]; simp, ?_⟩, fun β => ?_⟩
    · rw [List.length_append, List.length_append, Nat.pow_succ]; omega
    · rw [ev_mk hF hl2 b2, Int.toNat_natCast, b6, he2, a6, he1, vbN]
      cases β i <;> simp
theorem mkN_ref {L : List I3} {i lo hi : Int} (hl : RefB lo L.length) : RefB (mkN L i lo hi).2 (mkN L i lo hi).1.length := by
  unfold mkN
  split
  · exact hl
  · split
    · rename_i k hk
      have := (List.getElem?_eq_some_iff.1 (posN_some hk).1).1
      exact ⟨by simp only; omega, by simp only; omega⟩
    · exact ⟨by simp only; omega, by simp only [List.length_append, List.length_cons, List.length_nil]; omega⟩
theorem vt_ref {al : Int → Bool} : ∀ (k : Nat) (L : List I3) (v i rest : Int), RefB rest L.length →
    RefB (vtN al k L v i rest).2 (vtN al k L v i rest).1.length ∧ L.length ≤ (vtN al k L v i rest).1.length ∧ (vtN al k L v i rest).1.length + 1 ≤ L.length + 2 ^ k := by
  intro k
  induction k with
  | zero =>
    intro L v i rest hr
    rw [vtN]
    refine ⟨?_, Nat.le_refl _, by simp⟩
    cases al v
    · exact ⟨by simp, by simp; omega⟩
    · exact hr
  | succ k ih =>
    intro L v i rest hr
    obtain ⟨a1, a2, a3⟩ := ih L (2 * v) (i + 1) rest hr
    rw [vtN]
    generalize vtN al k L (2 * v) (i + 1) rest = A at *
    obtain ⟨A1, A2⟩ := A
    simp only at a1 a2 a3 ⊢
    obtain ⟨b1, b2, b3⟩ := ih A1 (2 * v + 1) (i + 1) rest (hr.mono a2)
    generalize vtN al k A1 (2 * v + 1) (i + 1) rest = B at *
    obtain ⟨B1, B2⟩ := B
    simp only at b1 b2 b3 ⊢
    obtain ⟨t3, c4, c5⟩ := mkN_pre B1 i A2 B2
    have hlen : (mkN B1 i A2 B2).1.length = B1.length + t3.length := by rw [c4, List.length_append]
    refine ⟨mkN_ref (a1.mono b2), by omega, ?_⟩
    rw [Nat.pow_succ]; omega
theorem vt_new {al : Int → Bool} {k : Nat} {L : List I3} {v i rest : Int} {A B : List I3 × Int} (hA : vtN al k L (2 * v) (i + 1) rest = A) (hB : vtN al k A.1 (2 * v + 1) (i + 1) rest = B) : vtN al (k + 1) L v i rest = mkN B.1 i A.2 B.2 := by
  subst hA hB; rfl
/-- what a test allows -/
def alB (sz : List Int) (g : List I2b) (j : Nat) (v : Int) : Bool := decide (v < sz.getD j 0) && !(g.any fun t => decide (t.a = (j : Int)) && (decide (v = t.b) != t.c))
/-- behind the last k variables -/
def tdN (sz : List Int) (g : List I2b) : Nat → List I3 × Int
  | 0 => ([], 1)
  | k + 1 => vtN (alB sz g (sz.length - 1 - k)) (wN (sz.getD (sz.length - 1 - k) 0)).toNat (tdN sz g k).1 0 (offN sz (sz.length - 1 - k) : Int) (tdN sz g k).2
theorem td_inv {sz : List Int} {g : List I2b} (hs : allIn 1 32 sz = true) : ∀ k, k ≤ sz.length →
    Snd (offN sz sz.length : Int) (tdN sz g k).1 ∧ RefB (tdN sz g k).2 (tdN sz g k).1.length ∧ (offN sz (sz.length - k) : Int) ≤ lvlN (offN sz sz.length : Int) (tdN sz g k).1 (tdN sz g k).2 ∧ (tdN sz g k).1.length ≤ 31 * k ∧
    ∀ β, evR (tdN sz g k).1 β (tdN sz g k).2 = true ↔ ∀ j, sz.length - k ≤ j → j < sz.length → alB sz g j (vbN β (wN (sz.getD j 0)).toNat (offN sz j) 0) = true := by
  intro k
  induction k with
  | zero =>
    intro _
    rw [tdN]
    refine ⟨Snd.nil _, ⟨by omega, by simp⟩, by rw [lvl_low (by omega)]; simp, by simp, fun β => ?_⟩
    rw [ev_low (by omega)]
    simp only [decide_true, true_iff]
    intro j h1 h2
    omega
  | succ k ih =>
    intro hk
    obtain ⟨i1, i2, i3, i4, i5⟩ := ih (by omega)
    obtain ⟨q, hq⟩ : ∃ q, q = sz.length - 1 - k := ⟨_, rfl⟩
    have hql : q < sz.length := by omega
    obtain ⟨z, hz⟩ : ∃ z, sz[q]? = some z := ⟨_, List.getElem?_eq_getElem hql⟩
    have hgd : sz.getD q 0 = z := getD_of hz
    have hz2 := allIn_at hs hz
    have hw := wN_in hz2.1 hz2.2
    have hst := offN_step hz
    have hof := offN_le (sz := sz) (k := q + 1) (by omega)
    have e1 : sz.length - k = q + 1 := by omega
    rw [e1] at i3 i5
    rw [tdN, ← hq, hgd]
    generalize tdN sz g k = A at *
    obtain ⟨L, r⟩ := A
    simp only at i1 i2 i3 i4 i5 ⊢
    obtain ⟨b1, b2, b3, ⟨t, b4, b5⟩, b6⟩ := vt_inv (al := alB sz g q) (wN z).toNat L 0 (offN sz q) r i1 i2 (by omega) (by omega)
    have h32 : 2 ^ (wN z).toNat ≤ 32 := Nat.le_trans (Nat.pow_le_pow_right (by decide) (show (wN z).toNat ≤ 5 by omega)) (by decide)
    refine ⟨b1, b2, by rw [show sz.length - (k + 1) = q by omega]; exact b3, by rw [b4, List.length_append]; omega, fun β => ?_⟩
    rw [b6, Bool.and_eq_true, i5, show sz.length - (k + 1) = q by omega]
    constructor
    · rintro ⟨h1, h2⟩ j hj1 hj2
      by_cases hjq : j = q
      · subst hjq; rw [hgd]; exact h2
      · exact h1 j (by omega) hj2
    · intro h
      refine ⟨fun j h1 h2 => h j (by omega) h2, ?_⟩
      have := h q (Nat.le_refl _) hql
      rw [hgd] at this
      exact this
/-- the diagram of tests -/
def tsN (sz : List Int) (g : List I2b) : List I3 × Int := canN mkN (tdN sz g sz.length).1 (tdN sz g sz.length).2
theorem ts_few {sz : List Int} {g : List I2b} (hs : allIn 1 32 sz = true) (hn : sz.length ≤ 16) : (tsN sz g).1.length ≤ 496 := by
  obtain ⟨i1, i2, _, i4, _⟩ := td_inv (g := g) hs sz.length (Nat.le_refl _)
  have := can_length i1.redu i2
  rw [tsN]; omega
/-- how many of the lists come before the first with the bit 1 at an input -/
def cutN (i : Nat) (ls : List (List Int)) : Nat := (ls.takeWhile fun l => !(l.getD i 0 == 1)).length
theorem cut_le (i : Nat) (ls : List (List Int)) : cutN i ls ≤ ls.length := (List.takeWhile_sublist _).length_le
/-- the diagram of lists of bits from an input on; k inputs are left -/
def stN : Nat → Nat → List (List Int) → List I3 → List I3 × Int
  | 0, _, ls, L => (L, if ls = [] then 0 else 1)
  | k + 1, i, ls, L => if ls = [] then (L, 0) else
    mkN (stN k (i + 1) (ls.drop (cutN i ls)) (stN k (i + 1) (ls.take (cutN i ls)) L).1).1 (i : Int) (stN k (i + 1) (ls.take (cutN i ls)) L).2 (stN k (i + 1) (ls.drop (cutN i ls)) (stN k (i + 1) (ls.take (cutN i ls)) L).1).2
theorem st_nil (k i : Nat) (L : List I3) : stN k i [] L = (L, 0) := by cases k <;> rfl
theorem st_end {i : Nat} {ls : List (List Int)} {L : List I3} (h : ls ≠ []) : stN 0 i ls L = (L, 1) := by rw [stN, if_neg h]
theorem st_new {k i : Nat} {ls : List (List Int)} {L : List I3} {A B : List I3 × Int} (h : ls ≠ []) (hA : stN k (i + 1) (ls.take (cutN i ls)) L = A) (hB : stN k (i + 1) (ls.drop (cutN i ls)) A.1 = B) : stN (k + 1) i ls L = mkN B.1 (i : Int) A.2 B.2 := by
  subst hA hB; rw [stN, if_neg h]
theorem st_ref : ∀ (k i : Nat) (ls : List (List Int)) (L : List I3),
    RefB (stN k i ls L).2 (stN k i ls L).1.length ∧ L.length ≤ (stN k i ls L).1.length ∧ (stN k i ls L).1.length + 1 ≤ L.length + 2 ^ k := by
  intro k
  induction k with
  | zero =>
    intro i ls L
    rw [stN]
    refine ⟨?_, Nat.le_refl _, by simp⟩
    split <;> exact ⟨by simp, by simp; omega⟩
  | succ k ih =>
    intro i ls L
    by_cases h : ls = []
    · subst h
      rw [st_nil]
      exact ⟨⟨by simp, by simp; omega⟩, Nat.le_refl _, by have := Nat.two_pow_pos (k + 1); simp only; omega⟩
    · obtain ⟨a1, a2, a3⟩ := ih (i + 1) (ls.take (cutN i ls)) L
      obtain ⟨b1, b2, b3⟩ := ih (i + 1) (ls.drop (cutN i ls)) (stN k (i + 1) (ls.take (cutN i ls)) L).1
      rw [st_new h rfl rfl]
      generalize stN k (i + 1) (ls.take (cutN i ls)) L = A at *
      obtain ⟨A1, A2⟩ := A
      simp only at a1 a2 a3 b1 b2 b3 ⊢
      generalize stN k (i + 1) (ls.drop (cutN i ls)) A1 = B at *
      obtain ⟨B1, B2⟩ := B
      simp only at b1 b2 b3 ⊢
      obtain ⟨t3, c4, c5⟩ := mkN_pre B1 i A2 B2
      have hlen : (mkN B1 i A2 B2).1.length = B1.length + t3.length := by rw [c4, List.length_append]
      refine ⟨mkN_ref (a1.mono b2), by omega, ?_⟩
      rw [Nat.pow_succ]; omega
theorem st_inv {n : Nat} : ∀ (k i : Nat) (ls : List (List Int)) (L : List I3), Snd (n : Int) L → i + k = n →
    Snd (n : Int) (stN k i ls L).1 ∧ RefB (stN k i ls L).2 (stN k i ls L).1.length ∧ (i : Int) ≤ lvlN (n : Int) (stN k i ls L).1 (stN k i ls L).2 ∧ ∃ t, (stN k i ls L).1 = L ++ t := by
  intro k
  induction k with
  | zero =>
    intro i ls L hS hn
    have hrf := (st_ref 0 i ls L).1
    rw [stN] at hrf ⊢
    refine ⟨hS, hrf, ?_, [], by simp⟩
    rw [lvl_low (by simp only; split <;> omega)]; omega
  | succ k ih =>
    intro i ls L hS hn
    by_cases h : ls = []
    · subst h
      rw [st_nil]
      refine ⟨hS, ⟨by simp, by simp; omega⟩, by rw [lvl_low (by simp)]; omega, [], by simp⟩
    · obtain ⟨a1, a2, a3, t1, a4⟩ := ih (i + 1) (ls.take (cutN i ls)) L hS (by omega)
      rw [st_new h rfl rfl]
      generalize stN k (i + 1) (ls.take (cutN i ls)) L = A at *
      obtain ⟨A1, A2⟩ := A
      simp only at a1 a2 a3 a4 ⊢
      obtain ⟨b1, b2, b3, t2, b4⟩ := ih (i + 1) (ls.drop (cutN i ls)) A1 a1 (by omega)
      generalize stN k (i + 1) (ls.drop (cutN i ls)) A1 = B at *
      obtain ⟨B1, B2⟩ := B
      simp only at b1 b2 b3 b4 ⊢
      have hl2 : RefB A2 B1.length := a2.mono (by rw [b4, List.length_append]; omega)
      have hv2 : lvlN (n : Int) B1 A2 = lvlN (n : Int) A1 A2 := by rw [b4]; exact lvl_app a2
      have hF := b1.redu.frst
      push_cast at a3 b3
      obtain ⟨t3, c4, c5⟩ := mkN_pre B1 i A2 B2
      have hA := hF.add (i := (i : Int)) hl2 b2
      have hO := b1.ord.add hF (i := (i : Int)) hl2 b2 (by omega) (by omega) (by rw [hv2]; omega) (by omega)
      exact ⟨b1.add hl2 b2 (by omega) (by omega) (by rw [hv2]; omega) (by omega), hA.2, hO.2, t1 ++ (t2 ++ t3), by rw [c4, b4, a4]; simp⟩
/-- the canonical diagram of a set of lists of n bits -/
def rdN (n : Nat) (ls : List (List Int)) : List I3 × Int := canN mkN (stN n 0 ls []).1 (stN n 0 ls []).2
/-- a list of states in order, with one more -/
def insS (K : List (List Int)) (x : List Int) : List (List Int) := if x ∈ K then K else K.takeWhile (fun a => decide (cmpL a x < 0)) ++ [x] ++ K.dropWhile (fun a => decide (cmpL a x < 0))
/-- the different states of a list, in order -/
def srtS (xs : List (List Int)) : List (List Int) := xs.foldl insS []
theorem tw_take {α : Type} (p : α → Bool) : ∀ l : List α, l.take (l.takeWhile p).length = l.takeWhile p
  | [] => rfl
  | x :: r => by
    rw [List.takeWhile_cons]
    split
    · rw [List.length_cons, List.take_succ_cons, tw_take p r]
    · rfl
theorem tw_drop {α : Type} (p : α → Bool) : ∀ l : List α, l.drop (l.takeWhile p).length = l.dropWhile p
  | [] => rfl
  | x :: r => by
    rw [List.takeWhile_cons, List.dropWhile_cons]
    split
    · rw [List.length_cons, List.drop_succ_cons, tw_drop p r]
    · rfl
theorem tw_mem {α : Type} {p : α → Bool} : ∀ {l : List α} {a : α}, a ∈ l.takeWhile p → p a = true
  | [], a, h => by simp at h
  | x :: r, a, h => by
    rw [List.takeWhile_cons] at h
    split at h
    · rename_i hx
      rcases List.mem_cons.1 h with e | h
      · rw [e]; exact hx
      · exact tw_mem h
    · cases h
theorem tw_at {α : Type} {p : α → Bool} : ∀ {l : List α} {a : α}, l[(l.takeWhile p).length]? = some a → p a = false
  | [], a, h => by simp at h
  | x :: r, a, h => by
    rw [List.takeWhile_cons] at h
    split at h
    · rw [List.length_cons, List.getElem?_cons_succ] at h
      exact tw_at h
    · rename_i hx
      simp at h
      subst h
      simpa using hx
theorem tw_plc {m : Nat} {K : List (List Int)} {x : List Int} (h : AscS m K) (hx : x.length = m) : Plc K x (K.takeWhile (fun a => decide (cmpL a x < 0))).length := by
  refine ⟨(List.takeWhile_sublist _).length_le, fun i a ha hi => ?_, fun i a ha hi => ?_⟩
  · have h1 : (K.takeWhile (fun a => decide (cmpL a x < 0)))[i]? = some a := by rw [← tw_take, List.getElem?_take, if_pos hi]; exact ha
    exact of_decide_eq_true (tw_mem (p := fun a => decide (cmpL a x < 0)) (List.mem_of_getElem? h1))
  · obtain ⟨b, hb⟩ : ∃ b, K[(K.takeWhile (fun a => decide (cmpL a x < 0))).length]? = some b := ⟨_, List.getElem?_eq_getElem (by have := (List.getElem?_eq_some_iff.1 ha).1; omega)⟩
    have h1 := of_decide_eq_false (tw_at (p := fun a => decide (cmpL a x < 0)) hb)
    rcases Nat.lt_or_ge (K.takeWhile (fun a => decide (cmpL a x < 0))).length i with h2 | h2
    · have h3 := asc_lt h hb ha h2
      have lb := h.1 b (List.mem_of_getElem? hb)
      have la := h.1 a (List.mem_of_getElem? ha)
      refine Int.not_lt.1 fun h4 => h1 (cmpL_trans (by rw [lb, la]) (by rw [la, hx]) h3 h4)
    · have e : i = (K.takeWhile (fun a => decide (cmpL a x < 0))).length := by omega
      subst e
      rw [ha] at hb
      cases hb
      omega
theorem ins_asc {m : Nat} {K : List (List Int)} {x : List Int} (h : AscS m K) (hx : x.length = m) : AscS m (insS K x) ∧ ∀ y, y ∈ insS K x ↔ y = x ∨ y ∈ K := by
  unfold insS
  split
  · rename_i hm
    exact ⟨h, fun y => ⟨.inr, fun e => e.elim (fun e => e ▸ hm) id⟩⟩
  · rename_i hm
    have := asc_insert h hx (tw_plc h hx) hm
    rw [tw_take, tw_drop] at this
    exact this
theorem asc_nil (m : Nat) : AscS m [] := ⟨(fun _ h => by cases h), List.Pairwise.nil⟩
theorem srt_foldl {m : Nat} : ∀ (xs K : List (List Int)), AscS m K → (∀ x ∈ xs, x.length = m) → AscS m (xs.foldl insS K) ∧ ∀ y, y ∈ xs.foldl insS K ↔ y ∈ xs ∨ y ∈ K
  | [], K, h, _ => ⟨h, fun y => by simp⟩
  | x :: r, K, h, hx => by
    obtain ⟨h1, h2⟩ := ins_asc h (hx x (List.mem_cons_self ..))
    obtain ⟨h3, h4⟩ := srt_foldl r _ h1 (fun y hy => hx y (List.mem_cons_of_mem _ hy))
    refine ⟨h3, fun y => ?_⟩
    rw [List.foldl_cons, h4, h2, List.mem_cons]
    constructor
    · rintro (h | h | h)
      · exact .inl (.inr h)
      · exact .inl (.inl h)
      · exact .inr h
    · rintro ((h | h) | h)
      · exact .inr (.inl h)
      · exact .inl h
      · exact .inr (.inr h)
theorem srt_asc {m : Nat} {xs : List (List Int)} (h : ∀ x ∈ xs, x.length = m) : AscS m (srtS xs) := (srt_foldl xs [] (asc_nil m) h).1
theorem srt_mem {m : Nat} {xs : List (List Int)} (h : ∀ x ∈ xs, x.length = m) (y : List Int) : y ∈ srtS xs ↔ y ∈ xs := by
  rw [srtS, (srt_foldl xs [] (asc_nil m) h).2]; simp
theorem asc_uniq {m : Nat} : ∀ {K J : List (List Int)}, AscS m K → AscS m J → (∀ y, y ∈ K ↔ y ∈ J) → K = J
  | [], [], _, _, _ => rfl
  | [], b :: s, _, _, h => by have := (h b).2 (List.mem_cons_self ..); cases this
  | a :: r, [], _, _, h => by have := (h a).1 (List.mem_cons_self ..); cases this
  | a :: r, b :: s, hK, hJ, h => by
    obtain ⟨k1, k2⟩ := hK
    obtain ⟨j1, j2⟩ := hJ
    rw [List.pairwise_cons] at k2 j2
    have hab : a = b := by
      rcases List.mem_cons.1 ((h a).1 (List.mem_cons_self ..)) with e | ha
      · exact e
      · rcases List.mem_cons.1 ((h b).2 (List.mem_cons_self ..)) with e | hb
        · exact e.symm
        · have h1 := j2.1 a ha
          have h2 := k2.1 b hb
          have h3 := cmpL_anti a b
          omega
    subst hab
    congr 1
    refine asc_uniq ⟨fun x hx => k1 x (List.mem_cons_of_mem _ hx), k2.2⟩ ⟨fun x hx => j1 x (List.mem_cons_of_mem _ hx), j2.2⟩ fun y => ?_
    constructor
    · intro hy
      rcases List.mem_cons.1 ((h y).1 (List.mem_cons_of_mem _ hy)) with e | h1
      · have := k2.1 y hy
        rw [e, cmpL_self] at this; omega
      · exact h1
    · intro hy
      rcases List.mem_cons.1 ((h y).2 (List.mem_cons_of_mem _ hy)) with e | h1
      · have := j2.1 y hy
        rw [e, cmpL_self] at this; omega
      · exact h1
theorem srt_of {m : Nat} {xs K : List (List Int)} (h : ∀ x ∈ xs, x.length = m) (hK : AscS m K) (hm : ∀ y, y ∈ K ↔ y ∈ xs) : K = srtS xs :=
  asc_uniq hK (srt_asc h) fun y => (hm y).trans (srt_mem h y).symm
theorem asc_nodup {m : Nat} {K : List (List Int)} (h : AscS m K) : K.Nodup := h.2.imp fun {a b} hlt e => by rw [e, cmpL_self] at hlt; omega
theorem srt_again {m : Nat} {xs : List (List Int)} (h : ∀ x ∈ xs, x.length = m) : srtS (srtS xs) = srtS xs :=
  (srt_of (fun x hx => h x ((srt_mem h x).1 hx)) (srt_asc h) fun _ => Iff.rfl).symm
theorem srt_len {m : Nat} {xs : List (List Int)} (h : ∀ x ∈ xs, x.length = m) (hd : xs.Nodup) : (srtS xs).length = xs.length := by
  have h1 : (srtS xs).Perm xs := (List.perm_ext_iff_of_nodup (asc_nodup (srt_asc h)) hd).2 (srt_mem h)
  exact h1.length_eq
theorem Ints.keepL {w w' : World} {a : Option Addr} {n c B : Nat} {l : List Int} (h : Ints w a n c l) (hb : Below B w w') (hB : n = 0 ∨ ∀ g off, a = some ⟨g, off, none⟩ → g < B) : Ints w' a n c l := by
  refine ⟨h.len, h.cap, ?_, h.wf, h.nil⟩
  rcases hB with h0 | hB
  · exact .inl h0
  · rcases h.pos with h0 | ⟨b, off, ha, hlt, hc⟩
    · exact .inl h0
    · have hlt2 := hB b off ha
      refine .inr ⟨b, off, ha, Nat.lt_of_lt_of_le hlt hb.size, fun i x hx => ?_⟩
      rw [World.cell?_of_block (a := ⟨b, off + i, none⟩) (hb.block b hlt2)]
      exact hc i x hx
/-- lists that lie below a block -/
structure LsA (w : World) (lo : Nat) (a : Option Addr) (n c : Nat) (l : List (QM × List Int)) : Prop where
  row : Flats 1 encS (fun _ => True) w a n c l
  low : n = 0 ∨ ∀ g off, a = some ⟨g, off, none⟩ → g < lo
  each : ∀ x ∈ l, Ints w x.1.a x.1.n x.1.c x.2 ∧ (x.1.n = 0 ∨ ∀ g off, x.1.a = some ⟨g, off, none⟩ → g < lo)
theorem LsA.keep {w w' : World} {lo : Nat} {a : Option Addr} {n c : Nat} {l : List (QM × List Int)} (h : LsA w lo a n c l) (hb : Below lo w w') : LsA w' lo a n c l :=
  ⟨h.row.keepB hb h.low, h.low, fun x hx => ⟨(h.each x hx).1.keepL hb (h.each x hx).2, (h.each x hx).2⟩⟩
theorem LsA.len {w : World} {lo : Nat} {a : Option Addr} {n c : Nat} {l : List (QM × List Int)} (h : LsA w lo a n c l) : l.length = n := h.row.len
theorem LsA.get {w : World} {lo : Nat} {a : Option Addr} {n c : Nat} {l : List (QM × List Int)} (h : LsA w lo a n c l) {i : Nat} (hi : i < n) :
    ∃ b off R v, a = some ⟨b, off, none⟩ ∧ b < w.heap.size ∧ l[i]? = some (R, v) ∧ Ints w R.a R.n R.c v ∧ w.cell? ⟨b, off + i, none⟩ = some (.slice R.a R.n R.c) := by
  obtain ⟨b, off, x, h1, h2, h3, _, h5⟩ := h.row.at hi
  have := h5 0 _ rfl
  rw [Nat.mul_one] at this
  exact ⟨b, off, x.1, x.2, h1, h2, h3, (h.each x (List.mem_of_getElem? h3)).1, by simpa using this⟩
theorem LsA.head {w : World} {lo : Nat} {a : Option Addr} {n c m : Nat} {l : List (QM × List Int)} (h : LsA w lo a n c l) (hm : m ≤ n) : LsA w lo a m c (l.take m) :=
  ⟨h.row.take hm, h.low.elim (fun e => .inl (by omega)) .inr, fun x hx => h.each x (List.mem_of_mem_take hx)⟩
theorem LsA.tail {w : World} {lo : Nat} {a : Option Addr} {n c m : Nat} {l : List (QM × List Int)} (h : LsA w lo a n c l) (hm : m ≤ n) : LsA w lo (if c = m then a else Option.map (fun x => x.add m) a) (n - m) (c - m) (l.drop m) := by
  have h1 := h.row.part (lo := m) (hi := n) hm (Nat.le_refl _)
  rw [show (l.drop m).take (n - m) = l.drop m from List.take_of_length_le (by rw [List.length_drop, h.len]; exact Nat.le_refl _), Nat.mul_one] at h1
  refine ⟨h1, ?_, fun x hx => h.each x (List.mem_of_mem_drop hx)⟩
  rcases h.low with h0 | h0
  · exact .inl (by omega)
  · rcases h.row.pos with hp | ⟨b, off, ha, _⟩
    · exact .inl (by omega)
    · subst ha
      refine .inr fun g o e => ?_
      split at e
      · exact h0 g o e
      · simp only [Option.map_some, Option.some.injEq] at e
        have e1 : b = g := by rw [← show ((⟨b, off, none⟩ : Addr).add m).block = b by unfold Addr.add; split <;> rfl, e]
        exact h0 g off (by rw [e1])
theorem Below.drewN9 {B : Nat} {w w' : World} (h : Below B w w') : ∀ n, Below B w (w'.drewN n)
  | 0 => h
  | n + 1 => (Below.drewN9 h n).drew
set_option maxHeartbeats 1000000 in
theorem slices_IndexFunc_S {g : Nat} {lb : Array Value} {p : List Int → Bool} {lo : Nat} {a : Option Addr} {n c : Nat} {l : List (QM × List Int)} {w : World}
    (eg : ∀ args w, (callFunc g args).run Tryz.prog w = .ok (.enter g args) w) (hp : ∀ (W : World) (R : QM) (v : List Int), Ints W R.a R.n R.c v → (R, v) ∈ l → Below w.heap.size w W → Calls Tryz.prog g (#[.slice R.a R.n R.c] ++ lb) W fun e w' => e = .returned (.bool (p v)) ∧ Below W.heap.size W w') (hI : LsA w lo a n c l) (hlo : lo ≤ w.heap.size) (hn : n ≤ 1048576) :
    Calls Tryz.prog 188 #[.slice a n c, .func (.func g) #[] lb] w fun e w' => e = .returned (.int .i64 (idxF (fun x : QM × List Int => p x.2) l)) ∧ Below w.heap.size w w' := by
  have HP := Lib.hid hp
  have HI := Lib.hid hI
  clear hp hI
  go_enter Tryz.func188, Tryz.ntmps188
  go_wp2
  go_loopg [5, 8] n (fun gg _ s8 wr => ∃ kk : Nat, kk ≤ n ∧ n - kk ≤ gg ∧ s8 = .int .i64 kk ∧ Below w.heap.size w wr ∧ Hid ((l.take kk).any (fun x : QM × List Int => p x.2) = false))
  case atStart => exact ⟨0, Nat.zero_le _, by omega, rfl, Below.refl _ _, rfl⟩
  case round =>
    obtain ⟨kk, hkk, hg, rfl, hbl, A⟩ := hrel
    by_cases hlt : kk < n
    · obtain ⟨b, off, R, r, rfl, hb, hx, hwf, c0⟩ := (HI.out.keep (hbl.mono hlo)).get hlt
      have Hx := Lib.hid hx
      have hcall := HP.out _ R r hwf (List.mem_of_getElem? hx) hbl
      clear hx hwf
      cases hq : p r with
      | true =>
        have Hq := Lib.hid hq
        rw [hq] at hcall
        clear hq
        go_wp2_with (go_at_fn g; refine hcall.mono ?_; rintro e w1 ⟨rfl, hb1⟩)
        go_ret
        exact ⟨ret_int (by rw [idxF_hit Hx.out Hq.out A.out]), below_call hbl hb1 hbl.size⟩
      | false =>
        have Hq := Lib.hid hq
        rw [hq] at hcall
        clear hq
        go_wp2_with (go_at_fn g; refine hcall.mono ?_; rintro e w1 ⟨rfl, hb1⟩)
        go_roundg (n - (kk + 1))
        case measure => omega
        case rel => exact ⟨kk + 1, by omega, by omega, by go_num, below_call hbl hb1 hbl.size, any_take_step Hx.out A.out Hq.out⟩
    · go_wp2
      go_ret
      have e : l.take kk = l := take_len (by have := HI.out.len; omega)
      have h1 := A.out
      rw [e] at h1
      exact ⟨ret_int (by rw [idxF_miss h1]), hbl⟩
theorem idx_cut {i : Nat} : ∀ (ls : List (QM × List Int)), (idxF (fun x : QM × List Int => x.2.getD i 0 == 1) ls < 0 → cutN i (ls.map (·.2)) = ls.length) ∧ (¬ idxF (fun x : QM × List Int => x.2.getD i 0 == 1) ls < 0 → idxF (fun x : QM × List Int => x.2.getD i 0 == 1) ls = (cutN i (ls.map (·.2)) : Int))
  | [] => ⟨fun _ => rfl, fun h => absurd (by rw [idxF]; omega) h⟩
  | x :: r => by
    obtain ⟨h1, h2⟩ := idx_cut (i := i) r
    rw [idxF, List.map_cons, cutN, List.takeWhile_cons]
    rw [cutN] at h1 h2
    cases hx : (x.2.getD i 0 == 1) with
    | true => exact ⟨fun h => by simp at h, fun _ => rfl⟩
    | false =>
      simp only [Bool.false_eq_true, if_false, Bool.not_false, if_true]
      by_cases hn : idxF (fun x : QM × List Int => x.2.getD i 0 == 1) r < 0
      · rw [if_pos hn]
        exact ⟨fun _ => by rw [List.length_cons, List.length_cons, h1 hn], fun h => absurd (by omega) h⟩
      · rw [if_neg hn, h2 hn]
        exact ⟨fun h => by omega, fun _ => by rw [List.length_cons]; push_cast; rfl⟩
set_option maxHeartbeats 1000000 in
theorem impl_setOf_1 {b i n c : Nat} {a : Option Addr} {v : List Int} {w : World} (hB : Blk w b #[.int .i64 (i : Int)] 2) (hV : Ints w a n c v) (hi : i < n) (hn : n ≤ 1048576) :
    Calls Tryz.prog 189 (#[.slice a n c] ++ #[.pointer (some ⟨b, 0, none⟩)]) w fun e w' => e = .returned (.bool (v.getD i 0 == 1)) ∧ Below w.heap.size w w' := by
  have i0 := hB.cell 0
  have il := hB.lt
  simp only [List.getElem?_toArray, List.getElem?_cons_zero] at i0
  obtain ⟨b', off, z, rfl, hb', hz, hzc, _⟩ := hV.at hi
  have hin : (i : Int) < (n : Int) := by omega
  have hi0 : (0 : Int) ≤ (i : Int) := by omega
  have HF := Lib.hid (show v.getD i 0 = z by rw [List.getD_eq_getElem?_getD, hz]; rfl)
  clear hB hV hz
  show Calls _ _ #[.slice (some ⟨b', off, none⟩) n c, .pointer (some ⟨b, 0, none⟩)] _ _
  go_enter Tryz.func189, Tryz.ntmps189
  go_wp2
  go_ret
  exact ⟨ret_bool (by rw [HF.out]), bel⟩
set_option maxRecDepth 100000 in
set_option maxHeartbeats 4000000 in
theorem impl_setOf {lo p mb N : Nat} : ∀ (k i : Nat) (ls : List (QM × List Int)) (L : List I3) (a : Option Addr) (n c : Nat) (w : World), LsA w lo a n c ls → (∀ x ∈ ls, x.2.length = N) → (∃ na nc mn, ForA w lo p mb (N : Int) na nc mn L) → i + k = N → N ≤ 20 → n ≤ 1048576 → L.length + 2 ^ k ≤ 2097152 → lo ≤ w.heap.size →
    Calls Tryz.prog 133 #[.pointer (some ⟨p, 0, none⟩), .slice a n c, .int .i64 (i : Int)] w fun e w' => e = .returned (.int .i64 (stN k i (ls.map (·.2)) L).2) ∧ (∃ na nc mn, ForA w' lo p mb (N : Int) na nc mn (stN k i (ls.map (·.2)) L).1) ∧ FrF lo p mb w w' := by
  intro k
  induction k with
  | zero =>
    intro i ls L a n c w hA hl hF hik hN hn hL hlo
    have hln := hA.len
    by_cases h0 : n = 0
    · subst h0
      obtain rfl : ls = [] := List.eq_nil_of_length_eq_zero hln
      have HFO := Lib.hid hF
      clear hA hF hl
      go_enter Tryz.func133, Tryz.ntmps133
      go_wp2
      go_ret
      obtain ⟨na, nc, mn, h⟩ := HFO.out
      refine ⟨ret_int (by simp only [List.map_nil, st_nil]), ⟨na, nc, mn, ?_⟩, FrF.of_below bel⟩
      simp only [List.map_nil, st_nil]
      exact h.keep bel
    · have e0 : ((n : Int) == 0) = false := by simpa using (show ¬ (n : Int) = 0 by omega)
      obtain rfl : i = N := by omega
      have hne : ls.map (·.2) ≠ [] := fun e => h0 (by rw [← hln, ← List.length_map (f := fun x : QM × List Int => x.2), e]; rfl)
      obtain ⟨na, nc, mn, hfor⟩ := hF
      obtain ⟨W, hW⟩ : ∃ W, W = w.alloc (.cells #[.int .i64 (i : Int)] 2) := ⟨_, rfl⟩
      have hbW : Below w.heap.size w W := by rw [hW]; exact below_alloc1 (Below.refl _ _) _
      have B := Lib.hid (show Blk W w.heap.size #[.int .i64 (i : Int)] 2 by rw [hW]; exact Blk.made _ _ _)
      have F1 := Lib.hid (hfor.keep hbW)
      have HS := Lib.hid (st_end (i := i) (L := L) hne)
      have b0 := B.out.cell 0
      have bl := B.out.lt
      have p0 := F1.out.blk.cell 0
      have pl := F1.out.blk.lt
      simp only [List.getElem?_toArray, List.getElem?_cons_zero] at b0 p0
      clear hA hfor hl hne
      go_enter Tryz.func133, Tryz.ntmps133
      go_wp2_with fail
      rw [← hW]
      clear hW
      go_quiet (fail)
      go_wp2
      go_ret
      refine ⟨ret_int (by rw [HS.out]), ⟨na, nc, mn, ?_⟩, FrF.of_below (Below.drewN9 hbW _)⟩
      rw [HS.out]
      exact F1.out.keep (Below.drewN9 (Below.refl _ _) _)
  | succ k ih =>
    intro i ls L a n c w hA hl hF hik hN hn hL hlo
    have hln := hA.len
    by_cases h0 : n = 0
    · subst h0
      obtain rfl : ls = [] := List.eq_nil_of_length_eq_zero hln
      have HFO := Lib.hid hF
      clear hA hF hl
      go_enter Tryz.func133, Tryz.ntmps133
      go_wp2
      go_ret
      obtain ⟨na, nc, mn, h⟩ := HFO.out
      refine ⟨ret_int (by simp only [List.map_nil, st_nil]), ⟨na, nc, mn, ?_⟩, FrF.of_below bel⟩
      simp only [List.map_nil, st_nil]
      exact h.keep bel
    · have e0 : ((n : Int) == 0) = false := by simpa using (show ¬ (n : Int) = 0 by omega)
      have ei : ((i : Int) == (N : Int)) = false := by simpa using (show ¬ (i : Int) = (N : Int) by omega)
      have hne : ls.map (·.2) ≠ [] := fun e => h0 (by rw [← hln, ← List.length_map (f := fun x : QM × List Int => x.2), e]; rfl)
      have hncap := hA.row.cap
      obtain ⟨na, nc, mn, hfor⟩ := hF
      obtain ⟨W, hW⟩ : ∃ W, W = w.alloc (.cells #[.int .i64 (i : Int)] 2) := ⟨_, rfl⟩
      have hbW : Below w.heap.size w W := by rw [hW]; exact below_alloc1 (Below.refl _ _) _
      have B := Lib.hid (show Blk W w.heap.size #[.int .i64 (i : Int)] 2 by rw [hW]; exact Blk.made _ _ _)
      have F1 := Lib.hid (hfor.keep hbW)
      have A1 := Lib.hid (hA.keep (hbW.mono hlo))
      have hlop := hfor.lop
      have hlom := hfor.lom
      have hsW := hbW.size
      have HFW := Lib.hid (FrF.of_below (lo := lo) (p := p) (mb := mb) hbW)
      obtain ⟨q1, q2, q3⟩ := st_ref k (i + 1) ((ls.map (·.2)).take (cutN i (ls.map (·.2)))) L
      obtain ⟨A, hAe⟩ : ∃ A, stN k (i + 1) ((ls.map (·.2)).take (cutN i (ls.map (·.2)))) L = A := ⟨_, rfl⟩
      rw [hAe] at q1 q2 q3
      obtain ⟨r1, r2, r3⟩ := st_ref k (i + 1) ((ls.map (·.2)).drop (cutN i (ls.map (·.2)))) A.1
      obtain ⟨C, hCe⟩ : ∃ C, stN k (i + 1) ((ls.map (·.2)).drop (cutN i (ls.map (·.2)))) A.1 = C := ⟨_, rfl⟩
      rw [hCe] at r1 r2 r3
      have HNW := Lib.hid (st_new hne hAe hCe)
      obtain ⟨A1', A2⟩ := A
      obtain ⟨C1, C2⟩ := C
      simp only at q1 q2 q3 r1 r2 r3
      have hpw : 2 ^ (k + 1) = 2 ^ k + 2 ^ k := by rw [Nat.pow_succ]; omega
      have hq2 : I64 A2 := by have h1 := q1.1; have h2 := q1.2; unfold I64; omega
      have hr2 : I64 C2 := by have h1 := r1.1; have h2 := r1.2; unfold I64; omega
      have hcl : cutN i (ls.map (·.2)) ≤ n := by have := cut_le i (ls.map (·.2)); rw [List.length_map, hln] at this; exact this
      have KI := Lib.hid (fun (wx : World) (hb : Below W.heap.size W wx) => slices_IndexFunc_S (g := 189) (lb := #[.pointer (some ⟨w.heap.size, 0, none⟩)]) (p := fun v => v.getD i 0 == 1) (lo := lo) (w := wx) (fun _ _ => by kernel_rfl) (fun W' R v hv hm hb' => impl_setOf_1 ((B.out.keep hb).keep hb') hv (by have h1 := hl (R, v) hm; have h2 := hv.len; simp only at h1; omega) (by have h1 := hl (R, v) hm; have h2 := hv.len; simp only at h1; omega)) (A1.out.keep (hb.mono (by omega))) (by have := hb.size; omega) hn)
      have K2 := Lib.hid (fun (m : Nat) (hm : cutN i (ls.map (·.2)) = m) (nn cc : Nat) (hn' : m = nn) (hc : c = cc) (wx : World) (hA' : LsA wx lo a n c ls) (hF' : ForA wx lo p mb (N : Int) na nc mn L) (hlx : lo ≤ wx.heap.size) => by
        have h := ih (i + 1) (ls.take m) L a m c wx (hA'.head (by omega)) (fun x hx => hl x (List.mem_of_mem_take hx)) ⟨_, _, _, hF'⟩ (by omega) hN (by omega) (by omega) hlx
        rw [List.map_take, ← hm, hAe, hm, hn', hc] at h
        exact h)
      have K3 := Lib.hid (fun (m : Nat) (hm : cutN i (ls.map (·.2)) = m) (aa : Option Addr) (nn cc : Nat) (ha : (if c = m then a else Option.map (fun x => x.add m) a) = aa) (hn' : n - m = nn) (hc : c - m = cc) (wx : World) (hA' : LsA wx lo a n c ls) (hF' : ∃ na nc mn, ForA wx lo p mb (N : Int) na nc mn A1') (hlx : lo ≤ wx.heap.size) => by
        have h := ih (i + 1) (ls.drop m) A1' _ (n - m) (c - m) wx (hA'.tail (by omega)) (fun x hx => hl x (List.mem_of_mem_drop hx)) hF' (by omega) hN (by omega) (by omega) hlx
        rw [List.map_drop, ← hm, hCe, hm, ha, hn', hc] at h
        exact h)
      have HIX := Lib.hid (idx_cut (i := i) ls)
      have hms : ∀ m, cutN i (ls.map (·.2)) = m → (0 : Int) ≤ (m : Int) ∧ (m : Int) ≤ (n : Int) ∧ (m : Int) ≤ (c : Int) ∧ m ≤ n := fun m hm => by omega
      have HMS := Lib.hid hms
      have e1 : IntKind.i64.wrap ((i : Int) + 1) = ((i + 1 : Nat) : Int) := by rw [IntWalk.i64_in _ (by omega)]; rfl
      have b0 := B.out.cell 0
      have bl := B.out.lt
      have p0 := F1.out.blk.cell 0
      have pl := F1.out.blk.lt
      simp only [List.getElem?_toArray, List.getElem?_cons_zero] at b0 p0
      have hbp : w.heap.size ≠ p := fun e => by
        have h := F1.out.blk
        have h2 := B.out
        rw [Blk] at h h2
        rw [e, h] at h2
        simp at h2
      have hbm : w.heap.size ≠ mb := fun e => by
        obtain ⟨es, cl, hm⟩ := F1.out.map.isMap
        have h2 := B.out
        rw [Blk, e, hm] at h2
        cases h2
      have HLN := Lib.hid hln
      clear hA hfor hl hne hAe hCe ih hcl hms hln
      go_enter Tryz.func133, Tryz.ntmps133
      go_wp2_with fail
      rw [← hW]
      clear hW
      go_quiet (fail)
      have hbD : Below W.heap.size W (W.drewN nq) := Below.drewN9 (Below.refl _ _) _
      go_wp2_with fail
      refine Calls.mono (KI.out _ hbD) ?_
      rintro e w2 ⟨rfl, hb2⟩
      have hb3 := below_callS hbD hb2
      have B2 := Lib.hid (B.out.keep hb3)
      have F2 := Lib.hid (F1.out.keep hb3)
      have A2' := Lib.hid (A1.out.keep (hb3.mono (by omega)))
      have HF2 := Lib.hid (HFW.out.trans (FrF.of_below hb3))
      have hs2 := hb3.size
      clear hb2 hb3 hbD b0 p0 pl KI F1 A1 bl HFW
      have b0 := B2.out.cell 0
      have bl := B2.out.lt
      simp only [List.getElem?_toArray, List.getElem?_cons_zero] at b0
      obtain ⟨v, hv⟩ : ∃ v, idxF (fun x : QM × List Int => x.2.getD i 0 == 1) ls = v := ⟨_, rfl⟩
      rw [hv] at HIX ⊢
      have hge : -1 ≤ v := by rw [← hv]; exact idxF_ge _ _
      have HM : ∃ m : Nat, Hid (cutN i (ls.map (·.2)) = m) ∧ (0 : Int) ≤ (m : Int) ∧ (m : Int) ≤ (n : Int) ∧ (m : Int) ≤ (c : Int) ∧ m ≤ n ∧ ((v < 0 ∧ m = n) ∨ (¬ v < 0 ∧ v = (m : Int))) := by
        by_cases hneg : v < 0
        · have h1 := HIX.out.1 hneg
          rw [HLN.out] at h1
          obtain ⟨m1, m2, m3, m4⟩ := HMS.out n h1
          exact ⟨n, h1, m1, m2, m3, m4, .inl ⟨hneg, rfl⟩⟩
        · have h1 := HIX.out.2 (by omega)
          obtain ⟨m1, m2, m3, m4⟩ := HMS.out _ rfl
          exact ⟨_, Lib.hid rfl, m1, m2, m3, m4, .inr ⟨hneg, h1⟩⟩
      clear hv HIX HMS
      obtain ⟨m, HCM, m1, m2, m3, m4, hcase⟩ := HM
      have hcase : (v < 0 ∧ m = n ∧ c = m) ∨ (v < 0 ∧ m = n ∧ ¬ c = m) ∨ (¬ v < 0 ∧ v = (m : Int) ∧ c = m) ∨ (¬ v < 0 ∧ v = (m : Int) ∧ ¬ c = m) := by
        rcases hcase with h1 | h1 <;> by_cases h : c = m
        · exact .inl ⟨h1.1, h1.2, h⟩
        · exact .inr (.inl ⟨h1.1, h1.2, h⟩)
        · exact .inr (.inr (.inl ⟨h1.1, h1.2, h⟩))
        · exact .inr (.inr (.inr ⟨h1.1, h1.2, h⟩))
      rcases hcase with ⟨hneg, hmn, hcm⟩ | ⟨hneg, hmn, hcm⟩ | ⟨hneg, hvm, hcm⟩ | ⟨hneg, hvm, hcm⟩
      case' inl => (subst hmn; go_wp2_with fail)
      case' inr.inl => (subst hmn; go_wp2_with fail)
      case' inr.inr.inl => (subst hvm; go_wp2_with fail)
      case' inr.inr.inr => (subst hvm; go_wp2_with fail)
      all_goals
        refine wp_region_noPanic ?_
        refine wp_region_M (L := 16) (S := (fun wx => wx.cell? ⟨w.heap.size, 0, none⟩ = some (.int .i64 (i : Int)) ∧ w.heap.size < wx.heap.size)) (by kernel_rfl) ?_ (fun hHeld => ?_)
        · exact ⟨b0, bl⟩
        have hbD : Below w2.heap.size w2 w2.drew := (Below.refl _ _).drew
        have B3 := Lib.hid (B2.out.keep hbD)
        have F3 := Lib.hid (F2.out.keep hbD)
        have A3 := Lib.hid (A2'.out.keep (hbD.mono (by omega)))
        have HF3 := Lib.hid (HF2.out.trans (FrF.of_below hbD))
        have hs3 : W.heap.size ≤ w2.drew.heap.size := by have := hbD.size; omega
        clear hbD b0 bl hs2 B2 F2 A2' HF2
        refine tkM0 0 (v := ?_) ?_ ?_
        rotate_left
        · (intro wv hSw; (try dsimp only at hSw); obtain ⟨h1', h2'⟩ := hSw; go_simp; try with_reducible rfl)
        try simp only [Act.put, s1, s2, s3]
        refine tkM0 1 (v := ?_) ?_ ?_
        rotate_left
        · (intro wv hSw; (try dsimp only at hSw); obtain ⟨h1', h2'⟩ := hSw; go_simp; try with_reducible rfl)
        try simp only [Act.put, s1, s2, s3]
        refine tkM0 2 (v := ?_) ?_ ?_
        rotate_left
        · (intro wv hSw; (try dsimp only at hSw); obtain ⟨h1', h2'⟩ := hSw; go_simp; try with_reducible rfl)
        try simp only [Act.put, s1, s2, s3]
        refine tkM0 3 (v := ?_) ?_ ?_
        rotate_left
        · (intro wv hSw; (try dsimp only at hSw); obtain ⟨h1', h2'⟩ := hSw; go_simp; try with_reducible rfl)
        try simp only [Act.put, s1, s2, s3]
        refine tkM0 4 (v := ?_) ?_ ?_
        rotate_left
        · (intro wv hSw; (try dsimp only at hSw); obtain ⟨h1', h2'⟩ := hSw; go_simp; try with_reducible rfl)
        try simp only [Act.put, s1, s2, s3]
        refine tkM0 5 (v := ?_) ?_ ?_
        rotate_left
        · (intro wv hSw; (try dsimp only at hSw); obtain ⟨h1', h2'⟩ := hSw; go_simp; try with_reducible rfl)
        try simp only [Act.put, s1, s2, s3]
        refine tkM0 6 (v := ?_) ?_ ?_
        rotate_left
        · (intro wv hSw; (try dsimp only at hSw); obtain ⟨h1', h2'⟩ := hSw; go_simp; try with_reducible rfl)
        try simp only [Act.put, s1, s2, s3]
        refine tkM0 7 (v := ?_) ?_ ?_
        rotate_left
        · (intro wv hSw; (try dsimp only at hSw); obtain ⟨h1', h2'⟩ := hSw; go_simp; try with_reducible rfl)
        try simp only [Act.put, s1, s2, s3]
        refine tkM0 9 (v := ?_) ?_ ?_
        rotate_left
        · (intro wv hSw; (try dsimp only at hSw); obtain ⟨h1', h2'⟩ := hSw; go_simp; try with_reducible rfl)
        try simp only [Act.put, s1, s2, s3]
        refine tkM0 10 (v := ?_) ?_ ?_
        rotate_left
        · (intro wv hSw; (try dsimp only at hSw); obtain ⟨h1', h2'⟩ := hSw; go_simp; try with_reducible rfl)
        try simp only [Act.put, s1, s2, s3]
        refine tkM0 11 (v := ?_) ?_ ?_
        rotate_left
        · (intro wv hSw; (try dsimp only at hSw); obtain ⟨h1', h2'⟩ := hSw; go_simp; try with_reducible rfl)
        try simp only [Act.put, s1, s2, s3]
        refine tkM0 12 (v := ?_) ?_ ?_
        rotate_left
        · (intro wv hSw; (try dsimp only at hSw); obtain ⟨h1', h2'⟩ := hSw; go_simp; try with_reducible rfl)
        try simp only [Act.put, s1, s2, s3]
        refine tkM0 13 (v := ?_) ?_ ?_
        rotate_left
        · (intro wv hSw; (try dsimp only at hSw); obtain ⟨h1', h2'⟩ := hSw; go_simp; try with_reducible rfl)
        try simp only [Act.put, s1, s2, s3]
        refine tkM0 14 (v := ?_) ?_ ?_
        rotate_left
        · (intro wv hSw; (try dsimp only at hSw); obtain ⟨h1', h2'⟩ := hSw; go_simp; try with_reducible rfl)
        try simp only [Act.put, s1, s2, s3]
        refine wpAnyM_ready (rs := [8]) (by kernel_rfl) (by simp) ?_
        refine AllReadyM.cons rfl (fun K hK => ?_) AllReadyM.nil
        go_simp
        refine Calls.mono (K2.out m HCM.out _ _ (by first | rfl | omega) (by first | rfl | omega) _ A3.out F3.out (by omega)) ?_
        rintro e w5 ⟨rfl, hF5, hf5⟩
        have B5 := Lib.hid (B3.out.frf hf5 hbp (by decide) hbm)
        have hb5 := hf5.below (Below.refl lo _) (by omega) (Nat.le_refl _) hlop hlom
        have A5 := Lib.hid (A3.out.keep hb5)
        have HF5 := Lib.hid (HF3.out.trans hf5)
        have F5 := Lib.hid hF5
        have hs5 := hf5.size
        clear hF5 hf5 hb5 B3 A3 F3 HF3
        go_wp2_with fail
        refine hK.out _ _ ⟨B5.out.cell 0, B5.out.lt⟩ (fun hHeld => ?_)
        clear hK K
        try simp only [Act.put, s1, s2, s3]
        refine wpAnyM_ready (rs := [15]) (by kernel_rfl) (by simp) ?_
        refine AllReadyM.cons rfl (fun K hK => ?_) AllReadyM.nil
        go_simp
        refine Calls.mono (K3.out m HCM.out _ _ _ (by first | exact if_pos (by assumption) | exact if_neg (by assumption)) (by first | rfl | omega) (by first | rfl | omega) _ A5.out F5.out (by omega)) ?_
        rintro e w6 ⟨rfl, ⟨na6, nc6, mn6, hF6⟩, hf6⟩
        have B6 := Lib.hid (B5.out.frf hf6 hbp (by decide) hbm)
        have HF6 := Lib.hid (HF5.out.trans hf6)
        have F6 := Lib.hid hF6
        have hs6 := hf6.size
        clear hF6 hf6 B5 A5 F5 HF5
        go_wp2_with fail
        refine hK.out _ _ ⟨B6.out.cell 0, B6.out.lt⟩ (fun hHeld => ?_)
        clear hK K
        try simp only [Act.put, s1, s2, s3]
        refine wpAnyM_ready (rs := [16]) (by kernel_rfl) (by simp) ?_
        refine AllReadyM.last rfl (fun K hK => ?_)
        go_simp
        refine Calls.mono (impl_node F6.out (by omega) (by unfold I64; omega) hq2 hr2 (by omega)) ?_
        rintro e w7 ⟨rfl, hF7, hf7⟩
        have HF7 := Lib.hid (HF6.out.trans hf7)
        have F7 := Lib.hid hF7
        clear hF7 hf7 hHeld
        go_wp2_with fail
        refine hK.out _ _ ?_
        clear hK K
        try simp only [Act.put, s1, s2, s3]
        refine wpAnyM_ready (rs := [17]) (by kernel_rfl) (by simp) ?_
        refine AllReadyM.then (by kernel_rfl) rfl (fun K hK => ?_)
        go_simp
        refine hK.out _ _ ?_
        clear hK K
        try simp only [Act.put, s1, s2, s3]
        refine wpAnyM_done (by kernel_rfl) ?_ _
        refine NoPanic.normal ?_
        go_wp2
        go_ret
        refine ⟨ret_int (by rw [HNW.out]), ?_, HF7.out⟩
        rw [HNW.out]
        exact F7.out
end Go.Proofs.YtkaikbaagajckaaGreat
