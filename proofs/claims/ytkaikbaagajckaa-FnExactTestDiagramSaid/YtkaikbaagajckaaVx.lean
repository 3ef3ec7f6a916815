/- Tests as diagrams: plain laws. -/
import Derived.Test.YtkaikbaagajckaaJa
import Derived.Test.YtkaikbaagajckaaJd
namespace Go.Proofs.Ytkaikbaagajckaa
open Go.RowKit
set_option linter.unusedVariables false
set_option linter.unusedSimpArgs false
/-- the values of a variable that are allowed, from one of its bits on, and what follows -/
def vtN (al : Int → Bool) : Nat → List I3 → Int → Int → Int → List I3 × Int
  | 0, L, v, _, rest => (L, if al v = true then rest else 0)
  | k + 1, L, v, i, rest => mkN (vtN al k (vtN al k L (2 * v) (i + 1) rest).1 (2 * v + 1) (i + 1) rest).1 i (vtN al k L (2 * v) (i + 1) rest).2 (vtN al k (vtN al k L (2 * v) (i + 1) rest).1 (2 * v + 1) (i + 1) rest).2
/-- the value of k bits from i on, behind some -/
def vbN (β : Nat → Bool) : Nat → Nat → Int → Int
  | 0, _, v => v
  | k + 1, i, v => vbN β k (i + 1) (2 * v + if β i = true then 1 else 0)
theorem vt_inv {n : Int} {al : Int → Bool} : ∀ (k : Nat) (L : List I3) (v : Int) (i : Nat) (rest : Int), Snd n L → RefB rest L.length → (i : Int) + k ≤ n → (i : Int) + k ≤ lvlN n L rest →
    Snd n (vtN al k L v i rest).1 ∧ RefB (vtN al k L v i rest).2 (vtN al k L v i rest).1.length ∧ (i : Int) ≤ lvlN n (vtN al k L v i rest).1 (vtN al k L v i rest).2 ∧ (∃ t, (vtN al k L v i rest).1 = L ++ t ∧ t.length + 1 ≤ 2 ^ k) ∧
    ∀ β, evR (vtN al k L v i rest).1 β (vtN al k L v i rest).2 = (evR L β rest && al (vbN β k i v)) := by
  intro k
  induction k with
  | zero =>
    intro L v i rest hS hr hn hl
    rw [vtN]
    cases ha : al v
    · simp only [Bool.false_eq_true, if_false]
      refine ⟨hS, ⟨by omega, by omega⟩, by rw [lvl_low (by omega)]; omega, ⟨[], by simp, by simp⟩, fun β => ?_⟩
      rw [ev_zero, vbN, ha, Bool.and_false]
    · simp only [if_true]
      refine ⟨hS, hr, by omega, ⟨[], by simp, by simp⟩, fun β => ?_⟩
      rw [vbN, ha, Bool.and_true]
  | succ k ih =>
    intro L v i rest hS hr hn hl
    push_cast at hn hl
    obtain ⟨a1, a2, a3, ⟨t1, a4, a5⟩, a6⟩ := ih L (2 * v) (i + 1) rest hS hr (by push_cast; omega) (by push_cast; omega)
    have ei : (((i + 1 : Nat)) : Int) = (i : Int) + 1 := by omega
    rw [ei] at a1 a2 a3 a4 a6
    rw [vtN]
    generalize vtN al k L (2 * v) ((i : Int) + 1) rest = A at *
    obtain ⟨A1, A2⟩ := A
    simp only at a1 a2 a3 a4 a6 ⊢
    have hr1 : RefB rest A1.length := hr.mono (by rw [a4, List.length_append]; omega)
    have hl1 : lvlN n A1 rest = lvlN n L rest := by rw [a4]; exact lvl_app hr
    have he1 : ∀ β, evR A1 β rest = evR L β rest := fun β => by rw [a4]; exact ev_app hS.redu.frst hr
    obtain ⟨b1, b2, b3, ⟨t2, b4, b5⟩, b6⟩ := ih A1 (2 * v + 1) (i + 1) rest a1 hr1 (by push_cast; omega) (by rw [hl1]; push_cast; omega)
    rw [ei] at b1 b2 b3 b4 b6
    generalize vtN al k A1 (2 * v + 1) ((i : Int) + 1) rest = B at *
    obtain ⟨B1, B2⟩ := B
    simp only at b1 b2 b3 b4 b6 ⊢
    have hl2 : RefB A2 B1.length := a2.mono (by rw [b4, List.length_append]; omega)
    have hv2 : lvlN n B1 A2 = lvlN n A1 A2 := by rw [b4]; exact lvl_app a2
    have he2 : ∀ β, evR B1 β A2 = evR A1 β A2 := fun β => by rw [b4]; exact ev_app a1.redu.frst a2
    have hF := b1.redu.frst
    obtain ⟨t3, c4, c5⟩ := mkN_pre B1 i A2 B2
    have hA := hF.add (i := (i : Int)) hl2 b2
    have hO := b1.ord.add hF (i := (i : Int)) hl2 b2 (by omega) (by omega) (by rw [hv2]; omega) (by omega)
    refine ⟨b1.add hl2 b2 (by omega) (by omega) (by rw [hv2]; omega) (by omega), hA.2, hO.2, ⟨t1 ++ (t2 ++ t3), by rw [c4, b4, a4]; simp, ?_⟩, fun β => ?_⟩
    · rw [List.length_append, List.length_append, Nat.pow_succ]; omega
    · rw [ev_mk hF hl2 b2, Int.toNat_natCast, b6, he2, a6, he1, vbN]
      cases β i <;> simp
theorem mkN_ref {L : List I3} {i lo hi : Int} (hl : RefB lo L.length) : RefB (mkN L i lo hi).2 (mkN L i lo hi).1.length := by
  unfold mkN
  split
  · exact hl
  · split
    · rename_i k hk
      have := (List.getElem?_eq_some_iff.1 (posN_some hk).1).1
      exact ⟨by simp only; omega, by simp only; omega⟩
    · exact ⟨by simp only; omega, by simp only [List.length_append, List.length_cons, List.length_nil]; omega⟩
theorem vt_ref {al : Int → Bool} : ∀ (k : Nat) (L : List I3) (v i rest : Int), RefB rest L.length →
    RefB (vtN al k L v i rest).2 (vtN al k L v i rest).1.length ∧ L.length ≤ (vtN al k L v i rest).1.length ∧ (vtN al k L v i rest).1.length + 1 ≤ L.length + 2 ^ k := by
  intro k
  induction k with
  | zero =>
    intro L v i rest hr
    rw [vtN]
    refine ⟨?_, Nat.le_refl _, by simp⟩
    cases al v
    · exact ⟨by simp, by simp; omega⟩
    · exact hr
  | succ k ih =>
    intro L v i rest hr
    obtain ⟨a1, a2, a3⟩ := ih L (2 * v) (i + 1) rest hr
    rw [vtN]
    generalize vtN al k L (2 * v) (i + 1) rest = A at *
    obtain ⟨A1, A2⟩ := A
    simp only at a1 a2 a3 ⊢
    obtain ⟨b1, b2, b3⟩ := ih A1 (2 * v + 1) (i + 1) rest (hr.mono a2)
    generalize vtN al k A1 (2 * v + 1) (i + 1) rest = B at *
    obtain ⟨B1, B2⟩ := B
    simp only at b1 b2 b3 ⊢
    obtain ⟨t3, c4, c5⟩ := mkN_pre B1 i A2 B2
    have hlen : (mkN B1 i A2 B2).1.length = B1.length + t3.length := by rw [c4, List.length_append]
    refine ⟨mkN_ref (a1.mono b2), by omega, ?_⟩
    rw [Nat.pow_succ]; omega
theorem vt_new {al : Int → Bool} {k : Nat} {L : List I3} {v i rest : Int} {A B : List I3 × Int} (hA : vtN al k L (2 * v) (i + 1) rest = A) (hB : vtN al k A.1 (2 * v + 1) (i + 1) rest = B) : vtN al (k + 1) L v i rest = mkN B.1 i A.2 B.2 := by
  subst hA hB; rfl
/-- what a test allows -/
def alB (sz : List Int) (g : List I2b) (j : Nat) (v : Int) : Bool := decide (v < sz.getD j 0) && !(g.any fun t => decide (t.a = (j : Int)) && (decide (v = t.b) != t.c))
/-- behind the last k variables -/
def tdN (sz : List Int) (g : List I2b) : Nat → List I3 × Int
  | 0 => ([], 1)
  | k + 1 => vtN (alB sz g (sz.length - 1 - k)) (wN (sz.getD (sz.length - 1 - k) 0)).toNat (tdN sz g k).1 0 (offN sz (sz.length - 1 - k) : Int) (tdN sz g k).2
theorem td_inv {sz : List Int} {g : List I2b} (hs : allIn 1 32 sz = true) : ∀ k, k ≤ sz.length →
    Snd (offN sz sz.length : Int) (tdN sz g k).1 ∧ RefB (tdN sz g k).2 (tdN sz g k).1.length ∧ (offN sz (sz.length - k) : Int) ≤ lvlN (offN sz sz.length : Int) (tdN sz g k).1 (tdN sz g k).2 ∧ (tdN sz g k).1.length ≤ 31 * k ∧
    ∀ β, evR (tdN sz g k).1 β (tdN sz g k).2 = true ↔ ∀ j, sz.length - k ≤ j → j < sz.length → alB sz g j (vbN β (wN (sz.getD j 0)).toNat (offN sz j) 0) = true := by
  intro k
  induction k with
  | zero =>
    intro _
    rw [tdN]
    refine ⟨Snd.nil _, ⟨by omega, by simp⟩, by rw [lvl_low (by omega)]; simp, by simp, fun β => ?_⟩
    rw [ev_low (by omega)]
    simp only [decide_true, true_iff]
    intro j h1 h2
    omega
  | succ k ih =>
    intro hk
    obtain ⟨i1, i2, i3, i4, i5⟩ := ih (by omega)
    obtain ⟨q, hq⟩ : ∃ q, q = sz.length - 1 - k := ⟨_, rfl⟩
    have hql : q < sz.length := by omega
    obtain ⟨z, hz⟩ : ∃ z, sz[q]? = some z := ⟨_, List.getElem?_eq_getElem hql⟩
    have hgd : sz.getD q 0 = z := getD_of hz
    have hz2 := allIn_at hs hz
    have hw := wN_in hz2.1 hz2.2
    have hst := offN_step hz
    have hof := offN_le (sz := sz) (k := q + 1) (by omega)
    have e1 : sz.length - k = q + 1 := by omega
    rw [e1] at i3 i5
    rw [tdN, ← hq, hgd]
    generalize tdN sz g k = A at *
    obtain ⟨L, r⟩ := A
    simp only at i1 i2 i3 i4 i5 ⊢
    obtain ⟨b1, b2, b3, ⟨t, b4, b5⟩, b6⟩ := vt_inv (al := alB sz g q) (wN z).toNat L 0 (offN sz q) r i1 i2 (by omega) (by omega)
    have h32 : 2 ^ (wN z).toNat ≤ 32 := Nat.le_trans (Nat.pow_le_pow_right (by decide) (show (wN z).toNat ≤ 5 by omega)) (by decide)
    refine ⟨b1, b2, by rw [show sz.length - (k + 1) = q by omega]; exact b3, by rw [b4, List.length_append]; omega, fun β => ?_⟩
    rw [b6, Bool.and_eq_true, i5, show sz.length - (k + 1) = q by omega]
    constructor
    · rintro ⟨h1, h2⟩ j hj1 hj2
      by_cases hjq : j = q
      · subst hjq; rw [hgd]; exact h2
      · exact h1 j (by omega) hj2
    · intro h
      refine ⟨fun j h1 h2 => h j (by omega) h2, ?_⟩
      have := h q (Nat.le_refl _) hql
      rw [hgd] at this
      exact this
/-- the diagram of tests -/
def tsN (sz : List Int) (g : List I2b) : List I3 × Int := canN mkN (tdN sz g sz.length).1 (tdN sz g sz.length).2
theorem ts_few {sz : List Int} {g : List I2b} (hs : allIn 1 32 sz = true) (hn : sz.length ≤ 16) : (tsN sz g).1.length ≤ 496 := by
  obtain ⟨i1, i2, _, i4, _⟩ := td_inv (g := g) hs sz.length (Nat.le_refl _)
  have := can_length i1.redu i2
  rw [tsN]; omega
end Go.Proofs.Ytkaikbaagajckaa
