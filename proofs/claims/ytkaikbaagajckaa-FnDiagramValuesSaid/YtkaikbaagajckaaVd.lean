/- Decision diagrams: the lists of bits with the value 1, and how many there are: plain laws. -/
import Derived.Test.YtkaikbaagajckaaVc
namespace Go.Proofs.Ytkaikbaagajckaa
open Go.RowKit
set_option linter.unusedVariables false
set_option linter.unusedSimpArgs false
/-- all lists of so many bits, in lexicographic order -/
def allB : Nat → List (List Int)
  | 0 => [[]]
  | k + 1 => (allB k).map (0 :: ·) ++ (allB k).map (1 :: ·)
theorem allB_len : ∀ k, (allB k).length = 2 ^ k
  | 0 => rfl
  | k + 1 => by rw [allB, List.length_append, List.length_map, List.length_map, allB_len k, Nat.pow_succ]; omega
theorem allB_mem : ∀ {k : Nat} {s : List Int}, s ∈ allB k ↔ s.length = k ∧ ∀ x ∈ s, x = 0 ∨ x = 1
  | 0, s => by
    rw [allB, List.mem_singleton]
    constructor
    · rintro rfl; exact ⟨rfl, fun x h => by cases h⟩
    · rintro ⟨h, _⟩; exact List.length_eq_zero_iff.1 h
  | k + 1, s => by
    rw [allB, List.mem_append, List.mem_map, List.mem_map]
    constructor
    · rintro (⟨t, ht, rfl⟩ | ⟨t, ht, rfl⟩)
      · obtain ⟨h1, h2⟩ := allB_mem.1 ht
        exact ⟨by rw [List.length_cons, h1], fun x hx => by
          rcases List.mem_cons.1 hx with rfl | hx
          · exact .inl rfl
          · exact h2 x hx⟩
      · obtain ⟨h1, h2⟩ := allB_mem.1 ht
        exact ⟨by rw [List.length_cons, h1], fun x hx => by
          rcases List.mem_cons.1 hx with rfl | hx
          · exact .inr rfl
          · exact h2 x hx⟩
    · rintro ⟨h1, h2⟩
      cases s with
      | nil => cases h1
      | cons y t =>
        have ht : t ∈ allB k := allB_mem.2 ⟨by simpa using h1, fun x hx => h2 x (List.mem_cons_of_mem _ hx)⟩
        rcases h2 y (List.mem_cons_self ..) with rfl | rfl
        · exact .inl ⟨t, ht, rfl⟩
        · exact .inr ⟨t, ht, rfl⟩
theorem allB_nodup : ∀ k, (allB k).Nodup
  | 0 => by simp [allB]
  | k + 1 => by
    rw [allB, List.nodup_append]
    have hi : ∀ b : Int, ((allB k).map (b :: ·)).Nodup := fun b => by
      rw [List.Nodup, List.pairwise_map]
      exact (allB_nodup k).imp fun h e => h (by simpa using e)
    refine ⟨hi 0, hi 1, fun a ha b hb e => ?_⟩
    obtain ⟨x, _, rfl⟩ := List.mem_map.1 ha
    obtain ⟨y, _, rfl⟩ := List.mem_map.1 hb
    simp at e
/-- what a list of bits gives to the inputs from one on -/
def bitF (off : Nat) (s : List Int) : Nat → Bool := fun i => decide (off ≤ i) && (s.getD (i - off) 0 == 1)
theorem bitF_at (off : Nat) (b : Int) (t : List Int) : bitF off (b :: t) off = (b == 1) := by
  rw [bitF, decide_eq_true (Nat.le_refl _), Nat.sub_self]; rfl
theorem bitF_next (off : Nat) (b : Int) (t : List Int) {i : Nat} (h : off + 1 ≤ i) : bitF off (b :: t) i = bitF (off + 1) t i := by
  rw [bitF, bitF, decide_eq_true (show off ≤ i by omega), decide_eq_true h, show i - off = (i - (off + 1)) + 1 by omega]; rfl
/-- the branches of a reference at an input -/
def chN (n : Int) (L : List I3) (r : Int) (i : Int) : Int × Int := if lvlN n L r = i ∧ 2 ≤ r then ((L.getD (r - 2).toNat ⟨0, 0, 0⟩).b, (L.getD (r - 2).toNat ⟨0, 0, 0⟩).c) else (r, r)
theorem ch_skip {n : Int} {L : List I3} {r i : Int} (h : lvlN n L r ≠ i ∨ r < 2) : chN n L r i = (r, r) := if_neg (by omega)
theorem ch_node {n : Int} {L : List I3} {k : Nat} {x : I3} {i : Int} (hx : L[k]? = some x) (h : x.a = i) : chN n L ((k : Int) + 2) i = (x.b, x.c) := by
  rw [chN, if_pos ⟨(lvl_node hx).trans h, by omega⟩, show ((k : Int) + 2 - 2).toNat = k by omega, List.getD_eq_getElem?_getD, hx]; rfl
/-- both branches, and what they have to do with the value -/
theorem ch_all {n : Int} {L : List I3} (hF : Frst L) (hO : OrdN n L) {r : Int} (hr : RefB r L.length) {i : Nat} (hi : (i : Int) ≤ lvlN n L r) (hn : (i : Int) < n) :
    RefB (chN n L r i).1 L.length ∧ RefB (chN n L r i).2 L.length ∧ (i : Int) + 1 ≤ lvlN n L (chN n L r i).1 ∧ (i : Int) + 1 ≤ lvlN n L (chN n L r i).2 ∧ ∀ β : Nat → Bool, evR L β r = if β i = true then evR L β (chN n L r i).2 else evR L β (chN n L r i).1 := by
  by_cases h2 : r < 2
  · rw [ch_skip (.inr h2)]
    have := lvl_low (n := n) (L := L) h2
    exact ⟨hr, hr, by simp only; omega, by simp only; omega, fun β => by simp⟩
  · obtain ⟨k, rfl⟩ : ∃ k : Nat, r = (k : Int) + 2 := ⟨(r - 2).toNat, by omega⟩
    have hlt : k < L.length := by have := hr.2; omega
    obtain ⟨x, hx⟩ : ∃ x, L[k]? = some x := ⟨_, List.getElem?_eq_getElem hlt⟩
    obtain ⟨o1, o2, o3, o4⟩ := hO _ _ hx
    have hl := lvl_node (n := n) hx
    by_cases he : x.a = (i : Int)
    · rw [ch_node hx he]
      refine ⟨(hF.low _ _ hx).mono (Nat.le_of_lt hlt), (hF.high _ _ hx).mono (Nat.le_of_lt hlt), by simp only; omega, by simp only; omega, fun β => ?_⟩
      rw [ev_node hF hx, he, Int.toNat_natCast]
      simp only
      split <;> rfl
    · rw [ch_skip (.inl (by rw [hl]; exact he))]
      exact ⟨hr, hr, by simp only; omega, by simp only; omega, fun β => by simp⟩
/-- the lists of bits from an input on with the value 1 -/
def lsN (n : Int) (L : List I3) : Nat → Int → List (List Int)
  | 0, r => if r = 0 then [] else [[]]
  | k + 1, r => if r = 0 then [] else (lsN n L k (chN n L r (n - ((k : Int) + 1))).1).map (0 :: ·) ++ (lsN n L k (chN n L r (n - ((k : Int) + 1))).2).map (1 :: ·)
theorem ev_zero (L : List I3) (β : Nat → Bool) : evR L β 0 = false := by rw [ev_low (by omega)]; rfl
theorem ev_bit {n : Int} {L : List I3} (hF : Frst L) (hO : OrdN n L) {r : Int} (hr : RefB r L.length) {i : Nat} (hi : (i : Int) + 1 ≤ lvlN n L r) (b : Int) (t : List Int) : evR L (bitF i (b :: t)) r = evR L (bitF (i + 1) t) r :=
  ev_indep hF hO _ r (Nat.le_refl _) hr fun j hj _ => bitF_next i b t (by omega)
theorem ls_filter {n : Nat} {L : List I3} (hF : Frst L) (hO : OrdN (n : Int) L) : ∀ (k : Nat) (r : Int), k ≤ n → RefB r L.length → ((n - k : Nat) : Int) ≤ lvlN (n : Int) L r → lsN (n : Int) L k r = (allB k).filter fun s => evR L (bitF (n - k) s) r := by
  intro k
  induction k with
  | zero =>
    intro r _ hr hl
    have h2 : r < 2 := by
      by_cases h2 : r < 2
      · exact h2
      · obtain ⟨k, rfl⟩ : ∃ k : Nat, r = (k : Int) + 2 := ⟨(r - 2).toNat, by omega⟩
        have hlt : k < L.length := by have := hr.2; omega
        have hx := List.getElem?_eq_getElem hlt
        have h3 := (hO _ _ hx).2.1
        rw [lvl_node hx] at hl
        omega
    have h0 := hr.1
    rw [lsN, allB]
    by_cases h : r = 0
    · rw [if_pos h, h, List.filter_cons, ev_zero]; rfl
    · rw [if_neg h, List.filter_cons, ev_low h2, decide_eq_true (show r = 1 by omega)]; rfl
  | succ k ih =>
    intro r hk hr hl
    rw [lsN, allB]
    by_cases h : r = 0
    · rw [if_pos h, h]
      symm
      rw [List.filter_eq_nil_iff]
      intro s _
      rw [ev_zero]; decide
    · rw [if_neg h]
      have e1 : (n : Int) - ((k : Int) + 1) = ((n - (k + 1) : Nat) : Int) := by omega
      rw [e1]
      obtain ⟨c1, c2, c3, c4, c5⟩ := ch_all hF hO hr (i := n - (k + 1)) hl (by omega)
      have e2 : n - (k + 1) + 1 = n - k := by omega
      rw [ih _ (by omega) c1 (by omega), ih _ (by omega) c2 (by omega), List.filter_append, List.filter_map, List.filter_map]
      congr 2
      · apply List.filter_congr
        intro s _
        show evR L (bitF (n - k) s) _ = evR L (bitF (n - (k + 1)) (0 :: s)) r
        rw [c5, bitF_at, if_neg (by decide), ev_bit hF hO c1 c3, e2]
      · apply List.filter_congr
        intro s _
        show evR L (bitF (n - k) s) _ = evR L (bitF (n - (k + 1)) (1 :: s)) r
        rw [c5, bitF_at, if_pos (by decide), ev_bit hF hO c2 c4, e2]
/-- for how many lists of bits from its own input on a reference has the value 1 -/
def cntF (n : Int) (L : List I3) : Nat → Int → Nat
  | 0, r => if r = 0 then 0 else 1
  | f + 1, r => if r < 2 then (if r = 0 then 0 else 1) else match L[(r - 2).toNat]? with
    | none => 0
    | some x => cntF n L f x.b * 2 ^ (lvlN n L x.b - (x.a + 1)).toNat + cntF n L f x.c * 2 ^ (lvlN n L x.c - (x.a + 1)).toNat
def cntR (n : Int) (L : List I3) (r : Int) : Nat := cntF n L r.toNat r
theorem cntF_low {n : Int} {L : List I3} (f : Nat) {r : Int} (h : r < 2) : cntF n L f r = if r = 0 then 0 else 1 := by
  cases f with
  | zero => rfl
  | succ f => rw [cntF, if_pos h]
theorem cntF_fuel {n : Int} {L : List I3} (hF : Frst L) : ∀ (f g : Nat) (r : Int), r.toNat ≤ f → r.toNat ≤ g → cntF n L f r = cntF n L g r := by
  intro f
  induction f with
  | zero => intro g r hf hg; rw [cntF_low _ (by omega), cntF_low _ (by omega)]
  | succ f ih =>
    intro g r hf hg
    by_cases hr : r < 2
    · rw [cntF_low _ hr, cntF_low _ hr]
    · obtain ⟨g, rfl⟩ : ∃ g', g = g' + 1 := ⟨g - 1, by omega⟩
      rw [cntF, cntF, if_neg hr, if_neg hr]
      cases hx : L[(r - 2).toNat]? with
      | none => rfl
      | some x =>
        have h3 := hF.low _ _ hx
        have h4 := hF.high _ _ hx
        unfold RefB at h3 h4
        simp only
        rw [ih g x.b (by omega) (by omega), ih g x.c (by omega) (by omega)]
theorem cnt_low {n : Int} {L : List I3} {r : Int} (h : r < 2) : cntR n L r = if r = 0 then 0 else 1 := cntF_low _ h
theorem cnt_node {n : Int} {L : List I3} (hF : Frst L) {k : Nat} {x : I3} (hx : L[k]? = some x) : cntR n L ((k : Int) + 2) = cntR n L x.b * 2 ^ (lvlN n L x.b - (x.a + 1)).toNat + cntR n L x.c * 2 ^ (lvlN n L x.c - (x.a + 1)).toNat := by
  have h3 := hF.low _ _ hx
  have h4 := hF.high _ _ hx
  unfold RefB at h3 h4
  rw [cntR, show ((k : Int) + 2).toNat = (k + 1) + 1 by omega, cntF, if_neg (by omega), show ((k : Int) + 2 - 2).toNat = k by omega, hx]
  simp only
  rw [cntF_fuel hF (k + 1) x.b.toNat x.b (by omega) (Nat.le_refl _), cntF_fuel hF (k + 1) x.c.toNat x.c (by omega) (Nat.le_refl _)]
  rfl
/-- the count is that of the lists -/
theorem cnt_ls {n : Nat} {L : List I3} (hF : Frst L) (hO : OrdN (n : Int) L) : ∀ (k : Nat) (r : Int), k ≤ n → RefB r L.length → ((n - k : Nat) : Int) ≤ lvlN (n : Int) L r → (lsN (n : Int) L k r).length = cntR (n : Int) L r * 2 ^ (lvlN (n : Int) L r - ((n - k : Nat) : Int)).toNat := by
  intro k
  induction k with
  | zero =>
    intro r _ hr hl
    have h2 : r < 2 := by
      by_cases h2 : r < 2
      · exact h2
      · obtain ⟨k, rfl⟩ : ∃ k : Nat, r = (k : Int) + 2 := ⟨(r - 2).toNat, by omega⟩
        have hlt : k < L.length := by have := hr.2; omega
        have hx := List.getElem?_eq_getElem hlt
        have h3 := (hO _ _ hx).2.1
        rw [lvl_node hx] at hl
        omega
    rw [lsN, cnt_low h2, lvl_low h2, show ((n : Int) - ((n - 0 : Nat) : Int)).toNat = 0 by omega]
    split <;> rfl
  | succ k ih =>
    intro r hk hr hl
    rw [lsN]
    by_cases h : r = 0
    · rw [if_pos h, h, cnt_low (by omega)]; simp
    · rw [if_neg h, List.length_append, List.length_map, List.length_map]
      have e1 : (n : Int) - ((k : Int) + 1) = ((n - (k + 1) : Nat) : Int) := by omega
      rw [e1]
      obtain ⟨c1, c2, c3, c4, c5⟩ := ch_all hF hO hr (i := n - (k + 1)) hl (by omega)
      rw [ih _ (by omega) c1 (by omega), ih _ (by omega) c2 (by omega)]
      have e2 : ((n - k : Nat) : Int) = ((n - (k + 1) : Nat) : Int) + 1 := by omega
      by_cases hlv : lvlN (n : Int) L r = ((n - (k + 1) : Nat) : Int) ∧ 2 ≤ r
      · obtain ⟨q, rfl⟩ : ∃ q : Nat, r = (q : Int) + 2 := ⟨(r - 2).toNat, by omega⟩
        have hlt : q < L.length := by have := hr.2; omega
        obtain ⟨x, hx⟩ : ∃ x, L[q]? = some x := ⟨_, List.getElem?_eq_getElem hlt⟩
        have hxa : x.a = ((n - (k + 1) : Nat) : Int) := by rw [← lvl_node (n := (n : Int)) hx]; exact hlv.1
        rw [ch_node hx hxa, cnt_node hF hx, lvl_node hx, hxa, show (((n - (k + 1) : Nat) : Int) - ((n - (k + 1) : Nat) : Int)).toNat = 0 by omega, e2]
        simp
      · rw [ch_skip (by omega), e2]
        simp only
        have hl3 : ((n - (k + 1) : Nat) : Int) + 1 ≤ lvlN (n : Int) L r := by
          by_cases h2 : r < 2
          · rw [lvl_low h2]; omega
          · omega
        have e3 : (lvlN (n : Int) L r - ((n - (k + 1) : Nat) : Int)).toNat = (lvlN (n : Int) L r - (((n - (k + 1) : Nat) : Int) + 1)).toNat + 1 := by omega
        rw [e3, Nat.pow_succ]
        rw [← Nat.mul_assoc]; omega
end Go.Proofs.Ytkaikbaagajckaa
