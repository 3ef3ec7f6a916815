/- Decision diagrams: an input fixed, ones counted: plain laws. -/
import Derived.Test.YtkaikbaagajckaaVf
namespace Go.Proofs.Ytkaikbaagajckaa
open Go.RowKit
set_option linter.unusedVariables false
set_option linter.unusedSimpArgs false
/-- one node of a diagram in which an input is fixed -/
def fxS (inp bit : Int) (s : List I3 × List Int) (x : I3) : List I3 × List Int :=
  if x.a ≠ inp then ((mkN s.1 x.a (s.2.getD x.b.toNat 0) (s.2.getD x.c.toNat 0)).1, s.2 ++ [(mkN s.1 x.a (s.2.getD x.b.toNat 0) (s.2.getD x.c.toNat 0)).2])
  else (s.1, s.2 ++ [if bit = 0 then s.2.getD x.b.toNat 0 else s.2.getD x.c.toNat 0])
def fxN (inp bit : Int) (N : List I3) : List I3 × List Int := N.foldl (fxS inp bit) ([], [0, 1])
structure FxI (n : Int) (inp : Nat) (bit : Int) (N : List I3) (k : Nat) (s : List I3 × List Int) : Prop where
  snd : Snd n s.1
  len : s.2.length = k + 2
  few : s.1.length ≤ k
  low : s.2[0]? = some 0 ∧ s.2[1]? = some 1
  at' : ∀ (r : Nat) (q : Int), s.2[r]? = some q → RefB q s.1.length ∧ lvlN n N (r : Int) ≤ lvlN n s.1 q ∧ ∀ β, evR s.1 β q = evR N (fixB β inp (decide (bit ≠ 0))) (r : Int)
theorem FxI.start {n : Int} {inp : Nat} {bit : Int} {N : List I3} : FxI n inp bit N 0 ([], [0, 1]) := by
  refine ⟨Snd.nil n, rfl, Nat.le_refl _, ⟨rfl, rfl⟩, fun r q h => ?_⟩
  have hr : r = 0 ∨ r = 1 := by
    have := (List.getElem?_eq_some_iff.1 h).1
    simp at this; omega
  rcases hr with rfl | rfl
  · simp at h; subst h
    exact ⟨⟨by omega, by simp⟩, by rw [lvl_low (by omega), lvl_low (by omega)]; exact Int.le_refl _, fun β => by rw [ev_low (by omega), ev_low (by omega)]; rfl⟩
  · simp at h; subst h
    exact ⟨⟨by omega, by simp⟩, by rw [lvl_low (by omega), lvl_low (by omega)]; exact Int.le_refl _, fun β => by rw [ev_low (by omega), ev_low (by omega)]; rfl⟩
theorem FxI.step {n : Int} {inp : Nat} {bit : Int} {N : List I3} {k : Nat} {s : List I3 × List Int} (hN : Snd n N) (h : FxI n inp bit N k s) {x : I3} (hx : N[k]? = some x) : FxI n inp bit N (k + 1) (fxS inp bit s x) := by
  obtain ⟨o1, o2, o3, o4⟩ := hN.ord _ _ hx
  have hF := hN.redu.frst
  have f3 := hF.low _ _ hx
  have f4 := hF.high _ _ hx
  have f3' := f3.1
  have f3'' := f3.2
  have f4' := f4.1
  have f4'' := f4.2
  have hl := h.len
  obtain ⟨lo, hlo⟩ : ∃ lo, s.2[x.b.toNat]? = some lo := ⟨_, List.getElem?_eq_getElem (by omega)⟩
  obtain ⟨hi, hhi⟩ : ∃ hi, s.2[x.c.toNat]? = some hi := ⟨_, List.getElem?_eq_getElem (by omega)⟩
  have e1 : s.2.getD x.b.toNat 0 = lo := by rw [List.getD_eq_getElem?_getD, hlo]; rfl
  have e2 : s.2.getD x.c.toNat 0 = hi := by rw [List.getD_eq_getElem?_getD, hhi]; rfl
  obtain ⟨b1, b2, b3⟩ := h.at' _ _ hlo
  obtain ⟨c1, c2, c3⟩ := h.at' _ _ hhi
  have hb0 : (x.b.toNat : Int) = x.b := by omega
  have hc0 : (x.c.toNat : Int) = x.c := by omega
  rw [hb0] at b2 b3
  rw [hc0] at c2 c3
  have hLF := h.snd.redu.frst
  rw [fxS, e1, e2]
  by_cases hi2 : x.a = (inp : Int)
  · rw [if_neg (by simpa using hi2)]
    have hev : ∀ β, evR N (fixB β inp (decide (bit ≠ 0))) ((k : Int) + 2) = evR s.1 β (if bit = 0 then lo else hi) := fun β => by
      rw [ev_node hF hx, hi2, Int.toNat_natCast, fixB, if_pos rfl]
      by_cases hb : bit = 0
      · rw [if_pos hb, if_neg (by simpa using hb), b3]
      · rw [if_neg hb, if_pos (by simpa using hb), c3]
    refine ⟨h.snd, by rw [List.length_append, hl]; rfl, Nat.le_succ_of_le h.few, ?_, fun r q hq => ?_⟩
    · rw [List.getElem?_append_left (by omega), List.getElem?_append_left (by omega)]; exact h.low
    · simp only at hq ⊢
      by_cases hr : r < k + 2
      · rw [List.getElem?_append_left (by omega)] at hq
        exact h.at' r q hq
      · have hr2 : r = k + 2 := by
          have := (List.getElem?_eq_some_iff.1 hq).1
          simp at this; omega
        subst hr2
        rw [List.getElem?_append_right (by omega), hl, Nat.sub_self] at hq
        simp at hq
        rw [show ((k + 2 : Nat) : Int) = (k : Int) + 2 by omega, lvl_node hx]
        subst hq
        refine ⟨?_, ?_, fun β => (hev β).symm⟩
        · split
          · exact b1
          · exact c1
        · split <;> omega
  · rw [if_pos hi2]
    have l1 : x.a < lvlN n s.1 lo := by omega
    have l2 : x.a < lvlN n s.1 hi := by omega
    have hS := h.snd.add b1 c1 o1 o2 l1 l2
    have hO := h.snd.ord.add hLF b1 c1 o1 o2 l1 l2
    have hR := (hLF.add (i := x.a) b1 c1).2
    obtain ⟨t, ht, ht1⟩ := mkN_pre s.1 x.a lo hi
    have hn : ¬ x.a.toNat = inp := fun e => hi2 (by omega)
    refine ⟨hS, by simp only [List.length_append, hl, List.length_cons, List.length_nil], by simp only [ht, List.length_append]; have := h.few; omega, ?_, fun r q hq => ?_⟩
    · simp only
      rw [List.getElem?_append_left (by omega), List.getElem?_append_left (by omega)]; exact h.low
    · simp only at hq ⊢
      by_cases hr : r < k + 2
      · rw [List.getElem?_append_left (by omega)] at hq
        obtain ⟨m1, m2, m3⟩ := h.at' r q hq
        refine ⟨?_, ?_, fun β => ?_⟩
        · rw [ht, List.length_append]; exact m1.mono (by omega)
        · rw [ht, lvl_app m1]; exact m2
        · rw [ev_keep hLF m1]; exact m3 β
      · have hr2 : r = k + 2 := by
          have := (List.getElem?_eq_some_iff.1 hq).1
          simp at this; omega
        subst hr2
        rw [List.getElem?_append_right (by omega), hl, Nat.sub_self] at hq
        simp at hq
        subst hq
        rw [show ((k + 2 : Nat) : Int) = (k : Int) + 2 by omega, lvl_node hx]
        refine ⟨hR, hO.2, fun β => ?_⟩
        rw [ev_mk hLF b1 c1, ev_node hF hx, fixB, if_neg hn]
        by_cases hb : β x.a.toNat = true
        · rw [if_pos hb, if_pos hb, c3]
        · rw [if_neg hb, if_neg hb, b3]
theorem fx_inv {n : Int} {inp : Nat} {bit : Int} {N : List I3} (hN : Snd n N) : FxI n inp bit N N.length (fxN inp bit N) := by
  have key : ∀ k, k ≤ N.length → FxI n inp bit N k ((N.take k).foldl (fxS inp bit) ([], [0, 1])) := by
    intro k
    induction k with
    | zero => intro _; exact FxI.start
    | succ k ih =>
      intro hk
      have hx := List.getElem?_eq_getElem (show k < N.length by omega)
      have := (ih (by omega)).step hN hx
      rw [take_at hx, List.foldl_append]
      exact this
  have := key N.length (Nat.le_refl _)
  rw [List.take_length] at this
  exact this
/-! ### counting -/
theorem fix_comm (β : Nat → Bool) {i j : Nat} (h : i ≠ j) (c d : Bool) : fixB (fixB β i c) j d = fixB (fixB β j d) i c := by
  funext q
  simp only [fixB]
  by_cases h1 : q = i
  · subst h1
    simp [h]
  · simp [h1]
theorem bit_fix (off : Nat) (b : Int) (t : List Int) : bitF off (b :: t) = fixB (bitF (off + 1) t) off (b == 1) := by
  funext q
  rw [fixB]
  by_cases h : q = off
  · rw [if_pos h, h, bitF_at]
  · rw [if_neg h]
    by_cases h2 : off + 1 ≤ q
    · exact bitF_next off b t h2
    · rw [bitF, bitF, decide_eq_false (show ¬ off ≤ q by omega), decide_eq_false h2]; rfl
theorem fix_fix (β : Nat → Bool) (i : Nat) (c d : Bool) : fixB (fixB β i c) i d = fixB β i d := by
  funext q
  simp only [fixB]
  split <;> rfl
def cntB (k off : Nat) (p : (Nat → Bool) → Bool) : Nat := (allB k).countP fun s => p (bitF off s)
theorem cntB_succ (k off : Nat) (p : (Nat → Bool) → Bool) : cntB (k + 1) off p = cntB k (off + 1) (fun β => p (fixB β off false)) + cntB k (off + 1) (fun β => p (fixB β off true)) := by
  rw [cntB, allB, List.countP_append, List.countP_map, List.countP_map, cntB, cntB]
  congr 2
  · funext s
    show p (bitF off (0 :: s)) = _
    rw [bit_fix]; rfl
  · funext s
    show p (bitF off (1 :: s)) = _
    rw [bit_fix]; rfl
theorem cnt_halves : ∀ (k off : Nat) (p : (Nat → Bool) → Bool) (i : Nat), off ≤ i → i < off + k → cntB k off (fun β => p (fixB β i false)) + cntB k off (fun β => p (fixB β i true)) = 2 * cntB k off p := by
  intro k
  induction k with
  | zero => intro off p i h1 h2; omega
  | succ k ih =>
    intro off p i h1 h2
    have A : ∀ d : Bool, cntB (k + 1) off (fun β => p (fixB β i d)) = cntB k (off + 1) (fun β => p (fixB (fixB β off false) i d)) + cntB k (off + 1) (fun β => p (fixB (fixB β off true) i d)) := fun d => cntB_succ k off _
    rw [A false, A true, cntB_succ k off p]
    by_cases he : i = off
    · subst he
      have e : ∀ c d : Bool, (fun β => p (fixB (fixB β i c) i d)) = fun β => p (fixB β i d) := fun c d => by
        funext β; rw [fix_fix]
      rw [e, e, e, e]
      omega
    · have e : ∀ c d : Bool, (fun β => p (fixB (fixB β off c) i d)) = fun β => p (fixB (fixB β i d) off c) := fun c d => by
        funext β; rw [fix_comm β (fun h => he h.symm)]
      rw [e, e, e, e]
      have q1 : cntB k (off + 1) (fun β => p (fixB (fixB β i false) off false)) + cntB k (off + 1) (fun β => p (fixB (fixB β i true) off false)) = 2 * cntB k (off + 1) (fun β => p (fixB β off false)) := ih (off + 1) (fun γ => p (fixB γ off false)) i (by omega) (by omega)
      have q2 : cntB k (off + 1) (fun β => p (fixB (fixB β i false) off true)) + cntB k (off + 1) (fun β => p (fixB (fixB β i true) off true)) = 2 * cntB k (off + 1) (fun β => p (fixB β off true)) := ih (off + 1) (fun γ => p (fixB γ off true)) i (by omega) (by omega)
      omega
/-- for how many lists of bits a diagram has the value 1 -/
def onesN (n : Int) (L : List I3) (root : Int) : Nat := cntR n L root * 2 ^ (lvlN n L root).toNat
theorem lvl_pos {n : Int} {L : List I3} (hO : OrdN n L) (hn : 0 ≤ n) {r : Int} (hr : RefB r L.length) : 0 ≤ lvlN n L r := by
  by_cases h2 : r < 2
  · rw [lvl_low h2]; exact hn
  · obtain ⟨k, rfl⟩ : ∃ k : Nat, r = (k : Int) + 2 := ⟨(r - 2).toNat, by omega⟩
    have hlt : k < L.length := by have := hr.2; omega
    have hx := List.getElem?_eq_getElem hlt
    rw [lvl_node hx]; exact (hO _ _ hx).1
theorem ones_ls {n : Nat} {L : List I3} (h : Snd (n : Int) L) {root : Int} (hr : RefB root L.length) : onesN (n : Int) L root = (lsN (n : Int) L n root).length := by
  have := cnt_ls h.redu.frst h.ord n root (Nat.le_refl _) hr (by rw [Nat.sub_self]; exact lvl_pos h.ord (by omega) hr)
  rw [this, onesN, Nat.sub_self, show lvlN (n : Int) L root - ((0 : Nat) : Int) = lvlN (n : Int) L root by omega]
theorem ones_cnt {n : Nat} {L : List I3} (h : Snd (n : Int) L) {root : Int} (hr : RefB root L.length) : onesN (n : Int) L root = cntB n 0 (fun β => evR L β root) := by
  rw [ones_ls h hr, ls_filter h.redu.frst h.ord n root (Nat.le_refl _) hr (by rw [Nat.sub_self]; exact lvl_pos h.ord (by omega) hr), cntB, ← List.countP_eq_length_filter, Nat.sub_self]
theorem allB_cnt_le (k off : Nat) (p : (Nat → Bool) → Bool) : cntB k off p ≤ 2 ^ k := by
  rw [cntB, ← allB_len k]; exact List.countP_le_length
/-- a reference other than 0 has the value 1 somewhere -/
theorem cnt_pos {n : Int} {L : List I3} (h : Snd n L) : ∀ (m : Nat) (r : Int), r.toNat ≤ m → RefB r L.length → r ≠ 0 → 0 < cntR n L r := by
  intro m
  induction m with
  | zero => intro r hm hr h0; have := hr.1; omega
  | succ m ih =>
    intro r hm hr h0
    by_cases h2 : r < 2
    · rw [cnt_low h2, if_neg h0]; decide
    · obtain ⟨k, rfl⟩ : ∃ k : Nat, r = (k : Int) + 2 := ⟨(r - 2).toNat, by omega⟩
      have hlt : k < L.length := by have := hr.2; omega
      obtain ⟨x, hx⟩ : ∃ x, L[k]? = some x := ⟨_, List.getElem?_eq_getElem hlt⟩
      have f3 := h.redu.frst.low _ _ hx
      have f4 := h.redu.frst.high _ _ hx
      have f3' := f3.2
      have f4' := f4.2
      have hd := h.redu.diff x (List.mem_of_getElem? hx)
      rw [cnt_node h.redu.frst hx]
      by_cases hb : x.b = 0
      · have := ih x.c (by omega) (f4.mono (Nat.le_of_lt hlt)) (fun e => hd (by omega))
        exact Nat.lt_of_lt_of_le (Nat.mul_pos this (Nat.two_pow_pos _)) (Nat.le_add_left _ _)
      · have := ih x.b (by omega) (f3.mono (Nat.le_of_lt hlt)) hb
        exact Nat.lt_of_lt_of_le (Nat.mul_pos this (Nat.two_pow_pos _)) (Nat.le_add_right _ _)
theorem ones_zero {n : Int} {L : List I3} (h : Snd n L) {root : Int} (hr : RefB root L.length) : onesN n L root = 0 ↔ root = 0 := by
  constructor
  · intro h0
    by_cases e : root = 0
    · exact e
    · have := cnt_pos h _ root (Nat.le_refl _) hr e
      have := Nat.mul_pos this (Nat.two_pow_pos (lvlN n L root).toNat)
      rw [onesN] at h0
      omega
  · rintro rfl
    rw [onesN, cnt_low (by omega), if_pos rfl, Nat.zero_mul]
end Go.Proofs.Ytkaikbaagajckaa
