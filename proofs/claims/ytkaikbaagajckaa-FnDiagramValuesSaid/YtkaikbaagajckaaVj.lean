/- Decision diagrams: bounds of counts, the first list of bits with the value 1, the diagram of an input: plain laws. -/
import Derived.Test.YtkaikbaagajckaaVg
namespace Go.Proofs.Ytkaikbaagajckaa
open Go.RowKit
set_option linter.unusedVariables false
set_option linter.unusedSimpArgs false
theorem cnt_le {n : Int} {L : List I3} (h : Snd n L) (hn : 0 ≤ n) : ∀ (m : Nat) (r : Int), r.toNat ≤ m → RefB r L.length → cntR n L r ≤ 2 ^ (n - lvlN n L r).toNat := by
  have low : ∀ r : Int, r < 2 → cntR n L r ≤ 2 ^ (n - lvlN n L r).toNat := fun r h2 => by
    have := Nat.two_pow_pos (n - lvlN n L r).toNat
    rw [cnt_low h2]
    split <;> omega
  intro m
  induction m with
  | zero => intro r hm hr; exact low r (by omega)
  | succ m ih =>
    intro r hm hr
    by_cases h2 : r < 2
    · exact low r h2
    · obtain ⟨k, rfl⟩ : ∃ k : Nat, r = (k : Int) + 2 := ⟨(r - 2).toNat, by omega⟩
      have hlt : k < L.length := by have := hr.2; omega
      obtain ⟨x, hx⟩ : ∃ x, L[k]? = some x := ⟨_, List.getElem?_eq_getElem hlt⟩
      have f3 := (h.redu.frst.low _ _ hx)
      have f4 := (h.redu.frst.high _ _ hx)
      have f3' := f3.2
      have f4' := f4.2
      obtain ⟨o1, o2, o3, o4⟩ := h.ord _ _ hx
      have i1 := ih x.b (by omega) (f3.mono (by omega))
      have i2 := ih x.c (by omega) (f4.mono (by omega))
      have l1 := lvl_le h.ord (f3.mono (by omega) : RefB x.b L.length)
      have l2 := lvl_le h.ord (f4.mono (by omega) : RefB x.c L.length)
      rw [cnt_node h.redu.frst hx, lvl_node hx]
      have e0 : (n - x.a).toNat = (n - (x.a + 1)).toNat + 1 := by omega
      have e1 : 2 ^ (n - lvlN n L x.b).toNat * 2 ^ (lvlN n L x.b - (x.a + 1)).toNat = 2 ^ (n - (x.a + 1)).toNat := by rw [← Nat.pow_add]; congr 1; omega
      have e2 : 2 ^ (n - lvlN n L x.c).toNat * 2 ^ (lvlN n L x.c - (x.a + 1)).toNat = 2 ^ (n - (x.a + 1)).toNat := by rw [← Nat.pow_add]; congr 1; omega
      have g1 := Nat.mul_le_mul_right (2 ^ (lvlN n L x.b - (x.a + 1)).toNat) i1
      have g2 := Nat.mul_le_mul_right (2 ^ (lvlN n L x.c - (x.a + 1)).toNat) i2
      rw [e1] at g1
      rw [e2] at g2
      rw [e0, Nat.pow_succ]
      omega
theorem pow_20 {k : Nat} (h : k ≤ 20) : 2 ^ k ≤ 1048576 := Nat.le_trans (Nat.pow_le_pow_right (by decide) h) (by decide)
theorem cnt_few {n : Int} {L : List I3} (h : Snd n L) (hn : 0 ≤ n) (h20 : n ≤ 20) {r : Int} (hr : RefB r L.length) : cntR n L r ≤ 1048576 := by
  have h0 := lvl_pos h.ord hn hr
  exact Nat.le_trans (cnt_le h hn _ r (Nat.le_refl _) hr) (pow_20 (by omega))
theorem ones_le {n : Int} {L : List I3} (h : Snd n L) (hn : 0 ≤ n) {r : Int} (hr : RefB r L.length) : onesN n L r ≤ 2 ^ n.toNat := by
  have h1 := cnt_le h hn _ r (Nat.le_refl _) hr
  have h0 := lvl_pos h.ord hn hr
  have h2 := lvl_le h.ord hr
  have h3 := Nat.mul_le_mul_right (2 ^ (lvlN n L r).toNat) h1
  rw [← Nat.pow_add, show (n - lvlN n L r).toNat + (lvlN n L r).toNat = n.toNat by omega] at h3
  exact h3
/-! ### values along bits -/
theorem bit_at {bits : List Int} {i : Nat} {v : Int} (h : bits[i]? = some v) : bitF 0 bits i = (v == 1) := by
  rw [bitF, Nat.sub_zero, List.getD_eq_getElem?_getD, h]; simp
/-- the value at a list of bits -/
def valN (L : List I3) (bits : List Int) (root : Int) : Int := if evR L (bitF 0 bits) root = true then 1 else 0
theorem val_in (L : List I3) (bits : List Int) (root : Int) : valN L bits root = 0 ∨ valN L bits root = 1 := by
  unfold valN; split <;> simp
theorem val_low {L : List I3} {bits : List Int} {r : Int} (h : r < 2) (h0 : 0 ≤ r) : valN L bits r = r := by
  rw [valN, ev_low h]
  have : r = 0 ∨ r = 1 := by omega
  rcases this with rfl | rfl <;> rfl
theorem val_node {L : List I3} (hF : Frst L) {bits : List Int} {k : Nat} {x : I3} (hx : L[k]? = some x) {v : Int} (hv : bits[x.a.toNat]? = some v) (h01 : v = 0 ∨ v = 1) : valN L bits ((k : Int) + 2) = valN L bits (if v = 0 then x.b else x.c) := by
  rw [valN, ev_node hF hx, bit_at hv, valN]
  rcases h01 with rfl | rfl <;> rfl
/-! ### the first list -/
def foF (L : List I3) : Nat → Int → List Int → List Int
  | 0, _, o => o
  | f + 1, r, o => if r < 2 then o else match L[(r - 2).toNat]? with
    | none => o
    | some x => if x.b = 0 then foF L f x.c (o.set x.a.toNat 1) else foF L f x.b o
theorem fo_low {L : List I3} (f : Nat) {r : Int} (o : List Int) (h : r < 2) : foF L f r o = o := by
  cases f with
  | zero => rfl
  | succ f => rw [foF, if_pos h]
theorem fo_fuel {L : List I3} (hF : Frst L) : ∀ (f g : Nat) (r : Int) (o : List Int), r.toNat ≤ f → r.toNat ≤ g → foF L f r o = foF L g r o := by
  intro f
  induction f with
  | zero => intro g r o hf hg; rw [fo_low _ _ (by omega), fo_low _ _ (by omega)]
  | succ f ih =>
    intro g r o hf hg
    by_cases hr : r < 2
    · rw [fo_low _ _ hr, fo_low _ _ hr]
    · obtain ⟨g, rfl⟩ : ∃ g', g = g' + 1 := ⟨g - 1, by omega⟩
      rw [foF, foF, if_neg hr, if_neg hr]
      cases hx : L[(r - 2).toNat]? with
      | none => rfl
      | some x =>
        have h3 := hF.low _ _ hx
        have h4 := hF.high _ _ hx
        unfold RefB at h3 h4
        simp only
        split
        · exact ih g x.c _ (by omega) (by omega)
        · exact ih g x.b _ (by omega) (by omega)
def foR (L : List I3) (r : Int) (o : List Int) : List Int := foF L r.toNat r o
theorem foR_low {L : List I3} {r : Int} (o : List Int) (h : r < 2) : foR L r o = o := fo_low _ _ h
theorem foR_node {L : List I3} (hF : Frst L) {k : Nat} {x : I3} (hx : L[k]? = some x) (o : List Int) : foR L ((k : Int) + 2) o = if x.b = 0 then foR L x.c (o.set x.a.toNat 1) else foR L x.b o := by
  have h3 := hF.low _ _ hx
  have h4 := hF.high _ _ hx
  unfold RefB at h3 h4
  rw [foR, show ((k : Int) + 2).toNat = (k + 1) + 1 by omega, foF, if_neg (by omega), show ((k : Int) + 2 - 2).toNat = k by omega, hx]
  simp only
  split
  · exact fo_fuel hF _ _ _ _ (by omega) (Nat.le_refl _)
  · exact fo_fuel hF _ _ _ _ (by omega) (Nat.le_refl _)
theorem fo_value {n : Nat} {L : List I3} (h : Snd (n : Int) L) : ∀ (m : Nat) (r : Int) (o : List Int), r.toNat ≤ m → RefB r L.length → r ≠ 0 → o.length = n → (∀ y ∈ o, y = 0 ∨ y = 1) → (∀ i : Nat, lvlN (n : Int) L r ≤ (i : Int) → i < n → o[i]? = some 0) →
    (foR L r o).length = n ∧ (∀ y ∈ foR L r o, y = 0 ∨ y = 1) ∧ (∀ i : Nat, (i : Int) < lvlN (n : Int) L r → (foR L r o)[i]? = o[i]?) ∧ evR L (bitF 0 (foR L r o)) r = true := by
  have low : ∀ (r : Int) (o : List Int), r < 2 → RefB r L.length → r ≠ 0 → o.length = n → (∀ y ∈ o, y = 0 ∨ y = 1) → (foR L r o).length = n ∧ (∀ y ∈ foR L r o, y = 0 ∨ y = 1) ∧ (∀ i : Nat, (i : Int) < lvlN (n : Int) L r → (foR L r o)[i]? = o[i]?) ∧ evR L (bitF 0 (foR L r o)) r = true := fun r o h2 hr h0 hl h01 => by
    rw [foR_low o h2]
    refine ⟨hl, h01, fun i _ => rfl, ?_⟩
    have h9 := hr.1
    rw [ev_low h2]
    exact decide_eq_true (by omega)
  intro m
  induction m with
  | zero => intro r o hm hr h0 hl h01 hz; exact low r o (by omega) hr h0 hl h01
  | succ m ih =>
    intro r o hm hr h0 hl h01 hz
    by_cases h2 : r < 2
    · exact low r o h2 hr h0 hl h01
    · obtain ⟨k, rfl⟩ : ∃ k : Nat, r = (k : Int) + 2 := ⟨(r - 2).toNat, by omega⟩
      have hlt : k < L.length := by have := hr.2; omega
      obtain ⟨x, hx⟩ : ∃ x, L[k]? = some x := ⟨_, List.getElem?_eq_getElem hlt⟩
      have f3 := (h.redu.frst.low _ _ hx)
      have f4 := (h.redu.frst.high _ _ hx)
      have f3' := f3.2
      have f4' := f4.2
      have hd := h.redu.diff x (List.mem_of_getElem? hx)
      obtain ⟨o1, o2, o3, o4⟩ := h.ord _ _ hx
      rw [lvl_node hx] at hz
      rw [foR_node h.redu.frst hx, lvl_node hx]
      have hxn : x.a.toNat < n := by omega
      by_cases hb : x.b = 0
      · rw [if_pos hb]
        have hset : ∀ i : Nat, i ≠ x.a.toNat → (o.set x.a.toNat 1)[i]? = o[i]? := fun i hi => List.getElem?_set_ne (fun e => hi e.symm)
        obtain ⟨q1, q2, q3, q4⟩ := ih x.c (o.set x.a.toNat 1) (by omega) (f4.mono (by omega)) (fun e => hd (by omega)) (by simpa using hl) (fun y hy => by
          rcases List.mem_or_eq_of_mem_set hy with h1 | h1
          · exact h01 y h1
          · exact .inr h1) (fun i hi hn => by rw [hset i (by omega)]; exact hz i (by omega) hn)
        refine ⟨q1, q2, fun i hi => by rw [q3 i (by omega), hset i (by omega)], ?_⟩
        have hat : (foR L x.c (o.set x.a.toNat 1))[x.a.toNat]? = some 1 := by
          rw [q3 x.a.toNat (by omega), List.getElem?_set_self (by omega)]
        rw [ev_node h.redu.frst hx, bit_at hat]
        exact q4
      · rw [if_neg hb]
        obtain ⟨q1, q2, q3, q4⟩ := ih x.b o (by omega) (f3.mono (by omega)) hb hl h01 (fun i hi hn => hz i (by omega) hn)
        refine ⟨q1, q2, fun i hi => q3 i (by omega), ?_⟩
        have hat : (foR L x.b o)[x.a.toNat]? = some 0 := by
          rw [q3 x.a.toNat (by omega)]; exact hz _ (by omega) hxn
        rw [ev_node h.redu.frst hx, bit_at hat]
        exact q4
/-! ### the diagram of an input -/
theorem inp_dia {m i : Int} (h0 : 0 ≤ i) (h1 : i ≤ m - 1) (hm : m ≤ 20) : diaB m [⟨i, 0, 1⟩] 2 = true := by
  have hx : ([⟨i, 0, 1⟩] : List I3)[0]? = some ⟨i, 0, 1⟩ := rfl
  have hc : canN mkN [⟨i, 0, 1⟩] 2 = ([⟨i, 0, 1⟩], 2) := by
    rw [canN, show (2 : Int).toNat = 1 + 1 from rfl, wlk_new _ _ _ _ (by decide) (by simp) (show ([⟨i, 0, 1⟩] : List I3)[1 + 1 - 2]? = some ⟨i, 0, 1⟩ from rfl)]
    rw [wlk_low _ _ _ _ (show ((0 : Int)).toNat < 2 by decide), wlk_low _ _ _ _ (show ((1 : Int)).toNat < 2 by decide)]
    rw [mkN_new (by decide) (by simp)]
    rfl
  rw [diaB, dia0, hc]
  simp only [Bool.and_eq_true]
  refine ⟨⟨⟨⟨?_, by simp⟩, by simp [inB]⟩, ?_⟩, by simp⟩
  · rw [inB, Bool.and_eq_true]; exact ⟨decide_eq_true (by omega), decide_eq_true hm⟩
  · rw [upB, List.all_eq_true]
    intro q hq
    have : q = 0 := by simpa using hq
    subst this
    refine (ndB_iff hx).2 ⟨⟨h0, h1⟩, ⟨by simp, by simp⟩, ⟨by simp, by simp⟩, by simp, ?_, ?_⟩
    · rw [lvl_low (show (0 : Int) < 2 by decide)]; simp only; omega
    · rw [lvl_low (show (1 : Int) < 2 by decide)]; simp only; omega
theorem inp_ones {m i : Int} (h0 : 0 ≤ i) (h1 : i ≤ m - 1) : 2 * onesN m [⟨i, 0, 1⟩] 2 = 2 ^ m.toNat := by
  have hx : ([⟨i, 0, 1⟩] : List I3)[0]? = some ⟨i, 0, 1⟩ := rfl
  have hF : Frst ([⟨i, 0, 1⟩] : List I3) := Frst.app Frst.nil (by unfold RefB; simp) (by unfold RefB; simp)
  have e := cnt_node (n := m) hF hx
  rw [show ((0 : Nat) : Int) + 2 = 2 from rfl] at e
  have l := lvl_node (n := m) hx
  rw [show ((0 : Nat) : Int) + 2 = 2 from rfl] at l
  rw [onesN, e, l]
  simp only
  rw [cnt_low (show (0 : Int) < 2 by decide), cnt_low (show (1 : Int) < 2 by decide), if_pos rfl, if_neg (by decide), lvl_low (show (1 : Int) < 2 by decide), Nat.zero_mul, Nat.zero_add, Nat.one_mul, ← Nat.pow_add, ← Nat.pow_succ']
  congr 1
  omega
end Go.Proofs.Ytkaikbaagajckaa
