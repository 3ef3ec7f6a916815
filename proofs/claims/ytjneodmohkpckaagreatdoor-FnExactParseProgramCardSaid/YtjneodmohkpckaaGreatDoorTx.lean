/- Numbers and words in texts: plain laws. -/
import Derived.Test.YtjneodmohkpckaaGreatDoorBase
import Derived.Lib.ItoaNum
import Derived.Lib.ParseIntB
namespace Go.Proofs.YtjneodmohkpckaaGreatDoor
open Go.RowKit
set_option linter.unusedVariables false
set_option linter.unusedSimpArgs false
def letP (c : UInt8) : Bool := decide (97 ≤ c.toNat) && decide (c.toNat ≤ 122)
def digP (c : UInt8) : Bool := decide (48 ≤ c.toNat) && decide (c.toNat ≤ 57)
def innP (c : UInt8) : Bool := letP c || digP c || decide (c.toNat = 95)
def valA (acc : Nat) (l : List UInt8) : Nat := l.foldl (fun a c => a * 10 + (c.toNat - 48)) acc
theorem valA_cons (acc : Nat) (c : UInt8) (l : List UInt8) : valA acc (c :: l) = valA (acc * 10 + (c.toNat - 48)) l := by simp only [valA, List.foldl_cons]
theorem valA_snoc (acc : Nat) (l : List UInt8) (c : UInt8) : valA acc (l ++ [c]) = valA acc l * 10 + (c.toNat - 48) := by simp [valA]
theorem valA_ge (l : List UInt8) : ∀ acc, acc ≤ valA acc l := by
  induction l with
  | nil => intro acc; exact Nat.le_refl _
  | cons c l ih => intro acc; rw [valA_cons]; have := ih (acc * 10 + (c.toNat - 48)); omega
theorem dig_byte {k : Nat} (h : k < 10) : (UInt8.ofNat (48 + k)).toNat = 48 + k := by
  simp; omega
theorem dec_dig (u : Nat) : (Lib.decDigits u).all digP = true := by
  induction u using Nat.strongRecOn with
  | _ u ih =>
    rw [Lib.decDigits]
    split
    · rename_i h
      simp only [List.all_cons, List.all_nil, Bool.and_true, digP, dig_byte h]
      simp; omega
    · rename_i h
      rw [List.all_append, ih (u / 10) (by omega)]
      simp only [List.all_cons, List.all_nil, Bool.and_true, Bool.true_and, digP, dig_byte (show u % 10 < 10 by omega)]
      simp; omega
theorem dec_val (u : Nat) : valA 0 (Lib.decDigits u) = u := by
  induction u using Nat.strongRecOn with
  | _ u ih =>
    rw [Lib.decDigits]
    split
    · rename_i h
      simp only [valA, List.foldl_cons, List.foldl_nil, dig_byte h]
      omega
    · rename_i h
      rw [valA_snoc, ih (u / 10) (by omega), dig_byte (show u % 10 < 10 by omega)]
      omega
theorem dec_ne (u : Nat) : Lib.decDigits u ≠ [] := by
  intro h
  have := Lib.decDigits_length u
  rw [h] at this
  have := Lib.nDigits_pos u
  simp at *
  omega
theorem nDig_low (u : Nat) (h : 1 ≤ u) : 10 ^ (Lib.nDigits u - 1) ≤ u := by
  induction u using Nat.strongRecOn with
  | _ u ih =>
    by_cases hu : u < 10
    · rw [Lib.nDigits_small hu]; simpa using h
    · rw [Lib.nDigits_big hu]
      have h1 := ih (u / 10) (by omega) (by omega)
      have h2 := Lib.nDigits_pos (u / 10)
      have e : Lib.nDigits (u / 10) + 1 - 1 = (Lib.nDigits (u / 10) - 1) + 1 := by omega
      rw [e, Nat.pow_succ]; omega
theorem nDig_le {u k : Nat} (h : u < 10 ^ k) (hk : 1 ≤ k) : Lib.nDigits u ≤ k := by
  by_cases h0 : u = 0
  · subst h0; rw [Lib.nDigits_small (by omega)]; exact hk
  · have h1 := nDig_low u (by omega)
    rcases Nat.lt_or_ge k (Lib.nDigits u) with hlt | hge
    · have h2 : 10 ^ k ≤ 10 ^ (Lib.nDigits u - 1) := Nat.pow_le_pow_right (by decide) (by omega)
      omega
    · exact hge
theorem nDig_mono4 {u : Nat} (h : u ≤ 9999) : Lib.nDigits u ≤ 4 := by
  rcases (show u < 10 ∨ (10 ≤ u ∧ u < 100) ∨ (100 ≤ u ∧ u < 1000) ∨ (1000 ≤ u ∧ u < 10000) by omega) with h | h | h | h
  · rw [Lib.nDigits_small h]; omega
  · rw [Lib.nDigits_unique 1 u (by omega) (by omega)]; omega
  · rw [Lib.nDigits_unique 2 u (by omega) (by omega)]; omega
  · rw [Lib.nDigits_unique 3 u (by omega) (by omega)]; omega
/-- a number from 0 to 9999 as it is written -/
def numB (l : List UInt8) : Bool := decide (Lib.decDigits (valA 0 l) = l) && decide (valA 0 l ≤ 9999)
theorem numB_len {l : List UInt8} (h : numB l = true) : 1 ≤ l.length ∧ l.length ≤ 4 ∧ l.all digP = true := by
  rw [numB, Bool.and_eq_true] at h
  have h1 := of_decide_eq_true h.1
  have h2 := of_decide_eq_true h.2
  have h3 := Lib.decDigits_length (valA 0 l)
  rw [h1] at h3
  have h4 := nDig_mono4 h2
  have h5 := Lib.nDigits_pos (valA 0 l)
  have h6 := dec_dig (valA 0 l)
  rw [h1] at h6
  exact ⟨by omega, by omega, h6⟩
theorem parseM_dig {M : Nat} (hM : M ≤ 18446744073709551615) : ∀ (l : List UInt8) (acc : Nat), l.all digP = true → valA acc l ≤ M → Lib.parseUintM M acc l = .ok (valA acc l)
  | [], acc, _, _ => rfl
  | c :: r, acc, hd, hv => by
    rw [List.all_cons, Bool.and_eq_true] at hd
    have hc := hd.1
    simp [digP] at hc
    rw [valA_cons] at hv
    have h1 := valA_ge r (acc * 10 + (c.toNat - 48))
    rw [Lib.parseUintM, if_pos hc, if_neg (by omega), if_neg (by omega), valA_cons]
    exact parseM_dig hM r _ hd.2 hv
theorem parse_num {l : List UInt8} (h : numB l = true) : Lib.parseIntB 64 l = .ok (valA 0 l : Int) := by
  obtain ⟨h1, h2, h3⟩ := numB_len h
  rw [numB, Bool.and_eq_true] at h
  have h4 := of_decide_eq_true h.2
  match l, h1 with
  | c :: r, _ =>
    have hc : digP c = true := by rw [List.all_cons, Bool.and_eq_true] at h3; exact h3.1
    simp [digP] at hc
    have hm := parseM_dig (M := 2 ^ 64 - 1) (by decide) (c :: r) 0 h3 (by omega)
    rw [Lib.parseIntB]
    rw [if_neg (by omega), Lib.parseUintB, if_neg (by simp), hm]
    simp only
    rw [if_neg (by omega), if_neg (by omega), if_neg (by omega)]
/-- how isCount's test comes out -/
theorem num_iff {l : List UInt8} {v : Int} (h : Lib.parseIntB 64 l = .ok v) : numB l = (decide (Lib.itoa v = l) && (decide (0 ≤ v) && decide (v ≤ 9999))) := by
  rw [Bool.eq_iff_iff]
  constructor
  · intro hn
    have hp := parse_num hn
    rw [h] at hp
    injection hp with hv
    rw [numB, Bool.and_eq_true] at hn
    have h1 := of_decide_eq_true hn.1
    have h2 := of_decide_eq_true hn.2
    subst hv
    simp [Lib.itoa, h1]; omega
  · intro hn
    simp only [Bool.and_eq_true, decide_eq_true_eq] at hn
    obtain ⟨h1, h2, h3⟩ := hn
    rw [Lib.itoa, if_neg (by omega)] at h1
    rw [numB, ← h1, dec_val]
    simp; omega
theorem num_err {l : List UInt8} (h : ∀ v, Lib.parseIntB 64 l ≠ .ok v) : numB l = false := by
  cases hn : numB l with
  | false => rfl
  | true => exact absurd (parse_num hn) (h _)
/-- a word -/
def wrdB (l : List UInt8) : Bool := decide (1 ≤ l.length) && decide (l.length ≤ 12) && (l.head?.any letP && l.all innP)
def sgnP (c : UInt8) : Bool := decide (c.toNat = 61) || decide (c.toNat = 40) || decide (c.toNat = 41) || decide (c.toNat = 44) || decide (c.toNat = 59)
/-- the bytes from a place on that are of a kind -/
def runL (p : UInt8 → Bool) (l : List UInt8) : Nat := (l.takeWhile p).length
theorem runL_le (p : UInt8 → Bool) (l : List UInt8) : runL p l ≤ l.length := (List.takeWhile_prefix p).length_le
theorem runL_take (p : UInt8 → Bool) (l : List UInt8) : (l.take (runL p l)).all p = true := by
  induction l with
  | nil => simp
  | cons x r ih =>
    by_cases hx : p x = true
    · have e : runL p (x :: r) = runL p r + 1 := by rw [runL, List.takeWhile_cons, if_pos hx]; rfl
      rw [e, List.take_succ_cons, List.all_cons, hx, ih]; rfl
    · have e : runL p (x :: r) = 0 := by rw [runL, List.takeWhile_cons, if_neg hx]; rfl
      rw [e]; simp
theorem runL_stop {p : UInt8 → Bool} {l : List UInt8} {c : UInt8} (h : l[runL p l]? = some c) : p c = false := by
  induction l with
  | nil => simp at h
  | cons x r ih =>
    by_cases hx : p x = true
    · have e : runL p (x :: r) = runL p r + 1 := by rw [runL, List.takeWhile_cons, if_pos hx]; rfl
      rw [e] at h
      exact ih (by simpa using h)
    · have e : runL p (x :: r) = 0 := by rw [runL, List.takeWhile_cons, if_neg hx]; rfl
      rw [e] at h
      simp at h
      subst h
      simpa using hx
theorem runL_eq {p : UInt8 → Bool} {l : List UInt8} {k : Nat} (hk : k ≤ l.length) (h : (l.take k).all p = true) (hs : ∀ c, l[k]? = some c → p c = false) : runL p l = k := by
  induction l generalizing k with
  | nil => simp at hk; subst hk; rfl
  | cons x r ih =>
    cases k with
    | zero =>
      have := hs x rfl
      simp [runL, this]
    | succ k =>
      simp at h hk
      have h2 := ih hk (by simpa using h.2) (fun c hc => hs c (by simpa using hc))
      simp [runL, h.1] at h2 ⊢
      exact h2
theorem runL_congr {p q : UInt8 → Bool} (h : ∀ c, p c = q c) (l : List UInt8) : runL p l = runL q l := by rw [show p = q from funext h]
theorem runL_pos {p : UInt8 → Bool} {l : List UInt8} {c : UInt8} (h : l[0]? = some c) (hp : p c = true) : 0 < runL p l := by
  cases l with
  | nil => simp at h
  | cons x r => simp at h; subst h; rw [runL, List.takeWhile_cons, if_pos hp]; simp
end Go.Proofs.YtjneodmohkpckaaGreatDoor
