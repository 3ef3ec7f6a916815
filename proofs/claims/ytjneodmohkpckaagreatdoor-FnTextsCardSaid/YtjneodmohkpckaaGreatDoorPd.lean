/- A text cut at a byte; its lines without comments: plain laws. -/
import Derived.Test.YtjneodmohkpckaaGreatDoorEa
import Derived.Lib.SplitLaws
import Derived.Lib.Split
namespace Go.Proofs.YtjneodmohkpckaaGreatDoor
open Go.RowKit
set_option linter.unusedVariables false
set_option linter.unusedSimpArgs false
/-- a text cut at a byte -/
def pcs (c : UInt8) : List UInt8 → List (List UInt8)
  | [] => [[]]
  | b :: r => if b = c then [] :: pcs c r else match pcs c r with
    | [] => [[b]]
    | p :: q => (b :: p) :: q
theorem pcs_ne (c : UInt8) (s : List UInt8) : ∃ p q, pcs c s = p :: q := by
  cases s with
  | nil => exact ⟨[], [], rfl⟩
  | cons b r =>
    rw [pcs]
    split
    · exact ⟨_, _, rfl⟩
    · split <;> exact ⟨_, _, rfl⟩
theorem pcs_hit (c : UInt8) (r : List UInt8) : pcs c (c :: r) = [] :: pcs c r := by rw [pcs, if_pos rfl]
theorem pcs_go {c b : UInt8} {r p : List UInt8} {q : List (List UInt8)} (h : b ≠ c) (hp : pcs c r = p :: q) : pcs c (b :: r) = (b :: p) :: q := by rw [pcs, if_neg h, hp]
theorem idx_nil (c : UInt8) : Lib.index [] [c] = -1 := rfl
theorem idx_hit (c : UInt8) (r : List UInt8) : Lib.index (c :: r) [c] = 0 := by rw [Lib.index]; simp
theorem idx_go {c b : UInt8} (r : List UInt8) (h : b ≠ c) : Lib.index (b :: r) [c] = if Lib.index r [c] == -1 then -1 else Lib.index r [c] + 1 := by
  rw [Lib.index, if_neg (by simp; exact fun e => h e.symm)]
theorem idx_ge (c : UInt8) : ∀ s : List UInt8, -1 ≤ Lib.index s [c]
  | [] => by rw [idx_nil]; omega
  | b :: r => by
    by_cases h : b = c
    · subst h; rw [idx_hit]; omega
    · rw [idx_go r h]
      have := idx_ge c r
      split <;> omega
theorem idx_miss (c : UInt8) : ∀ s : List UInt8, Lib.index s [c] = -1 → pcs c s = [s]
  | [], _ => rfl
  | b :: r, h => by
    by_cases hb : b = c
    · subst hb; rw [idx_hit] at h; omega
    · rw [idx_go r hb] at h
      have hg := idx_ge c r
      split at h
      · rename_i h1
        exact pcs_go hb (idx_miss c r (by simpa using h1))
      · omega
theorem idx_cut (c : UInt8) : ∀ s : List UInt8, Lib.index s [c] ≠ -1 → pcs c s = s.take (Lib.index s [c]).toNat :: pcs c (s.drop ((Lib.index s [c]).toNat + 1))
  | [], h => absurd (idx_nil c) h
  | b :: r, h => by
    by_cases hb : b = c
    · subst hb; rw [idx_hit, pcs_hit]; rfl
    · rw [idx_go r hb] at h ⊢
      have hg := idx_ge c r
      by_cases h1 : (Lib.index r [c] == -1) = true
      · rw [if_pos h1] at h; exact absurd rfl h
      · rw [if_neg h1]
        have h2 : Lib.index r [c] ≠ -1 := by simpa using h1
        have ih := idx_cut c r h2
        have e : (Lib.index r [c] + 1).toNat = (Lib.index r [c]).toNat + 1 := by omega
        rw [pcs_go hb ih, e]
        rfl
theorem pcs_len (c : UInt8) : ∀ s : List UInt8, (pcs c s).length = s.count c + 1
  | [] => rfl
  | b :: r => by
    by_cases hb : b = c
    · subst hb; rw [pcs_hit, List.length_cons, pcs_len b r, List.count_cons_self]
    · obtain ⟨p, q, hp⟩ := pcs_ne c r
      have ih := pcs_len c r
      rw [hp] at ih
      rw [pcs_go hb hp, List.length_cons, List.count_cons_of_ne hb]
      simpa using ih
theorem splitK_one (c : UInt8) : ∀ (k : Nat) (s : List UInt8), s.count c = k → Lib.splitK [c] 0 k s = pcs c s
  | 0, s, h => by
    have h1 := pcs_len c s
    rw [Lib.splitK]
    by_cases hi : Lib.index s [c] = -1
    · rw [idx_miss c s hi]
    · have h2 := idx_cut c s hi
      obtain ⟨p, q, hp⟩ := pcs_ne c (s.drop ((Lib.index s [c]).toNat + 1))
      rw [hp] at h2
      rw [h2, h] at h1
      simp at h1
  | k + 1, s, h => by
    have h1 := pcs_len c s
    rw [Lib.splitK]
    by_cases hi : Lib.index s [c] = -1
    · rw [idx_miss c s hi, h] at h1; simp at h1
    · rw [if_neg (by simpa using hi), Nat.add_zero, List.length_singleton]
      have h2 := idx_cut c s hi
      rw [splitK_one c k _ (by
        have h3 := pcs_len c (s.drop ((Lib.index s [c]).toNat + 1))
        rw [h2, List.length_cons, h] at h1
        omega)]
      exact h2.symm
theorem split_one (c : UInt8) (s : List UInt8) : Lib.split s [c] = pcs c s := by
  rw [Lib.split, Lib.count_one]
  exact splitK_one c _ s rfl
/-- pieces with a byte between them -/
def joinP (c : UInt8) : List (List UInt8) → List UInt8
  | [] => []
  | [p] => p
  | p :: q :: r => p ++ c :: joinP c (q :: r)
theorem joinP_cons (c : UInt8) (p : List UInt8) {q : List (List UInt8)} (h : q ≠ []) : joinP c (p :: q) = p ++ c :: joinP c q := by
  cases q with
  | nil => exact absurd rfl h
  | cons x y => rfl
def no35 (c : UInt8) : Bool := decide (c.toNat ≠ 35)
theorem b10 {c : UInt8} : c = 10 ↔ c.toNat = 10 := ⟨fun h => by rw [h]; rfl, fun h => UInt8.toNat_inj.1 h⟩
theorem stF_join : ∀ (s : List UInt8), stF false s = joinP 10 ((pcs 10 s).map fun p => p.takeWhile no35) ∧ stF true s = joinP 10 ((match pcs 10 s with | [] => [] | _ :: q => [] :: q).map fun (p : List UInt8) => p.takeWhile no35)
  | [] => ⟨rfl, rfl⟩
  | b :: r => by
    obtain ⟨i1, i2⟩ := stF_join r
    by_cases hb : b = 10
    · subst hb
      rw [pcs_hit]
      obtain ⟨p, q, hp⟩ := pcs_ne 10 r
      have e : ∀ cm, stF cm (10 :: r) = 10 :: stF false r := fun cm => by rw [stF, if_pos (by decide)]
      rw [e, e, i1, hp]
      exact ⟨rfl, rfl⟩
    · obtain ⟨p, q, hp⟩ := pcs_ne 10 r
      rw [hp] at i1 i2
      rw [pcs_go hb hp]
      have hb' : ¬ b.toNat = 10 := fun h => hb (b10.2 h)
      have e2 : stF true (b :: r) = stF true r := by rw [stF, if_neg hb', if_pos (Or.inr rfl)]
      refine ⟨?_, by rw [e2, i2]⟩
      by_cases h35 : b.toNat = 35
      · rw [stF, if_neg hb', if_pos (Or.inl h35), i2]
        have e3 : (b :: p).takeWhile no35 = [] := by rw [List.takeWhile_cons, if_neg (by simp [no35, h35])]
        rw [List.map_cons, List.map_cons, e3]
        rfl
      · rw [stF_plain h35, i1, List.map_cons, List.map_cons, List.takeWhile_cons, if_pos (by simp [no35, h35])]
        cases hq : q.map (fun p => p.takeWhile no35) with
        | nil => rfl
        | cons x y => rfl
end Go.Proofs.YtjneodmohkpckaaGreatDoor
