/- A text cut at a byte: plain laws. -/
import Derived.Test.YtipkncjjkkijfaaGreatDoorBase
import Derived.Lib.SplitLaws
import Derived.Lib.Split
import Derived.Lib.CutLaws
import Derived.Lib.Join
namespace Go.Proofs.YtipkncjjkkijfaaGreatDoor
open Go.RowKit
set_option linter.unusedVariables false
set_option linter.unusedSimpArgs false
/-- a text cut at a byte -/
def pcs (c : UInt8) : List UInt8 → List (List UInt8)
  | [] => [[]]
  | b :: r => if b = c then [] :: pcs c r else match pcs c r with
    | [] => [[b]]
    | p :: q => (b :: p) :: q
theorem pcs_ne (c : UInt8) (s : List UInt8) : ∃ p q, pcs c s = p :: q := by
  cases s with
  | nil => exact ⟨[], [], rfl⟩
  | cons b r =>
    rw [pcs]
    split
    · exact ⟨_, _, rfl⟩
    · split <;> exact ⟨_, _, rfl⟩
theorem pcs_hit (c : UInt8) (r : List UInt8) : pcs c (c :: r) = [] :: pcs c r := by rw [pcs, if_pos rfl]
theorem pcs_go {c b : UInt8} {r p : List UInt8} {q : List (List UInt8)} (h : b ≠ c) (hp : pcs c r = p :: q) : pcs c (b :: r) = (b :: p) :: q := by rw [pcs, if_neg h, hp]
theorem idx_nil (c : UInt8) : Lib.index [] [c] = -1 := rfl
theorem idx_hit (c : UInt8) (r : List UInt8) : Lib.index (c :: r) [c] = 0 := by rw [Lib.index]; simp
theorem idx_go {c b : UInt8} (r : List UInt8) (h : b ≠ c) : Lib.index (b :: r) [c] = if Lib.index r [c] == -1 then -1 else Lib.index r [c] + 1 := by
  rw [Lib.index, if_neg (by simp; exact fun e => h e.symm)]
theorem idx_ge (c : UInt8) : ∀ s : List UInt8, -1 ≤ Lib.index s [c]
  | [] => by rw [idx_nil]; omega
  | b :: r => by
    by_cases h : b = c
    · subst h; rw [idx_hit]; omega
    · rw [idx_go r h]
      have := idx_ge c r
      split <;> omega
theorem idx_miss (c : UInt8) : ∀ s : List UInt8, Lib.index s [c] = -1 → pcs c s = [s]
  | [], _ => rfl
  | b :: r, h => by
    by_cases hb : b = c
    · subst hb; rw [idx_hit] at h; omega
    · rw [idx_go r hb] at h
      have hg := idx_ge c r
      split at h
      · rename_i h1
        exact pcs_go hb (idx_miss c r (by simpa using h1))
      · omega
theorem idx_cut (c : UInt8) : ∀ s : List UInt8, Lib.index s [c] ≠ -1 → pcs c s = s.take (Lib.index s [c]).toNat :: pcs c (s.drop ((Lib.index s [c]).toNat + 1))
  | [], h => absurd (idx_nil c) h
  | b :: r, h => by
    by_cases hb : b = c
    · subst hb; rw [idx_hit, pcs_hit]; rfl
    · rw [idx_go r hb] at h ⊢
      have hg := idx_ge c r
      by_cases h1 : (Lib.index r [c] == -1) = true
      · rw [if_pos h1] at h; exact absurd rfl h
      · rw [if_neg h1]
        have h2 : Lib.index r [c] ≠ -1 := by simpa using h1
        have ih := idx_cut c r h2
        have e : (Lib.index r [c] + 1).toNat = (Lib.index r [c]).toNat + 1 := by omega
        rw [pcs_go hb ih, e]
        rfl
theorem pcs_len (c : UInt8) : ∀ s : List UInt8, (pcs c s).length = s.count c + 1
  | [] => rfl
  | b :: r => by
    by_cases hb : b = c
    · subst hb; rw [pcs_hit, List.length_cons, pcs_len b r, List.count_cons_self]
    · obtain ⟨p, q, hp⟩ := pcs_ne c r
      have ih := pcs_len c r
      rw [hp] at ih
      rw [pcs_go hb hp, List.length_cons, List.count_cons_of_ne hb]
      simpa using ih
theorem splitK_one (c : UInt8) : ∀ (k : Nat) (s : List UInt8), s.count c = k → Lib.splitK [c] 0 k s = pcs c s
  | 0, s, h => by
    have h1 := pcs_len c s
    rw [Lib.splitK]
    by_cases hi : Lib.index s [c] = -1
    · rw [idx_miss c s hi]
    · have h2 := idx_cut c s hi
      obtain ⟨p, q, hp⟩ := pcs_ne c (s.drop ((Lib.index s [c]).toNat + 1))
      rw [hp] at h2
      rw [h2, h] at h1
      simp at h1
  | k + 1, s, h => by
    have h1 := pcs_len c s
    rw [Lib.splitK]
    by_cases hi : Lib.index s [c] = -1
    · rw [idx_miss c s hi, h] at h1; simp at h1
    · rw [if_neg (by simpa using hi), Nat.add_zero, List.length_singleton]
      have h2 := idx_cut c s hi
      rw [splitK_one c k _ (by
        have h3 := pcs_len c (s.drop ((Lib.index s [c]).toNat + 1))
        rw [h2, List.length_cons, h] at h1
        omega)]
      exact h2.symm
theorem split_one (c : UInt8) (s : List UInt8) : Lib.split s [c] = pcs c s := by
  rw [Lib.split, Lib.count_one]
  exact splitK_one c _ s rfl
/-- pieces with a byte between them -/
def joinP (c : UInt8) : List (List UInt8) → List UInt8
  | [] => []
  | [p] => p
  | p :: q :: r => p ++ c :: joinP c (q :: r)
theorem joinP_cons (c : UInt8) (p : List UInt8) {q : List (List UInt8)} (h : q ≠ []) : joinP c (p :: q) = p ++ c :: joinP c q := by
  cases q with
  | nil => exact absurd rfl h
  | cons x y => rfl
/-- what stands ahead of the first such byte -/
theorem cut_take (c : UInt8) (p : UInt8 → Bool) (hp : ∀ b, p b = false ↔ b = c) : ∀ s : List UInt8, (Lib.cut s [c]).1 = s.takeWhile p := by
  have key : ∀ s : List UInt8, if Lib.index s [c] = -1 then s.takeWhile p = s else s.takeWhile p = s.take (Lib.index s [c]).toNat := by
    intro s
    induction s with
    | nil => rfl
    | cons b r ih =>
      by_cases hb : b = c
      · subst hb
        rw [idx_hit, if_neg (by decide), List.takeWhile_cons, if_neg (by rw [(hp b).2 rfl]; exact Bool.false_ne_true)]
        rfl
      · have hpb : p b = true := by
          cases h : p b with
          | true => rfl
          | false => exact absurd ((hp b).1 h) hb
        rw [idx_go r hb, List.takeWhile_cons, if_pos hpb]
        have hg := idx_ge c r
        by_cases hi : Lib.index r [c] = -1
        · rw [if_pos hi] at ih
          rw [if_pos (by rw [if_pos (by rw [hi]; rfl)]), ih]
        · rw [if_neg hi] at ih
          have e : (Lib.index r [c] == -1) = false := by simpa using hi
          rw [if_neg (by rw [e, if_neg Bool.false_ne_true]; omega), e, if_neg Bool.false_ne_true, ih]
          have e2 : (Lib.index r [c] + 1).toNat = (Lib.index r [c]).toNat + 1 := by omega
          rw [e2]; rfl
  intro s
  have h := key s
  have hg := idx_ge c s
  rw [Lib.cut]
  by_cases hi : Lib.index s [c] = -1
  · rw [if_pos hi] at h
    rw [if_neg (by omega)]
    exact h.symm
  · rw [if_neg hi] at h
    rw [if_pos (by omega)]
    exact h.symm
theorem split_pcs (s : ByteArray) (c : UInt8) : (Lib.splitB ⟨#[c]⟩ 0 (Lib.countB s ⟨#[c]⟩) s).map (·.data.toList) = pcs c s.data.toList := by
  rw [Lib.splitB_data]
  have e : Lib.countB s ⟨#[c]⟩ = s.data.toList.count c := Lib.count_one c s.data.toList
  exact splitK_one c _ _ e.symm
theorem join_same (c : UInt8) : ∀ l : List (List UInt8), Lib.join l [c] = joinP c l
  | [] => rfl
  | [p] => by simp [Lib.join, joinP]
  | p :: q :: r => by
    have ih := join_same c (q :: r)
    rw [joinP_cons c p (by simp), ← ih]
    simp [Lib.join]
theorem pcs_all (c : UInt8) : ∀ s : List UInt8, ∀ p ∈ pcs c s, p.length ≤ s.length := by
  intro s
  induction s with
  | nil => intro p hp; simp [pcs] at hp; subst hp; simp
  | cons b r ih =>
    by_cases hb : b = c
    · subst hb
      rw [pcs_hit]
      intro p hp
      rcases List.mem_cons.1 hp with rfl | hp
      · simp
      · have := ih p hp; simp; omega
    · obtain ⟨x, q, hq⟩ := pcs_ne c r
      rw [hq] at ih
      rw [pcs_go hb hq]
      intro p hp
      rcases List.mem_cons.1 hp with rfl | hp
      · have := ih x (List.mem_cons_self ..); simp; omega
      · have := ih p (List.mem_cons_of_mem _ hp); simp; omega
/-- the library's largest length is some number -/
def MLc (w : World) : Prop := ∃ m, w.cell? ⟨2, 0, none⟩ = some (.int .i64 m)
theorem MLc.keep {w w' : World} (h : MLc w) (hb : Below w.heap.size w w') : MLc w' := by
  obtain ⟨m, hm⟩ := h
  exact ⟨m, (hb.cell (p := ⟨2, 0, none⟩) (World.block_lt_of_cell? _ _ hm)).trans hm⟩
end Go.Proofs.YtipkncjjkkijfaaGreatDoor
