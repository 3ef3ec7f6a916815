/- Following a trace: plain laws.; Safe traffics: plain laws. -/
import Derived.Test.YtfnamjkmkoldeaaGreatDoorQb
import Derived.Test.YtfnamjkmkoldeaaGreatDoorBase
namespace Go.Proofs.YtfnamjkmkoldeaaGreatDoor
open Go.RowKit
set_option linter.unusedVariables false
set_option linter.unusedSimpArgs false
/-- the states to which the beginnings of a trace lead -/
def folP (rs : List RuD) : List Int → List Int → Option (List (List Int))
  | v, [] => some [v]
  | v, r :: tr => if holdsP v (rs.getD r.toNat zRu).g = true then (folP rs (applyP v (rs.getD r.toNat zRu).e) tr).map (v :: ·) else none
def ftC (rs : List RuD) (st tr : List Int) : Int := if 4000 < tr.length then 3 else if allIn 0 ((rs.length : Int) - 1) tr = false then 4 else match folP rs st tr with | none => 5 | some _ => 0
theorem ft_long {rs : List RuD} {st tr : List Int} (h : 4000 < tr.length) : ftC rs st tr = 3 := by rw [ftC, if_pos h]
theorem ft_far {rs : List RuD} {st tr : List Int} (h : ¬ 4000 < tr.length) (h2 : allIn 0 ((rs.length : Int) - 1) tr = false) : ftC rs st tr = 4 := by rw [ftC, if_neg h, if_pos h2]
theorem ft_no {rs : List RuD} {st tr : List Int} (h : ¬ 4000 < tr.length) (h2 : allIn 0 ((rs.length : Int) - 1) tr = true) (h3 : folP rs st tr = none) : ftC rs st tr = 5 := by rw [ftC, if_neg h, if_neg (by rw [h2]; decide), h3]
theorem ft_yes {rs : List RuD} {st tr : List Int} {S : List (List Int)} (h : ¬ 4000 < tr.length) (h2 : allIn 0 ((rs.length : Int) - 1) tr = true) (h3 : folP rs st tr = some S) : ftC rs st tr = 0 := by rw [ftC, if_neg h, if_neg (by rw [h2]; decide), h3]
theorem folP_len {rs : List RuD} : ∀ {tr v : List Int} {S : List (List Int)}, folP rs v tr = some S → S.length = tr.length + 1
  | [], v, S, h => by rw [folP] at h; cases h; rfl
  | r :: tr, v, S, h => by
    rw [folP] at h
    split at h
    · cases hf : folP rs (applyP v (rs.getD r.toNat zRu).e) tr with
      | none => rw [hf] at h; cases h
      | some S' =>
        rw [hf] at h
        simp only [Option.map_some, Option.some.injEq] at h
        subst h
        simp [folP_len hf]
    · cases h
/-- the states behind j rules of a trace -/
def FolI (rs : List RuD) (st tr : List Int) (j : Nat) (Ls : List (List Int)) : Prop := ∃ pre v, Ls = pre ++ [v] ∧ pre.length = j ∧ folP rs st tr = (folP rs v (tr.drop j)).map (pre ++ ·)
theorem FolI.start (rs : List RuD) (st tr : List Int) : FolI rs st tr 0 [st] := ⟨[], st, rfl, rfl, by cases h : folP rs st tr <;> simp [h]⟩
theorem drop_at {α : Type} {l : List α} {j : Nat} {x : α} (h : l[j]? = some x) : l.drop j = x :: l.drop (j + 1) := by
  have hl := (List.getElem?_eq_some_iff.1 h).1
  rw [List.drop_eq_getElem_cons hl]
  rw [List.getElem?_eq_getElem hl] at h
  simp only [Option.some.injEq] at h
  rw [h]
theorem FolI.last {rs : List RuD} {st tr : List Int} {j : Nat} {Ls : List (List Int)} (h : FolI rs st tr j Ls) {v : List Int} (hv : Ls[j]? = some v) : ∃ pre, Ls = pre ++ [v] ∧ pre.length = j ∧ folP rs st tr = (folP rs v (tr.drop j)).map (pre ++ ·) := by
  obtain ⟨pre, u, rfl, h2, h3⟩ := h
  rw [← h2, List.getElem?_append_right (Nat.le_refl _), Nat.sub_self] at hv
  simp at hv
  subst hv
  exact ⟨pre, rfl, h2, h3⟩
theorem FolI.fail {rs : List RuD} {st tr : List Int} {j : Nat} {Ls : List (List Int)} (h : FolI rs st tr j Ls) {v : List Int} (hv : Ls[j]? = some v) {r : Int} (hr : tr[j]? = some r) (hn : holdsP v (rs.getD r.toNat zRu).g = false) : folP rs st tr = none := by
  obtain ⟨pre, _, _, h3⟩ := h.last hv
  rw [h3, drop_at hr, folP, if_neg (by rw [hn]; decide)]; rfl
theorem FolI.step {rs : List RuD} {st tr : List Int} {j : Nat} {Ls : List (List Int)} (h : FolI rs st tr j Ls) {v : List Int} (hv : Ls[j]? = some v) {r : Int} (hr : tr[j]? = some r) (hn : holdsP v (rs.getD r.toNat zRu).g = true) : FolI rs st tr (j + 1) (Ls ++ [applyP v (rs.getD r.toNat zRu).e]) := by
  obtain ⟨pre, h1, h2, h3⟩ := h.last hv
  refine ⟨pre ++ [v], _, by rw [h1], by simp [h2], ?_⟩
  rw [h3, drop_at hr, folP, if_pos hn, Option.map_map]
  congr 1
  funext x
  simp
theorem FolI.done {rs : List RuD} {st tr : List Int} {j : Nat} {Ls : List (List Int)} (h : FolI rs st tr j Ls) (hj : tr.length = j) : folP rs st tr = some Ls := by
  obtain ⟨pre, v, h1, h2, h3⟩ := h
  rw [h3, List.drop_of_length_le (by omega), folP, h1]; rfl
theorem getD_ru {rs : List RuD} {q : Nat} {r : RuD} (h : rs[q]? = some r) : rs.getD q zRu = r := by rw [List.getD_eq_getElem?_getD, h]; rfl
theorem holds_mem {v : List Int} {g : List I2b} (h : holdsP v g = true) {t : I2b} (ht : t ∈ g) : (v.getD t.a.toNat 0 == t.b) = t.c := by
  rw [holdsP, List.all_eq_true] at h
  have := h t ht
  simpa using this
theorem holds_eq {v : List Int} {g : List I2b} (h : holdsP v g = true) {k : Nat} {x : Int} (ht : (⟨(k : Int), x, true⟩ : I2b) ∈ g) (hk : k < v.length) : v[k]? = some x := by
  have h1 := holds_mem h ht
  simp only [Int.toNat_natCast, beq_iff_eq] at h1
  rw [List.getD_eq_getElem?_getD, List.getElem?_eq_getElem hk] at h1
  rw [List.getElem?_eq_getElem hk, ← h1]; rfl
theorem holds_ne {v : List Int} {g : List I2b} (h : holdsP v g = true) {k : Nat} {x y : Int} (ht : (⟨(k : Int), x, false⟩ : I2b) ∈ g) (hy : v[k]? = some y) : y ≠ x := by
  have h1 := holds_mem h ht
  simp only [Int.toNat_natCast, beq_eq_false_iff_ne, ne_eq] at h1
  rw [List.getD_eq_getElem?_getD, hy] at h1
  exact h1
end Go.Proofs.YtfnamjkmkoldeaaGreatDoor
namespace Go.Proofs.YtfnamjkmkoldeaaGreatDoor
open Go.RowKit
set_option linter.unusedVariables false
set_option linter.unusedSimpArgs false
/-- a train in a place uses a block -/
def usesN (B p b : Nat) : Bool := p / 3 == b || (p % 3 == 2 && (p / 3 + 1) % B == b)
def cntN (B : Nat) (ps : List Int) (b : Nat) : Nat := ps.countP fun p => usesN B p.toNat b
def safeN (B : Nat) (ps : List Int) : Bool := (List.range B).all fun b => decide (cntN B ps b ≤ 1)
def cntL (B : Nat) (ps : List Int) : List Int := (List.range B).map fun b => (cntN B ps b : Int)
theorem cntL_len (B : Nat) (ps : List Int) : (cntL B ps).length = B := by simp [cntL]
theorem cntL_nil (B : Nat) : cntL B [] = List.replicate B 0 := by
  apply List.ext_getElem?
  intro i
  by_cases h : i < B
  · simp [cntL, cntN, h]
  · simp [cntL, h]
theorem cntL_at {B : Nat} {ps : List Int} {b : Nat} (hb : b < B) : (cntL B ps)[b]? = some (cntN B ps b : Int) := by simp [cntL, hb]
theorem cntN_step (B : Nat) (ps : List Int) (p : Int) (b : Nat) : cntN B (ps ++ [p]) b = cntN B ps b + if usesN B p.toNat b = true then 1 else 0 := by
  rw [cntN, List.countP_append, List.countP_singleton]; rfl
theorem cntN_take {B : Nat} {ps : List Int} {p : Int} {k b : Nat} (h : ps[k]? = some p) : cntN B (ps.take (k + 1)) b = cntN B (ps.take k) b + if usesN B p.toNat b = true then 1 else 0 := by rw [take_at h, cntN_step]
theorem cntN_le (B : Nat) (ps : List Int) (b : Nat) : cntN B ps b ≤ ps.length := List.countP_le_length
theorem usesN_run {B p b : Nat} (h : p % 3 ≠ 2) : usesN B p b = (p / 3 == b) := by simp [usesN, h]
theorem usesN_cross {B p b : Nat} (h : p % 3 = 2) : usesN B p b = (p / 3 == b || (p / 3 + 1) % B == b) := by simp [usesN, h]
/-- one block more is counted -/
theorem cntL_run {B : Nat} {ps : List Int} {p : Nat} (h : p % 3 ≠ 2) : (cntL B ps).set (p / 3) ((cntN B ps (p / 3) : Int) + 1) = cntL B (ps ++ [(p : Int)]) := by
  apply List.ext_getElem?
  intro i
  rw [List.getElem?_set, cntL_len]
  by_cases hi : i < B
  · rw [cntL_at hi, cntL_at hi, cntN_step, Int.toNat_natCast, usesN_run h]
    by_cases e : p / 3 = i
    · subst e; rw [if_pos rfl, if_pos hi]; simp
    · rw [if_neg e]; simp [e]
  · have h1 : (cntL B ps)[i]? = none := List.getElem?_eq_none (by rw [cntL_len]; omega)
    have h2 : (cntL B (ps ++ [(p : Int)]))[i]? = none := List.getElem?_eq_none (by rw [cntL_len]; omega)
    rw [h1, h2]
    split
    · rw [if_neg (by omega)]
    · rfl
theorem next_ne {B q : Nat} (hB : 2 ≤ B) (hq : q < B) : (q + 1) % B ≠ q := by
  by_cases h : q + 1 < B
  · rw [Nat.mod_eq_of_lt h]; omega
  · have : q + 1 = B := by omega
    rw [this, Nat.mod_self]; omega
/-- two blocks more are counted -/
theorem cntL_cross {B : Nat} {ps : List Int} {p : Nat} (hB : 2 ≤ B) (hp : p / 3 < B) (h : p % 3 = 2) {a b : Nat} (hab : (a = p / 3 ∧ b = (p / 3 + 1) % B) ∨ (b = p / 3 ∧ a = (p / 3 + 1) % B)) :
    ((cntL B ps).set a ((cntN B ps a : Int) + 1)).set b ((cntN B ps b : Int) + 1) = cntL B (ps ++ [(p : Int)]) ∧ ((cntL B ps).set a ((cntN B ps a : Int) + 1))[b]? = some (cntN B ps b : Int) := by
  have hne := next_ne hB hp
  have hC : (p / 3 + 1) % B < B := Nat.mod_lt _ (by omega)
  have hab' : a ≠ b ∧ a < B ∧ b < B ∧ ∀ i, usesN B p i = (a == i || b == i) := by
    rcases hab with ⟨rfl, rfl⟩ | ⟨rfl, rfl⟩
    · exact ⟨fun e => hne e.symm, hp, hC, fun i => usesN_cross h⟩
    · exact ⟨hne, hC, hp, fun i => by rw [usesN_cross h, Bool.or_comm]⟩
  obtain ⟨h1, h2, h3, h4⟩ := hab'
  refine ⟨?_, ?_⟩
  · apply List.ext_getElem?
    intro i
    rw [List.getElem?_set, List.getElem?_set, List.length_set, cntL_len]
    by_cases hi : i < B
    · rw [cntL_at hi, cntL_at hi, cntN_step, Int.toNat_natCast, h4]
      by_cases e : b = i
      · subst e; rw [if_pos rfl, if_pos hi]; simp
      · rw [if_neg e]
        by_cases e' : a = i
        · subst e'; rw [if_pos rfl, if_pos hi]; simp
        · rw [if_neg e']; simp [e, e']
    · have q1 : (cntL B ps)[i]? = none := List.getElem?_eq_none (by rw [cntL_len]; omega)
      have q2 : (cntL B (ps ++ [(p : Int)]))[i]? = none := List.getElem?_eq_none (by rw [cntL_len]; omega)
      rw [q1, q2, if_neg (by omega), if_neg (by omega)]
  · rw [List.getElem?_set_ne h1, cntL_at h3]
/-- the greatest number of trains at a block tells -/
theorem safe_max {B : Nat} {ps : List Int} {m : Int} (hm : m ∈ cntL B ps) (hx : ∀ x ∈ cntL B ps, x ≤ m) : decide (m ≤ 1) = safeN B ps := by
  rw [Bool.eq_iff_iff, decide_eq_true_iff, safeN, List.all_eq_true]
  constructor
  · intro h b hb
    have h1 := hx (cntN B ps b : Int) (List.mem_map.2 ⟨b, hb, rfl⟩)
    exact decide_eq_true (by omega)
  · intro h
    rw [cntL] at hm
    obtain ⟨b, hb, rfl⟩ := List.mem_map.1 hm
    have := of_decide_eq_true (h b hb)
    omega
theorem safe_no {B : Nat} {ps : List Int} {b : Nat} (hb : b < B) (h : 1 < cntN B ps b) : safeN B ps = false := by
  rw [safeN, List.all_eq_false]
  exact ⟨b, List.mem_range.2 hb, by simp; omega⟩
theorem safe_yes {B : Nat} {ps : List Int} (h : upB (fun b => decide (cntN B ps b ≤ 1)) B = true) : safeN B ps = true := h
end Go.Proofs.YtfnamjkmkoldeaaGreatDoor
