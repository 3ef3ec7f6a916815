/- Following a trace: plain laws. -/
import Derived.Test.YtfnamjkmkoldeaaGreatDoorQb
namespace Go.Proofs.YtfnamjkmkoldeaaGreatDoor
open Go.RowKit
set_option linter.unusedVariables false
set_option linter.unusedSimpArgs false
/-- the states to which the beginnings of a trace lead -/
def folP (rs : List RuD) : List Int → List Int → Option (List (List Int))
  | v, [] => some [v]
  | v, r :: tr => if holdsP v (rs.getD r.toNat zRu).g = true then (folP rs (applyP v (rs.getD r.toNat zRu).e) tr).map (v :: ·) else none
def ftC (rs : List RuD) (st tr : List Int) : Int := if 4000 < tr.length then 3 else if allIn 0 ((rs.length : Int) - 1) tr = false then 4 else match folP rs st tr with | none => 5 | some _ => 0
theorem ft_long {rs : List RuD} {st tr : List Int} (h : 4000 < tr.length) : ftC rs st tr = 3 := by rw [ftC, if_pos h]
theorem ft_far {rs : List RuD} {st tr : List Int} (h : ¬ 4000 < tr.length) (h2 : allIn 0 ((rs.length : Int) - 1) tr = false) : ftC rs st tr = 4 := by rw [ftC, if_neg h, if_pos h2]
theorem ft_no {rs : List RuD} {st tr : List Int} (h : ¬ 4000 < tr.length) (h2 : allIn 0 ((rs.length : Int) - 1) tr = true) (h3 : folP rs st tr = none) : ftC rs st tr = 5 := by rw [ftC, if_neg h, if_neg (by rw [h2]; decide), h3]
theorem ft_yes {rs : List RuD} {st tr : List Int} {S : List (List Int)} (h : ¬ 4000 < tr.length) (h2 : allIn 0 ((rs.length : Int) - 1) tr = true) (h3 : folP rs st tr = some S) : ftC rs st tr = 0 := by rw [ftC, if_neg h, if_neg (by rw [h2]; decide), h3]
theorem folP_len {rs : List RuD} : ∀ {tr v : List Int} {S : List (List Int)}, folP rs v tr = some S → S.length = tr.length + 1
  | [], v, S, h => by rw [folP] at h; cases h; rfl
  | r :: tr, v, S, h => by
    rw [folP] at h
    split at h
    · cases hf : folP rs (applyP v (rs.getD r.toNat zRu).e) tr with
      | none => rw [hf] at h; cases h
      | some S' =>
        rw [hf] at h
        simp only [Option.map_some, Option.some.injEq] at h
        subst h
        simp [folP_len hf]
    · cases h
/-- the states behind j rules of a trace -/
def FolI (rs : List RuD) (st tr : List Int) (j : Nat) (Ls : List (List Int)) : Prop := ∃ pre v, Ls = pre ++ [v] ∧ pre.length = j ∧ folP rs st tr = (folP rs v (tr.drop j)).map (pre ++ ·)
theorem FolI.start (rs : List RuD) (st tr : List Int) : FolI rs st tr 0 [st] := ⟨[], st, rfl, rfl, by cases h : folP rs st tr <;> simp [h]⟩
theorem drop_at {α : Type} {l : List α} {j : Nat} {x : α} (h : l[j]? = some x) : l.drop j = x :: l.drop (j + 1) := by
  have hl := (List.getElem?_eq_some_iff.1 h).1
  rw [List.drop_eq_getElem_cons hl]
  rw [List.getElem?_eq_getElem hl] at h
  simp only [Option.some.injEq] at h
  rw [h]
theorem FolI.last {rs : List RuD} {st tr : List Int} {j : Nat} {Ls : List (List Int)} (h : FolI rs st tr j Ls) {v : List Int} (hv : Ls[j]? = some v) : ∃ pre, Ls = pre ++ [v] ∧ pre.length = j ∧ folP rs st tr = (folP rs v (tr.drop j)).map (pre ++ ·) := by
  obtain ⟨pre, u, rfl, h2, h3⟩ := h
  rw [← h2, List.getElem?_append_right (Nat.le_refl _), Nat.sub_self] at hv
  simp at hv
  subst hv
  exact ⟨pre, rfl, h2, h3⟩
theorem FolI.fail {rs : List RuD} {st tr : List Int} {j : Nat} {Ls : List (List Int)} (h : FolI rs st tr j Ls) {v : List Int} (hv : Ls[j]? = some v) {r : Int} (hr : tr[j]? = some r) (hn : holdsP v (rs.getD r.toNat zRu).g = false) : folP rs st tr = none := by
  obtain ⟨pre, _, _, h3⟩ := h.last hv
  rw [h3, drop_at hr, folP, if_neg (by rw [hn]; decide)]; rfl
theorem FolI.step {rs : List RuD} {st tr : List Int} {j : Nat} {Ls : List (List Int)} (h : FolI rs st tr j Ls) {v : List Int} (hv : Ls[j]? = some v) {r : Int} (hr : tr[j]? = some r) (hn : holdsP v (rs.getD r.toNat zRu).g = true) : FolI rs st tr (j + 1) (Ls ++ [applyP v (rs.getD r.toNat zRu).e]) := by
  obtain ⟨pre, h1, h2, h3⟩ := h.last hv
  refine ⟨pre ++ [v], _, by rw [h1], by simp [h2], ?_⟩
  rw [h3, drop_at hr, folP, if_pos hn, Option.map_map]
  congr 1
  funext x
  simp
theorem FolI.done {rs : List RuD} {st tr : List Int} {j : Nat} {Ls : List (List Int)} (h : FolI rs st tr j Ls) (hj : tr.length = j) : folP rs st tr = some Ls := by
  obtain ⟨pre, v, h1, h2, h3⟩ := h
  rw [h3, List.drop_of_length_le (by omega), folP, h1]; rfl
theorem getD_ru {rs : List RuD} {q : Nat} {r : RuD} (h : rs[q]? = some r) : rs.getD q zRu = r := by rw [List.getD_eq_getElem?_getD, h]; rfl
end Go.Proofs.YtfnamjkmkoldeaaGreatDoor
