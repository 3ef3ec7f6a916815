/- Slices of tokens: comparisons and marks of the exact laws, walked. -/
import Derived.Test.YtjneodmohkpckaaGreatDoorT12u
import Derived.Test.YtjneodmohkpckaaGreatDoorMt
namespace Go.Proofs.YtjneodmohkpckaaGreatDoor
open Go.RowKit
set_option linter.unusedVariables false
set_option linter.unusedSimpArgs false
theorem FT.get {w : World} {a : Option Addr} {n c : Nat} {l : List TR} (h : FT w a n c l) {i : Nat} (hi : i < n) :
    ∃ b off x, a = some ⟨b, off, none⟩ ∧ b < w.heap.size ∧ l[i]? = some x ∧ x.ok ∧ w.cell? ⟨b, off + i * 2, none⟩ = some (.int .i64 x.k) ∧ w.cell? ⟨b, off + i * 2 + 1, none⟩ = some (.string x.t) := by
  obtain ⟨b, off, x, h1, h2, h3, h4, h5⟩ := h.at hi
  exact ⟨b, off, x, h1, h2, h3, h4, h5 0 _ rfl, h5 1 _ rfl⟩
/-- the marks that the exact laws write into tokens -/
def marksT (q : Int) (n : Nat) : List TR := (List.range n).map fun (i : Nat) => ⟨q + 2 * (i : Int), markT (q + 2 * (i : Int) + 1)⟩
theorem marksT_get {q : Int} {n k : Nat} (h : k < n) : (marksT q n)[k]? = some ⟨q + 2 * (k : Int), markT (q + 2 * (k : Int) + 1)⟩ := by
  rw [marksT, List.getElem?_map, List.getElem?_range h]; rfl
/-- one cell of one record is written -/
theorem OwnF.setj {α : Type} {k : Nat} {enc : α → List Value} {ok : α → Prop} {E : TypeId} {w : World} {base g : Nat} {n c : Nat} {l : List α} (h : OwnF k enc ok E w base (some ⟨g, 0, none⟩) n c l) {i j p : Nat} {x y : α} {v : Value} (hy : l[i]? = some y) (hj : j < k) (hp : p = i * k + j) (he : enc x = (enc y).set j v) (hx : ok x) :
    OwnF k enc ok E (w.setCell ⟨g, p, none⟩ v) base (some ⟨g, 0, none⟩) n c (l.set i x) := by
  subst hp
  obtain ⟨h1, h2, h3, h4⟩ := h
  have hi : i < l.length := (List.getElem?_eq_some_iff.1 hy).1
  refine ⟨?_, fun z hz => ?_, by simpa using h3, h4⟩
  · obtain ⟨e1, e2, e3⟩ := flat_set h4 hi x y hy
    have e : (l.flatMap enc).set (i * k + j) v = (l.set i x).flatMap enc := by
      rw [e1, e2, List.set_append_right _ _ (by omega), e3, Nat.add_sub_cancel_left, List.set_append_left _ _ (by rw [h4]; exact hj), he]
    rw [← e]
    exact (h1.stored (i * k + j) v).1
  · rcases List.mem_or_eq_of_mem_set hz with h | h
    · exact h2 z h
    · rw [h]; exact hx
theorem marksT_mix {q : Int} {n j : Nat} {l : List TR} (h : j < n) (hl : l.length = n) (y : TR) : (((marksT q n).take j ++ l.drop j).set j y).set j ⟨q + 2 * (j : Int), markT (q + 2 * (j : Int) + 1)⟩ = (marksT q n).take (j + 1) ++ l.drop (j + 1) := by
  have h1 : ((marksT q n).take j).length = j := by simp [marksT]; omega
  rw [List.set_set, take_at (marksT_get h), List.set_append_right _ _ (by omega), h1, Nat.sub_self, List.drop_eq_getElem_cons (by omega : j < l.length), List.set_cons_zero, List.append_assoc]
  rfl
end Go.Proofs.YtjneodmohkpckaaGreatDoor
