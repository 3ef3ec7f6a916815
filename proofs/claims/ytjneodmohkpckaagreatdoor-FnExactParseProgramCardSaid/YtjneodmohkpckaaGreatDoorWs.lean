/- A store of a whole struct into a block that is known whole. -/
import Derived.Test.YtjneodmohkpckaaGreatDoorY8
import Derived.Deep.MidRow
import Derived.Deep.DrawnRows
namespace Go.Proofs.YtjneodmohkpckaaGreatDoor
open Go.RowKit
set_option linter.unusedVariables false
set_option linter.unusedSimpArgs false
theorem Blk.setAll {b : Nat} {T : TypeId} : ∀ (l : List Value) (o : Nat) (w : World) (cs : Array Value), Blk w b cs T → o + l.length ≤ cs.size → ∃ cs' : Array Value, Blk (w.setCells b o l) b cs' T ∧ cs'.size = cs.size ∧ (∀ j, (j < o ∨ o + l.length ≤ j) → cs'[j]? = cs[j]?) ∧ (∀ j, j < l.length → cs'[o + j]? = l[j]?) ∧ w.grownBy (w.setCells b o l) (some b) ∧ (w.setCells b o l).heap.size = w.heap.size
  | [], o, w, cs, h, _ => ⟨cs, h, rfl, fun _ _ => rfl, fun j hj => by simp at hj, grownBy_refl _ _, rfl⟩
  | v :: r, o, w, cs, h, hl => by
    simp only [List.length_cons] at hl
    obtain ⟨cs', h1, h2, h3, h4, h5, h6⟩ := Blk.setAll r (o + 1) (w.setCell ⟨b, o, none⟩ v) _ (h.set o v) (by simp; omega)
    refine ⟨cs', h1, by rw [h2]; simp, fun j hj => ?_, fun j hj => ?_, grownBy_trans (set_grown b o v) h5, ?_⟩
    · rw [h3 j (by simp only [List.length_cons] at hj; omega)]
      rw [Array.getElem?_setIfInBounds_ne (by simp only [List.length_cons] at hj; omega)]
    · cases j with
      | zero =>
        rw [Nat.add_zero, h3 o (by omega)]
        rw [Array.getElem?_setIfInBounds_self_of_lt (by omega)]; rfl
      | succ j =>
        have := h4 j (by simpa using hj)
        rw [Nat.add_assoc, Nat.add_comm 1 j] at this
        rw [this]; rfl
    · show ((w.setCell ⟨b, o, none⟩ v).setCells b (o + 1) r).heap.size = _
      rw [h6]; simp [World.setCell]
theorem Blk.setWhole {w : World} {b : Nat} {cs vs : Array Value} {T : TypeId} (h : Blk w b cs T) (hs : cs.size = vs.size) : Blk (w.setCells b 0 vs.toList) b vs T ∧ w.grownBy (w.setCells b 0 vs.toList) (some b) ∧ (w.setCells b 0 vs.toList).heap.size = w.heap.size := by
  obtain ⟨cs', h1, h2, _, h4, h5, h6⟩ := Blk.setAll vs.toList 0 w cs h (by simp; omega)
  have e : cs' = vs := by
    apply Array.ext_getElem?
    intro j
    by_cases hj : j < vs.size
    · have := h4 j (by simpa using hj)
      rw [Nat.zero_add] at this
      rw [this]; simp
    · rw [Array.getElem?_eq_none (by omega), Array.getElem?_eq_none (by omega)]
  rw [e] at h1
  exact ⟨h1, h5, h6⟩
theorem wp_store_blk {P : Program} {op : Oper} {a : Act} {w : World} {K : Act → World → Prop} {Q : Exit → Act → World → Prop} {b : Nat} {cs vs : Array Value} {T : TypeId} (ty : TypeId) (x y : Operand) (ho : op.op = .store ty x y)
    (hx : a.eval x = .pointer (some ⟨b, 0, none⟩)) (hy : a.eval y = .agg vs) (h : Blk w b cs T) (hs : cs.size = vs.size) (hi : (P.info? ty).map (·.size) = some vs.size) (h1 : vs.all (·.oneCell') = true)
    (hK : ∀ w', Blk w' b vs T → w.grownBy w' (some b) → w'.heap.size = w.heap.size → K (a.put op.dst undef) w') : op.wp P a w K Q :=
  wp_store_mid ty x y ho b 0 vs hx hy (fun j hj => ⟨by rw [Nat.zero_add, h.cell, Array.getElem?_eq_getElem (by omega)]; rfl, by rw [Nat.zero_add]; exact h.free j⟩) hi h1 (hK _ (h.setWhole hs).1 (h.setWhole hs).2.1 (h.setWhole hs).2.2)
theorem wpList_store_blk {P : Program} {ops : Array Oper} {rest : List Oper} {op : Oper} {a : Act} {w : World} {Q : Exit → Act → World → Prop} {b : Nat} {cs vs : Array Value} {T : TypeId} (hgd : op.guard = none) (ty : TypeId) (x y : Operand) (ho : op.op = .store ty x y)
    (hx : a.eval x = .pointer (some ⟨b, 0, none⟩)) (hy : a.eval y = .agg vs) (h : Blk w b cs T) (hs : cs.size = vs.size) (hi : (P.info? ty).map (·.size) = some vs.size) (h1 : vs.all (·.oneCell') = true)
    (hK : ∀ w', Blk w' b vs T → w.grownBy w' (some b) → w'.heap.size = w.heap.size → wpList P ops Q rest (a.put op.dst undef) w') : wpList P ops Q (op :: rest) a w :=
  wpList_plain hgd fun _ hK' => wp_store_blk ty x y ho hx hy h hs hi h1 fun w' g1 g2 g3 => hK' _ _ (hK w' g1 g2 g3)
end Go.Proofs.YtjneodmohkpckaaGreatDoor
