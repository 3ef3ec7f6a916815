/- Rules and models of the exact laws: sizes of lists of rules. -/
import Derived.Test.YtfhogleillgcgaaDoorMc
import Derived.Test.YtfhogleillgcgaaDoorL20h
namespace Go.Proofs.YtfhogleillgcgaaDoor
open Go.RowKit
set_option linter.unusedVariables false
set_option linter.unusedSimpArgs false
/-- a rule in memory reads as a rule, of any size -/
def RuX (w0 : World) (x : RM × RuD) : Prop := x.1.nm = x.2.nm ∧ x.2.nm.size ≤ maxLen ∧ F2b w0 x.1.ga x.1.gn x.1.gc x.2.g ∧ x.1.gn ≤ maxLen ∧ F2 w0 x.1.ea x.1.en x.1.ec x.2.e ∧ x.1.en ≤ maxLen
abbrev FX (w0 : World) := Flats 3 encR (RuX w0)
theorem FX.get {w0 w : World} {a : Option Addr} {n c : Nat} {l : List (RM × RuD)} (h : FX w0 w a n c l) {i : Nat} (hi : i < n) :
    ∃ b off R r, a = some ⟨b, off, none⟩ ∧ b < w.heap.size ∧ l[i]? = some (R, r) ∧ RuX w0 (R, r) ∧ w.cell? ⟨b, off + i * 3, none⟩ = some (.string R.nm) ∧ w.cell? ⟨b, off + i * 3 + 1, none⟩ = some (.slice R.ga R.gn R.gc) ∧ w.cell? ⟨b, off + i * 3 + 2, none⟩ = some (.slice R.ea R.en R.ec) := by
  obtain ⟨b, off, x, h1, h2, h3, h4, h5⟩ := h.at hi
  exact ⟨b, off, x.1, x.2, h1, h2, h3, h4, h5 0 _ rfl, h5 1 _ rfl, h5 2 _ rfl⟩
def need1 (x : RM × RuD) : Nat := x.1.nm.size + x.1.gn + x.1.en
def need (l : List (RM × RuD)) : Nat := (l.map need1).sum
theorem need_take {l : List (RM × RuD)} {k : Nat} {x : RM × RuD} (h : l[k]? = some x) : need (l.take (k + 1)) = need (l.take k) + need1 x := by
  rw [need, take_at h, List.map_append, List.sum_append]; simp [need]
theorem need_le {l : List (RM × RuD)} {k : Nat} {x : RM × RuD} (h : l[k]? = some x) : need (l.take k) + need1 x ≤ need l := by
  rw [← need_take h]
  have : need l = need (l.take (k + 1)) + need (l.drop (k + 1)) := by
    rw [need, need, need, ← List.sum_append, ← List.map_append, List.take_append_drop]
  omega
end Go.Proofs.YtfhogleillgcgaaDoor
