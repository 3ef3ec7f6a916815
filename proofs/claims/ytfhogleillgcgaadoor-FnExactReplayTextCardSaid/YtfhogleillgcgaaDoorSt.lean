/- Slices of strings. -/
import Derived.Test.YtfhogleillgcgaaDoorL01
import Derived.Test.YtfhogleillgcgaaDoorSl
namespace Go.Proofs.YtfhogleillgcgaaDoor
open Go.RowKit
set_option linter.unusedVariables false
set_option linter.unusedSimpArgs false
/-- slices of strings -/
abbrev FS := Flats 1 (fun s : ByteArray => [Value.string s]) (fun s => s.size ≤ maxLen)
theorem FS.get {w : World} {a : Option Addr} {n c : Nat} {l : List ByteArray} (h : FS w a n c l) {i : Nat} (hi : i < n) :
    ∃ b off x, a = some ⟨b, off, none⟩ ∧ b < w.heap.size ∧ l[i]? = some x ∧ x.size ≤ maxLen ∧ w.cell? ⟨b, off + i, none⟩ = some (.string x) := by
  obtain ⟨b, off, x, h1, h2, h3, h4, h5⟩ := h.at hi
  exact ⟨b, off, x, h1, h2, h3, h4, by have := h5 0 _ rfl; simpa using this⟩
end Go.Proofs.YtfhogleillgcgaaDoor
