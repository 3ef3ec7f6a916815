/- Valid models, walked: the program. -/
import Derived.Test.YtfhogleillgcgaaDoorL20g
namespace Go.Proofs.YtfhogleillgcgaaDoor
open Go.RowKit
set_option linter.unusedVariables false
set_option linter.unusedSimpArgs false
/-- a rule in memory reads as a rule, in the world w0 -/
def RuM (w0 : World) (x : RM × RuD) : Prop := x.1.nm = x.2.nm ∧ x.2.nm.size ≤ maxLen ∧ F2b w0 x.1.ga x.1.gn x.1.gc x.2.g ∧ x.1.gn ≤ 1048576 ∧ F2 w0 x.1.ea x.1.en x.1.ec x.2.e ∧ x.1.en ≤ 1048576
def encR (x : RM × RuD) : List Value := x.1.enc
/-- a slice of rules: its cells in w, what they point at in w0 -/
abbrev FR (w0 : World) := Flats 3 encR (RuM w0)
theorem FR.get {w0 w : World} {a : Option Addr} {n c : Nat} {l : List (RM × RuD)} (h : FR w0 w a n c l) {i : Nat} (hi : i < n) :
    ∃ b off R r, a = some ⟨b, off, none⟩ ∧ b < w.heap.size ∧ l[i]? = some (R, r) ∧ RuM w0 (R, r) ∧ w.cell? ⟨b, off + i * 3, none⟩ = some (.string R.nm) ∧ w.cell? ⟨b, off + i * 3 + 1, none⟩ = some (.slice R.ga R.gn R.gc) ∧ w.cell? ⟨b, off + i * 3 + 2, none⟩ = some (.slice R.ea R.en R.ec) := by
  obtain ⟨b, off, x, h1, h2, h3, h4, h5⟩ := h.at hi
  exact ⟨b, off, x.1, x.2, h1, h2, h3, h4, h5 0 _ rfl, h5 1 _ rfl, h5 2 _ rfl⟩
def rulesB (sz : List Int) (l : List (RM × RuD)) : Bool := l.all fun x => ruleB sz x.2
def modelB (sz st : List Int) (l : List (RM × RuD)) : Bool := inB (sz.length : Int) 1 16 && (allIn 1 32 sz && (stateB sz st && (decide (l.length ≤ 200) && rulesB sz l)))
theorem rulesB_any {sz : List Int} {l : List (RM × RuD)} : rulesB sz l = !(l.any fun x => !ruleB sz x.2) := by
  rw [rulesB, List.not_any_eq_all_not]; simp
theorem allIn_any {lo hi : Int} {l : List Int} : (l.any fun x => !inB x lo hi) = !allIn lo hi l := by
  rw [allIn, List.not_all_eq_any_not]
end Go.Proofs.YtfhogleillgcgaaDoor
