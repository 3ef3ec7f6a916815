/- Tables of names: rules of a ride, words of a replay. -/
import Derived.Test.YtipkncjjkkijfaaGreatDoorLd
namespace Go.Proofs.YtipkncjjkkijfaaGreatDoor
open Go.RowKit
set_option linter.unusedVariables false
set_option linter.unusedSimpArgs false
def ruleNm : List (List UInt8) := [[97, 114, 114, 105, 118, 101], [114, 101, 108, 101, 97, 115, 101], [98, 108, 105, 110, 100], [101, 110, 116, 101, 114], [99, 108, 101, 97, 114], [111, 99, 99, 117, 112, 105, 101, 100], [115, 101, 99, 111, 110, 100]]
def statusNm : List (List UInt8) := [[109, 111, 118, 101], [99, 108, 101, 97, 114], [111, 99, 99, 117, 112, 105, 101, 100], [98, 108, 105, 110, 100]]
theorem strs_eq (l : List (List UInt8)) : strsCells l = l.map fun z => .string ⟨z.toArray⟩ := by
  unfold strsCells
  induction l with
  | nil => rfl
  | cons y r ih => rw [List.flatMap_cons, List.map_cons, ih]; rfl
theorem strs_at {l : List (List UInt8)} {k : Nat} {z : List UInt8} (h : l[k]? = some z) : (strsCells l)[k]? = some (.string ⟨z.toArray⟩) := by
  rw [strs_eq, List.getElem?_map, h]; rfl
theorem tab_statusWords {l : List (String × DataW Unit)} {W : World} (h : laidMet Tryz.prog l W) (hm : ("loop.example/g00916/impl.statusWords", Rows.laid_loop_example_g00916_impl_statusWords) ∈ l) : Tab W 0 (strsCells statusNm) := by
  obtain ⟨ps, hv, _⟩ := h
  obtain ⟨g, t, cs, fuel, p, h1, h2, h3, h4⟩ := laidVars_mem hv hm
  obtain rfl := Option.some.inj ((show Tryz.prog.globalNamed "loop.example/g00916/impl.statusWords" = some 0 by kernel_rfl).symm.trans h1)
  obtain rfl := Option.some.inj ((show (Tryz.prog.globals[0]?).map (·.type) = some 44 by kernel_rfl).symm.trans h2)
  have h5 := cells_of_arr (zs := statusNm) (encd := fun z => .lit (.string z)) (encf := fun z => [.string ⟨z.toArray⟩]) Tryz.underlying44 (show Tryz.prog.cellsOf 9 = 1 by kernel_rfl) (by kernel_rfl) (fun m cs z p hl h => str_cell Tryz.underlying9 hl h) h4
  have h6 := Tab.of_var h1 h3
  rw [h5] at h6
  exact h6
end Go.Proofs.YtipkncjjkkijfaaGreatDoor
