/- The library's largest length is some number: from the world's shape. -/
import Derived.Test.YtipkncjjkkijfaaGreatDoorPk
import Derived.Shelf.Vars
namespace Go.Proofs.YtipkncjjkkijfaaGreatDoor
open Go.RowKit
set_option linter.unusedVariables false
set_option maxRecDepth 100000 in
theorem ml_of {w : World} (h : w.ShapedOpen Tryz.prog) : MLc w :=
  cell_of_shapedOpen_int (t := 3) (zero := #[.int .i64 0]) h (of_decide_eq_true (by kernel_rfl)) (by kernel_rfl) rfl (by kernel_rfl) (by kernel_rfl) Tryz.underlying3
end Go.Proofs.YtipkncjjkkijfaaGreatDoor
