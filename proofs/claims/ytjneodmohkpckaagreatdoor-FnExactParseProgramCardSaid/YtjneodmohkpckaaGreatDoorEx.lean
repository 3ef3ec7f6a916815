/- The copies, comparisons and marks of the exact laws, walked. -/
import Derived.Test.YtjneodmohkpckaaGreatDoorBase
namespace Go.Proofs.YtjneodmohkpckaaGreatDoor
open Go.RowKit
set_option linter.unusedVariables false
set_option linter.unusedSimpArgs false
theorem Tryz.infoi64 : (Tryz.prog.info? 2).map (fun i => (i.zero, i.size, i.bytes)) = some (some (.int .i64 0), 1, 8) := by kernel_rfl
end Go.Proofs.YtjneodmohkpckaaGreatDoor
