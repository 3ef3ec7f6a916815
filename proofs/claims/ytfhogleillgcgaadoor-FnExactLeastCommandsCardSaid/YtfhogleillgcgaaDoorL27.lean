/- Modes of layer 27, walked. -/
import Derived.Test.YtfhogleillgcgaaDoorLd
import Derived.Test.YtfhogleillgcgaaDoorL01
namespace Go.Proofs.YtfhogleillgcgaaDoor
open Go.RowKit
set_option linter.unusedVariables false
set_option linter.unusedSimpArgs false
def modeStr (m : Int) : ByteArray := if inB m 0 5 = true then ⟨(modeNm.getD m.toNat []).toArray⟩ else ByteArray.empty
theorem mode_cases {m : Int} (h : inB m 0 5 = true) : m = 0 ∨ m = 1 ∨ m = 2 ∨ m = 3 ∨ m = 4 ∨ m = 5 := by
  simp [inB] at h; omega
theorem impl_isMode {m : Int} {w : World} : Calls Tryd.prog 46 #[.int .i64 m] w fun e w' => e = .returned (.bool (inB m 0 5)) ∧ w = w' := by
  go_enter Tryd.func46, Tryd.ntmps46
  go_wp2_with fail
  refine Calls.mono (impl_within) ?_
  rintro e _ ⟨rfl, rfl⟩
  go_wp2
  go_ret
  exact ⟨rfl, rfl⟩
theorem spec_l27Mode {m : Int} {w : World} : Calls Tryd.prog 43 #[.int .i64 m] w fun e w' => e = .returned (.bool (inB m 0 5)) ∧ w = w' := by
  go_enter Tryd.func43, Tryd.ntmps43
  go_wp2_with fail
  refine Calls.mono (spec_l01In) ?_
  rintro e _ ⟨rfl, rfl⟩
  go_wp2
  go_ret
  exact ⟨rfl, rfl⟩
end Go.Proofs.YtfhogleillgcgaaDoor
