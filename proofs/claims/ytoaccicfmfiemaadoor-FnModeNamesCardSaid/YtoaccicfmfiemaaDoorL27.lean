/- Modes of layer 27, walked. -/
import Derived.Test.YtoaccicfmfiemaaDoorLd
import Derived.Test.YtoaccicfmfiemaaDoorL01
namespace Go.Proofs.YtoaccicfmfiemaaDoor
open Go.RowKit
set_option linter.unusedVariables false
set_option linter.unusedSimpArgs false
def modeStr (m : Int) : ByteArray := if inB m 0 5 = true then ⟨(modeNm.getD m.toNat []).toArray⟩ else ByteArray.empty
theorem mode_cases {m : Int} (h : inB m 0 5 = true) : m = 0 ∨ m = 1 ∨ m = 2 ∨ m = 3 ∨ m = 4 ∨ m = 5 := by
  simp [inB] at h; omega
theorem impl_isMode {m : Int} {w : World} : Calls Tryd.prog 33 #[.int .i64 m] w fun e w' => e = .returned (.bool (inB m 0 5)) ∧ w = w' := by
  go_enter Tryd.func33, Tryd.ntmps33
  go_wp2_with fail
  refine Calls.mono (impl_within) ?_
  rintro e _ ⟨rfl, rfl⟩
  go_wp2
  go_ret
  exact ⟨rfl, rfl⟩
theorem spec_l27Mode {m : Int} {w : World} : Calls Tryd.prog 37 #[.int .i64 m] w fun e w' => e = .returned (.bool (inB m 0 5)) ∧ w = w' := by
  go_enter Tryd.func37, Tryd.ntmps37
  go_wp2_with fail
  refine Calls.mono (spec_l01In) ?_
  rintro e _ ⟨rfl, rfl⟩
  go_wp2
  go_ret
  exact ⟨rfl, rfl⟩
set_option maxHeartbeats 1000000 in
theorem impl_ModeName {m : Int} {w : World} (hT : Tab w 0 (strsCells modeNm)) : Calls Tryd.prog 9 #[.int .i64 m] w fun e w' => e = .returned (.string (modeStr m)) ∧ w = w' := by
  cases t : inB m 0 5
  · have T := Lib.hid t
    clear t
    go_enter Tryd.func9, Tryd.ntmps9
    go_wp2_with fail
    refine Calls.mono (impl_isMode) ?_
    rintro e _ ⟨rfl, rfl⟩
    rw [T.out]
    go_wp2
    go_ret
    exact ⟨by rw [modeStr, T.out]; rfl, rfl⟩
  · rcases mode_cases t with rfl | rfl | rfl | rfl | rfl | rfl
    · have c := hT.2 0 _ rfl
      clear hT
      go_enter Tryd.func9, Tryd.ntmps9
      go_wp2_with fail
      refine Calls.mono (impl_isMode) ?_
      rintro e _ ⟨rfl, rfl⟩
      rw [t]
      clear t
      go_wp2
      go_ret
      exact ⟨rfl, rfl⟩
    · have c := hT.2 1 _ rfl
      clear hT
      go_enter Tryd.func9, Tryd.ntmps9
      go_wp2_with fail
      refine Calls.mono (impl_isMode) ?_
      rintro e _ ⟨rfl, rfl⟩
      rw [t]
      clear t
      go_wp2
      go_ret
      exact ⟨rfl, rfl⟩
    · have c := hT.2 2 _ rfl
      clear hT
      go_enter Tryd.func9, Tryd.ntmps9
      go_wp2_with fail
      refine Calls.mono (impl_isMode) ?_
      rintro e _ ⟨rfl, rfl⟩
      rw [t]
      clear t
      go_wp2
      go_ret
      exact ⟨rfl, rfl⟩
    · have c := hT.2 3 _ rfl
      clear hT
      go_enter Tryd.func9, Tryd.ntmps9
      go_wp2_with fail
      refine Calls.mono (impl_isMode) ?_
      rintro e _ ⟨rfl, rfl⟩
      rw [t]
      clear t
      go_wp2
      go_ret
      exact ⟨rfl, rfl⟩
    · have c := hT.2 4 _ rfl
      clear hT
      go_enter Tryd.func9, Tryd.ntmps9
      go_wp2_with fail
      refine Calls.mono (impl_isMode) ?_
      rintro e _ ⟨rfl, rfl⟩
      rw [t]
      clear t
      go_wp2
      go_ret
      exact ⟨rfl, rfl⟩
    · have c := hT.2 5 _ rfl
      clear hT
      go_enter Tryd.func9, Tryd.ntmps9
      go_wp2_with fail
      refine Calls.mono (impl_isMode) ?_
      rintro e _ ⟨rfl, rfl⟩
      rw [t]
      clear t
      go_wp2
      go_ret
      exact ⟨rfl, rfl⟩
set_option maxHeartbeats 1000000 in
theorem spec_ModeName {m : Int} {w : World} : Calls Tryd.prog 13 #[.int .i64 m] w fun e w' => e = .returned (.string (modeStr m)) ∧ Below w.heap.size w w' := by
  cases t : inB m 0 5
  · have T := Lib.hid t
    clear t
    go_enter Tryd.func13, Tryd.ntmps13
    go_wp2_with fail
    refine Calls.mono (spec_l27Mode) ?_
    rintro e _ ⟨rfl, rfl⟩
    rw [T.out]
    go_wp2
    go_ret
    exact ⟨by rw [modeStr, T.out]; rfl, Below.refl _ _⟩
  · rcases mode_cases t with rfl | rfl | rfl | rfl | rfl | rfl
    all_goals
      go_enter Tryd.func13, Tryd.ntmps13
      go_wp2_with fail
      refine Calls.mono (spec_l27Mode) ?_
      rintro e _ ⟨rfl, rfl⟩
      rw [t]
      clear t
      go_wp2
      go_ret
      exact ⟨rfl, by repeat (first | exact Below.refl _ _ | assumption | refine below_allocS ?_ _ | refine below_callS ?_ (by assumption) | (refine Below.alloc ?_ (by first | omega | (simp; done) | (simp; omega)) _) | (refine Below.setCell ?_ (by first | omega | (simp; done) | (simp; omega)) _) | refine Below.drew ?_ | refine below_drewN ?_ _ | (refine below_call ?_ (by assumption) (by first | omega | (simp; done) | (simp; omega))) | (refine Below.trans ?_ (by assumption)))⟩
end Go.Proofs.YtoaccicfmfiemaaDoor
