/- A copy of a list of one's own, walked. -/
import Derived.Test.YtcnjnkjnpfpaeaaWq
import Derived.Test.YtcnjnkjnpfpaeaaL01
import Derived.Test.YtcnjnkjnpfpaeaaAt
import Derived.Test.YtcnjnkjnpfpaeaaAi
namespace Go.Proofs.Ytcnjnkjnpfpaeaa
open Go.RowKit
set_option linter.unusedVariables false
set_option linter.unusedSimpArgs false
theorem enc1_oneU (y : Int) : ∀ u ∈ enc1 y, u.oneCell' = true := fun u hu => by simp [enc1] at hu; subst hu; rfl
theorem own_litU {w : World} {T : TypeId} {z : Int} (hz : I64 z) : OwnI T (w.alloc (.cells #[.int .i64 z] T)) w.heap.size (some ⟨w.heap.size, 0, none⟩) 1 1 [z] :=
  OwnF.i1 (OwnF.lit w [z] (Nat.le_refl _) rfl (by decide) (fun _ => rfl) (fun y hy => by simp at hy; rw [hy]; exact hz) rfl)
set_option maxHeartbeats 1000000 in
theorem spec_l01OwnU {a : Option Addr} {n c : Nat} {l : List Int} {w : World} (hI : Ints w a n c l) (hn : n ≤ 1048576) :
    Calls Try.prog 61 #[.slice a n c] w fun e w' => ∃ a c, e = .returned (.slice a n c) ∧ Below w.heap.size w w' ∧ OwnI 2 w' w.heap.size a n c l := by
  have HI := Lib.hid hI
  clear hI
  go_enter Try.func61, Try.ntmps61
  go_wp2_with (at_builtin; refine appendL_i64 rfl _ _ 24 2 rfl Try.underlying24 Try.infoi64 w.heap.size _ _ _ _ (OwnI.empty w (Nat.le_refl _)) rfl _ _ _ _ rfl (HI.out.keep ((Below.refl _ _).alloc (Nat.le_refl _) _)) (by omega) (by omega) (by simp) ?_; intro a1 c1 w1 hown1 hb1 hg1 hnil1)
  have Hown := Lib.hid hown1
  clear hown1
  go_ret
  exact ⟨a1, c1, by simp, bel, by simpa using Hown.out⟩
end Go.Proofs.Ytcnjnkjnpfpaeaa
