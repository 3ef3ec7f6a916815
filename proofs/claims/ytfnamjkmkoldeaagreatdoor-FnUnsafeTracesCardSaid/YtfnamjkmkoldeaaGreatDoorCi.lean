/- Is a traffic safe: the program, walked. -/
import Derived.Test.YtfnamjkmkoldeaaGreatDoorSu
import Derived.Test.YtfnamjkmkoldeaaGreatDoorQg
namespace Go.Proofs.YtfnamjkmkoldeaaGreatDoor
open Go.RowKit
set_option linter.unusedVariables false
set_option linter.unusedSimpArgs false
set_option maxHeartbeats 1000000 in
theorem impl_IsSafeTraffic {B n c : Nat} {a : Option Addr} {l : List Int} {w : World} (hI : Ints w a n c l) (ht : trafB (B : Int) l = true) :
    Calls Tryz.prog 18 #[.agg #[.int .i64 (B : Int), .slice a n c]] w fun e w' => e = .returned (.bool (safeN B l)) ∧ Below w.heap.size w w' := by
  obtain ⟨h1, h2, h3, h4, h5⟩ := trafB_split ht
  have hn : n ≤ 4 := by rw [← hI.len]; exact h4
  have X := Lib.hid (Blk.made w #[.int .i64 (B : Int), .slice a n c] 28)
  have hbA : Below w.heap.size w (w.alloc (.cells #[.int .i64 (B : Int), .slice a n c] 28)) := by repeat (first | exact Below.refl _ _ | assumption | refine below_allocS ?_ _ | refine below_callS ?_ (by assumption) | (refine Below.alloc ?_ (by first | omega | (simp; done) | (simp; omega)) _) | (refine Below.setCell ?_ (by first | omega | (simp; done) | (simp; omega)) _) | refine Below.drew ?_ | refine below_drewN ?_ _ | (refine below_call ?_ (by assumption) (by first | omega | (simp; done) | (simp; omega))) | (refine Below.trans ?_ (by assumption)))
  have K1 := Lib.hid (fun (wx : World) (hb : Below w.heap.size w wx) => impl_IsTraffic (b := (B : Int)) (hI.keep hb) (by omega))
  have K2 := Lib.hid (fun (wx : World) (hb : Below w.heap.size w wx) => impl_isSafe (B := B) (hI.keep hb) hn (by omega) (by omega) (fun x hx => by have := h5 x hx; omega))
  rw [ht] at K1
  clear hI h5
  go_enter Tryz.func18, Tryz.ntmps18
  go_wp2_with fail
  refine Calls.mono (K1.out _ hbA) ?_
  rintro e w1 ⟨rfl, hb1⟩
  have hb2 := below_callS hbA hb1
  have X1 := X.out.keep hb1
  have x0 := X1.cell 0
  have x1 := X1.cell 1
  have xl := X1.lt
  simp at x0 x1
  clear X X1 hb1 hbA
  go_wp2_with fail
  refine Calls.mono (K2.out _ hb2) ?_
  rintro e w3 ⟨rfl, hb3⟩
  have hb4 := below_callS hb2 hb3
  go_wp2
  go_ret
  exact ⟨rfl, hb4⟩
end Go.Proofs.YtfnamjkmkoldeaaGreatDoor
