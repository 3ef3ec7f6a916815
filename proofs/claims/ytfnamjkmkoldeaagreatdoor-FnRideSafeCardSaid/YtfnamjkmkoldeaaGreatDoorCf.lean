/- Is a ride safe: the program, walked. -/
import Derived.Test.YtfnamjkmkoldeaaGreatDoorCd
namespace Go.Proofs.YtfnamjkmkoldeaaGreatDoor
open Go.RowKit
set_option linter.unusedVariables false
set_option linter.unusedSimpArgs false
set_option maxHeartbeats 1000000 in
theorem impl_IsRideSafe {b bud : Int} {a : Option Addr} {n c : Nat} {l : List Int} {sec : Bool} {w : World} (hT : Tab w 0 (strsCells ruleNm)) (hI : Ints w a n c l) (hn : n ≤ 1048576) :
    Calls Tryz.prog 15 #[.agg #[.int .i64 b, .slice a n c], .int .i64 bud, .bool sec] w fun e w' => e = .returned (.tuple #[.bool (rsC b l bud sec == 0 && cuN b l bud sec == 0), .int .i64 (rsC b l bud sec)]) ∧ Below w.heap.size w w' := by
  have K1 := Lib.hid (fun (wx : World) (hb : Below w.heap.size w wx) => impl_CountUnsafe (b := b) (bud := bud) (sec := sec) (hT.keep hb) (hI.keep hb) hn)
  have hbA : Below w.heap.size w (w.alloc (.cells #[.int .i64 b, .slice a n c] 28)) := by repeat (first | exact Below.refl _ _ | assumption | refine below_allocS ?_ _ | refine below_callS ?_ (by assumption) | (refine Below.alloc ?_ (by first | omega | (simp; done) | (simp; omega)) _) | (refine Below.setCell ?_ (by first | omega | (simp; done) | (simp; omega)) _) | refine Below.drew ?_ | refine below_drewN ?_ _ | (refine below_call ?_ (by assumption) (by first | omega | (simp; done) | (simp; omega))) | (refine Below.trans ?_ (by assumption)))
  clear hI hT
  generalize rsC b l bud sec = C at *
  generalize cuN b l bud sec = N at *
  cases hC : (C == 0) <;> cases hN : (N == 0)
  all_goals
    go_enter Tryz.func15, Tryz.ntmps15
    go_wp2_with fail
    refine Calls.mono (K1.out _ (by first | exact hbA | exact Below.refl _ _)) ?_
    rintro e w1 ⟨rfl, hb1⟩
    have hb2 : Below w.heap.size w w1 := by first | exact hb1 | exact below_callS hbA hb1
    go_wp2
    go_ret2
    exact ⟨rfl, hb2⟩
set_option maxHeartbeats 1000000 in
theorem impl_IsSafeTraffic {B n c : Nat} {a : Option Addr} {l : List Int} {w : World} (hI : Ints w a n c l) (ht : trafB (B : Int) l = true) :
    Calls Tryz.prog 18 #[.agg #[.int .i64 (B : Int), .slice a n c]] w fun e w' => e = .returned (.bool (safeN B l)) ∧ Below w.heap.size w w' := by
  obtain ⟨h1, h2, h3, h4, h5⟩ := trafB_split ht
  have hn : n ≤ 4 := by rw [← hI.len]; exact h4
  have X := Lib.hid (Blk.made w #[.int .i64 (B : Int), .slice a n c] 28)
  have hbA : Below w.heap.size w (w.alloc (.cells #[.int .i64 (B : Int), .slice a n c] 28)) := by repeat (first | exact Below.refl _ _ | assumption | refine below_allocS ?_ _ | refine below_callS ?_ (by assumption) | (refine Below.alloc ?_ (by first | omega | (simp; done) | (simp; omega)) _) | (refine Below.setCell ?_ (by first | omega | (simp; done) | (simp; omega)) _) | refine Below.drew ?_ | refine below_drewN ?_ _ | (refine below_call ?_ (by assumption) (by first | omega | (simp; done) | (simp; omega))) | (refine Below.trans ?_ (by assumption)))
  have K1 := Lib.hid (fun (wx : World) (hb : Below w.heap.size w wx) => impl_IsTraffic (b := (B : Int)) (hI.keep hb) (by omega))
  have K2 := Lib.hid (fun (wx : World) (hb : Below w.heap.size w wx) => impl_isSafe (B := B) (hI.keep hb) hn (by omega) (by omega) (fun x hx => by have := h5 x hx; omega))
  rw [ht] at K1
  clear hI h5
  go_enter Tryz.func18, Tryz.ntmps18
  go_wp2_with fail
  refine Calls.mono (K1.out _ hbA) ?_
  rintro e w1 ⟨rfl, hb1⟩
  have hb2 := below_callS hbA hb1
  have X1 := X.out.keep hb1
  have x0 := X1.cell 0
  have x1 := X1.cell 1
  have xl := X1.lt
  simp at x0 x1
  clear X X1 hb1 hbA
  go_wp2_with fail
  refine Calls.mono (K2.out _ hb2) ?_
  rintro e w3 ⟨rfl, hb3⟩
  have hb4 := below_callS hb2 hb3
  go_wp2
  go_ret
  exact ⟨rfl, hb4⟩
end Go.Proofs.YtfnamjkmkoldeaaGreatDoor
