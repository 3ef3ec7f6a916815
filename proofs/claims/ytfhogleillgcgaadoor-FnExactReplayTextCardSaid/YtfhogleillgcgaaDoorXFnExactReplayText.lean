/- The law FnExactReplayText, from the contracts of the two functions. -/
import Derived.Test.YtfhogleillgcgaaDoorOw
import Derived.Test.YtfhogleillgcgaaDoorL25x
import Derived.Test.YtfhogleillgcgaaDoorL10b
import Derived.Test.YtfhogleillgcgaaDoorFl
namespace Go.Proofs.YtfhogleillgcgaaDoor
open Go.RowKit
set_option linter.unusedVariables false
set_option linter.unusedSimpArgs false
set_option maxHeartbeats 8000000 in
theorem law_ReplayText {b0 : Int} {a0 : Option Addr} {n0 c0 : Nat} {l0 : List Int} {a1 : Option Addr} {n1 c1 : Nat} {l1 : List I3} {w : World} (hT : Tab w 0 (strsCells statusNm)) (i0 : I64 b0) (hI0 : Ints w a0 n0 c0 l0) (hM0 : n0 ≤ maxLen) (hI1 : F3 w a1 n1 c1 l1) (hM1 : n1 ≤ maxLen) :
    Calls Tryd.prog 5 #[.agg #[.int .i64 b0, .slice a0 n0 c0], .slice a1 n1 c1] w fun e w' => e = .returned (.bool true) ∧ Below w.heap.size w w' := by
  have HI0 := Lib.hid hI0
  have hn90 : (n0 : Int) ≤ 9223372036854775807 := by unfold maxLen at hM0; omega
  have HI1 := Lib.hid hI1
  have hn91 : (n1 : Int) ≤ 9223372036854775807 := by unfold maxLen at hM1; omega
  clear hM0
  clear hM1
  by_cases hz0 : n0 ≤ 1048576
  · skip
    by_cases hz1 : (n1 : Int) ≤ 1048576 - (n0 : Int)
    · skip
      have hn0 : n0 ≤ 1048576 := by omega
      have hn1 : n1 ≤ 1048576 := by omega
      have hspec := fun (wx : World) (hB : Below w.heap.size w wx) (y0 : Option Addr) (y1 : Option Addr) (hX0 : Ints wx y0 n0 n0 l0) (hX1 : F3 wx y1 n1 n1 l1) => spec_ReplayText (b := b0) hX0 hX1 hn0 hn1
      have himpl := fun (wx : World) (hB : Below w.heap.size w wx) (y0 : Option Addr) (y1 : Option Addr) (hX0 : Ints wx y0 n0 n0 l0) (hX1 : F3 wx y1 n1 n1 l1) => impl_ReplayText (b := b0) (hT.keep hB) hX0 hX1 hn0 hn1
      clear hT
      generalize rpT b0 l0 l1 = TX at *
      have Hspec := Lib.hid hspec
      have Himpl := Lib.hid himpl
      clear hspec himpl
      have hcc : (TX.toList == TX.toList) = true := by simp
      have hcc2 : (TX.toList != TX.toList) = false := by simp
      go_enter Tryd.func5, Tryd.ntmps5
      have y_K0 : Blk (w.alloc (.cells #[.int .i64 b0, .slice a0 n0 c0] 29)) w.heap.size #[.int .i64 b0, .slice a0 n0 c0] 29 := by have hh := (Blk.made w #[.int .i64 b0, .slice a0 n0 c0] 29); simpa using hh
      have u_K0_0 : (w.alloc (.cells #[.int .i64 b0, .slice a0 n0 c0] 29)).cell? ⟨w.heap.size, 0, none⟩ = some (.int .i64 b0) := y_K0.cell 0
      have u_K0_1 : (w.alloc (.cells #[.int .i64 b0, .slice a0 n0 c0] 29)).cell? ⟨w.heap.size, 1, none⟩ = some (.slice a0 n0 c0) := y_K0.cell 1
      have v_K0 : w.heap.size < (w.alloc (.cells #[.int .i64 b0, .slice a0 n0 c0] 29)).heap.size := y_K0.lt
      go_wp2_with fail
      refine Calls.mono (laws_szTraffic hn90 (by omega) (by omega)) ?_
      rintro e w1 ⟨rfl, hb_w1⟩
      have hs_w1 := hb_w1.size
      simp at hs_w1
      clear y_K0 u_K0_0 u_K0_1 v_K0
      have hst : Below w.heap.size w w1 := by repeat (first | exact Below.refl _ _ | assumption | refine below_allocS ?_ _ | refine below_callS ?_ (by assumption) | (refine Below.alloc ?_ (by first | omega | (simp; done) | (simp; omega)) _) | (refine Below.setCell ?_ (by first | omega | (simp; done) | (simp; omega)) _) | refine Below.drew ?_ | refine below_drewN ?_ _ | (refine below_call ?_ (by assumption) (by first | omega | (simp; done) | (simp; omega))) | (refine Below.trans ?_ (by assumption)))
      have hB_w1 : Below w.heap.size w w1 := hst
      have K0 := Lib.hid (show Blk w1 (w.heap.size) #[.int .i64 b0, .slice a0 n0 c0] 29 by have hh := ((Blk.made w #[.int .i64 b0, .slice a0 n0 c0] 29)).keep hb_w1; simpa using hh)
      clear hst hb_w1
      go_wp2_with fail
      refine Calls.mono (laws_szReplayEventS hn91 (by omega) (by omega)) ?_
      rintro e _ ⟨rfl, rfl⟩
      have u_K0_0 : w1.cell? ⟨w.heap.size, 0, none⟩ = some (.int .i64 b0) := (K0.out).cell 0
      have u_K0_1 : w1.cell? ⟨w.heap.size, 1, none⟩ = some (.slice a0 n0 c0) := (K0.out).cell 1
      have v_K0 : w.heap.size < w1.heap.size := (K0.out).lt
      go_wp2_with fail
      refine Calls.mono (laws_toTraffic (HI0.out.keep (by repeat (first | exact Below.refl _ _ | assumption | refine below_allocS ?_ _ | refine below_callS ?_ (by assumption) | (refine Below.alloc ?_ (by first | omega | (simp; done) | (simp; omega)) _) | (refine Below.setCell ?_ (by first | omega | (simp; done) | (simp; omega)) _) | refine Below.drew ?_ | refine below_drewN ?_ _ | (refine below_call ?_ (by assumption) (by first | omega | (simp; done) | (simp; omega))) | (refine Below.trans ?_ (by assumption))))) hn0) ?_
      rintro e w2 ⟨g2, rfl, hb_w2, ho2⟩
      have hs_w2 := hb_w2.size
      clear u_K0_0 u_K0_1 v_K0
      have ko2 := ho2.blk g2 rfl
      have O2 := Lib.hid (ho2.own)
      clear ho2
      have hst : Below w1.heap.size w1 w2 := by repeat (first | exact Below.refl _ _ | assumption | refine below_allocS ?_ _ | refine below_callS ?_ (by assumption) | (refine Below.alloc ?_ (by first | omega | (simp; done) | (simp; omega)) _) | (refine Below.setCell ?_ (by first | omega | (simp; done) | (simp; omega)) _) | refine Below.drew ?_ | refine below_drewN ?_ _ | (refine below_call ?_ (by assumption) (by first | omega | (simp; done) | (simp; omega))) | (refine Below.trans ?_ (by assumption)))
      have hB_w2 : Below w.heap.size w w2 := below_callS hB_w1 hst
      replace K0 := Lib.hid (K0.out.keep hst)
      clear hst hb_w2 hB_w1
      have u_K0_0 : w2.cell? ⟨w.heap.size, 0, none⟩ = some (.int .i64 b0) := (K0.out).cell 0
      have u_K0_1 : w2.cell? ⟨w.heap.size, 1, none⟩ = some (.slice a0 n0 c0) := (K0.out).cell 1
      have v_K0 : w.heap.size < w2.heap.size := (K0.out).lt
      go_wp2_with fail
      refine Calls.mono (laws_toReplayEventS_g (HI1.out.keep (by repeat (first | exact Below.refl _ _ | assumption | refine below_allocS ?_ _ | refine below_callS ?_ (by assumption) | (refine Below.alloc ?_ (by first | omega | (simp; done) | (simp; omega)) _) | (refine Below.setCell ?_ (by first | omega | (simp; done) | (simp; omega)) _) | refine Below.drew ?_ | refine below_drewN ?_ _ | (refine below_call ?_ (by assumption) (by first | omega | (simp; done) | (simp; omega))) | (refine Below.trans ?_ (by assumption))))) hn1) ?_
      rintro e w3 ⟨g3, rfl, hb_w3, ho3⟩
      have hs_w3 := hb_w3.size
      clear u_K0_0 u_K0_1 v_K0
      have ko3 := ho3.blk g3 rfl
      have O3 := Lib.hid (ho3.own)
      clear ho3
      have hst : Below w2.heap.size w2 w3 := by repeat (first | exact Below.refl _ _ | assumption | refine below_allocS ?_ _ | refine below_callS ?_ (by assumption) | (refine Below.alloc ?_ (by first | omega | (simp; done) | (simp; omega)) _) | (refine Below.setCell ?_ (by first | omega | (simp; done) | (simp; omega)) _) | refine Below.drew ?_ | refine below_drewN ?_ _ | (refine below_call ?_ (by assumption) (by first | omega | (simp; done) | (simp; omega))) | (refine Below.trans ?_ (by assumption)))
      have hB_w3 : Below w.heap.size w w3 := below_callS hB_w2 hst
      replace K0 := Lib.hid (K0.out.keep hst)
      replace O2 := Lib.hid (O2.out.keep hst)
      clear hst hb_w3 hB_w2
      have u_K0_0 : w3.cell? ⟨w.heap.size, 0, none⟩ = some (.int .i64 b0) := (K0.out).cell 0
      have u_K0_1 : w3.cell? ⟨w.heap.size, 1, none⟩ = some (.slice a0 n0 c0) := (K0.out).cell 1
      have v_K0 : w.heap.size < w3.heap.size := (K0.out).lt
      go_wp2_with fail
      refine Calls.mono (Hspec.out _ (by repeat (first | exact Below.refl _ _ | assumption | refine below_allocS ?_ _ | refine below_callS ?_ (by assumption) | (refine Below.alloc ?_ (by first | omega | (simp; done) | (simp; omega)) _) | (refine Below.setCell ?_ (by first | omega | (simp; done) | (simp; omega)) _) | refine Below.drew ?_ | refine below_drewN ?_ _ | (refine below_call ?_ (by assumption) (by first | omega | (simp; done) | (simp; omega))) | (refine Below.trans ?_ (by assumption)))) _ _ ((O2.out).fact.ints) ((O3.out).fact.flats)) ?_
      rintro e w4 ⟨rfl, hb_w4⟩
      have hs_w4 := hb_w4.size
      clear u_K0_0 u_K0_1 v_K0
      have hst : Below w3.heap.size w3 w4 := by repeat (first | exact Below.refl _ _ | assumption | refine below_allocS ?_ _ | refine below_callS ?_ (by assumption) | (refine Below.alloc ?_ (by first | omega | (simp; done) | (simp; omega)) _) | (refine Below.setCell ?_ (by first | omega | (simp; done) | (simp; omega)) _) | refine Below.drew ?_ | refine below_drewN ?_ _ | (refine below_call ?_ (by assumption) (by first | omega | (simp; done) | (simp; omega))) | (refine Below.trans ?_ (by assumption)))
      have hB_w4 : Below w.heap.size w w4 := below_callS hB_w3 hst
      replace K0 := Lib.hid (K0.out.keep hst)
      replace O2 := Lib.hid (O2.out.keep hst)
      replace O3 := Lib.hid (O3.out.keep hst)
      clear hst hb_w4 hB_w3
      clear O2
      clear O3
      have u_K0_0 : w4.cell? ⟨w.heap.size, 0, none⟩ = some (.int .i64 b0) := (K0.out).cell 0
      have u_K0_1 : w4.cell? ⟨w.heap.size, 1, none⟩ = some (.slice a0 n0 c0) := (K0.out).cell 1
      have v_K0 : w.heap.size < w4.heap.size := (K0.out).lt
      go_wp2_with fail
      refine Calls.mono (laws_toTraffic (HI0.out.keep (by repeat (first | exact Below.refl _ _ | assumption | refine below_allocS ?_ _ | refine below_callS ?_ (by assumption) | (refine Below.alloc ?_ (by first | omega | (simp; done) | (simp; omega)) _) | (refine Below.setCell ?_ (by first | omega | (simp; done) | (simp; omega)) _) | refine Below.drew ?_ | refine below_drewN ?_ _ | (refine below_call ?_ (by assumption) (by first | omega | (simp; done) | (simp; omega))) | (refine Below.trans ?_ (by assumption))))) hn0) ?_
      rintro e w5 ⟨g5, rfl, hb_w5, ho5⟩
      have hs_w5 := hb_w5.size
      clear u_K0_0 u_K0_1 v_K0
      have ko5 := ho5.blk g5 rfl
      have O5 := Lib.hid (ho5.own)
      clear ho5
      have hst : Below w4.heap.size w4 w5 := by repeat (first | exact Below.refl _ _ | assumption | refine below_allocS ?_ _ | refine below_callS ?_ (by assumption) | (refine Below.alloc ?_ (by first | omega | (simp; done) | (simp; omega)) _) | (refine Below.setCell ?_ (by first | omega | (simp; done) | (simp; omega)) _) | refine Below.drew ?_ | refine below_drewN ?_ _ | (refine below_call ?_ (by assumption) (by first | omega | (simp; done) | (simp; omega))) | (refine Below.trans ?_ (by assumption)))
      have hB_w5 : Below w.heap.size w w5 := below_callS hB_w4 hst
      replace K0 := Lib.hid (K0.out.keep hst)
      clear hst hb_w5 hB_w4
      have u_K0_0 : (w5.alloc (.cells #[.int .i64 b0, .slice (some ⟨g5, 0, none⟩) n0 n0] 33)).cell? ⟨w.heap.size, 0, none⟩ = some (.int .i64 b0) := (K0.out.keep (show Below w5.heap.size w5 (w5.alloc (.cells #[.int .i64 b0, .slice (some ⟨g5, 0, none⟩) n0 n0] 33)) by repeat (first | exact Below.refl _ _ | assumption | refine below_allocS ?_ _ | refine below_callS ?_ (by assumption) | (refine Below.alloc ?_ (by first | omega | (simp; done) | (simp; omega)) _) | (refine Below.setCell ?_ (by first | omega | (simp; done) | (simp; omega)) _) | refine Below.drew ?_ | refine below_drewN ?_ _ | (refine below_call ?_ (by assumption) (by first | omega | (simp; done) | (simp; omega))) | (refine Below.trans ?_ (by assumption))))).cell 0
      have u_K0_1 : (w5.alloc (.cells #[.int .i64 b0, .slice (some ⟨g5, 0, none⟩) n0 n0] 33)).cell? ⟨w.heap.size, 1, none⟩ = some (.slice a0 n0 c0) := (K0.out.keep (show Below w5.heap.size w5 (w5.alloc (.cells #[.int .i64 b0, .slice (some ⟨g5, 0, none⟩) n0 n0] 33)) by repeat (first | exact Below.refl _ _ | assumption | refine below_allocS ?_ _ | refine below_callS ?_ (by assumption) | (refine Below.alloc ?_ (by first | omega | (simp; done) | (simp; omega)) _) | (refine Below.setCell ?_ (by first | omega | (simp; done) | (simp; omega)) _) | refine Below.drew ?_ | refine below_drewN ?_ _ | (refine below_call ?_ (by assumption) (by first | omega | (simp; done) | (simp; omega))) | (refine Below.trans ?_ (by assumption))))).cell 1
      have v_K0 : w.heap.size < (w5.alloc (.cells #[.int .i64 b0, .slice (some ⟨g5, 0, none⟩) n0 n0] 33)).heap.size := (K0.out.keep (show Below w5.heap.size w5 (w5.alloc (.cells #[.int .i64 b0, .slice (some ⟨g5, 0, none⟩) n0 n0] 33)) by repeat (first | exact Below.refl _ _ | assumption | refine below_allocS ?_ _ | refine below_callS ?_ (by assumption) | (refine Below.alloc ?_ (by first | omega | (simp; done) | (simp; omega)) _) | (refine Below.setCell ?_ (by first | omega | (simp; done) | (simp; omega)) _) | refine Below.drew ?_ | refine below_drewN ?_ _ | (refine below_call ?_ (by assumption) (by first | omega | (simp; done) | (simp; omega))) | (refine Below.trans ?_ (by assumption))))).lt
      have y_X0 : Blk (w5.alloc (.cells #[.int .i64 b0, .slice (some ⟨g5, 0, none⟩) n0 n0] 33)) w5.heap.size #[.int .i64 b0, .slice (some ⟨g5, 0, none⟩) n0 n0] 33 := by have hh := (Blk.made w5 #[.int .i64 b0, .slice (some ⟨g5, 0, none⟩) n0 n0] 33); simpa using hh
      have u_X0_0 : (w5.alloc (.cells #[.int .i64 b0, .slice (some ⟨g5, 0, none⟩) n0 n0] 33)).cell? ⟨w5.heap.size, 0, none⟩ = some (.int .i64 b0) := y_X0.cell 0
      have u_X0_1 : (w5.alloc (.cells #[.int .i64 b0, .slice (some ⟨g5, 0, none⟩) n0 n0] 33)).cell? ⟨w5.heap.size, 1, none⟩ = some (.slice (some ⟨g5, 0, none⟩) n0 n0) := y_X0.cell 1
      have v_X0 : w5.heap.size < (w5.alloc (.cells #[.int .i64 b0, .slice (some ⟨g5, 0, none⟩) n0 n0] 33)).heap.size := y_X0.lt
      go_wp2_with fail
      refine Calls.mono (laws_toReplayEventS_g (HI1.out.keep (by repeat (first | exact Below.refl _ _ | assumption | refine below_allocS ?_ _ | refine below_callS ?_ (by assumption) | (refine Below.alloc ?_ (by first | omega | (simp; done) | (simp; omega)) _) | (refine Below.setCell ?_ (by first | omega | (simp; done) | (simp; omega)) _) | refine Below.drew ?_ | refine below_drewN ?_ _ | (refine below_call ?_ (by assumption) (by first | omega | (simp; done) | (simp; omega))) | (refine Below.trans ?_ (by assumption))))) hn1) ?_
      rintro e w6 ⟨g6, rfl, hb_w6, ho6⟩
      have hs_w6 := hb_w6.size
      simp at hs_w6
      clear u_K0_0 u_K0_1 v_K0 y_X0 u_X0_0 u_X0_1 v_X0
      have ko6 := ho6.blk g6 rfl
      have O6 := Lib.hid (ho6.own)
      clear ho6
      simp at O6 ko6
      have hst : Below w5.heap.size w5 w6 := by repeat (first | exact Below.refl _ _ | assumption | refine below_allocS ?_ _ | refine below_callS ?_ (by assumption) | (refine Below.alloc ?_ (by first | omega | (simp; done) | (simp; omega)) _) | (refine Below.setCell ?_ (by first | omega | (simp; done) | (simp; omega)) _) | refine Below.drew ?_ | refine below_drewN ?_ _ | (refine below_call ?_ (by assumption) (by first | omega | (simp; done) | (simp; omega))) | (refine Below.trans ?_ (by assumption)))
      have hB_w6 : Below w.heap.size w w6 := below_callS hB_w5 hst
      replace K0 := Lib.hid (K0.out.keep hst)
      replace O5 := Lib.hid (O5.out.keep hst)
      have X0 := Lib.hid (show Blk w6 (w5.heap.size) #[.int .i64 b0, .slice (some ⟨g5, 0, none⟩) n0 n0] 33 by have hh := ((Blk.made w5 #[.int .i64 b0, .slice (some ⟨g5, 0, none⟩) n0 n0] 33)).keep hb_w6; simpa using hh)
      clear hst hb_w6 hB_w5
      have u_K0_0 : w6.cell? ⟨w.heap.size, 0, none⟩ = some (.int .i64 b0) := (K0.out).cell 0
      have u_K0_1 : w6.cell? ⟨w.heap.size, 1, none⟩ = some (.slice a0 n0 c0) := (K0.out).cell 1
      have v_K0 : w.heap.size < w6.heap.size := (K0.out).lt
      have u_X0_0 : w6.cell? ⟨w5.heap.size, 0, none⟩ = some (.int .i64 b0) := (X0.out).cell 0
      have u_X0_1 : w6.cell? ⟨w5.heap.size, 1, none⟩ = some (.slice (some ⟨g5, 0, none⟩) n0 n0) := (X0.out).cell 1
      have v_X0 : w5.heap.size < w6.heap.size := (X0.out).lt
      go_wp2_with fail
      refine Calls.mono (Himpl.out _ (by repeat (first | exact Below.refl _ _ | assumption | refine below_allocS ?_ _ | refine below_callS ?_ (by assumption) | (refine Below.alloc ?_ (by first | omega | (simp; done) | (simp; omega)) _) | (refine Below.setCell ?_ (by first | omega | (simp; done) | (simp; omega)) _) | refine Below.drew ?_ | refine below_drewN ?_ _ | (refine below_call ?_ (by assumption) (by first | omega | (simp; done) | (simp; omega))) | (refine Below.trans ?_ (by assumption)))) _ _ ((O5.out).fact.ints) ((O6.out).fact.flats)) ?_
      rintro e w7 ⟨rfl, hb_w7⟩
      have hs_w7 := hb_w7.size
      clear u_K0_0 u_K0_1 v_K0 u_X0_0 u_X0_1 v_X0
      have hst : Below w6.heap.size w6 w7 := by repeat (first | exact Below.refl _ _ | assumption | refine below_allocS ?_ _ | refine below_callS ?_ (by assumption) | (refine Below.alloc ?_ (by first | omega | (simp; done) | (simp; omega)) _) | (refine Below.setCell ?_ (by first | omega | (simp; done) | (simp; omega)) _) | refine Below.drew ?_ | refine below_drewN ?_ _ | (refine below_call ?_ (by assumption) (by first | omega | (simp; done) | (simp; omega))) | (refine Below.trans ?_ (by assumption)))
      have hB_w7 : Below w.heap.size w w7 := below_callS hB_w6 hst
      replace K0 := Lib.hid (K0.out.keep hst)
      replace X0 := Lib.hid (X0.out.keep hst)
      replace O5 := Lib.hid (O5.out.keep hst)
      replace O6 := Lib.hid (O6.out.keep hst)
      clear hst hb_w7 hB_w6
      go_wp2
      have u_K0_0 : w7.cell? ⟨w.heap.size, 0, none⟩ = some (.int .i64 b0) := (K0.out).cell 0
      have u_K0_1 : w7.cell? ⟨w.heap.size, 1, none⟩ = some (.slice a0 n0 c0) := (K0.out).cell 1
      have v_K0 : w.heap.size < w7.heap.size := (K0.out).lt
      have u_X0_0 : w7.cell? ⟨w5.heap.size, 0, none⟩ = some (.int .i64 b0) := (X0.out).cell 0
      have u_X0_1 : w7.cell? ⟨w5.heap.size, 1, none⟩ = some (.slice (some ⟨g5, 0, none⟩) n0 n0) := (X0.out).cell 1
      have v_X0 : w5.heap.size < w7.heap.size := (X0.out).lt
      go_region_held3 (fun wx => wx.cell? ⟨w5.heap.size, 0, none⟩ = some (.int .i64 b0) ∧ wx.cell? ⟨w5.heap.size, 1, none⟩ = some (.slice (some ⟨g5, 0, none⟩) n0 n0) ∧ w5.heap.size < wx.heap.size ∧ wx.cell? ⟨w.heap.size, 0, none⟩ = some (.int .i64 b0) ∧ wx.cell? ⟨w.heap.size, 1, none⟩ = some (.slice a0 n0 c0) ∧ w.heap.size < wx.heap.size ∧ Below w7.heap.size w7 wx ∧ Below w.heap.size w wx) (((try go_split_ands); (repeat' apply And.intro) <;> first | assumption | exact Below.drew (Below.refl _ _) | exact Blk.keep (by assumption) hbx | exact Blk.drew (by assumption) | exact Blk.drew (Blk.made _ _ _) | exact Below.drew (by assumption) | exact Below.drew (below_allocS (by first | exact Below.refl _ _ | assumption) _) | exact below_callS (by assumption) hbx | exact below_call (by assumption) hbx (Below.size (by assumption)) | exact (hcx _ _ (by assumption)).trans (by assumption) | omega | (simp [*]; done) | (simp; omega))) (first | (go_at_call 17; go_split_ands; refine Calls.mono (laws_toTraffic (HI0.out.keep (by assumption)) hn0) ?_; rintro e w8 ⟨gw8, rfl, hbx, how8⟩; have HOw8 := Lib.hid how8; obtain ⟨hcx, hfx⟩ := bcell hbx; have hsx := hbx.size) | (go_at_call 19; go_split_ands; refine Calls.mono (laws_eqTraffic (O5.out.keep (by assumption)).fact.ints ((HOw8.out).ints.keep (by repeat (first | exact Below.refl _ _ | assumption | refine below_allocS ?_ _ | refine below_callS ?_ (by assumption) | (refine Below.alloc ?_ (by first | omega | (simp; done) | (simp; omega)) _) | (refine Below.setCell ?_ (by first | omega | (simp; done) | (simp; omega)) _) | refine Below.drew ?_ | refine below_drewN ?_ _ | (refine below_call ?_ (by assumption) (by first | omega | (simp; done) | (simp; omega))) | (refine Below.trans ?_ (by assumption))))) hn0 hn0) ?_; rintro e w9 ⟨rfl, hbx⟩; obtain ⟨hcx, hfx⟩ := bcell hbx; have hsx := hbx.size))
      go_split_ands
      have hb_w9 : Below w7.heap.size w7 w9 := by assumption
      have hs_w9 := hb_w9.size
      clear u_K0_0 u_K0_1 v_K0 u_X0_0 u_X0_1 v_X0
      have hst : Below w7.heap.size w7 w9 := by repeat (first | exact Below.refl _ _ | assumption | refine below_allocS ?_ _ | refine below_callS ?_ (by assumption) | (refine Below.alloc ?_ (by first | omega | (simp; done) | (simp; omega)) _) | (refine Below.setCell ?_ (by first | omega | (simp; done) | (simp; omega)) _) | refine Below.drew ?_ | refine below_drewN ?_ _ | (refine below_call ?_ (by assumption) (by first | omega | (simp; done) | (simp; omega))) | (refine Below.trans ?_ (by assumption)))
      have hB_w9 : Below w.heap.size w w9 := below_callS hB_w7 hst
      replace K0 := Lib.hid (K0.out.keep hst)
      replace X0 := Lib.hid (X0.out.keep hst)
      replace O5 := Lib.hid (O5.out.keep hst)
      replace O6 := Lib.hid (O6.out.keep hst)
      clear hst hb_w9 hB_w7
      have u_K0_0 : w9.cell? ⟨w.heap.size, 0, none⟩ = some (.int .i64 b0) := (K0.out).cell 0
      have u_K0_1 : w9.cell? ⟨w.heap.size, 1, none⟩ = some (.slice a0 n0 c0) := (K0.out).cell 1
      have v_K0 : w.heap.size < w9.heap.size := (K0.out).lt
      have u_X0_0 : w9.cell? ⟨w5.heap.size, 0, none⟩ = some (.int .i64 b0) := (X0.out).cell 0
      have u_X0_1 : w9.cell? ⟨w5.heap.size, 1, none⟩ = some (.slice (some ⟨g5, 0, none⟩) n0 n0) := (X0.out).cell 1
      have v_X0 : w5.heap.size < w9.heap.size := (X0.out).lt
      go_wp2_with fail
      refine Calls.mono (laws_toReplayEventS_g (HI1.out.keep (by repeat (first | exact Below.refl _ _ | assumption | refine below_allocS ?_ _ | refine below_callS ?_ (by assumption) | (refine Below.alloc ?_ (by first | omega | (simp; done) | (simp; omega)) _) | (refine Below.setCell ?_ (by first | omega | (simp; done) | (simp; omega)) _) | refine Below.drew ?_ | refine below_drewN ?_ _ | (refine below_call ?_ (by assumption) (by first | omega | (simp; done) | (simp; omega))) | (refine Below.trans ?_ (by assumption))))) hn1) ?_
      rintro e w10 ⟨g10, rfl, hb_w10, ho10⟩
      have hs_w10 := hb_w10.size
      clear u_K0_0 u_K0_1 v_K0 u_X0_0 u_X0_1 v_X0
      have ko10 := ho10.blk g10 rfl
      have O10 := Lib.hid (ho10.own)
      clear ho10
      have hst : Below w9.heap.size w9 w10 := by repeat (first | exact Below.refl _ _ | assumption | refine below_allocS ?_ _ | refine below_callS ?_ (by assumption) | (refine Below.alloc ?_ (by first | omega | (simp; done) | (simp; omega)) _) | (refine Below.setCell ?_ (by first | omega | (simp; done) | (simp; omega)) _) | refine Below.drew ?_ | refine below_drewN ?_ _ | (refine below_call ?_ (by assumption) (by first | omega | (simp; done) | (simp; omega))) | (refine Below.trans ?_ (by assumption)))
      have hB_w10 : Below w.heap.size w w10 := below_callS hB_w9 hst
      replace K0 := Lib.hid (K0.out.keep hst)
      replace X0 := Lib.hid (X0.out.keep hst)
      replace O5 := Lib.hid (O5.out.keep hst)
      replace O6 := Lib.hid (O6.out.keep hst)
      clear hst hb_w10 hB_w9
      have u_K0_0 : w10.cell? ⟨w.heap.size, 0, none⟩ = some (.int .i64 b0) := (K0.out).cell 0
      have u_K0_1 : w10.cell? ⟨w.heap.size, 1, none⟩ = some (.slice a0 n0 c0) := (K0.out).cell 1
      have v_K0 : w.heap.size < w10.heap.size := (K0.out).lt
      have u_X0_0 : w10.cell? ⟨w5.heap.size, 0, none⟩ = some (.int .i64 b0) := (X0.out).cell 0
      have u_X0_1 : w10.cell? ⟨w5.heap.size, 1, none⟩ = some (.slice (some ⟨g5, 0, none⟩) n0 n0) := (X0.out).cell 1
      have v_X0 : w5.heap.size < w10.heap.size := (X0.out).lt
      go_wp2_with fail
      refine Calls.mono (laws_eqReplayEventS ((O6.out).fact.flats) ((O10.out).fact.flats) hn1) ?_
      rintro e w11 ⟨rfl, hb_w11⟩
      have hs_w11 := hb_w11.size
      clear u_K0_0 u_K0_1 v_K0 u_X0_0 u_X0_1 v_X0
      have hst : Below w10.heap.size w10 w11 := by repeat (first | exact Below.refl _ _ | assumption | refine below_allocS ?_ _ | refine below_callS ?_ (by assumption) | (refine Below.alloc ?_ (by first | omega | (simp; done) | (simp; omega)) _) | (refine Below.setCell ?_ (by first | omega | (simp; done) | (simp; omega)) _) | refine Below.drew ?_ | refine below_drewN ?_ _ | (refine below_call ?_ (by assumption) (by first | omega | (simp; done) | (simp; omega))) | (refine Below.trans ?_ (by assumption)))
      have hB_w11 : Below w.heap.size w w11 := below_callS hB_w10 hst
      replace K0 := Lib.hid (K0.out.keep hst)
      replace X0 := Lib.hid (X0.out.keep hst)
      replace O5 := Lib.hid (O5.out.keep hst)
      replace O6 := Lib.hid (O6.out.keep hst)
      replace O10 := Lib.hid (O10.out.keep hst)
      clear hst hb_w11 hB_w10
      clear O10
      go_wp2
      go_ret
      exact ⟨rfl, by repeat (first | exact Below.refl _ _ | assumption | refine below_allocS ?_ _ | refine below_callS ?_ (by assumption) | (refine Below.alloc ?_ (by first | omega | (simp; done) | (simp; omega)) _) | (refine Below.setCell ?_ (by first | omega | (simp; done) | (simp; omega)) _) | refine Below.drew ?_ | refine below_drewN ?_ _ | (refine below_call ?_ (by assumption) (by first | omega | (simp; done) | (simp; omega))) | (refine Below.trans ?_ (by assumption)))⟩
    · go_enter Tryd.func5, Tryd.ntmps5
      go_wp2_with fail
      refine Calls.mono (laws_szTraffic hn90 (by omega) (by omega)) ?_
      rintro e wz0 ⟨rfl, hb_wz0⟩
      obtain ⟨hc_wz0, hf_wz0⟩ := bcell hb_wz0
      have hs_wz0 := hb_wz0.size
      go_wp2_with fail
      refine Calls.mono (laws_szReplayEventS hn91 (by omega) (by omega)) ?_
      rintro e _ ⟨rfl, rfl⟩
      go_wp2
      go_ret
      exact ⟨rfl, by repeat (first | exact Below.refl _ _ | assumption | refine below_allocS ?_ _ | refine below_callS ?_ (by assumption) | (refine Below.alloc ?_ (by first | omega | (simp; done) | (simp; omega)) _) | (refine Below.setCell ?_ (by first | omega | (simp; done) | (simp; omega)) _) | refine Below.drew ?_ | refine below_drewN ?_ _ | (refine below_call ?_ (by assumption) (by first | omega | (simp; done) | (simp; omega))) | (refine Below.trans ?_ (by assumption)))⟩
  · go_enter Tryd.func5, Tryd.ntmps5
    go_wp2_with fail
    refine Calls.mono (laws_szTraffic hn90 (by omega) (by omega)) ?_
    rintro e wz0 ⟨rfl, hb_wz0⟩
    obtain ⟨hc_wz0, hf_wz0⟩ := bcell hb_wz0
    have hs_wz0 := hb_wz0.size
    go_wp2
    go_ret
    exact ⟨rfl, by repeat (first | exact Below.refl _ _ | assumption | refine below_allocS ?_ _ | refine below_callS ?_ (by assumption) | (refine Below.alloc ?_ (by first | omega | (simp; done) | (simp; omega)) _) | (refine Below.setCell ?_ (by first | omega | (simp; done) | (simp; omega)) _) | refine Below.drew ?_ | refine below_drewN ?_ _ | (refine below_call ?_ (by assumption) (by first | omega | (simp; done) | (simp; omega))) | (refine Below.trans ?_ (by assumption)))⟩
end Go.Proofs.YtfhogleillgcgaaDoor
