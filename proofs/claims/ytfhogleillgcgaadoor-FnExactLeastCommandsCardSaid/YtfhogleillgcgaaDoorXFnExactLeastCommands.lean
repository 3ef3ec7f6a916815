/- The law FnExactLeastCommands, from the contracts of the two functions. -/
import Derived.Test.YtfhogleillgcgaaDoorOw
import Derived.Test.YtfhogleillgcgaaDoorL27y
import Derived.Test.YtfhogleillgcgaaDoorL10
namespace Go.Proofs.YtfhogleillgcgaaDoor
open Go.RowKit
set_option linter.unusedVariables false
set_option linter.unusedSimpArgs false
set_option maxHeartbeats 8000000 in
theorem law_LeastCommands {x0 : Int} {x1 : Int} {x2 : Int} {x3 : Bool} {w : World} (hT : Tab w 1 (cmdRows.flatMap CRow.enc)) (i0 : I64 x0) (i1 : I64 x1) (i2 : I64 x2) :
    Calls Tryd.prog 3 #[.int .i64 x0, .int .i64 x1, .int .i64 x2, .bool x3] w fun e w' => e = .returned (.bool true) ∧ Below w.heap.size w w' := by
  have hspec := fun (wx : World) (hB : Below w.heap.size w wx)   => spec_LeastCommands (f := x0) (t := x1) (r := x2) (key := x3) (w := wx)
  have himpl := fun (wx : World) (hB : Below w.heap.size w wx)   => impl_LeastCommands (f := x0) (t := x1) (r := x2) (key := x3) (w := wx) (hT.keep hB)
  have hlen := lcL_len (f := x0) (t := x1) (r := x2) (key := x3)
  clear hT
  generalize lcL x0 x1 x2 x3 = L at *
  generalize lcC x0 x1 x2 x3 = code at *
  have Hspec := Lib.hid hspec
  have Himpl := Lib.hid himpl
  clear hspec himpl
  have hcc : (code != code) = false := by simp
  go_enter Tryd.func3, Tryd.ntmps3
  go_wp2_with fail
  refine Calls.mono (Hspec.out _ (by repeat (first | exact Below.refl _ _ | assumption | refine below_allocS ?_ _ | refine below_callS ?_ (by assumption) | (refine Below.alloc ?_ (by first | omega | (simp; done) | (simp; omega)) _) | (refine Below.setCell ?_ (by first | omega | (simp; done) | (simp; omega)) _) | refine Below.drew ?_ | refine below_drewN ?_ _ | (refine below_call ?_ (by assumption) (by first | omega | (simp; done) | (simp; omega))) | (refine Below.trans ?_ (by assumption)))) ) ?_
  rintro e w1 ⟨n1_0, a1_0, c1_0, rfl, hb_w1, ho1_0⟩
  have hs_w1 := hb_w1.size
  have ln1_0 := ho1_0.len
  have O1_0b := ho1_0.blk
  have O1_0 := Lib.hid (ho1_0.own)
  clear ho1_0
  have hst : Below w.heap.size w w1 := by repeat (first | exact Below.refl _ _ | assumption | refine below_allocS ?_ _ | refine below_callS ?_ (by assumption) | (refine Below.alloc ?_ (by first | omega | (simp; done) | (simp; omega)) _) | (refine Below.setCell ?_ (by first | omega | (simp; done) | (simp; omega)) _) | refine Below.drew ?_ | refine below_drewN ?_ _ | (refine below_call ?_ (by assumption) (by first | omega | (simp; done) | (simp; omega))) | (refine Below.trans ?_ (by assumption)))
  have hB_w1 : Below w.heap.size w w1 := hst
  clear hst hb_w1
  have hln0 : n1_0 ≤ 1048576 := by have := hlen; omega
  go_wp2_with fail
  refine Calls.mono (Himpl.out _ (by repeat (first | exact Below.refl _ _ | assumption | refine below_allocS ?_ _ | refine below_callS ?_ (by assumption) | (refine Below.alloc ?_ (by first | omega | (simp; done) | (simp; omega)) _) | (refine Below.setCell ?_ (by first | omega | (simp; done) | (simp; omega)) _) | refine Below.drew ?_ | refine below_drewN ?_ _ | (refine below_call ?_ (by assumption) (by first | omega | (simp; done) | (simp; omega))) | (refine Below.trans ?_ (by assumption)))) ) ?_
  rintro e w2 ⟨n2_0, a2_0, c2_0, rfl, hb_w2, ho2_0⟩
  have hs_w2 := hb_w2.size
  have ln2_0 := ho2_0.len
  have O2_0b := ho2_0.blk
  have O2_0 := Lib.hid (ho2_0.own)
  clear ho2_0
  obtain rfl : n1_0 = n2_0 := by omega
  have hst : Below w1.heap.size w1 w2 := by repeat (first | exact Below.refl _ _ | assumption | refine below_allocS ?_ _ | refine below_callS ?_ (by assumption) | (refine Below.alloc ?_ (by first | omega | (simp; done) | (simp; omega)) _) | (refine Below.setCell ?_ (by first | omega | (simp; done) | (simp; omega)) _) | refine Below.drew ?_ | refine below_drewN ?_ _ | (refine below_call ?_ (by assumption) (by first | omega | (simp; done) | (simp; omega))) | (refine Below.trans ?_ (by assumption)))
  have hB_w2 : Below w.heap.size w w2 := below_callS hB_w1 hst
  replace O1_0 := Lib.hid (O1_0.out.keep hst)
  clear hst hb_w2 hB_w1
  go_wp2_with fail
  refine Calls.mono (laws_eqInt64S_t ((O2_0.out).fact.ints) ((O1_0.out).fact.ints) hln0 hln0) ?_
  rintro e w3 ⟨rfl, hb_w3⟩
  have hs_w3 := hb_w3.size
  have hst : Below w2.heap.size w2 w3 := by repeat (first | exact Below.refl _ _ | assumption | refine below_allocS ?_ _ | refine below_callS ?_ (by assumption) | (refine Below.alloc ?_ (by first | omega | (simp; done) | (simp; omega)) _) | (refine Below.setCell ?_ (by first | omega | (simp; done) | (simp; omega)) _) | refine Below.drew ?_ | refine below_drewN ?_ _ | (refine below_call ?_ (by assumption) (by first | omega | (simp; done) | (simp; omega))) | (refine Below.trans ?_ (by assumption)))
  have hB_w3 : Below w.heap.size w w3 := below_callS hB_w2 hst
  replace O1_0 := Lib.hid (O1_0.out.keep hst)
  replace O2_0 := Lib.hid (O2_0.out.keep hst)
  clear hst hb_w3 hB_w2
  have bd_O2_0 : ∀ g : Nat, (a2_0 : Option Addr) = some ⟨g, 0, none⟩ → w1.heap.size ≤ g ∧ g < w2.heap.size := by exact O2_0b
  go_wp2_with fail
  refine Calls.mono (laws_markInt64S O2_0.out.fact hln0 (by omega) (by omega)) ?_
  rintro e w4 ⟨rfl, ht, ho⟩
  have hs_w4 := ht.size
  have hon : Only (w1.heap.size) (w2.heap.size) w3 w4 := ht.only (fun g hg => bd_O2_0 g hg)
  have nx := O2_0.out.turn hs_w4 ho (OwnI.here (fun g hg => bd_O2_0 g hg))
  clear ho ht
  replace O2_0 := Lib.hid nx
  clear nx
  have hB_w4 : Below w.heap.size w w4 := hon.below hB_w3 (by omega) (by omega)
  replace O1_0 := Lib.hid (O1_0.out.apart hon (by omega))
  clear hon hB_w3
  have e3 : decide ((1 : Int) + (n1_0 : Int) < 0) = false := by simp; omega
  have e4 : ((1 : Int) + (n1_0 : Int) != (1 : Int) + (n1_0 : Int)) = false := by simp
  go_wp2_with fail
  refine Calls.mono (laws_heldInt64S ((O2_0.out).fact.ints) hln0 (by omega) (by omega)) ?_
  rintro e _ ⟨rfl, rfl⟩
  go_wp2_with fail
  refine Calls.mono (Himpl.out _ (by repeat (first | exact Below.refl _ _ | assumption | refine below_allocS ?_ _ | refine below_callS ?_ (by assumption) | (refine Below.alloc ?_ (by first | omega | (simp; done) | (simp; omega)) _) | (refine Below.setCell ?_ (by first | omega | (simp; done) | (simp; omega)) _) | refine Below.drew ?_ | refine below_drewN ?_ _ | (refine below_call ?_ (by assumption) (by first | omega | (simp; done) | (simp; omega))) | (refine Below.trans ?_ (by assumption)))) ) ?_
  rintro e w5 ⟨n5_0, a5_0, c5_0, rfl, hb_w5, ho5_0⟩
  have hs_w5 := hb_w5.size
  have ln5_0 := ho5_0.len
  have O5_0b := ho5_0.blk
  have O5_0 := Lib.hid (ho5_0.own)
  clear ho5_0
  obtain rfl : n1_0 = n5_0 := by omega
  have hst : Below w4.heap.size w4 w5 := by repeat (first | exact Below.refl _ _ | assumption | refine below_allocS ?_ _ | refine below_callS ?_ (by assumption) | (refine Below.alloc ?_ (by first | omega | (simp; done) | (simp; omega)) _) | (refine Below.setCell ?_ (by first | omega | (simp; done) | (simp; omega)) _) | refine Below.drew ?_ | refine below_drewN ?_ _ | (refine below_call ?_ (by assumption) (by first | omega | (simp; done) | (simp; omega))) | (refine Below.trans ?_ (by assumption)))
  have hB_w5 : Below w.heap.size w w5 := below_callS hB_w4 hst
  replace O1_0 := Lib.hid (O1_0.out.keep hst)
  replace O2_0 := Lib.hid (O2_0.out.keep hst)
  clear hst hb_w5 hB_w4
  go_wp2_with fail
  refine Calls.mono (laws_eqInt64S_t ((O5_0.out).fact.ints) ((O1_0.out).fact.ints) hln0 hln0) ?_
  rintro e w6 ⟨rfl, hb_w6⟩
  have hs_w6 := hb_w6.size
  have hst : Below w5.heap.size w5 w6 := by repeat (first | exact Below.refl _ _ | assumption | refine below_allocS ?_ _ | refine below_callS ?_ (by assumption) | (refine Below.alloc ?_ (by first | omega | (simp; done) | (simp; omega)) _) | (refine Below.setCell ?_ (by first | omega | (simp; done) | (simp; omega)) _) | refine Below.drew ?_ | refine below_drewN ?_ _ | (refine below_call ?_ (by assumption) (by first | omega | (simp; done) | (simp; omega))) | (refine Below.trans ?_ (by assumption)))
  have hB_w6 : Below w.heap.size w w6 := below_callS hB_w5 hst
  replace O1_0 := Lib.hid (O1_0.out.keep hst)
  replace O2_0 := Lib.hid (O2_0.out.keep hst)
  replace O5_0 := Lib.hid (O5_0.out.keep hst)
  clear hst hb_w6 hB_w5
  go_wp2_with fail
  refine Calls.mono (laws_heldInt64S ((O2_0.out).fact.ints) hln0 (by omega) (by omega)) ?_
  rintro e _ ⟨rfl, rfl⟩
  go_wp2
  go_ret
  exact ⟨rfl, by repeat (first | exact Below.refl _ _ | assumption | refine below_allocS ?_ _ | refine below_callS ?_ (by assumption) | (refine Below.alloc ?_ (by first | omega | (simp; done) | (simp; omega)) _) | (refine Below.setCell ?_ (by first | omega | (simp; done) | (simp; omega)) _) | refine Below.drew ?_ | refine below_drewN ?_ _ | (refine below_call ?_ (by assumption) (by first | omega | (simp; done) | (simp; omega))) | (refine Below.trans ?_ (by assumption)))⟩
end Go.Proofs.YtfhogleillgcgaaDoor
