/- The law FnExactIsRideSafe, from the contracts of the two functions. -/
import Derived.Test.YtfnamjkmkoldeaaGreatDoorQc
import Derived.Test.YtfnamjkmkoldeaaGreatDoorCe
import Derived.Test.YtfnamjkmkoldeaaGreatDoorCf
import Derived.Test.YtfnamjkmkoldeaaGreatDoorQr
import Derived.Test.YtfnamjkmkoldeaaGreatDoorFl
namespace Go.Proofs.YtfnamjkmkoldeaaGreatDoor
open Go.RowKit
set_option linter.unusedVariables false
set_option linter.unusedSimpArgs false
set_option maxHeartbeats 8000000 in
theorem law_IsRideSafe {b0 : Int} {a0 : Option Addr} {n0 c0 : Nat} {l0 : List Int} {x1 : Int} {x2 : Bool} {w : World} (hT : Tab w 0 (strsCells ruleNm)) (i0 : I64 b0) (hI0 : Ints w a0 n0 c0 l0) (hM0 : n0 ≤ maxLen) (i1 : I64 x1) :
    Calls Tryz.prog 4 #[.agg #[.int .i64 b0, .slice a0 n0 c0], .int .i64 x1, .bool x2] w fun e w' => e = .returned (.bool true) ∧ Below w.heap.size w w' := by
  have HI0 := Lib.hid hI0
  have hn90 : (n0 : Int) ≤ 9223372036854775807 := by unfold maxLen at hM0; omega
  clear hM0
  by_cases hz0 : n0 ≤ 1048576
  · skip
    have hn0 : n0 ≤ 1048576 := by omega
    have hspec := fun (wx : World) (hB : Below w.heap.size w wx) (y0 : Option Addr) (hX0 : Ints wx y0 n0 n0 l0) => spec_IsRideSafe (b := b0) (bud := x1) (sec := x2) hX0 hn0
    have himpl := fun (wx : World) (hB : Below w.heap.size w wx) (y0 : Option Addr) (hX0 : Ints wx y0 n0 n0 l0) => impl_IsRideSafe (b := b0) (bud := x1) (sec := x2) (hT.keep hB) hX0 hn0
    clear hT
    generalize (rsC b0 l0 x1 x2 == 0 && cuN b0 l0 x1 x2 == 0) = v1 at *
    generalize rsC b0 l0 x1 x2 = v2 at *
    have Hspec := Lib.hid hspec
    have Himpl := Lib.hid himpl
    clear hspec himpl
    have hv1 : (v1 != v1) = false := by simp
    have hv2 : (v2 != v2) = false := by simp
    go_enter Tryz.func4, Tryz.ntmps4
    have y_K0 : Blk (w.alloc (.cells #[.int .i64 b0, .slice a0 n0 c0] 24)) w.heap.size #[.int .i64 b0, .slice a0 n0 c0] 24 := by have hh := (Blk.made w #[.int .i64 b0, .slice a0 n0 c0] 24); simpa using hh
    have u_K0_0 : (w.alloc (.cells #[.int .i64 b0, .slice a0 n0 c0] 24)).cell? ⟨w.heap.size, 0, none⟩ = some (.int .i64 b0) := y_K0.cell 0
    have u_K0_1 : (w.alloc (.cells #[.int .i64 b0, .slice a0 n0 c0] 24)).cell? ⟨w.heap.size, 1, none⟩ = some (.slice a0 n0 c0) := y_K0.cell 1
    have v_K0 : w.heap.size < (w.alloc (.cells #[.int .i64 b0, .slice a0 n0 c0] 24)).heap.size := y_K0.lt
    go_wp2_with fail
    refine Calls.mono (laws_szTraffic hn90 (by omega) (by omega)) ?_
    rintro e w1 ⟨rfl, hb_w1⟩
    have hs_w1 := hb_w1.size
    simp at hs_w1
    clear y_K0 u_K0_0 u_K0_1 v_K0
    have hst : Below w.heap.size w w1 := by repeat (first | exact Below.refl _ _ | assumption | refine below_allocS ?_ _ | refine below_callS ?_ (by assumption) | (refine Below.alloc ?_ (by first | omega | (simp; done) | (simp; omega)) _) | (refine Below.setCell ?_ (by first | omega | (simp; done) | (simp; omega)) _) | refine Below.drew ?_ | refine below_drewN ?_ _ | (refine below_call ?_ (by assumption) (by first | omega | (simp; done) | (simp; omega))) | (refine Below.trans ?_ (by assumption)))
    have hB_w1 : Below w.heap.size w w1 := hst
    have K0 := Lib.hid (show Blk w1 (w.heap.size) #[.int .i64 b0, .slice a0 n0 c0] 24 by have hh := ((Blk.made w #[.int .i64 b0, .slice a0 n0 c0] 24)).keep hb_w1; simpa using hh)
    clear hst hb_w1
    have u_K0_0 : w1.cell? ⟨w.heap.size, 0, none⟩ = some (.int .i64 b0) := (K0.out).cell 0
    have u_K0_1 : w1.cell? ⟨w.heap.size, 1, none⟩ = some (.slice a0 n0 c0) := (K0.out).cell 1
    have v_K0 : w.heap.size < w1.heap.size := (K0.out).lt
    go_wp2_with fail
    refine Calls.mono (laws_toTraffic (HI0.out.keep (by repeat (first | exact Below.refl _ _ | assumption | refine below_allocS ?_ _ | refine below_callS ?_ (by assumption) | (refine Below.alloc ?_ (by first | omega | (simp; done) | (simp; omega)) _) | (refine Below.setCell ?_ (by first | omega | (simp; done) | (simp; omega)) _) | refine Below.drew ?_ | refine below_drewN ?_ _ | (refine below_call ?_ (by assumption) (by first | omega | (simp; done) | (simp; omega))) | (refine Below.trans ?_ (by assumption))))) hn0) ?_
    rintro e w2 ⟨g2, rfl, hb_w2, ho2⟩
    have hs_w2 := hb_w2.size
    clear u_K0_0 u_K0_1 v_K0
    have ko2 := ho2.blk g2 rfl
    have O2 := Lib.hid (ho2.own)
    clear ho2
    have hst : Below w1.heap.size w1 w2 := by repeat (first | exact Below.refl _ _ | assumption | refine below_allocS ?_ _ | refine below_callS ?_ (by assumption) | (refine Below.alloc ?_ (by first | omega | (simp; done) | (simp; omega)) _) | (refine Below.setCell ?_ (by first | omega | (simp; done) | (simp; omega)) _) | refine Below.drew ?_ | refine below_drewN ?_ _ | (refine below_call ?_ (by assumption) (by first | omega | (simp; done) | (simp; omega))) | (refine Below.trans ?_ (by assumption)))
    have hB_w2 : Below w.heap.size w w2 := below_callS hB_w1 hst
    replace K0 := Lib.hid (K0.out.keep hst)
    clear hst hb_w2 hB_w1
    have u_K0_0 : w2.cell? ⟨w.heap.size, 0, none⟩ = some (.int .i64 b0) := (K0.out).cell 0
    have u_K0_1 : w2.cell? ⟨w.heap.size, 1, none⟩ = some (.slice a0 n0 c0) := (K0.out).cell 1
    have v_K0 : w.heap.size < w2.heap.size := (K0.out).lt
    go_wp2_with fail
    refine Calls.mono (Hspec.out _ (by repeat (first | exact Below.refl _ _ | assumption | refine below_allocS ?_ _ | refine below_callS ?_ (by assumption) | (refine Below.alloc ?_ (by first | omega | (simp; done) | (simp; omega)) _) | (refine Below.setCell ?_ (by first | omega | (simp; done) | (simp; omega)) _) | refine Below.drew ?_ | refine below_drewN ?_ _ | (refine below_call ?_ (by assumption) (by first | omega | (simp; done) | (simp; omega))) | (refine Below.trans ?_ (by assumption)))) _ ((O2.out).fact.ints)) ?_
    rintro e w3 ⟨rfl, hb_w3⟩
    have hs_w3 := hb_w3.size
    clear u_K0_0 u_K0_1 v_K0
    have hst : Below w2.heap.size w2 w3 := by repeat (first | exact Below.refl _ _ | assumption | refine below_allocS ?_ _ | refine below_callS ?_ (by assumption) | (refine Below.alloc ?_ (by first | omega | (simp; done) | (simp; omega)) _) | (refine Below.setCell ?_ (by first | omega | (simp; done) | (simp; omega)) _) | refine Below.drew ?_ | refine below_drewN ?_ _ | (refine below_call ?_ (by assumption) (by first | omega | (simp; done) | (simp; omega))) | (refine Below.trans ?_ (by assumption)))
    have hB_w3 : Below w.heap.size w w3 := below_callS hB_w2 hst
    replace K0 := Lib.hid (K0.out.keep hst)
    replace O2 := Lib.hid (O2.out.keep hst)
    clear hst hb_w3 hB_w2
    clear O2
    have u_K0_0 : w3.cell? ⟨w.heap.size, 0, none⟩ = some (.int .i64 b0) := (K0.out).cell 0
    have u_K0_1 : w3.cell? ⟨w.heap.size, 1, none⟩ = some (.slice a0 n0 c0) := (K0.out).cell 1
    have v_K0 : w.heap.size < w3.heap.size := (K0.out).lt
    go_wp2_with fail
    refine Calls.mono (laws_toTraffic (HI0.out.keep (by repeat (first | exact Below.refl _ _ | assumption | refine below_allocS ?_ _ | refine below_callS ?_ (by assumption) | (refine Below.alloc ?_ (by first | omega | (simp; done) | (simp; omega)) _) | (refine Below.setCell ?_ (by first | omega | (simp; done) | (simp; omega)) _) | refine Below.drew ?_ | refine below_drewN ?_ _ | (refine below_call ?_ (by assumption) (by first | omega | (simp; done) | (simp; omega))) | (refine Below.trans ?_ (by assumption))))) hn0) ?_
    rintro e w4 ⟨g4, rfl, hb_w4, ho4⟩
    have hs_w4 := hb_w4.size
    clear u_K0_0 u_K0_1 v_K0
    have ko4 := ho4.blk g4 rfl
    have O4 := Lib.hid (ho4.own)
    clear ho4
    have hst : Below w3.heap.size w3 w4 := by repeat (first | exact Below.refl _ _ | assumption | refine below_allocS ?_ _ | refine below_callS ?_ (by assumption) | (refine Below.alloc ?_ (by first | omega | (simp; done) | (simp; omega)) _) | (refine Below.setCell ?_ (by first | omega | (simp; done) | (simp; omega)) _) | refine Below.drew ?_ | refine below_drewN ?_ _ | (refine below_call ?_ (by assumption) (by first | omega | (simp; done) | (simp; omega))) | (refine Below.trans ?_ (by assumption)))
    have hB_w4 : Below w.heap.size w w4 := below_callS hB_w3 hst
    replace K0 := Lib.hid (K0.out.keep hst)
    clear hst hb_w4 hB_w3
    have u_K0_0 : (w4.alloc (.cells #[.int .i64 b0, .slice (some ⟨g4, 0, none⟩) n0 n0] 28)).cell? ⟨w.heap.size, 0, none⟩ = some (.int .i64 b0) := (K0.out.keep (show Below w4.heap.size w4 (w4.alloc (.cells #[.int .i64 b0, .slice (some ⟨g4, 0, none⟩) n0 n0] 28)) by repeat (first | exact Below.refl _ _ | assumption | refine below_allocS ?_ _ | refine below_callS ?_ (by assumption) | (refine Below.alloc ?_ (by first | omega | (simp; done) | (simp; omega)) _) | (refine Below.setCell ?_ (by first | omega | (simp; done) | (simp; omega)) _) | refine Below.drew ?_ | refine below_drewN ?_ _ | (refine below_call ?_ (by assumption) (by first | omega | (simp; done) | (simp; omega))) | (refine Below.trans ?_ (by assumption))))).cell 0
    have u_K0_1 : (w4.alloc (.cells #[.int .i64 b0, .slice (some ⟨g4, 0, none⟩) n0 n0] 28)).cell? ⟨w.heap.size, 1, none⟩ = some (.slice a0 n0 c0) := (K0.out.keep (show Below w4.heap.size w4 (w4.alloc (.cells #[.int .i64 b0, .slice (some ⟨g4, 0, none⟩) n0 n0] 28)) by repeat (first | exact Below.refl _ _ | assumption | refine below_allocS ?_ _ | refine below_callS ?_ (by assumption) | (refine Below.alloc ?_ (by first | omega | (simp; done) | (simp; omega)) _) | (refine Below.setCell ?_ (by first | omega | (simp; done) | (simp; omega)) _) | refine Below.drew ?_ | refine below_drewN ?_ _ | (refine below_call ?_ (by assumption) (by first | omega | (simp; done) | (simp; omega))) | (refine Below.trans ?_ (by assumption))))).cell 1
    have v_K0 : w.heap.size < (w4.alloc (.cells #[.int .i64 b0, .slice (some ⟨g4, 0, none⟩) n0 n0] 28)).heap.size := (K0.out.keep (show Below w4.heap.size w4 (w4.alloc (.cells #[.int .i64 b0, .slice (some ⟨g4, 0, none⟩) n0 n0] 28)) by repeat (first | exact Below.refl _ _ | assumption | refine below_allocS ?_ _ | refine below_callS ?_ (by assumption) | (refine Below.alloc ?_ (by first | omega | (simp; done) | (simp; omega)) _) | (refine Below.setCell ?_ (by first | omega | (simp; done) | (simp; omega)) _) | refine Below.drew ?_ | refine below_drewN ?_ _ | (refine below_call ?_ (by assumption) (by first | omega | (simp; done) | (simp; omega))) | (refine Below.trans ?_ (by assumption))))).lt
    have y_X0 : Blk (w4.alloc (.cells #[.int .i64 b0, .slice (some ⟨g4, 0, none⟩) n0 n0] 28)) w4.heap.size #[.int .i64 b0, .slice (some ⟨g4, 0, none⟩) n0 n0] 28 := by have hh := (Blk.made w4 #[.int .i64 b0, .slice (some ⟨g4, 0, none⟩) n0 n0] 28); simpa using hh
    have u_X0_0 : (w4.alloc (.cells #[.int .i64 b0, .slice (some ⟨g4, 0, none⟩) n0 n0] 28)).cell? ⟨w4.heap.size, 0, none⟩ = some (.int .i64 b0) := y_X0.cell 0
    have u_X0_1 : (w4.alloc (.cells #[.int .i64 b0, .slice (some ⟨g4, 0, none⟩) n0 n0] 28)).cell? ⟨w4.heap.size, 1, none⟩ = some (.slice (some ⟨g4, 0, none⟩) n0 n0) := y_X0.cell 1
    have v_X0 : w4.heap.size < (w4.alloc (.cells #[.int .i64 b0, .slice (some ⟨g4, 0, none⟩) n0 n0] 28)).heap.size := y_X0.lt
    go_wp2_with fail
    refine Calls.mono (Himpl.out _ (by repeat (first | exact Below.refl _ _ | assumption | refine below_allocS ?_ _ | refine below_callS ?_ (by assumption) | (refine Below.alloc ?_ (by first | omega | (simp; done) | (simp; omega)) _) | (refine Below.setCell ?_ (by first | omega | (simp; done) | (simp; omega)) _) | refine Below.drew ?_ | refine below_drewN ?_ _ | (refine below_call ?_ (by assumption) (by first | omega | (simp; done) | (simp; omega))) | (refine Below.trans ?_ (by assumption)))) _ ((O4.out.keep (show Below w4.heap.size w4 (w4.alloc (.cells #[.int .i64 b0, .slice (some ⟨g4, 0, none⟩) n0 n0] 28)) by repeat (first | exact Below.refl _ _ | assumption | refine below_allocS ?_ _ | refine below_callS ?_ (by assumption) | (refine Below.alloc ?_ (by first | omega | (simp; done) | (simp; omega)) _) | (refine Below.setCell ?_ (by first | omega | (simp; done) | (simp; omega)) _) | refine Below.drew ?_ | refine below_drewN ?_ _ | (refine below_call ?_ (by assumption) (by first | omega | (simp; done) | (simp; omega))) | (refine Below.trans ?_ (by assumption))))).fact.ints)) ?_
    rintro e w5 ⟨rfl, hb_w5⟩
    have hs_w5 := hb_w5.size
    simp at hs_w5
    clear u_K0_0 u_K0_1 v_K0 y_X0 u_X0_0 u_X0_1 v_X0
    have hst : Below w4.heap.size w4 w5 := by repeat (first | exact Below.refl _ _ | assumption | refine below_allocS ?_ _ | refine below_callS ?_ (by assumption) | (refine Below.alloc ?_ (by first | omega | (simp; done) | (simp; omega)) _) | (refine Below.setCell ?_ (by first | omega | (simp; done) | (simp; omega)) _) | refine Below.drew ?_ | refine below_drewN ?_ _ | (refine below_call ?_ (by assumption) (by first | omega | (simp; done) | (simp; omega))) | (refine Below.trans ?_ (by assumption)))
    have hB_w5 : Below w.heap.size w w5 := below_callS hB_w4 hst
    replace K0 := Lib.hid (K0.out.keep hst)
    replace O4 := Lib.hid (O4.out.keep hst)
    have X0 := Lib.hid (show Blk w5 (w4.heap.size) #[.int .i64 b0, .slice (some ⟨g4, 0, none⟩) n0 n0] 28 by have hh := ((Blk.made w4 #[.int .i64 b0, .slice (some ⟨g4, 0, none⟩) n0 n0] 28)).keep hb_w5; simpa using hh)
    clear hst hb_w5 hB_w4
    go_wp2
    have u_K0_0 : w5.cell? ⟨w.heap.size, 0, none⟩ = some (.int .i64 b0) := (K0.out).cell 0
    have u_K0_1 : w5.cell? ⟨w.heap.size, 1, none⟩ = some (.slice a0 n0 c0) := (K0.out).cell 1
    have v_K0 : w.heap.size < w5.heap.size := (K0.out).lt
    have u_X0_0 : w5.cell? ⟨w4.heap.size, 0, none⟩ = some (.int .i64 b0) := (X0.out).cell 0
    have u_X0_1 : w5.cell? ⟨w4.heap.size, 1, none⟩ = some (.slice (some ⟨g4, 0, none⟩) n0 n0) := (X0.out).cell 1
    have v_X0 : w4.heap.size < w5.heap.size := (X0.out).lt
    go_region_held3 (fun wx => wx.cell? ⟨w4.heap.size, 0, none⟩ = some (.int .i64 b0) ∧ wx.cell? ⟨w4.heap.size, 1, none⟩ = some (.slice (some ⟨g4, 0, none⟩) n0 n0) ∧ w4.heap.size < wx.heap.size ∧ wx.cell? ⟨w.heap.size, 0, none⟩ = some (.int .i64 b0) ∧ wx.cell? ⟨w.heap.size, 1, none⟩ = some (.slice a0 n0 c0) ∧ w.heap.size < wx.heap.size ∧ Below w5.heap.size w5 wx ∧ Below w.heap.size w wx) (((try go_split_ands); (repeat' apply And.intro) <;> first | assumption | exact Below.drew (Below.refl _ _) | exact Blk.keep (by assumption) hbx | exact Blk.drew (by assumption) | exact Blk.drew (Blk.made _ _ _) | exact Below.drew (by assumption) | exact Below.drew (below_allocS (by first | exact Below.refl _ _ | assumption) _) | exact below_callS (by assumption) hbx | exact below_call (by assumption) hbx (Below.size (by assumption)) | exact (hcx _ _ (by assumption)).trans (by assumption) | omega | (simp [*]; done) | (simp; omega))) (first | (go_at_call 11; go_split_ands; refine Calls.mono (laws_toTraffic (HI0.out.keep (by assumption)) hn0) ?_; rintro e w6 ⟨gw6, rfl, hbx, how6⟩; have HOw6 := Lib.hid how6; obtain ⟨hcx, hfx⟩ := bcell hbx; have hsx := hbx.size) | (go_at_call 13; go_split_ands; refine Calls.mono (laws_eqTraffic (O4.out.keep (by assumption)).fact.ints ((HOw6.out).ints.keep (by repeat (first | exact Below.refl _ _ | assumption | refine below_allocS ?_ _ | refine below_callS ?_ (by assumption) | (refine Below.alloc ?_ (by first | omega | (simp; done) | (simp; omega)) _) | (refine Below.setCell ?_ (by first | omega | (simp; done) | (simp; omega)) _) | refine Below.drew ?_ | refine below_drewN ?_ _ | (refine below_call ?_ (by assumption) (by first | omega | (simp; done) | (simp; omega))) | (refine Below.trans ?_ (by assumption))))) hn0 hn0) ?_; rintro e w7 ⟨rfl, hbx⟩; obtain ⟨hcx, hfx⟩ := bcell hbx; have hsx := hbx.size))
    go_split_ands
    have hb_w7 : Below w5.heap.size w5 w7 := by assumption
    have hs_w7 := hb_w7.size
    clear u_K0_0 u_K0_1 v_K0 u_X0_0 u_X0_1 v_X0
    have hst : Below w5.heap.size w5 w7 := by repeat (first | exact Below.refl _ _ | assumption | refine below_allocS ?_ _ | refine below_callS ?_ (by assumption) | (refine Below.alloc ?_ (by first | omega | (simp; done) | (simp; omega)) _) | (refine Below.setCell ?_ (by first | omega | (simp; done) | (simp; omega)) _) | refine Below.drew ?_ | refine below_drewN ?_ _ | (refine below_call ?_ (by assumption) (by first | omega | (simp; done) | (simp; omega))) | (refine Below.trans ?_ (by assumption)))
    have hB_w7 : Below w.heap.size w w7 := below_callS hB_w5 hst
    replace K0 := Lib.hid (K0.out.keep hst)
    replace X0 := Lib.hid (X0.out.keep hst)
    replace O4 := Lib.hid (O4.out.keep hst)
    clear hst hb_w7 hB_w5
    go_wp2
    go_ret
    exact ⟨rfl, by repeat (first | exact Below.refl _ _ | assumption | refine below_allocS ?_ _ | refine below_callS ?_ (by assumption) | (refine Below.alloc ?_ (by first | omega | (simp; done) | (simp; omega)) _) | (refine Below.setCell ?_ (by first | omega | (simp; done) | (simp; omega)) _) | refine Below.drew ?_ | refine below_drewN ?_ _ | (refine below_call ?_ (by assumption) (by first | omega | (simp; done) | (simp; omega))) | (refine Below.trans ?_ (by assumption)))⟩
  · go_enter Tryz.func4, Tryz.ntmps4
    go_wp2_with fail
    refine Calls.mono (laws_szTraffic hn90 (by omega) (by omega)) ?_
    rintro e wz0 ⟨rfl, hb_wz0⟩
    obtain ⟨hc_wz0, hf_wz0⟩ := bcell hb_wz0
    have hs_wz0 := hb_wz0.size
    go_wp2
    go_ret
    exact ⟨rfl, by repeat (first | exact Below.refl _ _ | assumption | refine below_allocS ?_ _ | refine below_callS ?_ (by assumption) | (refine Below.alloc ?_ (by first | omega | (simp; done) | (simp; omega)) _) | (refine Below.setCell ?_ (by first | omega | (simp; done) | (simp; omega)) _) | refine Below.drew ?_ | refine below_drewN ?_ _ | (refine below_call ?_ (by assumption) (by first | omega | (simp; done) | (simp; omega))) | (refine Below.trans ?_ (by assumption)))⟩
end Go.Proofs.YtfnamjkmkoldeaaGreatDoor
