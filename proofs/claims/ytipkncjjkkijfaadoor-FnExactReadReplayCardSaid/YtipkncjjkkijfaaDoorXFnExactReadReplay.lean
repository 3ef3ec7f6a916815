/- The law FnExactReadReplay, from the contracts of the two functions. -/
import Derived.Test.YtipkncjjkkijfaaDoorOw
import Derived.Test.YtipkncjjkkijfaaDoorPv
import Derived.Test.YtipkncjjkkijfaaDoorL10b
import Derived.Test.YtipkncjjkkijfaaDoorFl
namespace Go.Proofs.YtipkncjjkkijfaaDoor
open Go.RowKit
set_option linter.unusedVariables false
set_option linter.unusedSimpArgs false
set_option maxHeartbeats 8000000 in
theorem law_ReadReplay {b0 : Int} {a0 : Option Addr} {n0 c0 : Nat} {l0 : List Int} {x1 : ByteArray} {w : World} (hT : Tab w 0 (strsCells statusNm)) (hL : LV w) (hM : MLc w) (i0 : I64 b0) (hI0 : Ints w a0 n0 c0 l0) (hM0 : n0 ≤ maxLen) (hS1 : x1.size ≤ maxLen) :
    Calls Tryd.prog 3 #[.agg #[.int .i64 b0, .slice a0 n0 c0], .string x1] w fun e w' => e = .returned (.bool true) ∧ Below w.heap.size w w' := by
  have HI0 := Lib.hid hI0
  have hn90 : (n0 : Int) ≤ 9223372036854775807 := by unfold maxLen at hM0; omega
  clear hM0
  by_cases hz0 : x1.size ≤ 1048576
  · skip
    by_cases hz1 : n0 ≤ 1048576
    · skip
      have hs91 : ¬ 1048576 < (x1.size : Int) := by omega
      have hn0 : n0 ≤ 1048576 := by omega
      have hspec := fun (wx : World) (hB : Below w.heap.size w wx) (y0 : Option Addr) (hX0 : Ints wx y0 n0 n0 l0) => spec_ReadReplay_r (b := b0) hX0 hn0 hz0
      have himpl := fun (wx : World) (hB : Below w.heap.size w wx) (y0 : Option Addr) (hX0 : Ints wx y0 n0 n0 l0) => impl_ReadReplay_r (b := b0) (hT.keep hB) (hL.keep hB) (hM.keep hB) hX0 hn0 hz0
      have hlen := rrL_len (b := b0) (l := l0) (s := x1)
      clear hT hL hM
      generalize rrL b0 l0 x1 = L at *
      generalize rrB b0 l0 x1 = code at *
      have Hspec := Lib.hid hspec
      have Himpl := Lib.hid himpl
      clear hspec himpl
      have hcc : (code != code) = false := by simp
      go_enter Tryd.func3, Tryd.ntmps3
      have y_K0 : Blk (w.alloc (.cells #[.int .i64 b0, .slice a0 n0 c0] 24)) (w.heap.size) #[.int .i64 b0, .slice a0 n0 c0] 24 := by have hh := (Blk.made w #[.int .i64 b0, .slice a0 n0 c0] 24); simpa using hh
      have u_K0_0 : (w.alloc (.cells #[.int .i64 b0, .slice a0 n0 c0] 24)).cell? ⟨w.heap.size, 0, none⟩ = some (.int .i64 b0) := y_K0.cell 0
      have u_K0_1 : (w.alloc (.cells #[.int .i64 b0, .slice a0 n0 c0] 24)).cell? ⟨w.heap.size, 1, none⟩ = some (.slice a0 n0 c0) := y_K0.cell 1
      have v_K0 : w.heap.size < (w.alloc (.cells #[.int .i64 b0, .slice a0 n0 c0] 24)).heap.size := y_K0.lt
      go_wp2_with fail
      refine Calls.mono (laws_szTraffic hn90 (by omega) (by omega)) ?_
      rintro e w1 ⟨rfl, hb_w1⟩
      have hs_w1 := hb_w1.size
      simp at hs_w1
      clear y_K0 u_K0_0 u_K0_1 v_K0
      have hst : Below w.heap.size w w1 := bel
      have hB_w1 : Below w.heap.size w w1 := hst
      have K0 := Lib.hid (show Blk w1 (w.heap.size) #[.int .i64 b0, .slice a0 n0 c0] 24 by have hh := ((Blk.made w #[.int .i64 b0, .slice a0 n0 c0] 24)).keep hb_w1; simpa using hh)
      clear hst hb_w1
      have u_K0_0 : w1.cell? ⟨w.heap.size, 0, none⟩ = some (.int .i64 b0) := (K0.out).cell 0
      have u_K0_1 : w1.cell? ⟨w.heap.size, 1, none⟩ = some (.slice a0 n0 c0) := (K0.out).cell 1
      have v_K0 : w.heap.size < w1.heap.size := (K0.out).lt
      go_wp2_with fail
      refine Calls.mono (laws_toTraffic (HI0.out.keep bel) hn0) ?_
      rintro e w2 ⟨g2, rfl, hb_w2, ho2⟩
      have hs_w2 := hb_w2.size
      clear u_K0_0 u_K0_1 v_K0
      have ko2 := ho2.blk g2 rfl
      have O2 := Lib.hid (ho2.own)
      clear ho2
      have hst : Below w1.heap.size w1 w2 := bel
      have hB_w2 : Below w.heap.size w w2 := below_callS hB_w1 hst
      replace K0 := Lib.hid (K0.out.keep hst)
      clear hst hb_w2 hB_w1
      have u_K0_0 : w2.cell? ⟨w.heap.size, 0, none⟩ = some (.int .i64 b0) := (K0.out).cell 0
      have u_K0_1 : w2.cell? ⟨w.heap.size, 1, none⟩ = some (.slice a0 n0 c0) := (K0.out).cell 1
      have v_K0 : w.heap.size < w2.heap.size := (K0.out).lt
      go_wp2_with fail
      refine Calls.mono (Hspec.out _ bel _ ((O2.out).fact.ints)) ?_
      rintro e w3 ⟨n3_0, a3_0, c3_0, rfl, hb_w3, ho3_0⟩
      have hs_w3 := hb_w3.size
      clear u_K0_0 u_K0_1 v_K0
      have ln3_0 := ho3_0.len
      have O3_0b := ho3_0.blk
      have O3_0 := Lib.hid (ho3_0.own)
      clear ho3_0
      have hst : Below w2.heap.size w2 w3 := bel
      have hB_w3 : Below w.heap.size w w3 := below_callS hB_w2 hst
      replace K0 := Lib.hid (K0.out.keep hst)
      replace O2 := Lib.hid (O2.out.keep hst)
      clear hst hb_w3 hB_w2
      have hln0 : n3_0 ≤ 1048576 := by have := hlen; omega
      clear O2
      have u_K0_0 : w3.cell? ⟨w.heap.size, 0, none⟩ = some (.int .i64 b0) := (K0.out).cell 0
      have u_K0_1 : w3.cell? ⟨w.heap.size, 1, none⟩ = some (.slice a0 n0 c0) := (K0.out).cell 1
      have v_K0 : w.heap.size < w3.heap.size := (K0.out).lt
      go_wp2_with fail
      refine Calls.mono (laws_toTraffic (HI0.out.keep bel) hn0) ?_
      rintro e w4 ⟨g4, rfl, hb_w4, ho4⟩
      have hs_w4 := hb_w4.size
      clear u_K0_0 u_K0_1 v_K0
      have ko4 := ho4.blk g4 rfl
      have O4 := Lib.hid (ho4.own)
      clear ho4
      have hst : Below w3.heap.size w3 w4 := bel
      have hB_w4 : Below w.heap.size w w4 := below_callS hB_w3 hst
      replace K0 := Lib.hid (K0.out.keep hst)
      replace O3_0 := Lib.hid (O3_0.out.keep hst)
      clear hst hb_w4 hB_w3
      have u_K0_0 : (w4.alloc (.cells #[.int .i64 b0, .slice (some ⟨g4, 0, none⟩) n0 n0] 29)).cell? ⟨w.heap.size, 0, none⟩ = some (.int .i64 b0) := (K0.out.keep (show Below w4.heap.size w4 (w4.alloc (.cells #[.int .i64 b0, .slice (some ⟨g4, 0, none⟩) n0 n0] 29)) from bel)).cell 0
      have u_K0_1 : (w4.alloc (.cells #[.int .i64 b0, .slice (some ⟨g4, 0, none⟩) n0 n0] 29)).cell? ⟨w.heap.size, 1, none⟩ = some (.slice a0 n0 c0) := (K0.out.keep (show Below w4.heap.size w4 (w4.alloc (.cells #[.int .i64 b0, .slice (some ⟨g4, 0, none⟩) n0 n0] 29)) from bel)).cell 1
      have v_K0 : w.heap.size < (w4.alloc (.cells #[.int .i64 b0, .slice (some ⟨g4, 0, none⟩) n0 n0] 29)).heap.size := (K0.out.keep (show Below w4.heap.size w4 (w4.alloc (.cells #[.int .i64 b0, .slice (some ⟨g4, 0, none⟩) n0 n0] 29)) from bel)).lt
      have y_X0 : Blk (w4.alloc (.cells #[.int .i64 b0, .slice (some ⟨g4, 0, none⟩) n0 n0] 29)) (w4.heap.size) #[.int .i64 b0, .slice (some ⟨g4, 0, none⟩) n0 n0] 29 := by have hh := (Blk.made w4 #[.int .i64 b0, .slice (some ⟨g4, 0, none⟩) n0 n0] 29); simpa using hh
      have u_X0_0 : (w4.alloc (.cells #[.int .i64 b0, .slice (some ⟨g4, 0, none⟩) n0 n0] 29)).cell? ⟨w4.heap.size, 0, none⟩ = some (.int .i64 b0) := y_X0.cell 0
      have u_X0_1 : (w4.alloc (.cells #[.int .i64 b0, .slice (some ⟨g4, 0, none⟩) n0 n0] 29)).cell? ⟨w4.heap.size, 1, none⟩ = some (.slice (some ⟨g4, 0, none⟩) n0 n0) := y_X0.cell 1
      have v_X0 : w4.heap.size < (w4.alloc (.cells #[.int .i64 b0, .slice (some ⟨g4, 0, none⟩) n0 n0] 29)).heap.size := y_X0.lt
      go_wp2_with fail
      refine Calls.mono (Himpl.out _ bel _ ((O4.out.keep (show Below w4.heap.size w4 (w4.alloc (.cells #[.int .i64 b0, .slice (some ⟨g4, 0, none⟩) n0 n0] 29)) from bel)).fact.ints)) ?_
      rintro e w5 ⟨n5_0, a5_0, c5_0, rfl, hb_w5, ho5_0⟩
      have hs_w5 := hb_w5.size
      simp at hs_w5
      clear u_K0_0 u_K0_1 v_K0 y_X0 u_X0_0 u_X0_1 v_X0
      have ln5_0 := ho5_0.len
      have O5_0b := ho5_0.blk
      have O5_0 := Lib.hid (ho5_0.own)
      clear ho5_0
      simp at O5_0 O5_0b
      obtain rfl : n3_0 = n5_0 := by omega
      have hst : Below w4.heap.size w4 w5 := bel
      have hB_w5 : Below w.heap.size w w5 := below_callS hB_w4 hst
      replace K0 := Lib.hid (K0.out.keep hst)
      replace O3_0 := Lib.hid (O3_0.out.keep hst)
      replace O4 := Lib.hid (O4.out.keep hst)
      have X0 := Lib.hid (show Blk w5 (w4.heap.size) #[.int .i64 b0, .slice (some ⟨g4, 0, none⟩) n0 n0] 29 by have hh := ((Blk.made w4 #[.int .i64 b0, .slice (some ⟨g4, 0, none⟩) n0 n0] 29)).keep hb_w5; simpa using hh)
      clear hst hb_w5 hB_w4
      have u_K0_0 : w5.cell? ⟨w.heap.size, 0, none⟩ = some (.int .i64 b0) := (K0.out).cell 0
      have u_K0_1 : w5.cell? ⟨w.heap.size, 1, none⟩ = some (.slice a0 n0 c0) := (K0.out).cell 1
      have v_K0 : w.heap.size < w5.heap.size := (K0.out).lt
      have u_X0_0 : w5.cell? ⟨w4.heap.size, 0, none⟩ = some (.int .i64 b0) := (X0.out).cell 0
      have u_X0_1 : w5.cell? ⟨w4.heap.size, 1, none⟩ = some (.slice (some ⟨g4, 0, none⟩) n0 n0) := (X0.out).cell 1
      have v_X0 : w4.heap.size < w5.heap.size := (X0.out).lt
      go_wp2_with fail
      refine Calls.mono (laws_eqReplayEventS ((O5_0.out).fact.flats) ((O3_0.out).fact.flats) hln0) ?_
      rintro e w6 ⟨rfl, hb_w6⟩
      have hs_w6 := hb_w6.size
      clear u_K0_0 u_K0_1 v_K0 u_X0_0 u_X0_1 v_X0
      have hst : Below w5.heap.size w5 w6 := bel
      have hB_w6 : Below w.heap.size w w6 := below_callS hB_w5 hst
      replace K0 := Lib.hid (K0.out.keep hst)
      replace X0 := Lib.hid (X0.out.keep hst)
      replace O3_0 := Lib.hid (O3_0.out.keep hst)
      replace O4 := Lib.hid (O4.out.keep hst)
      replace O5_0 := Lib.hid (O5_0.out.keep hst)
      clear hst hb_w6 hB_w5
      go_wp2
      have u_K0_0 : w6.cell? ⟨w.heap.size, 0, none⟩ = some (.int .i64 b0) := (K0.out).cell 0
      have u_K0_1 : w6.cell? ⟨w.heap.size, 1, none⟩ = some (.slice a0 n0 c0) := (K0.out).cell 1
      have v_K0 : w.heap.size < w6.heap.size := (K0.out).lt
      have u_X0_0 : w6.cell? ⟨w4.heap.size, 0, none⟩ = some (.int .i64 b0) := (X0.out).cell 0
      have u_X0_1 : w6.cell? ⟨w4.heap.size, 1, none⟩ = some (.slice (some ⟨g4, 0, none⟩) n0 n0) := (X0.out).cell 1
      have v_X0 : w4.heap.size < w6.heap.size := (X0.out).lt
      go_region_held3 (fun wx => wx.cell? ⟨w4.heap.size, 0, none⟩ = some (.int .i64 b0) ∧ wx.cell? ⟨w4.heap.size, 1, none⟩ = some (.slice (some ⟨g4, 0, none⟩) n0 n0) ∧ w4.heap.size < wx.heap.size ∧ wx.cell? ⟨w.heap.size, 0, none⟩ = some (.int .i64 b0) ∧ wx.cell? ⟨w.heap.size, 1, none⟩ = some (.slice a0 n0 c0) ∧ w.heap.size < wx.heap.size ∧ Below w6.heap.size w6 wx ∧ Below w.heap.size w wx) (((try go_split_ands); (repeat' apply And.intro) <;> first | assumption | exact Below.drew (Below.refl _ _) | exact Blk.keep (by assumption) hbx | exact Blk.drew (by assumption) | exact Blk.drew (Blk.made _ _ _) | exact Below.drew (by assumption) | exact Below.drew (below_allocS (by first | exact Below.refl _ _ | assumption) _) | exact below_callS (by assumption) hbx | exact below_call (by assumption) hbx (Below.size (by assumption)) | exact (hcx _ _ (by assumption)).trans (by assumption) | omega | (simp [*]; done) | (simp; omega))) (first | (go_at_call 6; go_split_ands; refine Calls.mono (laws_toTraffic (HI0.out.keep (by assumption)) hn0) ?_; rintro e w7 ⟨gw7, rfl, hbx, how7⟩; have HOw7 := Lib.hid how7; obtain ⟨hcx, hfx⟩ := bcell hbx; have hsx := hbx.size) | (go_at_call 9; go_split_ands; refine Calls.mono (laws_eqTraffic (O4.out.keep (by assumption)).fact.ints ((HOw7.out).ints.keep bel) hn0 hn0) ?_; rintro e w8 ⟨rfl, hbx⟩; obtain ⟨hcx, hfx⟩ := bcell hbx; have hsx := hbx.size))
      go_split_ands
      have hb_w8 : Below w6.heap.size w6 w8 := by assumption
      have hs_w8 := hb_w8.size
      clear u_K0_0 u_K0_1 v_K0 u_X0_0 u_X0_1 v_X0
      have hst : Below w6.heap.size w6 w8 := bel
      have hB_w8 : Below w.heap.size w w8 := below_callS hB_w6 hst
      replace K0 := Lib.hid (K0.out.keep hst)
      replace X0 := Lib.hid (X0.out.keep hst)
      replace O3_0 := Lib.hid (O3_0.out.keep hst)
      replace O4 := Lib.hid (O4.out.keep hst)
      replace O5_0 := Lib.hid (O5_0.out.keep hst)
      clear hst hb_w8 hB_w6
      have bd_O4 : ∀ g : Nat, ((some ⟨g4, 0, none⟩) : Option Addr) = some ⟨g, 0, none⟩ → w3.heap.size ≤ g ∧ g < w4.heap.size := fun g hg => by cases hg; omega
      have u_K0_0 : w8.cell? ⟨w.heap.size, 0, none⟩ = some (.int .i64 b0) := (K0.out).cell 0
      have u_K0_1 : w8.cell? ⟨w.heap.size, 1, none⟩ = some (.slice a0 n0 c0) := (K0.out).cell 1
      have v_K0 : w.heap.size < w8.heap.size := (K0.out).lt
      have u_X0_0 : w8.cell? ⟨w4.heap.size, 0, none⟩ = some (.int .i64 b0) := (X0.out).cell 0
      have u_X0_1 : w8.cell? ⟨w4.heap.size, 1, none⟩ = some (.slice (some ⟨g4, 0, none⟩) n0 n0) := (X0.out).cell 1
      have v_X0 : w4.heap.size < w8.heap.size := (X0.out).lt
      go_wp2_with fail
      refine Calls.mono (laws_markTraffic O4.out.fact hn0 (by omega) (by omega)) ?_
      rintro e w9 ⟨rfl, ht, ho⟩
      clear u_K0_0 u_K0_1 v_K0 u_X0_0 u_X0_1 v_X0
      have hs_w9 := ht.size
      have hon : Only (w3.heap.size) (w4.heap.size) w8 w9 := ht.only (fun g hg => bd_O4 g hg)
      have nx := O4.out.turn hs_w9 ho (OwnI.here (fun g hg => bd_O4 g hg))
      clear ho ht
      replace O4 := Lib.hid nx
      clear nx
      have hB_w9 : Below w.heap.size w w9 := hon.below hB_w8 (by omega) (by omega)
      replace K0 := Lib.hid (K0.out.apart hon (by omega))
      replace X0 := Lib.hid (X0.out.apart hon (by omega))
      replace O3_0 := Lib.hid (O3_0.out.apart hon (by omega))
      replace O5_0 := Lib.hid (O5_0.out.apart hon (by omega))
      clear hon hB_w8
      have kq : decide ((1 : Int) + (n0 : Int) < 0) = false := by simp; omega
      have u_K0_0 : w9.cell? ⟨w.heap.size, 0, none⟩ = some (.int .i64 b0) := (K0.out).cell 0
      have u_K0_1 : w9.cell? ⟨w.heap.size, 1, none⟩ = some (.slice a0 n0 c0) := (K0.out).cell 1
      have v_K0 : w.heap.size < w9.heap.size := (K0.out).lt
      have u_X0_0 : w9.cell? ⟨w4.heap.size, 0, none⟩ = some (.int .i64 b0) := (X0.out).cell 0
      have u_X0_1 : w9.cell? ⟨w4.heap.size, 1, none⟩ = some (.slice (some ⟨g4, 0, none⟩) n0 n0) := (X0.out).cell 1
      have v_X0 : w4.heap.size < w9.heap.size := (X0.out).lt
      go_wp2_with fail
      refine Calls.mono (laws_eqReplayEventS ((O5_0.out).fact.flats) ((O3_0.out).fact.flats) hln0) ?_
      rintro e w10 ⟨rfl, hb_w10⟩
      have hs_w10 := hb_w10.size
      clear u_K0_0 u_K0_1 v_K0 u_X0_0 u_X0_1 v_X0
      have hst : Below w9.heap.size w9 w10 := bel
      have hB_w10 : Below w.heap.size w w10 := below_callS hB_w9 hst
      replace K0 := Lib.hid (K0.out.keep hst)
      replace X0 := Lib.hid (X0.out.keep hst)
      replace O3_0 := Lib.hid (O3_0.out.keep hst)
      replace O4 := Lib.hid (O4.out.keep hst)
      replace O5_0 := Lib.hid (O5_0.out.keep hst)
      clear hst hb_w10 hB_w9
      have bd_O5_0 : ∀ g : Nat, (a5_0 : Option Addr) = some ⟨g, 0, none⟩ → w4.heap.size + 1 ≤ g ∧ g < w5.heap.size := by exact O5_0b
      have u_K0_0 : w10.cell? ⟨w.heap.size, 0, none⟩ = some (.int .i64 b0) := (K0.out).cell 0
      have u_K0_1 : w10.cell? ⟨w.heap.size, 1, none⟩ = some (.slice a0 n0 c0) := (K0.out).cell 1
      have v_K0 : w.heap.size < w10.heap.size := (K0.out).lt
      have u_X0_0 : w10.cell? ⟨w4.heap.size, 0, none⟩ = some (.int .i64 b0) := (X0.out).cell 0
      have u_X0_1 : w10.cell? ⟨w4.heap.size, 1, none⟩ = some (.slice (some ⟨g4, 0, none⟩) n0 n0) := (X0.out).cell 1
      have v_X0 : w4.heap.size < w10.heap.size := (X0.out).lt
      go_wp2_with fail
      refine Calls.mono (laws_markReplayEventS O5_0.out.fact hln0 (by omega) (by omega)) ?_
      rintro e w11 ⟨rfl, ht, ho⟩
      clear u_K0_0 u_K0_1 v_K0 u_X0_0 u_X0_1 v_X0
      have hs_w11 := ht.size
      have hon : Only (w4.heap.size + 1) (w5.heap.size) w10 w11 := ht.only (fun g hg => bd_O5_0 g hg)
      have nx := O5_0.out.turn hs_w11 ho (OwnF.here (fun g hg => bd_O5_0 g hg))
      clear ho ht
      replace O5_0 := Lib.hid nx
      clear nx
      have hB_w11 : Below w.heap.size w w11 := hon.below hB_w10 (by omega) (by omega)
      replace K0 := Lib.hid (K0.out.apart hon (by omega))
      replace X0 := Lib.hid (X0.out.apart hon (by omega))
      replace O3_0 := Lib.hid (O3_0.out.apart hon (by omega))
      replace O4 := Lib.hid (O4.out.apart hon (by omega))
      clear hon hB_w10
      have e3 : decide ((1 : Int) + 3 * (n3_0 : Int) < 0) = false := by simp; omega
      have e4 : ((1 : Int) + 3 * (n3_0 : Int) != (1 : Int) + 3 * (n3_0 : Int)) = false := by simp
      have u_K0_0 : w11.cell? ⟨w.heap.size, 0, none⟩ = some (.int .i64 b0) := (K0.out).cell 0
      have u_K0_1 : w11.cell? ⟨w.heap.size, 1, none⟩ = some (.slice a0 n0 c0) := (K0.out).cell 1
      have v_K0 : w.heap.size < w11.heap.size := (K0.out).lt
      have u_X0_0 : w11.cell? ⟨w4.heap.size, 0, none⟩ = some (.int .i64 b0) := (X0.out).cell 0
      have u_X0_1 : w11.cell? ⟨w4.heap.size, 1, none⟩ = some (.slice (some ⟨g4, 0, none⟩) n0 n0) := (X0.out).cell 1
      have v_X0 : w4.heap.size < w11.heap.size := (X0.out).lt
      go_wp2_with fail
      refine Calls.mono (laws_heldReplayEventS ((O5_0.out).fact.flats) hln0 (by omega) (by omega)) ?_
      rintro e _ ⟨rfl, rfl⟩
      clear u_K0_0 u_K0_1 v_K0 u_X0_0 u_X0_1 v_X0
      have u_K0_0 : w11.cell? ⟨w.heap.size, 0, none⟩ = some (.int .i64 b0) := (K0.out).cell 0
      have u_K0_1 : w11.cell? ⟨w.heap.size, 1, none⟩ = some (.slice a0 n0 c0) := (K0.out).cell 1
      have v_K0 : w.heap.size < w11.heap.size := (K0.out).lt
      have u_X0_0 : w11.cell? ⟨w4.heap.size, 0, none⟩ = some (.int .i64 b0) := (X0.out).cell 0
      have u_X0_1 : w11.cell? ⟨w4.heap.size, 1, none⟩ = some (.slice (some ⟨g4, 0, none⟩) n0 n0) := (X0.out).cell 1
      have v_X0 : w4.heap.size < w11.heap.size := (X0.out).lt
      go_wp2_with fail
      refine Calls.mono (laws_toTraffic (HI0.out.keep bel) hn0) ?_
      rintro e w12 ⟨g12, rfl, hb_w12, ho12⟩
      have hs_w12 := hb_w12.size
      clear u_K0_0 u_K0_1 v_K0 u_X0_0 u_X0_1 v_X0
      have ko12 := ho12.blk g12 rfl
      have O12 := Lib.hid (ho12.own)
      clear ho12
      have hst : Below w11.heap.size w11 w12 := bel
      have hB_w12 : Below w.heap.size w w12 := below_callS hB_w11 hst
      replace K0 := Lib.hid (K0.out.keep hst)
      replace X0 := Lib.hid (X0.out.keep hst)
      replace O3_0 := Lib.hid (O3_0.out.keep hst)
      replace O4 := Lib.hid (O4.out.keep hst)
      replace O5_0 := Lib.hid (O5_0.out.keep hst)
      clear hst hb_w12 hB_w11
      have u_K0_0 : w12.cell? ⟨w.heap.size, 0, none⟩ = some (.int .i64 b0) := (K0.out).cell 0
      have u_K0_1 : w12.cell? ⟨w.heap.size, 1, none⟩ = some (.slice a0 n0 c0) := (K0.out).cell 1
      have v_K0 : w.heap.size < w12.heap.size := (K0.out).lt
      have u_X0_0 : w12.cell? ⟨w4.heap.size, 0, none⟩ = some (.int .i64 b0) := (X0.out).cell 0
      have u_X0_1 : w12.cell? ⟨w4.heap.size, 1, none⟩ = some (.slice (some ⟨g4, 0, none⟩) n0 n0) := (X0.out).cell 1
      have v_X0 : w4.heap.size < w12.heap.size := (X0.out).lt
      go_wp2_with fail
      refine Calls.mono (Himpl.out _ bel _ ((O12.out).fact.ints)) ?_
      rintro e w13 ⟨n13_0, a13_0, c13_0, rfl, hb_w13, ho13_0⟩
      have hs_w13 := hb_w13.size
      clear u_K0_0 u_K0_1 v_K0 u_X0_0 u_X0_1 v_X0
      have ln13_0 := ho13_0.len
      have O13_0b := ho13_0.blk
      have O13_0 := Lib.hid (ho13_0.own)
      clear ho13_0
      obtain rfl : n3_0 = n13_0 := by omega
      have hst : Below w12.heap.size w12 w13 := bel
      have hB_w13 : Below w.heap.size w w13 := below_callS hB_w12 hst
      replace K0 := Lib.hid (K0.out.keep hst)
      replace X0 := Lib.hid (X0.out.keep hst)
      replace O3_0 := Lib.hid (O3_0.out.keep hst)
      replace O4 := Lib.hid (O4.out.keep hst)
      replace O5_0 := Lib.hid (O5_0.out.keep hst)
      replace O12 := Lib.hid (O12.out.keep hst)
      clear hst hb_w13 hB_w12
      have u_K0_0 : w13.cell? ⟨w.heap.size, 0, none⟩ = some (.int .i64 b0) := (K0.out).cell 0
      have u_K0_1 : w13.cell? ⟨w.heap.size, 1, none⟩ = some (.slice a0 n0 c0) := (K0.out).cell 1
      have v_K0 : w.heap.size < w13.heap.size := (K0.out).lt
      have u_X0_0 : w13.cell? ⟨w4.heap.size, 0, none⟩ = some (.int .i64 b0) := (X0.out).cell 0
      have u_X0_1 : w13.cell? ⟨w4.heap.size, 1, none⟩ = some (.slice (some ⟨g4, 0, none⟩) n0 n0) := (X0.out).cell 1
      have v_X0 : w4.heap.size < w13.heap.size := (X0.out).lt
      go_wp2_with fail
      refine Calls.mono (laws_eqReplayEventS ((O13_0.out).fact.flats) ((O3_0.out).fact.flats) hln0) ?_
      rintro e w14 ⟨rfl, hb_w14⟩
      have hs_w14 := hb_w14.size
      clear u_K0_0 u_K0_1 v_K0 u_X0_0 u_X0_1 v_X0
      have hst : Below w13.heap.size w13 w14 := bel
      have hB_w14 : Below w.heap.size w w14 := below_callS hB_w13 hst
      replace K0 := Lib.hid (K0.out.keep hst)
      replace X0 := Lib.hid (X0.out.keep hst)
      replace O3_0 := Lib.hid (O3_0.out.keep hst)
      replace O4 := Lib.hid (O4.out.keep hst)
      replace O5_0 := Lib.hid (O5_0.out.keep hst)
      replace O12 := Lib.hid (O12.out.keep hst)
      replace O13_0 := Lib.hid (O13_0.out.keep hst)
      clear hst hb_w14 hB_w13
      have u_K0_0 : w14.cell? ⟨w.heap.size, 0, none⟩ = some (.int .i64 b0) := (K0.out).cell 0
      have u_K0_1 : w14.cell? ⟨w.heap.size, 1, none⟩ = some (.slice a0 n0 c0) := (K0.out).cell 1
      have v_K0 : w.heap.size < w14.heap.size := (K0.out).lt
      have u_X0_0 : w14.cell? ⟨w4.heap.size, 0, none⟩ = some (.int .i64 b0) := (X0.out).cell 0
      have u_X0_1 : w14.cell? ⟨w4.heap.size, 1, none⟩ = some (.slice (some ⟨g4, 0, none⟩) n0 n0) := (X0.out).cell 1
      have v_X0 : w4.heap.size < w14.heap.size := (X0.out).lt
      go_wp2_with fail
      refine Calls.mono (laws_heldReplayEventS ((O5_0.out).fact.flats) hln0 (by omega) (by omega)) ?_
      rintro e _ ⟨rfl, rfl⟩
      clear u_K0_0 u_K0_1 v_K0 u_X0_0 u_X0_1 v_X0
      go_wp2
      go_ret
      exact ⟨rfl, bel⟩
    · have hs91 : ¬ 1048576 < (x1.size : Int) := by omega
      go_enter Tryd.func3, Tryd.ntmps3
      go_wp2_with fail
      refine Calls.mono (laws_szTraffic hn90 (by omega) (by omega)) ?_
      rintro e wz1 ⟨rfl, hb_wz1⟩
      obtain ⟨hc_wz1, hf_wz1⟩ := bcell hb_wz1
      have hs_wz1 := hb_wz1.size
      go_wp2
      go_ret
      exact ⟨rfl, bel⟩
  · have hs91 : 1048576 < (x1.size : Int) := by omega
    go_enter Tryd.func3, Tryd.ntmps3
    go_wp2
    go_ret
    exact ⟨rfl, bel⟩
end Go.Proofs.YtipkncjjkkijfaaDoor
