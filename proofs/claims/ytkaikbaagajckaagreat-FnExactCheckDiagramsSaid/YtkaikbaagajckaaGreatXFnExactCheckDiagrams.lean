/- The law FnExactCheckDiagrams, from the contracts of the two functions. -/
import Derived.Test.YtkaikbaagajckaaGreatR06
import Derived.Test.YtkaikbaagajckaaGreatR31
import Derived.Test.YtkaikbaagajckaaGreatR02
namespace Go.Proofs.YtkaikbaagajckaaGreat
open Go.RowKit
set_option linter.unusedVariables false
set_option linter.unusedSimpArgs false
set_option maxHeartbeats 8000000 in
theorem law_CheckDiagrams {a0_1 a0_2 a0_3 : Option Addr} {n0_1 c0_1 n0_2 c0_2 n0_3 c0_3 : Nat} {l0_1 l0_2 : List Int} {l0_3 : List (RM × RuD)} {a1 : Option Addr} {n1 c1 : Nat} {l1 : List I2b} {w : World} (hI0_1 : Ints w a0_1 n0_1 c0_1 l0_1) (hM0_1 : n0_1 ≤ maxLen) (hI0_2 : Ints w a0_2 n0_2 c0_2 l0_2) (hM0_2 : n0_2 ≤ maxLen) (hI0_3 : FX w w a0_3 n0_3 c0_3 l0_3) (hM0_3 : n0_3 ≤ maxLen) (hI1 : F2b w a1 n1 c1 l1) (hM1 : n1 ≤ maxLen) :
    Calls Tryz.prog 6 #[.agg #[.slice a0_1 n0_1 c0_1, .slice a0_2 n0_2 c0_2, .slice a0_3 n0_3 c0_3], .slice a1 n1 c1] w fun e w' => e = .returned (.bool true) ∧ Below w.heap.size w w' := by
  have HS0 := Lib.hid hI0_1
  have hn90_1 : (n0_1 : Int) ≤ 9223372036854775807 := by unfold maxLen at hM0_1; omega
  have HT0 := Lib.hid hI0_2
  have hn90_2 : (n0_2 : Int) ≤ 9223372036854775807 := by unfold maxLen at hM0_2; omega
  have HR0 := Lib.hid hI0_3
  have hn90_3 : (n0_3 : Int) ≤ 9223372036854775807 := by unfold maxLen at hM0_3; omega
  obtain ⟨n0_5, hN0⟩ : ∃ N : Nat, n0_1 + n0_2 + (n0_3 + need l0_3) = N := ⟨_, rfl⟩
  clear hI0_1 hI0_2 hI0_3 hM0_1 hM0_2 hM0_3
  have HI1 := Lib.hid hI1
  have hn91 : (n1 : Int) ≤ 9223372036854775807 := by unfold maxLen at hM1; omega
  clear hM1
  by_cases hz0 : n0_5 ≤ 1048576
  · skip
    by_cases hz1 : (n1 : Int) ≤ 1048576 - (n0_5 : Int)
    · skip
      obtain ⟨rs0, hrs0⟩ : ∃ rs : List RuD, l0_3.map (·.2) = rs := ⟨_, rfl⟩
      obtain ⟨n0_4, hC0⟩ : ∃ N : Nat, cntRu rs0 = N := ⟨_, rfl⟩
      have hn0 : n0_4 ≤ 3145728 := by have h9 := cnt_of HR0.out hrs0 hN0; omega
      have HI0 := Lib.hid (mrd_of HS0.out HT0.out HR0.out hrs0 hN0 (by omega))
      have hn0_1 := HI0.out.sn
      have hn0_2 := HI0.out.tn
      have hn0_3 := HI0.out.rn
      have hn1 : n1 ≤ 1048576 := by omega
      have hspec := fun (wx : World)  (y0_1 y0_2 y0_3 : Option Addr) (y1 : Option Addr) (hX0 : MRd wx y0_1 n0_1 n0_1 y0_2 n0_2 n0_2 y0_3 n0_3 n0_3 l0_1 l0_2 rs0) (hX1 : F2b wx y1 n1 n1 l1) => spec_CheckDiagrams_r hX0 hX1 hn1
      have himpl := fun (wx : World)  (y0_1 y0_2 y0_3 : Option Addr) (y1 : Option Addr) (hX0 : MRd wx y0_1 n0_1 n0_1 y0_2 n0_2 n0_2 y0_3 n0_3 n0_3 l0_1 l0_2 rs0) (hX1 : F2b wx y1 n1 n1 l1) => impl_CheckDiagrams_r hX0 hX1 hn1
      generalize (ckC l0_1 l0_2 (rsM rs0) l1).1 = v1 at *
      generalize (ckC l0_1 l0_2 (rsM rs0) l1).2 = v2 at *
      have Hspec := Lib.hid hspec
      have Himpl := Lib.hid himpl
      clear hspec himpl
      have hv1 : (v1 != v1) = false := by simp
      have hv2 : (v2 != v2) = false := by simp
      go_enter Tryz.func6, Tryz.ntmps6
      have y_K0 : Blk (w.alloc (.cells #[.slice a0_1 n0_1 c0_1, .slice a0_2 n0_2 c0_2, .slice a0_3 n0_3 c0_3] 25)) (w.heap.size) #[.slice a0_1 n0_1 c0_1, .slice a0_2 n0_2 c0_2, .slice a0_3 n0_3 c0_3] 25 := by have hh := (Blk.made w #[.slice a0_1 n0_1 c0_1, .slice a0_2 n0_2 c0_2, .slice a0_3 n0_3 c0_3] 25); simpa using hh
      have u_K0_0 : (w.alloc (.cells #[.slice a0_1 n0_1 c0_1, .slice a0_2 n0_2 c0_2, .slice a0_3 n0_3 c0_3] 25)).cell? ⟨w.heap.size, 0, none⟩ = some (.slice a0_1 n0_1 c0_1) := y_K0.cell 0
      have u_K0_1 : (w.alloc (.cells #[.slice a0_1 n0_1 c0_1, .slice a0_2 n0_2 c0_2, .slice a0_3 n0_3 c0_3] 25)).cell? ⟨w.heap.size, 1, none⟩ = some (.slice a0_2 n0_2 c0_2) := y_K0.cell 1
      have u_K0_2 : (w.alloc (.cells #[.slice a0_1 n0_1 c0_1, .slice a0_2 n0_2 c0_2, .slice a0_3 n0_3 c0_3] 25)).cell? ⟨w.heap.size, 2, none⟩ = some (.slice a0_3 n0_3 c0_3) := y_K0.cell 2
      have v_K0 : w.heap.size < (w.alloc (.cells #[.slice a0_1 n0_1 c0_1, .slice a0_2 n0_2 c0_2, .slice a0_3 n0_3 c0_3] 25)).heap.size := y_K0.lt
      go_wp2_with fail
      refine Calls.mono (laws_szModelN (HR0.out.keepX bel) hn90_1 hn90_2 hn90_3 (by omega) (by omega) hN0) ?_
      rintro e w1 ⟨rfl, hb_w1⟩
      have hs_w1 := hb_w1.size
      simp at hs_w1
      clear y_K0 u_K0_0 u_K0_1 u_K0_2 v_K0
      have hst : Below w.heap.size w w1 := bel
      have hB_w1 : Below w.heap.size w w1 := hst
      have K0 := Lib.hid (show Blk w1 (w.heap.size) #[.slice a0_1 n0_1 c0_1, .slice a0_2 n0_2 c0_2, .slice a0_3 n0_3 c0_3] 25 by have hh := ((Blk.made w #[.slice a0_1 n0_1 c0_1, .slice a0_2 n0_2 c0_2, .slice a0_3 n0_3 c0_3] 25)).keep hb_w1; simpa using hh)
      clear hst hb_w1
      go_wp2_with fail
      refine Calls.mono (laws_szTestS hn91 (by omega) (by omega)) ?_
      rintro e _ ⟨rfl, rfl⟩
      have u_K0_0 : w1.cell? ⟨w.heap.size, 0, none⟩ = some (.slice a0_1 n0_1 c0_1) := (K0.out).cell 0
      have u_K0_1 : w1.cell? ⟨w.heap.size, 1, none⟩ = some (.slice a0_2 n0_2 c0_2) := (K0.out).cell 1
      have u_K0_2 : w1.cell? ⟨w.heap.size, 2, none⟩ = some (.slice a0_3 n0_3 c0_3) := (K0.out).cell 2
      have v_K0 : w.heap.size < w1.heap.size := (K0.out).lt
      go_wp2_with fail
      refine Calls.mono (laws_toModel (HI0.out.keep bel)) ?_
      rintro e w2 ⟨g2_1, g2_2, g2_3, rfl, hb_w2, ho2⟩
      have hs_w2 := hb_w2.size
      clear u_K0_0 u_K0_1 u_K0_2 v_K0
      have O2 := Lib.hid (ho2.own (Nat.le_refl _))
      clear ho2
      have hst : Below w1.heap.size w1 w2 := bel
      have hB_w2 : Below w.heap.size w w2 := below_callS hB_w1 hst
      replace K0 := Lib.hid (K0.out.keep hst)
      clear hst hb_w2 hB_w1
      have u_K0_0 : w2.cell? ⟨w.heap.size, 0, none⟩ = some (.slice a0_1 n0_1 c0_1) := (K0.out).cell 0
      have u_K0_1 : w2.cell? ⟨w.heap.size, 1, none⟩ = some (.slice a0_2 n0_2 c0_2) := (K0.out).cell 1
      have u_K0_2 : w2.cell? ⟨w.heap.size, 2, none⟩ = some (.slice a0_3 n0_3 c0_3) := (K0.out).cell 2
      have v_K0 : w.heap.size < w2.heap.size := (K0.out).lt
      go_wp2_with fail
      refine Calls.mono (laws_toTestS_g (HI1.out.keep bel) hn1) ?_
      rintro e w3 ⟨g3, rfl, hb_w3, ho3⟩
      have hs_w3 := hb_w3.size
      clear u_K0_0 u_K0_1 u_K0_2 v_K0
      have ko3 := ho3.blk g3 rfl
      have O3 := Lib.hid (ho3.own)
      clear ho3
      have hst : Below w2.heap.size w2 w3 := bel
      have hB_w3 : Below w.heap.size w w3 := below_callS hB_w2 hst
      replace K0 := Lib.hid (K0.out.keep hst)
      replace O2 := Lib.hid (O2.out.keep hst)
      clear hst hb_w3 hB_w2
      have u_K0_0 : w3.cell? ⟨w.heap.size, 0, none⟩ = some (.slice a0_1 n0_1 c0_1) := (K0.out).cell 0
      have u_K0_1 : w3.cell? ⟨w.heap.size, 1, none⟩ = some (.slice a0_2 n0_2 c0_2) := (K0.out).cell 1
      have u_K0_2 : w3.cell? ⟨w.heap.size, 2, none⟩ = some (.slice a0_3 n0_3 c0_3) := (K0.out).cell 2
      have v_K0 : w.heap.size < w3.heap.size := (K0.out).lt
      go_wp2_with fail
      refine Calls.mono (Hspec.out _ _ _ _ _ ((O2.out).fact.rd) ((O3.out).fact.flats)) ?_
      rintro e w4 ⟨rfl, hb_w4⟩
      have hs_w4 := hb_w4.size
      clear u_K0_0 u_K0_1 u_K0_2 v_K0
      have hst : Below w3.heap.size w3 w4 := bel
      have hB_w4 : Below w.heap.size w w4 := below_callS hB_w3 hst
      replace K0 := Lib.hid (K0.out.keep hst)
      replace O2 := Lib.hid (O2.out.keep hst)
      replace O3 := Lib.hid (O3.out.keep hst)
      clear hst hb_w4 hB_w3
      clear O2
      clear O3
      have u_K0_0 : w4.cell? ⟨w.heap.size, 0, none⟩ = some (.slice a0_1 n0_1 c0_1) := (K0.out).cell 0
      have u_K0_1 : w4.cell? ⟨w.heap.size, 1, none⟩ = some (.slice a0_2 n0_2 c0_2) := (K0.out).cell 1
      have u_K0_2 : w4.cell? ⟨w.heap.size, 2, none⟩ = some (.slice a0_3 n0_3 c0_3) := (K0.out).cell 2
      have v_K0 : w.heap.size < w4.heap.size := (K0.out).lt
      go_wp2_with fail
      refine Calls.mono (laws_toModel (HI0.out.keep bel)) ?_
      rintro e w5 ⟨g5_1, g5_2, g5_3, rfl, hb_w5, ho5⟩
      have hs_w5 := hb_w5.size
      clear u_K0_0 u_K0_1 u_K0_2 v_K0
      have O5 := Lib.hid (ho5.own (Nat.le_refl _))
      clear ho5
      have hst : Below w4.heap.size w4 w5 := bel
      have hB_w5 : Below w.heap.size w w5 := below_callS hB_w4 hst
      replace K0 := Lib.hid (K0.out.keep hst)
      clear hst hb_w5 hB_w4
      have u_K0_0 : (w5.alloc (.cells #[.slice (some ⟨g5_1, 0, none⟩) n0_1 n0_1, .slice (some ⟨g5_2, 0, none⟩) n0_2 n0_2, .slice (some ⟨g5_3, 0, none⟩) n0_3 n0_3] 36)).cell? ⟨w.heap.size, 0, none⟩ = some (.slice a0_1 n0_1 c0_1) := (K0.out.keep (show Below w5.heap.size w5 (w5.alloc (.cells #[.slice (some ⟨g5_1, 0, none⟩) n0_1 n0_1, .slice (some ⟨g5_2, 0, none⟩) n0_2 n0_2, .slice (some ⟨g5_3, 0, none⟩) n0_3 n0_3] 36)) from bel)).cell 0
      have u_K0_1 : (w5.alloc (.cells #[.slice (some ⟨g5_1, 0, none⟩) n0_1 n0_1, .slice (some ⟨g5_2, 0, none⟩) n0_2 n0_2, .slice (some ⟨g5_3, 0, none⟩) n0_3 n0_3] 36)).cell? ⟨w.heap.size, 1, none⟩ = some (.slice a0_2 n0_2 c0_2) := (K0.out.keep (show Below w5.heap.size w5 (w5.alloc (.cells #[.slice (some ⟨g5_1, 0, none⟩) n0_1 n0_1, .slice (some ⟨g5_2, 0, none⟩) n0_2 n0_2, .slice (some ⟨g5_3, 0, none⟩) n0_3 n0_3] 36)) from bel)).cell 1
      have u_K0_2 : (w5.alloc (.cells #[.slice (some ⟨g5_1, 0, none⟩) n0_1 n0_1, .slice (some ⟨g5_2, 0, none⟩) n0_2 n0_2, .slice (some ⟨g5_3, 0, none⟩) n0_3 n0_3] 36)).cell? ⟨w.heap.size, 2, none⟩ = some (.slice a0_3 n0_3 c0_3) := (K0.out.keep (show Below w5.heap.size w5 (w5.alloc (.cells #[.slice (some ⟨g5_1, 0, none⟩) n0_1 n0_1, .slice (some ⟨g5_2, 0, none⟩) n0_2 n0_2, .slice (some ⟨g5_3, 0, none⟩) n0_3 n0_3] 36)) from bel)).cell 2
      have v_K0 : w.heap.size < (w5.alloc (.cells #[.slice (some ⟨g5_1, 0, none⟩) n0_1 n0_1, .slice (some ⟨g5_2, 0, none⟩) n0_2 n0_2, .slice (some ⟨g5_3, 0, none⟩) n0_3 n0_3] 36)).heap.size := (K0.out.keep (show Below w5.heap.size w5 (w5.alloc (.cells #[.slice (some ⟨g5_1, 0, none⟩) n0_1 n0_1, .slice (some ⟨g5_2, 0, none⟩) n0_2 n0_2, .slice (some ⟨g5_3, 0, none⟩) n0_3 n0_3] 36)) from bel)).lt
      have y_X0 : Blk (w5.alloc (.cells #[.slice (some ⟨g5_1, 0, none⟩) n0_1 n0_1, .slice (some ⟨g5_2, 0, none⟩) n0_2 n0_2, .slice (some ⟨g5_3, 0, none⟩) n0_3 n0_3] 36)) (w5.heap.size) #[.slice (some ⟨g5_1, 0, none⟩) n0_1 n0_1, .slice (some ⟨g5_2, 0, none⟩) n0_2 n0_2, .slice (some ⟨g5_3, 0, none⟩) n0_3 n0_3] 36 := by have hh := (Blk.made w5 #[.slice (some ⟨g5_1, 0, none⟩) n0_1 n0_1, .slice (some ⟨g5_2, 0, none⟩) n0_2 n0_2, .slice (some ⟨g5_3, 0, none⟩) n0_3 n0_3] 36); simpa using hh
      have u_X0_0 : (w5.alloc (.cells #[.slice (some ⟨g5_1, 0, none⟩) n0_1 n0_1, .slice (some ⟨g5_2, 0, none⟩) n0_2 n0_2, .slice (some ⟨g5_3, 0, none⟩) n0_3 n0_3] 36)).cell? ⟨w5.heap.size, 0, none⟩ = some (.slice (some ⟨g5_1, 0, none⟩) n0_1 n0_1) := y_X0.cell 0
      have u_X0_1 : (w5.alloc (.cells #[.slice (some ⟨g5_1, 0, none⟩) n0_1 n0_1, .slice (some ⟨g5_2, 0, none⟩) n0_2 n0_2, .slice (some ⟨g5_3, 0, none⟩) n0_3 n0_3] 36)).cell? ⟨w5.heap.size, 1, none⟩ = some (.slice (some ⟨g5_2, 0, none⟩) n0_2 n0_2) := y_X0.cell 1
      have u_X0_2 : (w5.alloc (.cells #[.slice (some ⟨g5_1, 0, none⟩) n0_1 n0_1, .slice (some ⟨g5_2, 0, none⟩) n0_2 n0_2, .slice (some ⟨g5_3, 0, none⟩) n0_3 n0_3] 36)).cell? ⟨w5.heap.size, 2, none⟩ = some (.slice (some ⟨g5_3, 0, none⟩) n0_3 n0_3) := y_X0.cell 2
      have v_X0 : w5.heap.size < (w5.alloc (.cells #[.slice (some ⟨g5_1, 0, none⟩) n0_1 n0_1, .slice (some ⟨g5_2, 0, none⟩) n0_2 n0_2, .slice (some ⟨g5_3, 0, none⟩) n0_3 n0_3] 36)).heap.size := y_X0.lt
      go_wp2_with fail
      refine Calls.mono (laws_toTestS_g (HI1.out.keep bel) hn1) ?_
      rintro e w6 ⟨g6, rfl, hb_w6, ho6⟩
      have hs_w6 := hb_w6.size
      simp at hs_w6
      clear u_K0_0 u_K0_1 u_K0_2 v_K0 y_X0 u_X0_0 u_X0_1 u_X0_2 v_X0
      have ko6 := ho6.blk g6 rfl
      have O6 := Lib.hid (ho6.own)
      clear ho6
      simp at O6 ko6
      have hst : Below w5.heap.size w5 w6 := bel
      have hB_w6 : Below w.heap.size w w6 := below_callS hB_w5 hst
      replace K0 := Lib.hid (K0.out.keep hst)
      replace O5 := Lib.hid (O5.out.keep hst)
      have X0 := Lib.hid (show Blk w6 (w5.heap.size) #[.slice (some ⟨g5_1, 0, none⟩) n0_1 n0_1, .slice (some ⟨g5_2, 0, none⟩) n0_2 n0_2, .slice (some ⟨g5_3, 0, none⟩) n0_3 n0_3] 36 by have hh := ((Blk.made w5 #[.slice (some ⟨g5_1, 0, none⟩) n0_1 n0_1, .slice (some ⟨g5_2, 0, none⟩) n0_2 n0_2, .slice (some ⟨g5_3, 0, none⟩) n0_3 n0_3] 36)).keep hb_w6; simpa using hh)
      clear hst hb_w6 hB_w5
      have u_K0_0 : w6.cell? ⟨w.heap.size, 0, none⟩ = some (.slice a0_1 n0_1 c0_1) := (K0.out).cell 0
      have u_K0_1 : w6.cell? ⟨w.heap.size, 1, none⟩ = some (.slice a0_2 n0_2 c0_2) := (K0.out).cell 1
      have u_K0_2 : w6.cell? ⟨w.heap.size, 2, none⟩ = some (.slice a0_3 n0_3 c0_3) := (K0.out).cell 2
      have v_K0 : w.heap.size < w6.heap.size := (K0.out).lt
      have u_X0_0 : w6.cell? ⟨w5.heap.size, 0, none⟩ = some (.slice (some ⟨g5_1, 0, none⟩) n0_1 n0_1) := (X0.out).cell 0
      have u_X0_1 : w6.cell? ⟨w5.heap.size, 1, none⟩ = some (.slice (some ⟨g5_2, 0, none⟩) n0_2 n0_2) := (X0.out).cell 1
      have u_X0_2 : w6.cell? ⟨w5.heap.size, 2, none⟩ = some (.slice (some ⟨g5_3, 0, none⟩) n0_3 n0_3) := (X0.out).cell 2
      have v_X0 : w5.heap.size < w6.heap.size := (X0.out).lt
      go_wp2_with fail
      refine Calls.mono (Himpl.out _ _ _ _ _ ((O5.out).fact.rd) ((O6.out).fact.flats)) ?_
      rintro e w7 ⟨rfl, hb_w7⟩
      have hs_w7 := hb_w7.size
      clear u_K0_0 u_K0_1 u_K0_2 v_K0 u_X0_0 u_X0_1 u_X0_2 v_X0
      have hst : Below w6.heap.size w6 w7 := bel
      have hB_w7 : Below w.heap.size w w7 := below_callS hB_w6 hst
      replace K0 := Lib.hid (K0.out.keep hst)
      replace X0 := Lib.hid (X0.out.keep hst)
      replace O5 := Lib.hid (O5.out.keep hst)
      replace O6 := Lib.hid (O6.out.keep hst)
      clear hst hb_w7 hB_w6
      go_wp2
      have u_K0_0 : w7.cell? ⟨w.heap.size, 0, none⟩ = some (.slice a0_1 n0_1 c0_1) := (K0.out).cell 0
      have u_K0_1 : w7.cell? ⟨w.heap.size, 1, none⟩ = some (.slice a0_2 n0_2 c0_2) := (K0.out).cell 1
      have u_K0_2 : w7.cell? ⟨w.heap.size, 2, none⟩ = some (.slice a0_3 n0_3 c0_3) := (K0.out).cell 2
      have v_K0 : w.heap.size < w7.heap.size := (K0.out).lt
      have u_X0_0 : w7.cell? ⟨w5.heap.size, 0, none⟩ = some (.slice (some ⟨g5_1, 0, none⟩) n0_1 n0_1) := (X0.out).cell 0
      have u_X0_1 : w7.cell? ⟨w5.heap.size, 1, none⟩ = some (.slice (some ⟨g5_2, 0, none⟩) n0_2 n0_2) := (X0.out).cell 1
      have u_X0_2 : w7.cell? ⟨w5.heap.size, 2, none⟩ = some (.slice (some ⟨g5_3, 0, none⟩) n0_3 n0_3) := (X0.out).cell 2
      have v_X0 : w5.heap.size < w7.heap.size := (X0.out).lt
      go_region_held3 (fun wx => wx.cell? ⟨w5.heap.size, 0, none⟩ = some (.slice (some ⟨g5_1, 0, none⟩) n0_1 n0_1) ∧ wx.cell? ⟨w5.heap.size, 1, none⟩ = some (.slice (some ⟨g5_2, 0, none⟩) n0_2 n0_2) ∧ wx.cell? ⟨w5.heap.size, 2, none⟩ = some (.slice (some ⟨g5_3, 0, none⟩) n0_3 n0_3) ∧ w5.heap.size < wx.heap.size ∧ wx.cell? ⟨w.heap.size, 0, none⟩ = some (.slice a0_1 n0_1 c0_1) ∧ wx.cell? ⟨w.heap.size, 1, none⟩ = some (.slice a0_2 n0_2 c0_2) ∧ wx.cell? ⟨w.heap.size, 2, none⟩ = some (.slice a0_3 n0_3 c0_3) ∧ w.heap.size < wx.heap.size ∧ Below w7.heap.size w7 wx ∧ Below w.heap.size w wx) (((try go_split_ands); (repeat' apply And.intro) <;> first | assumption | exact Below.drew (Below.refl _ _) | exact Blk.keep (by assumption) hbx | exact Blk.drew (by assumption) | exact Blk.drew (Blk.made _ _ _) | exact Below.drew (by assumption) | exact Below.drew (below_allocS (by first | exact Below.refl _ _ | assumption) _) | exact below_callS (by assumption) hbx | exact below_call (by assumption) hbx (Below.size (by assumption)) | exact (hcx _ _ (by assumption)).trans (by assumption) | omega | (simp [*]; done) | (simp; omega))) (first | (go_at_call 12; go_split_ands; refine Calls.mono (laws_toModel (HI0.out.keep (by assumption))) ?_; rintro e w8 ⟨gw8_1, gw8_2, gw8_3, rfl, hbx, how8⟩; have HOw8 := Lib.hid how8; obtain ⟨hcx, hfx⟩ := bcell hbx; have hsx := hbx.size) | (go_at_call 16; go_split_ands; refine Calls.mono (laws_eqModel (O5.out.keep (by assumption)).fact.rd ((HOw8.out).rd.keep bel)) ?_; rintro e w9 ⟨rfl, hbx⟩; obtain ⟨hcx, hfx⟩ := bcell hbx; have hsx := hbx.size))
      go_split_ands
      have hb_w9 : Below w7.heap.size w7 w9 := by assumption
      have hs_w9 := hb_w9.size
      clear u_K0_0 u_K0_1 u_K0_2 v_K0 u_X0_0 u_X0_1 u_X0_2 v_X0
      have hst : Below w7.heap.size w7 w9 := bel
      have hB_w9 : Below w.heap.size w w9 := below_callS hB_w7 hst
      replace K0 := Lib.hid (K0.out.keep hst)
      replace X0 := Lib.hid (X0.out.keep hst)
      replace O5 := Lib.hid (O5.out.keep hst)
      replace O6 := Lib.hid (O6.out.keep hst)
      clear hst hb_w9 hB_w7
      have u_K0_0 : w9.cell? ⟨w.heap.size, 0, none⟩ = some (.slice a0_1 n0_1 c0_1) := (K0.out).cell 0
      have u_K0_1 : w9.cell? ⟨w.heap.size, 1, none⟩ = some (.slice a0_2 n0_2 c0_2) := (K0.out).cell 1
      have u_K0_2 : w9.cell? ⟨w.heap.size, 2, none⟩ = some (.slice a0_3 n0_3 c0_3) := (K0.out).cell 2
      have v_K0 : w.heap.size < w9.heap.size := (K0.out).lt
      have u_X0_0 : w9.cell? ⟨w5.heap.size, 0, none⟩ = some (.slice (some ⟨g5_1, 0, none⟩) n0_1 n0_1) := (X0.out).cell 0
      have u_X0_1 : w9.cell? ⟨w5.heap.size, 1, none⟩ = some (.slice (some ⟨g5_2, 0, none⟩) n0_2 n0_2) := (X0.out).cell 1
      have u_X0_2 : w9.cell? ⟨w5.heap.size, 2, none⟩ = some (.slice (some ⟨g5_3, 0, none⟩) n0_3 n0_3) := (X0.out).cell 2
      have v_X0 : w5.heap.size < w9.heap.size := (X0.out).lt
      go_wp2_with fail
      refine Calls.mono (laws_toTestS_g (HI1.out.keep bel) hn1) ?_
      rintro e w10 ⟨g10, rfl, hb_w10, ho10⟩
      have hs_w10 := hb_w10.size
      clear u_K0_0 u_K0_1 u_K0_2 v_K0 u_X0_0 u_X0_1 u_X0_2 v_X0
      have ko10 := ho10.blk g10 rfl
      have O10 := Lib.hid (ho10.own)
      clear ho10
      have hst : Below w9.heap.size w9 w10 := bel
      have hB_w10 : Below w.heap.size w w10 := below_callS hB_w9 hst
      replace K0 := Lib.hid (K0.out.keep hst)
      replace X0 := Lib.hid (X0.out.keep hst)
      replace O5 := Lib.hid (O5.out.keep hst)
      replace O6 := Lib.hid (O6.out.keep hst)
      clear hst hb_w10 hB_w9
      have u_K0_0 : w10.cell? ⟨w.heap.size, 0, none⟩ = some (.slice a0_1 n0_1 c0_1) := (K0.out).cell 0
      have u_K0_1 : w10.cell? ⟨w.heap.size, 1, none⟩ = some (.slice a0_2 n0_2 c0_2) := (K0.out).cell 1
      have u_K0_2 : w10.cell? ⟨w.heap.size, 2, none⟩ = some (.slice a0_3 n0_3 c0_3) := (K0.out).cell 2
      have v_K0 : w.heap.size < w10.heap.size := (K0.out).lt
      have u_X0_0 : w10.cell? ⟨w5.heap.size, 0, none⟩ = some (.slice (some ⟨g5_1, 0, none⟩) n0_1 n0_1) := (X0.out).cell 0
      have u_X0_1 : w10.cell? ⟨w5.heap.size, 1, none⟩ = some (.slice (some ⟨g5_2, 0, none⟩) n0_2 n0_2) := (X0.out).cell 1
      have u_X0_2 : w10.cell? ⟨w5.heap.size, 2, none⟩ = some (.slice (some ⟨g5_3, 0, none⟩) n0_3 n0_3) := (X0.out).cell 2
      have v_X0 : w5.heap.size < w10.heap.size := (X0.out).lt
      go_wp2_with fail
      refine Calls.mono (laws_eqTestS ((O6.out).fact.flats) ((O10.out).fact.flats) hn1) ?_
      rintro e w11 ⟨rfl, hb_w11⟩
      have hs_w11 := hb_w11.size
      clear u_K0_0 u_K0_1 u_K0_2 v_K0 u_X0_0 u_X0_1 u_X0_2 v_X0
      have hst : Below w10.heap.size w10 w11 := bel
      have hB_w11 : Below w.heap.size w w11 := below_callS hB_w10 hst
      replace K0 := Lib.hid (K0.out.keep hst)
      replace X0 := Lib.hid (X0.out.keep hst)
      replace O5 := Lib.hid (O5.out.keep hst)
      replace O6 := Lib.hid (O6.out.keep hst)
      replace O10 := Lib.hid (O10.out.keep hst)
      clear hst hb_w11 hB_w10
      clear O10
      go_wp2
      go_ret
      exact ⟨rfl, bel⟩
    · go_enter Tryz.func6, Tryz.ntmps6
      go_wp2_with fail
      refine Calls.mono (laws_szModelN (HR0.out.keepX bel) hn90_1 hn90_2 hn90_3 (by omega) (by omega) hN0) ?_
      rintro e wz0 ⟨rfl, hb_wz0⟩
      obtain ⟨hc_wz0, hf_wz0⟩ := bcell hb_wz0
      have hs_wz0 := hb_wz0.size
      go_wp2_with fail
      refine Calls.mono (laws_szTestS hn91 (by omega) (by omega)) ?_
      rintro e _ ⟨rfl, rfl⟩
      go_wp2
      go_ret
      exact ⟨rfl, bel⟩
  · go_enter Tryz.func6, Tryz.ntmps6
    go_wp2_with fail
    refine Calls.mono (laws_szModelN (HR0.out.keepX bel) hn90_1 hn90_2 hn90_3 (by omega) (by omega) hN0) ?_
    rintro e wz0 ⟨rfl, hb_wz0⟩
    obtain ⟨hc_wz0, hf_wz0⟩ := bcell hb_wz0
    have hs_wz0 := hb_wz0.size
    go_wp2
    go_ret
    exact ⟨rfl, bel⟩
end Go.Proofs.YtkaikbaagajckaaGreat
