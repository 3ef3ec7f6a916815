/- The law FnExactReachDiagram, from the contracts of the two functions. -/
import Derived.Test.YtkaikbaagajckaaGreatR06
import Derived.Test.YtkaikbaagajckaaGreatR23
import Derived.Test.YtkaikbaagajckaaGreatR02
namespace Go.Proofs.YtkaikbaagajckaaGreat
open Go.RowKit
set_option linter.unusedVariables false
set_option linter.unusedSimpArgs false
set_option maxHeartbeats 8000000 in
theorem law_ReachDiagram {a0_1 a0_2 a0_3 : Option Addr} {n0_1 c0_1 n0_2 c0_2 n0_3 c0_3 : Nat} {l0_1 l0_2 : List Int} {l0_3 : List (RM × RuD)} {w : World} (hI0_1 : Ints w a0_1 n0_1 c0_1 l0_1) (hM0_1 : n0_1 ≤ maxLen) (hI0_2 : Ints w a0_2 n0_2 c0_2 l0_2) (hM0_2 : n0_2 ≤ maxLen) (hI0_3 : FX w w a0_3 n0_3 c0_3 l0_3) (hM0_3 : n0_3 ≤ maxLen) :
    Calls Tryz.prog 4 #[.agg #[.slice a0_1 n0_1 c0_1, .slice a0_2 n0_2 c0_2, .slice a0_3 n0_3 c0_3]] w fun e w' => e = .returned (.bool true) ∧ Below w.heap.size w w' := by
  have HS0 := Lib.hid hI0_1
  have hn90_1 : (n0_1 : Int) ≤ 9223372036854775807 := by unfold maxLen at hM0_1; omega
  have HT0 := Lib.hid hI0_2
  have hn90_2 : (n0_2 : Int) ≤ 9223372036854775807 := by unfold maxLen at hM0_2; omega
  have HR0 := Lib.hid hI0_3
  have hn90_3 : (n0_3 : Int) ≤ 9223372036854775807 := by unfold maxLen at hM0_3; omega
  obtain ⟨n0_5, hN0⟩ : ∃ N : Nat, n0_1 + n0_2 + (n0_3 + need l0_3) = N := ⟨_, rfl⟩
  clear hI0_1 hI0_2 hI0_3 hM0_1 hM0_2 hM0_3
  by_cases hz0 : n0_5 ≤ 1048576
  · skip
    obtain ⟨rs0, hrs0⟩ : ∃ rs : List RuD, l0_3.map (·.2) = rs := ⟨_, rfl⟩
    obtain ⟨n0_4, hC0⟩ : ∃ N : Nat, cntRu rs0 = N := ⟨_, rfl⟩
    have hn0 : n0_4 ≤ 3145728 := by have h9 := cnt_of HR0.out hrs0 hN0; omega
    have HI0 := Lib.hid (mrd_of HS0.out HT0.out HR0.out hrs0 hN0 (by omega))
    have hn0_1 := HI0.out.sn
    have hn0_2 := HI0.out.tn
    have hn0_3 := HI0.out.rn
    have hspec := fun (wx : World)  (y0_1 y0_2 y0_3 : Option Addr) (hX0 : MRd wx y0_1 n0_1 n0_1 y0_2 n0_2 n0_2 y0_3 n0_3 n0_3 l0_1 l0_2 rs0) => spec_ReachDiagram_r hX0
    have himpl := fun (wx : World)  (y0_1 y0_2 y0_3 : Option Addr) (hX0 : MRd wx y0_1 n0_1 n0_1 y0_2 n0_2 n0_2 y0_3 n0_3 n0_3 l0_1 l0_2 rs0) => impl_ReachDiagram_r hX0
    have hlen := rcC_len l0_1 l0_2 (rsM rs0)
    generalize (rcC l0_1 l0_2 (rsM rs0)).1 = INP at *
    generalize (rcC l0_1 l0_2 (rsM rs0)).2.1 = L at *
    generalize (rcC l0_1 l0_2 (rsM rs0)).2.2.1 = RT at *
    generalize (rcC l0_1 l0_2 (rsM rs0)).2.2.2 = code at *
    have Hspec := Lib.hid hspec
    have Himpl := Lib.hid himpl
    clear hspec himpl
    have hcc : (code != code) = false := by simp
    go_enter Tryz.func4, Tryz.ntmps4
    have y_K0 : Blk (w.alloc (.cells #[.slice a0_1 n0_1 c0_1, .slice a0_2 n0_2 c0_2, .slice a0_3 n0_3 c0_3] 25)) (w.heap.size) #[.slice a0_1 n0_1 c0_1, .slice a0_2 n0_2 c0_2, .slice a0_3 n0_3 c0_3] 25 := by have hh := (Blk.made w #[.slice a0_1 n0_1 c0_1, .slice a0_2 n0_2 c0_2, .slice a0_3 n0_3 c0_3] 25); simpa using hh
    have u_K0_0 : (w.alloc (.cells #[.slice a0_1 n0_1 c0_1, .slice a0_2 n0_2 c0_2, .slice a0_3 n0_3 c0_3] 25)).cell? ⟨w.heap.size, 0, none⟩ = some (.slice a0_1 n0_1 c0_1) := y_K0.cell 0
    have u_K0_1 : (w.alloc (.cells #[.slice a0_1 n0_1 c0_1, .slice a0_2 n0_2 c0_2, .slice a0_3 n0_3 c0_3] 25)).cell? ⟨w.heap.size, 1, none⟩ = some (.slice a0_2 n0_2 c0_2) := y_K0.cell 1
    have u_K0_2 : (w.alloc (.cells #[.slice a0_1 n0_1 c0_1, .slice a0_2 n0_2 c0_2, .slice a0_3 n0_3 c0_3] 25)).cell? ⟨w.heap.size, 2, none⟩ = some (.slice a0_3 n0_3 c0_3) := y_K0.cell 2
    have v_K0 : w.heap.size < (w.alloc (.cells #[.slice a0_1 n0_1 c0_1, .slice a0_2 n0_2 c0_2, .slice a0_3 n0_3 c0_3] 25)).heap.size := y_K0.lt
    go_wp2_with fail
    refine Calls.mono (laws_szModelN (HR0.out.keepX bel) hn90_1 hn90_2 hn90_3 (by omega) (by omega) hN0) ?_
    rintro e w1 ⟨rfl, hb_w1⟩
    have hs_w1 := hb_w1.size
    simp at hs_w1
    clear y_K0 u_K0_0 u_K0_1 u_K0_2 v_K0
    have hst : Below w.heap.size w w1 := bel
    have hB_w1 : Below w.heap.size w w1 := hst
    have K0 := Lib.hid (show Blk w1 (w.heap.size) #[.slice a0_1 n0_1 c0_1, .slice a0_2 n0_2 c0_2, .slice a0_3 n0_3 c0_3] 25 by have hh := ((Blk.made w #[.slice a0_1 n0_1 c0_1, .slice a0_2 n0_2 c0_2, .slice a0_3 n0_3 c0_3] 25)).keep hb_w1; simpa using hh)
    clear hst hb_w1
    have u_K0_0 : w1.cell? ⟨w.heap.size, 0, none⟩ = some (.slice a0_1 n0_1 c0_1) := (K0.out).cell 0
    have u_K0_1 : w1.cell? ⟨w.heap.size, 1, none⟩ = some (.slice a0_2 n0_2 c0_2) := (K0.out).cell 1
    have u_K0_2 : w1.cell? ⟨w.heap.size, 2, none⟩ = some (.slice a0_3 n0_3 c0_3) := (K0.out).cell 2
    have v_K0 : w.heap.size < w1.heap.size := (K0.out).lt
    go_wp2_with fail
    refine Calls.mono (laws_toModel (HI0.out.keep bel)) ?_
    rintro e w2 ⟨g2_1, g2_2, g2_3, rfl, hb_w2, ho2⟩
    have hs_w2 := hb_w2.size
    clear u_K0_0 u_K0_1 u_K0_2 v_K0
    have O2 := Lib.hid (ho2.own (Nat.le_refl _))
    clear ho2
    have hst : Below w1.heap.size w1 w2 := bel
    have hB_w2 : Below w.heap.size w w2 := below_callS hB_w1 hst
    replace K0 := Lib.hid (K0.out.keep hst)
    clear hst hb_w2 hB_w1
    have u_K0_0 : w2.cell? ⟨w.heap.size, 0, none⟩ = some (.slice a0_1 n0_1 c0_1) := (K0.out).cell 0
    have u_K0_1 : w2.cell? ⟨w.heap.size, 1, none⟩ = some (.slice a0_2 n0_2 c0_2) := (K0.out).cell 1
    have u_K0_2 : w2.cell? ⟨w.heap.size, 2, none⟩ = some (.slice a0_3 n0_3 c0_3) := (K0.out).cell 2
    have v_K0 : w.heap.size < w2.heap.size := (K0.out).lt
    go_wp2_with fail
    refine Calls.mono (Hspec.out _ _ _ _ ((O2.out).fact.rd)) ?_
    rintro e w3 ⟨n3_0, a3_0, c3_0, rfl, hb_w3, ho3_0⟩
    have hs_w3 := hb_w3.size
    clear u_K0_0 u_K0_1 u_K0_2 v_K0
    have ln3_0 := ho3_0.len
    have O3_0b := ho3_0.blk
    have O3_0 := Lib.hid (ho3_0.own)
    clear ho3_0
    have hst : Below w2.heap.size w2 w3 := bel
    have hB_w3 : Below w.heap.size w w3 := below_callS hB_w2 hst
    replace K0 := Lib.hid (K0.out.keep hst)
    replace O2 := Lib.hid (O2.out.keep hst)
    clear hst hb_w3 hB_w2
    have hln0 : n3_0 ≤ 1048576 := by have := hlen; omega
    clear O2
    have u_K0_0 : (w3.alloc (.cells #[.int .i64 INP, .slice a3_0 n3_0 c3_0, .int .i64 RT] 40)).cell? ⟨w.heap.size, 0, none⟩ = some (.slice a0_1 n0_1 c0_1) := (K0.out.keep (show Below w3.heap.size w3 (w3.alloc (.cells #[.int .i64 INP, .slice a3_0 n3_0 c3_0, .int .i64 RT] 40)) from bel)).cell 0
    have u_K0_1 : (w3.alloc (.cells #[.int .i64 INP, .slice a3_0 n3_0 c3_0, .int .i64 RT] 40)).cell? ⟨w.heap.size, 1, none⟩ = some (.slice a0_2 n0_2 c0_2) := (K0.out.keep (show Below w3.heap.size w3 (w3.alloc (.cells #[.int .i64 INP, .slice a3_0 n3_0 c3_0, .int .i64 RT] 40)) from bel)).cell 1
    have u_K0_2 : (w3.alloc (.cells #[.int .i64 INP, .slice a3_0 n3_0 c3_0, .int .i64 RT] 40)).cell? ⟨w.heap.size, 2, none⟩ = some (.slice a0_3 n0_3 c0_3) := (K0.out.keep (show Below w3.heap.size w3 (w3.alloc (.cells #[.int .i64 INP, .slice a3_0 n3_0 c3_0, .int .i64 RT] 40)) from bel)).cell 2
    have v_K0 : w.heap.size < (w3.alloc (.cells #[.int .i64 INP, .slice a3_0 n3_0 c3_0, .int .i64 RT] 40)).heap.size := (K0.out.keep (show Below w3.heap.size w3 (w3.alloc (.cells #[.int .i64 INP, .slice a3_0 n3_0 c3_0, .int .i64 RT] 40)) from bel)).lt
    have y_R3_0 : Blk (w3.alloc (.cells #[.int .i64 INP, .slice a3_0 n3_0 c3_0, .int .i64 RT] 40)) (w3.heap.size) #[.int .i64 INP, .slice a3_0 n3_0 c3_0, .int .i64 RT] 40 := by have hh := (Blk.made w3 #[.int .i64 INP, .slice a3_0 n3_0 c3_0, .int .i64 RT] 40); simpa using hh
    have u_R3_0_0 : (w3.alloc (.cells #[.int .i64 INP, .slice a3_0 n3_0 c3_0, .int .i64 RT] 40)).cell? ⟨w3.heap.size, 0, none⟩ = some (.int .i64 INP) := y_R3_0.cell 0
    have u_R3_0_1 : (w3.alloc (.cells #[.int .i64 INP, .slice a3_0 n3_0 c3_0, .int .i64 RT] 40)).cell? ⟨w3.heap.size, 1, none⟩ = some (.slice a3_0 n3_0 c3_0) := y_R3_0.cell 1
    have u_R3_0_2 : (w3.alloc (.cells #[.int .i64 INP, .slice a3_0 n3_0 c3_0, .int .i64 RT] 40)).cell? ⟨w3.heap.size, 2, none⟩ = some (.int .i64 RT) := y_R3_0.cell 2
    have v_R3_0 : w3.heap.size < (w3.alloc (.cells #[.int .i64 INP, .slice a3_0 n3_0 c3_0, .int .i64 RT] 40)).heap.size := y_R3_0.lt
    go_wp2_with fail
    refine Calls.mono (laws_toModel (HI0.out.keep bel)) ?_
    rintro e w4 ⟨g4_1, g4_2, g4_3, rfl, hb_w4, ho4⟩
    have hs_w4 := hb_w4.size
    simp at hs_w4
    clear u_K0_0 u_K0_1 u_K0_2 v_K0 y_R3_0 u_R3_0_0 u_R3_0_1 u_R3_0_2 v_R3_0
    have O4 := Lib.hid (ho4.own (Nat.le_refl _))
    clear ho4
    simp at O4
    have hst : Below w3.heap.size w3 w4 := bel
    have hB_w4 : Below w.heap.size w w4 := below_callS hB_w3 hst
    replace K0 := Lib.hid (K0.out.keep hst)
    replace O3_0 := Lib.hid (O3_0.out.keep hst)
    have R3_0 := Lib.hid (show Blk w4 (w3.heap.size) #[.int .i64 INP, .slice a3_0 n3_0 c3_0, .int .i64 RT] 40 by have hh := ((Blk.made w3 #[.int .i64 INP, .slice a3_0 n3_0 c3_0, .int .i64 RT] 40)).keep hb_w4; simpa using hh)
    clear hst hb_w4 hB_w3
    have u_K0_0 : (w4.alloc (.cells #[.slice (some ⟨g4_1, 0, none⟩) n0_1 n0_1, .slice (some ⟨g4_2, 0, none⟩) n0_2 n0_2, .slice (some ⟨g4_3, 0, none⟩) n0_3 n0_3] 36)).cell? ⟨w.heap.size, 0, none⟩ = some (.slice a0_1 n0_1 c0_1) := (K0.out.keep (show Below w4.heap.size w4 (w4.alloc (.cells #[.slice (some ⟨g4_1, 0, none⟩) n0_1 n0_1, .slice (some ⟨g4_2, 0, none⟩) n0_2 n0_2, .slice (some ⟨g4_3, 0, none⟩) n0_3 n0_3] 36)) from bel)).cell 0
    have u_K0_1 : (w4.alloc (.cells #[.slice (some ⟨g4_1, 0, none⟩) n0_1 n0_1, .slice (some ⟨g4_2, 0, none⟩) n0_2 n0_2, .slice (some ⟨g4_3, 0, none⟩) n0_3 n0_3] 36)).cell? ⟨w.heap.size, 1, none⟩ = some (.slice a0_2 n0_2 c0_2) := (K0.out.keep (show Below w4.heap.size w4 (w4.alloc (.cells #[.slice (some ⟨g4_1, 0, none⟩) n0_1 n0_1, .slice (some ⟨g4_2, 0, none⟩) n0_2 n0_2, .slice (some ⟨g4_3, 0, none⟩) n0_3 n0_3] 36)) from bel)).cell 1
    have u_K0_2 : (w4.alloc (.cells #[.slice (some ⟨g4_1, 0, none⟩) n0_1 n0_1, .slice (some ⟨g4_2, 0, none⟩) n0_2 n0_2, .slice (some ⟨g4_3, 0, none⟩) n0_3 n0_3] 36)).cell? ⟨w.heap.size, 2, none⟩ = some (.slice a0_3 n0_3 c0_3) := (K0.out.keep (show Below w4.heap.size w4 (w4.alloc (.cells #[.slice (some ⟨g4_1, 0, none⟩) n0_1 n0_1, .slice (some ⟨g4_2, 0, none⟩) n0_2 n0_2, .slice (some ⟨g4_3, 0, none⟩) n0_3 n0_3] 36)) from bel)).cell 2
    have v_K0 : w.heap.size < (w4.alloc (.cells #[.slice (some ⟨g4_1, 0, none⟩) n0_1 n0_1, .slice (some ⟨g4_2, 0, none⟩) n0_2 n0_2, .slice (some ⟨g4_3, 0, none⟩) n0_3 n0_3] 36)).heap.size := (K0.out.keep (show Below w4.heap.size w4 (w4.alloc (.cells #[.slice (some ⟨g4_1, 0, none⟩) n0_1 n0_1, .slice (some ⟨g4_2, 0, none⟩) n0_2 n0_2, .slice (some ⟨g4_3, 0, none⟩) n0_3 n0_3] 36)) from bel)).lt
    have u_R3_0_0 : (w4.alloc (.cells #[.slice (some ⟨g4_1, 0, none⟩) n0_1 n0_1, .slice (some ⟨g4_2, 0, none⟩) n0_2 n0_2, .slice (some ⟨g4_3, 0, none⟩) n0_3 n0_3] 36)).cell? ⟨w3.heap.size, 0, none⟩ = some (.int .i64 INP) := (R3_0.out.keep (show Below w4.heap.size w4 (w4.alloc (.cells #[.slice (some ⟨g4_1, 0, none⟩) n0_1 n0_1, .slice (some ⟨g4_2, 0, none⟩) n0_2 n0_2, .slice (some ⟨g4_3, 0, none⟩) n0_3 n0_3] 36)) from bel)).cell 0
    have u_R3_0_1 : (w4.alloc (.cells #[.slice (some ⟨g4_1, 0, none⟩) n0_1 n0_1, .slice (some ⟨g4_2, 0, none⟩) n0_2 n0_2, .slice (some ⟨g4_3, 0, none⟩) n0_3 n0_3] 36)).cell? ⟨w3.heap.size, 1, none⟩ = some (.slice a3_0 n3_0 c3_0) := (R3_0.out.keep (show Below w4.heap.size w4 (w4.alloc (.cells #[.slice (some ⟨g4_1, 0, none⟩) n0_1 n0_1, .slice (some ⟨g4_2, 0, none⟩) n0_2 n0_2, .slice (some ⟨g4_3, 0, none⟩) n0_3 n0_3] 36)) from bel)).cell 1
    have u_R3_0_2 : (w4.alloc (.cells #[.slice (some ⟨g4_1, 0, none⟩) n0_1 n0_1, .slice (some ⟨g4_2, 0, none⟩) n0_2 n0_2, .slice (some ⟨g4_3, 0, none⟩) n0_3 n0_3] 36)).cell? ⟨w3.heap.size, 2, none⟩ = some (.int .i64 RT) := (R3_0.out.keep (show Below w4.heap.size w4 (w4.alloc (.cells #[.slice (some ⟨g4_1, 0, none⟩) n0_1 n0_1, .slice (some ⟨g4_2, 0, none⟩) n0_2 n0_2, .slice (some ⟨g4_3, 0, none⟩) n0_3 n0_3] 36)) from bel)).cell 2
    have v_R3_0 : w3.heap.size < (w4.alloc (.cells #[.slice (some ⟨g4_1, 0, none⟩) n0_1 n0_1, .slice (some ⟨g4_2, 0, none⟩) n0_2 n0_2, .slice (some ⟨g4_3, 0, none⟩) n0_3 n0_3] 36)).heap.size := (R3_0.out.keep (show Below w4.heap.size w4 (w4.alloc (.cells #[.slice (some ⟨g4_1, 0, none⟩) n0_1 n0_1, .slice (some ⟨g4_2, 0, none⟩) n0_2 n0_2, .slice (some ⟨g4_3, 0, none⟩) n0_3 n0_3] 36)) from bel)).lt
    have y_X0 : Blk (w4.alloc (.cells #[.slice (some ⟨g4_1, 0, none⟩) n0_1 n0_1, .slice (some ⟨g4_2, 0, none⟩) n0_2 n0_2, .slice (some ⟨g4_3, 0, none⟩) n0_3 n0_3] 36)) (w4.heap.size) #[.slice (some ⟨g4_1, 0, none⟩) n0_1 n0_1, .slice (some ⟨g4_2, 0, none⟩) n0_2 n0_2, .slice (some ⟨g4_3, 0, none⟩) n0_3 n0_3] 36 := by have hh := (Blk.made w4 #[.slice (some ⟨g4_1, 0, none⟩) n0_1 n0_1, .slice (some ⟨g4_2, 0, none⟩) n0_2 n0_2, .slice (some ⟨g4_3, 0, none⟩) n0_3 n0_3] 36); simpa using hh
    have u_X0_0 : (w4.alloc (.cells #[.slice (some ⟨g4_1, 0, none⟩) n0_1 n0_1, .slice (some ⟨g4_2, 0, none⟩) n0_2 n0_2, .slice (some ⟨g4_3, 0, none⟩) n0_3 n0_3] 36)).cell? ⟨w4.heap.size, 0, none⟩ = some (.slice (some ⟨g4_1, 0, none⟩) n0_1 n0_1) := y_X0.cell 0
    have u_X0_1 : (w4.alloc (.cells #[.slice (some ⟨g4_1, 0, none⟩) n0_1 n0_1, .slice (some ⟨g4_2, 0, none⟩) n0_2 n0_2, .slice (some ⟨g4_3, 0, none⟩) n0_3 n0_3] 36)).cell? ⟨w4.heap.size, 1, none⟩ = some (.slice (some ⟨g4_2, 0, none⟩) n0_2 n0_2) := y_X0.cell 1
    have u_X0_2 : (w4.alloc (.cells #[.slice (some ⟨g4_1, 0, none⟩) n0_1 n0_1, .slice (some ⟨g4_2, 0, none⟩) n0_2 n0_2, .slice (some ⟨g4_3, 0, none⟩) n0_3 n0_3] 36)).cell? ⟨w4.heap.size, 2, none⟩ = some (.slice (some ⟨g4_3, 0, none⟩) n0_3 n0_3) := y_X0.cell 2
    have v_X0 : w4.heap.size < (w4.alloc (.cells #[.slice (some ⟨g4_1, 0, none⟩) n0_1 n0_1, .slice (some ⟨g4_2, 0, none⟩) n0_2 n0_2, .slice (some ⟨g4_3, 0, none⟩) n0_3 n0_3] 36)).heap.size := y_X0.lt
    go_wp2_with fail
    refine Calls.mono (Himpl.out _ _ _ _ ((O4.out.keep (show Below w4.heap.size w4 (w4.alloc (.cells #[.slice (some ⟨g4_1, 0, none⟩) n0_1 n0_1, .slice (some ⟨g4_2, 0, none⟩) n0_2 n0_2, .slice (some ⟨g4_3, 0, none⟩) n0_3 n0_3] 36)) from bel)).fact.rd)) ?_
    rintro e w5 ⟨n5_0, a5_0, c5_0, rfl, hb_w5, ho5_0⟩
    have hs_w5 := hb_w5.size
    simp at hs_w5
    clear u_K0_0 u_K0_1 u_K0_2 v_K0 u_R3_0_0 u_R3_0_1 u_R3_0_2 v_R3_0 y_X0 u_X0_0 u_X0_1 u_X0_2 v_X0
    have ln5_0 := ho5_0.len
    have O5_0b := ho5_0.blk
    have O5_0 := Lib.hid (ho5_0.own)
    clear ho5_0
    simp at O5_0 O5_0b
    obtain rfl : n3_0 = n5_0 := by omega
    have hst : Below w4.heap.size w4 w5 := bel
    have hB_w5 : Below w.heap.size w w5 := below_callS hB_w4 hst
    replace K0 := Lib.hid (K0.out.keep hst)
    replace R3_0 := Lib.hid (R3_0.out.keep hst)
    replace O3_0 := Lib.hid (O3_0.out.keep hst)
    replace O4 := Lib.hid (O4.out.keep hst)
    have X0 := Lib.hid (show Blk w5 (w4.heap.size) #[.slice (some ⟨g4_1, 0, none⟩) n0_1 n0_1, .slice (some ⟨g4_2, 0, none⟩) n0_2 n0_2, .slice (some ⟨g4_3, 0, none⟩) n0_3 n0_3] 36 by have hh := ((Blk.made w4 #[.slice (some ⟨g4_1, 0, none⟩) n0_1 n0_1, .slice (some ⟨g4_2, 0, none⟩) n0_2 n0_2, .slice (some ⟨g4_3, 0, none⟩) n0_3 n0_3] 36)).keep hb_w5; simpa using hh)
    clear hst hb_w5 hB_w4
    have u_K0_0 : (w5.alloc (.cells #[.int .i64 INP, .slice a5_0 n3_0 c5_0, .int .i64 RT] 40)).cell? ⟨w.heap.size, 0, none⟩ = some (.slice a0_1 n0_1 c0_1) := (K0.out.keep (show Below w5.heap.size w5 (w5.alloc (.cells #[.int .i64 INP, .slice a5_0 n3_0 c5_0, .int .i64 RT] 40)) from bel)).cell 0
    have u_K0_1 : (w5.alloc (.cells #[.int .i64 INP, .slice a5_0 n3_0 c5_0, .int .i64 RT] 40)).cell? ⟨w.heap.size, 1, none⟩ = some (.slice a0_2 n0_2 c0_2) := (K0.out.keep (show Below w5.heap.size w5 (w5.alloc (.cells #[.int .i64 INP, .slice a5_0 n3_0 c5_0, .int .i64 RT] 40)) from bel)).cell 1
    have u_K0_2 : (w5.alloc (.cells #[.int .i64 INP, .slice a5_0 n3_0 c5_0, .int .i64 RT] 40)).cell? ⟨w.heap.size, 2, none⟩ = some (.slice a0_3 n0_3 c0_3) := (K0.out.keep (show Below w5.heap.size w5 (w5.alloc (.cells #[.int .i64 INP, .slice a5_0 n3_0 c5_0, .int .i64 RT] 40)) from bel)).cell 2
    have v_K0 : w.heap.size < (w5.alloc (.cells #[.int .i64 INP, .slice a5_0 n3_0 c5_0, .int .i64 RT] 40)).heap.size := (K0.out.keep (show Below w5.heap.size w5 (w5.alloc (.cells #[.int .i64 INP, .slice a5_0 n3_0 c5_0, .int .i64 RT] 40)) from bel)).lt
    have u_R3_0_0 : (w5.alloc (.cells #[.int .i64 INP, .slice a5_0 n3_0 c5_0, .int .i64 RT] 40)).cell? ⟨w3.heap.size, 0, none⟩ = some (.int .i64 INP) := (R3_0.out.keep (show Below w5.heap.size w5 (w5.alloc (.cells #[.int .i64 INP, .slice a5_0 n3_0 c5_0, .int .i64 RT] 40)) from bel)).cell 0
    have u_R3_0_1 : (w5.alloc (.cells #[.int .i64 INP, .slice a5_0 n3_0 c5_0, .int .i64 RT] 40)).cell? ⟨w3.heap.size, 1, none⟩ = some (.slice a3_0 n3_0 c3_0) := (R3_0.out.keep (show Below w5.heap.size w5 (w5.alloc (.cells #[.int .i64 INP, .slice a5_0 n3_0 c5_0, .int .i64 RT] 40)) from bel)).cell 1
    have u_R3_0_2 : (w5.alloc (.cells #[.int .i64 INP, .slice a5_0 n3_0 c5_0, .int .i64 RT] 40)).cell? ⟨w3.heap.size, 2, none⟩ = some (.int .i64 RT) := (R3_0.out.keep (show Below w5.heap.size w5 (w5.alloc (.cells #[.int .i64 INP, .slice a5_0 n3_0 c5_0, .int .i64 RT] 40)) from bel)).cell 2
    have v_R3_0 : w3.heap.size < (w5.alloc (.cells #[.int .i64 INP, .slice a5_0 n3_0 c5_0, .int .i64 RT] 40)).heap.size := (R3_0.out.keep (show Below w5.heap.size w5 (w5.alloc (.cells #[.int .i64 INP, .slice a5_0 n3_0 c5_0, .int .i64 RT] 40)) from bel)).lt
    have u_X0_0 : (w5.alloc (.cells #[.int .i64 INP, .slice a5_0 n3_0 c5_0, .int .i64 RT] 40)).cell? ⟨w4.heap.size, 0, none⟩ = some (.slice (some ⟨g4_1, 0, none⟩) n0_1 n0_1) := (X0.out.keep (show Below w5.heap.size w5 (w5.alloc (.cells #[.int .i64 INP, .slice a5_0 n3_0 c5_0, .int .i64 RT] 40)) from bel)).cell 0
    have u_X0_1 : (w5.alloc (.cells #[.int .i64 INP, .slice a5_0 n3_0 c5_0, .int .i64 RT] 40)).cell? ⟨w4.heap.size, 1, none⟩ = some (.slice (some ⟨g4_2, 0, none⟩) n0_2 n0_2) := (X0.out.keep (show Below w5.heap.size w5 (w5.alloc (.cells #[.int .i64 INP, .slice a5_0 n3_0 c5_0, .int .i64 RT] 40)) from bel)).cell 1
    have u_X0_2 : (w5.alloc (.cells #[.int .i64 INP, .slice a5_0 n3_0 c5_0, .int .i64 RT] 40)).cell? ⟨w4.heap.size, 2, none⟩ = some (.slice (some ⟨g4_3, 0, none⟩) n0_3 n0_3) := (X0.out.keep (show Below w5.heap.size w5 (w5.alloc (.cells #[.int .i64 INP, .slice a5_0 n3_0 c5_0, .int .i64 RT] 40)) from bel)).cell 2
    have v_X0 : w4.heap.size < (w5.alloc (.cells #[.int .i64 INP, .slice a5_0 n3_0 c5_0, .int .i64 RT] 40)).heap.size := (X0.out.keep (show Below w5.heap.size w5 (w5.alloc (.cells #[.int .i64 INP, .slice a5_0 n3_0 c5_0, .int .i64 RT] 40)) from bel)).lt
    have y_R5_0 : Blk (w5.alloc (.cells #[.int .i64 INP, .slice a5_0 n3_0 c5_0, .int .i64 RT] 40)) (w5.heap.size) #[.int .i64 INP, .slice a5_0 n3_0 c5_0, .int .i64 RT] 40 := by have hh := (Blk.made w5 #[.int .i64 INP, .slice a5_0 n3_0 c5_0, .int .i64 RT] 40); simpa using hh
    have u_R5_0_0 : (w5.alloc (.cells #[.int .i64 INP, .slice a5_0 n3_0 c5_0, .int .i64 RT] 40)).cell? ⟨w5.heap.size, 0, none⟩ = some (.int .i64 INP) := y_R5_0.cell 0
    have u_R5_0_1 : (w5.alloc (.cells #[.int .i64 INP, .slice a5_0 n3_0 c5_0, .int .i64 RT] 40)).cell? ⟨w5.heap.size, 1, none⟩ = some (.slice a5_0 n3_0 c5_0) := y_R5_0.cell 1
    have u_R5_0_2 : (w5.alloc (.cells #[.int .i64 INP, .slice a5_0 n3_0 c5_0, .int .i64 RT] 40)).cell? ⟨w5.heap.size, 2, none⟩ = some (.int .i64 RT) := y_R5_0.cell 2
    have v_R5_0 : w5.heap.size < (w5.alloc (.cells #[.int .i64 INP, .slice a5_0 n3_0 c5_0, .int .i64 RT] 40)).heap.size := y_R5_0.lt
    go_wp2_with fail
    refine Calls.mono (laws_eqDiagram ((O5_0.out.keep (show Below w5.heap.size w5 (w5.alloc (.cells #[.int .i64 INP, .slice a5_0 n3_0 c5_0, .int .i64 RT] 40)) from bel)).fact.flats) ((O3_0.out.keep (show Below w5.heap.size w5 (w5.alloc (.cells #[.int .i64 INP, .slice a5_0 n3_0 c5_0, .int .i64 RT] 40)) from bel)).fact.flats) hln0 hln0) ?_
    rintro e w6 ⟨rfl, hb_w6⟩
    have hs_w6 := hb_w6.size
    simp at hs_w6
    clear u_K0_0 u_K0_1 u_K0_2 v_K0 u_R3_0_0 u_R3_0_1 u_R3_0_2 v_R3_0 u_X0_0 u_X0_1 u_X0_2 v_X0 y_R5_0 u_R5_0_0 u_R5_0_1 u_R5_0_2 v_R5_0
    have hst : Below w5.heap.size w5 w6 := bel
    have hB_w6 : Below w.heap.size w w6 := below_callS hB_w5 hst
    replace K0 := Lib.hid (K0.out.keep hst)
    replace R3_0 := Lib.hid (R3_0.out.keep hst)
    replace X0 := Lib.hid (X0.out.keep hst)
    replace O3_0 := Lib.hid (O3_0.out.keep hst)
    replace O4 := Lib.hid (O4.out.keep hst)
    replace O5_0 := Lib.hid (O5_0.out.keep hst)
    have R5_0 := Lib.hid (show Blk w6 (w5.heap.size) #[.int .i64 INP, .slice a5_0 n3_0 c5_0, .int .i64 RT] 40 by have hh := ((Blk.made w5 #[.int .i64 INP, .slice a5_0 n3_0 c5_0, .int .i64 RT] 40)).keep hb_w6; simpa using hh)
    clear hst hb_w6 hB_w5
    go_wp2
    have u_K0_0 : w6.cell? ⟨w.heap.size, 0, none⟩ = some (.slice a0_1 n0_1 c0_1) := (K0.out).cell 0
    have u_K0_1 : w6.cell? ⟨w.heap.size, 1, none⟩ = some (.slice a0_2 n0_2 c0_2) := (K0.out).cell 1
    have u_K0_2 : w6.cell? ⟨w.heap.size, 2, none⟩ = some (.slice a0_3 n0_3 c0_3) := (K0.out).cell 2
    have v_K0 : w.heap.size < w6.heap.size := (K0.out).lt
    have u_X0_0 : w6.cell? ⟨w4.heap.size, 0, none⟩ = some (.slice (some ⟨g4_1, 0, none⟩) n0_1 n0_1) := (X0.out).cell 0
    have u_X0_1 : w6.cell? ⟨w4.heap.size, 1, none⟩ = some (.slice (some ⟨g4_2, 0, none⟩) n0_2 n0_2) := (X0.out).cell 1
    have u_X0_2 : w6.cell? ⟨w4.heap.size, 2, none⟩ = some (.slice (some ⟨g4_3, 0, none⟩) n0_3 n0_3) := (X0.out).cell 2
    have v_X0 : w4.heap.size < w6.heap.size := (X0.out).lt
    go_region_held3 (fun wx => wx.cell? ⟨w4.heap.size, 0, none⟩ = some (.slice (some ⟨g4_1, 0, none⟩) n0_1 n0_1) ∧ wx.cell? ⟨w4.heap.size, 1, none⟩ = some (.slice (some ⟨g4_2, 0, none⟩) n0_2 n0_2) ∧ wx.cell? ⟨w4.heap.size, 2, none⟩ = some (.slice (some ⟨g4_3, 0, none⟩) n0_3 n0_3) ∧ w4.heap.size < wx.heap.size ∧ wx.cell? ⟨w.heap.size, 0, none⟩ = some (.slice a0_1 n0_1 c0_1) ∧ wx.cell? ⟨w.heap.size, 1, none⟩ = some (.slice a0_2 n0_2 c0_2) ∧ wx.cell? ⟨w.heap.size, 2, none⟩ = some (.slice a0_3 n0_3 c0_3) ∧ w.heap.size < wx.heap.size ∧ Below w6.heap.size w6 wx ∧ Below w.heap.size w wx) (((try go_split_ands); (repeat' apply And.intro) <;> first | assumption | exact Below.drew (Below.refl _ _) | exact Blk.keep (by assumption) hbx | exact Blk.drew (by assumption) | exact Blk.drew (Blk.made _ _ _) | exact Below.drew (by assumption) | exact Below.drew (below_allocS (by first | exact Below.refl _ _ | assumption) _) | exact below_callS (by assumption) hbx | exact below_call (by assumption) hbx (Below.size (by assumption)) | exact (hcx _ _ (by assumption)).trans (by assumption) | omega | (simp [*]; done) | (simp; omega))) (first | (go_at_call 12; go_split_ands; refine Calls.mono (laws_toModel (HI0.out.keep (by assumption))) ?_; rintro e w7 ⟨gw7_1, gw7_2, gw7_3, rfl, hbx, how7⟩; have HOw7 := Lib.hid how7; obtain ⟨hcx, hfx⟩ := bcell hbx; have hsx := hbx.size) | (go_at_call 16; go_split_ands; refine Calls.mono (laws_eqModel (O4.out.keep (by assumption)).fact.rd ((HOw7.out).rd.keep bel)) ?_; rintro e w8 ⟨rfl, hbx⟩; obtain ⟨hcx, hfx⟩ := bcell hbx; have hsx := hbx.size))
    go_split_ands
    have hb_w8 : Below w6.heap.size w6 w8 := by assumption
    have hs_w8 := hb_w8.size
    clear u_K0_0 u_K0_1 u_K0_2 v_K0 u_X0_0 u_X0_1 u_X0_2 v_X0
    have hst : Below w6.heap.size w6 w8 := bel
    have hB_w8 : Below w.heap.size w w8 := below_callS hB_w6 hst
    replace K0 := Lib.hid (K0.out.keep hst)
    replace R3_0 := Lib.hid (R3_0.out.keep hst)
    replace X0 := Lib.hid (X0.out.keep hst)
    replace R5_0 := Lib.hid (R5_0.out.keep hst)
    replace O3_0 := Lib.hid (O3_0.out.keep hst)
    replace O4 := Lib.hid (O4.out.keep hst)
    replace O5_0 := Lib.hid (O5_0.out.keep hst)
    clear hst hb_w8 hB_w6
    have u_K0_0 : w8.cell? ⟨w.heap.size, 0, none⟩ = some (.slice a0_1 n0_1 c0_1) := (K0.out).cell 0
    have u_K0_1 : w8.cell? ⟨w.heap.size, 1, none⟩ = some (.slice a0_2 n0_2 c0_2) := (K0.out).cell 1
    have u_K0_2 : w8.cell? ⟨w.heap.size, 2, none⟩ = some (.slice a0_3 n0_3 c0_3) := (K0.out).cell 2
    have v_K0 : w.heap.size < w8.heap.size := (K0.out).lt
    have u_R3_0_0 : w8.cell? ⟨w3.heap.size, 0, none⟩ = some (.int .i64 INP) := (R3_0.out).cell 0
    have u_R3_0_1 : w8.cell? ⟨w3.heap.size, 1, none⟩ = some (.slice a3_0 n3_0 c3_0) := (R3_0.out).cell 1
    have u_R3_0_2 : w8.cell? ⟨w3.heap.size, 2, none⟩ = some (.int .i64 RT) := (R3_0.out).cell 2
    have v_R3_0 : w3.heap.size < w8.heap.size := (R3_0.out).lt
    have u_X0_0 : w8.cell? ⟨w4.heap.size, 0, none⟩ = some (.slice (some ⟨g4_1, 0, none⟩) n0_1 n0_1) := (X0.out).cell 0
    have u_X0_1 : w8.cell? ⟨w4.heap.size, 1, none⟩ = some (.slice (some ⟨g4_2, 0, none⟩) n0_2 n0_2) := (X0.out).cell 1
    have u_X0_2 : w8.cell? ⟨w4.heap.size, 2, none⟩ = some (.slice (some ⟨g4_3, 0, none⟩) n0_3 n0_3) := (X0.out).cell 2
    have v_X0 : w4.heap.size < w8.heap.size := (X0.out).lt
    have u_R5_0_0 : w8.cell? ⟨w5.heap.size, 0, none⟩ = some (.int .i64 INP) := (R5_0.out).cell 0
    have u_R5_0_1 : w8.cell? ⟨w5.heap.size, 1, none⟩ = some (.slice a5_0 n3_0 c5_0) := (R5_0.out).cell 1
    have u_R5_0_2 : w8.cell? ⟨w5.heap.size, 2, none⟩ = some (.int .i64 RT) := (R5_0.out).cell 2
    have v_R5_0 : w5.heap.size < w8.heap.size := (R5_0.out).lt
    go_wp2_with fail
    refine Calls.mono (laws_markModel O4.out.fact hC0 (by omega) (by omega) (by have hh := O4.out.upto; exact hh)) ?_
    rintro e w9 ⟨rfl, hon, ho⟩
    clear u_K0_0 u_K0_1 u_K0_2 v_K0 u_R3_0_0 u_R3_0_1 u_R3_0_2 v_R3_0 u_X0_0 u_X0_1 u_X0_2 v_X0 u_R5_0_0 u_R5_0_1 u_R5_0_2 v_R5_0
    have hs_w9 := hon.size
    have nx := O4.out.turn hs_w9 ho MOwn.here
    clear ho
    replace O4 := Lib.hid nx
    clear nx
    have hB_w9 : Below w.heap.size w w9 := hon.below hB_w8 (by omega) (by omega)
    replace K0 := Lib.hid (K0.out.apart hon (by omega))
    replace R3_0 := Lib.hid (R3_0.out.apart hon (by omega))
    replace X0 := Lib.hid (X0.out.apart hon (by omega))
    replace R5_0 := Lib.hid (R5_0.out.apart hon (by omega))
    replace O3_0 := Lib.hid (O3_0.out.apart hon (by omega))
    replace O5_0 := Lib.hid (O5_0.out.apart hon (by omega))
    clear hon hB_w8
    have kq : decide ((1 : Int) + (n0_1 : Int) + (n0_2 : Int) + (n0_4 : Int) < 0) = false := by simp; omega
    have u_K0_0 : w9.cell? ⟨w.heap.size, 0, none⟩ = some (.slice a0_1 n0_1 c0_1) := (K0.out).cell 0
    have u_K0_1 : w9.cell? ⟨w.heap.size, 1, none⟩ = some (.slice a0_2 n0_2 c0_2) := (K0.out).cell 1
    have u_K0_2 : w9.cell? ⟨w.heap.size, 2, none⟩ = some (.slice a0_3 n0_3 c0_3) := (K0.out).cell 2
    have v_K0 : w.heap.size < w9.heap.size := (K0.out).lt
    have u_R3_0_0 : w9.cell? ⟨w3.heap.size, 0, none⟩ = some (.int .i64 INP) := (R3_0.out).cell 0
    have u_R3_0_1 : w9.cell? ⟨w3.heap.size, 1, none⟩ = some (.slice a3_0 n3_0 c3_0) := (R3_0.out).cell 1
    have u_R3_0_2 : w9.cell? ⟨w3.heap.size, 2, none⟩ = some (.int .i64 RT) := (R3_0.out).cell 2
    have v_R3_0 : w3.heap.size < w9.heap.size := (R3_0.out).lt
    have u_X0_0 : w9.cell? ⟨w4.heap.size, 0, none⟩ = some (.slice (some ⟨g4_1, 0, none⟩) n0_1 n0_1) := (X0.out).cell 0
    have u_X0_1 : w9.cell? ⟨w4.heap.size, 1, none⟩ = some (.slice (some ⟨g4_2, 0, none⟩) n0_2 n0_2) := (X0.out).cell 1
    have u_X0_2 : w9.cell? ⟨w4.heap.size, 2, none⟩ = some (.slice (some ⟨g4_3, 0, none⟩) n0_3 n0_3) := (X0.out).cell 2
    have v_X0 : w4.heap.size < w9.heap.size := (X0.out).lt
    have u_R5_0_0 : w9.cell? ⟨w5.heap.size, 0, none⟩ = some (.int .i64 INP) := (R5_0.out).cell 0
    have u_R5_0_1 : w9.cell? ⟨w5.heap.size, 1, none⟩ = some (.slice a5_0 n3_0 c5_0) := (R5_0.out).cell 1
    have u_R5_0_2 : w9.cell? ⟨w5.heap.size, 2, none⟩ = some (.int .i64 RT) := (R5_0.out).cell 2
    have v_R5_0 : w5.heap.size < w9.heap.size := (R5_0.out).lt
    go_wp2_with fail
    refine Calls.mono (laws_eqDiagram ((O5_0.out).fact.flats) ((O3_0.out).fact.flats) hln0 hln0) ?_
    rintro e w10 ⟨rfl, hb_w10⟩
    have hs_w10 := hb_w10.size
    clear u_K0_0 u_K0_1 u_K0_2 v_K0 u_R3_0_0 u_R3_0_1 u_R3_0_2 v_R3_0 u_X0_0 u_X0_1 u_X0_2 v_X0 u_R5_0_0 u_R5_0_1 u_R5_0_2 v_R5_0
    have hst : Below w9.heap.size w9 w10 := bel
    have hB_w10 : Below w.heap.size w w10 := below_callS hB_w9 hst
    replace K0 := Lib.hid (K0.out.keep hst)
    replace R3_0 := Lib.hid (R3_0.out.keep hst)
    replace X0 := Lib.hid (X0.out.keep hst)
    replace R5_0 := Lib.hid (R5_0.out.keep hst)
    replace O3_0 := Lib.hid (O3_0.out.keep hst)
    replace O4 := Lib.hid (O4.out.keep hst)
    replace O5_0 := Lib.hid (O5_0.out.keep hst)
    clear hst hb_w10 hB_w9
    have bd_O5_0 : ∀ g : Nat, (a5_0 : Option Addr) = some ⟨g, 0, none⟩ → w4.heap.size + 1 ≤ g ∧ g < w5.heap.size := by exact O5_0b
    have u_K0_0 : w10.cell? ⟨w.heap.size, 0, none⟩ = some (.slice a0_1 n0_1 c0_1) := (K0.out).cell 0
    have u_K0_1 : w10.cell? ⟨w.heap.size, 1, none⟩ = some (.slice a0_2 n0_2 c0_2) := (K0.out).cell 1
    have u_K0_2 : w10.cell? ⟨w.heap.size, 2, none⟩ = some (.slice a0_3 n0_3 c0_3) := (K0.out).cell 2
    have v_K0 : w.heap.size < w10.heap.size := (K0.out).lt
    have u_R3_0_0 : w10.cell? ⟨w3.heap.size, 0, none⟩ = some (.int .i64 INP) := (R3_0.out).cell 0
    have u_R3_0_1 : w10.cell? ⟨w3.heap.size, 1, none⟩ = some (.slice a3_0 n3_0 c3_0) := (R3_0.out).cell 1
    have u_R3_0_2 : w10.cell? ⟨w3.heap.size, 2, none⟩ = some (.int .i64 RT) := (R3_0.out).cell 2
    have v_R3_0 : w3.heap.size < w10.heap.size := (R3_0.out).lt
    have u_X0_0 : w10.cell? ⟨w4.heap.size, 0, none⟩ = some (.slice (some ⟨g4_1, 0, none⟩) n0_1 n0_1) := (X0.out).cell 0
    have u_X0_1 : w10.cell? ⟨w4.heap.size, 1, none⟩ = some (.slice (some ⟨g4_2, 0, none⟩) n0_2 n0_2) := (X0.out).cell 1
    have u_X0_2 : w10.cell? ⟨w4.heap.size, 2, none⟩ = some (.slice (some ⟨g4_3, 0, none⟩) n0_3 n0_3) := (X0.out).cell 2
    have v_X0 : w4.heap.size < w10.heap.size := (X0.out).lt
    have u_R5_0_0 : w10.cell? ⟨w5.heap.size, 0, none⟩ = some (.int .i64 INP) := (R5_0.out).cell 0
    have u_R5_0_1 : w10.cell? ⟨w5.heap.size, 1, none⟩ = some (.slice a5_0 n3_0 c5_0) := (R5_0.out).cell 1
    have u_R5_0_2 : w10.cell? ⟨w5.heap.size, 2, none⟩ = some (.int .i64 RT) := (R5_0.out).cell 2
    have v_R5_0 : w5.heap.size < w10.heap.size := (R5_0.out).lt
    go_wp2_with fail
    refine Calls.mono (laws_markDiagram O5_0.out.fact hln0 (by omega) (by omega)) ?_
    rintro e w11 ⟨rfl, ht, ho⟩
    clear u_K0_0 u_K0_1 u_K0_2 v_K0 u_R3_0_0 u_R3_0_1 u_R3_0_2 v_R3_0 u_X0_0 u_X0_1 u_X0_2 v_X0 u_R5_0_0 u_R5_0_1 u_R5_0_2 v_R5_0
    have hs_w11 := ht.size
    have hon : Only (w4.heap.size + 1) (w5.heap.size) w10 w11 := ht.only (fun g hg => bd_O5_0 g hg)
    have nx := O5_0.out.turn hs_w11 ho (OwnF.here (fun g hg => bd_O5_0 g hg))
    clear ho ht
    replace O5_0 := Lib.hid nx
    clear nx
    have hB_w11 : Below w.heap.size w w11 := hon.below hB_w10 (by omega) (by omega)
    replace K0 := Lib.hid (K0.out.apart hon (by omega))
    replace R3_0 := Lib.hid (R3_0.out.apart hon (by omega))
    replace X0 := Lib.hid (X0.out.apart hon (by omega))
    replace R5_0 := Lib.hid (R5_0.out.apart hon (by omega))
    replace O3_0 := Lib.hid (O3_0.out.apart hon (by omega))
    replace O4 := Lib.hid (O4.out.apart hon (by omega))
    clear hon hB_w10
    have e3 : decide ((1 : Int) + 3 * (n3_0 : Int) < 0) = false := by simp; omega
    have e4 : ((1 : Int) + 3 * (n3_0 : Int) != (1 : Int) + 3 * (n3_0 : Int)) = false := by simp
    have u_K0_0 : w11.cell? ⟨w.heap.size, 0, none⟩ = some (.slice a0_1 n0_1 c0_1) := (K0.out).cell 0
    have u_K0_1 : w11.cell? ⟨w.heap.size, 1, none⟩ = some (.slice a0_2 n0_2 c0_2) := (K0.out).cell 1
    have u_K0_2 : w11.cell? ⟨w.heap.size, 2, none⟩ = some (.slice a0_3 n0_3 c0_3) := (K0.out).cell 2
    have v_K0 : w.heap.size < w11.heap.size := (K0.out).lt
    have u_R3_0_0 : w11.cell? ⟨w3.heap.size, 0, none⟩ = some (.int .i64 INP) := (R3_0.out).cell 0
    have u_R3_0_1 : w11.cell? ⟨w3.heap.size, 1, none⟩ = some (.slice a3_0 n3_0 c3_0) := (R3_0.out).cell 1
    have u_R3_0_2 : w11.cell? ⟨w3.heap.size, 2, none⟩ = some (.int .i64 RT) := (R3_0.out).cell 2
    have v_R3_0 : w3.heap.size < w11.heap.size := (R3_0.out).lt
    have u_X0_0 : w11.cell? ⟨w4.heap.size, 0, none⟩ = some (.slice (some ⟨g4_1, 0, none⟩) n0_1 n0_1) := (X0.out).cell 0
    have u_X0_1 : w11.cell? ⟨w4.heap.size, 1, none⟩ = some (.slice (some ⟨g4_2, 0, none⟩) n0_2 n0_2) := (X0.out).cell 1
    have u_X0_2 : w11.cell? ⟨w4.heap.size, 2, none⟩ = some (.slice (some ⟨g4_3, 0, none⟩) n0_3 n0_3) := (X0.out).cell 2
    have v_X0 : w4.heap.size < w11.heap.size := (X0.out).lt
    have u_R5_0_0 : w11.cell? ⟨w5.heap.size, 0, none⟩ = some (.int .i64 INP) := (R5_0.out).cell 0
    have u_R5_0_1 : w11.cell? ⟨w5.heap.size, 1, none⟩ = some (.slice a5_0 n3_0 c5_0) := (R5_0.out).cell 1
    have u_R5_0_2 : w11.cell? ⟨w5.heap.size, 2, none⟩ = some (.int .i64 RT) := (R5_0.out).cell 2
    have v_R5_0 : w5.heap.size < w11.heap.size := (R5_0.out).lt
    go_wp2_with fail
    refine Calls.mono (laws_heldDiagram ((O5_0.out).fact.flats) hln0 (by omega) (by omega)) ?_
    rintro e w12 ⟨rfl, hb_w12⟩
    have hs_w12 := hb_w12.size
    clear u_K0_0 u_K0_1 u_K0_2 v_K0 u_R3_0_0 u_R3_0_1 u_R3_0_2 v_R3_0 u_X0_0 u_X0_1 u_X0_2 v_X0 u_R5_0_0 u_R5_0_1 u_R5_0_2 v_R5_0
    have hst : Below w11.heap.size w11 w12 := bel
    have hB_w12 : Below w.heap.size w w12 := below_callS hB_w11 hst
    replace K0 := Lib.hid (K0.out.keep hst)
    replace R3_0 := Lib.hid (R3_0.out.keep hst)
    replace X0 := Lib.hid (X0.out.keep hst)
    replace R5_0 := Lib.hid (R5_0.out.keep hst)
    replace O3_0 := Lib.hid (O3_0.out.keep hst)
    replace O4 := Lib.hid (O4.out.keep hst)
    replace O5_0 := Lib.hid (O5_0.out.keep hst)
    clear hst hb_w12 hB_w11
    have u_K0_0 : w12.cell? ⟨w.heap.size, 0, none⟩ = some (.slice a0_1 n0_1 c0_1) := (K0.out).cell 0
    have u_K0_1 : w12.cell? ⟨w.heap.size, 1, none⟩ = some (.slice a0_2 n0_2 c0_2) := (K0.out).cell 1
    have u_K0_2 : w12.cell? ⟨w.heap.size, 2, none⟩ = some (.slice a0_3 n0_3 c0_3) := (K0.out).cell 2
    have v_K0 : w.heap.size < w12.heap.size := (K0.out).lt
    have u_R3_0_0 : w12.cell? ⟨w3.heap.size, 0, none⟩ = some (.int .i64 INP) := (R3_0.out).cell 0
    have u_R3_0_1 : w12.cell? ⟨w3.heap.size, 1, none⟩ = some (.slice a3_0 n3_0 c3_0) := (R3_0.out).cell 1
    have u_R3_0_2 : w12.cell? ⟨w3.heap.size, 2, none⟩ = some (.int .i64 RT) := (R3_0.out).cell 2
    have v_R3_0 : w3.heap.size < w12.heap.size := (R3_0.out).lt
    have u_X0_0 : w12.cell? ⟨w4.heap.size, 0, none⟩ = some (.slice (some ⟨g4_1, 0, none⟩) n0_1 n0_1) := (X0.out).cell 0
    have u_X0_1 : w12.cell? ⟨w4.heap.size, 1, none⟩ = some (.slice (some ⟨g4_2, 0, none⟩) n0_2 n0_2) := (X0.out).cell 1
    have u_X0_2 : w12.cell? ⟨w4.heap.size, 2, none⟩ = some (.slice (some ⟨g4_3, 0, none⟩) n0_3 n0_3) := (X0.out).cell 2
    have v_X0 : w4.heap.size < w12.heap.size := (X0.out).lt
    have u_R5_0_0 : w12.cell? ⟨w5.heap.size, 0, none⟩ = some (.int .i64 INP) := (R5_0.out).cell 0
    have u_R5_0_1 : w12.cell? ⟨w5.heap.size, 1, none⟩ = some (.slice a5_0 n3_0 c5_0) := (R5_0.out).cell 1
    have u_R5_0_2 : w12.cell? ⟨w5.heap.size, 2, none⟩ = some (.int .i64 RT) := (R5_0.out).cell 2
    have v_R5_0 : w5.heap.size < w12.heap.size := (R5_0.out).lt
    go_wp2_with fail
    refine Calls.mono (laws_toModel (HI0.out.keep bel)) ?_
    rintro e w13 ⟨g13_1, g13_2, g13_3, rfl, hb_w13, ho13⟩
    have hs_w13 := hb_w13.size
    clear u_K0_0 u_K0_1 u_K0_2 v_K0 u_R3_0_0 u_R3_0_1 u_R3_0_2 v_R3_0 u_X0_0 u_X0_1 u_X0_2 v_X0 u_R5_0_0 u_R5_0_1 u_R5_0_2 v_R5_0
    have O13 := Lib.hid (ho13.own (Nat.le_refl _))
    clear ho13
    have hst : Below w12.heap.size w12 w13 := bel
    have hB_w13 : Below w.heap.size w w13 := below_callS hB_w12 hst
    replace K0 := Lib.hid (K0.out.keep hst)
    replace R3_0 := Lib.hid (R3_0.out.keep hst)
    replace X0 := Lib.hid (X0.out.keep hst)
    replace R5_0 := Lib.hid (R5_0.out.keep hst)
    replace O3_0 := Lib.hid (O3_0.out.keep hst)
    replace O4 := Lib.hid (O4.out.keep hst)
    replace O5_0 := Lib.hid (O5_0.out.keep hst)
    clear hst hb_w13 hB_w12
    have u_K0_0 : w13.cell? ⟨w.heap.size, 0, none⟩ = some (.slice a0_1 n0_1 c0_1) := (K0.out).cell 0
    have u_K0_1 : w13.cell? ⟨w.heap.size, 1, none⟩ = some (.slice a0_2 n0_2 c0_2) := (K0.out).cell 1
    have u_K0_2 : w13.cell? ⟨w.heap.size, 2, none⟩ = some (.slice a0_3 n0_3 c0_3) := (K0.out).cell 2
    have v_K0 : w.heap.size < w13.heap.size := (K0.out).lt
    have u_R3_0_0 : w13.cell? ⟨w3.heap.size, 0, none⟩ = some (.int .i64 INP) := (R3_0.out).cell 0
    have u_R3_0_1 : w13.cell? ⟨w3.heap.size, 1, none⟩ = some (.slice a3_0 n3_0 c3_0) := (R3_0.out).cell 1
    have u_R3_0_2 : w13.cell? ⟨w3.heap.size, 2, none⟩ = some (.int .i64 RT) := (R3_0.out).cell 2
    have v_R3_0 : w3.heap.size < w13.heap.size := (R3_0.out).lt
    have u_X0_0 : w13.cell? ⟨w4.heap.size, 0, none⟩ = some (.slice (some ⟨g4_1, 0, none⟩) n0_1 n0_1) := (X0.out).cell 0
    have u_X0_1 : w13.cell? ⟨w4.heap.size, 1, none⟩ = some (.slice (some ⟨g4_2, 0, none⟩) n0_2 n0_2) := (X0.out).cell 1
    have u_X0_2 : w13.cell? ⟨w4.heap.size, 2, none⟩ = some (.slice (some ⟨g4_3, 0, none⟩) n0_3 n0_3) := (X0.out).cell 2
    have v_X0 : w4.heap.size < w13.heap.size := (X0.out).lt
    have u_R5_0_0 : w13.cell? ⟨w5.heap.size, 0, none⟩ = some (.int .i64 INP) := (R5_0.out).cell 0
    have u_R5_0_1 : w13.cell? ⟨w5.heap.size, 1, none⟩ = some (.slice a5_0 n3_0 c5_0) := (R5_0.out).cell 1
    have u_R5_0_2 : w13.cell? ⟨w5.heap.size, 2, none⟩ = some (.int .i64 RT) := (R5_0.out).cell 2
    have v_R5_0 : w5.heap.size < w13.heap.size := (R5_0.out).lt
    go_wp2_with fail
    refine Calls.mono (Himpl.out _ _ _ _ ((O13.out).fact.rd)) ?_
    rintro e w14 ⟨n14_0, a14_0, c14_0, rfl, hb_w14, ho14_0⟩
    have hs_w14 := hb_w14.size
    clear u_K0_0 u_K0_1 u_K0_2 v_K0 u_R3_0_0 u_R3_0_1 u_R3_0_2 v_R3_0 u_X0_0 u_X0_1 u_X0_2 v_X0 u_R5_0_0 u_R5_0_1 u_R5_0_2 v_R5_0
    have ln14_0 := ho14_0.len
    have O14_0b := ho14_0.blk
    have O14_0 := Lib.hid (ho14_0.own)
    clear ho14_0
    obtain rfl : n3_0 = n14_0 := by omega
    have hst : Below w13.heap.size w13 w14 := bel
    have hB_w14 : Below w.heap.size w w14 := below_callS hB_w13 hst
    replace K0 := Lib.hid (K0.out.keep hst)
    replace R3_0 := Lib.hid (R3_0.out.keep hst)
    replace X0 := Lib.hid (X0.out.keep hst)
    replace R5_0 := Lib.hid (R5_0.out.keep hst)
    replace O3_0 := Lib.hid (O3_0.out.keep hst)
    replace O4 := Lib.hid (O4.out.keep hst)
    replace O5_0 := Lib.hid (O5_0.out.keep hst)
    replace O13 := Lib.hid (O13.out.keep hst)
    clear hst hb_w14 hB_w13
    have u_K0_0 : (w14.alloc (.cells #[.int .i64 INP, .slice a14_0 n3_0 c14_0, .int .i64 RT] 40)).cell? ⟨w.heap.size, 0, none⟩ = some (.slice a0_1 n0_1 c0_1) := (K0.out.keep (show Below w14.heap.size w14 (w14.alloc (.cells #[.int .i64 INP, .slice a14_0 n3_0 c14_0, .int .i64 RT] 40)) from bel)).cell 0
    have u_K0_1 : (w14.alloc (.cells #[.int .i64 INP, .slice a14_0 n3_0 c14_0, .int .i64 RT] 40)).cell? ⟨w.heap.size, 1, none⟩ = some (.slice a0_2 n0_2 c0_2) := (K0.out.keep (show Below w14.heap.size w14 (w14.alloc (.cells #[.int .i64 INP, .slice a14_0 n3_0 c14_0, .int .i64 RT] 40)) from bel)).cell 1
    have u_K0_2 : (w14.alloc (.cells #[.int .i64 INP, .slice a14_0 n3_0 c14_0, .int .i64 RT] 40)).cell? ⟨w.heap.size, 2, none⟩ = some (.slice a0_3 n0_3 c0_3) := (K0.out.keep (show Below w14.heap.size w14 (w14.alloc (.cells #[.int .i64 INP, .slice a14_0 n3_0 c14_0, .int .i64 RT] 40)) from bel)).cell 2
    have v_K0 : w.heap.size < (w14.alloc (.cells #[.int .i64 INP, .slice a14_0 n3_0 c14_0, .int .i64 RT] 40)).heap.size := (K0.out.keep (show Below w14.heap.size w14 (w14.alloc (.cells #[.int .i64 INP, .slice a14_0 n3_0 c14_0, .int .i64 RT] 40)) from bel)).lt
    have u_R3_0_0 : (w14.alloc (.cells #[.int .i64 INP, .slice a14_0 n3_0 c14_0, .int .i64 RT] 40)).cell? ⟨w3.heap.size, 0, none⟩ = some (.int .i64 INP) := (R3_0.out.keep (show Below w14.heap.size w14 (w14.alloc (.cells #[.int .i64 INP, .slice a14_0 n3_0 c14_0, .int .i64 RT] 40)) from bel)).cell 0
    have u_R3_0_1 : (w14.alloc (.cells #[.int .i64 INP, .slice a14_0 n3_0 c14_0, .int .i64 RT] 40)).cell? ⟨w3.heap.size, 1, none⟩ = some (.slice a3_0 n3_0 c3_0) := (R3_0.out.keep (show Below w14.heap.size w14 (w14.alloc (.cells #[.int .i64 INP, .slice a14_0 n3_0 c14_0, .int .i64 RT] 40)) from bel)).cell 1
    have u_R3_0_2 : (w14.alloc (.cells #[.int .i64 INP, .slice a14_0 n3_0 c14_0, .int .i64 RT] 40)).cell? ⟨w3.heap.size, 2, none⟩ = some (.int .i64 RT) := (R3_0.out.keep (show Below w14.heap.size w14 (w14.alloc (.cells #[.int .i64 INP, .slice a14_0 n3_0 c14_0, .int .i64 RT] 40)) from bel)).cell 2
    have v_R3_0 : w3.heap.size < (w14.alloc (.cells #[.int .i64 INP, .slice a14_0 n3_0 c14_0, .int .i64 RT] 40)).heap.size := (R3_0.out.keep (show Below w14.heap.size w14 (w14.alloc (.cells #[.int .i64 INP, .slice a14_0 n3_0 c14_0, .int .i64 RT] 40)) from bel)).lt
    have u_X0_0 : (w14.alloc (.cells #[.int .i64 INP, .slice a14_0 n3_0 c14_0, .int .i64 RT] 40)).cell? ⟨w4.heap.size, 0, none⟩ = some (.slice (some ⟨g4_1, 0, none⟩) n0_1 n0_1) := (X0.out.keep (show Below w14.heap.size w14 (w14.alloc (.cells #[.int .i64 INP, .slice a14_0 n3_0 c14_0, .int .i64 RT] 40)) from bel)).cell 0
    have u_X0_1 : (w14.alloc (.cells #[.int .i64 INP, .slice a14_0 n3_0 c14_0, .int .i64 RT] 40)).cell? ⟨w4.heap.size, 1, none⟩ = some (.slice (some ⟨g4_2, 0, none⟩) n0_2 n0_2) := (X0.out.keep (show Below w14.heap.size w14 (w14.alloc (.cells #[.int .i64 INP, .slice a14_0 n3_0 c14_0, .int .i64 RT] 40)) from bel)).cell 1
    have u_X0_2 : (w14.alloc (.cells #[.int .i64 INP, .slice a14_0 n3_0 c14_0, .int .i64 RT] 40)).cell? ⟨w4.heap.size, 2, none⟩ = some (.slice (some ⟨g4_3, 0, none⟩) n0_3 n0_3) := (X0.out.keep (show Below w14.heap.size w14 (w14.alloc (.cells #[.int .i64 INP, .slice a14_0 n3_0 c14_0, .int .i64 RT] 40)) from bel)).cell 2
    have v_X0 : w4.heap.size < (w14.alloc (.cells #[.int .i64 INP, .slice a14_0 n3_0 c14_0, .int .i64 RT] 40)).heap.size := (X0.out.keep (show Below w14.heap.size w14 (w14.alloc (.cells #[.int .i64 INP, .slice a14_0 n3_0 c14_0, .int .i64 RT] 40)) from bel)).lt
    have u_R5_0_0 : (w14.alloc (.cells #[.int .i64 INP, .slice a14_0 n3_0 c14_0, .int .i64 RT] 40)).cell? ⟨w5.heap.size, 0, none⟩ = some (.int .i64 INP) := (R5_0.out.keep (show Below w14.heap.size w14 (w14.alloc (.cells #[.int .i64 INP, .slice a14_0 n3_0 c14_0, .int .i64 RT] 40)) from bel)).cell 0
    have u_R5_0_1 : (w14.alloc (.cells #[.int .i64 INP, .slice a14_0 n3_0 c14_0, .int .i64 RT] 40)).cell? ⟨w5.heap.size, 1, none⟩ = some (.slice a5_0 n3_0 c5_0) := (R5_0.out.keep (show Below w14.heap.size w14 (w14.alloc (.cells #[.int .i64 INP, .slice a14_0 n3_0 c14_0, .int .i64 RT] 40)) from bel)).cell 1
    have u_R5_0_2 : (w14.alloc (.cells #[.int .i64 INP, .slice a14_0 n3_0 c14_0, .int .i64 RT] 40)).cell? ⟨w5.heap.size, 2, none⟩ = some (.int .i64 RT) := (R5_0.out.keep (show Below w14.heap.size w14 (w14.alloc (.cells #[.int .i64 INP, .slice a14_0 n3_0 c14_0, .int .i64 RT] 40)) from bel)).cell 2
    have v_R5_0 : w5.heap.size < (w14.alloc (.cells #[.int .i64 INP, .slice a14_0 n3_0 c14_0, .int .i64 RT] 40)).heap.size := (R5_0.out.keep (show Below w14.heap.size w14 (w14.alloc (.cells #[.int .i64 INP, .slice a14_0 n3_0 c14_0, .int .i64 RT] 40)) from bel)).lt
    have y_R14_0 : Blk (w14.alloc (.cells #[.int .i64 INP, .slice a14_0 n3_0 c14_0, .int .i64 RT] 40)) (w14.heap.size) #[.int .i64 INP, .slice a14_0 n3_0 c14_0, .int .i64 RT] 40 := by have hh := (Blk.made w14 #[.int .i64 INP, .slice a14_0 n3_0 c14_0, .int .i64 RT] 40); simpa using hh
    have u_R14_0_0 : (w14.alloc (.cells #[.int .i64 INP, .slice a14_0 n3_0 c14_0, .int .i64 RT] 40)).cell? ⟨w14.heap.size, 0, none⟩ = some (.int .i64 INP) := y_R14_0.cell 0
    have u_R14_0_1 : (w14.alloc (.cells #[.int .i64 INP, .slice a14_0 n3_0 c14_0, .int .i64 RT] 40)).cell? ⟨w14.heap.size, 1, none⟩ = some (.slice a14_0 n3_0 c14_0) := y_R14_0.cell 1
    have u_R14_0_2 : (w14.alloc (.cells #[.int .i64 INP, .slice a14_0 n3_0 c14_0, .int .i64 RT] 40)).cell? ⟨w14.heap.size, 2, none⟩ = some (.int .i64 RT) := y_R14_0.cell 2
    have v_R14_0 : w14.heap.size < (w14.alloc (.cells #[.int .i64 INP, .slice a14_0 n3_0 c14_0, .int .i64 RT] 40)).heap.size := y_R14_0.lt
    go_wp2_with fail
    refine Calls.mono (laws_eqDiagram ((O14_0.out.keep (show Below w14.heap.size w14 (w14.alloc (.cells #[.int .i64 INP, .slice a14_0 n3_0 c14_0, .int .i64 RT] 40)) from bel)).fact.flats) ((O3_0.out.keep (show Below w14.heap.size w14 (w14.alloc (.cells #[.int .i64 INP, .slice a14_0 n3_0 c14_0, .int .i64 RT] 40)) from bel)).fact.flats) hln0 hln0) ?_
    rintro e w15 ⟨rfl, hb_w15⟩
    have hs_w15 := hb_w15.size
    simp at hs_w15
    clear u_K0_0 u_K0_1 u_K0_2 v_K0 u_R3_0_0 u_R3_0_1 u_R3_0_2 v_R3_0 u_X0_0 u_X0_1 u_X0_2 v_X0 u_R5_0_0 u_R5_0_1 u_R5_0_2 v_R5_0 y_R14_0 u_R14_0_0 u_R14_0_1 u_R14_0_2 v_R14_0
    have hst : Below w14.heap.size w14 w15 := bel
    have hB_w15 : Below w.heap.size w w15 := below_callS hB_w14 hst
    replace K0 := Lib.hid (K0.out.keep hst)
    replace R3_0 := Lib.hid (R3_0.out.keep hst)
    replace X0 := Lib.hid (X0.out.keep hst)
    replace R5_0 := Lib.hid (R5_0.out.keep hst)
    replace O3_0 := Lib.hid (O3_0.out.keep hst)
    replace O4 := Lib.hid (O4.out.keep hst)
    replace O5_0 := Lib.hid (O5_0.out.keep hst)
    replace O13 := Lib.hid (O13.out.keep hst)
    replace O14_0 := Lib.hid (O14_0.out.keep hst)
    have R14_0 := Lib.hid (show Blk w15 (w14.heap.size) #[.int .i64 INP, .slice a14_0 n3_0 c14_0, .int .i64 RT] 40 by have hh := ((Blk.made w14 #[.int .i64 INP, .slice a14_0 n3_0 c14_0, .int .i64 RT] 40)).keep hb_w15; simpa using hh)
    clear hst hb_w15 hB_w14
    have u_K0_0 : w15.cell? ⟨w.heap.size, 0, none⟩ = some (.slice a0_1 n0_1 c0_1) := (K0.out).cell 0
    have u_K0_1 : w15.cell? ⟨w.heap.size, 1, none⟩ = some (.slice a0_2 n0_2 c0_2) := (K0.out).cell 1
    have u_K0_2 : w15.cell? ⟨w.heap.size, 2, none⟩ = some (.slice a0_3 n0_3 c0_3) := (K0.out).cell 2
    have v_K0 : w.heap.size < w15.heap.size := (K0.out).lt
    have u_R3_0_0 : w15.cell? ⟨w3.heap.size, 0, none⟩ = some (.int .i64 INP) := (R3_0.out).cell 0
    have u_R3_0_1 : w15.cell? ⟨w3.heap.size, 1, none⟩ = some (.slice a3_0 n3_0 c3_0) := (R3_0.out).cell 1
    have u_R3_0_2 : w15.cell? ⟨w3.heap.size, 2, none⟩ = some (.int .i64 RT) := (R3_0.out).cell 2
    have v_R3_0 : w3.heap.size < w15.heap.size := (R3_0.out).lt
    have u_X0_0 : w15.cell? ⟨w4.heap.size, 0, none⟩ = some (.slice (some ⟨g4_1, 0, none⟩) n0_1 n0_1) := (X0.out).cell 0
    have u_X0_1 : w15.cell? ⟨w4.heap.size, 1, none⟩ = some (.slice (some ⟨g4_2, 0, none⟩) n0_2 n0_2) := (X0.out).cell 1
    have u_X0_2 : w15.cell? ⟨w4.heap.size, 2, none⟩ = some (.slice (some ⟨g4_3, 0, none⟩) n0_3 n0_3) := (X0.out).cell 2
    have v_X0 : w4.heap.size < w15.heap.size := (X0.out).lt
    have u_R5_0_0 : w15.cell? ⟨w5.heap.size, 0, none⟩ = some (.int .i64 INP) := (R5_0.out).cell 0
    have u_R5_0_1 : w15.cell? ⟨w5.heap.size, 1, none⟩ = some (.slice a5_0 n3_0 c5_0) := (R5_0.out).cell 1
    have u_R5_0_2 : w15.cell? ⟨w5.heap.size, 2, none⟩ = some (.int .i64 RT) := (R5_0.out).cell 2
    have v_R5_0 : w5.heap.size < w15.heap.size := (R5_0.out).lt
    have u_R14_0_0 : w15.cell? ⟨w14.heap.size, 0, none⟩ = some (.int .i64 INP) := (R14_0.out).cell 0
    have u_R14_0_1 : w15.cell? ⟨w14.heap.size, 1, none⟩ = some (.slice a14_0 n3_0 c14_0) := (R14_0.out).cell 1
    have u_R14_0_2 : w15.cell? ⟨w14.heap.size, 2, none⟩ = some (.int .i64 RT) := (R14_0.out).cell 2
    have v_R14_0 : w14.heap.size < w15.heap.size := (R14_0.out).lt
    go_wp2_with fail
    refine Calls.mono (laws_heldDiagram ((O5_0.out).fact.flats) hln0 (by omega) (by omega)) ?_
    rintro e w16 ⟨rfl, hb_w16⟩
    have hs_w16 := hb_w16.size
    clear u_K0_0 u_K0_1 u_K0_2 v_K0 u_R3_0_0 u_R3_0_1 u_R3_0_2 v_R3_0 u_X0_0 u_X0_1 u_X0_2 v_X0 u_R5_0_0 u_R5_0_1 u_R5_0_2 v_R5_0 u_R14_0_0 u_R14_0_1 u_R14_0_2 v_R14_0
    have hst : Below w15.heap.size w15 w16 := bel
    have hB_w16 : Below w.heap.size w w16 := below_callS hB_w15 hst
    replace K0 := Lib.hid (K0.out.keep hst)
    replace R3_0 := Lib.hid (R3_0.out.keep hst)
    replace X0 := Lib.hid (X0.out.keep hst)
    replace R5_0 := Lib.hid (R5_0.out.keep hst)
    replace R14_0 := Lib.hid (R14_0.out.keep hst)
    replace O3_0 := Lib.hid (O3_0.out.keep hst)
    replace O4 := Lib.hid (O4.out.keep hst)
    replace O5_0 := Lib.hid (O5_0.out.keep hst)
    replace O13 := Lib.hid (O13.out.keep hst)
    replace O14_0 := Lib.hid (O14_0.out.keep hst)
    clear hst hb_w16 hB_w15
    go_wp2
    go_ret
    exact ⟨rfl, bel⟩
  · go_enter Tryz.func4, Tryz.ntmps4
    go_wp2_with fail
    refine Calls.mono (laws_szModelN (HR0.out.keepX bel) hn90_1 hn90_2 hn90_3 (by omega) (by omega) hN0) ?_
    rintro e wz0 ⟨rfl, hb_wz0⟩
    obtain ⟨hc_wz0, hf_wz0⟩ := bcell hb_wz0
    have hs_wz0 := hb_wz0.size
    go_wp2
    go_ret
    exact ⟨rfl, bel⟩
end Go.Proofs.YtkaikbaagajckaaGreat
