/- The law FnExactStatesOfDiagram, from the contracts of the two functions. -/
import Derived.Test.YtkaikbaagajckaaGreatK03
import Derived.Test.YtkaikbaagajckaaGreatK19
import Derived.Test.YtkaikbaagajckaaGreatFl
namespace Go.Proofs.YtkaikbaagajckaaGreat
open Go.RowKit
set_option linter.unusedVariables false
set_option linter.unusedSimpArgs false
set_option maxHeartbeats 8000000 in
theorem law_StatesOfDiagram {a0_1 a0_2 a0_3 : Option Addr} {n0_1 c0_1 n0_2 c0_2 n0_3 c0_3 : Nat} {l0_1 l0_2 : List Int} {l0_3 : List (RM × RuD)} {b1 r1 : Int} {a1 : Option Addr} {n1 c1 : Nat} {l1 : List I3} {w : World} (hI0_1 : Ints w a0_1 n0_1 c0_1 l0_1) (hM0_1 : n0_1 ≤ maxLen) (hI0_2 : Ints w a0_2 n0_2 c0_2 l0_2) (hM0_2 : n0_2 ≤ maxLen) (hI0_3 : FX w w a0_3 n0_3 c0_3 l0_3) (hM0_3 : n0_3 ≤ maxLen) (i1 : I64 b1) (ir1 : I64 r1) (hI1 : F3 w a1 n1 c1 l1) (hM1 : n1 ≤ maxLen) :
    Calls Tryz.prog 3 #[.agg #[.slice a0_1 n0_1 c0_1, .slice a0_2 n0_2 c0_2, .slice a0_3 n0_3 c0_3], .agg #[.int .i64 b1, .slice a1 n1 c1, .int .i64 r1]] w fun e w' => e = .returned (.bool true) ∧ Below w.heap.size w w' := by
  have HS0 := Lib.hid hI0_1
  have hn90_1 : (n0_1 : Int) ≤ 9223372036854775807 := by unfold maxLen at hM0_1; omega
  have HT0 := Lib.hid hI0_2
  have hn90_2 : (n0_2 : Int) ≤ 9223372036854775807 := by unfold maxLen at hM0_2; omega
  have HR0 := Lib.hid hI0_3
  have hn90_3 : (n0_3 : Int) ≤ 9223372036854775807 := by unfold maxLen at hM0_3; omega
  obtain ⟨n0_5, hN0⟩ : ∃ N : Nat, n0_1 + n0_2 + (n0_3 + need l0_3) = N := ⟨_, rfl⟩
  clear hI0_1 hI0_2 hI0_3 hM0_1 hM0_2 hM0_3
  have HI1 := Lib.hid hI1
  have hn91 : (n1 : Int) ≤ 9223372036854775807 := by unfold maxLen at hM1; omega
  clear hM1
  by_cases hz0 : n0_5 ≤ 1048576
  · skip
    by_cases hz1 : (n1 : Int) ≤ 1048576 - (n0_5 : Int)
    · skip
      obtain ⟨rs0, hrs0⟩ : ∃ rs : List RuD, l0_3.map (·.2) = rs := ⟨_, rfl⟩
      obtain ⟨n0_4, hC0⟩ : ∃ N : Nat, cntRu rs0 = N := ⟨_, rfl⟩
      have hn0 : n0_4 ≤ 3145728 := by have h9 := cnt_of HR0.out hrs0 hN0; omega
      have HI0 := Lib.hid (mrd_of HS0.out HT0.out HR0.out hrs0 hN0 (by omega))
      have hn0_1 := HI0.out.sn
      have hn0_2 := HI0.out.tn
      have hn0_3 := HI0.out.rn
      have hn1 : n1 ≤ 1048576 := by omega
      have hspec := fun (wx : World)  (y0_1 y0_2 y0_3 : Option Addr) (y1 : Option Addr) (hX0 : MRd wx y0_1 n0_1 n0_1 y0_2 n0_2 n0_2 y0_3 n0_3 n0_3 l0_1 l0_2 rs0) (hX1 : F3 wx y1 n1 n1 l1) => spec_StatesOfDiagram_r hX0 hX1 hn1 i1 ir1
      have himpl := fun (wx : World)  (y0_1 y0_2 y0_3 : Option Addr) (y1 : Option Addr) (hX0 : MRd wx y0_1 n0_1 n0_1 y0_2 n0_2 n0_2 y0_3 n0_3 n0_3 l0_1 l0_2 rs0) (hX1 : F3 wx y1 n1 n1 l1) => impl_StatesOfDiagram_r hX0 hX1 hn1 i1 ir1
      have hlen : (sdC l0_1 l0_2 (rsM rs0) b1 l1 r1).1.length ≤ 4000 := sdC_rows.2
      generalize (fun j => (sdC l0_1 l0_2 (rsM rs0) b1 l1 r1).1.getD j []) = F9 at *
      generalize (sdC l0_1 l0_2 (rsM rs0) b1 l1 r1).1.length = n9_0 at *
      generalize (sdC l0_1 l0_2 (rsM rs0) b1 l1 r1).2 = code at *
      have Hspec := Lib.hid hspec
      have Himpl := Lib.hid himpl
      clear hspec himpl
      have hcc : (code != code) = false := by simp
      obtain ⟨n99_0, hPP0'⟩ : ∃ T : Nat, n9_0 * n0_1 = T := ⟨_, rfl⟩
      have hPPb : n99_0 ≤ 4000 * 1048576 := by rw [← hPP0']; exact Nat.mul_le_mul hlen hn0_1
      have hPP0 := Lib.hid hPP0'
      clear hPP0'
      go_enter Tryz.func3, Tryz.ntmps3
      have y_K0 : Blk ((w.alloc (.cells #[.slice a0_1 n0_1 c0_1, .slice a0_2 n0_2 c0_2, .slice a0_3 n0_3 c0_3] 25)).alloc (.cells #[.int .i64 b1, .slice a1 n1 c1, .int .i64 r1] 28)) (w.heap.size) #[.slice a0_1 n0_1 c0_1, .slice a0_2 n0_2 c0_2, .slice a0_3 n0_3 c0_3] 25 := by have hh := (Blk.made w #[.slice a0_1 n0_1 c0_1, .slice a0_2 n0_2 c0_2, .slice a0_3 n0_3 c0_3] 25).keep (show Below _ _ ((w.alloc (.cells #[.slice a0_1 n0_1 c0_1, .slice a0_2 n0_2 c0_2, .slice a0_3 n0_3 c0_3] 25)).alloc (.cells #[.int .i64 b1, .slice a1 n1 c1, .int .i64 r1] 28)) from bel); simpa using hh
      have u_K0_0 : ((w.alloc (.cells #[.slice a0_1 n0_1 c0_1, .slice a0_2 n0_2 c0_2, .slice a0_3 n0_3 c0_3] 25)).alloc (.cells #[.int .i64 b1, .slice a1 n1 c1, .int .i64 r1] 28)).cell? ⟨w.heap.size, 0, none⟩ = some (.slice a0_1 n0_1 c0_1) := y_K0.cell 0
      have u_K0_1 : ((w.alloc (.cells #[.slice a0_1 n0_1 c0_1, .slice a0_2 n0_2 c0_2, .slice a0_3 n0_3 c0_3] 25)).alloc (.cells #[.int .i64 b1, .slice a1 n1 c1, .int .i64 r1] 28)).cell? ⟨w.heap.size, 1, none⟩ = some (.slice a0_2 n0_2 c0_2) := y_K0.cell 1
      have u_K0_2 : ((w.alloc (.cells #[.slice a0_1 n0_1 c0_1, .slice a0_2 n0_2 c0_2, .slice a0_3 n0_3 c0_3] 25)).alloc (.cells #[.int .i64 b1, .slice a1 n1 c1, .int .i64 r1] 28)).cell? ⟨w.heap.size, 2, none⟩ = some (.slice a0_3 n0_3 c0_3) := y_K0.cell 2
      have v_K0 : w.heap.size < ((w.alloc (.cells #[.slice a0_1 n0_1 c0_1, .slice a0_2 n0_2 c0_2, .slice a0_3 n0_3 c0_3] 25)).alloc (.cells #[.int .i64 b1, .slice a1 n1 c1, .int .i64 r1] 28)).heap.size := y_K0.lt
      have y_K1 : Blk ((w.alloc (.cells #[.slice a0_1 n0_1 c0_1, .slice a0_2 n0_2 c0_2, .slice a0_3 n0_3 c0_3] 25)).alloc (.cells #[.int .i64 b1, .slice a1 n1 c1, .int .i64 r1] 28)) (w.heap.size + 1) #[.int .i64 b1, .slice a1 n1 c1, .int .i64 r1] 28 := by have hh := (Blk.made (w.alloc (.cells #[.slice a0_1 n0_1 c0_1, .slice a0_2 n0_2 c0_2, .slice a0_3 n0_3 c0_3] 25)) #[.int .i64 b1, .slice a1 n1 c1, .int .i64 r1] 28); simpa using hh
      have u_K1_0 : ((w.alloc (.cells #[.slice a0_1 n0_1 c0_1, .slice a0_2 n0_2 c0_2, .slice a0_3 n0_3 c0_3] 25)).alloc (.cells #[.int .i64 b1, .slice a1 n1 c1, .int .i64 r1] 28)).cell? ⟨w.heap.size + 1, 0, none⟩ = some (.int .i64 b1) := y_K1.cell 0
      have u_K1_1 : ((w.alloc (.cells #[.slice a0_1 n0_1 c0_1, .slice a0_2 n0_2 c0_2, .slice a0_3 n0_3 c0_3] 25)).alloc (.cells #[.int .i64 b1, .slice a1 n1 c1, .int .i64 r1] 28)).cell? ⟨w.heap.size + 1, 1, none⟩ = some (.slice a1 n1 c1) := y_K1.cell 1
      have u_K1_2 : ((w.alloc (.cells #[.slice a0_1 n0_1 c0_1, .slice a0_2 n0_2 c0_2, .slice a0_3 n0_3 c0_3] 25)).alloc (.cells #[.int .i64 b1, .slice a1 n1 c1, .int .i64 r1] 28)).cell? ⟨w.heap.size + 1, 2, none⟩ = some (.int .i64 r1) := y_K1.cell 2
      have v_K1 : w.heap.size + 1 < ((w.alloc (.cells #[.slice a0_1 n0_1 c0_1, .slice a0_2 n0_2 c0_2, .slice a0_3 n0_3 c0_3] 25)).alloc (.cells #[.int .i64 b1, .slice a1 n1 c1, .int .i64 r1] 28)).heap.size := y_K1.lt
      go_wp2_with fail
      refine Calls.mono (laws_szModelN (HR0.out.keepX bel) hn90_1 hn90_2 hn90_3 (by omega) (by omega) hN0) ?_
      rintro e w1 ⟨rfl, hb_w1⟩
      have hs_w1 := hb_w1.size
      simp at hs_w1
      clear y_K0 u_K0_0 u_K0_1 u_K0_2 v_K0 y_K1 u_K1_0 u_K1_1 u_K1_2 v_K1
      have hst : Below w.heap.size w w1 := bel
      have hB_w1 : Below w.heap.size w w1 := hst
      have K0 := Lib.hid (show Blk w1 (w.heap.size) #[.slice a0_1 n0_1 c0_1, .slice a0_2 n0_2 c0_2, .slice a0_3 n0_3 c0_3] 25 by have hh := ((Blk.made w #[.slice a0_1 n0_1 c0_1, .slice a0_2 n0_2 c0_2, .slice a0_3 n0_3 c0_3] 25).keep (show Below _ _ ((w.alloc (.cells #[.slice a0_1 n0_1 c0_1, .slice a0_2 n0_2 c0_2, .slice a0_3 n0_3 c0_3] 25)).alloc (.cells #[.int .i64 b1, .slice a1 n1 c1, .int .i64 r1] 28)) from bel)).keep hb_w1; simpa using hh)
      have K1 := Lib.hid (show Blk w1 (w.heap.size + 1) #[.int .i64 b1, .slice a1 n1 c1, .int .i64 r1] 28 by have hh := ((Blk.made (w.alloc (.cells #[.slice a0_1 n0_1 c0_1, .slice a0_2 n0_2 c0_2, .slice a0_3 n0_3 c0_3] 25)) #[.int .i64 b1, .slice a1 n1 c1, .int .i64 r1] 28)).keep hb_w1; simpa using hh)
      clear hst hb_w1
      have u_K0_0 : w1.cell? ⟨w.heap.size, 0, none⟩ = some (.slice a0_1 n0_1 c0_1) := (K0.out).cell 0
      have u_K0_1 : w1.cell? ⟨w.heap.size, 1, none⟩ = some (.slice a0_2 n0_2 c0_2) := (K0.out).cell 1
      have u_K0_2 : w1.cell? ⟨w.heap.size, 2, none⟩ = some (.slice a0_3 n0_3 c0_3) := (K0.out).cell 2
      have v_K0 : w.heap.size < w1.heap.size := (K0.out).lt
      have u_K1_0 : w1.cell? ⟨w.heap.size + 1, 0, none⟩ = some (.int .i64 b1) := (K1.out).cell 0
      have u_K1_1 : w1.cell? ⟨w.heap.size + 1, 1, none⟩ = some (.slice a1 n1 c1) := (K1.out).cell 1
      have u_K1_2 : w1.cell? ⟨w.heap.size + 1, 2, none⟩ = some (.int .i64 r1) := (K1.out).cell 2
      have v_K1 : w.heap.size + 1 < w1.heap.size := (K1.out).lt
      go_wp2_with fail
      refine Calls.mono (laws_szDiagram hn91 (by omega) (by omega)) ?_
      rintro e w2 ⟨rfl, hb_w2⟩
      have hs_w2 := hb_w2.size
      clear u_K0_0 u_K0_1 u_K0_2 v_K0 u_K1_0 u_K1_1 u_K1_2 v_K1
      have hst : Below w1.heap.size w1 w2 := bel
      have hB_w2 : Below w.heap.size w w2 := below_callS hB_w1 hst
      replace K0 := Lib.hid (K0.out.keep hst)
      replace K1 := Lib.hid (K1.out.keep hst)
      clear hst hb_w2 hB_w1
      go_wp2_with fail
      refine wp_region_noPanic ?_
      refine wp_region_held_drew (S := fun wx => Blk wx (w.heap.size) #[.slice a0_1 n0_1 c0_1, .slice a0_2 n0_2 c0_2, .slice a0_3 n0_3 c0_3] 25 ∧ Blk wx (w.heap.size + 1) #[.int .i64 b1, .slice a1 n1 c1, .int .i64 r1] 28) (by kernel_rfl) ?_ (fun hHeld => ?_)
      · exact ⟨K0.out.keep (Below.refl _ _).drew, K1.out.keep (Below.refl _ _).drew⟩
      have hx : Below w2.heap.size w2 w2.drew := (Below.refl _ _).drew
      refine tkH0 0 (v := ?_) ?_ ?_
      rotate_left
      · (intro wv hSw; obtain ⟨hq0, hq1⟩ := hSw; have q0_0 := hq0.cell 0; have q0_1 := hq0.cell 1; have q0_2 := hq0.cell 2; have q1_0 := hq1.cell 0; have q1_1 := hq1.cell 1; have q1_2 := hq1.cell 2; have z0 := hq0.lt; have z1 := hq1.lt; simp only [List.getElem?_toArray, List.getElem?_cons_zero, List.getElem?_cons_succ] at q0_0 q0_1 q0_2 q1_0 q1_1 q1_2; clear hq0 hq1; go_simp; try with_reducible rfl)
      try simp only [Act.put, s1, s2, s3]
      refine tkH0 2 (v := ?_) ?_ ?_
      rotate_left
      · (intro wv hSw; obtain ⟨hq0, hq1⟩ := hSw; have q0_0 := hq0.cell 0; have q0_1 := hq0.cell 1; have q0_2 := hq0.cell 2; have q1_0 := hq1.cell 0; have q1_1 := hq1.cell 1; have q1_2 := hq1.cell 2; have z0 := hq0.lt; have z1 := hq1.lt; simp only [List.getElem?_toArray, List.getElem?_cons_zero, List.getElem?_cons_succ] at q0_0 q0_1 q0_2 q1_0 q1_1 q1_2; clear hq0 hq1; go_simp; try with_reducible rfl)
      try simp only [Act.put, s1, s2, s3]
      refine wpAnyH_ready (rs := [1]) (by kernel_rfl) (by simp) ?_
      refine AllReadyH.cons rfl (fun K hK => ?_) AllReadyH.nil
      go_simp
      refine Calls.mono (laws_toModel (HI0.out.keep (below_callS hB_w2 hx))) ?_
      rintro e w3 ⟨w3g1, w3g2, w3g3, rfl, hbn, ho⟩
      have C9_0 := Lib.hid ho.rd
      replace hx := below_callS hx hbn
      clear ho hbn hHeld
      go_wp2_with fail
      refine hK.out _ _ ⟨K0.out.keep hx, K1.out.keep hx⟩ (fun hHeld => ?_)
      clear hK K
      try simp only [Act.put, s1, s2, s3]
      refine wpAnyH_ready (rs := [3]) (by kernel_rfl) (by simp) ?_
      refine AllReadyH.cons rfl (fun K hK => ?_) AllReadyH.nil
      go_simp
      refine Calls.mono (laws_toDiagram (HI1.out.keep (below_callS hB_w2 hx)) hn1) ?_
      rintro e w4 ⟨w4g, rfl, hbn, ho⟩
      replace C9_0 := Lib.hid (C9_0.out.keep hbn)
      have C9_1 := Lib.hid ho.flats
      replace hx := below_callS hx hbn
      clear ho hbn hHeld
      go_wp2_with fail
      refine hK.out _ _ ⟨K0.out.keep hx, K1.out.keep hx⟩ (fun hHeld => ?_)
      clear hK K
      try simp only [Act.put, s1, s2, s3]
      refine wpAnyH_ready (rs := [4]) (by kernel_rfl) (by simp) ?_
      refine AllReadyH.cons rfl (fun K hK => ?_) AllReadyH.nil
      go_simp
      have hz5 := hx.size
      refine Calls.mono (Hspec.out _ _ _ _ _ C9_0.out C9_1.out) ?_
      rintro e w5 ⟨a5_0, c5_0, rfl, hbn, ho⟩
      have O5_0 := Lib.hid (ho.own (Nat.le_refl _))
      have hy5 := hbn.size
      replace hx := below_callS hx hbn
      clear ho hbn hHeld C9_0 C9_1
      go_wp2_with fail
      refine hK.out _ _ ⟨K0.out.keep hx, K1.out.keep hx⟩ (fun hHeld => ?_)
      clear hK K
      try simp only [Act.put, s1, s2, s3]
      refine tkH0 5 (v := ?_) ?_ ?_
      rotate_left
      · (intro wv hSw; clear hSw; go_simp; try with_reducible rfl)
      try simp only [Act.put, s1, s2, s3]
      refine tkH0 6 (v := ?_) ?_ ?_
      rotate_left
      · (intro wv hSw; clear hSw; go_simp; try with_reducible rfl)
      try simp only [Act.put, s1, s2, s3]
      refine tkH0 7 (v := ?_) ?_ ?_
      rotate_left
      · (intro wv hSw; clear hSw; go_simp; try with_reducible rfl)
      try simp only [Act.put, s1, s2, s3]
      refine tkH0 8 (v := ?_) ?_ ?_
      rotate_left
      · (intro wv hSw; clear hSw; go_simp; try with_reducible rfl)
      try simp only [Act.put, s1, s2, s3]
      refine tkH0 9 (v := ?_) ?_ ?_
      rotate_left
      · (intro wv hSw; clear hSw; go_simp; try with_reducible rfl)
      try simp only [Act.put, s1, s2, s3]
      refine wpAnyH_done (by kernel_rfl) ?_ _
      refine NoPanic.normal ?_
      clear hHeld
      have hb_w5 := hx
      have hs_w5 := hx.size
      have hst : Below w2.heap.size w2 w5 := bel
      have hB_w5 : Below w.heap.size w w5 := below_callS hB_w2 hst
      replace K0 := Lib.hid (K0.out.keep hst)
      replace K1 := Lib.hid (K1.out.keep hst)
      clear hst hb_w5 hB_w2
      clear hx
      have u_K0_0 : w5.cell? ⟨w.heap.size, 0, none⟩ = some (.slice a0_1 n0_1 c0_1) := (K0.out).cell 0
      have u_K0_1 : w5.cell? ⟨w.heap.size, 1, none⟩ = some (.slice a0_2 n0_2 c0_2) := (K0.out).cell 1
      have u_K0_2 : w5.cell? ⟨w.heap.size, 2, none⟩ = some (.slice a0_3 n0_3 c0_3) := (K0.out).cell 2
      have v_K0 : w.heap.size < w5.heap.size := (K0.out).lt
      have u_K1_0 : w5.cell? ⟨w.heap.size + 1, 0, none⟩ = some (.int .i64 b1) := (K1.out).cell 0
      have u_K1_1 : w5.cell? ⟨w.heap.size + 1, 1, none⟩ = some (.slice a1 n1 c1) := (K1.out).cell 1
      have u_K1_2 : w5.cell? ⟨w.heap.size + 1, 2, none⟩ = some (.int .i64 r1) := (K1.out).cell 2
      have v_K1 : w.heap.size + 1 < w5.heap.size := (K1.out).lt
      go_wp2_with fail
      refine Calls.mono (laws_toModel (HI0.out.keep bel)) ?_
      rintro e w6 ⟨g6_1, g6_2, g6_3, rfl, hb_w6, ho6⟩
      have hs_w6 := hb_w6.size
      clear u_K0_0 u_K0_1 u_K0_2 v_K0 u_K1_0 u_K1_1 u_K1_2 v_K1
      have O6 := Lib.hid (ho6.own (Nat.le_refl _))
      clear ho6
      have hst : Below w5.heap.size w5 w6 := bel
      have hB_w6 : Below w.heap.size w w6 := below_callS hB_w5 hst
      replace K0 := Lib.hid (K0.out.keep hst)
      replace K1 := Lib.hid (K1.out.keep hst)
      replace O5_0 := Lib.hid (O5_0.out.keep hst)
      clear hst hb_w6 hB_w5
      have u_K0_0 : (w6.alloc (.cells #[.slice (some ⟨g6_1, 0, none⟩) n0_1 n0_1, .slice (some ⟨g6_2, 0, none⟩) n0_2 n0_2, .slice (some ⟨g6_3, 0, none⟩) n0_3 n0_3] 36)).cell? ⟨w.heap.size, 0, none⟩ = some (.slice a0_1 n0_1 c0_1) := (K0.out.keep (show Below w6.heap.size w6 (w6.alloc (.cells #[.slice (some ⟨g6_1, 0, none⟩) n0_1 n0_1, .slice (some ⟨g6_2, 0, none⟩) n0_2 n0_2, .slice (some ⟨g6_3, 0, none⟩) n0_3 n0_3] 36)) from bel)).cell 0
      have u_K0_1 : (w6.alloc (.cells #[.slice (some ⟨g6_1, 0, none⟩) n0_1 n0_1, .slice (some ⟨g6_2, 0, none⟩) n0_2 n0_2, .slice (some ⟨g6_3, 0, none⟩) n0_3 n0_3] 36)).cell? ⟨w.heap.size, 1, none⟩ = some (.slice a0_2 n0_2 c0_2) := (K0.out.keep (show Below w6.heap.size w6 (w6.alloc (.cells #[.slice (some ⟨g6_1, 0, none⟩) n0_1 n0_1, .slice (some ⟨g6_2, 0, none⟩) n0_2 n0_2, .slice (some ⟨g6_3, 0, none⟩) n0_3 n0_3] 36)) from bel)).cell 1
      have u_K0_2 : (w6.alloc (.cells #[.slice (some ⟨g6_1, 0, none⟩) n0_1 n0_1, .slice (some ⟨g6_2, 0, none⟩) n0_2 n0_2, .slice (some ⟨g6_3, 0, none⟩) n0_3 n0_3] 36)).cell? ⟨w.heap.size, 2, none⟩ = some (.slice a0_3 n0_3 c0_3) := (K0.out.keep (show Below w6.heap.size w6 (w6.alloc (.cells #[.slice (some ⟨g6_1, 0, none⟩) n0_1 n0_1, .slice (some ⟨g6_2, 0, none⟩) n0_2 n0_2, .slice (some ⟨g6_3, 0, none⟩) n0_3 n0_3] 36)) from bel)).cell 2
      have v_K0 : w.heap.size < (w6.alloc (.cells #[.slice (some ⟨g6_1, 0, none⟩) n0_1 n0_1, .slice (some ⟨g6_2, 0, none⟩) n0_2 n0_2, .slice (some ⟨g6_3, 0, none⟩) n0_3 n0_3] 36)).heap.size := (K0.out.keep (show Below w6.heap.size w6 (w6.alloc (.cells #[.slice (some ⟨g6_1, 0, none⟩) n0_1 n0_1, .slice (some ⟨g6_2, 0, none⟩) n0_2 n0_2, .slice (some ⟨g6_3, 0, none⟩) n0_3 n0_3] 36)) from bel)).lt
      have u_K1_0 : (w6.alloc (.cells #[.slice (some ⟨g6_1, 0, none⟩) n0_1 n0_1, .slice (some ⟨g6_2, 0, none⟩) n0_2 n0_2, .slice (some ⟨g6_3, 0, none⟩) n0_3 n0_3] 36)).cell? ⟨w.heap.size + 1, 0, none⟩ = some (.int .i64 b1) := (K1.out.keep (show Below w6.heap.size w6 (w6.alloc (.cells #[.slice (some ⟨g6_1, 0, none⟩) n0_1 n0_1, .slice (some ⟨g6_2, 0, none⟩) n0_2 n0_2, .slice (some ⟨g6_3, 0, none⟩) n0_3 n0_3] 36)) from bel)).cell 0
      have u_K1_1 : (w6.alloc (.cells #[.slice (some ⟨g6_1, 0, none⟩) n0_1 n0_1, .slice (some ⟨g6_2, 0, none⟩) n0_2 n0_2, .slice (some ⟨g6_3, 0, none⟩) n0_3 n0_3] 36)).cell? ⟨w.heap.size + 1, 1, none⟩ = some (.slice a1 n1 c1) := (K1.out.keep (show Below w6.heap.size w6 (w6.alloc (.cells #[.slice (some ⟨g6_1, 0, none⟩) n0_1 n0_1, .slice (some ⟨g6_2, 0, none⟩) n0_2 n0_2, .slice (some ⟨g6_3, 0, none⟩) n0_3 n0_3] 36)) from bel)).cell 1
      have u_K1_2 : (w6.alloc (.cells #[.slice (some ⟨g6_1, 0, none⟩) n0_1 n0_1, .slice (some ⟨g6_2, 0, none⟩) n0_2 n0_2, .slice (some ⟨g6_3, 0, none⟩) n0_3 n0_3] 36)).cell? ⟨w.heap.size + 1, 2, none⟩ = some (.int .i64 r1) := (K1.out.keep (show Below w6.heap.size w6 (w6.alloc (.cells #[.slice (some ⟨g6_1, 0, none⟩) n0_1 n0_1, .slice (some ⟨g6_2, 0, none⟩) n0_2 n0_2, .slice (some ⟨g6_3, 0, none⟩) n0_3 n0_3] 36)) from bel)).cell 2
      have v_K1 : w.heap.size + 1 < (w6.alloc (.cells #[.slice (some ⟨g6_1, 0, none⟩) n0_1 n0_1, .slice (some ⟨g6_2, 0, none⟩) n0_2 n0_2, .slice (some ⟨g6_3, 0, none⟩) n0_3 n0_3] 36)).heap.size := (K1.out.keep (show Below w6.heap.size w6 (w6.alloc (.cells #[.slice (some ⟨g6_1, 0, none⟩) n0_1 n0_1, .slice (some ⟨g6_2, 0, none⟩) n0_2 n0_2, .slice (some ⟨g6_3, 0, none⟩) n0_3 n0_3] 36)) from bel)).lt
      have y_X0 : Blk (w6.alloc (.cells #[.slice (some ⟨g6_1, 0, none⟩) n0_1 n0_1, .slice (some ⟨g6_2, 0, none⟩) n0_2 n0_2, .slice (some ⟨g6_3, 0, none⟩) n0_3 n0_3] 36)) (w6.heap.size) #[.slice (some ⟨g6_1, 0, none⟩) n0_1 n0_1, .slice (some ⟨g6_2, 0, none⟩) n0_2 n0_2, .slice (some ⟨g6_3, 0, none⟩) n0_3 n0_3] 36 := by have hh := (Blk.made w6 #[.slice (some ⟨g6_1, 0, none⟩) n0_1 n0_1, .slice (some ⟨g6_2, 0, none⟩) n0_2 n0_2, .slice (some ⟨g6_3, 0, none⟩) n0_3 n0_3] 36); simpa using hh
      have u_X0_0 : (w6.alloc (.cells #[.slice (some ⟨g6_1, 0, none⟩) n0_1 n0_1, .slice (some ⟨g6_2, 0, none⟩) n0_2 n0_2, .slice (some ⟨g6_3, 0, none⟩) n0_3 n0_3] 36)).cell? ⟨w6.heap.size, 0, none⟩ = some (.slice (some ⟨g6_1, 0, none⟩) n0_1 n0_1) := y_X0.cell 0
      have u_X0_1 : (w6.alloc (.cells #[.slice (some ⟨g6_1, 0, none⟩) n0_1 n0_1, .slice (some ⟨g6_2, 0, none⟩) n0_2 n0_2, .slice (some ⟨g6_3, 0, none⟩) n0_3 n0_3] 36)).cell? ⟨w6.heap.size, 1, none⟩ = some (.slice (some ⟨g6_2, 0, none⟩) n0_2 n0_2) := y_X0.cell 1
      have u_X0_2 : (w6.alloc (.cells #[.slice (some ⟨g6_1, 0, none⟩) n0_1 n0_1, .slice (some ⟨g6_2, 0, none⟩) n0_2 n0_2, .slice (some ⟨g6_3, 0, none⟩) n0_3 n0_3] 36)).cell? ⟨w6.heap.size, 2, none⟩ = some (.slice (some ⟨g6_3, 0, none⟩) n0_3 n0_3) := y_X0.cell 2
      have v_X0 : w6.heap.size < (w6.alloc (.cells #[.slice (some ⟨g6_1, 0, none⟩) n0_1 n0_1, .slice (some ⟨g6_2, 0, none⟩) n0_2 n0_2, .slice (some ⟨g6_3, 0, none⟩) n0_3 n0_3] 36)).heap.size := y_X0.lt
      go_wp2_with fail
      refine Calls.mono (laws_toDiagram (HI1.out.keep bel) hn1) ?_
      rintro e w7 ⟨g7, rfl, hb_w7, ho7⟩
      have hs_w7 := hb_w7.size
      simp at hs_w7
      clear u_K0_0 u_K0_1 u_K0_2 v_K0 u_K1_0 u_K1_1 u_K1_2 v_K1 y_X0 u_X0_0 u_X0_1 u_X0_2 v_X0
      have ko7 := ho7.blk g7 rfl
      have O7 := Lib.hid (ho7.own)
      clear ho7
      simp at O7 ko7
      have hst : Below w6.heap.size w6 w7 := bel
      have hB_w7 : Below w.heap.size w w7 := below_callS hB_w6 hst
      replace K0 := Lib.hid (K0.out.keep hst)
      replace K1 := Lib.hid (K1.out.keep hst)
      replace O5_0 := Lib.hid (O5_0.out.keep hst)
      replace O6 := Lib.hid (O6.out.keep hst)
      have X0 := Lib.hid (show Blk w7 (w6.heap.size) #[.slice (some ⟨g6_1, 0, none⟩) n0_1 n0_1, .slice (some ⟨g6_2, 0, none⟩) n0_2 n0_2, .slice (some ⟨g6_3, 0, none⟩) n0_3 n0_3] 36 by have hh := ((Blk.made w6 #[.slice (some ⟨g6_1, 0, none⟩) n0_1 n0_1, .slice (some ⟨g6_2, 0, none⟩) n0_2 n0_2, .slice (some ⟨g6_3, 0, none⟩) n0_3 n0_3] 36)).keep hb_w7; simpa using hh)
      clear hst hb_w7 hB_w6
      have u_K0_0 : (w7.alloc (.cells #[.int .i64 b1, .slice (some ⟨g7, 0, none⟩) n1 n1, .int .i64 r1] 40)).cell? ⟨w.heap.size, 0, none⟩ = some (.slice a0_1 n0_1 c0_1) := (K0.out.keep (show Below w7.heap.size w7 (w7.alloc (.cells #[.int .i64 b1, .slice (some ⟨g7, 0, none⟩) n1 n1, .int .i64 r1] 40)) from bel)).cell 0
      have u_K0_1 : (w7.alloc (.cells #[.int .i64 b1, .slice (some ⟨g7, 0, none⟩) n1 n1, .int .i64 r1] 40)).cell? ⟨w.heap.size, 1, none⟩ = some (.slice a0_2 n0_2 c0_2) := (K0.out.keep (show Below w7.heap.size w7 (w7.alloc (.cells #[.int .i64 b1, .slice (some ⟨g7, 0, none⟩) n1 n1, .int .i64 r1] 40)) from bel)).cell 1
      have u_K0_2 : (w7.alloc (.cells #[.int .i64 b1, .slice (some ⟨g7, 0, none⟩) n1 n1, .int .i64 r1] 40)).cell? ⟨w.heap.size, 2, none⟩ = some (.slice a0_3 n0_3 c0_3) := (K0.out.keep (show Below w7.heap.size w7 (w7.alloc (.cells #[.int .i64 b1, .slice (some ⟨g7, 0, none⟩) n1 n1, .int .i64 r1] 40)) from bel)).cell 2
      have v_K0 : w.heap.size < (w7.alloc (.cells #[.int .i64 b1, .slice (some ⟨g7, 0, none⟩) n1 n1, .int .i64 r1] 40)).heap.size := (K0.out.keep (show Below w7.heap.size w7 (w7.alloc (.cells #[.int .i64 b1, .slice (some ⟨g7, 0, none⟩) n1 n1, .int .i64 r1] 40)) from bel)).lt
      have u_K1_0 : (w7.alloc (.cells #[.int .i64 b1, .slice (some ⟨g7, 0, none⟩) n1 n1, .int .i64 r1] 40)).cell? ⟨w.heap.size + 1, 0, none⟩ = some (.int .i64 b1) := (K1.out.keep (show Below w7.heap.size w7 (w7.alloc (.cells #[.int .i64 b1, .slice (some ⟨g7, 0, none⟩) n1 n1, .int .i64 r1] 40)) from bel)).cell 0
      have u_K1_1 : (w7.alloc (.cells #[.int .i64 b1, .slice (some ⟨g7, 0, none⟩) n1 n1, .int .i64 r1] 40)).cell? ⟨w.heap.size + 1, 1, none⟩ = some (.slice a1 n1 c1) := (K1.out.keep (show Below w7.heap.size w7 (w7.alloc (.cells #[.int .i64 b1, .slice (some ⟨g7, 0, none⟩) n1 n1, .int .i64 r1] 40)) from bel)).cell 1
      have u_K1_2 : (w7.alloc (.cells #[.int .i64 b1, .slice (some ⟨g7, 0, none⟩) n1 n1, .int .i64 r1] 40)).cell? ⟨w.heap.size + 1, 2, none⟩ = some (.int .i64 r1) := (K1.out.keep (show Below w7.heap.size w7 (w7.alloc (.cells #[.int .i64 b1, .slice (some ⟨g7, 0, none⟩) n1 n1, .int .i64 r1] 40)) from bel)).cell 2
      have v_K1 : w.heap.size + 1 < (w7.alloc (.cells #[.int .i64 b1, .slice (some ⟨g7, 0, none⟩) n1 n1, .int .i64 r1] 40)).heap.size := (K1.out.keep (show Below w7.heap.size w7 (w7.alloc (.cells #[.int .i64 b1, .slice (some ⟨g7, 0, none⟩) n1 n1, .int .i64 r1] 40)) from bel)).lt
      have u_X0_0 : (w7.alloc (.cells #[.int .i64 b1, .slice (some ⟨g7, 0, none⟩) n1 n1, .int .i64 r1] 40)).cell? ⟨w6.heap.size, 0, none⟩ = some (.slice (some ⟨g6_1, 0, none⟩) n0_1 n0_1) := (X0.out.keep (show Below w7.heap.size w7 (w7.alloc (.cells #[.int .i64 b1, .slice (some ⟨g7, 0, none⟩) n1 n1, .int .i64 r1] 40)) from bel)).cell 0
      have u_X0_1 : (w7.alloc (.cells #[.int .i64 b1, .slice (some ⟨g7, 0, none⟩) n1 n1, .int .i64 r1] 40)).cell? ⟨w6.heap.size, 1, none⟩ = some (.slice (some ⟨g6_2, 0, none⟩) n0_2 n0_2) := (X0.out.keep (show Below w7.heap.size w7 (w7.alloc (.cells #[.int .i64 b1, .slice (some ⟨g7, 0, none⟩) n1 n1, .int .i64 r1] 40)) from bel)).cell 1
      have u_X0_2 : (w7.alloc (.cells #[.int .i64 b1, .slice (some ⟨g7, 0, none⟩) n1 n1, .int .i64 r1] 40)).cell? ⟨w6.heap.size, 2, none⟩ = some (.slice (some ⟨g6_3, 0, none⟩) n0_3 n0_3) := (X0.out.keep (show Below w7.heap.size w7 (w7.alloc (.cells #[.int .i64 b1, .slice (some ⟨g7, 0, none⟩) n1 n1, .int .i64 r1] 40)) from bel)).cell 2
      have v_X0 : w6.heap.size < (w7.alloc (.cells #[.int .i64 b1, .slice (some ⟨g7, 0, none⟩) n1 n1, .int .i64 r1] 40)).heap.size := (X0.out.keep (show Below w7.heap.size w7 (w7.alloc (.cells #[.int .i64 b1, .slice (some ⟨g7, 0, none⟩) n1 n1, .int .i64 r1] 40)) from bel)).lt
      have y_X1 : Blk (w7.alloc (.cells #[.int .i64 b1, .slice (some ⟨g7, 0, none⟩) n1 n1, .int .i64 r1] 40)) (w7.heap.size) #[.int .i64 b1, .slice (some ⟨g7, 0, none⟩) n1 n1, .int .i64 r1] 40 := by have hh := (Blk.made w7 #[.int .i64 b1, .slice (some ⟨g7, 0, none⟩) n1 n1, .int .i64 r1] 40); simpa using hh
      have u_X1_0 : (w7.alloc (.cells #[.int .i64 b1, .slice (some ⟨g7, 0, none⟩) n1 n1, .int .i64 r1] 40)).cell? ⟨w7.heap.size, 0, none⟩ = some (.int .i64 b1) := y_X1.cell 0
      have u_X1_1 : (w7.alloc (.cells #[.int .i64 b1, .slice (some ⟨g7, 0, none⟩) n1 n1, .int .i64 r1] 40)).cell? ⟨w7.heap.size, 1, none⟩ = some (.slice (some ⟨g7, 0, none⟩) n1 n1) := y_X1.cell 1
      have u_X1_2 : (w7.alloc (.cells #[.int .i64 b1, .slice (some ⟨g7, 0, none⟩) n1 n1, .int .i64 r1] 40)).cell? ⟨w7.heap.size, 2, none⟩ = some (.int .i64 r1) := y_X1.cell 2
      have v_X1 : w7.heap.size < (w7.alloc (.cells #[.int .i64 b1, .slice (some ⟨g7, 0, none⟩) n1 n1, .int .i64 r1] 40)).heap.size := y_X1.lt
      go_wp2_with fail
      refine Calls.mono (Himpl.out _ _ _ _ _ ((O6.out.keep (show Below w7.heap.size w7 (w7.alloc (.cells #[.int .i64 b1, .slice (some ⟨g7, 0, none⟩) n1 n1, .int .i64 r1] 40)) from bel)).fact.rd) ((O7.out.keep (show Below w7.heap.size w7 (w7.alloc (.cells #[.int .i64 b1, .slice (some ⟨g7, 0, none⟩) n1 n1, .int .i64 r1] 40)) from bel)).fact.flats)) ?_
      rintro e w8 ⟨a8_0, c8_0, rfl, hb_w8, ho8_0⟩
      have hs_w8 := hb_w8.size
      simp at hs_w8
      clear u_K0_0 u_K0_1 u_K0_2 v_K0 u_K1_0 u_K1_1 u_K1_2 v_K1 u_X0_0 u_X0_1 u_X0_2 v_X0 y_X1 u_X1_0 u_X1_1 u_X1_2 v_X1
      have O8_0 := Lib.hid (ho8_0.own (Nat.le_refl _))
      clear ho8_0
      simp at O8_0
      have hst : Below w7.heap.size w7 w8 := bel
      have hB_w8 : Below w.heap.size w w8 := below_callS hB_w7 hst
      replace K0 := Lib.hid (K0.out.keep hst)
      replace K1 := Lib.hid (K1.out.keep hst)
      replace X0 := Lib.hid (X0.out.keep hst)
      replace O5_0 := Lib.hid (O5_0.out.keep hst)
      replace O6 := Lib.hid (O6.out.keep hst)
      replace O7 := Lib.hid (O7.out.keep hst)
      have X1 := Lib.hid (show Blk w8 (w7.heap.size) #[.int .i64 b1, .slice (some ⟨g7, 0, none⟩) n1 n1, .int .i64 r1] 40 by have hh := ((Blk.made w7 #[.int .i64 b1, .slice (some ⟨g7, 0, none⟩) n1 n1, .int .i64 r1] 40)).keep hb_w8; simpa using hh)
      clear hst hb_w8 hB_w7
      have u_K0_0 : w8.cell? ⟨w.heap.size, 0, none⟩ = some (.slice a0_1 n0_1 c0_1) := (K0.out).cell 0
      have u_K0_1 : w8.cell? ⟨w.heap.size, 1, none⟩ = some (.slice a0_2 n0_2 c0_2) := (K0.out).cell 1
      have u_K0_2 : w8.cell? ⟨w.heap.size, 2, none⟩ = some (.slice a0_3 n0_3 c0_3) := (K0.out).cell 2
      have v_K0 : w.heap.size < w8.heap.size := (K0.out).lt
      have u_K1_0 : w8.cell? ⟨w.heap.size + 1, 0, none⟩ = some (.int .i64 b1) := (K1.out).cell 0
      have u_K1_1 : w8.cell? ⟨w.heap.size + 1, 1, none⟩ = some (.slice a1 n1 c1) := (K1.out).cell 1
      have u_K1_2 : w8.cell? ⟨w.heap.size + 1, 2, none⟩ = some (.int .i64 r1) := (K1.out).cell 2
      have v_K1 : w.heap.size + 1 < w8.heap.size := (K1.out).lt
      have u_X0_0 : w8.cell? ⟨w6.heap.size, 0, none⟩ = some (.slice (some ⟨g6_1, 0, none⟩) n0_1 n0_1) := (X0.out).cell 0
      have u_X0_1 : w8.cell? ⟨w6.heap.size, 1, none⟩ = some (.slice (some ⟨g6_2, 0, none⟩) n0_2 n0_2) := (X0.out).cell 1
      have u_X0_2 : w8.cell? ⟨w6.heap.size, 2, none⟩ = some (.slice (some ⟨g6_3, 0, none⟩) n0_3 n0_3) := (X0.out).cell 2
      have v_X0 : w6.heap.size < w8.heap.size := (X0.out).lt
      have u_X1_0 : w8.cell? ⟨w7.heap.size, 0, none⟩ = some (.int .i64 b1) := (X1.out).cell 0
      have u_X1_1 : w8.cell? ⟨w7.heap.size, 1, none⟩ = some (.slice (some ⟨g7, 0, none⟩) n1 n1) := (X1.out).cell 1
      have u_X1_2 : w8.cell? ⟨w7.heap.size, 2, none⟩ = some (.int .i64 r1) := (X1.out).cell 2
      have v_X1 : w7.heap.size < w8.heap.size := (X1.out).lt
      go_wp2_with fail
      refine Calls.mono (laws_eqInt64SS ((O8_0.out).fact.rdS) ((O5_0.out).fact.rdS) (by omega) (by omega)) ?_
      rintro e w9 ⟨rfl, hb_w9⟩
      have hs_w9 := hb_w9.size
      clear u_K0_0 u_K0_1 u_K0_2 v_K0 u_K1_0 u_K1_1 u_K1_2 v_K1 u_X0_0 u_X0_1 u_X0_2 v_X0 u_X1_0 u_X1_1 u_X1_2 v_X1
      have hst : Below w8.heap.size w8 w9 := bel
      have hB_w9 : Below w.heap.size w w9 := below_callS hB_w8 hst
      replace K0 := Lib.hid (K0.out.keep hst)
      replace K1 := Lib.hid (K1.out.keep hst)
      replace X0 := Lib.hid (X0.out.keep hst)
      replace X1 := Lib.hid (X1.out.keep hst)
      replace O5_0 := Lib.hid (O5_0.out.keep hst)
      replace O6 := Lib.hid (O6.out.keep hst)
      replace O7 := Lib.hid (O7.out.keep hst)
      replace O8_0 := Lib.hid (O8_0.out.keep hst)
      clear hst hb_w9 hB_w8
      go_wp2_with fail
      refine wp_region_noPanic ?_
      refine wp_region_held_drew (S := fun wx => Blk wx (w6.heap.size) #[.slice (some ⟨g6_1, 0, none⟩) n0_1 n0_1, .slice (some ⟨g6_2, 0, none⟩) n0_2 n0_2, .slice (some ⟨g6_3, 0, none⟩) n0_3 n0_3] 36 ∧ Blk wx (w.heap.size) #[.slice a0_1 n0_1 c0_1, .slice a0_2 n0_2 c0_2, .slice a0_3 n0_3 c0_3] 25) (by kernel_rfl) ?_ (fun hHeld => ?_)
      · exact ⟨X0.out.keep (Below.refl _ _).drew, K0.out.keep (Below.refl _ _).drew⟩
      have hx : Below w9.heap.size w9 w9.drew := (Below.refl _ _).drew
      refine tkH0 0 (v := ?_) ?_ ?_
      rotate_left
      · (intro wv hSw; obtain ⟨hq0, hq1⟩ := hSw; have q0_0 := hq0.cell 0; have q0_1 := hq0.cell 1; have q0_2 := hq0.cell 2; have q1_0 := hq1.cell 0; have q1_1 := hq1.cell 1; have q1_2 := hq1.cell 2; have z0 := hq0.lt; have z1 := hq1.lt; simp only [List.getElem?_toArray, List.getElem?_cons_zero, List.getElem?_cons_succ] at q0_0 q0_1 q0_2 q1_0 q1_1 q1_2; clear hq0 hq1; go_simp; try with_reducible rfl)
      try simp only [Act.put, s1, s2, s3]
      refine tkH0 1 (v := ?_) ?_ ?_
      rotate_left
      · (intro wv hSw; obtain ⟨hq0, hq1⟩ := hSw; have q0_0 := hq0.cell 0; have q0_1 := hq0.cell 1; have q0_2 := hq0.cell 2; have q1_0 := hq1.cell 0; have q1_1 := hq1.cell 1; have q1_2 := hq1.cell 2; have z0 := hq0.lt; have z1 := hq1.lt; simp only [List.getElem?_toArray, List.getElem?_cons_zero, List.getElem?_cons_succ] at q0_0 q0_1 q0_2 q1_0 q1_1 q1_2; clear hq0 hq1; go_simp; try with_reducible rfl)
      try simp only [Act.put, s1, s2, s3]
      refine wpAnyH_ready (rs := [2]) (by kernel_rfl) (by simp) ?_
      refine AllReadyH.cons rfl (fun K hK => ?_) AllReadyH.nil
      go_simp
      refine Calls.mono (laws_toModel (HI0.out.keep (below_callS hB_w9 hx))) ?_
      rintro e w10 ⟨gw10_1, gw10_2, gw10_3, rfl, hbn, ho⟩
      have C9 := Lib.hid ho.rd
      replace hx := below_callS hx hbn
      clear ho hbn hHeld
      go_wp2_with fail
      refine hK.out _ _ ⟨X0.out.keep hx, K0.out.keep hx⟩ (fun hHeld => ?_)
      clear hK K
      try simp only [Act.put, s1, s2, s3]
      refine wpAnyH_ready (rs := [3]) (by kernel_rfl) (by simp) ?_
      refine AllReadyH.cons rfl (fun K hK => ?_) AllReadyH.nil
      go_simp
      refine Calls.mono (laws_eqModel (O6.out.keep hx).fact.rd C9.out) ?_
      rintro e w11 ⟨rfl, hbn⟩
      replace hx := below_callS hx hbn
      clear hbn hHeld C9
      go_wp2_with fail
      refine hK.out _ _ ⟨X0.out.keep hx, K0.out.keep hx⟩ (fun hHeld => ?_)
      clear hK K
      try simp only [Act.put, s1, s2, s3]
      refine tkH0 4 (v := ?_) ?_ ?_
      rotate_left
      · (intro wv hSw; clear hSw; go_simp; try with_reducible rfl)
      try simp only [Act.put, s1, s2, s3]
      refine wpAnyH_done (by kernel_rfl) ?_ _
      refine NoPanic.normal ?_
      clear hHeld
      have hb_w11 := hx
      have hs_w11 := hx.size
      have hst : Below w9.heap.size w9 w11 := bel
      have hB_w11 : Below w.heap.size w w11 := below_callS hB_w9 hst
      replace K0 := Lib.hid (K0.out.keep hst)
      replace K1 := Lib.hid (K1.out.keep hst)
      replace X0 := Lib.hid (X0.out.keep hst)
      replace X1 := Lib.hid (X1.out.keep hst)
      replace O5_0 := Lib.hid (O5_0.out.keep hst)
      replace O6 := Lib.hid (O6.out.keep hst)
      replace O7 := Lib.hid (O7.out.keep hst)
      replace O8_0 := Lib.hid (O8_0.out.keep hst)
      clear hst hb_w11 hB_w9
      clear hx
      go_wp2_with fail
      refine wp_region_noPanic ?_
      refine wp_region_held_drew (S := fun wx => Blk wx (w7.heap.size) #[.int .i64 b1, .slice (some ⟨g7, 0, none⟩) n1 n1, .int .i64 r1] 40 ∧ Blk wx (w.heap.size + 1) #[.int .i64 b1, .slice a1 n1 c1, .int .i64 r1] 28) (by kernel_rfl) ?_ (fun hHeld => ?_)
      · exact ⟨X1.out.keep (Below.refl _ _).drew, K1.out.keep (Below.refl _ _).drew⟩
      have hx : Below w11.heap.size w11 w11.drew := (Below.refl _ _).drew
      refine tkH0 0 (v := ?_) ?_ ?_
      rotate_left
      · (intro wv hSw; obtain ⟨hq0, hq1⟩ := hSw; have q0_0 := hq0.cell 0; have q0_1 := hq0.cell 1; have q0_2 := hq0.cell 2; have q1_0 := hq1.cell 0; have q1_1 := hq1.cell 1; have q1_2 := hq1.cell 2; have z0 := hq0.lt; have z1 := hq1.lt; simp only [List.getElem?_toArray, List.getElem?_cons_zero, List.getElem?_cons_succ] at q0_0 q0_1 q0_2 q1_0 q1_1 q1_2; clear hq0 hq1; go_simp; try with_reducible rfl)
      try simp only [Act.put, s1, s2, s3]
      refine tkH0 1 (v := ?_) ?_ ?_
      rotate_left
      · (intro wv hSw; obtain ⟨hq0, hq1⟩ := hSw; have q0_0 := hq0.cell 0; have q0_1 := hq0.cell 1; have q0_2 := hq0.cell 2; have q1_0 := hq1.cell 0; have q1_1 := hq1.cell 1; have q1_2 := hq1.cell 2; have z0 := hq0.lt; have z1 := hq1.lt; simp only [List.getElem?_toArray, List.getElem?_cons_zero, List.getElem?_cons_succ] at q0_0 q0_1 q0_2 q1_0 q1_1 q1_2; clear hq0 hq1; go_simp; try with_reducible rfl)
      try simp only [Act.put, s1, s2, s3]
      refine wpAnyH_ready (rs := [2]) (by kernel_rfl) (by simp) ?_
      refine AllReadyH.cons rfl (fun K hK => ?_) AllReadyH.nil
      go_simp
      refine Calls.mono (laws_toDiagram (HI1.out.keep (below_callS hB_w11 hx)) hn1) ?_
      rintro e w12 ⟨gw12, rfl, hbn, ho⟩
      have C9 := Lib.hid ho.flats
      replace hx := below_callS hx hbn
      clear ho hbn hHeld
      go_wp2_with fail
      refine hK.out _ _ ⟨X1.out.keep hx, K1.out.keep hx⟩ (fun hHeld => ?_)
      clear hK K
      try simp only [Act.put, s1, s2, s3]
      refine wpAnyH_ready (rs := [3]) (by kernel_rfl) (by simp) ?_
      refine AllReadyH.cons rfl (fun K hK => ?_) AllReadyH.nil
      go_simp
      refine Calls.mono (laws_eqDiagram (O7.out.keep hx).fact.flats C9.out hn1 hn1) ?_
      rintro e w13 ⟨rfl, hbn⟩
      replace hx := below_callS hx hbn
      clear hbn hHeld C9
      go_wp2_with fail
      refine hK.out _ _ ⟨X1.out.keep hx, K1.out.keep hx⟩ (fun hHeld => ?_)
      clear hK K
      try simp only [Act.put, s1, s2, s3]
      refine tkH0 4 (v := ?_) ?_ ?_
      rotate_left
      · (intro wv hSw; clear hSw; go_simp; try with_reducible rfl)
      try simp only [Act.put, s1, s2, s3]
      refine wpAnyH_done (by kernel_rfl) ?_ _
      refine NoPanic.normal ?_
      clear hHeld
      have hb_w13 := hx
      have hs_w13 := hx.size
      have hst : Below w11.heap.size w11 w13 := bel
      have hB_w13 : Below w.heap.size w w13 := below_callS hB_w11 hst
      replace K0 := Lib.hid (K0.out.keep hst)
      replace K1 := Lib.hid (K1.out.keep hst)
      replace X0 := Lib.hid (X0.out.keep hst)
      replace X1 := Lib.hid (X1.out.keep hst)
      replace O5_0 := Lib.hid (O5_0.out.keep hst)
      replace O6 := Lib.hid (O6.out.keep hst)
      replace O7 := Lib.hid (O7.out.keep hst)
      replace O8_0 := Lib.hid (O8_0.out.keep hst)
      clear hst hb_w13 hB_w11
      clear hx
      have u_K0_0 : w13.cell? ⟨w.heap.size, 0, none⟩ = some (.slice a0_1 n0_1 c0_1) := (K0.out).cell 0
      have u_K0_1 : w13.cell? ⟨w.heap.size, 1, none⟩ = some (.slice a0_2 n0_2 c0_2) := (K0.out).cell 1
      have u_K0_2 : w13.cell? ⟨w.heap.size, 2, none⟩ = some (.slice a0_3 n0_3 c0_3) := (K0.out).cell 2
      have v_K0 : w.heap.size < w13.heap.size := (K0.out).lt
      have u_K1_0 : w13.cell? ⟨w.heap.size + 1, 0, none⟩ = some (.int .i64 b1) := (K1.out).cell 0
      have u_K1_1 : w13.cell? ⟨w.heap.size + 1, 1, none⟩ = some (.slice a1 n1 c1) := (K1.out).cell 1
      have u_K1_2 : w13.cell? ⟨w.heap.size + 1, 2, none⟩ = some (.int .i64 r1) := (K1.out).cell 2
      have v_K1 : w.heap.size + 1 < w13.heap.size := (K1.out).lt
      have u_X0_0 : w13.cell? ⟨w6.heap.size, 0, none⟩ = some (.slice (some ⟨g6_1, 0, none⟩) n0_1 n0_1) := (X0.out).cell 0
      have u_X0_1 : w13.cell? ⟨w6.heap.size, 1, none⟩ = some (.slice (some ⟨g6_2, 0, none⟩) n0_2 n0_2) := (X0.out).cell 1
      have u_X0_2 : w13.cell? ⟨w6.heap.size, 2, none⟩ = some (.slice (some ⟨g6_3, 0, none⟩) n0_3 n0_3) := (X0.out).cell 2
      have v_X0 : w6.heap.size < w13.heap.size := (X0.out).lt
      have u_X1_0 : w13.cell? ⟨w7.heap.size, 0, none⟩ = some (.int .i64 b1) := (X1.out).cell 0
      have u_X1_1 : w13.cell? ⟨w7.heap.size, 1, none⟩ = some (.slice (some ⟨g7, 0, none⟩) n1 n1) := (X1.out).cell 1
      have u_X1_2 : w13.cell? ⟨w7.heap.size, 2, none⟩ = some (.int .i64 r1) := (X1.out).cell 2
      have v_X1 : w7.heap.size < w13.heap.size := (X1.out).lt
      go_wp2_with fail
      refine Calls.mono (laws_markModel O6.out.fact hC0 (by omega) (by omega) (by have hh := O6.out.upto; exact hh)) ?_
      rintro e w14 ⟨rfl, hon, ho⟩
      clear u_K0_0 u_K0_1 u_K0_2 v_K0 u_K1_0 u_K1_1 u_K1_2 v_K1 u_X0_0 u_X0_1 u_X0_2 v_X0 u_X1_0 u_X1_1 u_X1_2 v_X1
      have hs_w14 := hon.size
      have nx := O6.out.turn hs_w14 ho MOwn.here
      clear ho
      replace O6 := Lib.hid nx
      clear nx
      have hB_w14 : Below w.heap.size w w14 := hon.below hB_w13 (by omega) (by omega)
      replace K0 := Lib.hid (K0.out.apart hon (by omega))
      replace K1 := Lib.hid (K1.out.apart hon (by omega))
      replace X0 := Lib.hid (X0.out.apart hon (by omega))
      replace X1 := Lib.hid (X1.out.apart hon (by omega))
      replace O5_0 := Lib.hid (O5_0.out.apart hon (by omega))
      replace O7 := Lib.hid (O7.out.apart hon (by omega))
      replace O8_0 := Lib.hid (O8_0.out.apart hon (by omega))
      clear hon hB_w13
      have bd_O7 : ∀ g : Nat, ((some ⟨g7, 0, none⟩) : Option Addr) = some ⟨g, 0, none⟩ → w6.heap.size + 1 ≤ g ∧ g < w7.heap.size := fun g hg => by cases hg; omega
      have u_K0_0 : w14.cell? ⟨w.heap.size, 0, none⟩ = some (.slice a0_1 n0_1 c0_1) := (K0.out).cell 0
      have u_K0_1 : w14.cell? ⟨w.heap.size, 1, none⟩ = some (.slice a0_2 n0_2 c0_2) := (K0.out).cell 1
      have u_K0_2 : w14.cell? ⟨w.heap.size, 2, none⟩ = some (.slice a0_3 n0_3 c0_3) := (K0.out).cell 2
      have v_K0 : w.heap.size < w14.heap.size := (K0.out).lt
      have u_K1_0 : w14.cell? ⟨w.heap.size + 1, 0, none⟩ = some (.int .i64 b1) := (K1.out).cell 0
      have u_K1_1 : w14.cell? ⟨w.heap.size + 1, 1, none⟩ = some (.slice a1 n1 c1) := (K1.out).cell 1
      have u_K1_2 : w14.cell? ⟨w.heap.size + 1, 2, none⟩ = some (.int .i64 r1) := (K1.out).cell 2
      have v_K1 : w.heap.size + 1 < w14.heap.size := (K1.out).lt
      have u_X0_0 : w14.cell? ⟨w6.heap.size, 0, none⟩ = some (.slice (some ⟨g6_1, 0, none⟩) n0_1 n0_1) := (X0.out).cell 0
      have u_X0_1 : w14.cell? ⟨w6.heap.size, 1, none⟩ = some (.slice (some ⟨g6_2, 0, none⟩) n0_2 n0_2) := (X0.out).cell 1
      have u_X0_2 : w14.cell? ⟨w6.heap.size, 2, none⟩ = some (.slice (some ⟨g6_3, 0, none⟩) n0_3 n0_3) := (X0.out).cell 2
      have v_X0 : w6.heap.size < w14.heap.size := (X0.out).lt
      have u_X1_0 : w14.cell? ⟨w7.heap.size, 0, none⟩ = some (.int .i64 b1) := (X1.out).cell 0
      have u_X1_1 : w14.cell? ⟨w7.heap.size, 1, none⟩ = some (.slice (some ⟨g7, 0, none⟩) n1 n1) := (X1.out).cell 1
      have u_X1_2 : w14.cell? ⟨w7.heap.size, 2, none⟩ = some (.int .i64 r1) := (X1.out).cell 2
      have v_X1 : w7.heap.size < w14.heap.size := (X1.out).lt
      go_wp2_with fail
      refine Calls.mono (laws_markDiagram O7.out.fact hn1 (by omega) (by omega)) ?_
      rintro e w15 ⟨rfl, ht, ho⟩
      clear u_K0_0 u_K0_1 u_K0_2 v_K0 u_K1_0 u_K1_1 u_K1_2 v_K1 u_X0_0 u_X0_1 u_X0_2 v_X0 u_X1_0 u_X1_1 u_X1_2 v_X1
      have hs_w15 := ht.size
      have hon : Only (w6.heap.size + 1) (w7.heap.size) w14 w15 := ht.only (fun g hg => bd_O7 g hg)
      have nx := O7.out.turn hs_w15 ho (OwnF.here (fun g hg => bd_O7 g hg))
      clear ho ht
      replace O7 := Lib.hid nx
      clear nx
      have hB_w15 : Below w.heap.size w w15 := hon.below hB_w14 (by omega) (by omega)
      replace K0 := Lib.hid (K0.out.apart hon (by omega))
      replace K1 := Lib.hid (K1.out.apart hon (by omega))
      replace X0 := Lib.hid (X0.out.apart hon (by omega))
      replace X1 := Lib.hid (X1.out.apart hon (by omega))
      replace O5_0 := Lib.hid (O5_0.out.apart hon (by omega))
      replace O6 := Lib.hid (O6.out.apart hon (by omega))
      replace O8_0 := Lib.hid (O8_0.out.apart hon (by omega))
      clear hon hB_w14
      have kq : decide ((1 : Int) + (n0_1 : Int) + (n0_2 : Int) + (n0_4 : Int) + 3 * (n1 : Int) < 0) = false := by simp; omega
      have u_K0_0 : w15.cell? ⟨w.heap.size, 0, none⟩ = some (.slice a0_1 n0_1 c0_1) := (K0.out).cell 0
      have u_K0_1 : w15.cell? ⟨w.heap.size, 1, none⟩ = some (.slice a0_2 n0_2 c0_2) := (K0.out).cell 1
      have u_K0_2 : w15.cell? ⟨w.heap.size, 2, none⟩ = some (.slice a0_3 n0_3 c0_3) := (K0.out).cell 2
      have v_K0 : w.heap.size < w15.heap.size := (K0.out).lt
      have u_K1_0 : w15.cell? ⟨w.heap.size + 1, 0, none⟩ = some (.int .i64 b1) := (K1.out).cell 0
      have u_K1_1 : w15.cell? ⟨w.heap.size + 1, 1, none⟩ = some (.slice a1 n1 c1) := (K1.out).cell 1
      have u_K1_2 : w15.cell? ⟨w.heap.size + 1, 2, none⟩ = some (.int .i64 r1) := (K1.out).cell 2
      have v_K1 : w.heap.size + 1 < w15.heap.size := (K1.out).lt
      have u_X0_0 : w15.cell? ⟨w6.heap.size, 0, none⟩ = some (.slice (some ⟨g6_1, 0, none⟩) n0_1 n0_1) := (X0.out).cell 0
      have u_X0_1 : w15.cell? ⟨w6.heap.size, 1, none⟩ = some (.slice (some ⟨g6_2, 0, none⟩) n0_2 n0_2) := (X0.out).cell 1
      have u_X0_2 : w15.cell? ⟨w6.heap.size, 2, none⟩ = some (.slice (some ⟨g6_3, 0, none⟩) n0_3 n0_3) := (X0.out).cell 2
      have v_X0 : w6.heap.size < w15.heap.size := (X0.out).lt
      have u_X1_0 : w15.cell? ⟨w7.heap.size, 0, none⟩ = some (.int .i64 b1) := (X1.out).cell 0
      have u_X1_1 : w15.cell? ⟨w7.heap.size, 1, none⟩ = some (.slice (some ⟨g7, 0, none⟩) n1 n1) := (X1.out).cell 1
      have u_X1_2 : w15.cell? ⟨w7.heap.size, 2, none⟩ = some (.int .i64 r1) := (X1.out).cell 2
      have v_X1 : w7.heap.size < w15.heap.size := (X1.out).lt
      go_wp2_with fail
      refine Calls.mono (laws_eqInt64SS ((O8_0.out).fact.rdS) ((O5_0.out).fact.rdS) (by omega) (by omega)) ?_
      rintro e w16 ⟨rfl, hb_w16⟩
      have hs_w16 := hb_w16.size
      clear u_K0_0 u_K0_1 u_K0_2 v_K0 u_K1_0 u_K1_1 u_K1_2 v_K1 u_X0_0 u_X0_1 u_X0_2 v_X0 u_X1_0 u_X1_1 u_X1_2 v_X1
      have hst : Below w15.heap.size w15 w16 := bel
      have hB_w16 : Below w.heap.size w w16 := below_callS hB_w15 hst
      replace K0 := Lib.hid (K0.out.keep hst)
      replace K1 := Lib.hid (K1.out.keep hst)
      replace X0 := Lib.hid (X0.out.keep hst)
      replace X1 := Lib.hid (X1.out.keep hst)
      replace O5_0 := Lib.hid (O5_0.out.keep hst)
      replace O6 := Lib.hid (O6.out.keep hst)
      replace O7 := Lib.hid (O7.out.keep hst)
      replace O8_0 := Lib.hid (O8_0.out.keep hst)
      clear hst hb_w16 hB_w15
      have u_K0_0 : w16.cell? ⟨w.heap.size, 0, none⟩ = some (.slice a0_1 n0_1 c0_1) := (K0.out).cell 0
      have u_K0_1 : w16.cell? ⟨w.heap.size, 1, none⟩ = some (.slice a0_2 n0_2 c0_2) := (K0.out).cell 1
      have u_K0_2 : w16.cell? ⟨w.heap.size, 2, none⟩ = some (.slice a0_3 n0_3 c0_3) := (K0.out).cell 2
      have v_K0 : w.heap.size < w16.heap.size := (K0.out).lt
      have u_K1_0 : w16.cell? ⟨w.heap.size + 1, 0, none⟩ = some (.int .i64 b1) := (K1.out).cell 0
      have u_K1_1 : w16.cell? ⟨w.heap.size + 1, 1, none⟩ = some (.slice a1 n1 c1) := (K1.out).cell 1
      have u_K1_2 : w16.cell? ⟨w.heap.size + 1, 2, none⟩ = some (.int .i64 r1) := (K1.out).cell 2
      have v_K1 : w.heap.size + 1 < w16.heap.size := (K1.out).lt
      have u_X0_0 : w16.cell? ⟨w6.heap.size, 0, none⟩ = some (.slice (some ⟨g6_1, 0, none⟩) n0_1 n0_1) := (X0.out).cell 0
      have u_X0_1 : w16.cell? ⟨w6.heap.size, 1, none⟩ = some (.slice (some ⟨g6_2, 0, none⟩) n0_2 n0_2) := (X0.out).cell 1
      have u_X0_2 : w16.cell? ⟨w6.heap.size, 2, none⟩ = some (.slice (some ⟨g6_3, 0, none⟩) n0_3 n0_3) := (X0.out).cell 2
      have v_X0 : w6.heap.size < w16.heap.size := (X0.out).lt
      have u_X1_0 : w16.cell? ⟨w7.heap.size, 0, none⟩ = some (.int .i64 b1) := (X1.out).cell 0
      have u_X1_1 : w16.cell? ⟨w7.heap.size, 1, none⟩ = some (.slice (some ⟨g7, 0, none⟩) n1 n1) := (X1.out).cell 1
      have u_X1_2 : w16.cell? ⟨w7.heap.size, 2, none⟩ = some (.int .i64 r1) := (X1.out).cell 2
      have v_X1 : w7.heap.size < w16.heap.size := (X1.out).lt
      go_wp2_with fail
      refine Calls.mono (laws_markInt64SS O8_0.out.fact (by omega) (by omega) hPP0.out (by omega) (by omega)) ?_
      rintro e w17 ⟨rfl, hon, ho⟩
      clear u_K0_0 u_K0_1 u_K0_2 v_K0 u_K1_0 u_K1_1 u_K1_2 v_K1 u_X0_0 u_X0_1 u_X0_2 v_X0 u_X1_0 u_X1_1 u_X1_2 v_X1
      have hs_w17 := hon.size
      have nx := O8_0.out.turn hs_w17 ho SsO.here
      clear ho
      replace O8_0 := Lib.hid nx
      clear nx
      have hB_w17 : Below w.heap.size w w17 := hon.below hB_w16 (by omega) (by omega)
      replace K0 := Lib.hid (K0.out.apart hon (by omega))
      replace K1 := Lib.hid (K1.out.apart hon (by omega))
      replace X0 := Lib.hid (X0.out.apart hon (by omega))
      replace X1 := Lib.hid (X1.out.apart hon (by omega))
      replace O5_0 := Lib.hid (O5_0.out.apart hon (by omega))
      replace O6 := Lib.hid (O6.out.apart hon (by omega))
      replace O7 := Lib.hid (O7.out.apart hon (by omega))
      clear hon hB_w16
      have e3 : decide ((1 : Int) + (n99_0 : Int) < 0) = false := by simp; omega
      have e4 : ((1 : Int) + (n99_0 : Int) != (1 : Int) + (n99_0 : Int)) = false := by simp
      have u_K0_0 : w17.cell? ⟨w.heap.size, 0, none⟩ = some (.slice a0_1 n0_1 c0_1) := (K0.out).cell 0
      have u_K0_1 : w17.cell? ⟨w.heap.size, 1, none⟩ = some (.slice a0_2 n0_2 c0_2) := (K0.out).cell 1
      have u_K0_2 : w17.cell? ⟨w.heap.size, 2, none⟩ = some (.slice a0_3 n0_3 c0_3) := (K0.out).cell 2
      have v_K0 : w.heap.size < w17.heap.size := (K0.out).lt
      have u_K1_0 : w17.cell? ⟨w.heap.size + 1, 0, none⟩ = some (.int .i64 b1) := (K1.out).cell 0
      have u_K1_1 : w17.cell? ⟨w.heap.size + 1, 1, none⟩ = some (.slice a1 n1 c1) := (K1.out).cell 1
      have u_K1_2 : w17.cell? ⟨w.heap.size + 1, 2, none⟩ = some (.int .i64 r1) := (K1.out).cell 2
      have v_K1 : w.heap.size + 1 < w17.heap.size := (K1.out).lt
      have u_X0_0 : w17.cell? ⟨w6.heap.size, 0, none⟩ = some (.slice (some ⟨g6_1, 0, none⟩) n0_1 n0_1) := (X0.out).cell 0
      have u_X0_1 : w17.cell? ⟨w6.heap.size, 1, none⟩ = some (.slice (some ⟨g6_2, 0, none⟩) n0_2 n0_2) := (X0.out).cell 1
      have u_X0_2 : w17.cell? ⟨w6.heap.size, 2, none⟩ = some (.slice (some ⟨g6_3, 0, none⟩) n0_3 n0_3) := (X0.out).cell 2
      have v_X0 : w6.heap.size < w17.heap.size := (X0.out).lt
      have u_X1_0 : w17.cell? ⟨w7.heap.size, 0, none⟩ = some (.int .i64 b1) := (X1.out).cell 0
      have u_X1_1 : w17.cell? ⟨w7.heap.size, 1, none⟩ = some (.slice (some ⟨g7, 0, none⟩) n1 n1) := (X1.out).cell 1
      have u_X1_2 : w17.cell? ⟨w7.heap.size, 2, none⟩ = some (.int .i64 r1) := (X1.out).cell 2
      have v_X1 : w7.heap.size < w17.heap.size := (X1.out).lt
      go_wp2_with fail
      refine Calls.mono (laws_heldInt64SS ((O8_0.out).fact.rdS) (by omega) (by omega) hPP0.out (by omega) (by omega)) ?_
      rintro e w18 ⟨rfl, hb_w18⟩
      have hs_w18 := hb_w18.size
      clear u_K0_0 u_K0_1 u_K0_2 v_K0 u_K1_0 u_K1_1 u_K1_2 v_K1 u_X0_0 u_X0_1 u_X0_2 v_X0 u_X1_0 u_X1_1 u_X1_2 v_X1
      have hst : Below w17.heap.size w17 w18 := bel
      have hB_w18 : Below w.heap.size w w18 := below_callS hB_w17 hst
      replace K0 := Lib.hid (K0.out.keep hst)
      replace K1 := Lib.hid (K1.out.keep hst)
      replace X0 := Lib.hid (X0.out.keep hst)
      replace X1 := Lib.hid (X1.out.keep hst)
      replace O5_0 := Lib.hid (O5_0.out.keep hst)
      replace O6 := Lib.hid (O6.out.keep hst)
      replace O7 := Lib.hid (O7.out.keep hst)
      replace O8_0 := Lib.hid (O8_0.out.keep hst)
      clear hst hb_w18 hB_w17
      go_wp2_with fail
      refine wp_region_noPanic ?_
      refine wp_region_held_drew (S := fun wx => Blk wx (w.heap.size) #[.slice a0_1 n0_1 c0_1, .slice a0_2 n0_2 c0_2, .slice a0_3 n0_3 c0_3] 25 ∧ Blk wx (w.heap.size + 1) #[.int .i64 b1, .slice a1 n1 c1, .int .i64 r1] 28) (by kernel_rfl) ?_ (fun hHeld => ?_)
      · exact ⟨K0.out.keep (Below.refl _ _).drew, K1.out.keep (Below.refl _ _).drew⟩
      have hx : Below w18.heap.size w18 w18.drew := (Below.refl _ _).drew
      refine tkH0 0 (v := ?_) ?_ ?_
      rotate_left
      · (intro wv hSw; obtain ⟨hq0, hq1⟩ := hSw; have q0_0 := hq0.cell 0; have q0_1 := hq0.cell 1; have q0_2 := hq0.cell 2; have q1_0 := hq1.cell 0; have q1_1 := hq1.cell 1; have q1_2 := hq1.cell 2; have z0 := hq0.lt; have z1 := hq1.lt; simp only [List.getElem?_toArray, List.getElem?_cons_zero, List.getElem?_cons_succ] at q0_0 q0_1 q0_2 q1_0 q1_1 q1_2; clear hq0 hq1; go_simp; try with_reducible rfl)
      try simp only [Act.put, s1, s2, s3]
      refine tkH0 2 (v := ?_) ?_ ?_
      rotate_left
      · (intro wv hSw; obtain ⟨hq0, hq1⟩ := hSw; have q0_0 := hq0.cell 0; have q0_1 := hq0.cell 1; have q0_2 := hq0.cell 2; have q1_0 := hq1.cell 0; have q1_1 := hq1.cell 1; have q1_2 := hq1.cell 2; have z0 := hq0.lt; have z1 := hq1.lt; simp only [List.getElem?_toArray, List.getElem?_cons_zero, List.getElem?_cons_succ] at q0_0 q0_1 q0_2 q1_0 q1_1 q1_2; clear hq0 hq1; go_simp; try with_reducible rfl)
      try simp only [Act.put, s1, s2, s3]
      refine wpAnyH_ready (rs := [1]) (by kernel_rfl) (by simp) ?_
      refine AllReadyH.cons rfl (fun K hK => ?_) AllReadyH.nil
      go_simp
      refine Calls.mono (laws_toModel (HI0.out.keep (below_callS hB_w18 hx))) ?_
      rintro e w19 ⟨w19g1, w19g2, w19g3, rfl, hbn, ho⟩
      have C9_0 := Lib.hid ho.rd
      replace hx := below_callS hx hbn
      clear ho hbn hHeld
      go_wp2_with fail
      refine hK.out _ _ ⟨K0.out.keep hx, K1.out.keep hx⟩ (fun hHeld => ?_)
      clear hK K
      try simp only [Act.put, s1, s2, s3]
      refine wpAnyH_ready (rs := [3]) (by kernel_rfl) (by simp) ?_
      refine AllReadyH.cons rfl (fun K hK => ?_) AllReadyH.nil
      go_simp
      refine Calls.mono (laws_toDiagram (HI1.out.keep (below_callS hB_w18 hx)) hn1) ?_
      rintro e w20 ⟨w20g, rfl, hbn, ho⟩
      replace C9_0 := Lib.hid (C9_0.out.keep hbn)
      have C9_1 := Lib.hid ho.flats
      replace hx := below_callS hx hbn
      clear ho hbn hHeld
      go_wp2_with fail
      refine hK.out _ _ ⟨K0.out.keep hx, K1.out.keep hx⟩ (fun hHeld => ?_)
      clear hK K
      try simp only [Act.put, s1, s2, s3]
      refine wpAnyH_ready (rs := [4]) (by kernel_rfl) (by simp) ?_
      refine AllReadyH.cons rfl (fun K hK => ?_) AllReadyH.nil
      go_simp
      have hz21 := hx.size
      refine Calls.mono (Himpl.out _ _ _ _ _ C9_0.out C9_1.out) ?_
      rintro e w21 ⟨a21_0, c21_0, rfl, hbn, ho⟩
      have O21_0 := Lib.hid (ho.own (Nat.le_refl _))
      have hy21 := hbn.size
      replace hx := below_callS hx hbn
      clear ho hbn hHeld C9_0 C9_1
      go_wp2_with fail
      refine hK.out _ _ ⟨K0.out.keep hx, K1.out.keep hx⟩ (fun hHeld => ?_)
      clear hK K
      try simp only [Act.put, s1, s2, s3]
      refine tkH0 5 (v := ?_) ?_ ?_
      rotate_left
      · (intro wv hSw; clear hSw; go_simp; try with_reducible rfl)
      try simp only [Act.put, s1, s2, s3]
      refine tkH0 6 (v := ?_) ?_ ?_
      rotate_left
      · (intro wv hSw; clear hSw; go_simp; try with_reducible rfl)
      try simp only [Act.put, s1, s2, s3]
      refine tkH0 7 (v := ?_) ?_ ?_
      rotate_left
      · (intro wv hSw; clear hSw; go_simp; try with_reducible rfl)
      try simp only [Act.put, s1, s2, s3]
      refine tkH0 8 (v := ?_) ?_ ?_
      rotate_left
      · (intro wv hSw; clear hSw; go_simp; try with_reducible rfl)
      try simp only [Act.put, s1, s2, s3]
      refine tkH0 9 (v := ?_) ?_ ?_
      rotate_left
      · (intro wv hSw; clear hSw; go_simp; try with_reducible rfl)
      try simp only [Act.put, s1, s2, s3]
      refine wpAnyH_done (by kernel_rfl) ?_ _
      refine NoPanic.normal ?_
      clear hHeld
      have hb_w21 := hx
      have hs_w21 := hx.size
      have hst : Below w18.heap.size w18 w21 := bel
      have hB_w21 : Below w.heap.size w w21 := below_callS hB_w18 hst
      replace K0 := Lib.hid (K0.out.keep hst)
      replace K1 := Lib.hid (K1.out.keep hst)
      replace X0 := Lib.hid (X0.out.keep hst)
      replace X1 := Lib.hid (X1.out.keep hst)
      replace O5_0 := Lib.hid (O5_0.out.keep hst)
      replace O6 := Lib.hid (O6.out.keep hst)
      replace O7 := Lib.hid (O7.out.keep hst)
      replace O8_0 := Lib.hid (O8_0.out.keep hst)
      clear hst hb_w21 hB_w18
      clear hx
      have u_K0_0 : w21.cell? ⟨w.heap.size, 0, none⟩ = some (.slice a0_1 n0_1 c0_1) := (K0.out).cell 0
      have u_K0_1 : w21.cell? ⟨w.heap.size, 1, none⟩ = some (.slice a0_2 n0_2 c0_2) := (K0.out).cell 1
      have u_K0_2 : w21.cell? ⟨w.heap.size, 2, none⟩ = some (.slice a0_3 n0_3 c0_3) := (K0.out).cell 2
      have v_K0 : w.heap.size < w21.heap.size := (K0.out).lt
      have u_K1_0 : w21.cell? ⟨w.heap.size + 1, 0, none⟩ = some (.int .i64 b1) := (K1.out).cell 0
      have u_K1_1 : w21.cell? ⟨w.heap.size + 1, 1, none⟩ = some (.slice a1 n1 c1) := (K1.out).cell 1
      have u_K1_2 : w21.cell? ⟨w.heap.size + 1, 2, none⟩ = some (.int .i64 r1) := (K1.out).cell 2
      have v_K1 : w.heap.size + 1 < w21.heap.size := (K1.out).lt
      have u_X0_0 : w21.cell? ⟨w6.heap.size, 0, none⟩ = some (.slice (some ⟨g6_1, 0, none⟩) n0_1 n0_1) := (X0.out).cell 0
      have u_X0_1 : w21.cell? ⟨w6.heap.size, 1, none⟩ = some (.slice (some ⟨g6_2, 0, none⟩) n0_2 n0_2) := (X0.out).cell 1
      have u_X0_2 : w21.cell? ⟨w6.heap.size, 2, none⟩ = some (.slice (some ⟨g6_3, 0, none⟩) n0_3 n0_3) := (X0.out).cell 2
      have v_X0 : w6.heap.size < w21.heap.size := (X0.out).lt
      have u_X1_0 : w21.cell? ⟨w7.heap.size, 0, none⟩ = some (.int .i64 b1) := (X1.out).cell 0
      have u_X1_1 : w21.cell? ⟨w7.heap.size, 1, none⟩ = some (.slice (some ⟨g7, 0, none⟩) n1 n1) := (X1.out).cell 1
      have u_X1_2 : w21.cell? ⟨w7.heap.size, 2, none⟩ = some (.int .i64 r1) := (X1.out).cell 2
      have v_X1 : w7.heap.size < w21.heap.size := (X1.out).lt
      go_wp2_with fail
      refine Calls.mono (laws_eqInt64SS ((O21_0.out).fact.rdS) ((O5_0.out).fact.rdS) (by omega) (by omega)) ?_
      rintro e w22 ⟨rfl, hb_w22⟩
      have hs_w22 := hb_w22.size
      clear u_K0_0 u_K0_1 u_K0_2 v_K0 u_K1_0 u_K1_1 u_K1_2 v_K1 u_X0_0 u_X0_1 u_X0_2 v_X0 u_X1_0 u_X1_1 u_X1_2 v_X1
      have hst : Below w21.heap.size w21 w22 := bel
      have hB_w22 : Below w.heap.size w w22 := below_callS hB_w21 hst
      replace K0 := Lib.hid (K0.out.keep hst)
      replace K1 := Lib.hid (K1.out.keep hst)
      replace X0 := Lib.hid (X0.out.keep hst)
      replace X1 := Lib.hid (X1.out.keep hst)
      replace O5_0 := Lib.hid (O5_0.out.keep hst)
      replace O6 := Lib.hid (O6.out.keep hst)
      replace O7 := Lib.hid (O7.out.keep hst)
      replace O8_0 := Lib.hid (O8_0.out.keep hst)
      replace O21_0 := Lib.hid (O21_0.out.keep hst)
      clear hst hb_w22 hB_w21
      have u_K0_0 : w22.cell? ⟨w.heap.size, 0, none⟩ = some (.slice a0_1 n0_1 c0_1) := (K0.out).cell 0
      have u_K0_1 : w22.cell? ⟨w.heap.size, 1, none⟩ = some (.slice a0_2 n0_2 c0_2) := (K0.out).cell 1
      have u_K0_2 : w22.cell? ⟨w.heap.size, 2, none⟩ = some (.slice a0_3 n0_3 c0_3) := (K0.out).cell 2
      have v_K0 : w.heap.size < w22.heap.size := (K0.out).lt
      have u_K1_0 : w22.cell? ⟨w.heap.size + 1, 0, none⟩ = some (.int .i64 b1) := (K1.out).cell 0
      have u_K1_1 : w22.cell? ⟨w.heap.size + 1, 1, none⟩ = some (.slice a1 n1 c1) := (K1.out).cell 1
      have u_K1_2 : w22.cell? ⟨w.heap.size + 1, 2, none⟩ = some (.int .i64 r1) := (K1.out).cell 2
      have v_K1 : w.heap.size + 1 < w22.heap.size := (K1.out).lt
      have u_X0_0 : w22.cell? ⟨w6.heap.size, 0, none⟩ = some (.slice (some ⟨g6_1, 0, none⟩) n0_1 n0_1) := (X0.out).cell 0
      have u_X0_1 : w22.cell? ⟨w6.heap.size, 1, none⟩ = some (.slice (some ⟨g6_2, 0, none⟩) n0_2 n0_2) := (X0.out).cell 1
      have u_X0_2 : w22.cell? ⟨w6.heap.size, 2, none⟩ = some (.slice (some ⟨g6_3, 0, none⟩) n0_3 n0_3) := (X0.out).cell 2
      have v_X0 : w6.heap.size < w22.heap.size := (X0.out).lt
      have u_X1_0 : w22.cell? ⟨w7.heap.size, 0, none⟩ = some (.int .i64 b1) := (X1.out).cell 0
      have u_X1_1 : w22.cell? ⟨w7.heap.size, 1, none⟩ = some (.slice (some ⟨g7, 0, none⟩) n1 n1) := (X1.out).cell 1
      have u_X1_2 : w22.cell? ⟨w7.heap.size, 2, none⟩ = some (.int .i64 r1) := (X1.out).cell 2
      have v_X1 : w7.heap.size < w22.heap.size := (X1.out).lt
      go_wp2_with fail
      refine Calls.mono (laws_heldInt64SS ((O8_0.out).fact.rdS) (by omega) (by omega) hPP0.out (by omega) (by omega)) ?_
      rintro e w23 ⟨rfl, hb_w23⟩
      have hs_w23 := hb_w23.size
      clear u_K0_0 u_K0_1 u_K0_2 v_K0 u_K1_0 u_K1_1 u_K1_2 v_K1 u_X0_0 u_X0_1 u_X0_2 v_X0 u_X1_0 u_X1_1 u_X1_2 v_X1
      have hst : Below w22.heap.size w22 w23 := bel
      have hB_w23 : Below w.heap.size w w23 := below_callS hB_w22 hst
      replace K0 := Lib.hid (K0.out.keep hst)
      replace K1 := Lib.hid (K1.out.keep hst)
      replace X0 := Lib.hid (X0.out.keep hst)
      replace X1 := Lib.hid (X1.out.keep hst)
      replace O5_0 := Lib.hid (O5_0.out.keep hst)
      replace O6 := Lib.hid (O6.out.keep hst)
      replace O7 := Lib.hid (O7.out.keep hst)
      replace O8_0 := Lib.hid (O8_0.out.keep hst)
      replace O21_0 := Lib.hid (O21_0.out.keep hst)
      clear hst hb_w23 hB_w22
      go_wp2
      go_ret
      exact ⟨rfl, bel⟩
    · go_enter Tryz.func3, Tryz.ntmps3
      go_wp2_with fail
      refine Calls.mono (laws_szModelN (HR0.out.keepX bel) hn90_1 hn90_2 hn90_3 (by omega) (by omega) hN0) ?_
      rintro e wz0 ⟨rfl, hb_wz0⟩
      obtain ⟨hc_wz0, hf_wz0⟩ := bcell hb_wz0
      have hs_wz0 := hb_wz0.size
      go_wp2_with fail
      refine Calls.mono (laws_szDiagram hn91 (by omega) (by omega)) ?_
      rintro e wz1 ⟨rfl, hb_wz1⟩
      obtain ⟨hc_wz1, hf_wz1⟩ := bcell hb_wz1
      have hs_wz1 := hb_wz1.size
      go_wp2
      go_ret
      exact ⟨rfl, bel⟩
  · go_enter Tryz.func3, Tryz.ntmps3
    go_wp2_with fail
    refine Calls.mono (laws_szModelN (HR0.out.keepX bel) hn90_1 hn90_2 hn90_3 (by omega) (by omega) hN0) ?_
    rintro e wz0 ⟨rfl, hb_wz0⟩
    obtain ⟨hc_wz0, hf_wz0⟩ := bcell hb_wz0
    have hs_wz0 := hb_wz0.size
    go_wp2
    go_ret
    exact ⟨rfl, bel⟩
end Go.Proofs.YtkaikbaagajckaaGreat
