/- The law FnExactTestDiagram, from the contracts of the two functions. -/
import Derived.Test.YtkaikbaagajckaaOw
import Derived.Test.YtkaikbaagajckaaMq
import Derived.Test.YtkaikbaagajckaaFl
namespace Go.Proofs.Ytkaikbaagajckaa
open Go.RowKit
set_option linter.unusedVariables false
set_option linter.unusedSimpArgs false
set_option maxHeartbeats 8000000 in
theorem law_TestDiagram {a0_1 a0_2 a0_3 : Option Addr} {n0_1 c0_1 n0_2 c0_2 n0_3 c0_3 : Nat} {l0_1 l0_2 : List Int} {l0_3 : List (RM × RuD)} {a1 : Option Addr} {n1 c1 : Nat} {l1 : List I2b} {w : World} (hI0_1 : Ints w a0_1 n0_1 c0_1 l0_1) (hM0_1 : n0_1 ≤ maxLen) (hI0_2 : Ints w a0_2 n0_2 c0_2 l0_2) (hM0_2 : n0_2 ≤ maxLen) (hI0_3 : FX w w a0_3 n0_3 c0_3 l0_3) (hM0_3 : n0_3 ≤ maxLen) (hI1 : F2b w a1 n1 c1 l1) (hM1 : n1 ≤ maxLen) :
    Calls Try.prog 5 #[.agg #[.slice a0_1 n0_1 c0_1, .slice a0_2 n0_2 c0_2, .slice a0_3 n0_3 c0_3], .slice a1 n1 c1] w fun e w' => e = .returned (.bool true) ∧ Below w.heap.size w w' := by
  have HS0 := Lib.hid hI0_1
  have hn90_1 : (n0_1 : Int) ≤ 9223372036854775807 := by unfold maxLen at hM0_1; omega
  have HT0 := Lib.hid hI0_2
  have hn90_2 : (n0_2 : Int) ≤ 9223372036854775807 := by unfold maxLen at hM0_2; omega
  have HR0 := Lib.hid hI0_3
  have hn90_3 : (n0_3 : Int) ≤ 9223372036854775807 := by unfold maxLen at hM0_3; omega
  obtain ⟨n0_5, hN0⟩ : ∃ N : Nat, n0_1 + n0_2 + (n0_3 + need l0_3) = N := ⟨_, rfl⟩
  clear hI0_1 hI0_2 hI0_3 hM0_1 hM0_2 hM0_3
  have HI1 := Lib.hid hI1
  have hn91 : (n1 : Int) ≤ 9223372036854775807 := by unfold maxLen at hM1; omega
  clear hM1
  by_cases hz0 : n0_5 ≤ 1048576
  · skip
    by_cases hz1 : (n1 : Int) ≤ 1048576 - (n0_5 : Int)
    · skip
      obtain ⟨rs0, hrs0⟩ : ∃ rs : List RuD, l0_3.map (·.2) = rs := ⟨_, rfl⟩
      obtain ⟨n0_4, hC0⟩ : ∃ N : Nat, cntRu rs0 = N := ⟨_, rfl⟩
      have hn0 : n0_4 ≤ 3145728 := by have h9 := cnt_of HR0.out hrs0 hN0; omega
      have HI0 := Lib.hid (mrd_of HS0.out HT0.out HR0.out hrs0 hN0 (by omega))
      have hn0_1 := HI0.out.sn
      have hn0_2 := HI0.out.tn
      have hn0_3 := HI0.out.rn
      have hn1 : n1 ≤ 1048576 := by omega
      have hspec := fun (wx : World)  (y0_1 y0_2 y0_3 : Option Addr) (y1 : Option Addr) (hX0 : MRd wx y0_1 n0_1 n0_1 y0_2 n0_2 n0_2 y0_3 n0_3 n0_3 l0_1 l0_2 rs0) (hX1 : F2b wx y1 n1 n1 l1) => spec_TestDiagram_r hX0 hX1 hn1
      have himpl := fun (wx : World)  (y0_1 y0_2 y0_3 : Option Addr) (y1 : Option Addr) (hX0 : MRd wx y0_1 n0_1 n0_1 y0_2 n0_2 n0_2 y0_3 n0_3 n0_3 l0_1 l0_2 rs0) (hX1 : F2b wx y1 n1 n1 l1) => impl_TestDiagram_r hX0 hX1 hn1
      have hlen := tdC_len l0_1 l0_2 (rsM rs0) l1
      generalize (tdC l0_1 l0_2 (rsM rs0) l1).1 = INP at *
      generalize (tdC l0_1 l0_2 (rsM rs0) l1).2.1 = L at *
      generalize (tdC l0_1 l0_2 (rsM rs0) l1).2.2.1 = RT at *
      generalize (tdC l0_1 l0_2 (rsM rs0) l1).2.2.2 = code at *
      have Hspec := Lib.hid hspec
      have Himpl := Lib.hid himpl
      clear hspec himpl
      have hcc : (code != code) = false := by simp
      go_enter Try.func5, Try.ntmps5
      have y_K0 : Blk (w.alloc (.cells #[.slice a0_1 n0_1 c0_1, .slice a0_2 n0_2 c0_2, .slice a0_3 n0_3 c0_3] 52)) w.heap.size #[.slice a0_1 n0_1 c0_1, .slice a0_2 n0_2 c0_2, .slice a0_3 n0_3 c0_3] 52 := by have hh := (Blk.made w #[.slice a0_1 n0_1 c0_1, .slice a0_2 n0_2 c0_2, .slice a0_3 n0_3 c0_3] 52); simpa using hh
      have u_K0_0 : (w.alloc (.cells #[.slice a0_1 n0_1 c0_1, .slice a0_2 n0_2 c0_2, .slice a0_3 n0_3 c0_3] 52)).cell? ⟨w.heap.size, 0, none⟩ = some (.slice a0_1 n0_1 c0_1) := y_K0.cell 0
      have u_K0_1 : (w.alloc (.cells #[.slice a0_1 n0_1 c0_1, .slice a0_2 n0_2 c0_2, .slice a0_3 n0_3 c0_3] 52)).cell? ⟨w.heap.size, 1, none⟩ = some (.slice a0_2 n0_2 c0_2) := y_K0.cell 1
      have u_K0_2 : (w.alloc (.cells #[.slice a0_1 n0_1 c0_1, .slice a0_2 n0_2 c0_2, .slice a0_3 n0_3 c0_3] 52)).cell? ⟨w.heap.size, 2, none⟩ = some (.slice a0_3 n0_3 c0_3) := y_K0.cell 2
      have v_K0 : w.heap.size < (w.alloc (.cells #[.slice a0_1 n0_1 c0_1, .slice a0_2 n0_2 c0_2, .slice a0_3 n0_3 c0_3] 52)).heap.size := y_K0.lt
      go_wp2_with fail
      refine Calls.mono (laws_szModelN (HR0.out.keepX (by repeat (first | exact Below.refl _ _ | assumption | refine below_allocS ?_ _ | refine below_callS ?_ (by assumption) | (refine Below.alloc ?_ (by first | omega | (simp; done) | (simp; omega)) _) | (refine Below.setCell ?_ (by first | omega | (simp; done) | (simp; omega)) _) | refine Below.drew ?_ | refine below_drewN ?_ _ | (refine below_call ?_ (by assumption) (by first | omega | (simp; done) | (simp; omega))) | (refine Below.trans ?_ (by assumption))))) hn90_1 hn90_2 hn90_3 (by omega) (by omega) hN0) ?_
      rintro e w1 ⟨rfl, hb_w1⟩
      have hs_w1 := hb_w1.size
      simp at hs_w1
      clear y_K0 u_K0_0 u_K0_1 u_K0_2 v_K0
      have hst : Below w.heap.size w w1 := by repeat (first | exact Below.refl _ _ | assumption | refine below_allocS ?_ _ | refine below_callS ?_ (by assumption) | (refine Below.alloc ?_ (by first | omega | (simp; done) | (simp; omega)) _) | (refine Below.setCell ?_ (by first | omega | (simp; done) | (simp; omega)) _) | refine Below.drew ?_ | refine below_drewN ?_ _ | (refine below_call ?_ (by assumption) (by first | omega | (simp; done) | (simp; omega))) | (refine Below.trans ?_ (by assumption)))
      have hB_w1 : Below w.heap.size w w1 := hst
      have K0 := Lib.hid (show Blk w1 (w.heap.size) #[.slice a0_1 n0_1 c0_1, .slice a0_2 n0_2 c0_2, .slice a0_3 n0_3 c0_3] 52 by have hh := ((Blk.made w #[.slice a0_1 n0_1 c0_1, .slice a0_2 n0_2 c0_2, .slice a0_3 n0_3 c0_3] 52)).keep hb_w1; simpa using hh)
      clear hst hb_w1
      go_wp2_with fail
      refine Calls.mono (laws_szTestS hn91 (by omega) (by omega)) ?_
      rintro e _ ⟨rfl, rfl⟩
      have u_K0_0 : w1.cell? ⟨w.heap.size, 0, none⟩ = some (.slice a0_1 n0_1 c0_1) := (K0.out).cell 0
      have u_K0_1 : w1.cell? ⟨w.heap.size, 1, none⟩ = some (.slice a0_2 n0_2 c0_2) := (K0.out).cell 1
      have u_K0_2 : w1.cell? ⟨w.heap.size, 2, none⟩ = some (.slice a0_3 n0_3 c0_3) := (K0.out).cell 2
      have v_K0 : w.heap.size < w1.heap.size := (K0.out).lt
      go_wp2_with fail
      refine Calls.mono (laws_toModel (HI0.out.keep (by repeat (first | exact Below.refl _ _ | assumption | refine below_allocS ?_ _ | refine below_callS ?_ (by assumption) | (refine Below.alloc ?_ (by first | omega | (simp; done) | (simp; omega)) _) | (refine Below.setCell ?_ (by first | omega | (simp; done) | (simp; omega)) _) | refine Below.drew ?_ | refine below_drewN ?_ _ | (refine below_call ?_ (by assumption) (by first | omega | (simp; done) | (simp; omega))) | (refine Below.trans ?_ (by assumption)))))) ?_
      rintro e w2 ⟨g2_1, g2_2, g2_3, rfl, hb_w2, ho2⟩
      have hs_w2 := hb_w2.size
      clear u_K0_0 u_K0_1 u_K0_2 v_K0
      have O2 := Lib.hid (ho2.own (Nat.le_refl _))
      clear ho2
      have hst : Below w1.heap.size w1 w2 := by repeat (first | exact Below.refl _ _ | assumption | refine below_allocS ?_ _ | refine below_callS ?_ (by assumption) | (refine Below.alloc ?_ (by first | omega | (simp; done) | (simp; omega)) _) | (refine Below.setCell ?_ (by first | omega | (simp; done) | (simp; omega)) _) | refine Below.drew ?_ | refine below_drewN ?_ _ | (refine below_call ?_ (by assumption) (by first | omega | (simp; done) | (simp; omega))) | (refine Below.trans ?_ (by assumption)))
      have hB_w2 : Below w.heap.size w w2 := below_callS hB_w1 hst
      replace K0 := Lib.hid (K0.out.keep hst)
      clear hst hb_w2 hB_w1
      have u_K0_0 : w2.cell? ⟨w.heap.size, 0, none⟩ = some (.slice a0_1 n0_1 c0_1) := (K0.out).cell 0
      have u_K0_1 : w2.cell? ⟨w.heap.size, 1, none⟩ = some (.slice a0_2 n0_2 c0_2) := (K0.out).cell 1
      have u_K0_2 : w2.cell? ⟨w.heap.size, 2, none⟩ = some (.slice a0_3 n0_3 c0_3) := (K0.out).cell 2
      have v_K0 : w.heap.size < w2.heap.size := (K0.out).lt
      go_wp2_with fail
      refine Calls.mono (laws_toTestS_g (HI1.out.keep (by repeat (first | exact Below.refl _ _ | assumption | refine below_allocS ?_ _ | refine below_callS ?_ (by assumption) | (refine Below.alloc ?_ (by first | omega | (simp; done) | (simp; omega)) _) | (refine Below.setCell ?_ (by first | omega | (simp; done) | (simp; omega)) _) | refine Below.drew ?_ | refine below_drewN ?_ _ | (refine below_call ?_ (by assumption) (by first | omega | (simp; done) | (simp; omega))) | (refine Below.trans ?_ (by assumption))))) hn1) ?_
      rintro e w3 ⟨g3, rfl, hb_w3, ho3⟩
      have hs_w3 := hb_w3.size
      clear u_K0_0 u_K0_1 u_K0_2 v_K0
      have ko3 := ho3.blk g3 rfl
      have O3 := Lib.hid (ho3.own)
      clear ho3
      have hst : Below w2.heap.size w2 w3 := by repeat (first | exact Below.refl _ _ | assumption | refine below_allocS ?_ _ | refine below_callS ?_ (by assumption) | (refine Below.alloc ?_ (by first | omega | (simp; done) | (simp; omega)) _) | (refine Below.setCell ?_ (by first | omega | (simp; done) | (simp; omega)) _) | refine Below.drew ?_ | refine below_drewN ?_ _ | (refine below_call ?_ (by assumption) (by first | omega | (simp; done) | (simp; omega))) | (refine Below.trans ?_ (by assumption)))
      have hB_w3 : Below w.heap.size w w3 := below_callS hB_w2 hst
      replace K0 := Lib.hid (K0.out.keep hst)
      replace O2 := Lib.hid (O2.out.keep hst)
      clear hst hb_w3 hB_w2
      have u_K0_0 : w3.cell? ⟨w.heap.size, 0, none⟩ = some (.slice a0_1 n0_1 c0_1) := (K0.out).cell 0
      have u_K0_1 : w3.cell? ⟨w.heap.size, 1, none⟩ = some (.slice a0_2 n0_2 c0_2) := (K0.out).cell 1
      have u_K0_2 : w3.cell? ⟨w.heap.size, 2, none⟩ = some (.slice a0_3 n0_3 c0_3) := (K0.out).cell 2
      have v_K0 : w.heap.size < w3.heap.size := (K0.out).lt
      go_wp2_with fail
      refine Calls.mono (Hspec.out _ _ _ _ _ ((O2.out).fact.rd) ((O3.out).fact.flats)) ?_
      rintro e w4 ⟨n4_0, a4_0, c4_0, rfl, hb_w4, ho4_0⟩
      have hs_w4 := hb_w4.size
      clear u_K0_0 u_K0_1 u_K0_2 v_K0
      have ln4_0 := ho4_0.len
      have O4_0b := ho4_0.blk
      have O4_0 := Lib.hid (ho4_0.own)
      clear ho4_0
      have hst : Below w3.heap.size w3 w4 := by repeat (first | exact Below.refl _ _ | assumption | refine below_allocS ?_ _ | refine below_callS ?_ (by assumption) | (refine Below.alloc ?_ (by first | omega | (simp; done) | (simp; omega)) _) | (refine Below.setCell ?_ (by first | omega | (simp; done) | (simp; omega)) _) | refine Below.drew ?_ | refine below_drewN ?_ _ | (refine below_call ?_ (by assumption) (by first | omega | (simp; done) | (simp; omega))) | (refine Below.trans ?_ (by assumption)))
      have hB_w4 : Below w.heap.size w w4 := below_callS hB_w3 hst
      replace K0 := Lib.hid (K0.out.keep hst)
      replace O2 := Lib.hid (O2.out.keep hst)
      replace O3 := Lib.hid (O3.out.keep hst)
      clear hst hb_w4 hB_w3
      have hln0 : n4_0 ≤ 1048576 := by have := hlen; omega
      clear O2
      clear O3
      have u_K0_0 : (w4.alloc (.cells #[.int .i64 INP, .slice a4_0 n4_0 c4_0, .int .i64 RT] 26)).cell? ⟨w.heap.size, 0, none⟩ = some (.slice a0_1 n0_1 c0_1) := (K0.out.keep (show Below w4.heap.size w4 (w4.alloc (.cells #[.int .i64 INP, .slice a4_0 n4_0 c4_0, .int .i64 RT] 26)) by repeat (first | exact Below.refl _ _ | assumption | refine below_allocS ?_ _ | refine below_callS ?_ (by assumption) | (refine Below.alloc ?_ (by first | omega | (simp; done) | (simp; omega)) _) | (refine Below.setCell ?_ (by first | omega | (simp; done) | (simp; omega)) _) | refine Below.drew ?_ | refine below_drewN ?_ _ | (refine below_call ?_ (by assumption) (by first | omega | (simp; done) | (simp; omega))) | (refine Below.trans ?_ (by assumption))))).cell 0
      have u_K0_1 : (w4.alloc (.cells #[.int .i64 INP, .slice a4_0 n4_0 c4_0, .int .i64 RT] 26)).cell? ⟨w.heap.size, 1, none⟩ = some (.slice a0_2 n0_2 c0_2) := (K0.out.keep (show Below w4.heap.size w4 (w4.alloc (.cells #[.int .i64 INP, .slice a4_0 n4_0 c4_0, .int .i64 RT] 26)) by repeat (first | exact Below.refl _ _ | assumption | refine below_allocS ?_ _ | refine below_callS ?_ (by assumption) | (refine Below.alloc ?_ (by first | omega | (simp; done) | (simp; omega)) _) | (refine Below.setCell ?_ (by first | omega | (simp; done) | (simp; omega)) _) | refine Below.drew ?_ | refine below_drewN ?_ _ | (refine below_call ?_ (by assumption) (by first | omega | (simp; done) | (simp; omega))) | (refine Below.trans ?_ (by assumption))))).cell 1
      have u_K0_2 : (w4.alloc (.cells #[.int .i64 INP, .slice a4_0 n4_0 c4_0, .int .i64 RT] 26)).cell? ⟨w.heap.size, 2, none⟩ = some (.slice a0_3 n0_3 c0_3) := (K0.out.keep (show Below w4.heap.size w4 (w4.alloc (.cells #[.int .i64 INP, .slice a4_0 n4_0 c4_0, .int .i64 RT] 26)) by repeat (first | exact Below.refl _ _ | assumption | refine below_allocS ?_ _ | refine below_callS ?_ (by assumption) | (refine Below.alloc ?_ (by first | omega | (simp; done) | (simp; omega)) _) | (refine Below.setCell ?_ (by first | omega | (simp; done) | (simp; omega)) _) | refine Below.drew ?_ | refine below_drewN ?_ _ | (refine below_call ?_ (by assumption) (by first | omega | (simp; done) | (simp; omega))) | (refine Below.trans ?_ (by assumption))))).cell 2
      have v_K0 : w.heap.size < (w4.alloc (.cells #[.int .i64 INP, .slice a4_0 n4_0 c4_0, .int .i64 RT] 26)).heap.size := (K0.out.keep (show Below w4.heap.size w4 (w4.alloc (.cells #[.int .i64 INP, .slice a4_0 n4_0 c4_0, .int .i64 RT] 26)) by repeat (first | exact Below.refl _ _ | assumption | refine below_allocS ?_ _ | refine below_callS ?_ (by assumption) | (refine Below.alloc ?_ (by first | omega | (simp; done) | (simp; omega)) _) | (refine Below.setCell ?_ (by first | omega | (simp; done) | (simp; omega)) _) | refine Below.drew ?_ | refine below_drewN ?_ _ | (refine below_call ?_ (by assumption) (by first | omega | (simp; done) | (simp; omega))) | (refine Below.trans ?_ (by assumption))))).lt
      have y_R4_0 : Blk (w4.alloc (.cells #[.int .i64 INP, .slice a4_0 n4_0 c4_0, .int .i64 RT] 26)) w4.heap.size #[.int .i64 INP, .slice a4_0 n4_0 c4_0, .int .i64 RT] 26 := by have hh := (Blk.made w4 #[.int .i64 INP, .slice a4_0 n4_0 c4_0, .int .i64 RT] 26); simpa using hh
      have u_R4_0_0 : (w4.alloc (.cells #[.int .i64 INP, .slice a4_0 n4_0 c4_0, .int .i64 RT] 26)).cell? ⟨w4.heap.size, 0, none⟩ = some (.int .i64 INP) := y_R4_0.cell 0
      have u_R4_0_1 : (w4.alloc (.cells #[.int .i64 INP, .slice a4_0 n4_0 c4_0, .int .i64 RT] 26)).cell? ⟨w4.heap.size, 1, none⟩ = some (.slice a4_0 n4_0 c4_0) := y_R4_0.cell 1
      have u_R4_0_2 : (w4.alloc (.cells #[.int .i64 INP, .slice a4_0 n4_0 c4_0, .int .i64 RT] 26)).cell? ⟨w4.heap.size, 2, none⟩ = some (.int .i64 RT) := y_R4_0.cell 2
      have v_R4_0 : w4.heap.size < (w4.alloc (.cells #[.int .i64 INP, .slice a4_0 n4_0 c4_0, .int .i64 RT] 26)).heap.size := y_R4_0.lt
      go_wp2_with fail
      refine Calls.mono (laws_toModel (HI0.out.keep (by repeat (first | exact Below.refl _ _ | assumption | refine below_allocS ?_ _ | refine below_callS ?_ (by assumption) | (refine Below.alloc ?_ (by first | omega | (simp; done) | (simp; omega)) _) | (refine Below.setCell ?_ (by first | omega | (simp; done) | (simp; omega)) _) | refine Below.drew ?_ | refine below_drewN ?_ _ | (refine below_call ?_ (by assumption) (by first | omega | (simp; done) | (simp; omega))) | (refine Below.trans ?_ (by assumption)))))) ?_
      rintro e w5 ⟨g5_1, g5_2, g5_3, rfl, hb_w5, ho5⟩
      have hs_w5 := hb_w5.size
      simp at hs_w5
      clear u_K0_0 u_K0_1 u_K0_2 v_K0 y_R4_0 u_R4_0_0 u_R4_0_1 u_R4_0_2 v_R4_0
      have O5 := Lib.hid (ho5.own (Nat.le_refl _))
      clear ho5
      simp at O5
      have hst : Below w4.heap.size w4 w5 := by repeat (first | exact Below.refl _ _ | assumption | refine below_allocS ?_ _ | refine below_callS ?_ (by assumption) | (refine Below.alloc ?_ (by first | omega | (simp; done) | (simp; omega)) _) | (refine Below.setCell ?_ (by first | omega | (simp; done) | (simp; omega)) _) | refine Below.drew ?_ | refine below_drewN ?_ _ | (refine below_call ?_ (by assumption) (by first | omega | (simp; done) | (simp; omega))) | (refine Below.trans ?_ (by assumption)))
      have hB_w5 : Below w.heap.size w w5 := below_callS hB_w4 hst
      replace K0 := Lib.hid (K0.out.keep hst)
      replace O4_0 := Lib.hid (O4_0.out.keep hst)
      have R4_0 := Lib.hid (show Blk w5 (w4.heap.size) #[.int .i64 INP, .slice a4_0 n4_0 c4_0, .int .i64 RT] 26 by have hh := ((Blk.made w4 #[.int .i64 INP, .slice a4_0 n4_0 c4_0, .int .i64 RT] 26)).keep hb_w5; simpa using hh)
      clear hst hb_w5 hB_w4
      have u_K0_0 : (w5.alloc (.cells #[.slice (some ⟨g5_1, 0, none⟩) n0_1 n0_1, .slice (some ⟨g5_2, 0, none⟩) n0_2 n0_2, .slice (some ⟨g5_3, 0, none⟩) n0_3 n0_3] 59)).cell? ⟨w.heap.size, 0, none⟩ = some (.slice a0_1 n0_1 c0_1) := (K0.out.keep (show Below w5.heap.size w5 (w5.alloc (.cells #[.slice (some ⟨g5_1, 0, none⟩) n0_1 n0_1, .slice (some ⟨g5_2, 0, none⟩) n0_2 n0_2, .slice (some ⟨g5_3, 0, none⟩) n0_3 n0_3] 59)) by repeat (first | exact Below.refl _ _ | assumption | refine below_allocS ?_ _ | refine below_callS ?_ (by assumption) | (refine Below.alloc ?_ (by first | omega | (simp; done) | (simp; omega)) _) | (refine Below.setCell ?_ (by first | omega | (simp; done) | (simp; omega)) _) | refine Below.drew ?_ | refine below_drewN ?_ _ | (refine below_call ?_ (by assumption) (by first | omega | (simp; done) | (simp; omega))) | (refine Below.trans ?_ (by assumption))))).cell 0
      have u_K0_1 : (w5.alloc (.cells #[.slice (some ⟨g5_1, 0, none⟩) n0_1 n0_1, .slice (some ⟨g5_2, 0, none⟩) n0_2 n0_2, .slice (some ⟨g5_3, 0, none⟩) n0_3 n0_3] 59)).cell? ⟨w.heap.size, 1, none⟩ = some (.slice a0_2 n0_2 c0_2) := (K0.out.keep (show Below w5.heap.size w5 (w5.alloc (.cells #[.slice (some ⟨g5_1, 0, none⟩) n0_1 n0_1, .slice (some ⟨g5_2, 0, none⟩) n0_2 n0_2, .slice (some ⟨g5_3, 0, none⟩) n0_3 n0_3] 59)) by repeat (first | exact Below.refl _ _ | assumption | refine below_allocS ?_ _ | refine below_callS ?_ (by assumption) | (refine Below.alloc ?_ (by first | omega | (simp; done) | (simp; omega)) _) | (refine Below.setCell ?_ (by first | omega | (simp; done) | (simp; omega)) _) | refine Below.drew ?_ | refine below_drewN ?_ _ | (refine below_call ?_ (by assumption) (by first | omega | (simp; done) | (simp; omega))) | (refine Below.trans ?_ (by assumption))))).cell 1
      have u_K0_2 : (w5.alloc (.cells #[.slice (some ⟨g5_1, 0, none⟩) n0_1 n0_1, .slice (some ⟨g5_2, 0, none⟩) n0_2 n0_2, .slice (some ⟨g5_3, 0, none⟩) n0_3 n0_3] 59)).cell? ⟨w.heap.size, 2, none⟩ = some (.slice a0_3 n0_3 c0_3) := (K0.out.keep (show Below w5.heap.size w5 (w5.alloc (.cells #[.slice (some ⟨g5_1, 0, none⟩) n0_1 n0_1, .slice (some ⟨g5_2, 0, none⟩) n0_2 n0_2, .slice (some ⟨g5_3, 0, none⟩) n0_3 n0_3] 59)) by repeat (first | exact Below.refl _ _ | assumption | refine below_allocS ?_ _ | refine below_callS ?_ (by assumption) | (refine Below.alloc ?_ (by first | omega | (simp; done) | (simp; omega)) _) | (refine Below.setCell ?_ (by first | omega | (simp; done) | (simp; omega)) _) | refine Below.drew ?_ | refine below_drewN ?_ _ | (refine below_call ?_ (by assumption) (by first | omega | (simp; done) | (simp; omega))) | (refine Below.trans ?_ (by assumption))))).cell 2
      have v_K0 : w.heap.size < (w5.alloc (.cells #[.slice (some ⟨g5_1, 0, none⟩) n0_1 n0_1, .slice (some ⟨g5_2, 0, none⟩) n0_2 n0_2, .slice (some ⟨g5_3, 0, none⟩) n0_3 n0_3] 59)).heap.size := (K0.out.keep (show Below w5.heap.size w5 (w5.alloc (.cells #[.slice (some ⟨g5_1, 0, none⟩) n0_1 n0_1, .slice (some ⟨g5_2, 0, none⟩) n0_2 n0_2, .slice (some ⟨g5_3, 0, none⟩) n0_3 n0_3] 59)) by repeat (first | exact Below.refl _ _ | assumption | refine below_allocS ?_ _ | refine below_callS ?_ (by assumption) | (refine Below.alloc ?_ (by first | omega | (simp; done) | (simp; omega)) _) | (refine Below.setCell ?_ (by first | omega | (simp; done) | (simp; omega)) _) | refine Below.drew ?_ | refine below_drewN ?_ _ | (refine below_call ?_ (by assumption) (by first | omega | (simp; done) | (simp; omega))) | (refine Below.trans ?_ (by assumption))))).lt
      have u_R4_0_0 : (w5.alloc (.cells #[.slice (some ⟨g5_1, 0, none⟩) n0_1 n0_1, .slice (some ⟨g5_2, 0, none⟩) n0_2 n0_2, .slice (some ⟨g5_3, 0, none⟩) n0_3 n0_3] 59)).cell? ⟨w4.heap.size, 0, none⟩ = some (.int .i64 INP) := (R4_0.out.keep (show Below w5.heap.size w5 (w5.alloc (.cells #[.slice (some ⟨g5_1, 0, none⟩) n0_1 n0_1, .slice (some ⟨g5_2, 0, none⟩) n0_2 n0_2, .slice (some ⟨g5_3, 0, none⟩) n0_3 n0_3] 59)) by repeat (first | exact Below.refl _ _ | assumption | refine below_allocS ?_ _ | refine below_callS ?_ (by assumption) | (refine Below.alloc ?_ (by first | omega | (simp; done) | (simp; omega)) _) | (refine Below.setCell ?_ (by first | omega | (simp; done) | (simp; omega)) _) | refine Below.drew ?_ | refine below_drewN ?_ _ | (refine below_call ?_ (by assumption) (by first | omega | (simp; done) | (simp; omega))) | (refine Below.trans ?_ (by assumption))))).cell 0
      have u_R4_0_1 : (w5.alloc (.cells #[.slice (some ⟨g5_1, 0, none⟩) n0_1 n0_1, .slice (some ⟨g5_2, 0, none⟩) n0_2 n0_2, .slice (some ⟨g5_3, 0, none⟩) n0_3 n0_3] 59)).cell? ⟨w4.heap.size, 1, none⟩ = some (.slice a4_0 n4_0 c4_0) := (R4_0.out.keep (show Below w5.heap.size w5 (w5.alloc (.cells #[.slice (some ⟨g5_1, 0, none⟩) n0_1 n0_1, .slice (some ⟨g5_2, 0, none⟩) n0_2 n0_2, .slice (some ⟨g5_3, 0, none⟩) n0_3 n0_3] 59)) by repeat (first | exact Below.refl _ _ | assumption | refine below_allocS ?_ _ | refine below_callS ?_ (by assumption) | (refine Below.alloc ?_ (by first | omega | (simp; done) | (simp; omega)) _) | (refine Below.setCell ?_ (by first | omega | (simp; done) | (simp; omega)) _) | refine Below.drew ?_ | refine below_drewN ?_ _ | (refine below_call ?_ (by assumption) (by first | omega | (simp; done) | (simp; omega))) | (refine Below.trans ?_ (by assumption))))).cell 1
      have u_R4_0_2 : (w5.alloc (.cells #[.slice (some ⟨g5_1, 0, none⟩) n0_1 n0_1, .slice (some ⟨g5_2, 0, none⟩) n0_2 n0_2, .slice (some ⟨g5_3, 0, none⟩) n0_3 n0_3] 59)).cell? ⟨w4.heap.size, 2, none⟩ = some (.int .i64 RT) := (R4_0.out.keep (show Below w5.heap.size w5 (w5.alloc (.cells #[.slice (some ⟨g5_1, 0, none⟩) n0_1 n0_1, .slice (some ⟨g5_2, 0, none⟩) n0_2 n0_2, .slice (some ⟨g5_3, 0, none⟩) n0_3 n0_3] 59)) by repeat (first | exact Below.refl _ _ | assumption | refine below_allocS ?_ _ | refine below_callS ?_ (by assumption) | (refine Below.alloc ?_ (by first | omega | (simp; done) | (simp; omega)) _) | (refine Below.setCell ?_ (by first | omega | (simp; done) | (simp; omega)) _) | refine Below.drew ?_ | refine below_drewN ?_ _ | (refine below_call ?_ (by assumption) (by first | omega | (simp; done) | (simp; omega))) | (refine Below.trans ?_ (by assumption))))).cell 2
      have v_R4_0 : w4.heap.size < (w5.alloc (.cells #[.slice (some ⟨g5_1, 0, none⟩) n0_1 n0_1, .slice (some ⟨g5_2, 0, none⟩) n0_2 n0_2, .slice (some ⟨g5_3, 0, none⟩) n0_3 n0_3] 59)).heap.size := (R4_0.out.keep (show Below w5.heap.size w5 (w5.alloc (.cells #[.slice (some ⟨g5_1, 0, none⟩) n0_1 n0_1, .slice (some ⟨g5_2, 0, none⟩) n0_2 n0_2, .slice (some ⟨g5_3, 0, none⟩) n0_3 n0_3] 59)) by repeat (first | exact Below.refl _ _ | assumption | refine below_allocS ?_ _ | refine below_callS ?_ (by assumption) | (refine Below.alloc ?_ (by first | omega | (simp; done) | (simp; omega)) _) | (refine Below.setCell ?_ (by first | omega | (simp; done) | (simp; omega)) _) | refine Below.drew ?_ | refine below_drewN ?_ _ | (refine below_call ?_ (by assumption) (by first | omega | (simp; done) | (simp; omega))) | (refine Below.trans ?_ (by assumption))))).lt
      have y_X0 : Blk (w5.alloc (.cells #[.slice (some ⟨g5_1, 0, none⟩) n0_1 n0_1, .slice (some ⟨g5_2, 0, none⟩) n0_2 n0_2, .slice (some ⟨g5_3, 0, none⟩) n0_3 n0_3] 59)) w5.heap.size #[.slice (some ⟨g5_1, 0, none⟩) n0_1 n0_1, .slice (some ⟨g5_2, 0, none⟩) n0_2 n0_2, .slice (some ⟨g5_3, 0, none⟩) n0_3 n0_3] 59 := by have hh := (Blk.made w5 #[.slice (some ⟨g5_1, 0, none⟩) n0_1 n0_1, .slice (some ⟨g5_2, 0, none⟩) n0_2 n0_2, .slice (some ⟨g5_3, 0, none⟩) n0_3 n0_3] 59); simpa using hh
      have u_X0_0 : (w5.alloc (.cells #[.slice (some ⟨g5_1, 0, none⟩) n0_1 n0_1, .slice (some ⟨g5_2, 0, none⟩) n0_2 n0_2, .slice (some ⟨g5_3, 0, none⟩) n0_3 n0_3] 59)).cell? ⟨w5.heap.size, 0, none⟩ = some (.slice (some ⟨g5_1, 0, none⟩) n0_1 n0_1) := y_X0.cell 0
      have u_X0_1 : (w5.alloc (.cells #[.slice (some ⟨g5_1, 0, none⟩) n0_1 n0_1, .slice (some ⟨g5_2, 0, none⟩) n0_2 n0_2, .slice (some ⟨g5_3, 0, none⟩) n0_3 n0_3] 59)).cell? ⟨w5.heap.size, 1, none⟩ = some (.slice (some ⟨g5_2, 0, none⟩) n0_2 n0_2) := y_X0.cell 1
      have u_X0_2 : (w5.alloc (.cells #[.slice (some ⟨g5_1, 0, none⟩) n0_1 n0_1, .slice (some ⟨g5_2, 0, none⟩) n0_2 n0_2, .slice (some ⟨g5_3, 0, none⟩) n0_3 n0_3] 59)).cell? ⟨w5.heap.size, 2, none⟩ = some (.slice (some ⟨g5_3, 0, none⟩) n0_3 n0_3) := y_X0.cell 2
      have v_X0 : w5.heap.size < (w5.alloc (.cells #[.slice (some ⟨g5_1, 0, none⟩) n0_1 n0_1, .slice (some ⟨g5_2, 0, none⟩) n0_2 n0_2, .slice (some ⟨g5_3, 0, none⟩) n0_3 n0_3] 59)).heap.size := y_X0.lt
      go_wp2_with fail
      refine Calls.mono (laws_toTestS_g (HI1.out.keep (by repeat (first | exact Below.refl _ _ | assumption | refine below_allocS ?_ _ | refine below_callS ?_ (by assumption) | (refine Below.alloc ?_ (by first | omega | (simp; done) | (simp; omega)) _) | (refine Below.setCell ?_ (by first | omega | (simp; done) | (simp; omega)) _) | refine Below.drew ?_ | refine below_drewN ?_ _ | (refine below_call ?_ (by assumption) (by first | omega | (simp; done) | (simp; omega))) | (refine Below.trans ?_ (by assumption))))) hn1) ?_
      rintro e w6 ⟨g6, rfl, hb_w6, ho6⟩
      have hs_w6 := hb_w6.size
      simp at hs_w6
      clear u_K0_0 u_K0_1 u_K0_2 v_K0 u_R4_0_0 u_R4_0_1 u_R4_0_2 v_R4_0 y_X0 u_X0_0 u_X0_1 u_X0_2 v_X0
      have ko6 := ho6.blk g6 rfl
      have O6 := Lib.hid (ho6.own)
      clear ho6
      simp at O6 ko6
      have hst : Below w5.heap.size w5 w6 := by repeat (first | exact Below.refl _ _ | assumption | refine below_allocS ?_ _ | refine below_callS ?_ (by assumption) | (refine Below.alloc ?_ (by first | omega | (simp; done) | (simp; omega)) _) | (refine Below.setCell ?_ (by first | omega | (simp; done) | (simp; omega)) _) | refine Below.drew ?_ | refine below_drewN ?_ _ | (refine below_call ?_ (by assumption) (by first | omega | (simp; done) | (simp; omega))) | (refine Below.trans ?_ (by assumption)))
      have hB_w6 : Below w.heap.size w w6 := below_callS hB_w5 hst
      replace K0 := Lib.hid (K0.out.keep hst)
      replace R4_0 := Lib.hid (R4_0.out.keep hst)
      replace O4_0 := Lib.hid (O4_0.out.keep hst)
      replace O5 := Lib.hid (O5.out.keep hst)
      have X0 := Lib.hid (show Blk w6 (w5.heap.size) #[.slice (some ⟨g5_1, 0, none⟩) n0_1 n0_1, .slice (some ⟨g5_2, 0, none⟩) n0_2 n0_2, .slice (some ⟨g5_3, 0, none⟩) n0_3 n0_3] 59 by have hh := ((Blk.made w5 #[.slice (some ⟨g5_1, 0, none⟩) n0_1 n0_1, .slice (some ⟨g5_2, 0, none⟩) n0_2 n0_2, .slice (some ⟨g5_3, 0, none⟩) n0_3 n0_3] 59)).keep hb_w6; simpa using hh)
      clear hst hb_w6 hB_w5
      have u_K0_0 : w6.cell? ⟨w.heap.size, 0, none⟩ = some (.slice a0_1 n0_1 c0_1) := (K0.out).cell 0
      have u_K0_1 : w6.cell? ⟨w.heap.size, 1, none⟩ = some (.slice a0_2 n0_2 c0_2) := (K0.out).cell 1
      have u_K0_2 : w6.cell? ⟨w.heap.size, 2, none⟩ = some (.slice a0_3 n0_3 c0_3) := (K0.out).cell 2
      have v_K0 : w.heap.size < w6.heap.size := (K0.out).lt
      have u_R4_0_0 : w6.cell? ⟨w4.heap.size, 0, none⟩ = some (.int .i64 INP) := (R4_0.out).cell 0
      have u_R4_0_1 : w6.cell? ⟨w4.heap.size, 1, none⟩ = some (.slice a4_0 n4_0 c4_0) := (R4_0.out).cell 1
      have u_R4_0_2 : w6.cell? ⟨w4.heap.size, 2, none⟩ = some (.int .i64 RT) := (R4_0.out).cell 2
      have v_R4_0 : w4.heap.size < w6.heap.size := (R4_0.out).lt
      have u_X0_0 : w6.cell? ⟨w5.heap.size, 0, none⟩ = some (.slice (some ⟨g5_1, 0, none⟩) n0_1 n0_1) := (X0.out).cell 0
      have u_X0_1 : w6.cell? ⟨w5.heap.size, 1, none⟩ = some (.slice (some ⟨g5_2, 0, none⟩) n0_2 n0_2) := (X0.out).cell 1
      have u_X0_2 : w6.cell? ⟨w5.heap.size, 2, none⟩ = some (.slice (some ⟨g5_3, 0, none⟩) n0_3 n0_3) := (X0.out).cell 2
      have v_X0 : w5.heap.size < w6.heap.size := (X0.out).lt
      go_wp2_with fail
      refine Calls.mono (Himpl.out _ _ _ _ _ ((O5.out).fact.rd) ((O6.out).fact.flats)) ?_
      rintro e w7 ⟨n7_0, a7_0, c7_0, rfl, hb_w7, ho7_0⟩
      have hs_w7 := hb_w7.size
      clear u_K0_0 u_K0_1 u_K0_2 v_K0 u_R4_0_0 u_R4_0_1 u_R4_0_2 v_R4_0 u_X0_0 u_X0_1 u_X0_2 v_X0
      have ln7_0 := ho7_0.len
      have O7_0b := ho7_0.blk
      have O7_0 := Lib.hid (ho7_0.own)
      clear ho7_0
      obtain rfl : n4_0 = n7_0 := by omega
      have hst : Below w6.heap.size w6 w7 := by repeat (first | exact Below.refl _ _ | assumption | refine below_allocS ?_ _ | refine below_callS ?_ (by assumption) | (refine Below.alloc ?_ (by first | omega | (simp; done) | (simp; omega)) _) | (refine Below.setCell ?_ (by first | omega | (simp; done) | (simp; omega)) _) | refine Below.drew ?_ | refine below_drewN ?_ _ | (refine below_call ?_ (by assumption) (by first | omega | (simp; done) | (simp; omega))) | (refine Below.trans ?_ (by assumption)))
      have hB_w7 : Below w.heap.size w w7 := below_callS hB_w6 hst
      replace K0 := Lib.hid (K0.out.keep hst)
      replace R4_0 := Lib.hid (R4_0.out.keep hst)
      replace X0 := Lib.hid (X0.out.keep hst)
      replace O4_0 := Lib.hid (O4_0.out.keep hst)
      replace O5 := Lib.hid (O5.out.keep hst)
      replace O6 := Lib.hid (O6.out.keep hst)
      clear hst hb_w7 hB_w6
      have u_K0_0 : (w7.alloc (.cells #[.int .i64 INP, .slice a7_0 n4_0 c7_0, .int .i64 RT] 26)).cell? ⟨w.heap.size, 0, none⟩ = some (.slice a0_1 n0_1 c0_1) := (K0.out.keep (show Below w7.heap.size w7 (w7.alloc (.cells #[.int .i64 INP, .slice a7_0 n4_0 c7_0, .int .i64 RT] 26)) by repeat (first | exact Below.refl _ _ | assumption | refine below_allocS ?_ _ | refine below_callS ?_ (by assumption) | (refine Below.alloc ?_ (by first | omega | (simp; done) | (simp; omega)) _) | (refine Below.setCell ?_ (by first | omega | (simp; done) | (simp; omega)) _) | refine Below.drew ?_ | refine below_drewN ?_ _ | (refine below_call ?_ (by assumption) (by first | omega | (simp; done) | (simp; omega))) | (refine Below.trans ?_ (by assumption))))).cell 0
      have u_K0_1 : (w7.alloc (.cells #[.int .i64 INP, .slice a7_0 n4_0 c7_0, .int .i64 RT] 26)).cell? ⟨w.heap.size, 1, none⟩ = some (.slice a0_2 n0_2 c0_2) := (K0.out.keep (show Below w7.heap.size w7 (w7.alloc (.cells #[.int .i64 INP, .slice a7_0 n4_0 c7_0, .int .i64 RT] 26)) by repeat (first | exact Below.refl _ _ | assumption | refine below_allocS ?_ _ | refine below_callS ?_ (by assumption) | (refine Below.alloc ?_ (by first | omega | (simp; done) | (simp; omega)) _) | (refine Below.setCell ?_ (by first | omega | (simp; done) | (simp; omega)) _) | refine Below.drew ?_ | refine below_drewN ?_ _ | (refine below_call ?_ (by assumption) (by first | omega | (simp; done) | (simp; omega))) | (refine Below.trans ?_ (by assumption))))).cell 1
      have u_K0_2 : (w7.alloc (.cells #[.int .i64 INP, .slice a7_0 n4_0 c7_0, .int .i64 RT] 26)).cell? ⟨w.heap.size, 2, none⟩ = some (.slice a0_3 n0_3 c0_3) := (K0.out.keep (show Below w7.heap.size w7 (w7.alloc (.cells #[.int .i64 INP, .slice a7_0 n4_0 c7_0, .int .i64 RT] 26)) by repeat (first | exact Below.refl _ _ | assumption | refine below_allocS ?_ _ | refine below_callS ?_ (by assumption) | (refine Below.alloc ?_ (by first | omega | (simp; done) | (simp; omega)) _) | (refine Below.setCell ?_ (by first | omega | (simp; done) | (simp; omega)) _) | refine Below.drew ?_ | refine below_drewN ?_ _ | (refine below_call ?_ (by assumption) (by first | omega | (simp; done) | (simp; omega))) | (refine Below.trans ?_ (by assumption))))).cell 2
      have v_K0 : w.heap.size < (w7.alloc (.cells #[.int .i64 INP, .slice a7_0 n4_0 c7_0, .int .i64 RT] 26)).heap.size := (K0.out.keep (show Below w7.heap.size w7 (w7.alloc (.cells #[.int .i64 INP, .slice a7_0 n4_0 c7_0, .int .i64 RT] 26)) by repeat (first | exact Below.refl _ _ | assumption | refine below_allocS ?_ _ | refine below_callS ?_ (by assumption) | (refine Below.alloc ?_ (by first | omega | (simp; done) | (simp; omega)) _) | (refine Below.setCell ?_ (by first | omega | (simp; done) | (simp; omega)) _) | refine Below.drew ?_ | refine below_drewN ?_ _ | (refine below_call ?_ (by assumption) (by first | omega | (simp; done) | (simp; omega))) | (refine Below.trans ?_ (by assumption))))).lt
      have u_R4_0_0 : (w7.alloc (.cells #[.int .i64 INP, .slice a7_0 n4_0 c7_0, .int .i64 RT] 26)).cell? ⟨w4.heap.size, 0, none⟩ = some (.int .i64 INP) := (R4_0.out.keep (show Below w7.heap.size w7 (w7.alloc (.cells #[.int .i64 INP, .slice a7_0 n4_0 c7_0, .int .i64 RT] 26)) by repeat (first | exact Below.refl _ _ | assumption | refine below_allocS ?_ _ | refine below_callS ?_ (by assumption) | (refine Below.alloc ?_ (by first | omega | (simp; done) | (simp; omega)) _) | (refine Below.setCell ?_ (by first | omega | (simp; done) | (simp; omega)) _) | refine Below.drew ?_ | refine below_drewN ?_ _ | (refine below_call ?_ (by assumption) (by first | omega | (simp; done) | (simp; omega))) | (refine Below.trans ?_ (by assumption))))).cell 0
      have u_R4_0_1 : (w7.alloc (.cells #[.int .i64 INP, .slice a7_0 n4_0 c7_0, .int .i64 RT] 26)).cell? ⟨w4.heap.size, 1, none⟩ = some (.slice a4_0 n4_0 c4_0) := (R4_0.out.keep (show Below w7.heap.size w7 (w7.alloc (.cells #[.int .i64 INP, .slice a7_0 n4_0 c7_0, .int .i64 RT] 26)) by repeat (first | exact Below.refl _ _ | assumption | refine below_allocS ?_ _ | refine below_callS ?_ (by assumption) | (refine Below.alloc ?_ (by first | omega | (simp; done) | (simp; omega)) _) | (refine Below.setCell ?_ (by first | omega | (simp; done) | (simp; omega)) _) | refine Below.drew ?_ | refine below_drewN ?_ _ | (refine below_call ?_ (by assumption) (by first | omega | (simp; done) | (simp; omega))) | (refine Below.trans ?_ (by assumption))))).cell 1
      have u_R4_0_2 : (w7.alloc (.cells #[.int .i64 INP, .slice a7_0 n4_0 c7_0, .int .i64 RT] 26)).cell? ⟨w4.heap.size, 2, none⟩ = some (.int .i64 RT) := (R4_0.out.keep (show Below w7.heap.size w7 (w7.alloc (.cells #[.int .i64 INP, .slice a7_0 n4_0 c7_0, .int .i64 RT] 26)) by repeat (first | exact Below.refl _ _ | assumption | refine below_allocS ?_ _ | refine below_callS ?_ (by assumption) | (refine Below.alloc ?_ (by first | omega | (simp; done) | (simp; omega)) _) | (refine Below.setCell ?_ (by first | omega | (simp; done) | (simp; omega)) _) | refine Below.drew ?_ | refine below_drewN ?_ _ | (refine below_call ?_ (by assumption) (by first | omega | (simp; done) | (simp; omega))) | (refine Below.trans ?_ (by assumption))))).cell 2
      have v_R4_0 : w4.heap.size < (w7.alloc (.cells #[.int .i64 INP, .slice a7_0 n4_0 c7_0, .int .i64 RT] 26)).heap.size := (R4_0.out.keep (show Below w7.heap.size w7 (w7.alloc (.cells #[.int .i64 INP, .slice a7_0 n4_0 c7_0, .int .i64 RT] 26)) by repeat (first | exact Below.refl _ _ | assumption | refine below_allocS ?_ _ | refine below_callS ?_ (by assumption) | (refine Below.alloc ?_ (by first | omega | (simp; done) | (simp; omega)) _) | (refine Below.setCell ?_ (by first | omega | (simp; done) | (simp; omega)) _) | refine Below.drew ?_ | refine below_drewN ?_ _ | (refine below_call ?_ (by assumption) (by first | omega | (simp; done) | (simp; omega))) | (refine Below.trans ?_ (by assumption))))).lt
      have u_X0_0 : (w7.alloc (.cells #[.int .i64 INP, .slice a7_0 n4_0 c7_0, .int .i64 RT] 26)).cell? ⟨w5.heap.size, 0, none⟩ = some (.slice (some ⟨g5_1, 0, none⟩) n0_1 n0_1) := (X0.out.keep (show Below w7.heap.size w7 (w7.alloc (.cells #[.int .i64 INP, .slice a7_0 n4_0 c7_0, .int .i64 RT] 26)) by repeat (first | exact Below.refl _ _ | assumption | refine below_allocS ?_ _ | refine below_callS ?_ (by assumption) | (refine Below.alloc ?_ (by first | omega | (simp; done) | (simp; omega)) _) | (refine Below.setCell ?_ (by first | omega | (simp; done) | (simp; omega)) _) | refine Below.drew ?_ | refine below_drewN ?_ _ | (refine below_call ?_ (by assumption) (by first | omega | (simp; done) | (simp; omega))) | (refine Below.trans ?_ (by assumption))))).cell 0
      have u_X0_1 : (w7.alloc (.cells #[.int .i64 INP, .slice a7_0 n4_0 c7_0, .int .i64 RT] 26)).cell? ⟨w5.heap.size, 1, none⟩ = some (.slice (some ⟨g5_2, 0, none⟩) n0_2 n0_2) := (X0.out.keep (show Below w7.heap.size w7 (w7.alloc (.cells #[.int .i64 INP, .slice a7_0 n4_0 c7_0, .int .i64 RT] 26)) by repeat (first | exact Below.refl _ _ | assumption | refine below_allocS ?_ _ | refine below_callS ?_ (by assumption) | (refine Below.alloc ?_ (by first | omega | (simp; done) | (simp; omega)) _) | (refine Below.setCell ?_ (by first | omega | (simp; done) | (simp; omega)) _) | refine Below.drew ?_ | refine below_drewN ?_ _ | (refine below_call ?_ (by assumption) (by first | omega | (simp; done) | (simp; omega))) | (refine Below.trans ?_ (by assumption))))).cell 1
      have u_X0_2 : (w7.alloc (.cells #[.int .i64 INP, .slice a7_0 n4_0 c7_0, .int .i64 RT] 26)).cell? ⟨w5.heap.size, 2, none⟩ = some (.slice (some ⟨g5_3, 0, none⟩) n0_3 n0_3) := (X0.out.keep (show Below w7.heap.size w7 (w7.alloc (.cells #[.int .i64 INP, .slice a7_0 n4_0 c7_0, .int .i64 RT] 26)) by repeat (first | exact Below.refl _ _ | assumption | refine below_allocS ?_ _ | refine below_callS ?_ (by assumption) | (refine Below.alloc ?_ (by first | omega | (simp; done) | (simp; omega)) _) | (refine Below.setCell ?_ (by first | omega | (simp; done) | (simp; omega)) _) | refine Below.drew ?_ | refine below_drewN ?_ _ | (refine below_call ?_ (by assumption) (by first | omega | (simp; done) | (simp; omega))) | (refine Below.trans ?_ (by assumption))))).cell 2
      have v_X0 : w5.heap.size < (w7.alloc (.cells #[.int .i64 INP, .slice a7_0 n4_0 c7_0, .int .i64 RT] 26)).heap.size := (X0.out.keep (show Below w7.heap.size w7 (w7.alloc (.cells #[.int .i64 INP, .slice a7_0 n4_0 c7_0, .int .i64 RT] 26)) by repeat (first | exact Below.refl _ _ | assumption | refine below_allocS ?_ _ | refine below_callS ?_ (by assumption) | (refine Below.alloc ?_ (by first | omega | (simp; done) | (simp; omega)) _) | (refine Below.setCell ?_ (by first | omega | (simp; done) | (simp; omega)) _) | refine Below.drew ?_ | refine below_drewN ?_ _ | (refine below_call ?_ (by assumption) (by first | omega | (simp; done) | (simp; omega))) | (refine Below.trans ?_ (by assumption))))).lt
      have y_R7_0 : Blk (w7.alloc (.cells #[.int .i64 INP, .slice a7_0 n4_0 c7_0, .int .i64 RT] 26)) w7.heap.size #[.int .i64 INP, .slice a7_0 n4_0 c7_0, .int .i64 RT] 26 := by have hh := (Blk.made w7 #[.int .i64 INP, .slice a7_0 n4_0 c7_0, .int .i64 RT] 26); simpa using hh
      have u_R7_0_0 : (w7.alloc (.cells #[.int .i64 INP, .slice a7_0 n4_0 c7_0, .int .i64 RT] 26)).cell? ⟨w7.heap.size, 0, none⟩ = some (.int .i64 INP) := y_R7_0.cell 0
      have u_R7_0_1 : (w7.alloc (.cells #[.int .i64 INP, .slice a7_0 n4_0 c7_0, .int .i64 RT] 26)).cell? ⟨w7.heap.size, 1, none⟩ = some (.slice a7_0 n4_0 c7_0) := y_R7_0.cell 1
      have u_R7_0_2 : (w7.alloc (.cells #[.int .i64 INP, .slice a7_0 n4_0 c7_0, .int .i64 RT] 26)).cell? ⟨w7.heap.size, 2, none⟩ = some (.int .i64 RT) := y_R7_0.cell 2
      have v_R7_0 : w7.heap.size < (w7.alloc (.cells #[.int .i64 INP, .slice a7_0 n4_0 c7_0, .int .i64 RT] 26)).heap.size := y_R7_0.lt
      go_wp2_with fail
      refine Calls.mono (laws_eqDiagram ((O7_0.out.keep (show Below w7.heap.size w7 (w7.alloc (.cells #[.int .i64 INP, .slice a7_0 n4_0 c7_0, .int .i64 RT] 26)) by repeat (first | exact Below.refl _ _ | assumption | refine below_allocS ?_ _ | refine below_callS ?_ (by assumption) | (refine Below.alloc ?_ (by first | omega | (simp; done) | (simp; omega)) _) | (refine Below.setCell ?_ (by first | omega | (simp; done) | (simp; omega)) _) | refine Below.drew ?_ | refine below_drewN ?_ _ | (refine below_call ?_ (by assumption) (by first | omega | (simp; done) | (simp; omega))) | (refine Below.trans ?_ (by assumption))))).fact.flats) ((O4_0.out.keep (show Below w7.heap.size w7 (w7.alloc (.cells #[.int .i64 INP, .slice a7_0 n4_0 c7_0, .int .i64 RT] 26)) by repeat (first | exact Below.refl _ _ | assumption | refine below_allocS ?_ _ | refine below_callS ?_ (by assumption) | (refine Below.alloc ?_ (by first | omega | (simp; done) | (simp; omega)) _) | (refine Below.setCell ?_ (by first | omega | (simp; done) | (simp; omega)) _) | refine Below.drew ?_ | refine below_drewN ?_ _ | (refine below_call ?_ (by assumption) (by first | omega | (simp; done) | (simp; omega))) | (refine Below.trans ?_ (by assumption))))).fact.flats) hln0 hln0) ?_
      rintro e w8 ⟨rfl, hb_w8⟩
      have hs_w8 := hb_w8.size
      simp at hs_w8
      clear u_K0_0 u_K0_1 u_K0_2 v_K0 u_R4_0_0 u_R4_0_1 u_R4_0_2 v_R4_0 u_X0_0 u_X0_1 u_X0_2 v_X0 y_R7_0 u_R7_0_0 u_R7_0_1 u_R7_0_2 v_R7_0
      have hst : Below w7.heap.size w7 w8 := by repeat (first | exact Below.refl _ _ | assumption | refine below_allocS ?_ _ | refine below_callS ?_ (by assumption) | (refine Below.alloc ?_ (by first | omega | (simp; done) | (simp; omega)) _) | (refine Below.setCell ?_ (by first | omega | (simp; done) | (simp; omega)) _) | refine Below.drew ?_ | refine below_drewN ?_ _ | (refine below_call ?_ (by assumption) (by first | omega | (simp; done) | (simp; omega))) | (refine Below.trans ?_ (by assumption)))
      have hB_w8 : Below w.heap.size w w8 := below_callS hB_w7 hst
      replace K0 := Lib.hid (K0.out.keep hst)
      replace R4_0 := Lib.hid (R4_0.out.keep hst)
      replace X0 := Lib.hid (X0.out.keep hst)
      replace O4_0 := Lib.hid (O4_0.out.keep hst)
      replace O5 := Lib.hid (O5.out.keep hst)
      replace O6 := Lib.hid (O6.out.keep hst)
      replace O7_0 := Lib.hid (O7_0.out.keep hst)
      have R7_0 := Lib.hid (show Blk w8 (w7.heap.size) #[.int .i64 INP, .slice a7_0 n4_0 c7_0, .int .i64 RT] 26 by have hh := ((Blk.made w7 #[.int .i64 INP, .slice a7_0 n4_0 c7_0, .int .i64 RT] 26)).keep hb_w8; simpa using hh)
      clear hst hb_w8 hB_w7
      go_wp2
      have u_K0_0 : w8.cell? ⟨w.heap.size, 0, none⟩ = some (.slice a0_1 n0_1 c0_1) := (K0.out).cell 0
      have u_K0_1 : w8.cell? ⟨w.heap.size, 1, none⟩ = some (.slice a0_2 n0_2 c0_2) := (K0.out).cell 1
      have u_K0_2 : w8.cell? ⟨w.heap.size, 2, none⟩ = some (.slice a0_3 n0_3 c0_3) := (K0.out).cell 2
      have v_K0 : w.heap.size < w8.heap.size := (K0.out).lt
      have u_X0_0 : w8.cell? ⟨w5.heap.size, 0, none⟩ = some (.slice (some ⟨g5_1, 0, none⟩) n0_1 n0_1) := (X0.out).cell 0
      have u_X0_1 : w8.cell? ⟨w5.heap.size, 1, none⟩ = some (.slice (some ⟨g5_2, 0, none⟩) n0_2 n0_2) := (X0.out).cell 1
      have u_X0_2 : w8.cell? ⟨w5.heap.size, 2, none⟩ = some (.slice (some ⟨g5_3, 0, none⟩) n0_3 n0_3) := (X0.out).cell 2
      have v_X0 : w5.heap.size < w8.heap.size := (X0.out).lt
      go_region_held3 (fun wx => wx.cell? ⟨w5.heap.size, 0, none⟩ = some (.slice (some ⟨g5_1, 0, none⟩) n0_1 n0_1) ∧ wx.cell? ⟨w5.heap.size, 1, none⟩ = some (.slice (some ⟨g5_2, 0, none⟩) n0_2 n0_2) ∧ wx.cell? ⟨w5.heap.size, 2, none⟩ = some (.slice (some ⟨g5_3, 0, none⟩) n0_3 n0_3) ∧ w5.heap.size < wx.heap.size ∧ wx.cell? ⟨w.heap.size, 0, none⟩ = some (.slice a0_1 n0_1 c0_1) ∧ wx.cell? ⟨w.heap.size, 1, none⟩ = some (.slice a0_2 n0_2 c0_2) ∧ wx.cell? ⟨w.heap.size, 2, none⟩ = some (.slice a0_3 n0_3 c0_3) ∧ w.heap.size < wx.heap.size ∧ Below w8.heap.size w8 wx ∧ Below w.heap.size w wx) (((try go_split_ands); (repeat' apply And.intro) <;> first | assumption | exact Below.drew (Below.refl _ _) | exact Blk.keep (by assumption) hbx | exact Blk.drew (by assumption) | exact Blk.drew (Blk.made _ _ _) | exact Below.drew (by assumption) | exact Below.drew (below_allocS (by first | exact Below.refl _ _ | assumption) _) | exact below_callS (by assumption) hbx | exact below_call (by assumption) hbx (Below.size (by assumption)) | exact (hcx _ _ (by assumption)).trans (by assumption) | omega | (simp [*]; done) | (simp; omega))) (first | (go_at_call 32; go_split_ands; refine Calls.mono (laws_toModel (HI0.out.keep (by assumption))) ?_; rintro e w9 ⟨gw9_1, gw9_2, gw9_3, rfl, hbx, how9⟩; have HOw9 := Lib.hid how9; obtain ⟨hcx, hfx⟩ := bcell hbx; have hsx := hbx.size) | (go_at_call 36; go_split_ands; refine Calls.mono (laws_eqModel (O5.out.keep (by assumption)).fact.rd ((HOw9.out).rd.keep (by repeat (first | exact Below.refl _ _ | assumption | refine below_allocS ?_ _ | refine below_callS ?_ (by assumption) | (refine Below.alloc ?_ (by first | omega | (simp; done) | (simp; omega)) _) | (refine Below.setCell ?_ (by first | omega | (simp; done) | (simp; omega)) _) | refine Below.drew ?_ | refine below_drewN ?_ _ | (refine below_call ?_ (by assumption) (by first | omega | (simp; done) | (simp; omega))) | (refine Below.trans ?_ (by assumption)))))) ?_; rintro e w10 ⟨rfl, hbx⟩; obtain ⟨hcx, hfx⟩ := bcell hbx; have hsx := hbx.size))
      go_split_ands
      have hb_w10 : Below w8.heap.size w8 w10 := by assumption
      have hs_w10 := hb_w10.size
      clear u_K0_0 u_K0_1 u_K0_2 v_K0 u_X0_0 u_X0_1 u_X0_2 v_X0
      have hst : Below w8.heap.size w8 w10 := by repeat (first | exact Below.refl _ _ | assumption | refine below_allocS ?_ _ | refine below_callS ?_ (by assumption) | (refine Below.alloc ?_ (by first | omega | (simp; done) | (simp; omega)) _) | (refine Below.setCell ?_ (by first | omega | (simp; done) | (simp; omega)) _) | refine Below.drew ?_ | refine below_drewN ?_ _ | (refine below_call ?_ (by assumption) (by first | omega | (simp; done) | (simp; omega))) | (refine Below.trans ?_ (by assumption)))
      have hB_w10 : Below w.heap.size w w10 := below_callS hB_w8 hst
      replace K0 := Lib.hid (K0.out.keep hst)
      replace R4_0 := Lib.hid (R4_0.out.keep hst)
      replace X0 := Lib.hid (X0.out.keep hst)
      replace R7_0 := Lib.hid (R7_0.out.keep hst)
      replace O4_0 := Lib.hid (O4_0.out.keep hst)
      replace O5 := Lib.hid (O5.out.keep hst)
      replace O6 := Lib.hid (O6.out.keep hst)
      replace O7_0 := Lib.hid (O7_0.out.keep hst)
      clear hst hb_w10 hB_w8
      have u_K0_0 : w10.cell? ⟨w.heap.size, 0, none⟩ = some (.slice a0_1 n0_1 c0_1) := (K0.out).cell 0
      have u_K0_1 : w10.cell? ⟨w.heap.size, 1, none⟩ = some (.slice a0_2 n0_2 c0_2) := (K0.out).cell 1
      have u_K0_2 : w10.cell? ⟨w.heap.size, 2, none⟩ = some (.slice a0_3 n0_3 c0_3) := (K0.out).cell 2
      have v_K0 : w.heap.size < w10.heap.size := (K0.out).lt
      have u_R4_0_0 : w10.cell? ⟨w4.heap.size, 0, none⟩ = some (.int .i64 INP) := (R4_0.out).cell 0
      have u_R4_0_1 : w10.cell? ⟨w4.heap.size, 1, none⟩ = some (.slice a4_0 n4_0 c4_0) := (R4_0.out).cell 1
      have u_R4_0_2 : w10.cell? ⟨w4.heap.size, 2, none⟩ = some (.int .i64 RT) := (R4_0.out).cell 2
      have v_R4_0 : w4.heap.size < w10.heap.size := (R4_0.out).lt
      have u_X0_0 : w10.cell? ⟨w5.heap.size, 0, none⟩ = some (.slice (some ⟨g5_1, 0, none⟩) n0_1 n0_1) := (X0.out).cell 0
      have u_X0_1 : w10.cell? ⟨w5.heap.size, 1, none⟩ = some (.slice (some ⟨g5_2, 0, none⟩) n0_2 n0_2) := (X0.out).cell 1
      have u_X0_2 : w10.cell? ⟨w5.heap.size, 2, none⟩ = some (.slice (some ⟨g5_3, 0, none⟩) n0_3 n0_3) := (X0.out).cell 2
      have v_X0 : w5.heap.size < w10.heap.size := (X0.out).lt
      have u_R7_0_0 : w10.cell? ⟨w7.heap.size, 0, none⟩ = some (.int .i64 INP) := (R7_0.out).cell 0
      have u_R7_0_1 : w10.cell? ⟨w7.heap.size, 1, none⟩ = some (.slice a7_0 n4_0 c7_0) := (R7_0.out).cell 1
      have u_R7_0_2 : w10.cell? ⟨w7.heap.size, 2, none⟩ = some (.int .i64 RT) := (R7_0.out).cell 2
      have v_R7_0 : w7.heap.size < w10.heap.size := (R7_0.out).lt
      go_wp2_with fail
      refine Calls.mono (laws_toTestS_g (HI1.out.keep (by repeat (first | exact Below.refl _ _ | assumption | refine below_allocS ?_ _ | refine below_callS ?_ (by assumption) | (refine Below.alloc ?_ (by first | omega | (simp; done) | (simp; omega)) _) | (refine Below.setCell ?_ (by first | omega | (simp; done) | (simp; omega)) _) | refine Below.drew ?_ | refine below_drewN ?_ _ | (refine below_call ?_ (by assumption) (by first | omega | (simp; done) | (simp; omega))) | (refine Below.trans ?_ (by assumption))))) hn1) ?_
      rintro e w11 ⟨g11, rfl, hb_w11, ho11⟩
      have hs_w11 := hb_w11.size
      clear u_K0_0 u_K0_1 u_K0_2 v_K0 u_R4_0_0 u_R4_0_1 u_R4_0_2 v_R4_0 u_X0_0 u_X0_1 u_X0_2 v_X0 u_R7_0_0 u_R7_0_1 u_R7_0_2 v_R7_0
      have ko11 := ho11.blk g11 rfl
      have O11 := Lib.hid (ho11.own)
      clear ho11
      have hst : Below w10.heap.size w10 w11 := by repeat (first | exact Below.refl _ _ | assumption | refine below_allocS ?_ _ | refine below_callS ?_ (by assumption) | (refine Below.alloc ?_ (by first | omega | (simp; done) | (simp; omega)) _) | (refine Below.setCell ?_ (by first | omega | (simp; done) | (simp; omega)) _) | refine Below.drew ?_ | refine below_drewN ?_ _ | (refine below_call ?_ (by assumption) (by first | omega | (simp; done) | (simp; omega))) | (refine Below.trans ?_ (by assumption)))
      have hB_w11 : Below w.heap.size w w11 := below_callS hB_w10 hst
      replace K0 := Lib.hid (K0.out.keep hst)
      replace R4_0 := Lib.hid (R4_0.out.keep hst)
      replace X0 := Lib.hid (X0.out.keep hst)
      replace R7_0 := Lib.hid (R7_0.out.keep hst)
      replace O4_0 := Lib.hid (O4_0.out.keep hst)
      replace O5 := Lib.hid (O5.out.keep hst)
      replace O6 := Lib.hid (O6.out.keep hst)
      replace O7_0 := Lib.hid (O7_0.out.keep hst)
      clear hst hb_w11 hB_w10
      have u_K0_0 : w11.cell? ⟨w.heap.size, 0, none⟩ = some (.slice a0_1 n0_1 c0_1) := (K0.out).cell 0
      have u_K0_1 : w11.cell? ⟨w.heap.size, 1, none⟩ = some (.slice a0_2 n0_2 c0_2) := (K0.out).cell 1
      have u_K0_2 : w11.cell? ⟨w.heap.size, 2, none⟩ = some (.slice a0_3 n0_3 c0_3) := (K0.out).cell 2
      have v_K0 : w.heap.size < w11.heap.size := (K0.out).lt
      have u_R4_0_0 : w11.cell? ⟨w4.heap.size, 0, none⟩ = some (.int .i64 INP) := (R4_0.out).cell 0
      have u_R4_0_1 : w11.cell? ⟨w4.heap.size, 1, none⟩ = some (.slice a4_0 n4_0 c4_0) := (R4_0.out).cell 1
      have u_R4_0_2 : w11.cell? ⟨w4.heap.size, 2, none⟩ = some (.int .i64 RT) := (R4_0.out).cell 2
      have v_R4_0 : w4.heap.size < w11.heap.size := (R4_0.out).lt
      have u_X0_0 : w11.cell? ⟨w5.heap.size, 0, none⟩ = some (.slice (some ⟨g5_1, 0, none⟩) n0_1 n0_1) := (X0.out).cell 0
      have u_X0_1 : w11.cell? ⟨w5.heap.size, 1, none⟩ = some (.slice (some ⟨g5_2, 0, none⟩) n0_2 n0_2) := (X0.out).cell 1
      have u_X0_2 : w11.cell? ⟨w5.heap.size, 2, none⟩ = some (.slice (some ⟨g5_3, 0, none⟩) n0_3 n0_3) := (X0.out).cell 2
      have v_X0 : w5.heap.size < w11.heap.size := (X0.out).lt
      have u_R7_0_0 : w11.cell? ⟨w7.heap.size, 0, none⟩ = some (.int .i64 INP) := (R7_0.out).cell 0
      have u_R7_0_1 : w11.cell? ⟨w7.heap.size, 1, none⟩ = some (.slice a7_0 n4_0 c7_0) := (R7_0.out).cell 1
      have u_R7_0_2 : w11.cell? ⟨w7.heap.size, 2, none⟩ = some (.int .i64 RT) := (R7_0.out).cell 2
      have v_R7_0 : w7.heap.size < w11.heap.size := (R7_0.out).lt
      go_wp2_with fail
      refine Calls.mono (laws_eqTestS ((O6.out).fact.flats) ((O11.out).fact.flats) hn1) ?_
      rintro e w12 ⟨rfl, hb_w12⟩
      have hs_w12 := hb_w12.size
      clear u_K0_0 u_K0_1 u_K0_2 v_K0 u_R4_0_0 u_R4_0_1 u_R4_0_2 v_R4_0 u_X0_0 u_X0_1 u_X0_2 v_X0 u_R7_0_0 u_R7_0_1 u_R7_0_2 v_R7_0
      have hst : Below w11.heap.size w11 w12 := by repeat (first | exact Below.refl _ _ | assumption | refine below_allocS ?_ _ | refine below_callS ?_ (by assumption) | (refine Below.alloc ?_ (by first | omega | (simp; done) | (simp; omega)) _) | (refine Below.setCell ?_ (by first | omega | (simp; done) | (simp; omega)) _) | refine Below.drew ?_ | refine below_drewN ?_ _ | (refine below_call ?_ (by assumption) (by first | omega | (simp; done) | (simp; omega))) | (refine Below.trans ?_ (by assumption)))
      have hB_w12 : Below w.heap.size w w12 := below_callS hB_w11 hst
      replace K0 := Lib.hid (K0.out.keep hst)
      replace R4_0 := Lib.hid (R4_0.out.keep hst)
      replace X0 := Lib.hid (X0.out.keep hst)
      replace R7_0 := Lib.hid (R7_0.out.keep hst)
      replace O4_0 := Lib.hid (O4_0.out.keep hst)
      replace O5 := Lib.hid (O5.out.keep hst)
      replace O6 := Lib.hid (O6.out.keep hst)
      replace O7_0 := Lib.hid (O7_0.out.keep hst)
      replace O11 := Lib.hid (O11.out.keep hst)
      clear hst hb_w12 hB_w11
      clear O11
      have u_K0_0 : w12.cell? ⟨w.heap.size, 0, none⟩ = some (.slice a0_1 n0_1 c0_1) := (K0.out).cell 0
      have u_K0_1 : w12.cell? ⟨w.heap.size, 1, none⟩ = some (.slice a0_2 n0_2 c0_2) := (K0.out).cell 1
      have u_K0_2 : w12.cell? ⟨w.heap.size, 2, none⟩ = some (.slice a0_3 n0_3 c0_3) := (K0.out).cell 2
      have v_K0 : w.heap.size < w12.heap.size := (K0.out).lt
      have u_R4_0_0 : w12.cell? ⟨w4.heap.size, 0, none⟩ = some (.int .i64 INP) := (R4_0.out).cell 0
      have u_R4_0_1 : w12.cell? ⟨w4.heap.size, 1, none⟩ = some (.slice a4_0 n4_0 c4_0) := (R4_0.out).cell 1
      have u_R4_0_2 : w12.cell? ⟨w4.heap.size, 2, none⟩ = some (.int .i64 RT) := (R4_0.out).cell 2
      have v_R4_0 : w4.heap.size < w12.heap.size := (R4_0.out).lt
      have u_X0_0 : w12.cell? ⟨w5.heap.size, 0, none⟩ = some (.slice (some ⟨g5_1, 0, none⟩) n0_1 n0_1) := (X0.out).cell 0
      have u_X0_1 : w12.cell? ⟨w5.heap.size, 1, none⟩ = some (.slice (some ⟨g5_2, 0, none⟩) n0_2 n0_2) := (X0.out).cell 1
      have u_X0_2 : w12.cell? ⟨w5.heap.size, 2, none⟩ = some (.slice (some ⟨g5_3, 0, none⟩) n0_3 n0_3) := (X0.out).cell 2
      have v_X0 : w5.heap.size < w12.heap.size := (X0.out).lt
      have u_R7_0_0 : w12.cell? ⟨w7.heap.size, 0, none⟩ = some (.int .i64 INP) := (R7_0.out).cell 0
      have u_R7_0_1 : w12.cell? ⟨w7.heap.size, 1, none⟩ = some (.slice a7_0 n4_0 c7_0) := (R7_0.out).cell 1
      have u_R7_0_2 : w12.cell? ⟨w7.heap.size, 2, none⟩ = some (.int .i64 RT) := (R7_0.out).cell 2
      have v_R7_0 : w7.heap.size < w12.heap.size := (R7_0.out).lt
      go_wp2_with fail
      refine Calls.mono (laws_markModel O5.out.fact hC0 (by omega) (by omega) (by have hh := O5.out.upto; exact hh)) ?_
      rintro e w13 ⟨rfl, hon, ho⟩
      clear u_K0_0 u_K0_1 u_K0_2 v_K0 u_R4_0_0 u_R4_0_1 u_R4_0_2 v_R4_0 u_X0_0 u_X0_1 u_X0_2 v_X0 u_R7_0_0 u_R7_0_1 u_R7_0_2 v_R7_0
      have hs_w13 := hon.size
      have nx := O5.out.turn hs_w13 ho MOwn.here
      clear ho
      replace O5 := Lib.hid nx
      clear nx
      have hB_w13 : Below w.heap.size w w13 := hon.below hB_w12 (by omega) (by omega)
      replace K0 := Lib.hid (K0.out.apart hon (by omega))
      replace R4_0 := Lib.hid (R4_0.out.apart hon (by omega))
      replace X0 := Lib.hid (X0.out.apart hon (by omega))
      replace R7_0 := Lib.hid (R7_0.out.apart hon (by omega))
      replace O4_0 := Lib.hid (O4_0.out.apart hon (by omega))
      replace O6 := Lib.hid (O6.out.apart hon (by omega))
      replace O7_0 := Lib.hid (O7_0.out.apart hon (by omega))
      clear hon hB_w12
      have bd_O6 : ∀ g : Nat, ((some ⟨g6, 0, none⟩) : Option Addr) = some ⟨g, 0, none⟩ → w5.heap.size + 1 ≤ g ∧ g < w6.heap.size := fun g hg => by cases hg; omega
      have u_K0_0 : w13.cell? ⟨w.heap.size, 0, none⟩ = some (.slice a0_1 n0_1 c0_1) := (K0.out).cell 0
      have u_K0_1 : w13.cell? ⟨w.heap.size, 1, none⟩ = some (.slice a0_2 n0_2 c0_2) := (K0.out).cell 1
      have u_K0_2 : w13.cell? ⟨w.heap.size, 2, none⟩ = some (.slice a0_3 n0_3 c0_3) := (K0.out).cell 2
      have v_K0 : w.heap.size < w13.heap.size := (K0.out).lt
      have u_R4_0_0 : w13.cell? ⟨w4.heap.size, 0, none⟩ = some (.int .i64 INP) := (R4_0.out).cell 0
      have u_R4_0_1 : w13.cell? ⟨w4.heap.size, 1, none⟩ = some (.slice a4_0 n4_0 c4_0) := (R4_0.out).cell 1
      have u_R4_0_2 : w13.cell? ⟨w4.heap.size, 2, none⟩ = some (.int .i64 RT) := (R4_0.out).cell 2
      have v_R4_0 : w4.heap.size < w13.heap.size := (R4_0.out).lt
      have u_X0_0 : w13.cell? ⟨w5.heap.size, 0, none⟩ = some (.slice (some ⟨g5_1, 0, none⟩) n0_1 n0_1) := (X0.out).cell 0
      have u_X0_1 : w13.cell? ⟨w5.heap.size, 1, none⟩ = some (.slice (some ⟨g5_2, 0, none⟩) n0_2 n0_2) := (X0.out).cell 1
      have u_X0_2 : w13.cell? ⟨w5.heap.size, 2, none⟩ = some (.slice (some ⟨g5_3, 0, none⟩) n0_3 n0_3) := (X0.out).cell 2
      have v_X0 : w5.heap.size < w13.heap.size := (X0.out).lt
      have u_R7_0_0 : w13.cell? ⟨w7.heap.size, 0, none⟩ = some (.int .i64 INP) := (R7_0.out).cell 0
      have u_R7_0_1 : w13.cell? ⟨w7.heap.size, 1, none⟩ = some (.slice a7_0 n4_0 c7_0) := (R7_0.out).cell 1
      have u_R7_0_2 : w13.cell? ⟨w7.heap.size, 2, none⟩ = some (.int .i64 RT) := (R7_0.out).cell 2
      have v_R7_0 : w7.heap.size < w13.heap.size := (R7_0.out).lt
      go_wp2_with fail
      refine Calls.mono (laws_markTestS O6.out.fact hn1 (by omega) (by omega)) ?_
      rintro e w14 ⟨rfl, ht, ho⟩
      clear u_K0_0 u_K0_1 u_K0_2 v_K0 u_R4_0_0 u_R4_0_1 u_R4_0_2 v_R4_0 u_X0_0 u_X0_1 u_X0_2 v_X0 u_R7_0_0 u_R7_0_1 u_R7_0_2 v_R7_0
      have hs_w14 := ht.size
      have hon : Only (w5.heap.size + 1) (w6.heap.size) w13 w14 := ht.only (fun g hg => bd_O6 g hg)
      have nx := O6.out.turn hs_w14 ho (OwnF.here (fun g hg => bd_O6 g hg))
      clear ho ht
      replace O6 := Lib.hid nx
      clear nx
      have hB_w14 : Below w.heap.size w w14 := hon.below hB_w13 (by omega) (by omega)
      replace K0 := Lib.hid (K0.out.apart hon (by omega))
      replace R4_0 := Lib.hid (R4_0.out.apart hon (by omega))
      replace X0 := Lib.hid (X0.out.apart hon (by omega))
      replace R7_0 := Lib.hid (R7_0.out.apart hon (by omega))
      replace O4_0 := Lib.hid (O4_0.out.apart hon (by omega))
      replace O5 := Lib.hid (O5.out.apart hon (by omega))
      replace O7_0 := Lib.hid (O7_0.out.apart hon (by omega))
      clear hon hB_w13
      have kq : decide ((1 : Int) + (n0_1 : Int) + (n0_2 : Int) + (n0_4 : Int) + 3 * (n1 : Int) < 0) = false := by simp; omega
      have u_K0_0 : w14.cell? ⟨w.heap.size, 0, none⟩ = some (.slice a0_1 n0_1 c0_1) := (K0.out).cell 0
      have u_K0_1 : w14.cell? ⟨w.heap.size, 1, none⟩ = some (.slice a0_2 n0_2 c0_2) := (K0.out).cell 1
      have u_K0_2 : w14.cell? ⟨w.heap.size, 2, none⟩ = some (.slice a0_3 n0_3 c0_3) := (K0.out).cell 2
      have v_K0 : w.heap.size < w14.heap.size := (K0.out).lt
      have u_R4_0_0 : w14.cell? ⟨w4.heap.size, 0, none⟩ = some (.int .i64 INP) := (R4_0.out).cell 0
      have u_R4_0_1 : w14.cell? ⟨w4.heap.size, 1, none⟩ = some (.slice a4_0 n4_0 c4_0) := (R4_0.out).cell 1
      have u_R4_0_2 : w14.cell? ⟨w4.heap.size, 2, none⟩ = some (.int .i64 RT) := (R4_0.out).cell 2
      have v_R4_0 : w4.heap.size < w14.heap.size := (R4_0.out).lt
      have u_X0_0 : w14.cell? ⟨w5.heap.size, 0, none⟩ = some (.slice (some ⟨g5_1, 0, none⟩) n0_1 n0_1) := (X0.out).cell 0
      have u_X0_1 : w14.cell? ⟨w5.heap.size, 1, none⟩ = some (.slice (some ⟨g5_2, 0, none⟩) n0_2 n0_2) := (X0.out).cell 1
      have u_X0_2 : w14.cell? ⟨w5.heap.size, 2, none⟩ = some (.slice (some ⟨g5_3, 0, none⟩) n0_3 n0_3) := (X0.out).cell 2
      have v_X0 : w5.heap.size < w14.heap.size := (X0.out).lt
      have u_R7_0_0 : w14.cell? ⟨w7.heap.size, 0, none⟩ = some (.int .i64 INP) := (R7_0.out).cell 0
      have u_R7_0_1 : w14.cell? ⟨w7.heap.size, 1, none⟩ = some (.slice a7_0 n4_0 c7_0) := (R7_0.out).cell 1
      have u_R7_0_2 : w14.cell? ⟨w7.heap.size, 2, none⟩ = some (.int .i64 RT) := (R7_0.out).cell 2
      have v_R7_0 : w7.heap.size < w14.heap.size := (R7_0.out).lt
      go_wp2_with fail
      refine Calls.mono (laws_eqDiagram ((O7_0.out).fact.flats) ((O4_0.out).fact.flats) hln0 hln0) ?_
      rintro e w15 ⟨rfl, hb_w15⟩
      have hs_w15 := hb_w15.size
      clear u_K0_0 u_K0_1 u_K0_2 v_K0 u_R4_0_0 u_R4_0_1 u_R4_0_2 v_R4_0 u_X0_0 u_X0_1 u_X0_2 v_X0 u_R7_0_0 u_R7_0_1 u_R7_0_2 v_R7_0
      have hst : Below w14.heap.size w14 w15 := by repeat (first | exact Below.refl _ _ | assumption | refine below_allocS ?_ _ | refine below_callS ?_ (by assumption) | (refine Below.alloc ?_ (by first | omega | (simp; done) | (simp; omega)) _) | (refine Below.setCell ?_ (by first | omega | (simp; done) | (simp; omega)) _) | refine Below.drew ?_ | refine below_drewN ?_ _ | (refine below_call ?_ (by assumption) (by first | omega | (simp; done) | (simp; omega))) | (refine Below.trans ?_ (by assumption)))
      have hB_w15 : Below w.heap.size w w15 := below_callS hB_w14 hst
      replace K0 := Lib.hid (K0.out.keep hst)
      replace R4_0 := Lib.hid (R4_0.out.keep hst)
      replace X0 := Lib.hid (X0.out.keep hst)
      replace R7_0 := Lib.hid (R7_0.out.keep hst)
      replace O4_0 := Lib.hid (O4_0.out.keep hst)
      replace O5 := Lib.hid (O5.out.keep hst)
      replace O6 := Lib.hid (O6.out.keep hst)
      replace O7_0 := Lib.hid (O7_0.out.keep hst)
      clear hst hb_w15 hB_w14
      have bd_O7_0 : ∀ g : Nat, (a7_0 : Option Addr) = some ⟨g, 0, none⟩ → w6.heap.size ≤ g ∧ g < w7.heap.size := by exact O7_0b
      have u_K0_0 : w15.cell? ⟨w.heap.size, 0, none⟩ = some (.slice a0_1 n0_1 c0_1) := (K0.out).cell 0
      have u_K0_1 : w15.cell? ⟨w.heap.size, 1, none⟩ = some (.slice a0_2 n0_2 c0_2) := (K0.out).cell 1
      have u_K0_2 : w15.cell? ⟨w.heap.size, 2, none⟩ = some (.slice a0_3 n0_3 c0_3) := (K0.out).cell 2
      have v_K0 : w.heap.size < w15.heap.size := (K0.out).lt
      have u_R4_0_0 : w15.cell? ⟨w4.heap.size, 0, none⟩ = some (.int .i64 INP) := (R4_0.out).cell 0
      have u_R4_0_1 : w15.cell? ⟨w4.heap.size, 1, none⟩ = some (.slice a4_0 n4_0 c4_0) := (R4_0.out).cell 1
      have u_R4_0_2 : w15.cell? ⟨w4.heap.size, 2, none⟩ = some (.int .i64 RT) := (R4_0.out).cell 2
      have v_R4_0 : w4.heap.size < w15.heap.size := (R4_0.out).lt
      have u_X0_0 : w15.cell? ⟨w5.heap.size, 0, none⟩ = some (.slice (some ⟨g5_1, 0, none⟩) n0_1 n0_1) := (X0.out).cell 0
      have u_X0_1 : w15.cell? ⟨w5.heap.size, 1, none⟩ = some (.slice (some ⟨g5_2, 0, none⟩) n0_2 n0_2) := (X0.out).cell 1
      have u_X0_2 : w15.cell? ⟨w5.heap.size, 2, none⟩ = some (.slice (some ⟨g5_3, 0, none⟩) n0_3 n0_3) := (X0.out).cell 2
      have v_X0 : w5.heap.size < w15.heap.size := (X0.out).lt
      have u_R7_0_0 : w15.cell? ⟨w7.heap.size, 0, none⟩ = some (.int .i64 INP) := (R7_0.out).cell 0
      have u_R7_0_1 : w15.cell? ⟨w7.heap.size, 1, none⟩ = some (.slice a7_0 n4_0 c7_0) := (R7_0.out).cell 1
      have u_R7_0_2 : w15.cell? ⟨w7.heap.size, 2, none⟩ = some (.int .i64 RT) := (R7_0.out).cell 2
      have v_R7_0 : w7.heap.size < w15.heap.size := (R7_0.out).lt
      go_wp2_with fail
      refine Calls.mono (laws_markDiagram O7_0.out.fact hln0 (by omega) (by omega)) ?_
      rintro e w16 ⟨rfl, ht, ho⟩
      clear u_K0_0 u_K0_1 u_K0_2 v_K0 u_R4_0_0 u_R4_0_1 u_R4_0_2 v_R4_0 u_X0_0 u_X0_1 u_X0_2 v_X0 u_R7_0_0 u_R7_0_1 u_R7_0_2 v_R7_0
      have hs_w16 := ht.size
      have hon : Only (w6.heap.size) (w7.heap.size) w15 w16 := ht.only (fun g hg => bd_O7_0 g hg)
      have nx := O7_0.out.turn hs_w16 ho (OwnF.here (fun g hg => bd_O7_0 g hg))
      clear ho ht
      replace O7_0 := Lib.hid nx
      clear nx
      have hB_w16 : Below w.heap.size w w16 := hon.below hB_w15 (by omega) (by omega)
      replace K0 := Lib.hid (K0.out.apart hon (by omega))
      replace R4_0 := Lib.hid (R4_0.out.apart hon (by omega))
      replace X0 := Lib.hid (X0.out.apart hon (by omega))
      replace R7_0 := Lib.hid (R7_0.out.apart hon (by omega))
      replace O4_0 := Lib.hid (O4_0.out.apart hon (by omega))
      replace O5 := Lib.hid (O5.out.apart hon (by omega))
      replace O6 := Lib.hid (O6.out.apart hon (by omega))
      clear hon hB_w15
      have e3 : decide ((1 : Int) + 3 * (n4_0 : Int) < 0) = false := by simp; omega
      have e4 : ((1 : Int) + 3 * (n4_0 : Int) != (1 : Int) + 3 * (n4_0 : Int)) = false := by simp
      have u_K0_0 : w16.cell? ⟨w.heap.size, 0, none⟩ = some (.slice a0_1 n0_1 c0_1) := (K0.out).cell 0
      have u_K0_1 : w16.cell? ⟨w.heap.size, 1, none⟩ = some (.slice a0_2 n0_2 c0_2) := (K0.out).cell 1
      have u_K0_2 : w16.cell? ⟨w.heap.size, 2, none⟩ = some (.slice a0_3 n0_3 c0_3) := (K0.out).cell 2
      have v_K0 : w.heap.size < w16.heap.size := (K0.out).lt
      have u_R4_0_0 : w16.cell? ⟨w4.heap.size, 0, none⟩ = some (.int .i64 INP) := (R4_0.out).cell 0
      have u_R4_0_1 : w16.cell? ⟨w4.heap.size, 1, none⟩ = some (.slice a4_0 n4_0 c4_0) := (R4_0.out).cell 1
      have u_R4_0_2 : w16.cell? ⟨w4.heap.size, 2, none⟩ = some (.int .i64 RT) := (R4_0.out).cell 2
      have v_R4_0 : w4.heap.size < w16.heap.size := (R4_0.out).lt
      have u_X0_0 : w16.cell? ⟨w5.heap.size, 0, none⟩ = some (.slice (some ⟨g5_1, 0, none⟩) n0_1 n0_1) := (X0.out).cell 0
      have u_X0_1 : w16.cell? ⟨w5.heap.size, 1, none⟩ = some (.slice (some ⟨g5_2, 0, none⟩) n0_2 n0_2) := (X0.out).cell 1
      have u_X0_2 : w16.cell? ⟨w5.heap.size, 2, none⟩ = some (.slice (some ⟨g5_3, 0, none⟩) n0_3 n0_3) := (X0.out).cell 2
      have v_X0 : w5.heap.size < w16.heap.size := (X0.out).lt
      have u_R7_0_0 : w16.cell? ⟨w7.heap.size, 0, none⟩ = some (.int .i64 INP) := (R7_0.out).cell 0
      have u_R7_0_1 : w16.cell? ⟨w7.heap.size, 1, none⟩ = some (.slice a7_0 n4_0 c7_0) := (R7_0.out).cell 1
      have u_R7_0_2 : w16.cell? ⟨w7.heap.size, 2, none⟩ = some (.int .i64 RT) := (R7_0.out).cell 2
      have v_R7_0 : w7.heap.size < w16.heap.size := (R7_0.out).lt
      go_wp2_with fail
      refine Calls.mono (laws_heldDiagram ((O7_0.out).fact.flats) hln0 (by omega) (by omega)) ?_
      rintro e w17 ⟨rfl, hb_w17⟩
      have hs_w17 := hb_w17.size
      clear u_K0_0 u_K0_1 u_K0_2 v_K0 u_R4_0_0 u_R4_0_1 u_R4_0_2 v_R4_0 u_X0_0 u_X0_1 u_X0_2 v_X0 u_R7_0_0 u_R7_0_1 u_R7_0_2 v_R7_0
      have hst : Below w16.heap.size w16 w17 := by repeat (first | exact Below.refl _ _ | assumption | refine below_allocS ?_ _ | refine below_callS ?_ (by assumption) | (refine Below.alloc ?_ (by first | omega | (simp; done) | (simp; omega)) _) | (refine Below.setCell ?_ (by first | omega | (simp; done) | (simp; omega)) _) | refine Below.drew ?_ | refine below_drewN ?_ _ | (refine below_call ?_ (by assumption) (by first | omega | (simp; done) | (simp; omega))) | (refine Below.trans ?_ (by assumption)))
      have hB_w17 : Below w.heap.size w w17 := below_callS hB_w16 hst
      replace K0 := Lib.hid (K0.out.keep hst)
      replace R4_0 := Lib.hid (R4_0.out.keep hst)
      replace X0 := Lib.hid (X0.out.keep hst)
      replace R7_0 := Lib.hid (R7_0.out.keep hst)
      replace O4_0 := Lib.hid (O4_0.out.keep hst)
      replace O5 := Lib.hid (O5.out.keep hst)
      replace O6 := Lib.hid (O6.out.keep hst)
      replace O7_0 := Lib.hid (O7_0.out.keep hst)
      clear hst hb_w17 hB_w16
      have u_K0_0 : w17.cell? ⟨w.heap.size, 0, none⟩ = some (.slice a0_1 n0_1 c0_1) := (K0.out).cell 0
      have u_K0_1 : w17.cell? ⟨w.heap.size, 1, none⟩ = some (.slice a0_2 n0_2 c0_2) := (K0.out).cell 1
      have u_K0_2 : w17.cell? ⟨w.heap.size, 2, none⟩ = some (.slice a0_3 n0_3 c0_3) := (K0.out).cell 2
      have v_K0 : w.heap.size < w17.heap.size := (K0.out).lt
      have u_R4_0_0 : w17.cell? ⟨w4.heap.size, 0, none⟩ = some (.int .i64 INP) := (R4_0.out).cell 0
      have u_R4_0_1 : w17.cell? ⟨w4.heap.size, 1, none⟩ = some (.slice a4_0 n4_0 c4_0) := (R4_0.out).cell 1
      have u_R4_0_2 : w17.cell? ⟨w4.heap.size, 2, none⟩ = some (.int .i64 RT) := (R4_0.out).cell 2
      have v_R4_0 : w4.heap.size < w17.heap.size := (R4_0.out).lt
      have u_X0_0 : w17.cell? ⟨w5.heap.size, 0, none⟩ = some (.slice (some ⟨g5_1, 0, none⟩) n0_1 n0_1) := (X0.out).cell 0
      have u_X0_1 : w17.cell? ⟨w5.heap.size, 1, none⟩ = some (.slice (some ⟨g5_2, 0, none⟩) n0_2 n0_2) := (X0.out).cell 1
      have u_X0_2 : w17.cell? ⟨w5.heap.size, 2, none⟩ = some (.slice (some ⟨g5_3, 0, none⟩) n0_3 n0_3) := (X0.out).cell 2
      have v_X0 : w5.heap.size < w17.heap.size := (X0.out).lt
      have u_R7_0_0 : w17.cell? ⟨w7.heap.size, 0, none⟩ = some (.int .i64 INP) := (R7_0.out).cell 0
      have u_R7_0_1 : w17.cell? ⟨w7.heap.size, 1, none⟩ = some (.slice a7_0 n4_0 c7_0) := (R7_0.out).cell 1
      have u_R7_0_2 : w17.cell? ⟨w7.heap.size, 2, none⟩ = some (.int .i64 RT) := (R7_0.out).cell 2
      have v_R7_0 : w7.heap.size < w17.heap.size := (R7_0.out).lt
      go_wp2_with fail
      refine Calls.mono (laws_toModel (HI0.out.keep (by repeat (first | exact Below.refl _ _ | assumption | refine below_allocS ?_ _ | refine below_callS ?_ (by assumption) | (refine Below.alloc ?_ (by first | omega | (simp; done) | (simp; omega)) _) | (refine Below.setCell ?_ (by first | omega | (simp; done) | (simp; omega)) _) | refine Below.drew ?_ | refine below_drewN ?_ _ | (refine below_call ?_ (by assumption) (by first | omega | (simp; done) | (simp; omega))) | (refine Below.trans ?_ (by assumption)))))) ?_
      rintro e w18 ⟨g18_1, g18_2, g18_3, rfl, hb_w18, ho18⟩
      have hs_w18 := hb_w18.size
      clear u_K0_0 u_K0_1 u_K0_2 v_K0 u_R4_0_0 u_R4_0_1 u_R4_0_2 v_R4_0 u_X0_0 u_X0_1 u_X0_2 v_X0 u_R7_0_0 u_R7_0_1 u_R7_0_2 v_R7_0
      have O18 := Lib.hid (ho18.own (Nat.le_refl _))
      clear ho18
      have hst : Below w17.heap.size w17 w18 := by repeat (first | exact Below.refl _ _ | assumption | refine below_allocS ?_ _ | refine below_callS ?_ (by assumption) | (refine Below.alloc ?_ (by first | omega | (simp; done) | (simp; omega)) _) | (refine Below.setCell ?_ (by first | omega | (simp; done) | (simp; omega)) _) | refine Below.drew ?_ | refine below_drewN ?_ _ | (refine below_call ?_ (by assumption) (by first | omega | (simp; done) | (simp; omega))) | (refine Below.trans ?_ (by assumption)))
      have hB_w18 : Below w.heap.size w w18 := below_callS hB_w17 hst
      replace K0 := Lib.hid (K0.out.keep hst)
      replace R4_0 := Lib.hid (R4_0.out.keep hst)
      replace X0 := Lib.hid (X0.out.keep hst)
      replace R7_0 := Lib.hid (R7_0.out.keep hst)
      replace O4_0 := Lib.hid (O4_0.out.keep hst)
      replace O5 := Lib.hid (O5.out.keep hst)
      replace O6 := Lib.hid (O6.out.keep hst)
      replace O7_0 := Lib.hid (O7_0.out.keep hst)
      clear hst hb_w18 hB_w17
      have u_K0_0 : w18.cell? ⟨w.heap.size, 0, none⟩ = some (.slice a0_1 n0_1 c0_1) := (K0.out).cell 0
      have u_K0_1 : w18.cell? ⟨w.heap.size, 1, none⟩ = some (.slice a0_2 n0_2 c0_2) := (K0.out).cell 1
      have u_K0_2 : w18.cell? ⟨w.heap.size, 2, none⟩ = some (.slice a0_3 n0_3 c0_3) := (K0.out).cell 2
      have v_K0 : w.heap.size < w18.heap.size := (K0.out).lt
      have u_R4_0_0 : w18.cell? ⟨w4.heap.size, 0, none⟩ = some (.int .i64 INP) := (R4_0.out).cell 0
      have u_R4_0_1 : w18.cell? ⟨w4.heap.size, 1, none⟩ = some (.slice a4_0 n4_0 c4_0) := (R4_0.out).cell 1
      have u_R4_0_2 : w18.cell? ⟨w4.heap.size, 2, none⟩ = some (.int .i64 RT) := (R4_0.out).cell 2
      have v_R4_0 : w4.heap.size < w18.heap.size := (R4_0.out).lt
      have u_X0_0 : w18.cell? ⟨w5.heap.size, 0, none⟩ = some (.slice (some ⟨g5_1, 0, none⟩) n0_1 n0_1) := (X0.out).cell 0
      have u_X0_1 : w18.cell? ⟨w5.heap.size, 1, none⟩ = some (.slice (some ⟨g5_2, 0, none⟩) n0_2 n0_2) := (X0.out).cell 1
      have u_X0_2 : w18.cell? ⟨w5.heap.size, 2, none⟩ = some (.slice (some ⟨g5_3, 0, none⟩) n0_3 n0_3) := (X0.out).cell 2
      have v_X0 : w5.heap.size < w18.heap.size := (X0.out).lt
      have u_R7_0_0 : w18.cell? ⟨w7.heap.size, 0, none⟩ = some (.int .i64 INP) := (R7_0.out).cell 0
      have u_R7_0_1 : w18.cell? ⟨w7.heap.size, 1, none⟩ = some (.slice a7_0 n4_0 c7_0) := (R7_0.out).cell 1
      have u_R7_0_2 : w18.cell? ⟨w7.heap.size, 2, none⟩ = some (.int .i64 RT) := (R7_0.out).cell 2
      have v_R7_0 : w7.heap.size < w18.heap.size := (R7_0.out).lt
      go_wp2_with fail
      refine Calls.mono (laws_toTestS_g (HI1.out.keep (by repeat (first | exact Below.refl _ _ | assumption | refine below_allocS ?_ _ | refine below_callS ?_ (by assumption) | (refine Below.alloc ?_ (by first | omega | (simp; done) | (simp; omega)) _) | (refine Below.setCell ?_ (by first | omega | (simp; done) | (simp; omega)) _) | refine Below.drew ?_ | refine below_drewN ?_ _ | (refine below_call ?_ (by assumption) (by first | omega | (simp; done) | (simp; omega))) | (refine Below.trans ?_ (by assumption))))) hn1) ?_
      rintro e w19 ⟨g19, rfl, hb_w19, ho19⟩
      have hs_w19 := hb_w19.size
      clear u_K0_0 u_K0_1 u_K0_2 v_K0 u_R4_0_0 u_R4_0_1 u_R4_0_2 v_R4_0 u_X0_0 u_X0_1 u_X0_2 v_X0 u_R7_0_0 u_R7_0_1 u_R7_0_2 v_R7_0
      have ko19 := ho19.blk g19 rfl
      have O19 := Lib.hid (ho19.own)
      clear ho19
      have hst : Below w18.heap.size w18 w19 := by repeat (first | exact Below.refl _ _ | assumption | refine below_allocS ?_ _ | refine below_callS ?_ (by assumption) | (refine Below.alloc ?_ (by first | omega | (simp; done) | (simp; omega)) _) | (refine Below.setCell ?_ (by first | omega | (simp; done) | (simp; omega)) _) | refine Below.drew ?_ | refine below_drewN ?_ _ | (refine below_call ?_ (by assumption) (by first | omega | (simp; done) | (simp; omega))) | (refine Below.trans ?_ (by assumption)))
      have hB_w19 : Below w.heap.size w w19 := below_callS hB_w18 hst
      replace K0 := Lib.hid (K0.out.keep hst)
      replace R4_0 := Lib.hid (R4_0.out.keep hst)
      replace X0 := Lib.hid (X0.out.keep hst)
      replace R7_0 := Lib.hid (R7_0.out.keep hst)
      replace O4_0 := Lib.hid (O4_0.out.keep hst)
      replace O5 := Lib.hid (O5.out.keep hst)
      replace O6 := Lib.hid (O6.out.keep hst)
      replace O7_0 := Lib.hid (O7_0.out.keep hst)
      replace O18 := Lib.hid (O18.out.keep hst)
      clear hst hb_w19 hB_w18
      have u_K0_0 : w19.cell? ⟨w.heap.size, 0, none⟩ = some (.slice a0_1 n0_1 c0_1) := (K0.out).cell 0
      have u_K0_1 : w19.cell? ⟨w.heap.size, 1, none⟩ = some (.slice a0_2 n0_2 c0_2) := (K0.out).cell 1
      have u_K0_2 : w19.cell? ⟨w.heap.size, 2, none⟩ = some (.slice a0_3 n0_3 c0_3) := (K0.out).cell 2
      have v_K0 : w.heap.size < w19.heap.size := (K0.out).lt
      have u_R4_0_0 : w19.cell? ⟨w4.heap.size, 0, none⟩ = some (.int .i64 INP) := (R4_0.out).cell 0
      have u_R4_0_1 : w19.cell? ⟨w4.heap.size, 1, none⟩ = some (.slice a4_0 n4_0 c4_0) := (R4_0.out).cell 1
      have u_R4_0_2 : w19.cell? ⟨w4.heap.size, 2, none⟩ = some (.int .i64 RT) := (R4_0.out).cell 2
      have v_R4_0 : w4.heap.size < w19.heap.size := (R4_0.out).lt
      have u_X0_0 : w19.cell? ⟨w5.heap.size, 0, none⟩ = some (.slice (some ⟨g5_1, 0, none⟩) n0_1 n0_1) := (X0.out).cell 0
      have u_X0_1 : w19.cell? ⟨w5.heap.size, 1, none⟩ = some (.slice (some ⟨g5_2, 0, none⟩) n0_2 n0_2) := (X0.out).cell 1
      have u_X0_2 : w19.cell? ⟨w5.heap.size, 2, none⟩ = some (.slice (some ⟨g5_3, 0, none⟩) n0_3 n0_3) := (X0.out).cell 2
      have v_X0 : w5.heap.size < w19.heap.size := (X0.out).lt
      have u_R7_0_0 : w19.cell? ⟨w7.heap.size, 0, none⟩ = some (.int .i64 INP) := (R7_0.out).cell 0
      have u_R7_0_1 : w19.cell? ⟨w7.heap.size, 1, none⟩ = some (.slice a7_0 n4_0 c7_0) := (R7_0.out).cell 1
      have u_R7_0_2 : w19.cell? ⟨w7.heap.size, 2, none⟩ = some (.int .i64 RT) := (R7_0.out).cell 2
      have v_R7_0 : w7.heap.size < w19.heap.size := (R7_0.out).lt
      go_wp2_with fail
      refine Calls.mono (Himpl.out _ _ _ _ _ ((O18.out).fact.rd) ((O19.out).fact.flats)) ?_
      rintro e w20 ⟨n20_0, a20_0, c20_0, rfl, hb_w20, ho20_0⟩
      have hs_w20 := hb_w20.size
      clear u_K0_0 u_K0_1 u_K0_2 v_K0 u_R4_0_0 u_R4_0_1 u_R4_0_2 v_R4_0 u_X0_0 u_X0_1 u_X0_2 v_X0 u_R7_0_0 u_R7_0_1 u_R7_0_2 v_R7_0
      have ln20_0 := ho20_0.len
      have O20_0b := ho20_0.blk
      have O20_0 := Lib.hid (ho20_0.own)
      clear ho20_0
      obtain rfl : n4_0 = n20_0 := by omega
      have hst : Below w19.heap.size w19 w20 := by repeat (first | exact Below.refl _ _ | assumption | refine below_allocS ?_ _ | refine below_callS ?_ (by assumption) | (refine Below.alloc ?_ (by first | omega | (simp; done) | (simp; omega)) _) | (refine Below.setCell ?_ (by first | omega | (simp; done) | (simp; omega)) _) | refine Below.drew ?_ | refine below_drewN ?_ _ | (refine below_call ?_ (by assumption) (by first | omega | (simp; done) | (simp; omega))) | (refine Below.trans ?_ (by assumption)))
      have hB_w20 : Below w.heap.size w w20 := below_callS hB_w19 hst
      replace K0 := Lib.hid (K0.out.keep hst)
      replace R4_0 := Lib.hid (R4_0.out.keep hst)
      replace X0 := Lib.hid (X0.out.keep hst)
      replace R7_0 := Lib.hid (R7_0.out.keep hst)
      replace O4_0 := Lib.hid (O4_0.out.keep hst)
      replace O5 := Lib.hid (O5.out.keep hst)
      replace O6 := Lib.hid (O6.out.keep hst)
      replace O7_0 := Lib.hid (O7_0.out.keep hst)
      replace O18 := Lib.hid (O18.out.keep hst)
      replace O19 := Lib.hid (O19.out.keep hst)
      clear hst hb_w20 hB_w19
      have u_K0_0 : (w20.alloc (.cells #[.int .i64 INP, .slice a20_0 n4_0 c20_0, .int .i64 RT] 26)).cell? ⟨w.heap.size, 0, none⟩ = some (.slice a0_1 n0_1 c0_1) := (K0.out.keep (show Below w20.heap.size w20 (w20.alloc (.cells #[.int .i64 INP, .slice a20_0 n4_0 c20_0, .int .i64 RT] 26)) by repeat (first | exact Below.refl _ _ | assumption | refine below_allocS ?_ _ | refine below_callS ?_ (by assumption) | (refine Below.alloc ?_ (by first | omega | (simp; done) | (simp; omega)) _) | (refine Below.setCell ?_ (by first | omega | (simp; done) | (simp; omega)) _) | refine Below.drew ?_ | refine below_drewN ?_ _ | (refine below_call ?_ (by assumption) (by first | omega | (simp; done) | (simp; omega))) | (refine Below.trans ?_ (by assumption))))).cell 0
      have u_K0_1 : (w20.alloc (.cells #[.int .i64 INP, .slice a20_0 n4_0 c20_0, .int .i64 RT] 26)).cell? ⟨w.heap.size, 1, none⟩ = some (.slice a0_2 n0_2 c0_2) := (K0.out.keep (show Below w20.heap.size w20 (w20.alloc (.cells #[.int .i64 INP, .slice a20_0 n4_0 c20_0, .int .i64 RT] 26)) by repeat (first | exact Below.refl _ _ | assumption | refine below_allocS ?_ _ | refine below_callS ?_ (by assumption) | (refine Below.alloc ?_ (by first | omega | (simp; done) | (simp; omega)) _) | (refine Below.setCell ?_ (by first | omega | (simp; done) | (simp; omega)) _) | refine Below.drew ?_ | refine below_drewN ?_ _ | (refine below_call ?_ (by assumption) (by first | omega | (simp; done) | (simp; omega))) | (refine Below.trans ?_ (by assumption))))).cell 1
      have u_K0_2 : (w20.alloc (.cells #[.int .i64 INP, .slice a20_0 n4_0 c20_0, .int .i64 RT] 26)).cell? ⟨w.heap.size, 2, none⟩ = some (.slice a0_3 n0_3 c0_3) := (K0.out.keep (show Below w20.heap.size w20 (w20.alloc (.cells #[.int .i64 INP, .slice a20_0 n4_0 c20_0, .int .i64 RT] 26)) by repeat (first | exact Below.refl _ _ | assumption | refine below_allocS ?_ _ | refine below_callS ?_ (by assumption) | (refine Below.alloc ?_ (by first | omega | (simp; done) | (simp; omega)) _) | (refine Below.setCell ?_ (by first | omega | (simp; done) | (simp; omega)) _) | refine Below.drew ?_ | refine below_drewN ?_ _ | (refine below_call ?_ (by assumption) (by first | omega | (simp; done) | (simp; omega))) | (refine Below.trans ?_ (by assumption))))).cell 2
      have v_K0 : w.heap.size < (w20.alloc (.cells #[.int .i64 INP, .slice a20_0 n4_0 c20_0, .int .i64 RT] 26)).heap.size := (K0.out.keep (show Below w20.heap.size w20 (w20.alloc (.cells #[.int .i64 INP, .slice a20_0 n4_0 c20_0, .int .i64 RT] 26)) by repeat (first | exact Below.refl _ _ | assumption | refine below_allocS ?_ _ | refine below_callS ?_ (by assumption) | (refine Below.alloc ?_ (by first | omega | (simp; done) | (simp; omega)) _) | (refine Below.setCell ?_ (by first | omega | (simp; done) | (simp; omega)) _) | refine Below.drew ?_ | refine below_drewN ?_ _ | (refine below_call ?_ (by assumption) (by first | omega | (simp; done) | (simp; omega))) | (refine Below.trans ?_ (by assumption))))).lt
      have u_R4_0_0 : (w20.alloc (.cells #[.int .i64 INP, .slice a20_0 n4_0 c20_0, .int .i64 RT] 26)).cell? ⟨w4.heap.size, 0, none⟩ = some (.int .i64 INP) := (R4_0.out.keep (show Below w20.heap.size w20 (w20.alloc (.cells #[.int .i64 INP, .slice a20_0 n4_0 c20_0, .int .i64 RT] 26)) by repeat (first | exact Below.refl _ _ | assumption | refine below_allocS ?_ _ | refine below_callS ?_ (by assumption) | (refine Below.alloc ?_ (by first | omega | (simp; done) | (simp; omega)) _) | (refine Below.setCell ?_ (by first | omega | (simp; done) | (simp; omega)) _) | refine Below.drew ?_ | refine below_drewN ?_ _ | (refine below_call ?_ (by assumption) (by first | omega | (simp; done) | (simp; omega))) | (refine Below.trans ?_ (by assumption))))).cell 0
      have u_R4_0_1 : (w20.alloc (.cells #[.int .i64 INP, .slice a20_0 n4_0 c20_0, .int .i64 RT] 26)).cell? ⟨w4.heap.size, 1, none⟩ = some (.slice a4_0 n4_0 c4_0) := (R4_0.out.keep (show Below w20.heap.size w20 (w20.alloc (.cells #[.int .i64 INP, .slice a20_0 n4_0 c20_0, .int .i64 RT] 26)) by repeat (first | exact Below.refl _ _ | assumption | refine below_allocS ?_ _ | refine below_callS ?_ (by assumption) | (refine Below.alloc ?_ (by first | omega | (simp; done) | (simp; omega)) _) | (refine Below.setCell ?_ (by first | omega | (simp; done) | (simp; omega)) _) | refine Below.drew ?_ | refine below_drewN ?_ _ | (refine below_call ?_ (by assumption) (by first | omega | (simp; done) | (simp; omega))) | (refine Below.trans ?_ (by assumption))))).cell 1
      have u_R4_0_2 : (w20.alloc (.cells #[.int .i64 INP, .slice a20_0 n4_0 c20_0, .int .i64 RT] 26)).cell? ⟨w4.heap.size, 2, none⟩ = some (.int .i64 RT) := (R4_0.out.keep (show Below w20.heap.size w20 (w20.alloc (.cells #[.int .i64 INP, .slice a20_0 n4_0 c20_0, .int .i64 RT] 26)) by repeat (first | exact Below.refl _ _ | assumption | refine below_allocS ?_ _ | refine below_callS ?_ (by assumption) | (refine Below.alloc ?_ (by first | omega | (simp; done) | (simp; omega)) _) | (refine Below.setCell ?_ (by first | omega | (simp; done) | (simp; omega)) _) | refine Below.drew ?_ | refine below_drewN ?_ _ | (refine below_call ?_ (by assumption) (by first | omega | (simp; done) | (simp; omega))) | (refine Below.trans ?_ (by assumption))))).cell 2
      have v_R4_0 : w4.heap.size < (w20.alloc (.cells #[.int .i64 INP, .slice a20_0 n4_0 c20_0, .int .i64 RT] 26)).heap.size := (R4_0.out.keep (show Below w20.heap.size w20 (w20.alloc (.cells #[.int .i64 INP, .slice a20_0 n4_0 c20_0, .int .i64 RT] 26)) by repeat (first | exact Below.refl _ _ | assumption | refine below_allocS ?_ _ | refine below_callS ?_ (by assumption) | (refine Below.alloc ?_ (by first | omega | (simp; done) | (simp; omega)) _) | (refine Below.setCell ?_ (by first | omega | (simp; done) | (simp; omega)) _) | refine Below.drew ?_ | refine below_drewN ?_ _ | (refine below_call ?_ (by assumption) (by first | omega | (simp; done) | (simp; omega))) | (refine Below.trans ?_ (by assumption))))).lt
      have u_X0_0 : (w20.alloc (.cells #[.int .i64 INP, .slice a20_0 n4_0 c20_0, .int .i64 RT] 26)).cell? ⟨w5.heap.size, 0, none⟩ = some (.slice (some ⟨g5_1, 0, none⟩) n0_1 n0_1) := (X0.out.keep (show Below w20.heap.size w20 (w20.alloc (.cells #[.int .i64 INP, .slice a20_0 n4_0 c20_0, .int .i64 RT] 26)) by repeat (first | exact Below.refl _ _ | assumption | refine below_allocS ?_ _ | refine below_callS ?_ (by assumption) | (refine Below.alloc ?_ (by first | omega | (simp; done) | (simp; omega)) _) | (refine Below.setCell ?_ (by first | omega | (simp; done) | (simp; omega)) _) | refine Below.drew ?_ | refine below_drewN ?_ _ | (refine below_call ?_ (by assumption) (by first | omega | (simp; done) | (simp; omega))) | (refine Below.trans ?_ (by assumption))))).cell 0
      have u_X0_1 : (w20.alloc (.cells #[.int .i64 INP, .slice a20_0 n4_0 c20_0, .int .i64 RT] 26)).cell? ⟨w5.heap.size, 1, none⟩ = some (.slice (some ⟨g5_2, 0, none⟩) n0_2 n0_2) := (X0.out.keep (show Below w20.heap.size w20 (w20.alloc (.cells #[.int .i64 INP, .slice a20_0 n4_0 c20_0, .int .i64 RT] 26)) by repeat (first | exact Below.refl _ _ | assumption | refine below_allocS ?_ _ | refine below_callS ?_ (by assumption) | (refine Below.alloc ?_ (by first | omega | (simp; done) | (simp; omega)) _) | (refine Below.setCell ?_ (by first | omega | (simp; done) | (simp; omega)) _) | refine Below.drew ?_ | refine below_drewN ?_ _ | (refine below_call ?_ (by assumption) (by first | omega | (simp; done) | (simp; omega))) | (refine Below.trans ?_ (by assumption))))).cell 1
      have u_X0_2 : (w20.alloc (.cells #[.int .i64 INP, .slice a20_0 n4_0 c20_0, .int .i64 RT] 26)).cell? ⟨w5.heap.size, 2, none⟩ = some (.slice (some ⟨g5_3, 0, none⟩) n0_3 n0_3) := (X0.out.keep (show Below w20.heap.size w20 (w20.alloc (.cells #[.int .i64 INP, .slice a20_0 n4_0 c20_0, .int .i64 RT] 26)) by repeat (first | exact Below.refl _ _ | assumption | refine below_allocS ?_ _ | refine below_callS ?_ (by assumption) | (refine Below.alloc ?_ (by first | omega | (simp; done) | (simp; omega)) _) | (refine Below.setCell ?_ (by first | omega | (simp; done) | (simp; omega)) _) | refine Below.drew ?_ | refine below_drewN ?_ _ | (refine below_call ?_ (by assumption) (by first | omega | (simp; done) | (simp; omega))) | (refine Below.trans ?_ (by assumption))))).cell 2
      have v_X0 : w5.heap.size < (w20.alloc (.cells #[.int .i64 INP, .slice a20_0 n4_0 c20_0, .int .i64 RT] 26)).heap.size := (X0.out.keep (show Below w20.heap.size w20 (w20.alloc (.cells #[.int .i64 INP, .slice a20_0 n4_0 c20_0, .int .i64 RT] 26)) by repeat (first | exact Below.refl _ _ | assumption | refine below_allocS ?_ _ | refine below_callS ?_ (by assumption) | (refine Below.alloc ?_ (by first | omega | (simp; done) | (simp; omega)) _) | (refine Below.setCell ?_ (by first | omega | (simp; done) | (simp; omega)) _) | refine Below.drew ?_ | refine below_drewN ?_ _ | (refine below_call ?_ (by assumption) (by first | omega | (simp; done) | (simp; omega))) | (refine Below.trans ?_ (by assumption))))).lt
      have u_R7_0_0 : (w20.alloc (.cells #[.int .i64 INP, .slice a20_0 n4_0 c20_0, .int .i64 RT] 26)).cell? ⟨w7.heap.size, 0, none⟩ = some (.int .i64 INP) := (R7_0.out.keep (show Below w20.heap.size w20 (w20.alloc (.cells #[.int .i64 INP, .slice a20_0 n4_0 c20_0, .int .i64 RT] 26)) by repeat (first | exact Below.refl _ _ | assumption | refine below_allocS ?_ _ | refine below_callS ?_ (by assumption) | (refine Below.alloc ?_ (by first | omega | (simp; done) | (simp; omega)) _) | (refine Below.setCell ?_ (by first | omega | (simp; done) | (simp; omega)) _) | refine Below.drew ?_ | refine below_drewN ?_ _ | (refine below_call ?_ (by assumption) (by first | omega | (simp; done) | (simp; omega))) | (refine Below.trans ?_ (by assumption))))).cell 0
      have u_R7_0_1 : (w20.alloc (.cells #[.int .i64 INP, .slice a20_0 n4_0 c20_0, .int .i64 RT] 26)).cell? ⟨w7.heap.size, 1, none⟩ = some (.slice a7_0 n4_0 c7_0) := (R7_0.out.keep (show Below w20.heap.size w20 (w20.alloc (.cells #[.int .i64 INP, .slice a20_0 n4_0 c20_0, .int .i64 RT] 26)) by repeat (first | exact Below.refl _ _ | assumption | refine below_allocS ?_ _ | refine below_callS ?_ (by assumption) | (refine Below.alloc ?_ (by first | omega | (simp; done) | (simp; omega)) _) | (refine Below.setCell ?_ (by first | omega | (simp; done) | (simp; omega)) _) | refine Below.drew ?_ | refine below_drewN ?_ _ | (refine below_call ?_ (by assumption) (by first | omega | (simp; done) | (simp; omega))) | (refine Below.trans ?_ (by assumption))))).cell 1
      have u_R7_0_2 : (w20.alloc (.cells #[.int .i64 INP, .slice a20_0 n4_0 c20_0, .int .i64 RT] 26)).cell? ⟨w7.heap.size, 2, none⟩ = some (.int .i64 RT) := (R7_0.out.keep (show Below w20.heap.size w20 (w20.alloc (.cells #[.int .i64 INP, .slice a20_0 n4_0 c20_0, .int .i64 RT] 26)) by repeat (first | exact Below.refl _ _ | assumption | refine below_allocS ?_ _ | refine below_callS ?_ (by assumption) | (refine Below.alloc ?_ (by first | omega | (simp; done) | (simp; omega)) _) | (refine Below.setCell ?_ (by first | omega | (simp; done) | (simp; omega)) _) | refine Below.drew ?_ | refine below_drewN ?_ _ | (refine below_call ?_ (by assumption) (by first | omega | (simp; done) | (simp; omega))) | (refine Below.trans ?_ (by assumption))))).cell 2
      have v_R7_0 : w7.heap.size < (w20.alloc (.cells #[.int .i64 INP, .slice a20_0 n4_0 c20_0, .int .i64 RT] 26)).heap.size := (R7_0.out.keep (show Below w20.heap.size w20 (w20.alloc (.cells #[.int .i64 INP, .slice a20_0 n4_0 c20_0, .int .i64 RT] 26)) by repeat (first | exact Below.refl _ _ | assumption | refine below_allocS ?_ _ | refine below_callS ?_ (by assumption) | (refine Below.alloc ?_ (by first | omega | (simp; done) | (simp; omega)) _) | (refine Below.setCell ?_ (by first | omega | (simp; done) | (simp; omega)) _) | refine Below.drew ?_ | refine below_drewN ?_ _ | (refine below_call ?_ (by assumption) (by first | omega | (simp; done) | (simp; omega))) | (refine Below.trans ?_ (by assumption))))).lt
      have y_R20_0 : Blk (w20.alloc (.cells #[.int .i64 INP, .slice a20_0 n4_0 c20_0, .int .i64 RT] 26)) w20.heap.size #[.int .i64 INP, .slice a20_0 n4_0 c20_0, .int .i64 RT] 26 := by have hh := (Blk.made w20 #[.int .i64 INP, .slice a20_0 n4_0 c20_0, .int .i64 RT] 26); simpa using hh
      have u_R20_0_0 : (w20.alloc (.cells #[.int .i64 INP, .slice a20_0 n4_0 c20_0, .int .i64 RT] 26)).cell? ⟨w20.heap.size, 0, none⟩ = some (.int .i64 INP) := y_R20_0.cell 0
      have u_R20_0_1 : (w20.alloc (.cells #[.int .i64 INP, .slice a20_0 n4_0 c20_0, .int .i64 RT] 26)).cell? ⟨w20.heap.size, 1, none⟩ = some (.slice a20_0 n4_0 c20_0) := y_R20_0.cell 1
      have u_R20_0_2 : (w20.alloc (.cells #[.int .i64 INP, .slice a20_0 n4_0 c20_0, .int .i64 RT] 26)).cell? ⟨w20.heap.size, 2, none⟩ = some (.int .i64 RT) := y_R20_0.cell 2
      have v_R20_0 : w20.heap.size < (w20.alloc (.cells #[.int .i64 INP, .slice a20_0 n4_0 c20_0, .int .i64 RT] 26)).heap.size := y_R20_0.lt
      go_wp2_with fail
      refine Calls.mono (laws_eqDiagram ((O20_0.out.keep (show Below w20.heap.size w20 (w20.alloc (.cells #[.int .i64 INP, .slice a20_0 n4_0 c20_0, .int .i64 RT] 26)) by repeat (first | exact Below.refl _ _ | assumption | refine below_allocS ?_ _ | refine below_callS ?_ (by assumption) | (refine Below.alloc ?_ (by first | omega | (simp; done) | (simp; omega)) _) | (refine Below.setCell ?_ (by first | omega | (simp; done) | (simp; omega)) _) | refine Below.drew ?_ | refine below_drewN ?_ _ | (refine below_call ?_ (by assumption) (by first | omega | (simp; done) | (simp; omega))) | (refine Below.trans ?_ (by assumption))))).fact.flats) ((O4_0.out.keep (show Below w20.heap.size w20 (w20.alloc (.cells #[.int .i64 INP, .slice a20_0 n4_0 c20_0, .int .i64 RT] 26)) by repeat (first | exact Below.refl _ _ | assumption | refine below_allocS ?_ _ | refine below_callS ?_ (by assumption) | (refine Below.alloc ?_ (by first | omega | (simp; done) | (simp; omega)) _) | (refine Below.setCell ?_ (by first | omega | (simp; done) | (simp; omega)) _) | refine Below.drew ?_ | refine below_drewN ?_ _ | (refine below_call ?_ (by assumption) (by first | omega | (simp; done) | (simp; omega))) | (refine Below.trans ?_ (by assumption))))).fact.flats) hln0 hln0) ?_
      rintro e w21 ⟨rfl, hb_w21⟩
      have hs_w21 := hb_w21.size
      simp at hs_w21
      clear u_K0_0 u_K0_1 u_K0_2 v_K0 u_R4_0_0 u_R4_0_1 u_R4_0_2 v_R4_0 u_X0_0 u_X0_1 u_X0_2 v_X0 u_R7_0_0 u_R7_0_1 u_R7_0_2 v_R7_0 y_R20_0 u_R20_0_0 u_R20_0_1 u_R20_0_2 v_R20_0
      have hst : Below w20.heap.size w20 w21 := by repeat (first | exact Below.refl _ _ | assumption | refine below_allocS ?_ _ | refine below_callS ?_ (by assumption) | (refine Below.alloc ?_ (by first | omega | (simp; done) | (simp; omega)) _) | (refine Below.setCell ?_ (by first | omega | (simp; done) | (simp; omega)) _) | refine Below.drew ?_ | refine below_drewN ?_ _ | (refine below_call ?_ (by assumption) (by first | omega | (simp; done) | (simp; omega))) | (refine Below.trans ?_ (by assumption)))
      have hB_w21 : Below w.heap.size w w21 := below_callS hB_w20 hst
      replace K0 := Lib.hid (K0.out.keep hst)
      replace R4_0 := Lib.hid (R4_0.out.keep hst)
      replace X0 := Lib.hid (X0.out.keep hst)
      replace R7_0 := Lib.hid (R7_0.out.keep hst)
      replace O4_0 := Lib.hid (O4_0.out.keep hst)
      replace O5 := Lib.hid (O5.out.keep hst)
      replace O6 := Lib.hid (O6.out.keep hst)
      replace O7_0 := Lib.hid (O7_0.out.keep hst)
      replace O18 := Lib.hid (O18.out.keep hst)
      replace O19 := Lib.hid (O19.out.keep hst)
      replace O20_0 := Lib.hid (O20_0.out.keep hst)
      have R20_0 := Lib.hid (show Blk w21 (w20.heap.size) #[.int .i64 INP, .slice a20_0 n4_0 c20_0, .int .i64 RT] 26 by have hh := ((Blk.made w20 #[.int .i64 INP, .slice a20_0 n4_0 c20_0, .int .i64 RT] 26)).keep hb_w21; simpa using hh)
      clear hst hb_w21 hB_w20
      have u_K0_0 : w21.cell? ⟨w.heap.size, 0, none⟩ = some (.slice a0_1 n0_1 c0_1) := (K0.out).cell 0
      have u_K0_1 : w21.cell? ⟨w.heap.size, 1, none⟩ = some (.slice a0_2 n0_2 c0_2) := (K0.out).cell 1
      have u_K0_2 : w21.cell? ⟨w.heap.size, 2, none⟩ = some (.slice a0_3 n0_3 c0_3) := (K0.out).cell 2
      have v_K0 : w.heap.size < w21.heap.size := (K0.out).lt
      have u_R4_0_0 : w21.cell? ⟨w4.heap.size, 0, none⟩ = some (.int .i64 INP) := (R4_0.out).cell 0
      have u_R4_0_1 : w21.cell? ⟨w4.heap.size, 1, none⟩ = some (.slice a4_0 n4_0 c4_0) := (R4_0.out).cell 1
      have u_R4_0_2 : w21.cell? ⟨w4.heap.size, 2, none⟩ = some (.int .i64 RT) := (R4_0.out).cell 2
      have v_R4_0 : w4.heap.size < w21.heap.size := (R4_0.out).lt
      have u_X0_0 : w21.cell? ⟨w5.heap.size, 0, none⟩ = some (.slice (some ⟨g5_1, 0, none⟩) n0_1 n0_1) := (X0.out).cell 0
      have u_X0_1 : w21.cell? ⟨w5.heap.size, 1, none⟩ = some (.slice (some ⟨g5_2, 0, none⟩) n0_2 n0_2) := (X0.out).cell 1
      have u_X0_2 : w21.cell? ⟨w5.heap.size, 2, none⟩ = some (.slice (some ⟨g5_3, 0, none⟩) n0_3 n0_3) := (X0.out).cell 2
      have v_X0 : w5.heap.size < w21.heap.size := (X0.out).lt
      have u_R7_0_0 : w21.cell? ⟨w7.heap.size, 0, none⟩ = some (.int .i64 INP) := (R7_0.out).cell 0
      have u_R7_0_1 : w21.cell? ⟨w7.heap.size, 1, none⟩ = some (.slice a7_0 n4_0 c7_0) := (R7_0.out).cell 1
      have u_R7_0_2 : w21.cell? ⟨w7.heap.size, 2, none⟩ = some (.int .i64 RT) := (R7_0.out).cell 2
      have v_R7_0 : w7.heap.size < w21.heap.size := (R7_0.out).lt
      have u_R20_0_0 : w21.cell? ⟨w20.heap.size, 0, none⟩ = some (.int .i64 INP) := (R20_0.out).cell 0
      have u_R20_0_1 : w21.cell? ⟨w20.heap.size, 1, none⟩ = some (.slice a20_0 n4_0 c20_0) := (R20_0.out).cell 1
      have u_R20_0_2 : w21.cell? ⟨w20.heap.size, 2, none⟩ = some (.int .i64 RT) := (R20_0.out).cell 2
      have v_R20_0 : w20.heap.size < w21.heap.size := (R20_0.out).lt
      go_wp2_with fail
      refine Calls.mono (laws_heldDiagram ((O7_0.out).fact.flats) hln0 (by omega) (by omega)) ?_
      rintro e w22 ⟨rfl, hb_w22⟩
      have hs_w22 := hb_w22.size
      clear u_K0_0 u_K0_1 u_K0_2 v_K0 u_R4_0_0 u_R4_0_1 u_R4_0_2 v_R4_0 u_X0_0 u_X0_1 u_X0_2 v_X0 u_R7_0_0 u_R7_0_1 u_R7_0_2 v_R7_0 u_R20_0_0 u_R20_0_1 u_R20_0_2 v_R20_0
      have hst : Below w21.heap.size w21 w22 := by repeat (first | exact Below.refl _ _ | assumption | refine below_allocS ?_ _ | refine below_callS ?_ (by assumption) | (refine Below.alloc ?_ (by first | omega | (simp; done) | (simp; omega)) _) | (refine Below.setCell ?_ (by first | omega | (simp; done) | (simp; omega)) _) | refine Below.drew ?_ | refine below_drewN ?_ _ | (refine below_call ?_ (by assumption) (by first | omega | (simp; done) | (simp; omega))) | (refine Below.trans ?_ (by assumption)))
      have hB_w22 : Below w.heap.size w w22 := below_callS hB_w21 hst
      replace K0 := Lib.hid (K0.out.keep hst)
      replace R4_0 := Lib.hid (R4_0.out.keep hst)
      replace X0 := Lib.hid (X0.out.keep hst)
      replace R7_0 := Lib.hid (R7_0.out.keep hst)
      replace R20_0 := Lib.hid (R20_0.out.keep hst)
      replace O4_0 := Lib.hid (O4_0.out.keep hst)
      replace O5 := Lib.hid (O5.out.keep hst)
      replace O6 := Lib.hid (O6.out.keep hst)
      replace O7_0 := Lib.hid (O7_0.out.keep hst)
      replace O18 := Lib.hid (O18.out.keep hst)
      replace O19 := Lib.hid (O19.out.keep hst)
      replace O20_0 := Lib.hid (O20_0.out.keep hst)
      clear hst hb_w22 hB_w21
      go_wp2
      go_ret
      exact ⟨rfl, by repeat (first | exact Below.refl _ _ | assumption | refine below_allocS ?_ _ | refine below_callS ?_ (by assumption) | (refine Below.alloc ?_ (by first | omega | (simp; done) | (simp; omega)) _) | (refine Below.setCell ?_ (by first | omega | (simp; done) | (simp; omega)) _) | refine Below.drew ?_ | refine below_drewN ?_ _ | (refine below_call ?_ (by assumption) (by first | omega | (simp; done) | (simp; omega))) | (refine Below.trans ?_ (by assumption)))⟩
    · go_enter Try.func5, Try.ntmps5
      go_wp2_with fail
      refine Calls.mono (laws_szModelN (HR0.out.keepX (by repeat (first | exact Below.refl _ _ | assumption | refine below_allocS ?_ _ | refine below_callS ?_ (by assumption) | (refine Below.alloc ?_ (by first | omega | (simp; done) | (simp; omega)) _) | (refine Below.setCell ?_ (by first | omega | (simp; done) | (simp; omega)) _) | refine Below.drew ?_ | refine below_drewN ?_ _ | (refine below_call ?_ (by assumption) (by first | omega | (simp; done) | (simp; omega))) | (refine Below.trans ?_ (by assumption))))) hn90_1 hn90_2 hn90_3 (by omega) (by omega) hN0) ?_
      rintro e wz0 ⟨rfl, hb_wz0⟩
      obtain ⟨hc_wz0, hf_wz0⟩ := bcell hb_wz0
      have hs_wz0 := hb_wz0.size
      go_wp2_with fail
      refine Calls.mono (laws_szTestS hn91 (by omega) (by omega)) ?_
      rintro e _ ⟨rfl, rfl⟩
      go_wp2
      go_ret
      exact ⟨rfl, by repeat (first | exact Below.refl _ _ | assumption | refine below_allocS ?_ _ | refine below_callS ?_ (by assumption) | (refine Below.alloc ?_ (by first | omega | (simp; done) | (simp; omega)) _) | (refine Below.setCell ?_ (by first | omega | (simp; done) | (simp; omega)) _) | refine Below.drew ?_ | refine below_drewN ?_ _ | (refine below_call ?_ (by assumption) (by first | omega | (simp; done) | (simp; omega))) | (refine Below.trans ?_ (by assumption)))⟩
  · go_enter Try.func5, Try.ntmps5
    go_wp2_with fail
    refine Calls.mono (laws_szModelN (HR0.out.keepX (by repeat (first | exact Below.refl _ _ | assumption | refine below_allocS ?_ _ | refine below_callS ?_ (by assumption) | (refine Below.alloc ?_ (by first | omega | (simp; done) | (simp; omega)) _) | (refine Below.setCell ?_ (by first | omega | (simp; done) | (simp; omega)) _) | refine Below.drew ?_ | refine below_drewN ?_ _ | (refine below_call ?_ (by assumption) (by first | omega | (simp; done) | (simp; omega))) | (refine Below.trans ?_ (by assumption))))) hn90_1 hn90_2 hn90_3 (by omega) (by omega) hN0) ?_
    rintro e wz0 ⟨rfl, hb_wz0⟩
    obtain ⟨hc_wz0, hf_wz0⟩ := bcell hb_wz0
    have hs_wz0 := hb_wz0.size
    go_wp2
    go_ret
    exact ⟨rfl, by repeat (first | exact Below.refl _ _ | assumption | refine below_allocS ?_ _ | refine below_callS ?_ (by assumption) | (refine Below.alloc ?_ (by first | omega | (simp; done) | (simp; omega)) _) | (refine Below.setCell ?_ (by first | omega | (simp; done) | (simp; omega)) _) | refine Below.drew ?_ | refine below_drewN ?_ _ | (refine below_call ?_ (by assumption) (by first | omega | (simp; done) | (simp; omega))) | (refine Below.trans ?_ (by assumption)))⟩
end Go.Proofs.Ytkaikbaagajckaa
