/- The law of the first lists of bits, walked. (Printed by mkxo.py.) -/
import Derived.Test.YtkaikbaagajckaaWe
import Derived.Test.YtkaikbaagajckaaDg
import Derived.Test.YtkaikbaagajckaaLk
namespace Go.Proofs.Ytkaikbaagajckaa
open Go.RowKit
set_option linter.unusedVariables false
set_option linter.unusedSimpArgs false
theorem none_flats (w : World) : F3 w none 0 0 [] := ⟨rfl, Nat.le_refl _, .inl rfl, fun _ h => (by cases h), fun _ => ⟨rfl, rfl⟩⟩
theorem fst_case {n : Int} {L : List I3} {rt : Int} (hd : diaB n L rt = true) (h0 : rt ≠ 0) : (fstC n L rt).2 = 0 ∧ (fstC n L rt).1.length ≤ 20 ∧ valC n L rt (fstC n L rt).1 = (1, 0) ∧ (onesC n L rt).2 = 0 ∧ (onesC n L rt).1 ≠ 0 := by
  obtain ⟨hR, hrr, hn0, h20, hll, _, _⟩ := dia_redu hd
  have hS := dia_snd hd
  obtain ⟨N, rfl⟩ : ∃ N : Nat, n = (N : Int) := ⟨n.toNat, by omega⟩
  have hf := fstC_3 hd h0
  rw [Int.toNat_natCast] at hf
  obtain ⟨q1, q2, q3, q4⟩ := fo_value hS rt.toNat rt (List.replicate N 0) (Nat.le_refl _) hrr h0 (by simp) (fun y hy => .inl (List.mem_replicate.1 hy).2) (fun i _ hi => by rw [List.getElem?_replicate, if_pos hi])
  have ha : areB (foR L rt (List.replicate N 0)) (N : Int) = true := by
    rw [areB, Bool.and_eq_true, decide_eq_true_eq]
    refine ⟨by rw [q1], ?_⟩
    rw [allIn, List.all_eq_true]
    intro y hy
    rcases q2 y hy with rfl | rfl <;> simp [inB]
  refine ⟨by rw [hf], by rw [hf]; simp only; omega, ?_, by rw [onesC_2 hd], ?_⟩
  · rw [hf]
    simp only
    rw [valC_3 hd ha, valN, q4]
    rfl
  · rw [onesC_2 hd]
    simp only
    intro e
    have := (ones_zero hS hrr).1 (by omega)
    exact h0 this
theorem fst_len {n : Int} {L : List I3} {rt : Int} : (fstC n L rt).1.length ≤ 20 := by
  cases hd : diaB n L rt
  · rw [fstC_1 hd]; exact Nat.zero_le _
  · by_cases h0 : rt = 0
    · subst h0; rw [fstC_2 hd]; exact Nat.zero_le _
    · exact (fst_case hd h0).2.1
theorem inp_two {m i : Int} (h0 : 0 ≤ i) (h1 : i ≤ m - 1) (hm : m ≤ 20) : (onesC m [⟨i, 0, 1⟩] 2).2 = 0 ∧ 2 * (onesC m [⟨i, 0, 1⟩] 2).1 = 2 ^ m.toNat := by
  have g0 := onesC_2 (inp_dia h0 h1 hm)
  have h2 := inp_ones h0 h1
  refine ⟨by rw [g0], ?_⟩
  rw [g0]
  simp only
  have h4 : ((2 * onesN m [⟨i, 0, 1⟩] 2 : Nat) : Int) = ((2 ^ m.toNat : Nat) : Int) := by rw [h2]
  rw [Int.natCast_pow] at h4
  rw [Int.natCast_mul] at h4
  exact h4
theorem ones_case0 {n : Int} {L : List I3} (hd : diaB n L 0 = true) : onesC n L 0 = (0, 0) := by
  obtain ⟨hR, hrr, hn0, h20, hll, _, _⟩ := dia_redu hd
  rw [onesC_2 hd, (ones_zero (dia_snd hd) hrr).2 rfl]
  rfl
set_option maxRecDepth 100000 in
set_option maxHeartbeats 16000000 in
theorem law_FnOnes {a : Option Addr} {n c : Nat} {w : World} (hB : Byts w a n c) : Calls Try.prog 3 #[.slice a n c] w fun e w' => e = .returned (.bool true) ∧ Below w.heap.size w w' := by
  have HB := Lib.hid hB
  clear hB
  by_cases hn : n ≤ 4096
  · go_enter Try.func3, Try.ntmps3
    go_wp2_with fail
    refine Calls.mono (laws_big_no hn) ?_
    rintro e _ ⟨rfl, rfl⟩
    go_wp2_with fail
    refine Calls.mono (spec_DrawFirstOne HB.out hn) ?_
    rintro e w1 ⟨n', da, dc, D, rt, rfl, hi, hl, hr, hO, hb1⟩
    have hlm : D.length ≤ maxLen := by unfold maxLen; omega
    have X0 := Lib.hid (Blk.made w1 #[.int .i64 n', .slice da D.length dc, .int .i64 rt] 26)
    have O0 := Lib.hid (hO.flats.keep (below_alloc1 (Below.refl _ _) (.cells #[.int .i64 n', .slice da D.length dc, .int .i64 rt] 26)))
    have HW0 := Lib.hid (below_alloc1 hb1 (.cells #[.int .i64 n', .slice da D.length dc, .int .i64 rt] 26))
    have HI := Lib.hid hi
    have HR := Lib.hid hr
    clear hO hb1 hi hr
    obtain ⟨bD, hbD⟩ : ∃ bD, bD = w1.heap.size := ⟨_, rfl⟩
    rw [← hbD] at X0
    go_wp2_with fail
    rw [← hbD]
    refine Calls.mono (impl_FirstOne O0.out HI.out HR.out hlm) ?_
    rintro e w2 ⟨g1, gc1, rfl, hG, hb2⟩
    have hbs : bD + 1 ≤ w2.heap.size := by have := hb2.size; simp at this; omega
    clear hbD
    have X2 := Lib.hid (X0.out.keep hb2)
    have O2 := Lib.hid (O0.out.keep hb2)
    have HW2 := Lib.hid (below_callS HW0.out hb2)
    have G2 := Lib.hid hG.ints
    clear hG hb2 X0 O0 HW0
    have y0 := X2.out.cell 0
    have y1 := X2.out.cell 1
    have y2 := X2.out.cell 2
    have yl := X2.out.lt
    simp only [List.getElem?_toArray, List.getElem?_cons_succ, List.getElem?_cons_zero] at y0 y1 y2
    go_wp2_with fail
    refine Calls.mono (spec_FirstOne O2.out HI.out HR.out hlm) ?_
    rintro e w3 ⟨g2, gc2, rfl, hG, hb3⟩
    have X3 := Lib.hid (X2.out.keep hb3)
    have O3 := Lib.hid (O2.out.keep hb3)
    have HW3 := Lib.hid (below_callS HW2.out hb3)
    have G3 := Lib.hid (G2.out.keep hb3)
    have K3 := Lib.hid hG.ints
    clear hG hb3 X2 O2 HW2 G2
    clear y0 y1 y2 yl
    have y0 := X3.out.cell 0
    have y1 := X3.out.cell 1
    have y2 := X3.out.cell 2
    have yl := X3.out.lt
    simp only [List.getElem?_toArray, List.getElem?_cons_succ, List.getElem?_cons_zero] at y0 y1 y2
    go_wp2_with fail
    refine Calls.mono (impl_CountOnes O3.out HI.out HR.out hlm) ?_
    rintro e w4 ⟨rfl, hb4⟩
    have HS_w4 := Below.size hb4
    have X4 := Lib.hid (X3.out.keep hb4)
    have O4 := Lib.hid (O3.out.keep hb4)
    have G4 := Lib.hid (G3.out.keep hb4)
    have K4 := Lib.hid (K3.out.keep hb4)
    have HW4 := Lib.hid (below_callS HW3.out hb4)
    clear hb4 X3 O3 G3 K3 HW3
    clear y0 y1 y2 yl
    have y0 := X4.out.cell 0
    have y1 := X4.out.cell 1
    have y2 := X4.out.cell 2
    have yl := X4.out.lt
    simp only [List.getElem?_toArray, List.getElem?_cons_succ, List.getElem?_cons_zero] at y0 y1 y2
    go_wp2_with fail
    refine Calls.mono (spec_CountOnes O4.out HI.out HR.out hlm) ?_
    rintro e w5 ⟨rfl, hb5⟩
    have HS_w5 := Below.size hb5
    have X5 := Lib.hid (X4.out.keep hb5)
    have O5 := Lib.hid (O4.out.keep hb5)
    have G5 := Lib.hid (G4.out.keep hb5)
    have K5 := Lib.hid (K4.out.keep hb5)
    have HW5 := Lib.hid (below_callS HW4.out hb5)
    clear hb5 X4 O4 G4 K4 HW4
    clear y0 y1 y2 yl
    go_wp2_with fail
    refine Calls.mono (spec_DrawConstantDiagram (HB.out.keep HW5.out) hn) ?_
    rintro e w6 ⟨k, v, rfl, hb6⟩
    have HS_w6 := Below.size hb6
    have X6 := Lib.hid (X5.out.keep hb6)
    have O6 := Lib.hid (O5.out.keep hb6)
    have G6 := Lib.hid (G5.out.keep hb6)
    have K6 := Lib.hid (K5.out.keep hb6)
    have HW6 := Lib.hid (below_callS HW5.out hb6)
    clear hb6 X5 O5 G5 K5 HW5
    go_wp2_with fail
    refine Calls.mono impl_ConstantDiagram ?_
    rintro e w7 ⟨rfl, hb7⟩
    have HS_w7 := Below.size hb7
    have X7 := Lib.hid (X6.out.keep hb7)
    have O7 := Lib.hid (O6.out.keep hb7)
    have G7 := Lib.hid (G6.out.keep hb7)
    have K7 := Lib.hid (K6.out.keep hb7)
    have HW7 := Lib.hid (below_callS HW6.out hb7)
    clear hb7 X6 O6 G6 K6 HW6
    obtain ⟨W8, hW8⟩ : ∃ W, W = w7.alloc (.cells #[.int .i64 (conC k v).1, .slice none 0 0, .int .i64 (conC k v).2.1] 26) := ⟨_, rfl⟩
    have hb8 : Below w7.heap.size w7 W8 := by rw [hW8]; exact below_alloc1 (Below.refl _ _) _
    obtain ⟨bC, hbbC⟩ : ∃ b, b = w7.heap.size := ⟨_, rfl⟩
    have C8 := Lib.hid (show Blk W8 bC #[.int .i64 (conC k v).1, .slice none 0 0, .int .i64 (conC k v).2.1] 26 by rw [hW8, hbbC]; exact Blk.made _ _ _)
    have X8 := Lib.hid (X7.out.keep hb8)
    have O8 := Lib.hid (O7.out.keep hb8)
    have G8 := Lib.hid (G7.out.keep hb8)
    have K8 := Lib.hid (K7.out.keep hb8)
    have HW8 := Lib.hid (below_callS HW7.out hb8)
    clear hb8 X7 O7 G7 K7 HW7
    go_wp2_with fail
    rw [← hW8, ← hbbC]
    clear hW8 hbbC
    refine Calls.mono spec_ConstantDiagram ?_
    rintro e w9 ⟨rfl, hb9⟩
    have HS_w9 := Below.size hb9
    have X9 := Lib.hid (X8.out.keep hb9)
    have O9 := Lib.hid (O8.out.keep hb9)
    have G9 := Lib.hid (G8.out.keep hb9)
    have K9 := Lib.hid (K8.out.keep hb9)
    have C9 := Lib.hid (C8.out.keep hb9)
    have HW9 := Lib.hid (below_callS HW8.out hb9)
    clear hb9 X8 O8 G8 K8 C8 HW8
    obtain ⟨W10, hW10⟩ : ∃ W, W = w9.alloc (.cells #[.int .i64 (conC k v).1, .slice none 0 0, .int .i64 (conC k v).2.1] 26) := ⟨_, rfl⟩
    have hb10 : Below w9.heap.size w9 W10 := by rw [hW10]; exact below_alloc1 (Below.refl _ _) _
    obtain ⟨bE, hbbE⟩ : ∃ b, b = w9.heap.size := ⟨_, rfl⟩
    have E10 := Lib.hid (show Blk W10 bE #[.int .i64 (conC k v).1, .slice none 0 0, .int .i64 (conC k v).2.1] 26 by rw [hW10, hbbE]; exact Blk.made _ _ _)
    have X10 := Lib.hid (X9.out.keep hb10)
    have O10 := Lib.hid (O9.out.keep hb10)
    have G10 := Lib.hid (G9.out.keep hb10)
    have K10 := Lib.hid (K9.out.keep hb10)
    have C10 := Lib.hid (C9.out.keep hb10)
    have HW10 := Lib.hid (below_callS HW9.out hb10)
    clear hb10 X9 O9 G9 K9 C9 HW9
    go_wp2_with fail
    rw [← hW10, ← hbbE]
    clear hW10 hbbE
    refine Calls.mono (spec_DrawInputDiagram (HB.out.keep HW10.out) hn) ?_
    rintro e w11 ⟨m, i, rfl, hm, hi2, hb11⟩
    have HS_w11 := Below.size hb11
    have X11 := Lib.hid (X10.out.keep hb11)
    have O11 := Lib.hid (O10.out.keep hb11)
    have G11 := Lib.hid (G10.out.keep hb11)
    have K11 := Lib.hid (K10.out.keep hb11)
    have C11 := Lib.hid (C10.out.keep hb11)
    have E11 := Lib.hid (E10.out.keep hb11)
    have HW11 := Lib.hid (below_callS HW10.out hb11)
    clear hb11 X10 O10 G10 K10 C10 E10 HW10
    go_wp2_with fail
    refine Calls.mono (impl_InputDiagram hi2) ?_
    rintro e w12 ⟨ia, ic, rfl, hP, hb12⟩
    have HS_w12 := Below.size hb12
    have X12 := Lib.hid (X11.out.keep hb12)
    have O12 := Lib.hid (O11.out.keep hb12)
    have G12 := Lib.hid (G11.out.keep hb12)
    have K12 := Lib.hid (K11.out.keep hb12)
    have C12 := Lib.hid (C11.out.keep hb12)
    have E12 := Lib.hid (E11.out.keep hb12)
    have HW12 := Lib.hid (below_callS HW11.out hb12)
    clear hb12 X11 O11 G11 K11 C11 E11 HW11
    have P12 := Lib.hid hP.flats
    clear hP
    obtain ⟨W13, hW13⟩ : ∃ W, W = w12.alloc (.cells #[.int .i64 (inpC m i).1, .slice ia (inpC m i).2.1.length ic, .int .i64 (inpC m i).2.2.1] 26) := ⟨_, rfl⟩
    have hb13 : Below w12.heap.size w12 W13 := by rw [hW13]; exact below_alloc1 (Below.refl _ _) _
    obtain ⟨bI, hbbI⟩ : ∃ b, b = w12.heap.size := ⟨_, rfl⟩
    have I13 := Lib.hid (show Blk W13 bI #[.int .i64 (inpC m i).1, .slice ia (inpC m i).2.1.length ic, .int .i64 (inpC m i).2.2.1] 26 by rw [hW13, hbbI]; exact Blk.made _ _ _)
    have X13 := Lib.hid (X12.out.keep hb13)
    have O13 := Lib.hid (O12.out.keep hb13)
    have G13 := Lib.hid (G12.out.keep hb13)
    have K13 := Lib.hid (K12.out.keep hb13)
    have C13 := Lib.hid (C12.out.keep hb13)
    have E13 := Lib.hid (E12.out.keep hb13)
    have P13 := Lib.hid (P12.out.keep hb13)
    have HW13 := Lib.hid (below_callS HW12.out hb13)
    clear hb13 X12 O12 G12 K12 C12 E12 P12 HW12
    go_wp2_with fail
    rw [← hW13, ← hbbI]
    clear hW13 hbbI
    refine Calls.mono (spec_InputDiagram hi2) ?_
    rintro e w14 ⟨ja, jc, rfl, hP, hb14⟩
    have HS_w14 := Below.size hb14
    have X14 := Lib.hid (X13.out.keep hb14)
    have O14 := Lib.hid (O13.out.keep hb14)
    have G14 := Lib.hid (G13.out.keep hb14)
    have K14 := Lib.hid (K13.out.keep hb14)
    have C14 := Lib.hid (C13.out.keep hb14)
    have E14 := Lib.hid (E13.out.keep hb14)
    have P14 := Lib.hid (P13.out.keep hb14)
    have I14 := Lib.hid (I13.out.keep hb14)
    have HW14 := Lib.hid (below_callS HW13.out hb14)
    clear hb14 X13 O13 G13 K13 C13 E13 P13 I13 HW13
    have Q14 := Lib.hid hP.flats
    clear hP
    obtain ⟨W15, hW15⟩ : ∃ W, W = w14.alloc (.cells #[.int .i64 (inpC m i).1, .slice ja (inpC m i).2.1.length jc, .int .i64 (inpC m i).2.2.1] 26) := ⟨_, rfl⟩
    have hb15 : Below w14.heap.size w14 W15 := by rw [hW15]; exact below_alloc1 (Below.refl _ _) _
    obtain ⟨bJ, hbbJ⟩ : ∃ b, b = w14.heap.size := ⟨_, rfl⟩
    have J15 := Lib.hid (show Blk W15 bJ #[.int .i64 (inpC m i).1, .slice ja (inpC m i).2.1.length jc, .int .i64 (inpC m i).2.2.1] 26 by rw [hW15, hbbJ]; exact Blk.made _ _ _)
    have X15 := Lib.hid (X14.out.keep hb15)
    have O15 := Lib.hid (O14.out.keep hb15)
    have G15 := Lib.hid (G14.out.keep hb15)
    have K15 := Lib.hid (K14.out.keep hb15)
    have C15 := Lib.hid (C14.out.keep hb15)
    have E15 := Lib.hid (E14.out.keep hb15)
    have P15 := Lib.hid (P14.out.keep hb15)
    have I15 := Lib.hid (I14.out.keep hb15)
    have Q15 := Lib.hid (Q14.out.keep hb15)
    have HW15 := Lib.hid (below_callS HW14.out hb15)
    clear hb15 X14 O14 G14 K14 C14 E14 P14 I14 Q14 HW14
    go_wp2_with fail
    rw [← hW15, ← hbbJ]
    clear hW15 hbbJ
    refine Calls.mono (laws_likeInts G15.out K15.out (by have := fst_len (n := n') (L := D) (rt := rt); omega) (by have := fst_len (n := n') (L := D) (rt := rt); omega)) ?_
    rintro e w16 ⟨rfl, hb16⟩
    have HS_w16 := Below.size hb16
    have X16 := Lib.hid (X15.out.keep hb16)
    have O16 := Lib.hid (O15.out.keep hb16)
    have G16 := Lib.hid (G15.out.keep hb16)
    have C16 := Lib.hid (C15.out.keep hb16)
    have E16 := Lib.hid (E15.out.keep hb16)
    have P16 := Lib.hid (P15.out.keep hb16)
    have I16 := Lib.hid (I15.out.keep hb16)
    have Q16 := Lib.hid (Q15.out.keep hb16)
    have J16 := Lib.hid (J15.out.keep hb16)
    have HW16 := Lib.hid (below_callS HW15.out hb16)
    clear hb16 X15 O15 G15 C15 E15 P15 I15 Q15 J15 HW15
    have c0 := C16.out.cell 0
    have c1 := C16.out.cell 1
    have c2 := C16.out.cell 2
    have cl := C16.out.lt
    have d0 := E16.out.cell 0
    have d1 := E16.out.cell 1
    have d2 := E16.out.cell 2
    have dl := E16.out.lt
    simp only [List.getElem?_toArray, List.getElem?_cons_succ, List.getElem?_cons_zero] at c0 c1 c2 d0 d1 d2
    go_wp2_with fail
    refine Calls.mono (laws_likeDiagrams5 (L := []) (M := []) (none_flats _) (none_flats _) (by decide) (by decide)) ?_
    rintro e w17 ⟨rfl, hb17⟩
    have HS_w17 := Below.size hb17
    have X17 := Lib.hid (X16.out.keep hb17)
    have O17 := Lib.hid (O16.out.keep hb17)
    have G17 := Lib.hid (G16.out.keep hb17)
    have P17 := Lib.hid (P16.out.keep hb17)
    have I17 := Lib.hid (I16.out.keep hb17)
    have Q17 := Lib.hid (Q16.out.keep hb17)
    have J17 := Lib.hid (J16.out.keep hb17)
    have HW17 := Lib.hid (below_callS HW16.out hb17)
    clear hb17 X16 O16 G16 P16 I16 Q16 J16 HW16
    clear c0 c1 c2 cl d0 d1 d2 dl
    have c0 := I17.out.cell 0
    have c1 := I17.out.cell 1
    have c2 := I17.out.cell 2
    have cl := I17.out.lt
    have d0 := J17.out.cell 0
    have d1 := J17.out.cell 1
    have d2 := J17.out.cell 2
    have dl := J17.out.lt
    simp only [List.getElem?_toArray, List.getElem?_cons_succ, List.getElem?_cons_zero] at c0 c1 c2 d0 d1 d2
    have hpl : (inpC m i).2.1.length ≤ 1 := by unfold inpC; split <;> simp
    go_wp2_with fail
    refine Calls.mono (laws_likeDiagrams5 P17.out Q17.out (by omega) (by omega)) ?_
    rintro e w18 ⟨rfl, hb18⟩
    have HS_w18 := Below.size hb18
    have X18 := Lib.hid (X17.out.keep hb18)
    have O18 := Lib.hid (O17.out.keep hb18)
    have G18 := Lib.hid (G17.out.keep hb18)
    have P18 := Lib.hid (P17.out.keep hb18)
    have I18 := Lib.hid (I17.out.keep hb18)
    have HW18 := Lib.hid (below_callS HW17.out hb18)
    clear hb18 X17 O17 G17 P17 I17 HW17
    clear c0 c1 c2 cl d0 d1 d2 dl hpl
    cases hd : diaB n' D rt
    · have e1 : (onesC n' D rt).2 = 1 := by rw [onesC_1 hd]
      have e2 : (fstC n' D rt).2 = 1 := by rw [fstC_1 hd]
      clear hd
      by_cases hq : inB m 0 20 = true ∧ inB i 0 (m - 1) = true
      · have HQ := Lib.hid hq
        have hq1 := inBI_true hq.1
        have hq2 := inBI_true hq.2
        have hinp : inpC m i = (m, [⟨i, 0, 1⟩], 2, 0) := if_pos hq
        have P19 := Lib.hid (show F3 _ ia 1 ic [⟨i, 0, 1⟩] from by have h := P18.out; rw [hinp] at h; exact h)
        have I19 := Lib.hid (show Blk _ bI #[.int .i64 m, .slice ia 1 ic, .int .i64 2] 26 from by have h := I18.out; rw [hinp] at h; exact h)
        have f4 : (inpC m i).2.2.2 = 0 := by rw [hinp]
        obtain ⟨g1', g2'⟩ := inp_two hq2.1 hq2.2 hq1.2
        have HG2 := Lib.hid g2'
        clear g2'
        have HDI := Lib.hid (inp_dia hq2.1 hq2.2 hq1.2)
        have z0 := I19.out.cell 0
        have z1 := I19.out.cell 1
        have z2 := I19.out.cell 2
        have zl := I19.out.lt
        simp only [List.getElem?_toArray, List.getElem?_cons_succ, List.getElem?_cons_zero] at z0 z1 z2
        clear hinp hq P18 I18
        go_wp2_with fail
        refine Calls.mono (impl_CountOnes P19.out (by unfold I64; omega) (by unfold I64; omega) (by unfold maxLen; omega)) ?_
        rintro e w20 ⟨rfl, hb20⟩
        have hb20x := hb20
        have X20 := Lib.hid (X18.out.keep hb20)
        have O20 := Lib.hid (O18.out.keep hb20)
        have G20 := Lib.hid (G18.out.keep hb20)
        have HW20 := Lib.hid (below_callS HW18.out hb20)
        have P20 := Lib.hid (P19.out.keep hb20x)
        have I20 := Lib.hid (I19.out.keep hb20x)
        clear z0 z1 z2 zl P19 I19
        have z0 := I20.out.cell 0
        have z1 := I20.out.cell 1
        have z2 := I20.out.cell 2
        have zl := I20.out.lt
        simp only [List.getElem?_toArray, List.getElem?_cons_succ, List.getElem?_cons_zero] at z0 z1 z2
        go_wp2_with fail
        rotate_left
        · exact absurd (congrArg wrap64 HG2.out) (by assumption)
        refine Calls.mono (impl_IsDiagram P20.out (by unfold I64; omega) (by unfold I64; omega) (by unfold maxLen; omega)) ?_
        rintro e w21 ⟨rfl, hb21⟩
        have hb21x := hb21
        have X21 := Lib.hid (X20.out.keep hb21)
        have O21 := Lib.hid (O20.out.keep hb21)
        have G21 := Lib.hid (G20.out.keep hb21)
        have HW21 := Lib.hid (below_callS HW20.out hb21)
        rw [HDI.out]
        clear z0 z1 z2 zl
        have u0 := X21.out.cell 0
        have u1 := X21.out.cell 1
        have u2 := X21.out.cell 2
        have ul := X21.out.lt
        simp only [List.getElem?_toArray, List.getElem?_cons_succ, List.getElem?_cons_zero] at u0 u1 u2
        go_wp2
        go_ret
        exact ⟨rfl, HW21.out⟩
      · have f4 : (inpC m i).2.2.2 = 2 := by rw [inpC, if_neg hq]
        clear hq
        have u0 := X18.out.cell 0
        have u1 := X18.out.cell 1
        have u2 := X18.out.cell 2
        have ul := X18.out.lt
        simp only [List.getElem?_toArray, List.getElem?_cons_succ, List.getElem?_cons_zero] at u0 u1 u2
        go_wp2
        go_ret
        exact ⟨rfl, HW18.out⟩
    · by_cases h0 : rt = 0
      · have e1 : (onesC n' D rt).2 = 0 := by rw [h0] at hd ⊢; rw [ones_case0 hd]
        have e3 : (onesC n' D rt).1 = 0 := by rw [h0] at hd ⊢; rw [ones_case0 hd]
        have e2 : (fstC n' D rt).2 = 4 := by rw [h0] at hd ⊢; rw [fstC_2 hd]
        clear hd h0
        by_cases hq : inB m 0 20 = true ∧ inB i 0 (m - 1) = true
        · have HQ := Lib.hid hq
          have hq1 := inBI_true hq.1
          have hq2 := inBI_true hq.2
          have hinp : inpC m i = (m, [⟨i, 0, 1⟩], 2, 0) := if_pos hq
          have P19 := Lib.hid (show F3 _ ia 1 ic [⟨i, 0, 1⟩] from by have h := P18.out; rw [hinp] at h; exact h)
          have I19 := Lib.hid (show Blk _ bI #[.int .i64 m, .slice ia 1 ic, .int .i64 2] 26 from by have h := I18.out; rw [hinp] at h; exact h)
          have f4 : (inpC m i).2.2.2 = 0 := by rw [hinp]
          obtain ⟨g1', g2'⟩ := inp_two hq2.1 hq2.2 hq1.2
          have HG2 := Lib.hid g2'
          clear g2'
          have HDI := Lib.hid (inp_dia hq2.1 hq2.2 hq1.2)
          have z0 := I19.out.cell 0
          have z1 := I19.out.cell 1
          have z2 := I19.out.cell 2
          have zl := I19.out.lt
          simp only [List.getElem?_toArray, List.getElem?_cons_succ, List.getElem?_cons_zero] at z0 z1 z2
          clear hinp hq P18 I18
          go_wp2_with fail
          refine Calls.mono (impl_CountOnes P19.out (by unfold I64; omega) (by unfold I64; omega) (by unfold maxLen; omega)) ?_
          rintro e w20 ⟨rfl, hb20⟩
          have hb20x := hb20
          have X20 := Lib.hid (X18.out.keep hb20)
          have O20 := Lib.hid (O18.out.keep hb20)
          have G20 := Lib.hid (G18.out.keep hb20)
          have HW20 := Lib.hid (below_callS HW18.out hb20)
          have P20 := Lib.hid (P19.out.keep hb20x)
          have I20 := Lib.hid (I19.out.keep hb20x)
          clear z0 z1 z2 zl P19 I19
          have z0 := I20.out.cell 0
          have z1 := I20.out.cell 1
          have z2 := I20.out.cell 2
          have zl := I20.out.lt
          simp only [List.getElem?_toArray, List.getElem?_cons_succ, List.getElem?_cons_zero] at z0 z1 z2
          go_wp2_with fail
          rotate_left
          · exact absurd (congrArg wrap64 HG2.out) (by assumption)
          refine Calls.mono (impl_IsDiagram P20.out (by unfold I64; omega) (by unfold I64; omega) (by unfold maxLen; omega)) ?_
          rintro e w21 ⟨rfl, hb21⟩
          have hb21x := hb21
          have X21 := Lib.hid (X20.out.keep hb21)
          have O21 := Lib.hid (O20.out.keep hb21)
          have G21 := Lib.hid (G20.out.keep hb21)
          have HW21 := Lib.hid (below_callS HW20.out hb21)
          rw [HDI.out]
          clear z0 z1 z2 zl
          have u0 := X21.out.cell 0
          have u1 := X21.out.cell 1
          have u2 := X21.out.cell 2
          have ul := X21.out.lt
          simp only [List.getElem?_toArray, List.getElem?_cons_succ, List.getElem?_cons_zero] at u0 u1 u2
          go_wp2
          go_ret
          exact ⟨rfl, HW21.out⟩
        · have f4 : (inpC m i).2.2.2 = 2 := by rw [inpC, if_neg hq]
          clear hq
          have u0 := X18.out.cell 0
          have u1 := X18.out.cell 1
          have u2 := X18.out.cell 2
          have ul := X18.out.lt
          simp only [List.getElem?_toArray, List.getElem?_cons_succ, List.getElem?_cons_zero] at u0 u1 u2
          go_wp2
          go_ret
          exact ⟨rfl, HW18.out⟩
      · obtain ⟨e2, _, hv, e1, e3⟩ := fst_case hd h0
        have e4 : ((onesC n' D rt).1 == 0) = false := by simpa using e3
        have v1 : (valC n' D rt (fstC n' D rt).1).1 = 1 := by rw [hv]
        have v2 : (valC n' D rt (fstC n' D rt).1).2 = 0 := by rw [hv]
        clear hd h0 hv e3
        by_cases hq : inB m 0 20 = true ∧ inB i 0 (m - 1) = true
        · have HQ := Lib.hid hq
          have hq1 := inBI_true hq.1
          have hq2 := inBI_true hq.2
          have hinp : inpC m i = (m, [⟨i, 0, 1⟩], 2, 0) := if_pos hq
          have P19 := Lib.hid (show F3 _ ia 1 ic [⟨i, 0, 1⟩] from by have h := P18.out; rw [hinp] at h; exact h)
          have I19 := Lib.hid (show Blk _ bI #[.int .i64 m, .slice ia 1 ic, .int .i64 2] 26 from by have h := I18.out; rw [hinp] at h; exact h)
          have f4 : (inpC m i).2.2.2 = 0 := by rw [hinp]
          obtain ⟨g1', g2'⟩ := inp_two hq2.1 hq2.2 hq1.2
          have HG2 := Lib.hid g2'
          clear g2'
          have HDI := Lib.hid (inp_dia hq2.1 hq2.2 hq1.2)
          have z0 := I19.out.cell 0
          have z1 := I19.out.cell 1
          have z2 := I19.out.cell 2
          have zl := I19.out.lt
          simp only [List.getElem?_toArray, List.getElem?_cons_succ, List.getElem?_cons_zero] at z0 z1 z2
          clear hinp hq P18 I18
          go_wp2_with fail
          refine Calls.mono (impl_CountOnes P19.out (by unfold I64; omega) (by unfold I64; omega) (by unfold maxLen; omega)) ?_
          rintro e w20 ⟨rfl, hb20⟩
          have hb20x := hb20
          have X20 := Lib.hid (X18.out.keep hb20)
          have O20 := Lib.hid (O18.out.keep hb20)
          have G20 := Lib.hid (G18.out.keep hb20)
          have HW20 := Lib.hid (below_callS HW18.out hb20)
          have P20 := Lib.hid (P19.out.keep hb20x)
          have I20 := Lib.hid (I19.out.keep hb20x)
          clear z0 z1 z2 zl P19 I19
          have z0 := I20.out.cell 0
          have z1 := I20.out.cell 1
          have z2 := I20.out.cell 2
          have zl := I20.out.lt
          simp only [List.getElem?_toArray, List.getElem?_cons_succ, List.getElem?_cons_zero] at z0 z1 z2
          go_wp2_with fail
          rotate_left
          · exact absurd (congrArg wrap64 HG2.out) (by assumption)
          refine Calls.mono (impl_IsDiagram P20.out (by unfold I64; omega) (by unfold I64; omega) (by unfold maxLen; omega)) ?_
          rintro e w21 ⟨rfl, hb21⟩
          have hb21x := hb21
          have X21 := Lib.hid (X20.out.keep hb21)
          have O21 := Lib.hid (O20.out.keep hb21)
          have G21 := Lib.hid (G20.out.keep hb21)
          have HW21 := Lib.hid (below_callS HW20.out hb21)
          rw [HDI.out]
          clear z0 z1 z2 zl
          have u0 := X21.out.cell 0
          have u1 := X21.out.cell 1
          have u2 := X21.out.cell 2
          have ul := X21.out.lt
          simp only [List.getElem?_toArray, List.getElem?_cons_succ, List.getElem?_cons_zero] at u0 u1 u2
          go_wp2_with fail
          refine Calls.mono (impl_ValueOf O21.out G21.out HI.out HR.out hlm (by have := fst_len (n := n') (L := D) (rt := rt); omega)) ?_
          rintro e wv ⟨rfl, hbv⟩
          have HWv := Lib.hid (below_callS HW21.out hbv)
          go_wp2
          go_ret
          exact ⟨rfl, HWv.out⟩
        · have f4 : (inpC m i).2.2.2 = 2 := by rw [inpC, if_neg hq]
          clear hq
          have u0 := X18.out.cell 0
          have u1 := X18.out.cell 1
          have u2 := X18.out.cell 2
          have ul := X18.out.lt
          simp only [List.getElem?_toArray, List.getElem?_cons_succ, List.getElem?_cons_zero] at u0 u1 u2
          go_wp2_with fail
          refine Calls.mono (impl_ValueOf O18.out G18.out HI.out HR.out hlm (by have := fst_len (n := n') (L := D) (rt := rt); omega)) ?_
          rintro e wv ⟨rfl, hbv⟩
          have HWv := Lib.hid (below_callS HW18.out hbv)
          go_wp2
          go_ret
          exact ⟨rfl, HWv.out⟩
  · go_enter Try.func3, Try.ntmps3
    go_wp2_with fail
    refine Calls.mono (laws_big_yes hn) ?_
    rintro e _ ⟨rfl, rfl⟩
    go_wp2
    go_ret
    exact ⟨rfl, by repeat (first | exact Below.refl _ _ | assumption | refine below_allocS ?_ _ | refine below_callS ?_ (by assumption) | (refine Below.alloc ?_ (by first | omega | (simp; done) | (simp; omega)) _) | (refine Below.setCell ?_ (by first | omega | (simp; done) | (simp; omega)) _) | refine Below.drew ?_ | refine below_drewN ?_ _ | (refine below_call ?_ (by assumption) (by first | omega | (simp; done) | (simp; omega))) | (refine Below.trans ?_ (by assumption)))⟩
end Go.Proofs.Ytkaikbaagajckaa
