/- The law of values of diagrams, walked. (Printed by mkxv.py.) -/
import Derived.Test.YtkaikbaagajckaaWk
import Derived.Test.YtkaikbaagajckaaDh
import Derived.Test.YtkaikbaagajckaaWg
import Derived.Test.YtkaikbaagajckaaLk
namespace Go.Proofs.Ytkaikbaagajckaa
open Go.RowKit
set_option linter.unusedVariables false
set_option linter.unusedSimpArgs false
/-- an input fixed both ways -/
theorem fix_ok {n : Int} {E : List I3} {rt fi bit : Int} (hd : diaB n E rt = true) (hq : inB fi 0 (n - 1) = true ∧ inB bit 0 1 = true) :
    ∃ FL fR GL gR x y z, fixC n E rt fi bit = (n, FL, fR, 0) ∧ fixC n E rt fi (1 - bit) = (n, GL, gR, 0) ∧ diaB n FL fR = true ∧ I64 n ∧ I64 fR ∧ I64 gR ∧ FL.length ≤ 2000 ∧ GL.length ≤ 2000 ∧ onesC n FL fR = (x, 0) ∧ onesC n GL gR = (y, 0) ∧ onesC n E rt = (z, 0) ∧ x + y = 2 * z ∧ 0 ≤ x ∧ 0 ≤ y ∧ 0 ≤ z ∧ z ≤ 1048576 := by
  obtain ⟨hR, hrr, h0, h20, hll, _, _⟩ := dia_redu hd
  have hS := dia_snd hd
  have hf1 := inBI_true hq.1
  have hf2 := inBI_true hq.2
  have hq2 : inB fi 0 (n - 1) = true ∧ inB (1 - bit) 0 1 = true := ⟨hq.1, by rw [inB, decide_eq_true (show 0 ≤ 1 - bit by omega), decide_eq_true (show 1 - bit ≤ 1 by omega)]; rfl⟩
  obtain ⟨i0, rfl⟩ : ∃ i0 : Nat, fi = (i0 : Int) := ⟨fi.toNat, by omega⟩
  obtain ⟨N, rfl⟩ : ∃ N : Nat, n = (N : Int) := ⟨n.toNat, by omega⟩
  have key : ∀ b : Int, ∃ FL fR, fixC (N : Int) E rt (i0 : Int) b = (if inB (i0 : Int) 0 ((N : Int) - 1) = true ∧ inB b 0 1 = true then ((N : Int), FL, fR, 0) else (0, [], 0, 2)) ∧ diaB (N : Int) FL fR = true ∧ FL.length ≤ 2000 ∧ RefB fR FL.length ∧ onesN (N : Int) FL fR = cntB N 0 (fun β => evR E (fixB β i0 (decide (b ≠ 0))) rt) := by
    intro b
    have hx := fx_inv (n := (N : Int)) (inp := i0) (bit := b) hS
    have hlen := hx.len
    obtain ⟨q, hq9⟩ : ∃ q, (fxN (i0 : Int) b E).2[rt.toNat]? = some q := ⟨_, List.getElem?_eq_getElem (by have h1 := hrr.1; have h2 := hrr.2; omega)⟩
    have hgd : (fxN (i0 : Int) b E).2.getD rt.toNat 0 = q := by rw [List.getD_eq_getElem?_getD, hq9]; rfl
    obtain ⟨a1, a2, a3⟩ := hx.at' _ _ hq9
    have hrt : (rt.toNat : Int) = rt := by have h1 := hrr.1; omega
    rw [hrt] at a3
    have hcl := can_length hx.snd.redu a1
    have hfew := hx.few
    have hlc : (canN mkN (fxN (i0 : Int) b E).1 q).1.length ≤ 2000 := by omega
    obtain ⟨s1, s2, s3⟩ := can_snd hx.snd a1
    refine ⟨(canN mkN (fxN (i0 : Int) b E).1 q).1, (canN mkN (fxN (i0 : Int) b E).1 q).2, ?_, can_dia hx.snd a1 h0 h20 hlc, hlc, s2, ?_⟩
    · rw [fixC, if_neg (by simp [hd]), hgd]
    · rw [ones_cnt s1 s2]
      congr 1
      funext β
      rw [can_ev hx.snd.redu a1 β, a3]
  obtain ⟨FL, fR, k1, k2, k3, k4, k5⟩ := key bit
  obtain ⟨GL, gR, m1, m2, m3, m4, m5⟩ := key (1 - bit)
  rw [if_pos hq] at k1
  rw [if_pos hq2] at m1
  have hz := ones_cnt hS hrr
  have hzl := ones_le hS h0 hrr
  rw [Int.toNat_natCast] at hzl
  have hz9 : onesN (N : Int) E rt ≤ 1048576 := Nat.le_trans hzl (pow_20 (by omega))
  have hsum : onesN (N : Int) FL fR + onesN (N : Int) GL gR = 2 * onesN (N : Int) E rt := by
    rw [k5, m5, hz]
    have h := cnt_halves N 0 (fun β => evR E β rt) i0 (by omega) (by omega)
    rcases (show bit = 0 ∨ bit = 1 by omega) with rfl | rfl
    · exact h
    · rw [Nat.add_comm]; exact h
  refine ⟨FL, fR, GL, gR, (onesN (N : Int) FL fR : Int), (onesN (N : Int) GL gR : Int), (onesN (N : Int) E rt : Int), k1, m1, k2, ?_, ?_, ?_, k3, m3, onesC_2 k2, onesC_2 m2, onesC_2 hd, by omega, by omega, by omega, by omega, by omega⟩
  · unfold I64; omega
  · have h1 := k4.1; have h2 := k4.2; unfold I64; omega
  · have h1 := m4.1; have h2 := m4.2; unfold I64; omega
theorem fix_bad {n : Int} {E : List I3} {rt fi bit : Int} (h : ¬ (diaB n E rt = true ∧ inB fi 0 (n - 1) = true ∧ inB bit 0 1 = true)) : ∃ k, fixC n E rt fi bit = (0, [], 0, k) ∧ (k == 0) = false := by
  cases hd : diaB n E rt
  · exact ⟨1, fixC_1 hd, rfl⟩
  · exact ⟨2, fixC_2 hd (fun hq => h ⟨hd, hq⟩), rfl⟩
/-- the other diagram has the other value -/
theorem val_other {n : Int} {D : List I3} {rt : Int} {V : List Int} {v : Int} (hc : (valC n D rt V).2 = 0) (hv : (valC n D rt V).1 = v) : notC n D rt = (n, D.map flpN, flpR rt, 0) ∧ valC n (D.map flpN) (flpR rt) V = (1 - v, 0) ∧ I64 n ∧ I64 (flpR rt) ∧ 0 ≤ v ∧ v ≤ 1 := by
  cases hd : diaB n D rt
  · rw [valC_1 hd] at hc; simp at hc
  · obtain ⟨hR, hrr, h0, h20, hll, _, _⟩ := dia_redu hd
    cases ha : areB V n
    · rw [valC_2 hd ha] at hc; simp at hc
    · rw [valC_3 hd ha] at hv
      simp only at hv
      have hin := val_in D V rt
      have h1 := flp_ref hrr
      unfold RefB at h1
      refine ⟨notC_2 hd, ?_, by unfold I64; omega, by unfold I64; omega, by omega, by omega⟩
      rw [valC_3 (dia_flp hd) ha, ← hv, valN, valN, ev_flp hR.frst _ rt (Nat.le_refl _) hrr]
      cases evR D (bitF 0 V) rt <;> rfl
set_option maxRecDepth 100000 in
set_option maxHeartbeats 16000000 in
theorem law_FnDiagramValues {a : Option Addr} {n c : Nat} {w : World} (hB : Byts w a n c) : Calls Try.prog 4 #[.slice a n c] w fun e w' => e = .returned (.bool true) ∧ Below w.heap.size w w' := by
  have HB := Lib.hid hB
  clear hB
  by_cases hn : n ≤ 4096
  · go_enter Try.func4, Try.ntmps4
    go_wp2_with fail
    refine Calls.mono (laws_big_no hn) ?_
    rintro e _ ⟨rfl, rfl⟩
    go_wp2_with fail
    refine Calls.mono (spec_DrawValueOf HB.out hn) ?_
    rintro e w1 ⟨n', da, dc, D, rt, va, vn, vc, V, rfl, hi, hl, hr, hvn, hO, hV, hb⟩
    have hlm : D.length ≤ maxLen := by unfold maxLen; omega
    have HI := Lib.hid hi
    have HR := Lib.hid hr
    replace HB := Lib.hid (HB.out.keep hb)
    have HW := Lib.hid hb
    clear hb hi hr
    have O := Lib.hid (hO.flats)
    have V1 := Lib.hid (hV.ints)
    clear hO hV
    obtain ⟨W1, hW1⟩ : ∃ W, W = w1.alloc (.cells #[.int .i64 n', .slice da D.length dc, .int .i64 rt] 26) := ⟨_, rfl⟩
    have hb : Below w1.heap.size w1 W1 := by rw [hW1]; exact below_alloc1 (Below.refl _ _) _
    obtain ⟨bD, hbD⟩ : ∃ b, b = w1.heap.size := ⟨_, rfl⟩
    have X := Lib.hid (show Blk W1 bD #[.int .i64 n', .slice da D.length dc, .int .i64 rt] 26 by rw [hW1, hbD]; exact Blk.made _ _ _)
    have hz_W1 := Below.size hb
    replace HB := Lib.hid (HB.out.keep hb)
    replace O := Lib.hid (O.out.keep hb)
    replace V1 := Lib.hid (V1.out.keep hb)
    replace HW := Lib.hid (below_callS HW.out hb)
    clear hb
    go_wp2_with fail
    rw [← hW1, ← hbD]
    clear hW1 hbD
    refine Calls.mono (impl_ValueOf O.out V1.out HI.out HR.out hlm (by omega)) ?_
    rintro e w2 ⟨rfl, hb⟩
    have hz_w2 := Below.size hb
    replace HB := Lib.hid (HB.out.keep hb)
    replace O := Lib.hid (O.out.keep hb)
    replace V1 := Lib.hid (V1.out.keep hb)
    replace X := Lib.hid (X.out.keep hb)
    replace HW := Lib.hid (below_callS HW.out hb)
    clear hb
    have x_0 := X.out.cell 0
    have x_1 := X.out.cell 1
    have x_2 := X.out.cell 2
    have x_l := X.out.lt
    simp only [List.getElem?_toArray, List.getElem?_cons_succ, List.getElem?_cons_zero] at x_0 x_1 x_2
    go_wp2_with fail
    refine Calls.mono (spec_ValueOf O.out V1.out HI.out HR.out hlm (by omega)) ?_
    rintro e w3 ⟨rfl, hb⟩
    clear x_0 x_1 x_2 x_l
    have hz_w3 := Below.size hb
    replace HB := Lib.hid (HB.out.keep hb)
    replace O := Lib.hid (O.out.keep hb)
    replace V1 := Lib.hid (V1.out.keep hb)
    replace X := Lib.hid (X.out.keep hb)
    replace HW := Lib.hid (below_callS HW.out hb)
    clear hb
    go_wp2_with fail
    refine Calls.mono (spec_DrawFixInput HB.out hn) ?_
    rintro e w4 ⟨m', ea, ec, E, rt2, fi, bit, rfl, hi, hl2, hr, hfi, hbit, hO, hb⟩
    have hlm2 : E.length ≤ maxLen := by unfold maxLen; omega
    have HI2 := Lib.hid hi
    have HR2 := Lib.hid hr
    have HFI := Lib.hid hfi
    clear hi hr hfi
    replace HB := Lib.hid (HB.out.keep hb)
    replace O := Lib.hid (O.out.keep hb)
    replace V1 := Lib.hid (V1.out.keep hb)
    replace X := Lib.hid (X.out.keep hb)
    replace HW := Lib.hid (below_callS HW.out hb)
    clear hb
    have P := Lib.hid (hO.flats)
    clear hO
    obtain ⟨W2, hW2⟩ : ∃ W, W = w4.alloc (.cells #[.int .i64 m', .slice ea E.length ec, .int .i64 rt2] 26) := ⟨_, rfl⟩
    have hb : Below w4.heap.size w4 W2 := by rw [hW2]; exact below_alloc1 (Below.refl _ _) _
    obtain ⟨bE, hbE⟩ : ∃ b, b = w4.heap.size := ⟨_, rfl⟩
    have Y := Lib.hid (show Blk W2 bE #[.int .i64 m', .slice ea E.length ec, .int .i64 rt2] 26 by rw [hW2, hbE]; exact Blk.made _ _ _)
    have hz_W2 := Below.size hb
    replace HB := Lib.hid (HB.out.keep hb)
    replace O := Lib.hid (O.out.keep hb)
    replace V1 := Lib.hid (V1.out.keep hb)
    replace X := Lib.hid (X.out.keep hb)
    replace P := Lib.hid (P.out.keep hb)
    replace HW := Lib.hid (below_callS HW.out hb)
    clear hb
    obtain ⟨CF, hCF⟩ : ∃ x, x = fixC m' E rt2 fi bit := ⟨_, rfl⟩
    obtain ⟨fN, FL, fR, fc⟩ := CF
    go_wp2_with fail
    rw [← hW2, ← hbE]
    clear hW2 hbE
    have hk := impl_FixInput (fi := fi) (bit := bit) P.out HI2.out HR2.out hlm2
    rw [← hCF] at hk
    try dsimp only at hk
    refine Calls.mono (hk) ?_
    rintro e w5 ⟨fa, fac, rfl, hO, hb⟩
    clear hk
    have hz_w5 := Below.size hb
    replace HB := Lib.hid (HB.out.keep hb)
    replace O := Lib.hid (O.out.keep hb)
    replace V1 := Lib.hid (V1.out.keep hb)
    replace X := Lib.hid (X.out.keep hb)
    replace P := Lib.hid (P.out.keep hb)
    replace Y := Lib.hid (Y.out.keep hb)
    replace HW := Lib.hid (below_callS HW.out hb)
    clear hb
    have Q := Lib.hid (hO.flats)
    clear hO
    have y_0 := Y.out.cell 0
    have y_1 := Y.out.cell 1
    have y_2 := Y.out.cell 2
    have y_l := Y.out.lt
    simp only [List.getElem?_toArray, List.getElem?_cons_succ, List.getElem?_cons_zero] at y_0 y_1 y_2
    obtain ⟨W3, hW3⟩ : ∃ W, W = w5.alloc (.cells #[.int .i64 fN, .slice fa FL.length fac, .int .i64 fR] 26) := ⟨_, rfl⟩
    have hb : Below w5.heap.size w5 W3 := by rw [hW3]; exact below_alloc1 (Below.refl _ _) _
    obtain ⟨bF, hbF⟩ : ∃ b, b = w5.heap.size := ⟨_, rfl⟩
    have Z := Lib.hid (show Blk W3 bF #[.int .i64 fN, .slice fa FL.length fac, .int .i64 fR] 26 by rw [hW3, hbF]; exact Blk.made _ _ _)
    have hz_W3 := Below.size hb
    replace HB := Lib.hid (HB.out.keep hb)
    replace O := Lib.hid (O.out.keep hb)
    replace V1 := Lib.hid (V1.out.keep hb)
    replace X := Lib.hid (X.out.keep hb)
    replace P := Lib.hid (P.out.keep hb)
    replace Y := Lib.hid (Y.out.keep hb)
    replace Q := Lib.hid (Q.out.keep hb)
    replace HW := Lib.hid (below_callS HW.out hb)
    clear hb
    go_wp2_with fail
    rw [← hW3, ← hbF]
    clear hW3 hbF
    have hk := spec_FixInput (fi := fi) (bit := bit) P.out HI2.out HR2.out hlm2
    rw [← hCF] at hk
    try dsimp only at hk
    refine Calls.mono (hk) ?_
    rintro e w6 ⟨ga, gac, rfl, hO, hb⟩
    clear hk
    clear y_0 y_1 y_2 y_l
    have hz_w6 := Below.size hb
    replace HB := Lib.hid (HB.out.keep hb)
    replace O := Lib.hid (O.out.keep hb)
    replace V1 := Lib.hid (V1.out.keep hb)
    replace X := Lib.hid (X.out.keep hb)
    replace P := Lib.hid (P.out.keep hb)
    replace Y := Lib.hid (Y.out.keep hb)
    replace Q := Lib.hid (Q.out.keep hb)
    replace Z := Lib.hid (Z.out.keep hb)
    replace HW := Lib.hid (below_callS HW.out hb)
    clear hb
    have S := Lib.hid (hO.flats)
    clear hO
    have z_0 := Z.out.cell 0
    have z_1 := Z.out.cell 1
    have z_2 := Z.out.cell 2
    have z_l := Z.out.lt
    simp only [List.getElem?_toArray, List.getElem?_cons_succ, List.getElem?_cons_zero] at z_0 z_1 z_2
    obtain ⟨W4, hW4⟩ : ∃ W, W = w6.alloc (.cells #[.int .i64 fN, .slice ga FL.length gac, .int .i64 fR] 26) := ⟨_, rfl⟩
    have hb : Below w6.heap.size w6 W4 := by rw [hW4]; exact below_alloc1 (Below.refl _ _) _
    obtain ⟨bG, hbG⟩ : ∃ b, b = w6.heap.size := ⟨_, rfl⟩
    have U := Lib.hid (show Blk W4 bG #[.int .i64 fN, .slice ga FL.length gac, .int .i64 fR] 26 by rw [hW4, hbG]; exact Blk.made _ _ _)
    have hz_W4 := Below.size hb
    replace HB := Lib.hid (HB.out.keep hb)
    replace O := Lib.hid (O.out.keep hb)
    replace V1 := Lib.hid (V1.out.keep hb)
    replace X := Lib.hid (X.out.keep hb)
    replace P := Lib.hid (P.out.keep hb)
    replace Y := Lib.hid (Y.out.keep hb)
    replace Q := Lib.hid (Q.out.keep hb)
    replace Z := Lib.hid (Z.out.keep hb)
    replace S := Lib.hid (S.out.keep hb)
    replace HW := Lib.hid (below_callS HW.out hb)
    clear hb
    have hFL : FL.length ≤ 2000 := by
      by_cases h : diaB m' E rt2 = true ∧ inB fi 0 (m' - 1) = true ∧ inB bit 0 1 = true
      · obtain ⟨_, _, _, _, _, _, _, k1, _, _, _, _, _, k3, _⟩ := fix_ok h.1 h.2
        rw [← hCF] at k1
        simp only [Prod.mk.injEq] at k1
        rw [k1.2.1]; exact k3
      · obtain ⟨k, k1, _⟩ := fix_bad h
        rw [← hCF] at k1
        simp only [Prod.mk.injEq] at k1
        rw [k1.2.1]; exact Nat.zero_le _
    have HCF := Lib.hid hCF
    clear hCF
    go_wp2_with fail
    rw [← hW4, ← hbG]
    clear hW4 hbG
    refine Calls.mono (laws_likeDiagrams5 Q.out S.out (by omega) (by omega)) ?_
    rintro e w7 ⟨rfl, hb⟩
    clear z_0 z_1 z_2 z_l
    have hz_w7 := Below.size hb
    replace HB := Lib.hid (HB.out.keep hb)
    replace O := Lib.hid (O.out.keep hb)
    replace V1 := Lib.hid (V1.out.keep hb)
    replace X := Lib.hid (X.out.keep hb)
    replace P := Lib.hid (P.out.keep hb)
    replace Y := Lib.hid (Y.out.keep hb)
    replace Q := Lib.hid (Q.out.keep hb)
    replace Z := Lib.hid (Z.out.keep hb)
    replace S := Lib.hid (S.out.keep hb)
    replace U := Lib.hid (U.out.keep hb)
    replace HW := Lib.hid (below_callS HW.out hb)
    clear hb
    clear S U
    by_cases hok : diaB m' E rt2 = true ∧ inB fi 0 (m' - 1) = true ∧ inB bit 0 1 = true
    · skip
      obtain ⟨FL', fR', GL, gR, xx, yy, zz, k1, k2, k3, k4, k5, k6, k7, k8, k9, k10, k11, k12, x0, y0, z0, z1⟩ := fix_ok hok.1 hok.2
      rw [← HCF.out] at k1
      simp only [Prod.mk.injEq] at k1
      obtain ⟨rfl, rfl, rfl, rfl⟩ := k1
      have hbt := inBI_true hok.2.2
      have e0 : IntKind.i64.wrap (1 - bit) = 1 - bit := IntWalk.i64_in _ (by omega)
      have HK2 := Lib.hid k2
      have HK3 := Lib.hid k3
      have HK4 := Lib.hid k4
      have HK9 := Lib.hid k9
      have HK10 := Lib.hid k10
      have HK11 := Lib.hid k11
      have HK5 := Lib.hid k5
      have HK6 := Lib.hid k6
      have e1 : IntKind.i64.wrap (xx + yy) = 2 * zz := by rw [IntWalk.i64_in _ (by omega)]; omega
      have e2 : IntKind.i64.wrap (2 * zz) = 2 * zz := IntWalk.i64_in _ (by omega)
      clear k2 k3 k4 k5 k6 k9 k10 k11 hok HCF
      have y_0 := Y.out.cell 0
      have y_1 := Y.out.cell 1
      have y_2 := Y.out.cell 2
      have y_l := Y.out.lt
      simp only [List.getElem?_toArray, List.getElem?_cons_succ, List.getElem?_cons_zero] at y_0 y_1 y_2
      go_wp2_with fail
      have hk := impl_FixInput (fi := fi) (bit := 1 - bit) P.out HI2.out HR2.out hlm2
      rw [HK2.out] at hk
      try dsimp only at hk
      refine Calls.mono (hk) ?_
      rintro e w8 ⟨ha, hac, rfl, hO, hb⟩
      clear hk
      clear y_0 y_1 y_2 y_l
      have hz_w8 := Below.size hb
      replace HB := Lib.hid (HB.out.keep hb)
      replace O := Lib.hid (O.out.keep hb)
      replace V1 := Lib.hid (V1.out.keep hb)
      replace X := Lib.hid (X.out.keep hb)
      replace P := Lib.hid (P.out.keep hb)
      replace Y := Lib.hid (Y.out.keep hb)
      replace Q := Lib.hid (Q.out.keep hb)
      replace Z := Lib.hid (Z.out.keep hb)
      replace HW := Lib.hid (below_callS HW.out hb)
      clear hb
      have S := Lib.hid (hO.flats)
      clear hO
      have z_0 := Z.out.cell 0
      have z_1 := Z.out.cell 1
      have z_2 := Z.out.cell 2
      have z_l := Z.out.lt
      simp only [List.getElem?_toArray, List.getElem?_cons_succ, List.getElem?_cons_zero] at z_0 z_1 z_2
      obtain ⟨W5, hW5⟩ : ∃ W, W = w8.alloc (.cells #[.int .i64 fN, .slice ha GL.length hac, .int .i64 gR] 26) := ⟨_, rfl⟩
      have hb : Below w8.heap.size w8 W5 := by rw [hW5]; exact below_alloc1 (Below.refl _ _) _
      obtain ⟨bH, hbH⟩ : ∃ b, b = w8.heap.size := ⟨_, rfl⟩
      have U := Lib.hid (show Blk W5 bH #[.int .i64 fN, .slice ha GL.length hac, .int .i64 gR] 26 by rw [hW5, hbH]; exact Blk.made _ _ _)
      have hz_W5 := Below.size hb
      replace HB := Lib.hid (HB.out.keep hb)
      replace O := Lib.hid (O.out.keep hb)
      replace V1 := Lib.hid (V1.out.keep hb)
      replace X := Lib.hid (X.out.keep hb)
      replace P := Lib.hid (P.out.keep hb)
      replace Y := Lib.hid (Y.out.keep hb)
      replace Q := Lib.hid (Q.out.keep hb)
      replace Z := Lib.hid (Z.out.keep hb)
      replace S := Lib.hid (S.out.keep hb)
      replace HW := Lib.hid (below_callS HW.out hb)
      clear hb
      go_wp2_with fail
      rw [← hW5, ← hbH]
      clear hW5 hbH
      have hk := impl_CountOnes Q.out HK4.out HK5.out (by unfold maxLen; omega)
      rw [HK9.out] at hk
      try dsimp only at hk
      refine Calls.mono (hk) ?_
      rintro e w9 ⟨rfl, hb⟩
      clear hk
      clear z_0 z_1 z_2 z_l
      have hz_w9 := Below.size hb
      replace HB := Lib.hid (HB.out.keep hb)
      replace O := Lib.hid (O.out.keep hb)
      replace V1 := Lib.hid (V1.out.keep hb)
      replace X := Lib.hid (X.out.keep hb)
      replace P := Lib.hid (P.out.keep hb)
      replace Y := Lib.hid (Y.out.keep hb)
      replace Q := Lib.hid (Q.out.keep hb)
      replace Z := Lib.hid (Z.out.keep hb)
      replace S := Lib.hid (S.out.keep hb)
      replace U := Lib.hid (U.out.keep hb)
      replace HW := Lib.hid (below_callS HW.out hb)
      clear hb
      have u_0 := U.out.cell 0
      have u_1 := U.out.cell 1
      have u_2 := U.out.cell 2
      have u_l := U.out.lt
      simp only [List.getElem?_toArray, List.getElem?_cons_succ, List.getElem?_cons_zero] at u_0 u_1 u_2
      go_wp2_with fail
      have hk := impl_CountOnes S.out HK4.out HK6.out (by unfold maxLen; omega)
      rw [HK10.out] at hk
      try dsimp only at hk
      refine Calls.mono (hk) ?_
      rintro e w10 ⟨rfl, hb⟩
      clear hk
      clear u_0 u_1 u_2 u_l
      have hz_w10 := Below.size hb
      replace HB := Lib.hid (HB.out.keep hb)
      replace O := Lib.hid (O.out.keep hb)
      replace V1 := Lib.hid (V1.out.keep hb)
      replace X := Lib.hid (X.out.keep hb)
      replace P := Lib.hid (P.out.keep hb)
      replace Y := Lib.hid (Y.out.keep hb)
      replace Q := Lib.hid (Q.out.keep hb)
      replace Z := Lib.hid (Z.out.keep hb)
      replace S := Lib.hid (S.out.keep hb)
      replace U := Lib.hid (U.out.keep hb)
      replace HW := Lib.hid (below_callS HW.out hb)
      clear hb
      have y_0 := Y.out.cell 0
      have y_1 := Y.out.cell 1
      have y_2 := Y.out.cell 2
      have y_l := Y.out.lt
      simp only [List.getElem?_toArray, List.getElem?_cons_succ, List.getElem?_cons_zero] at y_0 y_1 y_2
      go_wp2_with fail
      have hk := impl_CountOnes P.out HI2.out HR2.out hlm2
      rw [HK11.out] at hk
      try dsimp only at hk
      refine Calls.mono (hk) ?_
      rintro e w11 ⟨rfl, hb⟩
      clear hk
      clear y_0 y_1 y_2 y_l
      have hz_w11 := Below.size hb
      replace HB := Lib.hid (HB.out.keep hb)
      replace O := Lib.hid (O.out.keep hb)
      replace V1 := Lib.hid (V1.out.keep hb)
      replace X := Lib.hid (X.out.keep hb)
      replace P := Lib.hid (P.out.keep hb)
      replace Y := Lib.hid (Y.out.keep hb)
      replace Q := Lib.hid (Q.out.keep hb)
      replace Z := Lib.hid (Z.out.keep hb)
      replace S := Lib.hid (S.out.keep hb)
      replace U := Lib.hid (U.out.keep hb)
      replace HW := Lib.hid (below_callS HW.out hb)
      clear hb
      have z_0 := Z.out.cell 0
      have z_1 := Z.out.cell 1
      have z_2 := Z.out.cell 2
      have z_l := Z.out.lt
      simp only [List.getElem?_toArray, List.getElem?_cons_succ, List.getElem?_cons_zero] at z_0 z_1 z_2
      go_wp2_with fail
      have hk := impl_IsDiagram Q.out HK4.out HK5.out (by unfold maxLen; omega)
      rw [HK3.out] at hk
      try dsimp only at hk
      refine Calls.mono (hk) ?_
      rintro e w12 ⟨rfl, hb⟩
      clear hk
      clear z_0 z_1 z_2 z_l
      have hz_w12 := Below.size hb
      replace HB := Lib.hid (HB.out.keep hb)
      replace O := Lib.hid (O.out.keep hb)
      replace V1 := Lib.hid (V1.out.keep hb)
      replace X := Lib.hid (X.out.keep hb)
      replace P := Lib.hid (P.out.keep hb)
      replace Y := Lib.hid (Y.out.keep hb)
      replace Q := Lib.hid (Q.out.keep hb)
      replace Z := Lib.hid (Z.out.keep hb)
      replace S := Lib.hid (S.out.keep hb)
      replace U := Lib.hid (U.out.keep hb)
      replace HW := Lib.hid (below_callS HW.out hb)
      clear hb
      by_cases hv0 : (valC n' D rt V).2 = 0
      · skip
        obtain ⟨vv, hvv⟩ : ∃ v, (valC n' D rt V).1 = v := ⟨_, rfl⟩
        obtain ⟨k1, k2, k3, k4, k5, k6⟩ := val_other hv0 hvv
        have e1 : IntKind.i64.wrap (1 - vv) = 1 - vv := IntWalk.i64_in _ (by omega)
        skip
        have K2 := Lib.hid k2
        clear k2
        have x_0 := X.out.cell 0
        have x_1 := X.out.cell 1
        have x_2 := X.out.cell 2
        have x_l := X.out.lt
        simp only [List.getElem?_toArray, List.getElem?_cons_succ, List.getElem?_cons_zero] at x_0 x_1 x_2
        go_wp2_with fail
        have hk := impl_NotDiagram O.out HI.out HR.out hlm
        rw [k1] at hk
        try dsimp only at hk
        simp only [List.length_map] at hk
        refine Calls.mono (hk) ?_
        rintro e w20 ⟨na, nac, rfl, hO, hb⟩
        clear hk
        clear x_0 x_1 x_2 x_l
        have hz_w20 := Below.size hb
        replace HB := Lib.hid (HB.out.keep hb)
        replace O := Lib.hid (O.out.keep hb)
        replace V1 := Lib.hid (V1.out.keep hb)
        replace X := Lib.hid (X.out.keep hb)
        replace P := Lib.hid (P.out.keep hb)
        replace Y := Lib.hid (Y.out.keep hb)
        replace Q := Lib.hid (Q.out.keep hb)
        replace Z := Lib.hid (Z.out.keep hb)
        replace S := Lib.hid (S.out.keep hb)
        replace U := Lib.hid (U.out.keep hb)
        replace HW := Lib.hid (below_callS HW.out hb)
        clear hb
        have M := Lib.hid (hO.flats)
        clear hO
        obtain ⟨W6, hW6⟩ : ∃ W, W = w20.alloc (.cells #[.int .i64 n', .slice na D.length nac, .int .i64 (flpR rt)] 26) := ⟨_, rfl⟩
        have hb : Below w20.heap.size w20 W6 := by rw [hW6]; exact below_alloc1 (Below.refl _ _) _
        obtain ⟨bN, hbN⟩ : ∃ b, b = w20.heap.size := ⟨_, rfl⟩
        have N := Lib.hid (show Blk W6 bN #[.int .i64 n', .slice na D.length nac, .int .i64 (flpR rt)] 26 by rw [hW6, hbN]; exact Blk.made _ _ _)
        have hz_W6 := Below.size hb
        replace HB := Lib.hid (HB.out.keep hb)
        replace O := Lib.hid (O.out.keep hb)
        replace V1 := Lib.hid (V1.out.keep hb)
        replace X := Lib.hid (X.out.keep hb)
        replace P := Lib.hid (P.out.keep hb)
        replace Y := Lib.hid (Y.out.keep hb)
        replace Q := Lib.hid (Q.out.keep hb)
        replace Z := Lib.hid (Z.out.keep hb)
        replace S := Lib.hid (S.out.keep hb)
        replace U := Lib.hid (U.out.keep hb)
        replace M := Lib.hid (M.out.keep hb)
        replace HW := Lib.hid (below_callS HW.out hb)
        clear hb
        go_wp2_with fail
        rw [← hW6, ← hbN]
        clear hW6 hbN
        have hk := impl_ValueOf M.out V1.out HI.out k4 hlm (by omega)
        rw [K2.out] at hk
        try dsimp only at hk
        refine Calls.mono (hk) ?_
        rintro e w21 ⟨rfl, hb⟩
        clear hk
        have hz_w21 := Below.size hb
        replace HB := Lib.hid (HB.out.keep hb)
        replace O := Lib.hid (O.out.keep hb)
        replace V1 := Lib.hid (V1.out.keep hb)
        replace X := Lib.hid (X.out.keep hb)
        replace P := Lib.hid (P.out.keep hb)
        replace Y := Lib.hid (Y.out.keep hb)
        replace Q := Lib.hid (Q.out.keep hb)
        replace Z := Lib.hid (Z.out.keep hb)
        replace S := Lib.hid (S.out.keep hb)
        replace U := Lib.hid (U.out.keep hb)
        replace M := Lib.hid (M.out.keep hb)
        replace N := Lib.hid (N.out.keep hb)
        replace HW := Lib.hid (below_callS HW.out hb)
        clear hb
        go_wp2
        go_ret
        exact ⟨rfl, HW.out⟩
      · skip
        have hv1 : ((valC n' D rt V).2 == 0) = false := by simpa using hv0
        have hv2 : ((valC n' D rt V).2 != 0) = true := by simpa using hv0
        go_wp2
        go_ret
        exact ⟨rfl, HW.out⟩
    · skip
      obtain ⟨kk, k1, k2⟩ := fix_bad hok
      rw [← HCF.out] at k1
      simp only [Prod.mk.injEq] at k1
      obtain ⟨rfl, rfl, rfl, rfl⟩ := k1
      clear HCF hok
      by_cases hv0 : (valC n' D rt V).2 = 0
      · skip
        obtain ⟨vv, hvv⟩ : ∃ v, (valC n' D rt V).1 = v := ⟨_, rfl⟩
        obtain ⟨k1, k2, k3, k4, k5, k6⟩ := val_other hv0 hvv
        have e1 : IntKind.i64.wrap (1 - vv) = 1 - vv := IntWalk.i64_in _ (by omega)
        skip
        have K2 := Lib.hid k2
        clear k2
        have x_0 := X.out.cell 0
        have x_1 := X.out.cell 1
        have x_2 := X.out.cell 2
        have x_l := X.out.lt
        simp only [List.getElem?_toArray, List.getElem?_cons_succ, List.getElem?_cons_zero] at x_0 x_1 x_2
        go_wp2_with fail
        have hk := impl_NotDiagram O.out HI.out HR.out hlm
        rw [k1] at hk
        try dsimp only at hk
        simp only [List.length_map] at hk
        refine Calls.mono (hk) ?_
        rintro e w20 ⟨na, nac, rfl, hO, hb⟩
        clear hk
        clear x_0 x_1 x_2 x_l
        have hz_w20 := Below.size hb
        replace HB := Lib.hid (HB.out.keep hb)
        replace O := Lib.hid (O.out.keep hb)
        replace V1 := Lib.hid (V1.out.keep hb)
        replace X := Lib.hid (X.out.keep hb)
        replace P := Lib.hid (P.out.keep hb)
        replace Y := Lib.hid (Y.out.keep hb)
        replace Q := Lib.hid (Q.out.keep hb)
        replace Z := Lib.hid (Z.out.keep hb)
        replace HW := Lib.hid (below_callS HW.out hb)
        clear hb
        have M := Lib.hid (hO.flats)
        clear hO
        obtain ⟨W5, hW5⟩ : ∃ W, W = w20.alloc (.cells #[.int .i64 n', .slice na D.length nac, .int .i64 (flpR rt)] 26) := ⟨_, rfl⟩
        have hb : Below w20.heap.size w20 W5 := by rw [hW5]; exact below_alloc1 (Below.refl _ _) _
        obtain ⟨bN, hbN⟩ : ∃ b, b = w20.heap.size := ⟨_, rfl⟩
        have N := Lib.hid (show Blk W5 bN #[.int .i64 n', .slice na D.length nac, .int .i64 (flpR rt)] 26 by rw [hW5, hbN]; exact Blk.made _ _ _)
        have hz_W5 := Below.size hb
        replace HB := Lib.hid (HB.out.keep hb)
        replace O := Lib.hid (O.out.keep hb)
        replace V1 := Lib.hid (V1.out.keep hb)
        replace X := Lib.hid (X.out.keep hb)
        replace P := Lib.hid (P.out.keep hb)
        replace Y := Lib.hid (Y.out.keep hb)
        replace Q := Lib.hid (Q.out.keep hb)
        replace Z := Lib.hid (Z.out.keep hb)
        replace M := Lib.hid (M.out.keep hb)
        replace HW := Lib.hid (below_callS HW.out hb)
        clear hb
        go_wp2_with fail
        rw [← hW5, ← hbN]
        clear hW5 hbN
        have hk := impl_ValueOf M.out V1.out HI.out k4 hlm (by omega)
        rw [K2.out] at hk
        try dsimp only at hk
        refine Calls.mono (hk) ?_
        rintro e w21 ⟨rfl, hb⟩
        clear hk
        have hz_w21 := Below.size hb
        replace HB := Lib.hid (HB.out.keep hb)
        replace O := Lib.hid (O.out.keep hb)
        replace V1 := Lib.hid (V1.out.keep hb)
        replace X := Lib.hid (X.out.keep hb)
        replace P := Lib.hid (P.out.keep hb)
        replace Y := Lib.hid (Y.out.keep hb)
        replace Q := Lib.hid (Q.out.keep hb)
        replace Z := Lib.hid (Z.out.keep hb)
        replace M := Lib.hid (M.out.keep hb)
        replace N := Lib.hid (N.out.keep hb)
        replace HW := Lib.hid (below_callS HW.out hb)
        clear hb
        go_wp2
        go_ret
        exact ⟨rfl, HW.out⟩
      · skip
        have hv1 : ((valC n' D rt V).2 == 0) = false := by simpa using hv0
        have hv2 : ((valC n' D rt V).2 != 0) = true := by simpa using hv0
        go_wp2
        go_ret
        exact ⟨rfl, HW.out⟩
  · go_enter Try.func4, Try.ntmps4
    go_wp2_with fail
    refine Calls.mono (laws_big_yes hn) ?_
    rintro e _ ⟨rfl, rfl⟩
    go_wp2
    go_ret
    exact ⟨rfl, by repeat (first | exact Below.refl _ _ | assumption | refine below_allocS ?_ _ | refine below_callS ?_ (by assumption) | (refine Below.alloc ?_ (by first | omega | (simp; done) | (simp; omega)) _) | (refine Below.setCell ?_ (by first | omega | (simp; done) | (simp; omega)) _) | refine Below.drew ?_ | refine below_drewN ?_ _ | (refine below_call ?_ (by assumption) (by first | omega | (simp; done) | (simp; omega))) | (refine Below.trans ?_ (by assumption)))⟩
end Go.Proofs.Ytkaikbaagajckaa
