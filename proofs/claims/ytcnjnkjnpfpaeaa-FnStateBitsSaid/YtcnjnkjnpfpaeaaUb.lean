/- The law on states and their bits, walked. (Printed by mkub.py.) -/
import Derived.Test.YtcnjnkjnpfpaeaaDu
import Derived.Test.YtcnjnkjnpfpaeaaUa
import Derived.Test.YtcnjnkjnpfpaeaaLk
import Derived.Test.YtcnjnkjnpfpaeaaBg
import Derived.Test.YtcnjnkjnpfpaeaaMn
namespace Go.Proofs.Ytcnjnkjnpfpaeaa
open Go.RowKit
set_option linter.unusedVariables false
set_option linter.unusedSimpArgs false
theorem sum_lo {l : List Int} (h : ∀ x ∈ l, 0 ≤ x ∧ x ≤ 5) : 0 ≤ l.sum ∧ l.sum ≤ 5 * (l.length : Int) := by
  induction l with
  | nil => simp
  | cons x r ih =>
    have h1 := ih (fun y hy => h y (List.mem_cons_of_mem _ hy))
    have h2 := h x (List.mem_cons_self ..)
    simp only [List.sum_cons, List.length_cons]
    omega
theorem bmL_in (sz st : List Int) (l : List (RM × RuD)) : ∀ x ∈ bmL sz st l, 0 ≤ x ∧ x ≤ 5 := by
  rw [bmL]
  split
  · intro x hx
    obtain ⟨z, hz, rfl⟩ := List.mem_map.1 hx
    unfold wN; omega
  · intro x hx; cases hx
set_option maxHeartbeats 1000000 in
theorem laws_sum {a : Option Addr} {n c : Nat} {l : List Int} {w : World} (hI : Ints w a n c l) (hn : n ≤ 1000) (hl : ∀ x ∈ l, 0 ≤ x ∧ x ≤ 5) :
    Calls Try.prog 15 #[.slice a n c] w fun e w' => e = .returned (.int .i64 l.sum) ∧ Below w.heap.size w w' := by
  have HI := Lib.hid hI
  have HL := Lib.hid (show ∀ k, 0 ≤ (l.take k).sum ∧ (l.take k).sum ≤ 5 * (n : Int) from fun k => by
    have h := sum_lo (l := l.take k) (fun x hx => hl x (List.mem_of_mem_take hx))
    have h2 : (l.take k).length ≤ n := by rw [List.length_take, hI.len]; omega
    omega)
  have HX := Lib.hid hl
  clear hI hl
  go_enter Try.func15, Try.ntmps15
  go_wp2_with fail
  go_loop [3, 4] (fun s3 s4 => ∃ k : Nat, s3 = .int .i64 (l.take k).sum ∧ s4 = .int .i64 (k : Int) ∧ k ≤ n) (fun _ s4 => n - (intOf s4).toNat)
  case atStart => exact ⟨0, rfl, rfl, by omega⟩
  case round =>
    obtain ⟨k, rfl, rfl, hk⟩ := hrel
    by_cases hlt : k < n
    · have hlt' : (k : Int) < (n : Int) := by omega
      have hk0 : (0 : Int) ≤ (k : Int) := by omega
      obtain ⟨b, o, x, rfl, hb, hx, hc, hx64⟩ := HI.out.at hlt
      have e1 : (l.take (k + 1)).sum = (l.take k).sum + x := by rw [take_at hx, List.sum_append]; simp
      have h1 := HL.out (k + 1)
      rw [e1] at h1
      have e2 : IntKind.i64.wrap ((l.take k).sum + x) = (l.take k).sum + x := IntWalk.i64_in _ (by omega)
      have e3 : IntKind.i64.wrap ((k : Int) + 1) = (k : Int) + 1 := IntWalk.i64_in _ (by omega)
      have E1 := Lib.hid e1
      clear e1 hx hx64
      generalize (l.take k).sum = S at *
      go_wp2_with fail
      go_round
      case rel => exact ⟨k + 1, by rw [E1.out], by go_num, by omega⟩
      case measure => simp [intOf]; omega
    · have hlt' : ¬ (k : Int) < (n : Int) := by omega
      obtain rfl : k = n := by omega
      have e : l.take k = l := take_len HI.out.len
      go_wp2
      go_ret
      exact ⟨rfl, bel⟩
set_option maxRecDepth 100000 in
set_option maxHeartbeats 16000000 in
theorem law_FnStateBits {a : Option Addr} {n c : Nat} {w : World} (hB : Byts w a n c) : Calls Try.prog 3 #[.slice a n c] w fun e w' => e = .returned (.bool true) ∧ Below w.heap.size w w' := by
  have HB := Lib.hid hB
  clear hB
  by_cases hn : n ≤ 4096
  · go_enter Try.func3, Try.ntmps3
    go_wp2_with fail
    refine Calls.mono (laws_big_no hn) ?_
    rintro e _ ⟨rfl, rfl⟩
    go_wp2_with fail
    refine Calls.mono (spec_DrawBitsOfState HB.out hn) ?_
    rintro e w1 ⟨sa1, ta1, ra1, va1, sn1, sc1, tn1, tc1, rn1, rc1, vn1, vc1, sz1, st1, vs1, l1, rfl, hM, hV, hvn1, hb⟩
    have hm5_1 := hM.h5
    replace HB := Lib.hid (HB.out.keep hb)
    have HW := Lib.hid hb
    clear hb
    have M1 := Lib.hid (hM)
    have V1 := Lib.hid (hV.ints)
    clear hM hV
    obtain ⟨rs1, hrs1⟩ : ∃ x, x = rsM (l1.map (·.2)) := ⟨_, rfl⟩
    have HR1 := Lib.hid hrs1
    clear hrs1
    obtain ⟨W1, hW1⟩ : ∃ W, W = w1.alloc (.cells #[.slice sa1 sn1 sc1, .slice ta1 tn1 tc1, .slice ra1 rn1 rc1] 27) := ⟨_, rfl⟩
    have hb : Below w1.heap.size w1 W1 := by rw [hW1]; exact below_alloc1 (Below.refl _ _) _
    obtain ⟨bM1, hbM1⟩ : ∃ b, b = w1.heap.size := ⟨_, rfl⟩
    have X1 := Lib.hid (show Blk W1 bM1 #[.slice sa1 sn1 sc1, .slice ta1 tn1 tc1, .slice ra1 rn1 rc1] 27 by rw [hW1, hbM1]; exact Blk.made _ _ _)
    have hz_W1 := Below.size hb
    replace HB := Lib.hid (HB.out.keep hb)
    replace M1 := Lib.hid (M1.out.keep hb)
    replace V1 := Lib.hid (V1.out.keep hb)
    replace HW := Lib.hid (below_callS HW.out hb)
    clear hb
    obtain ⟨L1, hL1⟩ : ∃ x, x = bsL sz1 st1 rs1 vs1 := ⟨_, rfl⟩
    obtain ⟨c1, hC1⟩ : ∃ x, x = bsC sz1 st1 rs1 vs1 := ⟨_, rfl⟩
    have hq1 : (c1 != c1) = false := by simp
    have hL180 : L1.length ≤ 80 := by rw [hL1]; exact bsL_len _ _ _ _
    have HL1 := Lib.hid hL1
    have HC1 := Lib.hid hC1
    clear hL1 hC1
    have x1_0 := X1.out.cell 0
    have x1_1 := X1.out.cell 1
    have x1_2 := X1.out.cell 2
    have x1_l := X1.out.lt
    simp only [List.getElem?_toArray, List.getElem?_cons_succ, List.getElem?_cons_zero] at x1_0 x1_1 x1_2
    go_wp2_with fail
    rw [← hW1, ← hbM1]
    clear hW1 hbM1
    have hk := impl_BitsOfState_r M1.out.rd V1.out (by omega)
    rw [← HR1.out, ← HL1.out, ← HC1.out] at hk
    try dsimp only at hk
    refine Calls.mono (hk) ?_
    rintro e w2 ⟨n_A1, a_A1, c_A1, rfl, hb, hO⟩
    clear hk
    clear x1_0 x1_1 x1_2 x1_l
    have hz_w2 := Below.size hb
    replace HB := Lib.hid (HB.out.keep hb)
    replace M1 := Lib.hid (M1.out.keep hb)
    replace V1 := Lib.hid (V1.out.keep hb)
    replace X1 := Lib.hid (X1.out.keep hb)
    replace HW := Lib.hid (below_callS HW.out hb)
    clear hb
    have A1 := Lib.hid (hO.ints)
    have hn_A1 : n_A1 ≤ 1000 := by have h9 := hO.len; have h8 := hL180; omega
    clear hO
    have x1_0 := X1.out.cell 0
    have x1_1 := X1.out.cell 1
    have x1_2 := X1.out.cell 2
    have x1_l := X1.out.lt
    simp only [List.getElem?_toArray, List.getElem?_cons_succ, List.getElem?_cons_zero] at x1_0 x1_1 x1_2
    go_wp2_with fail
    have hk := spec_BitsOfState_r M1.out.rd V1.out (by omega)
    rw [← HR1.out, ← HL1.out, ← HC1.out] at hk
    try dsimp only at hk
    refine Calls.mono (hk) ?_
    rintro e w3 ⟨n_B1, a_B1, c_B1, rfl, hb, hO⟩
    clear hk
    clear x1_0 x1_1 x1_2 x1_l
    have hz_w3 := Below.size hb
    replace HB := Lib.hid (HB.out.keep hb)
    replace M1 := Lib.hid (M1.out.keep hb)
    replace V1 := Lib.hid (V1.out.keep hb)
    replace X1 := Lib.hid (X1.out.keep hb)
    replace A1 := Lib.hid (A1.out.keep hb)
    replace HW := Lib.hid (below_callS HW.out hb)
    clear hb
    have B1 := Lib.hid (hO.ints)
    have hn_B1 : n_B1 ≤ 1000 := by have h9 := hO.len; have h8 := hL180; omega
    clear hO
    go_wp2_with fail
    refine Calls.mono (spec_DrawStateOfBits HB.out hn) ?_
    rintro e w4 ⟨sa2, ta2, ra2, va2, sn2, sc2, tn2, tc2, rn2, rc2, vn2, vc2, sz2, st2, vs2, l2, rfl, hM, hV, hvn2, hb⟩
    have hm5_2 := hM.h5
    replace HB := Lib.hid (HB.out.keep hb)
    replace M1 := Lib.hid (M1.out.keep hb)
    replace V1 := Lib.hid (V1.out.keep hb)
    replace X1 := Lib.hid (X1.out.keep hb)
    replace A1 := Lib.hid (A1.out.keep hb)
    replace B1 := Lib.hid (B1.out.keep hb)
    replace HW := Lib.hid (below_callS HW.out hb)
    clear hb
    have M2 := Lib.hid (hM)
    have V2 := Lib.hid (hV.ints)
    clear hM hV
    obtain ⟨rs2, hrs2⟩ : ∃ x, x = rsM (l2.map (·.2)) := ⟨_, rfl⟩
    have HR2 := Lib.hid hrs2
    clear hrs2
    obtain ⟨W2, hW2⟩ : ∃ W, W = w4.alloc (.cells #[.slice sa2 sn2 sc2, .slice ta2 tn2 tc2, .slice ra2 rn2 rc2] 27) := ⟨_, rfl⟩
    have hb : Below w4.heap.size w4 W2 := by rw [hW2]; exact below_alloc1 (Below.refl _ _) _
    obtain ⟨bM2, hbM2⟩ : ∃ b, b = w4.heap.size := ⟨_, rfl⟩
    have X2 := Lib.hid (show Blk W2 bM2 #[.slice sa2 sn2 sc2, .slice ta2 tn2 tc2, .slice ra2 rn2 rc2] 27 by rw [hW2, hbM2]; exact Blk.made _ _ _)
    have hz_W2 := Below.size hb
    replace HB := Lib.hid (HB.out.keep hb)
    replace M1 := Lib.hid (M1.out.keep hb)
    replace V1 := Lib.hid (V1.out.keep hb)
    replace X1 := Lib.hid (X1.out.keep hb)
    replace A1 := Lib.hid (A1.out.keep hb)
    replace B1 := Lib.hid (B1.out.keep hb)
    replace M2 := Lib.hid (M2.out.keep hb)
    replace V2 := Lib.hid (V2.out.keep hb)
    replace HW := Lib.hid (below_callS HW.out hb)
    clear hb
    obtain ⟨L2, hL2⟩ : ∃ x, x = soL sz2 st2 rs2 vs2 := ⟨_, rfl⟩
    obtain ⟨c2, hC2⟩ : ∃ x, x = soC sz2 st2 rs2 vs2 := ⟨_, rfl⟩
    have hq2 : (c2 != c2) = false := by simp
    have hL25 : L2.length ≤ 5 := by rw [hL2]; have h9 := soL_len sz2 st2 rs2 vs2; have h8 := M2.out.s.len; omega
    have HL2 := Lib.hid hL2
    have HC2 := Lib.hid hC2
    clear hL2 hC2
    have x2_0 := X2.out.cell 0
    have x2_1 := X2.out.cell 1
    have x2_2 := X2.out.cell 2
    have x2_l := X2.out.lt
    simp only [List.getElem?_toArray, List.getElem?_cons_succ, List.getElem?_cons_zero] at x2_0 x2_1 x2_2
    go_wp2_with fail
    rw [← hW2, ← hbM2]
    clear hW2 hbM2
    have hk := impl_StateOfBits_r M2.out.rd V2.out (by omega)
    rw [← HR2.out, ← HL2.out, ← HC2.out] at hk
    try dsimp only at hk
    refine Calls.mono (hk) ?_
    rintro e w5 ⟨n_A2, a_A2, c_A2, rfl, hb, hO⟩
    clear hk
    clear x2_0 x2_1 x2_2 x2_l
    have hz_w5 := Below.size hb
    replace HB := Lib.hid (HB.out.keep hb)
    replace M1 := Lib.hid (M1.out.keep hb)
    replace V1 := Lib.hid (V1.out.keep hb)
    replace X1 := Lib.hid (X1.out.keep hb)
    replace A1 := Lib.hid (A1.out.keep hb)
    replace B1 := Lib.hid (B1.out.keep hb)
    replace M2 := Lib.hid (M2.out.keep hb)
    replace V2 := Lib.hid (V2.out.keep hb)
    replace X2 := Lib.hid (X2.out.keep hb)
    replace HW := Lib.hid (below_callS HW.out hb)
    clear hb
    have A2 := Lib.hid (hO.ints)
    have hn_A2 : n_A2 ≤ 1000 := by have h9 := hO.len; have h8 := hL25; omega
    clear hO
    have x2_0 := X2.out.cell 0
    have x2_1 := X2.out.cell 1
    have x2_2 := X2.out.cell 2
    have x2_l := X2.out.lt
    simp only [List.getElem?_toArray, List.getElem?_cons_succ, List.getElem?_cons_zero] at x2_0 x2_1 x2_2
    go_wp2_with fail
    have hk := spec_StateOfBits_r M2.out.rd V2.out (by omega)
    rw [← HR2.out, ← HL2.out, ← HC2.out] at hk
    try dsimp only at hk
    refine Calls.mono (hk) ?_
    rintro e w6 ⟨n_B2, a_B2, c_B2, rfl, hb, hO⟩
    clear hk
    clear x2_0 x2_1 x2_2 x2_l
    have hz_w6 := Below.size hb
    replace HB := Lib.hid (HB.out.keep hb)
    replace M1 := Lib.hid (M1.out.keep hb)
    replace V1 := Lib.hid (V1.out.keep hb)
    replace X1 := Lib.hid (X1.out.keep hb)
    replace A1 := Lib.hid (A1.out.keep hb)
    replace B1 := Lib.hid (B1.out.keep hb)
    replace M2 := Lib.hid (M2.out.keep hb)
    replace V2 := Lib.hid (V2.out.keep hb)
    replace X2 := Lib.hid (X2.out.keep hb)
    replace A2 := Lib.hid (A2.out.keep hb)
    replace HW := Lib.hid (below_callS HW.out hb)
    clear hb
    have B2 := Lib.hid (hO.ints)
    have hn_B2 : n_B2 ≤ 1000 := by have h9 := hO.len; have h8 := hL25; omega
    clear hO
    go_wp2_with fail
    refine Calls.mono (spec_DrawBitsOfModel HB.out hn) ?_
    rintro e w7 ⟨sa3, ta3, ra3, sn3, sc3, tn3, tc3, rn3, rc3, sz3, st3, l3, rfl, hM, hb⟩
    have hm5_3 := hM.h5
    replace HB := Lib.hid (HB.out.keep hb)
    replace M1 := Lib.hid (M1.out.keep hb)
    replace V1 := Lib.hid (V1.out.keep hb)
    replace X1 := Lib.hid (X1.out.keep hb)
    replace A1 := Lib.hid (A1.out.keep hb)
    replace B1 := Lib.hid (B1.out.keep hb)
    replace M2 := Lib.hid (M2.out.keep hb)
    replace V2 := Lib.hid (V2.out.keep hb)
    replace X2 := Lib.hid (X2.out.keep hb)
    replace A2 := Lib.hid (A2.out.keep hb)
    replace B2 := Lib.hid (B2.out.keep hb)
    replace HW := Lib.hid (below_callS HW.out hb)
    clear hb
    have M3 := Lib.hid (hM)
    clear hM
    obtain ⟨rs3, hrs3⟩ : ∃ x, x = rsM (l3.map (·.2)) := ⟨_, rfl⟩
    have HR3 := Lib.hid hrs3
    clear hrs3
    obtain ⟨W3, hW3⟩ : ∃ W, W = w7.alloc (.cells #[.slice sa3 sn3 sc3, .slice ta3 tn3 tc3, .slice ra3 rn3 rc3] 27) := ⟨_, rfl⟩
    have hb : Below w7.heap.size w7 W3 := by rw [hW3]; exact below_alloc1 (Below.refl _ _) _
    obtain ⟨bM3, hbM3⟩ : ∃ b, b = w7.heap.size := ⟨_, rfl⟩
    have X3 := Lib.hid (show Blk W3 bM3 #[.slice sa3 sn3 sc3, .slice ta3 tn3 tc3, .slice ra3 rn3 rc3] 27 by rw [hW3, hbM3]; exact Blk.made _ _ _)
    have hz_W3 := Below.size hb
    replace HB := Lib.hid (HB.out.keep hb)
    replace M1 := Lib.hid (M1.out.keep hb)
    replace V1 := Lib.hid (V1.out.keep hb)
    replace X1 := Lib.hid (X1.out.keep hb)
    replace A1 := Lib.hid (A1.out.keep hb)
    replace B1 := Lib.hid (B1.out.keep hb)
    replace M2 := Lib.hid (M2.out.keep hb)
    replace V2 := Lib.hid (V2.out.keep hb)
    replace X2 := Lib.hid (X2.out.keep hb)
    replace A2 := Lib.hid (A2.out.keep hb)
    replace B2 := Lib.hid (B2.out.keep hb)
    replace M3 := Lib.hid (M3.out.keep hb)
    replace HW := Lib.hid (below_callS HW.out hb)
    clear hb
    obtain ⟨L3, hL3⟩ : ∃ x, x = bmL sz3 st3 rs3 := ⟨_, rfl⟩
    obtain ⟨c3, hC3⟩ : ∃ x, x = bmC sz3 st3 rs3 := ⟨_, rfl⟩
    have hq3 : (c3 != c3) = false := by simp
    have hL35 : L3.length ≤ 5 := by rw [hL3]; have h9 := bmL_len sz3 st3 rs3; have h8 := M3.out.s.len; omega
    have HL3 := Lib.hid hL3
    have HC3 := Lib.hid hC3
    clear hL3 hC3
    have x3_0 := X3.out.cell 0
    have x3_1 := X3.out.cell 1
    have x3_2 := X3.out.cell 2
    have x3_l := X3.out.lt
    simp only [List.getElem?_toArray, List.getElem?_cons_succ, List.getElem?_cons_zero] at x3_0 x3_1 x3_2
    go_wp2_with fail
    rw [← hW3, ← hbM3]
    clear hW3 hbM3
    have hk := impl_BitsOfModel_r M3.out.rd
    rw [← HR3.out, ← HL3.out, ← HC3.out] at hk
    try dsimp only at hk
    refine Calls.mono (hk) ?_
    rintro e w8 ⟨n_A3, a_A3, c_A3, rfl, hb, hO⟩
    clear hk
    clear x3_0 x3_1 x3_2 x3_l
    have hz_w8 := Below.size hb
    replace HB := Lib.hid (HB.out.keep hb)
    replace M1 := Lib.hid (M1.out.keep hb)
    replace V1 := Lib.hid (V1.out.keep hb)
    replace X1 := Lib.hid (X1.out.keep hb)
    replace A1 := Lib.hid (A1.out.keep hb)
    replace B1 := Lib.hid (B1.out.keep hb)
    replace M2 := Lib.hid (M2.out.keep hb)
    replace V2 := Lib.hid (V2.out.keep hb)
    replace X2 := Lib.hid (X2.out.keep hb)
    replace A2 := Lib.hid (A2.out.keep hb)
    replace B2 := Lib.hid (B2.out.keep hb)
    replace M3 := Lib.hid (M3.out.keep hb)
    replace X3 := Lib.hid (X3.out.keep hb)
    replace HW := Lib.hid (below_callS HW.out hb)
    clear hb
    have A3 := Lib.hid (hO.ints)
    have hn_A3 : n_A3 ≤ 1000 := by have h9 := hO.len; have h8 := hL35; omega
    clear hO
    have x3_0 := X3.out.cell 0
    have x3_1 := X3.out.cell 1
    have x3_2 := X3.out.cell 2
    have x3_l := X3.out.lt
    simp only [List.getElem?_toArray, List.getElem?_cons_succ, List.getElem?_cons_zero] at x3_0 x3_1 x3_2
    go_wp2_with fail
    have hk := spec_BitsOfModel_r M3.out.rd
    rw [← HR3.out, ← HL3.out, ← HC3.out] at hk
    try dsimp only at hk
    refine Calls.mono (hk) ?_
    rintro e w9 ⟨n_B3, a_B3, c_B3, rfl, hb, hO⟩
    clear hk
    clear x3_0 x3_1 x3_2 x3_l
    have hz_w9 := Below.size hb
    replace HB := Lib.hid (HB.out.keep hb)
    replace M1 := Lib.hid (M1.out.keep hb)
    replace V1 := Lib.hid (V1.out.keep hb)
    replace X1 := Lib.hid (X1.out.keep hb)
    replace A1 := Lib.hid (A1.out.keep hb)
    replace B1 := Lib.hid (B1.out.keep hb)
    replace M2 := Lib.hid (M2.out.keep hb)
    replace V2 := Lib.hid (V2.out.keep hb)
    replace X2 := Lib.hid (X2.out.keep hb)
    replace A2 := Lib.hid (A2.out.keep hb)
    replace B2 := Lib.hid (B2.out.keep hb)
    replace M3 := Lib.hid (M3.out.keep hb)
    replace X3 := Lib.hid (X3.out.keep hb)
    replace A3 := Lib.hid (A3.out.keep hb)
    replace HW := Lib.hid (below_callS HW.out hb)
    clear hb
    have B3 := Lib.hid (hO.ints)
    have hn_B3 : n_B3 ≤ 1000 := by have h9 := hO.len; have h8 := hL35; omega
    clear hO
    go_wp2_with fail
    refine Calls.mono (laws_likeInts A1.out B1.out (by omega) (by omega)) ?_
    rintro e w10 ⟨rfl, hb⟩
    have hz_w10 := Below.size hb
    replace HB := Lib.hid (HB.out.keep hb)
    replace M1 := Lib.hid (M1.out.keep hb)
    replace V1 := Lib.hid (V1.out.keep hb)
    replace X1 := Lib.hid (X1.out.keep hb)
    replace A1 := Lib.hid (A1.out.keep hb)
    replace B1 := Lib.hid (B1.out.keep hb)
    replace M2 := Lib.hid (M2.out.keep hb)
    replace V2 := Lib.hid (V2.out.keep hb)
    replace X2 := Lib.hid (X2.out.keep hb)
    replace A2 := Lib.hid (A2.out.keep hb)
    replace B2 := Lib.hid (B2.out.keep hb)
    replace M3 := Lib.hid (M3.out.keep hb)
    replace X3 := Lib.hid (X3.out.keep hb)
    replace A3 := Lib.hid (A3.out.keep hb)
    replace B3 := Lib.hid (B3.out.keep hb)
    replace HW := Lib.hid (below_callS HW.out hb)
    clear hb
    rw [decide_eq_true (show L1 = L1 from rfl)]
    go_wp2_with fail
    refine Calls.mono (laws_likeInts A2.out B2.out (by omega) (by omega)) ?_
    rintro e w11 ⟨rfl, hb⟩
    have hz_w11 := Below.size hb
    replace HB := Lib.hid (HB.out.keep hb)
    replace M1 := Lib.hid (M1.out.keep hb)
    replace V1 := Lib.hid (V1.out.keep hb)
    replace X1 := Lib.hid (X1.out.keep hb)
    replace A1 := Lib.hid (A1.out.keep hb)
    replace B1 := Lib.hid (B1.out.keep hb)
    replace M2 := Lib.hid (M2.out.keep hb)
    replace V2 := Lib.hid (V2.out.keep hb)
    replace X2 := Lib.hid (X2.out.keep hb)
    replace A2 := Lib.hid (A2.out.keep hb)
    replace B2 := Lib.hid (B2.out.keep hb)
    replace M3 := Lib.hid (M3.out.keep hb)
    replace X3 := Lib.hid (X3.out.keep hb)
    replace A3 := Lib.hid (A3.out.keep hb)
    replace B3 := Lib.hid (B3.out.keep hb)
    replace HW := Lib.hid (below_callS HW.out hb)
    clear hb
    rw [decide_eq_true (show L2 = L2 from rfl)]
    go_wp2_with fail
    refine Calls.mono (laws_likeInts A3.out B3.out (by omega) (by omega)) ?_
    rintro e w12 ⟨rfl, hb⟩
    have hz_w12 := Below.size hb
    replace HB := Lib.hid (HB.out.keep hb)
    replace M1 := Lib.hid (M1.out.keep hb)
    replace V1 := Lib.hid (V1.out.keep hb)
    replace X1 := Lib.hid (X1.out.keep hb)
    replace A1 := Lib.hid (A1.out.keep hb)
    replace B1 := Lib.hid (B1.out.keep hb)
    replace M2 := Lib.hid (M2.out.keep hb)
    replace V2 := Lib.hid (V2.out.keep hb)
    replace X2 := Lib.hid (X2.out.keep hb)
    replace A2 := Lib.hid (A2.out.keep hb)
    replace B2 := Lib.hid (B2.out.keep hb)
    replace M3 := Lib.hid (M3.out.keep hb)
    replace X3 := Lib.hid (X3.out.keep hb)
    replace A3 := Lib.hid (A3.out.keep hb)
    replace B3 := Lib.hid (B3.out.keep hb)
    replace HW := Lib.hid (below_callS HW.out hb)
    clear hb
    rw [decide_eq_true (show L3 = L3 from rfl)]
    by_cases hc2 : c2 = 0
    · skip
      subst hc2
      obtain ⟨j1, j2⟩ := so_bs HC2.out.symm
      rw [← HL2.out] at j1 j2
      have x2_0 := X2.out.cell 0
      have x2_1 := X2.out.cell 1
      have x2_2 := X2.out.cell 2
      have x2_l := X2.out.lt
      simp only [List.getElem?_toArray, List.getElem?_cons_succ, List.getElem?_cons_zero] at x2_0 x2_1 x2_2
      go_wp2_with fail
      have hk := impl_BitsOfState_r M2.out.rd A2.out (by omega)
      rw [← HR2.out, j1, j2] at hk
      try dsimp only at hk
      refine Calls.mono (hk) ?_
      rintro e w13 ⟨n_D, a_D, c_D, rfl, hb, hO⟩
      clear hk
      clear x2_0 x2_1 x2_2 x2_l
      have hz_w13 := Below.size hb
      replace HB := Lib.hid (HB.out.keep hb)
      replace M1 := Lib.hid (M1.out.keep hb)
      replace V1 := Lib.hid (V1.out.keep hb)
      replace X1 := Lib.hid (X1.out.keep hb)
      replace A1 := Lib.hid (A1.out.keep hb)
      replace B1 := Lib.hid (B1.out.keep hb)
      replace M2 := Lib.hid (M2.out.keep hb)
      replace V2 := Lib.hid (V2.out.keep hb)
      replace X2 := Lib.hid (X2.out.keep hb)
      replace A2 := Lib.hid (A2.out.keep hb)
      replace B2 := Lib.hid (B2.out.keep hb)
      replace M3 := Lib.hid (M3.out.keep hb)
      replace X3 := Lib.hid (X3.out.keep hb)
      replace A3 := Lib.hid (A3.out.keep hb)
      replace B3 := Lib.hid (B3.out.keep hb)
      replace HW := Lib.hid (below_callS HW.out hb)
      clear hb
      have D := Lib.hid (hO.ints)
      have hn_D : n_D ≤ 1000 := by have h9 := hO.len; have h8 := V2.out.len; omega
      clear hO
      go_wp2_with fail
      refine Calls.mono (laws_likeInts D.out V2.out (by omega) (by omega)) ?_
      rintro e w14 ⟨rfl, hb⟩
      have hz_w14 := Below.size hb
      replace HB := Lib.hid (HB.out.keep hb)
      replace M1 := Lib.hid (M1.out.keep hb)
      replace V1 := Lib.hid (V1.out.keep hb)
      replace X1 := Lib.hid (X1.out.keep hb)
      replace A1 := Lib.hid (A1.out.keep hb)
      replace B1 := Lib.hid (B1.out.keep hb)
      replace M2 := Lib.hid (M2.out.keep hb)
      replace V2 := Lib.hid (V2.out.keep hb)
      replace X2 := Lib.hid (X2.out.keep hb)
      replace A2 := Lib.hid (A2.out.keep hb)
      replace B2 := Lib.hid (B2.out.keep hb)
      replace M3 := Lib.hid (M3.out.keep hb)
      replace X3 := Lib.hid (X3.out.keep hb)
      replace A3 := Lib.hid (A3.out.keep hb)
      replace B3 := Lib.hid (B3.out.keep hb)
      replace D := Lib.hid (D.out.keep hb)
      replace HW := Lib.hid (below_callS HW.out hb)
      clear hb
      rw [decide_eq_true (show vs2 = vs2 from rfl)]
      by_cases hc1 : c1 = 0
      · skip
        subst hc1
        obtain ⟨k1, k2, k3, k4⟩ := bs_so HC1.out.symm
        rw [← HL1.out] at k1 k2 k4
        have K4 := Lib.hid k4
        clear k4
        have x1_0 := X1.out.cell 0
        have x1_1 := X1.out.cell 1
        have x1_2 := X1.out.cell 2
        have x1_l := X1.out.lt
        simp only [List.getElem?_toArray, List.getElem?_cons_succ, List.getElem?_cons_zero] at x1_0 x1_1 x1_2
        go_wp2_with fail
        have hk := impl_StateOfBits_r M1.out.rd A1.out (by omega)
        rw [← HR1.out, k1, k2] at hk
        try dsimp only at hk
        refine Calls.mono (hk) ?_
        rintro e w20 ⟨n_E, a_E, c_E, rfl, hb, hO⟩
        clear hk
        clear x1_0 x1_1 x1_2 x1_l
        have hz_w20 := Below.size hb
        replace HB := Lib.hid (HB.out.keep hb)
        replace M1 := Lib.hid (M1.out.keep hb)
        replace V1 := Lib.hid (V1.out.keep hb)
        replace X1 := Lib.hid (X1.out.keep hb)
        replace A1 := Lib.hid (A1.out.keep hb)
        replace B1 := Lib.hid (B1.out.keep hb)
        replace M2 := Lib.hid (M2.out.keep hb)
        replace V2 := Lib.hid (V2.out.keep hb)
        replace X2 := Lib.hid (X2.out.keep hb)
        replace A2 := Lib.hid (A2.out.keep hb)
        replace B2 := Lib.hid (B2.out.keep hb)
        replace M3 := Lib.hid (M3.out.keep hb)
        replace X3 := Lib.hid (X3.out.keep hb)
        replace A3 := Lib.hid (A3.out.keep hb)
        replace B3 := Lib.hid (B3.out.keep hb)
        replace D := Lib.hid (D.out.keep hb)
        replace HW := Lib.hid (below_callS HW.out hb)
        clear hb
        have E := Lib.hid (hO.ints)
        have hn_E : n_E ≤ 1000 := by have h9 := hO.len; have h8 := V1.out.len; omega
        clear hO
        have x1_0 := X1.out.cell 0
        have x1_1 := X1.out.cell 1
        have x1_2 := X1.out.cell 2
        have x1_l := X1.out.lt
        simp only [List.getElem?_toArray, List.getElem?_cons_succ, List.getElem?_cons_zero] at x1_0 x1_1 x1_2
        go_wp2_with fail
        have hk := impl_BitsOfModel_r M1.out.rd
        rw [← HR1.out, k3] at hk
        try dsimp only at hk
        refine Calls.mono (hk) ?_
        rintro e w21 ⟨n_F, a_F, c_F, rfl, hb, hO⟩
        clear hk
        clear x1_0 x1_1 x1_2 x1_l
        have hz_w21 := Below.size hb
        replace HB := Lib.hid (HB.out.keep hb)
        replace M1 := Lib.hid (M1.out.keep hb)
        replace V1 := Lib.hid (V1.out.keep hb)
        replace X1 := Lib.hid (X1.out.keep hb)
        replace A1 := Lib.hid (A1.out.keep hb)
        replace B1 := Lib.hid (B1.out.keep hb)
        replace M2 := Lib.hid (M2.out.keep hb)
        replace V2 := Lib.hid (V2.out.keep hb)
        replace X2 := Lib.hid (X2.out.keep hb)
        replace A2 := Lib.hid (A2.out.keep hb)
        replace B2 := Lib.hid (B2.out.keep hb)
        replace M3 := Lib.hid (M3.out.keep hb)
        replace X3 := Lib.hid (X3.out.keep hb)
        replace A3 := Lib.hid (A3.out.keep hb)
        replace B3 := Lib.hid (B3.out.keep hb)
        replace D := Lib.hid (D.out.keep hb)
        replace E := Lib.hid (E.out.keep hb)
        replace HW := Lib.hid (below_callS HW.out hb)
        clear hb
        have F := Lib.hid (hO.ints)
        have hn_F : n_F ≤ 1000 := by have h9 := hO.len; have h8 := bmL_len sz1 st1 rs1; have h7 := M1.out.s.len; omega
        clear hO
        go_wp2_with fail
        refine Calls.mono (laws_likeInts E.out V1.out (by omega) (by omega)) ?_
        rintro e w22 ⟨rfl, hb⟩
        have hz_w22 := Below.size hb
        replace HB := Lib.hid (HB.out.keep hb)
        replace M1 := Lib.hid (M1.out.keep hb)
        replace V1 := Lib.hid (V1.out.keep hb)
        replace X1 := Lib.hid (X1.out.keep hb)
        replace A1 := Lib.hid (A1.out.keep hb)
        replace B1 := Lib.hid (B1.out.keep hb)
        replace M2 := Lib.hid (M2.out.keep hb)
        replace V2 := Lib.hid (V2.out.keep hb)
        replace X2 := Lib.hid (X2.out.keep hb)
        replace A2 := Lib.hid (A2.out.keep hb)
        replace B2 := Lib.hid (B2.out.keep hb)
        replace M3 := Lib.hid (M3.out.keep hb)
        replace X3 := Lib.hid (X3.out.keep hb)
        replace A3 := Lib.hid (A3.out.keep hb)
        replace B3 := Lib.hid (B3.out.keep hb)
        replace D := Lib.hid (D.out.keep hb)
        replace E := Lib.hid (E.out.keep hb)
        replace F := Lib.hid (F.out.keep hb)
        replace HW := Lib.hid (below_callS HW.out hb)
        clear hb
        rw [decide_eq_true (show vs1 = vs1 from rfl)]
        go_wp2_with fail
        refine Calls.mono (laws_sum F.out hn_F (bmL_in _ _ _)) ?_
        rintro e w23 ⟨rfl, hb⟩
        have hz_w23 := Below.size hb
        replace HB := Lib.hid (HB.out.keep hb)
        replace M1 := Lib.hid (M1.out.keep hb)
        replace V1 := Lib.hid (V1.out.keep hb)
        replace X1 := Lib.hid (X1.out.keep hb)
        replace A1 := Lib.hid (A1.out.keep hb)
        replace B1 := Lib.hid (B1.out.keep hb)
        replace M2 := Lib.hid (M2.out.keep hb)
        replace V2 := Lib.hid (V2.out.keep hb)
        replace X2 := Lib.hid (X2.out.keep hb)
        replace A2 := Lib.hid (A2.out.keep hb)
        replace B2 := Lib.hid (B2.out.keep hb)
        replace M3 := Lib.hid (M3.out.keep hb)
        replace X3 := Lib.hid (X3.out.keep hb)
        replace A3 := Lib.hid (A3.out.keep hb)
        replace B3 := Lib.hid (B3.out.keep hb)
        replace D := Lib.hid (D.out.keep hb)
        replace E := Lib.hid (E.out.keep hb)
        replace F := Lib.hid (F.out.keep hb)
        replace HW := Lib.hid (below_callS HW.out hb)
        clear hb
        have hlen : (L1.length : Int) = (n_A1 : Int) := by have h9 := A1.out.len; omega
        rw [K4.out, hlen]
        have hee : ((n_A1 : Int) == (n_A1 : Int)) = true := by simp
        go_wp2
        go_ret
        exact ⟨rfl, HW.out⟩
      · skip
        have hv1 : (c1 == 0) = false := by simpa using hc1
        have hv2 : (c1 != 0) = true := by simpa using hc1
        go_wp2
        go_ret
        exact ⟨rfl, HW.out⟩
    · skip
      have hv3 : (c2 == 0) = false := by simpa using hc2
      by_cases hc1 : c1 = 0
      · skip
        subst hc1
        obtain ⟨k1, k2, k3, k4⟩ := bs_so HC1.out.symm
        rw [← HL1.out] at k1 k2 k4
        have K4 := Lib.hid k4
        clear k4
        have x1_0 := X1.out.cell 0
        have x1_1 := X1.out.cell 1
        have x1_2 := X1.out.cell 2
        have x1_l := X1.out.lt
        simp only [List.getElem?_toArray, List.getElem?_cons_succ, List.getElem?_cons_zero] at x1_0 x1_1 x1_2
        go_wp2_with fail
        have hk := impl_StateOfBits_r M1.out.rd A1.out (by omega)
        rw [← HR1.out, k1, k2] at hk
        try dsimp only at hk
        refine Calls.mono (hk) ?_
        rintro e w20 ⟨n_E, a_E, c_E, rfl, hb, hO⟩
        clear hk
        clear x1_0 x1_1 x1_2 x1_l
        have hz_w20 := Below.size hb
        replace HB := Lib.hid (HB.out.keep hb)
        replace M1 := Lib.hid (M1.out.keep hb)
        replace V1 := Lib.hid (V1.out.keep hb)
        replace X1 := Lib.hid (X1.out.keep hb)
        replace A1 := Lib.hid (A1.out.keep hb)
        replace B1 := Lib.hid (B1.out.keep hb)
        replace M2 := Lib.hid (M2.out.keep hb)
        replace V2 := Lib.hid (V2.out.keep hb)
        replace X2 := Lib.hid (X2.out.keep hb)
        replace A2 := Lib.hid (A2.out.keep hb)
        replace B2 := Lib.hid (B2.out.keep hb)
        replace M3 := Lib.hid (M3.out.keep hb)
        replace X3 := Lib.hid (X3.out.keep hb)
        replace A3 := Lib.hid (A3.out.keep hb)
        replace B3 := Lib.hid (B3.out.keep hb)
        replace HW := Lib.hid (below_callS HW.out hb)
        clear hb
        have E := Lib.hid (hO.ints)
        have hn_E : n_E ≤ 1000 := by have h9 := hO.len; have h8 := V1.out.len; omega
        clear hO
        have x1_0 := X1.out.cell 0
        have x1_1 := X1.out.cell 1
        have x1_2 := X1.out.cell 2
        have x1_l := X1.out.lt
        simp only [List.getElem?_toArray, List.getElem?_cons_succ, List.getElem?_cons_zero] at x1_0 x1_1 x1_2
        go_wp2_with fail
        have hk := impl_BitsOfModel_r M1.out.rd
        rw [← HR1.out, k3] at hk
        try dsimp only at hk
        refine Calls.mono (hk) ?_
        rintro e w21 ⟨n_F, a_F, c_F, rfl, hb, hO⟩
        clear hk
        clear x1_0 x1_1 x1_2 x1_l
        have hz_w21 := Below.size hb
        replace HB := Lib.hid (HB.out.keep hb)
        replace M1 := Lib.hid (M1.out.keep hb)
        replace V1 := Lib.hid (V1.out.keep hb)
        replace X1 := Lib.hid (X1.out.keep hb)
        replace A1 := Lib.hid (A1.out.keep hb)
        replace B1 := Lib.hid (B1.out.keep hb)
        replace M2 := Lib.hid (M2.out.keep hb)
        replace V2 := Lib.hid (V2.out.keep hb)
        replace X2 := Lib.hid (X2.out.keep hb)
        replace A2 := Lib.hid (A2.out.keep hb)
        replace B2 := Lib.hid (B2.out.keep hb)
        replace M3 := Lib.hid (M3.out.keep hb)
        replace X3 := Lib.hid (X3.out.keep hb)
        replace A3 := Lib.hid (A3.out.keep hb)
        replace B3 := Lib.hid (B3.out.keep hb)
        replace E := Lib.hid (E.out.keep hb)
        replace HW := Lib.hid (below_callS HW.out hb)
        clear hb
        have F := Lib.hid (hO.ints)
        have hn_F : n_F ≤ 1000 := by have h9 := hO.len; have h8 := bmL_len sz1 st1 rs1; have h7 := M1.out.s.len; omega
        clear hO
        go_wp2_with fail
        refine Calls.mono (laws_likeInts E.out V1.out (by omega) (by omega)) ?_
        rintro e w22 ⟨rfl, hb⟩
        have hz_w22 := Below.size hb
        replace HB := Lib.hid (HB.out.keep hb)
        replace M1 := Lib.hid (M1.out.keep hb)
        replace V1 := Lib.hid (V1.out.keep hb)
        replace X1 := Lib.hid (X1.out.keep hb)
        replace A1 := Lib.hid (A1.out.keep hb)
        replace B1 := Lib.hid (B1.out.keep hb)
        replace M2 := Lib.hid (M2.out.keep hb)
        replace V2 := Lib.hid (V2.out.keep hb)
        replace X2 := Lib.hid (X2.out.keep hb)
        replace A2 := Lib.hid (A2.out.keep hb)
        replace B2 := Lib.hid (B2.out.keep hb)
        replace M3 := Lib.hid (M3.out.keep hb)
        replace X3 := Lib.hid (X3.out.keep hb)
        replace A3 := Lib.hid (A3.out.keep hb)
        replace B3 := Lib.hid (B3.out.keep hb)
        replace E := Lib.hid (E.out.keep hb)
        replace F := Lib.hid (F.out.keep hb)
        replace HW := Lib.hid (below_callS HW.out hb)
        clear hb
        rw [decide_eq_true (show vs1 = vs1 from rfl)]
        go_wp2_with fail
        refine Calls.mono (laws_sum F.out hn_F (bmL_in _ _ _)) ?_
        rintro e w23 ⟨rfl, hb⟩
        have hz_w23 := Below.size hb
        replace HB := Lib.hid (HB.out.keep hb)
        replace M1 := Lib.hid (M1.out.keep hb)
        replace V1 := Lib.hid (V1.out.keep hb)
        replace X1 := Lib.hid (X1.out.keep hb)
        replace A1 := Lib.hid (A1.out.keep hb)
        replace B1 := Lib.hid (B1.out.keep hb)
        replace M2 := Lib.hid (M2.out.keep hb)
        replace V2 := Lib.hid (V2.out.keep hb)
        replace X2 := Lib.hid (X2.out.keep hb)
        replace A2 := Lib.hid (A2.out.keep hb)
        replace B2 := Lib.hid (B2.out.keep hb)
        replace M3 := Lib.hid (M3.out.keep hb)
        replace X3 := Lib.hid (X3.out.keep hb)
        replace A3 := Lib.hid (A3.out.keep hb)
        replace B3 := Lib.hid (B3.out.keep hb)
        replace E := Lib.hid (E.out.keep hb)
        replace F := Lib.hid (F.out.keep hb)
        replace HW := Lib.hid (below_callS HW.out hb)
        clear hb
        have hlen : (L1.length : Int) = (n_A1 : Int) := by have h9 := A1.out.len; omega
        rw [K4.out, hlen]
        have hee : ((n_A1 : Int) == (n_A1 : Int)) = true := by simp
        go_wp2
        go_ret
        exact ⟨rfl, HW.out⟩
      · skip
        have hv1 : (c1 == 0) = false := by simpa using hc1
        have hv2 : (c1 != 0) = true := by simpa using hc1
        go_wp2
        go_ret
        exact ⟨rfl, HW.out⟩
  · go_enter Try.func3, Try.ntmps3
    go_wp2_with fail
    refine Calls.mono (laws_big_yes hn) ?_
    rintro e _ ⟨rfl, rfl⟩
    go_wp2
    go_ret
    exact ⟨rfl, bel⟩
end Go.Proofs.Ytcnjnkjnpfpaeaa
