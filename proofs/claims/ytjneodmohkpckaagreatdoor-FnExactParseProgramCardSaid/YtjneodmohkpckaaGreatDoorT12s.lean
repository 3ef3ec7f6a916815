/- Decimal texts of the reference, walked. -/
import Derived.Test.YtjneodmohkpckaaGreatDoorTx
import Derived.Test.YtjneodmohkpckaaGreatDoorL01
import Derived.Laws.BytesArg
import Derived.Deep.DrawnRows
import Derived.Laws.Strings
namespace Go.Proofs.YtjneodmohkpckaaGreatDoor
open Go.RowKit
set_option linter.unusedVariables false
set_option linter.unusedSimpArgs false
def decS (n : Nat) : ByteArray := ⟨(Lib.decDigits n).toArray⟩
theorem digS_1 {n : Nat} (h : n < 10) : strOfNums [48 + (n : Int)] = decS n := by
  rw [decS, Lib.decDigits_one h]
  have e : (48 + (n : Int)).toNat = 48 + n := by omega
  rw [strOfNums, List.map_cons, List.map_nil, e]
theorem decS_step {n : Nat} (h : ¬ n < 10) : decS (n / 10) ++ strOfNums [48 + ((n % 10 : Nat) : Int)] = decS n := by
  have e : (48 + ((n % 10 : Nat) : Int)).toNat = 48 + n % 10 := by omega
  rw [decS, decS, Lib.decDigits.eq_def n, dif_neg h, strOfNums, List.map_cons, List.map_nil, e]
  apply ByteArray.ext
  simp
theorem decS_size {n : Nat} (h : n ≤ 999999999999) : (decS n).size ≤ 12 := by
  have h1 : (decS n).size = Lib.nDigits n := by rw [← Lib.decDigits_length]; simp [decS, ByteArray.size]
  rw [h1]
  exact nDig_le (by omega) (by decide)
set_option maxHeartbeats 2000000 in
theorem spec_l01Dec {n : Nat} {w : World} (hn : n ≤ 999999999999) : Calls Tryz.prog 89 #[.int .i64 (n : Int)] w fun e w' => e = .returned (.string (decS n)) ∧ Below w.heap.size w w' := by
  induction n using Nat.strongRecOn generalizing w with
  | _ n ih =>
    by_cases h : n < 10
    · have hcv := run_convert_bytes_arg (P := Tryz.prog) (w.alloc (.cells #[.int .u8 (48 + (n : Int))] 5)) 22 5 Tryz.underlying22 Tryz.underlying5 w.heap.size 0 1 1 [48 + (n : Int)] rfl (by intro i hi; (obtain rfl : i = 0 := (by omega)); exact (Blk.made w #[.int .u8 (48 + (n : Int))] 5).cell 0) 9 Tryz.underlying9
      rw [digS_1 h] at hcv
      have hw : IntKind.u8.wrap (48 + (n : Int)) = 48 + (n : Int) := by
        have : n = 0 ∨ n = 1 ∨ n = 2 ∨ n = 3 ∨ n = 4 ∨ n = 5 ∨ n = 6 ∨ n = 7 ∨ n = 8 ∨ n = 9 := by omega
        rcases this with rfl | rfl | rfl | rfl | rfl | rfl | rfl | rfl | rfl | rfl <;> rfl
      have hn' : (n : Int) < 10 := by omega
      clear ih
      go_enter Tryz.func89, Tryz.ntmps89
      go_wp2
      go_ret
      exact ⟨rfl, bel⟩
    · have hd9 : n % 10 = 0 ∨ n % 10 = 1 ∨ n % 10 = 2 ∨ n % 10 = 3 ∨ n % 10 = 4 ∨ n % 10 = 5 ∨ n % 10 = 6 ∨ n % 10 = 7 ∨ n % 10 = 8 ∨ n % 10 = 9 := by omega
      have hst := decS_step h
      have hih := fun (wx : World) => ih (n / 10) (by omega) (w := wx) (by omega)
      have hsz := decS_size (n := n / 10) (by omega)
      have hn' : ¬ (n : Int) < 10 := by omega
      have hn2 : 10 ≤ (n : Int) := by omega
      have eq1 : IntKind.i64.wrap ((n : Int) / 10) = ((n / 10 : Nat) : Int) := (IntWalk.i64_in _ (by omega)).trans (by omega)
      have etm : (n : Int).tmod 10 = ((n % 10 : Nat) : Int) := by rw [Int.tmod_eq_emod_of_nonneg (by omega)]; omega
      clear ih h
      generalize n / 10 = m at *
      generalize n % 10 = d at *
      have hw : IntKind.u8.wrap (48 + (d : Int)) = 48 + (d : Int) := by
        rcases hd9 with e | e | e | e | e | e | e | e | e | e <;> rw [e] <;> rfl
      have eq2 : IntKind.u8.wrap (IntKind.i64.wrap (48 + (n : Int).tmod 10)) = 48 + (d : Int) := by rw [etm, IntWalk.i64_in _ (by omega), hw]
      have hcv := fun (wx : World) (g : Nat) (hB : Blk wx g #[.int .u8 (48 + (d : Int))] 5) => run_convert_bytes_arg (P := Tryz.prog) wx 22 5 Tryz.underlying22 Tryz.underlying5 g 0 1 1 [48 + (d : Int)] rfl (by intro i hi; (obtain rfl : i = 0 := (by omega)); exact hB.cell 0) 9 Tryz.underlying9
      have hT1 : (strOfNums [48 + (d : Int)]).size = 1 := rfl
      generalize strOfNums [48 + (d : Int)] = T at *
      have IH := Lib.hid hih
      have HS := Lib.hid hst
      have HCV := Lib.hid hcv
      have EQ1 := Lib.hid eq1
      have EQ2 := Lib.hid eq2
      have g1 : ¬ 9223372036854775807 < (decS m).size + 1 := by omega
      clear hcv hd9 eq1 etm eq2 hih hst hw
      go_enter Tryz.func89, Tryz.ntmps89
      go_wp2_with fail
      refine wp_region_noPanic ?_
      refine wp_region_held_drew (S := fun wx => Below w.heap.size w wx) (by kernel_rfl) (Below.drew (Below.refl _ _)) (fun hHeld => ?_)
      refine tkH 0 ?_
      try simp only [Act.put, s1, s2, s3]
      refine tkH 1 ?_
      try simp only [Act.put, s1, s2, s3]
      refine tkH 3 ?_
      try simp only [Act.put, s1, s2, s3]
      refine tkH 4 ?_
      try simp only [Act.put, s1, s2, s3]
      refine tkH 5 ?_
      try simp only [Act.put, s1, s2, s3]
      refine tkH 6 ?_
      try simp only [Act.put, s1, s2, s3]
      simp only [EQ1.out, EQ2.out]
      refine wpAnyH_ready (rs := [2, 7]) (by kernel_rfl) (by simp) ?_
      refine AllReadyH.cons rfl (fun K hK => ?_) (AllReadyH.cons rfl (fun K hK => ?_) AllReadyH.nil)
      · go_simp
        refine Calls.mono (IH.out _) ?_
        rintro e w1 ⟨rfl, hb1⟩
        have hb2 : Below w.heap.size w w1 := below_call hHeld hb1 (Nat.le_refl _)
        go_wp2_with fail
        refine hK.out _ _ hb2 (fun hHeld => ?_)
        clear hK K
        try simp only [Act.put, s1, s2, s3]
        refine wpAnyH_ready (rs := [7]) (by kernel_rfl) (by simp) ?_
        refine AllReadyH.cons rfl (fun K hK => ?_) AllReadyH.nil
        go_simp
        refine hK.out _ _ (hb2.alloc hb2.size _) (fun hHeld => ?_)
        clear hK K
        try simp only [Act.put, s1, s2, s3]
        have hcv := HCV.out _ _ (Blk.made w1 #[.int .u8 (48 + (d : Int))] 5)
        refine wpAnyH_ready (rs := [8]) (by kernel_rfl) (by simp) ?_
        refine AllReadyH.cons rfl (fun K hK => ?_) AllReadyH.nil
        go_simp
        refine hK.out _ _ hHeld (fun hHeld => ?_)
        clear hK K
        try simp only [Act.put, s1, s2, s3]
        refine tkH 9 ?_
        try simp only [Act.put, s1, s2, s3]
        refine tkH 10 ?_
        try simp only [Act.put, s1, s2, s3]
        refine wpAnyH_done (by kernel_rfl) ?_ _
        refine NoPanic.normal ?_
        go_wp2
        go_ret
        exact ⟨by rw [← HS.out]; rfl, hHeld⟩
      · go_simp
        refine hK.out _ _ (hHeld.alloc (Nat.le_refl _) _) (fun hHeld => ?_)
        clear hK K
        try simp only [Act.put, s1, s2, s3]
        have hcv0 := HCV.out _ _ ((Blk.made w #[.int .u8 (48 + (d : Int))] 5).drew)
        refine wpAnyH_ready (rs := [2, 8]) (by kernel_rfl) (by simp) ?_
        refine AllReadyH.cons rfl (fun K hK => ?_) (AllReadyH.cons rfl (fun K hK => ?_) AllReadyH.nil)
        · clear hcv0
          go_simp
          refine Calls.mono (IH.out _) ?_
          rintro e w1 ⟨rfl, hb1⟩
          have hb2 : Below w.heap.size w w1 := below_call hHeld hb1 (by simp)
          have hB : Blk w1 w.heap.size #[.int .u8 (48 + (d : Int))] 5 := ((Blk.made w #[.int .u8 (48 + (d : Int))] 5).drew).keep hb1
          go_wp2_with fail
          refine hK.out _ _ hb2 (fun hHeld => ?_)
          clear hK K
          try simp only [Act.put, s1, s2, s3]
          have hcv := HCV.out _ _ hB
          refine wpAnyH_ready (rs := [8]) (by kernel_rfl) (by simp) ?_
          refine AllReadyH.cons rfl (fun K hK => ?_) AllReadyH.nil
          go_simp
          refine hK.out _ _ hHeld (fun hHeld => ?_)
          clear hK K
          try simp only [Act.put, s1, s2, s3]
          refine tkH 9 ?_
          try simp only [Act.put, s1, s2, s3]
          refine tkH 10 ?_
          try simp only [Act.put, s1, s2, s3]
          refine wpAnyH_done (by kernel_rfl) ?_ _
          refine NoPanic.normal ?_
          go_wp2
          go_ret
          exact ⟨by rw [← HS.out]; rfl, hHeld⟩
        · go_simp
          refine hK.out _ _ hHeld (fun hHeld => ?_)
          clear hK K hcv0
          try simp only [Act.put, s1, s2, s3]
          refine wpAnyH_ready (rs := [2]) (by kernel_rfl) (by simp) ?_
          refine AllReadyH.cons rfl (fun K hK => ?_) AllReadyH.nil
          go_simp
          refine Calls.mono (IH.out _) ?_
          rintro e w1 ⟨rfl, hb1⟩
          have hb2 : Below w.heap.size w w1 := below_call hHeld hb1 (by simp)
          go_wp2_with fail
          refine hK.out _ _ hb2 (fun hHeld => ?_)
          clear hK K
          try simp only [Act.put, s1, s2, s3]
          refine tkH 9 ?_
          try simp only [Act.put, s1, s2, s3]
          refine tkH 10 ?_
          try simp only [Act.put, s1, s2, s3]
          refine wpAnyH_done (by kernel_rfl) ?_ _
          refine NoPanic.normal ?_
          go_wp2
          go_ret
          exact ⟨by rw [← HS.out]; rfl, hHeld⟩
def v01B (l : List UInt8) : Bool := decide (1 ≤ l.length) && decide (l.length ≤ 12) && (l.all digP && decide (Lib.decDigits (valA 0 l) = l))
theorem valA_lt (l : List UInt8) : ∀ acc, l.all digP = true → valA acc l < (acc + 1) * 10 ^ l.length := by
  induction l with
  | nil => intro acc _; simp [valA]
  | cons c r ih =>
    intro acc h
    rw [List.all_cons, Bool.and_eq_true] at h
    have hc := h.1
    simp [digP] at hc
    have h1 := ih (acc * 10 + (c.toNat - 48)) h.2
    rw [valA_cons, List.length_cons, Nat.pow_succ]
    have h2 : (acc * 10 + (c.toNat - 48) + 1) * 10 ^ r.length ≤ ((acc + 1) * 10) * 10 ^ r.length := Nat.mul_le_mul_right _ (by omega)
    have h3 : (acc + 1) * 10 * 10 ^ r.length = (acc + 1) * (10 ^ r.length * 10) := by rw [Nat.mul_assoc, Nat.mul_comm 10]
    omega
theorem all_pre {p : UInt8 → Bool} {l : List UInt8} {k : Nat} (h : l.all p = true) : (l.take k).all p = true := by
  rw [List.all_eq_true] at *
  exact fun x hx => h x (List.mem_of_mem_take hx)
theorem str_eq {a b : ByteArray} : (a.toList == b.toList) = decide (a.data.toList = b.data.toList) := by
  rw [ByteArray.toList_eq, ByteArray.toList_eq]
  by_cases h : a.data.toList = b.data.toList
  · rw [h]; simp
  · rw [decide_eq_false h]; exact beq_eq_false_iff_ne.2 h
set_option maxHeartbeats 2000000 in
theorem spec_l01Value {s : ByteArray} {w : World} (hz : s.size ≤ maxLen) : Calls Tryz.prog 141 #[.string s] w fun e w' => ∃ n : Int, e = .returned (.tuple #[.int .i64 n, .bool (v01B s.data.toList)]) ∧ (v01B s.data.toList = true → n = (valA 0 s.data.toList : Int)) ∧ Below w.heap.size w w' := by
  have hsl : s.data.toList.length = s.size := by simp
  have hz' : (s.size : Int) ≤ 9223372036854775807 := by have : s.size ≤ 9223372036854775807 := hz; omega
  by_cases h1 : (s.size : Int) < 1
  · have HB := Lib.hid (show v01B s.data.toList = false by rw [v01B, hsl, decide_eq_false (by omega)]; rfl)
    go_enter Tryz.func141, Tryz.ntmps141
    go_wp2
    exact bodyPost_ret (v := .tuple #[.int .i64 0, .bool false]) (by simp [results, Tryz.results141, go_sem]) rfl ⟨0, by rw [HB.out], (fun h => by rw [HB.out] at h; cases h), bel⟩
  · by_cases h2 : 12 < (s.size : Int)
    · have HB := Lib.hid (show v01B s.data.toList = false by rw [v01B, hsl, decide_eq_false (show ¬ s.size ≤ 12 by omega), Bool.and_false]; rfl)
      go_enter Tryz.func141, Tryz.ntmps141
      go_wp2
      exact bodyPost_ret (v := .tuple #[.int .i64 0, .bool false]) (by simp [results, Tryz.results141, go_sem]) rfl ⟨0, by rw [HB.out], (fun h => by rw [HB.out] at h; cases h), bel⟩
    · have HSL := Lib.hid hsl
      have hs12 : s.size ≤ 12 := by omega
      clear hsl
      go_enter Tryz.func141, Tryz.ntmps141
      go_wp2_with fail
      go_loop [4, 5] (fun s4 s5 => ∃ (k : Nat) (v : Int), k ≤ s.size ∧ s5 = .int .i64 k ∧ s4 = .int .i64 v ∧ 0 ≤ v ∧ v ≤ 999999999999 ∧ Hid ((s.data.toList.take k).all digP = true ∧ v = (valA 0 (s.data.toList.take k) : Nat))) (fun _ s5 => s.size - (intOf s5).toNat)
      case atStart => exact ⟨0, 0, Nat.zero_le _, rfl, rfl, by omega, by omega, Lib.hid ⟨rfl, rfl⟩⟩
      case round =>
        obtain ⟨k, v, hk, rfl, rfl, hv0, hv1, A⟩ := hrel
        by_cases hlt : k < s.size
        · have hlt' : (k : Int) < (s.size : Int) := by omega
          have hk0 : (0 : Int) ≤ (k : Int) := by omega
          have Hc := Lib.hid (show s.data.toList[k]? = some s[k] by rw [List.getElem?_eq_getElem (by simpa using hlt)]; rfl)
          have hu := s[k].toNat_lt
          obtain ⟨c, hcc⟩ : ∃ c : Nat, s[k].toNat = c := ⟨_, rfl⟩
          have hdp : digP s[k] = (decide (48 ≤ c) && decide (c ≤ 57)) := by rw [digP, hcc]
          by_cases hlo : c < 48
          · have HB := Lib.hid (show v01B s.data.toList = false by rw [v01B, all_take_false Hc.out (by rw [hdp, decide_eq_false (by omega)]; rfl), Bool.false_and, Bool.and_false])
            have hlo' : (c : Int) < 48 := by omega
            go_wp2
            exact bodyPost_ret (v := .tuple #[.int .i64 0, .bool false]) (by simp [results, Tryz.results141, go_sem]) rfl ⟨0, by rw [HB.out], (fun h => by rw [HB.out] at h; cases h), Below.refl _ _⟩
          · by_cases hhi : 57 < c
            · have HB := Lib.hid (show v01B s.data.toList = false by rw [v01B, all_take_false Hc.out (by rw [hdp, decide_eq_false (show ¬ c ≤ 57 by omega), Bool.and_false]), Bool.false_and, Bool.and_false])
              have hlo' : ¬ (c : Int) < 48 := by omega
              have hhi' : 57 < (c : Int) := by omega
              go_wp2
              exact bodyPost_ret (v := .tuple #[.int .i64 0, .bool false]) (by simp [results, Tryz.results141, go_sem]) rfl ⟨0, by rw [HB.out], (fun h => by rw [HB.out] at h; cases h), Below.refl _ _⟩
            · have hlo' : ¬ (c : Int) < 48 := by omega
              have hhi' : ¬ 57 < (c : Int) := by omega
              have hA1 : (s.data.toList.take (k + 1)).all digP = true := all_take_step Hc.out A.out.1 (by rw [hdp, decide_eq_true (by omega), decide_eq_true (by omega)]; rfl)
              have hA2 : valA 0 (s.data.toList.take (k + 1)) = valA 0 (s.data.toList.take k) * 10 + (c - 48) := by rw [take_at Hc.out, valA_snoc, hcc]
              have hA3 := valA_lt _ 0 hA1
              have hpw : 10 ^ (s.data.toList.take (k + 1)).length ≤ 10 ^ 12 := Nat.pow_le_pow_right (by decide) (by rw [List.length_take]; omega)
              have hA4 := A.out.2
              have hv9 : 10 * v + ((c : Int) - 48) = (valA 0 (s.data.toList.take (k + 1)) : Nat) := by omega
              have hv8 : 10 * v + ((c : Int) - 48) ≤ 999999999999 := by omega
              have HA := Lib.hid (And.intro hA1 hv9)
              have e9 : IntKind.u8.wrap ((c : Int) - 48) = (c : Int) - 48 := by
                simp [IntKind.wrap, IntKind.bits, IntKind.signed]; omega
              clear hA1 hA2 hA3 hpw hA4 hv9 A hdp
              go_wp2_with fail
              go_round
              case rel => exact ⟨k + 1, 10 * v + ((c : Int) - 48), by omega, by go_num, rfl, by omega, hv8, HA⟩
              case measure => simp [intOf]; omega
        · obtain rfl : k = s.size := by omega
          have hlt' : ¬ (s.size : Int) < (s.size : Int) := by omega
          have hA := A.out
          rw [show s.data.toList.take s.size = s.data.toList from List.take_of_length_le (by rw [HSL.out]; exact Nat.le_refl _)] at hA
          obtain ⟨hA1, hA2⟩ := hA
          have hq : ((decS (valA 0 s.data.toList)).toList == s.toList) = v01B s.data.toList := by
            rw [str_eq, v01B, HSL.out, decide_eq_true (show 1 ≤ s.size by omega), decide_eq_true hs12, hA1]
            simp [decS]
            exact decide_eq_decide.2 Iff.rfl
          have HQ := Lib.hid hq
          have hA3 : valA 0 s.data.toList ≤ 999999999999 := by omega
          have KD := Lib.hid (fun wx => spec_l01Dec (w := wx) hA3)
          have HV := Lib.hid hA2
          clear hA1 hq A
          subst hA2
          go_wp2_with fail
          refine Calls.mono (KD.out _) ?_
          rintro e w1 ⟨rfl, hb_w1⟩
          obtain ⟨hc_w1, hf_w1⟩ := bcell hb_w1
          have hs_w1 := hb_w1.size
          go_wp2
          rw [HQ.out]
          exact bodyPost_ret (v := .tuple #[.int .i64 ((valA 0 s.data.toList : Nat) : Int), .bool (v01B s.data.toList)]) (by simp [results, Tryz.results141, go_sem]) rfl ⟨_, rfl, fun _ => rfl, bel⟩
theorem num_v01 (l : List UInt8) : numB l = (v01B l && decide (valA 0 l ≤ 9999)) := by
  rw [Bool.eq_iff_iff]
  constructor
  · intro h
    obtain ⟨h1, h2, h3⟩ := numB_len h
    rw [numB, Bool.and_eq_true] at h
    rw [v01B, decide_eq_true h1, decide_eq_true (show l.length ≤ 12 by omega), h3]
    simpa using h
  · intro h
    rw [v01B] at h
    simp only [Bool.and_eq_true] at h
    rw [numB, Bool.and_eq_true]
    exact ⟨h.1.2.2, h.2⟩
set_option maxHeartbeats 1000000 in
theorem spec_l12Number {s : ByteArray} {w : World} (hz : s.size ≤ maxLen) : Calls Tryz.prog 99 #[.string s] w fun e w' => e = .returned (.bool (numB s.data.toList)) ∧ Below w.heap.size w w' := by
  have hn := num_v01 s.data.toList
  cases hv : v01B s.data.toList
  · have K := spec_l01Value (w := w) hz
    rw [hv] at K hn
    have HN := Lib.hid hn
    have HK := Lib.hid K
    clear hn K hv
    go_enter Tryz.func99, Tryz.ntmps99
    go_wp2_with fail
    refine Calls.mono HK.out ?_
    rintro e w1 ⟨n, rfl, hn, hb1⟩
    go_wp2
    go_ret
    exact ⟨ret_bool HN.out.symm, hb1⟩
  · have K := spec_l01Value (w := w) hz
    rw [hv] at K hn
    have HK := Lib.hid K
    by_cases h9 : valA 0 s.data.toList ≤ 9999
    · have HN := Lib.hid (hn.trans (by rw [decide_eq_true h9]; rfl : _ = true))
      have h9' : (valA 0 s.data.toList : Int) ≤ 9999 := by omega
      clear hn K hv h9
      go_enter Tryz.func99, Tryz.ntmps99
      go_wp2_with fail
      refine Calls.mono HK.out ?_
      rintro e w1 ⟨n, rfl, hn, hb1⟩
      obtain rfl := hn trivial
      go_wp2
      go_ret
      exact ⟨ret_bool (by rw [HN.out]), hb1⟩
    · have HN := Lib.hid (hn.trans (by rw [decide_eq_false h9]; rfl : _ = false))
      have h9' : ¬ (valA 0 s.data.toList : Int) ≤ 9999 := by omega
      clear hn K hv h9
      go_enter Tryz.func99, Tryz.ntmps99
      go_wp2_with fail
      refine Calls.mono HK.out ?_
      rintro e w1 ⟨n, rfl, hn, hb1⟩
      obtain rfl := hn trivial
      go_wp2
      go_ret
      exact ⟨ret_bool (by rw [HN.out]; simp; omega), hb1⟩
theorem spec_l12Letter {c : UInt8} {w : World} : Calls Tryz.prog 150 #[.int .u8 (c.toNat : Int)] w fun e w' => e = .returned (.bool (letP c)) ∧ w = w' := by
  have hl : letP c = (decide (97 ≤ c.toNat) && decide (c.toNat ≤ 122)) := rfl
  have hu := c.toNat_lt
  generalize c.toNat = x at *
  by_cases h1 : 97 ≤ x <;> by_cases h2 : x ≤ 122
  all_goals
    simp only [h1, h2, decide_true, decide_false, Bool.and_self, Bool.and_true, Bool.and_false] at hl
    have HL := Lib.hid hl
    have h1' : (97 : Int) ≤ (x : Int) ↔ 97 ≤ x := by omega
    have h2' : (x : Int) ≤ 122 ↔ x ≤ 122 := by omega
    simp only [h1, h2, iff_true, iff_false] at h1' h2'
    clear hl
    go_enter Tryz.func150, Tryz.ntmps150
    go_wp2
    go_ret
    exact ⟨ret_bool HL.out.symm, rfl⟩
theorem spec_l12Digit {c : UInt8} {w : World} : Calls Tryz.prog 152 #[.int .u8 (c.toNat : Int)] w fun e w' => e = .returned (.bool (digP c)) ∧ w = w' := by
  have hl : digP c = (decide (48 ≤ c.toNat) && decide (c.toNat ≤ 57)) := rfl
  have hu := c.toNat_lt
  generalize c.toNat = x at *
  by_cases h1 : 48 ≤ x <;> by_cases h2 : x ≤ 57
  all_goals
    simp only [h1, h2, decide_true, decide_false, Bool.and_self, Bool.and_true, Bool.and_false] at hl
    have HL := Lib.hid hl
    have h1' : (48 : Int) ≤ (x : Int) ↔ 48 ≤ x := by omega
    have h2' : (x : Int) ≤ 57 ↔ x ≤ 57 := by omega
    simp only [h1, h2, iff_true, iff_false] at h1' h2'
    clear hl
    go_enter Tryz.func152, Tryz.ntmps152
    go_wp2
    go_ret
    exact ⟨ret_bool HL.out.symm, rfl⟩
set_option maxHeartbeats 1000000 in
theorem spec_l12Inner {c : UInt8} {w : World} : Calls Tryz.prog 151 #[.int .u8 (c.toNat : Int)] w fun e w' => e = .returned (.bool (innP c)) ∧ w = w' := by
  have k1 := fun (wx : World) => spec_l12Letter (c := c) (w := wx)
  have k2 := fun (wx : World) => spec_l12Digit (c := c) (w := wx)
  have hi : innP c = (letP c || digP c || decide (c.toNat = 95)) := rfl
  have hu := c.toNat_lt
  generalize letP c = a at *
  generalize digP c = b at *
  generalize c.toNat = x at *
  have K1 := Lib.hid k1
  have K2 := Lib.hid k2
  clear k1 k2
  cases a
  · cases b
    · by_cases h : x = 95
      · subst h
        have HI := Lib.hid hi
        clear hi
        go_enter Tryz.func151, Tryz.ntmps151
        go_wp2_with fail
        go_wp2_with fail
        refine Calls.mono (K1.out _) ?_
        rintro e _ ⟨rfl, rfl⟩
        go_wp2_with fail
        go_wp2_with fail
        refine Calls.mono (K2.out _) ?_
        rintro e _ ⟨rfl, rfl⟩
        go_wp2
        go_ret
        exact ⟨ret_bool HI.out.symm, rfl⟩
      · have h' : ((x : Int) == 95) = false := by rw [beq_eq_false_iff_ne]; omega
        have HI := Lib.hid (hi.trans (by rw [decide_eq_false h]; rfl : _ = false))
        clear hi h
        go_enter Tryz.func151, Tryz.ntmps151
        go_wp2_with fail
        go_wp2_with fail
        refine Calls.mono (K1.out _) ?_
        rintro e _ ⟨rfl, rfl⟩
        go_wp2_with fail
        go_wp2_with fail
        refine Calls.mono (K2.out _) ?_
        rintro e _ ⟨rfl, rfl⟩
        go_wp2
        go_ret
        exact ⟨ret_bool HI.out.symm, rfl⟩
    · have HI := Lib.hid (hi.trans (by simp : _ = true))
      clear hi
      go_enter Tryz.func151, Tryz.ntmps151
      go_wp2_with fail
      go_wp2_with fail
      refine Calls.mono (K1.out _) ?_
      rintro e _ ⟨rfl, rfl⟩
      go_wp2_with fail
      go_wp2_with fail
      refine Calls.mono (K2.out _) ?_
      rintro e _ ⟨rfl, rfl⟩
      go_wp2
      go_ret
      exact ⟨ret_bool HI.out.symm, rfl⟩
  · have HI := Lib.hid (hi.trans (by simp : _ = true))
    clear hi
    go_enter Tryz.func151, Tryz.ntmps151
    go_wp2_with fail
    go_wp2_with fail
    refine Calls.mono (K1.out _) ?_
    rintro e _ ⟨rfl, rfl⟩
    go_wp2
    go_ret
    exact ⟨ret_bool HI.out.symm, rfl⟩
end Go.Proofs.YtjneodmohkpckaaGreatDoor
