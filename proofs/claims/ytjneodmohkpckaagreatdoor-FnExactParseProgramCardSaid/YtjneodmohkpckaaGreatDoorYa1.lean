/- Words and numbers of the program, walked.; Tokens of the program, walked.; Reading tokens: the program, walked. -/
import Derived.Test.YtjneodmohkpckaaGreatDoorT12i
import Derived.Test.YtjneodmohkpckaaGreatDoorT12u
import Derived.Test.YtjneodmohkpckaaGreatDoorL20e
import Derived.Test.YtjneodmohkpckaaGreatDoorTk
namespace Go.Proofs.YtjneodmohkpckaaGreatDoor
open Go.RowKit
set_option linter.unusedVariables false
set_option linter.unusedSimpArgs false
theorem inset_all {bs : ByteArray} {p : UInt8 → Bool} (h : ∀ n : Fin 256, inSet bs (UInt8.ofNat n.val) = p (UInt8.ofNat n.val)) (c : UInt8) : inSet bs c = p c := by
  have := h ⟨c.toNat, c.toNat_lt⟩
  simpa using this
def luP (c : UInt8) : Bool := letP c || decide (c.toNat = 95)
theorem inset_let (c : UInt8) : inSet ⟨#[97, 98, 99, 100, 101, 102, 103, 104, 105, 106, 107, 108, 109, 110, 111, 112, 113, 114, 115, 116, 117, 118, 119, 120, 121, 122]⟩ c = letP c := inset_all (by decide +kernel) c
theorem inset_dig (c : UInt8) : inSet ⟨#[48, 49, 50, 51, 52, 53, 54, 55, 56, 57]⟩ c = digP c := inset_all (by decide +kernel) c
theorem inset_inn (c : UInt8) : inSet ⟨#[97, 98, 99, 100, 101, 102, 103, 104, 105, 106, 107, 108, 109, 110, 111, 112, 113, 114, 115, 116, 117, 118, 119, 120, 121, 122, 48, 49, 50, 51, 52, 53, 54, 55, 56, 57, 95]⟩ c = innP c := inset_all (by decide +kernel) c
theorem inset_lu (c : UInt8) : inSet ⟨#[97, 98, 99, 100, 101, 102, 103, 104, 105, 106, 107, 108, 109, 110, 111, 112, 113, 114, 115, 116, 117, 118, 119, 120, 121, 122, 95]⟩ c = luP c := inset_all (by decide +kernel) c
theorem inset_sgn (c : UInt8) : inSet ⟨#[61, 40, 41, 44, 59]⟩ c = sgnP c := inset_all (by decide +kernel) c
theorem idx_set {bs : ByteArray} {p : UInt8 → Bool} (hp : ∀ c, inSet bs c = p c) (c : UInt8) (w : World) : Calls Tryz.prog 145 #[.string bs, .int .u8 (c.toNat : Int)] w fun e w' => ∃ r : Int, e = .returned (.int .i64 r) ∧ decide (0 ≤ r) = p c ∧ w = w' := by
  refine Calls.mono lib_IndexByte ?_
  rintro e w' ⟨rfl, rfl⟩
  refine ⟨_, rfl, ?_, rfl⟩
  rw [← hp]
  exact (Lib.contains_iff_indexByte bs.data.toList c).symm
theorem run_set {bs : ByteArray} {p : UInt8 → Bool} (hp : ∀ c, inSet bs c = p c) {s : ByteArray} {a : Nat} {ai : Int} {w : World} (ha : ai = (a : Int)) (has : a ≤ s.size) (hz : s.size ≤ 1048576) :
    Calls Tryz.prog 146 #[.string s, .int .i64 ai, .string bs] w fun e w' => e = .returned (.int .i64 (runL p (s.data.toList.drop a) : Nat)) ∧ w = w' := by
  have h := impl_run (bs := bs) (w := w) ha has hz
  rw [show inSet bs = p from funext hp] at h
  exact h
set_option maxHeartbeats 2000000 in
theorem impl_isWord {s : ByteArray} {w : World} (hz : s.size ≤ 1048576) : Calls Tryz.prog 114 #[.string s] w fun e w' => e = .returned (.bool (wrdB s.data.toList)) ∧ w = w' := by
  have hB := wrdB_eq (str_len s)
  cases h : inB (s.size : Int) 1 12
  · have HB := Lib.hid (show wrdB s.data.toList = false by rw [hB, h]; rfl)
    have HV := Lib.hid h
    clear h hB
    go_enter Tryz.func114, Tryz.ntmps114
    go_wp2_with fail
    refine Calls.mono (impl_within) ?_
    rintro e _ ⟨rfl, rfl⟩
    rw [HV.out]
    go_wp2
    go_ret
    exact ⟨ret_bool HB.out.symm, rfl⟩
  · have hr := h
    simp [inB] at hr
    have hlt0 : 0 < s.size := by omega
    have hlt0' : (0 : Int) < (s.size : Int) := by omega
    have hc0 := str_get hlt0
    rw [h, List.head?_eq_getElem?, hc0] at hB
    simp only [Option.any_some, Bool.true_and] at hB
    have kX := idx_set inset_let s[0]
    have hk := fun (wx : World) => run_set inset_inn (s := s) (a := 0) (ai := 0) (w := wx) rfl (Nat.zero_le _) hz
    have hall := runN_all (p := innP) (l := s.data.toList)
    rw [str_len] at hall
    change runL innP s.data.toList = s.size ↔ _ at hall
    rw [List.drop_zero] at hk
    have HV := Lib.hid h
    clear h hr
    cases hl : letP s[0]
    · rw [hl] at kX hB
      have HB := Lib.hid (show wrdB s.data.toList = false by rw [hB]; rfl)
      have KX := Lib.hid kX
      clear kX hB hk hall hl hc0
      go_enter Tryz.func114, Tryz.ntmps114
      go_wp2_with fail
      refine Calls.mono (impl_within) ?_
      rintro e _ ⟨rfl, rfl⟩
      rw [HV.out]
      go_wp2_with fail
      refine Calls.mono (KX.out _) ?_
      rintro e _ ⟨r, rfl, hr, rfl⟩
      go_wp2
      go_ret
      exact ⟨ret_bool HB.out.symm, rfl⟩
    · rw [hl, Bool.true_and] at hB
      rw [hl] at kX
      have HB := Lib.hid hB
      have KX := Lib.hid kX
      generalize runL innP s.data.toList = k at *
      have HK := Lib.hid hk
      cases ha : s.data.toList.all innP
      · have hq : ((k : Int) == (s.size : Int)) = false := by
          rw [beq_eq_false_iff_ne]; intro hc; have := hall.1 (by omega); rw [ha] at this; cases this
        have HA := Lib.hid ha
        clear kX hB hk hall hl hc0 ha
        go_enter Tryz.func114, Tryz.ntmps114
        go_wp2_with fail
        refine Calls.mono (impl_within) ?_
        rintro e _ ⟨rfl, rfl⟩
        rw [HV.out]
        go_wp2_with fail
        refine Calls.mono (KX.out _) ?_
        rintro e _ ⟨r, rfl, hr, rfl⟩
        go_wp2_with fail
        go_wp2_with fail
        refine Calls.mono (HK.out _) ?_
        rintro e _ ⟨rfl, rfl⟩
        go_wp2
        go_ret
        exact ⟨ret_bool (by rw [HB.out, HA.out]), rfl⟩
      · have hq : ((k : Int) == (s.size : Int)) = true := by
          rw [beq_iff_eq]; have := hall.2 ha; omega
        have HA := Lib.hid ha
        clear kX hB hk hall hl hc0 ha
        go_enter Tryz.func114, Tryz.ntmps114
        go_wp2_with fail
        refine Calls.mono (impl_within) ?_
        rintro e _ ⟨rfl, rfl⟩
        rw [HV.out]
        go_wp2_with fail
        refine Calls.mono (KX.out _) ?_
        rintro e _ ⟨r, rfl, hr, rfl⟩
        go_wp2_with fail
        go_wp2_with fail
        refine Calls.mono (HK.out _) ?_
        rintro e _ ⟨rfl, rfl⟩
        go_wp2
        go_ret
        exact ⟨ret_bool (by rw [HB.out, HA.out]), rfl⟩
set_option maxHeartbeats 1000000 in
theorem impl_isCount {s : ByteArray} {w : World} (hL : LV w) (hz : s.size ≤ 1048576) : Calls Tryz.prog 149 #[.string s] w fun e w' => e = .returned (.bool (numB s.data.toList)) ∧ Below w.heap.size w w' := by
  have hk := impl_readNumber hL hz
  cases ho : okN s.data.toList
  · have HB := Lib.hid (show numB s.data.toList = false by
      rcases hp : Lib.parseIntB 64 s.data.toList with v | _ | _
      · rw [okN, hp] at ho
        rw [num_iff hp]
        simp only at ho
        rw [ho]; rfl
      · exact num_err (fun v h => by rw [hp] at h; cases h)
      · exact num_err (fun v h => by rw [hp] at h; cases h))
    rw [ho] at hk
    have HK := Lib.hid hk
    clear hk hL ho
    go_enter Tryz.func149, Tryz.ntmps149
    go_wp2_with fail
    refine Calls.mono HK.out ?_
    rintro e w1 ⟨n, rfl, hn, hb1⟩
    clear hn
    go_wp2
    go_ret
    exact ⟨ret_bool HB.out.symm, hb1⟩
  · rw [ho] at hk
    have HK := Lib.hid hk
    have HO := Lib.hid ho
    clear hk hL ho
    go_enter Tryz.func149, Tryz.ntmps149
    go_wp2_with fail
    refine Calls.mono HK.out ?_
    rintro e w1 ⟨n, rfl, hn, hb1⟩
    have HP := Lib.hid (hn trivial)
    clear hn
    have HB := Lib.hid (show numB s.data.toList = inB n 0 9999 by
      rw [num_iff HP.out, inB]
      have h := HO.out
      rw [okN, HP.out] at h
      simp only at h
      rw [h, Bool.true_and])
    go_wp2_with fail
    refine Calls.mono (impl_within) ?_
    rintro e _ ⟨rfl, rfl⟩
    go_wp2
    go_ret
    exact ⟨ret_bool HB.out.symm, hb1⟩
/-- the token, or the wrong part, that begins at a place -/
structure PT where
  k : Int
  t : List UInt8
  ok : Bool
def nxI (l : List UInt8) (a : Nat) (c : UInt8) : PT :=
  if letP c = true then ⟨1, subL l a (a + runL innP (l.drop a)), wrdB (subL l a (a + runL innP (l.drop a)))⟩
  else if digP c = true then ⟨2, subL l a (a + runL digP (l.drop a)), numB (subL l a (a + runL digP (l.drop a))) && decide (runL luP (l.drop (a + runL digP (l.drop a))) = 0)⟩
  else ⟨3, [c], sgnP c⟩
theorem run_le (p : UInt8 → Bool) {s : ByteArray} {a : Nat} (h : a ≤ s.size) : a + runL p (s.data.toList.drop a) ≤ s.size := by
  have := runL_le p (s.data.toList.drop a)
  rw [List.length_drop, str_len] at this; omega
set_option maxHeartbeats 1000000 in
theorem impl_next_1 {bs : ByteArray} {p : UInt8 → Bool} (hp : ∀ c, inSet bs c = p c) {s : ByteArray} {a pb qb : Nat} {w : World} (has : a ≤ s.size) (hz : s.size ≤ 1048576) (c1 : w.cell? ⟨pb, 0, none⟩ = some (.string s)) (c2 : w.cell? ⟨qb, 0, none⟩ = some (.int .i64 (a : Int))) (l1 : pb < w.heap.size) (l2 : qb < w.heap.size) :
    Calls Tryz.prog 148 #[.string bs, .pointer (some ⟨pb, 0, none⟩), .pointer (some ⟨qb, 0, none⟩)] w fun e w' => e = .returned (.string (strL (subL s.data.toList a (a + runL p (s.data.toList.drop a))))) ∧ Below w.heap.size w w' := by
  have hk := fun (wx : World) => run_set hp (s := s) (a := a) (ai := (a : Int)) (w := wx) rfl has hz
  have hle := run_le p has
  generalize runL p (s.data.toList.drop a) = k at *
  have hsl := fun wq => run_sub s a k wq hle
  generalize strL (subL s.data.toList a (a + k)) = T at *
  have HK := Lib.hid hk
  clear hk
  go_enter Tryz.func148, Tryz.ntmps148
  go_wp2_with fail
  go_quiet ((go_at_call 146; exact Calls.mono (HK.out _) (fun _ _ h => ⟨h.1, _, h.2.symm⟩)))
  go_wp2
  go_ret
  exact ⟨rfl, bel⟩
set_option maxHeartbeats 4000000 in
set_option maxRecDepth 100000 in
theorem impl_next {s : ByteArray} {a : Nat} {w : World} (hL : LV w) (ha : a < s.size) (hz : s.size ≤ 1048576) :
    Calls Tryz.prog 120 #[.string s, .int .i64 (a : Int)] w fun e w' => e = .returned (.tuple #[.agg #[.int .i64 (nxI s.data.toList a s[a]).k, .string (strL (nxI s.data.toList a s[a]).t)], .bool (nxI s.data.toList a s[a]).ok]) ∧ Below w.heap.size w w' := by
  have hlt' : (a : Int) < (s.size : Int) := by omega
  have ha0 : (0 : Int) ≤ (a : Int) := by omega
  have hu := s[a].toNat_lt
  have kL := fun (wx : World) => idx_set inset_let s[a] wx
  have hN : nxI s.data.toList a s[a] = _ := rfl
  cases h1 : letP s[a]
  · simp only [h1] at kL
    have KL := Lib.hid kL
    clear kL
    have kD := fun (wx : World) => idx_set inset_dig s[a] wx
    cases h2 : digP s[a]
    · have HN := Lib.hid (show nxI s.data.toList a s[a] = ⟨3, [s[a]], sgnP s[a]⟩ by rw [nxI, h1, h2]; rfl)
      simp only [h2] at kD
      have KD := Lib.hid kD
      have KS := Lib.hid (fun (wx : World) => idx_set inset_sgn s[a] wx)
      have hsl := fun wq => run_sub1 s a wq ha
      rw [← IntWalk.i64_in ((a : Int) + 1) (by omega)] at hsl
      clear kD h1 h2 hN hL
      go_enter Tryz.func120, Tryz.ntmps120
      go_wp2_with fail
      refine Calls.mono (KL.out _) ?_
      rintro e _ ⟨r1, rfl, hr1, rfl⟩
      go_wp2_with fail
      refine Calls.mono (KD.out _) ?_
      rintro e _ ⟨r2, rfl, hr2, rfl⟩
      go_wp2_with fail
      refine wp_region_noPanic ?_
      refine wp_region_held_drew (S := fun wx => wx.cell? ⟨w.heap.size, 0, none⟩ = some (.string s) ∧ wx.cell? ⟨w.heap.size + 1, 0, none⟩ = some (.int .i64 (a : Int))) (by kernel_rfl) ?_ (fun hHeld => ?_)
      · constructor <;> first | (simp; done) | (go_simp; done) | (simp [World.cell?, World.alloc, Array.getElem?_push]; done)
      refine tkH 0 ?_
      try simp only [Act.put, s1, s2, s3]
      refine tkH 1 ?_
      try simp only [Act.put, s1, s2, s3]
      refine tkH 2 ?_
      try simp only [Act.put, s1, s2, s3]
      refine tkH 3 ?_
      try simp only [Act.put, s1, s2, s3]
      refine tkH 4 ?_
      try simp only [Act.put, s1, s2, s3]
      refine tkH 5 ?_
      try simp only [Act.put, s1, s2, s3]
      refine tkH 6 ?_
      try simp only [Act.put, s1, s2, s3]
      refine tkH 7 ?_
      try simp only [Act.put, s1, s2, s3]
      refine tkH 8 ?_
      try simp only [Act.put, s1, s2, s3]
      refine wpAnyH_ready (rs := [9]) (by kernel_rfl) (by simp) ?_
      refine AllReadyH.cons rfl (fun K hK => ?_) AllReadyH.nil
      go_simp
      refine Calls.mono (KS.out _) ?_
      rintro e _ ⟨r3, rfl, hr3, rfl⟩
      go_wp2_with fail
      refine hK.out _ _ hHeld (fun hHeld => ?_)
      clear hK K
      try simp only [Act.put, s1, s2, s3]
      refine tkH 10 ?_
      try simp only [Act.put, s1, s2, s3]
      refine wpAnyH_ready (rs := [11]) (by kernel_rfl) (by simp) ?_
      refine AllReadyH.cons rfl (fun K hK => ?_) AllReadyH.nil
      go_simp
      refine hK.out _ _ ?_ (fun hHeld => ?_)
      · obtain ⟨q1, q2⟩ := hHeld
        constructor <;> first | (simp [*]; done) | (go_simp; done) | (simp [World.cell?, World.alloc, Array.getElem?_push]; done)
      clear hK K
      try simp only [Act.put, s1, s2, s3]
      refine tkH 12 ?_
      try simp only [Act.put, s1, s2, s3]
      refine wpAnyH_done (by kernel_rfl) ?_ _
      refine NoPanic.normal ?_
      go_wp2
      exact bodyPost_ret (v := .tuple #[.agg #[.int .i64 3, .string ⟨#[s[a]]⟩], .bool (sgnP s[a])]) (by simp [results, Tryz.results120, go_sem, *]) rfl ⟨by rw [HN.out]; simp [strL], bel⟩
    · have HN := Lib.hid (show nxI s.data.toList a s[a] = ⟨2, subL s.data.toList a (a + runL digP (s.data.toList.drop a)), numB (subL s.data.toList a (a + runL digP (s.data.toList.drop a))) && decide (runL luP (s.data.toList.drop (a + runL digP (s.data.toList.drop a))) = 0)⟩ by rw [nxI, h1, h2]; rfl)
      simp only [h2] at kD
      have KD := Lib.hid kD
      have KC := Lib.hid (fun (wx : World) (pb qb : Nat) => impl_next_1 inset_dig (s := s) (a := a) (pb := pb) (qb := qb) (w := wx) (by omega) hz)
      have hle := run_le digP (s := s) (a := a) (by omega)
      clear kD h1 h2 hN
      generalize runL digP (s.data.toList.drop a) = k at *
      have hlen : (strL (subL s.data.toList a (a + k))).size = k := by rw [strL_size, sub_len (by omega) hle]; omega
      obtain ⟨T, hT⟩ : ∃ T, T = strL (subL s.data.toList a (a + k)) := ⟨_, rfl⟩
      rw [← hT] at hlen KC
      have hTz : T.size ≤ 1048576 := by omega
      have hTs : (T.size : Int) = (k : Int) := by omega
      have HB := Lib.hid (show numB T.data.toList = numB (subL s.data.toList a (a + k)) by rw [hT, strL_list])
      have HT := Lib.hid hT
      have kw := fun (wx : World) (hb : Below w.heap.size w wx) => impl_isCount (s := T) (w := wx) (hL.keep hb) hTz
      have KR := Lib.hid (fun (wx : World) => run_set inset_lu (s := s) (a := a + k) (ai := (a : Int) + (k : Int)) (w := wx) (by omega) hle hz)
      clear hT hL
      cases hq : numB T.data.toList
      all_goals
        simp only [hq] at kw
        have KW := Lib.hid kw
        have HQ := Lib.hid hq
        clear kw hq
        generalize runL luP (s.data.toList.drop (a + k)) = j at *
        go_enter Tryz.func120, Tryz.ntmps120
        go_wp2_with fail
        refine Calls.mono (KL.out _) ?_
        rintro e _ ⟨r1, rfl, hr1, rfl⟩
        go_wp2_with fail
        refine Calls.mono (KD.out _) ?_
        rintro e _ ⟨r2, rfl, hr2, rfl⟩
        go_wp2_with fail
        refine Calls.mono (KC.out _ _ _ ?_ ?_ ?_ ?_) ?_
        · first | (simp; done) | (go_simp; done) | (simp [World.cell?, World.alloc, Array.getElem?_push]; done)
        · first | (simp; done) | (go_simp; done) | (simp [World.cell?, World.alloc, Array.getElem?_push]; done)
        · first | (simp; done) | (simp; omega)
        · first | (simp; done) | (simp; omega)
        rintro e w1 ⟨rfl, hb1⟩
        obtain ⟨hc1, hf1⟩ := bcell hb1
        have hs1 := hb1.size
        simp at hs1
        have y1 : w.heap.size < w1.heap.size := by omega
        have y2 : w.heap.size + 1 < w1.heap.size := by omega
        have y3 : w.heap.size + 1 + 1 < w1.heap.size := by omega
        go_wp2_with fail
        refine Calls.mono (KW.out _ bel) ?_
        rintro e w2 ⟨rfl, hb2⟩
        obtain ⟨hc2, hf2⟩ := bcell hb2
        have hs2 := hb2.size
        have z1 : w.heap.size < w2.heap.size := by omega
        have z2 : w.heap.size + 1 < w2.heap.size := by omega
        have z3 : w.heap.size + 1 + 1 < w2.heap.size := by omega
      · go_wp2
        exact bodyPost_ret (v := .tuple #[.agg #[.int .i64 2, .string T], .bool false]) (by simp [results, Tryz.results120, go_sem, *]) rfl ⟨by rw [HN.out, ← HT.out, ← HB.out, HQ.out]; simp, bel⟩
      · go_wp2_with fail
        go_wp2_with fail
        refine Calls.mono (KR.out _) ?_
        rintro e _ ⟨rfl, rfl⟩
        by_cases hj : j = 0
        · have hj1 : ((j : Int) == 0) = true := by rw [beq_iff_eq]; omega
          have HJ := Lib.hid hj
          clear hj
          go_wp2
          exact bodyPost_ret (v := .tuple #[.agg #[.int .i64 2, .string T], .bool true]) (by simp [results, Tryz.results120, go_sem, *]) rfl ⟨by rw [HN.out, ← HT.out, ← HB.out, HQ.out, HJ.out]; simp, bel⟩
        · have hj1 : ((j : Int) == 0) = false := by rw [beq_eq_false_iff_ne]; omega
          have HJ := Lib.hid (show decide (j = 0) = false by simp [hj])
          clear hj
          go_wp2
          exact bodyPost_ret (v := .tuple #[.agg #[.int .i64 2, .string T], .bool false]) (by simp [results, Tryz.results120, go_sem, *]) rfl ⟨by rw [HN.out, ← HT.out, ← HB.out, HQ.out, HJ.out]; simp, bel⟩
  · have HN := Lib.hid (show nxI s.data.toList a s[a] = ⟨1, subL s.data.toList a (a + runL innP (s.data.toList.drop a)), wrdB (subL s.data.toList a (a + runL innP (s.data.toList.drop a)))⟩ by rw [nxI, h1]; rfl)
    simp only [h1] at kL
    have KL := Lib.hid kL
    clear kL h1 hN hL
    have KC := Lib.hid (fun (wx : World) (pb qb : Nat) => impl_next_1 inset_inn (s := s) (a := a) (pb := pb) (qb := qb) (w := wx) (by omega) hz)
    have hle := run_le innP (s := s) (a := a) (by omega)
    generalize runL innP (s.data.toList.drop a) = k at *
    have hTz : (strL (subL s.data.toList a (a + k))).size ≤ 1048576 := by rw [strL_size, sub_len (by omega) hle]; omega
    obtain ⟨T, hT⟩ : ∃ T, T = strL (subL s.data.toList a (a + k)) := ⟨_, rfl⟩
    have HB := Lib.hid (show wrdB T.data.toList = wrdB (subL s.data.toList a (a + k)) by rw [hT, strL_list])
    rw [← hT] at hTz KC
    have HT := Lib.hid hT
    have KW := Lib.hid (fun (wx : World) => impl_isWord (s := T) (w := wx) hTz)
    clear hT
    go_enter Tryz.func120, Tryz.ntmps120
    go_wp2_with fail
    refine Calls.mono (KL.out _) ?_
    rintro e _ ⟨r1, rfl, hr1, rfl⟩
    go_wp2_with fail
    refine Calls.mono (KC.out _ _ _ ?_ ?_ ?_ ?_) ?_
    · first | (simp; done) | (go_simp; done) | (simp [World.cell?, World.alloc, Array.getElem?_push]; done)
    · first | (simp; done) | (go_simp; done) | (simp [World.cell?, World.alloc, Array.getElem?_push]; done)
    · first | (simp; done) | (simp; omega)
    · first | (simp; done) | (simp; omega)
    rintro e w1 ⟨rfl, hb1⟩
    obtain ⟨hc1, hf1⟩ := bcell hb1
    have hs1 := hb1.size
    simp at hs1
    go_wp2_with fail
    go_wp2_with fail
    refine Calls.mono (KW.out _) ?_
    rintro e _ ⟨rfl, rfl⟩
    go_wp2
    exact bodyPost_ret (v := .tuple #[.agg #[.int .i64 1, .string T], .bool (wrdB T.data.toList)]) (by simp [results, Tryz.results120, go_sem, *]) rfl ⟨by rw [HN.out, ← HT.out, ← HB.out], bel⟩
theorem OwnTk.nil (w : World) (base : Nat) : OwnTk w base none 0 0 [] := ⟨World.ownsRow_nil w _ _ _, (fun _ h => by cases h), rfl, fun _ => rfl⟩
theorem sub_at {l : List UInt8} {a k : Nat} (h : a + k ≤ l.length) : (subL l a (a + k)).length = k := by
  rw [subL, List.length_take, List.length_drop]; omega
theorem nx_same {l : List UInt8} {a : Nat} {c : UInt8} (h : l[a]? = some c) (h1 : ¬ (c.toNat = 32 ∨ c.toNat = 10)) (h2 : ¬ c.toNat = 35) :
    nxS l a c = ⟨(nxI l a c).k, (nxI l a c).t, a + (nxI l a c).t.length, (nxI l a c).ok⟩ := by
  have ha : a < l.length := (List.getElem?_eq_some_iff.1 h).1
  have hle : ∀ p, a + runL p (l.drop a) ≤ l.length := fun p => by have := runL_le p (l.drop a); rw [List.length_drop] at this; omega
  rw [nxS, if_neg h1, if_neg h2, nxI]
  by_cases h3 : letP c = true
  · rw [if_pos h3, if_pos h3]
    simp only [sub_at (hle innP)]
  · rw [if_neg h3, if_neg h3]
    by_cases h4 : digP c = true
    · rw [if_pos h4, if_pos h4]
      simp only [sub_at (hle digP)]
      congr 2
      generalize hk : runL digP (l.drop a) = k
      have hst : ∀ d, l[a + k]? = some d → digP d = false := fun d hd => by
        refine runL_stop (l := l.drop a) ?_
        rw [hk, List.getElem?_drop]; exact hd
      cases hd : l[a + k]? with
      | none =>
        have : l.drop (a + k) = [] := by
          rw [List.drop_eq_nil_iff]
          exact List.getElem?_eq_none_iff.1 hd
        rw [this]; rfl
      | some d =>
        have h5 := hst d hd
        have hlt := (List.getElem?_eq_some_iff.1 hd).1
        have h6 : l.drop (a + k) = d :: l.drop (a + k + 1) := by
          rw [List.drop_eq_getElem_cons hlt]
          have := (List.getElem?_eq_some_iff.1 hd).2
          rw [this]
        have h7 : innP d = luP d := by rw [innP, luP, h5, Bool.or_false]
        rw [h6, Option.any_some, h7, runL, List.takeWhile_cons]
        cases luP d <;> simp
    · rw [if_neg h4, if_neg h4]
      rfl
def scO (l : List UInt8) : List TR := if 0 ≤ (scT l).2 then [] else (scT l).1
theorem scL_low (l : List UInt8) : ∀ f a, (scL l f a).2 = -1 ∨ 0 ≤ (scL l f a).2
  | 0, a => .inl rfl
  | f + 1, a => by
    rw [scL]
    split
    · exact .inl rfl
    · split
      · split
        · exact scL_low l f _
        · exact scL_low l f _
      · exact .inr (by simp)
set_option maxHeartbeats 4000000 in
set_option maxRecDepth 100000 in
theorem impl_scan {s : ByteArray} {w : World} (hL : LV w) (hz : s.size ≤ 1048576) :
    Calls Tryz.prog 64 #[.string s] w fun e w' => ∃ n a c, e = .returned (.tuple #[.slice a n c, .int .i64 (scT s.data.toList).2]) ∧ Below w.heap.size w w' ∧ OwnTk w' w.heap.size a n c (scO s.data.toList) ∧ n ≤ s.size := by
  have HLV := Lib.hid hL
  clear hL
  go_enter Tryz.func64, Tryz.ntmps64
  go_wp2_with fail
  go_loopw [4, 5] (fun s4 s5 wr => ∃ (a f n : Nat) (a1 : Option Addr) (c1 : Nat) (L : List TR), s4 = .slice a1 n c1 ∧ s5 = .int .i64 a ∧ a ≤ s.size ∧ n ≤ a ∧ Below w.heap.size w wr ∧ Hid (s.size - a < f) ∧ Hid (L ++ (scL s.data.toList f a).1 = (scT s.data.toList).1 ∧ (scL s.data.toList f a).2 = (scT s.data.toList).2) ∧ Hid (OwnTk wr w.heap.size a1 n c1 L)) (fun _ s5 _ => s.size - (intOf s5).toNat)
  case atStart => exact ⟨0, s.data.toList.length + 1, 0, _, 0, [], rfl, rfl, by omega, by omega, bel, Lib.hid (by rw [str_len]; omega), Lib.hid ⟨rfl, rfl⟩, Lib.hid (OwnTk.nil _ _)⟩
  case round =>
    obtain ⟨a, f, n, a1, c1, L, rfl, rfl, ha, hna, hbl, HF, HE, HO⟩ := hrel
    have hsz := hbl.size
    by_cases hlt : a < s.size
    · have hlt' : (a : Int) < (s.size : Int) := by omega
      have ha0 : (0 : Int) ≤ (a : Int) := by omega
      have hc := str_get hlt
      obtain ⟨f', rfl⟩ : ∃ f', f = f' + 1 := ⟨f - 1, by have := HF.out; omega⟩
      have hbad := scL_bad (f := f') hc
      have htok := scL_tok (f := f') hc
      have hskip := scL_skip (f := f') hc
      by_cases h1 : s[a].toNat = 32 ∨ s[a].toNat = 10
      · have hx : nxS s.data.toList a s[a] = ⟨0, [], a + 1, true⟩ := if_pos h1
        rw [hx] at hskip
        have hb := hskip rfl (by simp)
        have HE2 := Lib.hid (show L ++ (scL s.data.toList f' (a + 1)).1 = (scT s.data.toList).1 ∧ (scL s.data.toList f' (a + 1)).2 = (scT s.data.toList).2 by have h := HE.out; rw [hb] at h; exact h)
        have HF2 := Lib.hid (show s.size - (a + 1) < f' by have := HF.out; omega)
        clear hbad htok hskip hx hb hc HE HF
        rcases h1 with h1 | h1
        all_goals
          go_wp2_with fail
          go_roundw
          case rel => exact ⟨a + 1, f', n, a1, c1, L, rfl, by rw [show ((a + 1 : Nat) : Int) = (a : Int) + 1 by omega], by omega, by omega, hbl, HF2, HE2, HO⟩
          case measure => simp [intOf]; omega
      · have g32 : ((s[a].toNat : Int) == 32) = false := by rw [beq_eq_false_iff_ne]; omega
        have g10 : ((s[a].toNat : Int) == 10) = false := by rw [beq_eq_false_iff_ne]; omega
        by_cases h2 : s[a].toNat = 35
        · have g35 : ((s[a].toNat : Int) == 35) = true := by rw [beq_iff_eq]; omega
          have hx : nxS s.data.toList a s[a] = ⟨0, [], a + runL no10 (s.data.toList.drop a), true⟩ := by rw [nxS, if_neg h1, if_pos h2]
          rw [hx] at hskip
          have hb := hskip rfl (by simp)
          have hda : (s.data.toList.drop a)[0]? = some s[a] := by rw [List.getElem?_drop, Nat.add_zero]; exact hc
          have HP := Lib.hid (runL_pos (p := no10) hda (by simp [no10, h2]))
          have hdl : (s.data.toList.drop a).length = s.size - a := by simp
          have HDL := Lib.hid hdl
          obtain ⟨kk, hkk⟩ : ∃ kk, kk = runL no10 (s.data.toList.drop a) := ⟨_, rfl⟩
          rw [← hkk] at hb
          have HE2 := Lib.hid (show L ++ (scL s.data.toList f' (a + kk)).1 = (scT s.data.toList).1 ∧ (scL s.data.toList f' (a + kk)).2 = (scT s.data.toList).2 by have h := HE.out; rw [hb] at h; exact h)
          have HF2 := Lib.hid (show s.size - (a + kk) < f' by have := HF.out; have := HP.out; omega)
          have HP2 := Lib.hid (show 1 ≤ kk by have := HP.out; omega)
          have HKK := Lib.hid hkk
          clear hbad htok hskip hx hb hc HE HF h1 h2 hda hdl hkk HP
          go_wp2_with fail
          go_loop [5] (fun s5 => ∃ k : Nat, s5 = .int .i64 ((a + k : Nat) : Int) ∧ a + k ≤ s.size ∧ Hid (((s.data.toList.drop a).take k).all no10 = true)) (fun s5 => s.size - (intOf s5).toNat)
          case atStart => exact ⟨0, rfl, by omega, Lib.hid rfl⟩
          case round =>
            obtain ⟨k, rfl, hk, A⟩ := hrel
            by_cases hlt9 : a + k < s.size
            · have hlt2 : ((a + k : Nat) : Int) < (s.size : Int) := by omega
              have hlt0 : (0 : Int) ≤ ((a + k : Nat) : Int) := by omega
              have Hc := Lib.hid (show (s.data.toList.drop a)[k]? = some s[a + k] by rw [List.getElem?_drop]; exact str_get hlt9)
              have hu2 := s[a + k].toNat_lt
              by_cases hq : s[a + k].toNat = 10
              · have gq : ((s[a + k].toNat : Int) != 10) = false := by rw [bne_eq_false_iff_eq]; omega
                have HKE := Lib.hid (show kk = k by rw [HKK.out]; exact runL_eq (by rw [HDL.out]; omega) A.out (fun c hc => by rw [Hc.out] at hc; cases hc; simp [no10, hq]))
                clear hq
                go_wp2_with fail
                go_roundw
                case rel => exact ⟨a + k, f', n, a1, c1, L, rfl, rfl, by omega, by omega, hbl, by rw [← HKE.out]; exact HF2, by rw [← HKE.out]; exact HE2, HO⟩
                case measure => simp [intOf]; have := HKE.out; have := HP2.out; omega
              · have gq : ((s[a + k].toNat : Int) != 10) = true := by rw [bne_iff_ne]; omega
                have HA := Lib.hid (all_take_step Hc.out A.out (by simp [no10, hq]))
                clear hq
                go_wp2_with fail
                go_round
                case rel => exact ⟨k + 1, by rw [show ((a + (k + 1) : Nat) : Int) = (a : Int) + k + 1 by omega], by omega, HA⟩
                case measure => simp [intOf]; omega
            · have hlt2 : ¬ ((a + k : Nat) : Int) < (s.size : Int) := by omega
              have HKE := Lib.hid (show kk = k by rw [HKK.out]; exact runL_eq (by rw [HDL.out]; omega) A.out (fun c hc => by have := (List.getElem?_eq_some_iff.1 hc).1; rw [HDL.out] at this; omega))
              go_wp2_with fail
              go_roundw
              case rel => exact ⟨a + k, f', n, a1, c1, L, rfl, rfl, by omega, by omega, hbl, by rw [← HKE.out]; exact HF2, by rw [← HKE.out]; exact HE2, HO⟩
              case measure => simp [intOf]; have := HKE.out; have := HP2.out; omega
        · have g35 : ((s[a].toNat : Int) == 35) = false := by rw [beq_eq_false_iff_ne]; omega
          have hx := nx_same hc h1 h2
          have he := nx_e hc
          have hk := nx_k (l := s.data.toList) (a := a) (c := s[a])
          have ht := nx_t hc
          have KN := impl_next (w := wr) (HLV.out.keep hbl) hlt hz
          have h0 : 0 < (nxI s.data.toList a s[a]).k := by
            rw [nxI]; split
            · simp
            · split <;> simp
          rw [hx] at hbad htok he hk ht
          rw [str_len] at he ht
          generalize nxI s.data.toList a s[a] = x at *
          obtain ⟨xk, xt, xo⟩ := x
          simp only at he hk ht hbad htok h0
          cases xo
          · have hb := hbad rfl
            have HE2 := Lib.hid (show L = (scT s.data.toList).1 ∧ (a : Int) = (scT s.data.toList).2 by have h := HE.out; rw [hb] at h; simpa using h)
            have HK := Lib.hid KN
            clear hb hbad htok hskip KN HE hc ht hx h1 h2
            go_wp2_with fail
            refine Calls.mono HK.out ?_
            rintro e w1 ⟨rfl, hb1⟩
            have hs1 := hb1.size
            have hbl1 := below_callS hbl hb1
            go_wp2
            exact bodyPost_ret (v := .tuple #[.slice none 0 0, .int .i64 (a : Int)]) (by simp [results, Tryz.results64, go_sem]) rfl ⟨0, none, 0, by rw [← HE2.out.2], bel, by rw [scO, if_pos (by rw [← HE2.out.2]; omega)]; exact OwnTk.nil _ _, by omega⟩
          · have hb := htok rfl h0
            have HE2 := Lib.hid (show (L ++ [⟨xk, strL xt⟩]) ++ (scL s.data.toList f' (a + xt.length)).1 = (scT s.data.toList).1 ∧ (scL s.data.toList f' (a + xt.length)).2 = (scT s.data.toList).2 by have h := HE.out; rw [hb] at h; simpa using h)
            have HK := Lib.hid KN
            have hxok : (⟨xk, strL xt⟩ : TR).ok := show I64 xk ∧ (strL xt).size ≤ maxLen from ⟨by unfold I64; omega, by rw [strL_size]; unfold maxLen; omega⟩
            have HX := Lib.hid hxok
            have HF2 := Lib.hid (show s.size - (a + xt.length) < f' by have := HF.out; omega)
            obtain ⟨S, hS⟩ : ∃ S, S = strL xt := ⟨_, rfl⟩
            have hSz : S.size = xt.length := by rw [hS, strL_size]
            rw [← hS] at HK HX HE2
            generalize xt.length = m at *
            clear hb hbad htok hskip KN HE hc ht hS hxok HF hx h1 h2
            go_wp2_with fail
            refine Calls.mono HK.out ?_
            rintro e w1 ⟨rfl, hb1⟩
            have hs1 := hb1.size
            have HO1 := Lib.hid (HO.out.keep hb1)
            have hbl1 := below_callS hbl hb1
            clear hb1 HK
            have hfl := Lib.hid (flats1 (w := w1.alloc (.cells #[.int .i64 xk, .string S] 88)) HX.out 88)
            simp at hfl
            go_wp2_with (at_builtin; refine appendL_F rfl _ _ 36 88 rfl Tryz.underlying36 Tryz.infoTk rfl (by decide) (by decide) TR.one w.heap.size _ _ _ _ (HO1.out.keep (show Below w1.heap.size w1 _ from bel)) rfl _ _ _ _ rfl hfl.out (by omega) (by omega) (by simp; omega) ?_; intro a3 c3 w3 hown3 hb3 hg3 hn3; have hbl3 : Below w.heap.size w w3 := Below.trans bel hb3; have hB3 := ((Blk.made w1 #[.int .i64 xk, .string S] 88).keep (show Below _ _ (World.alloc _ (.cells #[.int .i64 xk, .string S] 88)) from bel)).keepG hg3 (fun e => by have := (HO1.out.1.lt _ e).2; omega); have x1 := hB3.cell 1; have x2 := hB3.lt; simp at x1; have HB3 := Lib.hid hB3; clear hB3; have Hown3 := Lib.hid hown3; clear hown3 hg3 hn3 hb3 hfl)
            go_roundw
            case rel => exact ⟨a + m, f', n + 1, a3, c3, L ++ [⟨xk, S⟩], rfl, congrArg _ (by omega), by omega, by omega, hbl3, HF2, HE2, Hown3⟩
            case measure => simp [intOf]; omega
    · obtain rfl : a = s.size := by omega
      have hlt' : ¬ (s.size : Int) < (s.size : Int) := by omega
      have HE2 := Lib.hid (show L = (scT s.data.toList).1 ∧ -1 = (scT s.data.toList).2 by have h := HE.out; rw [scL_none (by rw [List.getElem?_eq_none_iff, str_len]; exact Nat.le_refl _)] at h; simpa using h)
      go_wp2
      exact bodyPost_ret (v := .tuple #[.slice a1 n c1, .int .i64 (-1)]) (by simp [results, Tryz.results64, go_sem]) rfl ⟨n, a1, c1, by rw [← HE2.out.2], hbl, by rw [scO, if_neg (by rw [← HE2.out.2]; omega), ← HE2.out.1]; exact HO.out, hna⟩
set_option maxHeartbeats 1000000 in
theorem impl_FirstBadByte {s : ByteArray} {w : World} (hL : LV w) (hz : s.size ≤ 1048576) : Calls Tryz.prog 19 #[.string s] w fun e w' => e = .returned (.tuple #[.int .i64 (ftC s).1, .int .i64 (ftC s).2]) ∧ Below w.heap.size w w' := by
  by_cases h : 6000 < s.size
  · have HC := Lib.hid (show ftC s = (0, 3) from if_pos h)
    have h' : 6000 < (s.size : Int) := by omega
    go_enter Tryz.func19, Tryz.ntmps19
    go_wp2
    exact bodyPost_ret (v := .tuple #[.int .i64 0, .int .i64 3]) (by simp [results, Tryz.results19, go_sem]) rfl ⟨by rw [HC.out], bel⟩
  · have HC := Lib.hid (show ftC s = ((scT s.data.toList).2, 0) from if_neg h)
    have h' : ¬ 6000 < (s.size : Int) := by omega
    have HK := Lib.hid (impl_scan hL hz)
    clear hL
    go_enter Tryz.func19, Tryz.ntmps19
    go_wp2_with fail
    refine Calls.mono HK.out ?_
    rintro e w1 ⟨n, a, c, rfl, hb1, ho, hn⟩
    clear ho
    go_wp2
    exact bodyPost_ret (v := .tuple #[.int .i64 (scT s.data.toList).2, .int .i64 0]) (by simp [results, Tryz.results19, go_sem]) rfl ⟨by rw [HC.out], hb1⟩
set_option maxHeartbeats 1000000 in
theorem impl_ReadTokens {s : ByteArray} {w : World} (hL : LV w) (hz : s.size ≤ 1048576) : Calls Tryz.prog 17 #[.string s] w fun e w' => ∃ n a c, e = .returned (.tuple #[.slice a n c, .int .i64 (rtC s)]) ∧ Below w.heap.size w w' ∧ OwnTk w' w.heap.size a n c (rtL s) := by
  have HNIL := Lib.hid (fun wx => OwnTk.nil wx w.heap.size)
  by_cases h : 6000 < s.size
  · have HC := Lib.hid (show rtC s = 3 ∧ rtL s = [] from ⟨if_pos h, if_pos h⟩)
    have h' : 6000 < (s.size : Int) := by omega
    go_enter Tryz.func17, Tryz.ntmps17
    go_wp2
    exact bodyPost_ret (v := .tuple #[.slice none 0 0, .int .i64 3]) (by simp [results, Tryz.results17, go_sem]) rfl ⟨0, none, 0, by rw [HC.out.1], bel, by rw [HC.out.2]; exact HNIL.out _⟩
  · have h' : ¬ 6000 < (s.size : Int) := by omega
    have hc : rtC s = (if 0 ≤ (scT s.data.toList).2 then 6 else if 800 < (scT s.data.toList).1.length then 3 else 0) ∧ rtL s = (if 0 ≤ (scT s.data.toList).2 then [] else if 800 < (scT s.data.toList).1.length then [] else (scT s.data.toList).1) := ⟨if_neg h, if_neg h⟩
    have hk := impl_scan hL hz
    have ho : scO s.data.toList = if 0 ≤ (scT s.data.toList).2 then [] else (scT s.data.toList).1 := rfl
    generalize scO s.data.toList = L at *
    generalize scT s.data.toList = r at *
    obtain ⟨r1, r2⟩ := r
    simp only at hc hk ho
    have HK := Lib.hid hk
    clear hk hL
    by_cases h2 : 0 ≤ r2
    · rw [if_pos h2, if_pos h2] at hc
      have HC := Lib.hid hc
      clear hc ho
      go_enter Tryz.func17, Tryz.ntmps17
      go_wp2_with fail
      refine Calls.mono HK.out ?_
      rintro e w1 ⟨n, a, c, rfl, hb1, ho, hn⟩
      clear ho
      go_wp2
      exact bodyPost_ret (v := .tuple #[.slice none 0 0, .int .i64 6]) (by simp [results, Tryz.results17, go_sem]) rfl ⟨0, none, 0, by rw [HC.out.1], hb1, by rw [HC.out.2]; exact HNIL.out _⟩
    · rw [if_neg h2, if_neg h2] at hc
      rw [if_neg h2] at ho
      subst ho
      by_cases h3 : 800 < L.length
      · rw [if_pos h3, if_pos h3] at hc
        have HC := Lib.hid hc
        have H3 := Lib.hid h3
        clear hc h3
        go_enter Tryz.func17, Tryz.ntmps17
        go_wp2_with fail
        refine Calls.mono HK.out ?_
        rintro e w1 ⟨n, a, c, rfl, hb1, ho, hn⟩
        have hn3 : 800 < (n : Int) := by have h1 := ho.len; have h2 := H3.out; omega
        clear ho
        go_wp2
        exact bodyPost_ret (v := .tuple #[.slice none 0 0, .int .i64 3]) (by simp [results, Tryz.results17, go_sem]) rfl ⟨0, none, 0, by rw [HC.out.1], hb1, by rw [HC.out.2]; exact HNIL.out _⟩
      · rw [if_neg h3, if_neg h3] at hc
        have HC := Lib.hid hc
        have H3 := Lib.hid h3
        clear hc h3
        go_enter Tryz.func17, Tryz.ntmps17
        go_wp2_with fail
        refine Calls.mono HK.out ?_
        rintro e w1 ⟨n, a, c, rfl, hb1, ho, hn⟩
        have hn3 : ¬ 800 < (n : Int) := by have h1 := ho.len; have h2 := H3.out; omega
        have HO := Lib.hid ho
        clear ho
        go_wp2
        exact bodyPost_ret (v := .tuple #[.slice a n c, .int .i64 0]) (by simp [results, Tryz.results17, go_sem]) rfl ⟨n, a, c, by rw [HC.out.1], hb1, by rw [HC.out.2]; exact HO.out⟩
end Go.Proofs.YtjneodmohkpckaaGreatDoor
