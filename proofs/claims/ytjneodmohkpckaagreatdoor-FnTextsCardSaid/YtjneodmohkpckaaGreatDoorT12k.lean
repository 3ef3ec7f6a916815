/- Tokens of the program, walked. -/
import Derived.Test.YtjneodmohkpckaaGreatDoorT12j
namespace Go.Proofs.YtjneodmohkpckaaGreatDoor
open Go.RowKit
set_option linter.unusedVariables false
set_option linter.unusedSimpArgs false
/-- the token, or the wrong part, that begins at a place -/
structure PT where
  k : Int
  t : List UInt8
  ok : Bool
def nxI (l : List UInt8) (a : Nat) (c : UInt8) : PT :=
  if letP c = true then ⟨1, subL l a (a + runL innP (l.drop a)), wrdB (subL l a (a + runL innP (l.drop a)))⟩
  else if digP c = true then ⟨2, subL l a (a + runL digP (l.drop a)), numB (subL l a (a + runL digP (l.drop a))) && decide (runL luP (l.drop (a + runL digP (l.drop a))) = 0)⟩
  else ⟨3, [c], sgnP c⟩
theorem run_le (p : UInt8 → Bool) {s : ByteArray} {a : Nat} (h : a ≤ s.size) : a + runL p (s.data.toList.drop a) ≤ s.size := by
  have := runL_le p (s.data.toList.drop a)
  rw [List.length_drop, str_len] at this; omega
set_option maxHeartbeats 1000000 in
theorem impl_next_1 {bs : ByteArray} {p : UInt8 → Bool} (hp : ∀ c, inSet bs c = p c) {s : ByteArray} {a pb qb : Nat} {w : World} (has : a ≤ s.size) (hz : s.size ≤ 1048576) (c1 : w.cell? ⟨pb, 0, none⟩ = some (.string s)) (c2 : w.cell? ⟨qb, 0, none⟩ = some (.int .i64 (a : Int))) (l1 : pb < w.heap.size) (l2 : qb < w.heap.size) :
    Calls Tryz.prog 148 #[.string bs, .pointer (some ⟨pb, 0, none⟩), .pointer (some ⟨qb, 0, none⟩)] w fun e w' => e = .returned (.string (strL (subL s.data.toList a (a + runL p (s.data.toList.drop a))))) ∧ Below w.heap.size w w' := by
  have hk := fun (wx : World) => run_set hp (s := s) (a := a) (ai := (a : Int)) (w := wx) rfl has hz
  have hle := run_le p has
  generalize runL p (s.data.toList.drop a) = k at *
  have hsl := fun wq => run_sub s a k wq hle
  generalize strL (subL s.data.toList a (a + k)) = T at *
  have HK := Lib.hid hk
  clear hk
  go_enter Tryz.func148, Tryz.ntmps148
  go_wp2_with fail
  go_quiet ((go_at_call 146; exact Calls.mono (HK.out _) (fun _ _ h => ⟨h.1, _, h.2.symm⟩)))
  go_wp2
  go_ret
  exact ⟨rfl, bel⟩
set_option maxHeartbeats 4000000 in
set_option maxRecDepth 100000 in
theorem impl_next {s : ByteArray} {a : Nat} {w : World} (hL : LV w) (ha : a < s.size) (hz : s.size ≤ 1048576) :
    Calls Tryz.prog 120 #[.string s, .int .i64 (a : Int)] w fun e w' => e = .returned (.tuple #[.agg #[.int .i64 (nxI s.data.toList a s[a]).k, .string (strL (nxI s.data.toList a s[a]).t)], .bool (nxI s.data.toList a s[a]).ok]) ∧ Below w.heap.size w w' := by
  have hlt' : (a : Int) < (s.size : Int) := by omega
  have ha0 : (0 : Int) ≤ (a : Int) := by omega
  have hu := s[a].toNat_lt
  have kL := fun (wx : World) => idx_set inset_let s[a] wx
  have hN : nxI s.data.toList a s[a] = _ := rfl
  cases h1 : letP s[a]
  · simp only [h1] at kL
    have KL := Lib.hid kL
    clear kL
    have kD := fun (wx : World) => idx_set inset_dig s[a] wx
    cases h2 : digP s[a]
    · have HN := Lib.hid (show nxI s.data.toList a s[a] = ⟨3, [s[a]], sgnP s[a]⟩ by rw [nxI, h1, h2]; rfl)
      simp only [h2] at kD
      have KD := Lib.hid kD
      have KS := Lib.hid (fun (wx : World) => idx_set inset_sgn s[a] wx)
      have hsl := fun wq => run_sub1 s a wq ha
      rw [← IntWalk.i64_in ((a : Int) + 1) (by omega)] at hsl
      clear kD h1 h2 hN hL
      go_enter Tryz.func120, Tryz.ntmps120
      go_wp2_with fail
      refine Calls.mono (KL.out _) ?_
      rintro e _ ⟨r1, rfl, hr1, rfl⟩
      go_wp2_with fail
      refine Calls.mono (KD.out _) ?_
      rintro e _ ⟨r2, rfl, hr2, rfl⟩
      go_wp2_with fail
      refine wp_region_noPanic ?_
      refine wp_region_held_drew (S := fun wx => wx.cell? ⟨w.heap.size, 0, none⟩ = some (.string s) ∧ wx.cell? ⟨w.heap.size + 1, 0, none⟩ = some (.int .i64 (a : Int))) (by kernel_rfl) ?_ (fun hHeld => ?_)
      · constructor <;> first | (simp; done) | (go_simp; done) | (simp [World.cell?, World.alloc, Array.getElem?_push]; done)
      refine tkH 0 ?_
      try simp only [Act.put, s1, s2, s3]
      refine tkH 1 ?_
      try simp only [Act.put, s1, s2, s3]
      refine tkH 2 ?_
      try simp only [Act.put, s1, s2, s3]
      refine tkH 3 ?_
      try simp only [Act.put, s1, s2, s3]
      refine tkH 4 ?_
      try simp only [Act.put, s1, s2, s3]
      refine tkH 5 ?_
      try simp only [Act.put, s1, s2, s3]
      refine tkH 6 ?_
      try simp only [Act.put, s1, s2, s3]
      refine tkH 7 ?_
      try simp only [Act.put, s1, s2, s3]
      refine tkH 8 ?_
      try simp only [Act.put, s1, s2, s3]
      refine wpAnyH_ready (rs := [9]) (by kernel_rfl) (by simp) ?_
      refine AllReadyH.cons rfl (fun K hK => ?_) AllReadyH.nil
      go_simp
      refine Calls.mono (KS.out _) ?_
      rintro e _ ⟨r3, rfl, hr3, rfl⟩
      go_wp2_with fail
      refine hK.out _ _ hHeld (fun hHeld => ?_)
      clear hK K
      try simp only [Act.put, s1, s2, s3]
      refine tkH 10 ?_
      try simp only [Act.put, s1, s2, s3]
      refine wpAnyH_ready (rs := [11]) (by kernel_rfl) (by simp) ?_
      refine AllReadyH.cons rfl (fun K hK => ?_) AllReadyH.nil
      go_simp
      refine hK.out _ _ ?_ (fun hHeld => ?_)
      · obtain ⟨q1, q2⟩ := hHeld
        constructor <;> first | (simp [*]; done) | (go_simp; done) | (simp [World.cell?, World.alloc, Array.getElem?_push]; done)
      clear hK K
      try simp only [Act.put, s1, s2, s3]
      refine tkH 12 ?_
      try simp only [Act.put, s1, s2, s3]
      refine wpAnyH_done (by kernel_rfl) ?_ _
      refine NoPanic.normal ?_
      go_wp2
      exact bodyPost_ret (v := .tuple #[.agg #[.int .i64 3, .string ⟨#[s[a]]⟩], .bool (sgnP s[a])]) (by simp [results, Tryz.results120, go_sem, *]) rfl ⟨by rw [HN.out]; simp [strL], bel⟩
    · have HN := Lib.hid (show nxI s.data.toList a s[a] = ⟨2, subL s.data.toList a (a + runL digP (s.data.toList.drop a)), numB (subL s.data.toList a (a + runL digP (s.data.toList.drop a))) && decide (runL luP (s.data.toList.drop (a + runL digP (s.data.toList.drop a))) = 0)⟩ by rw [nxI, h1, h2]; rfl)
      simp only [h2] at kD
      have KD := Lib.hid kD
      have KC := Lib.hid (fun (wx : World) (pb qb : Nat) => impl_next_1 inset_dig (s := s) (a := a) (pb := pb) (qb := qb) (w := wx) (by omega) hz)
      have hle := run_le digP (s := s) (a := a) (by omega)
      clear kD h1 h2 hN
      generalize runL digP (s.data.toList.drop a) = k at *
      have hlen : (strL (subL s.data.toList a (a + k))).size = k := by rw [strL_size, sub_len (by omega) hle]; omega
      obtain ⟨T, hT⟩ : ∃ T, T = strL (subL s.data.toList a (a + k)) := ⟨_, rfl⟩
      rw [← hT] at hlen KC
      have hTz : T.size ≤ 1048576 := by omega
      have hTs : (T.size : Int) = (k : Int) := by omega
      have HB := Lib.hid (show numB T.data.toList = numB (subL s.data.toList a (a + k)) by rw [hT, strL_list])
      have HT := Lib.hid hT
      have kw := fun (wx : World) (hb : Below w.heap.size w wx) => impl_isCount (s := T) (w := wx) (hL.keep hb) hTz
      have KR := Lib.hid (fun (wx : World) => run_set inset_lu (s := s) (a := a + k) (ai := (a : Int) + (k : Int)) (w := wx) (by omega) hle hz)
      clear hT hL
      cases hq : numB T.data.toList
      all_goals
        simp only [hq] at kw
        have KW := Lib.hid kw
        have HQ := Lib.hid hq
        clear kw hq
        generalize runL luP (s.data.toList.drop (a + k)) = j at *
        go_enter Tryz.func120, Tryz.ntmps120
        go_wp2_with fail
        refine Calls.mono (KL.out _) ?_
        rintro e _ ⟨r1, rfl, hr1, rfl⟩
        go_wp2_with fail
        refine Calls.mono (KD.out _) ?_
        rintro e _ ⟨r2, rfl, hr2, rfl⟩
        go_wp2_with fail
        refine Calls.mono (KC.out _ _ _ ?_ ?_ ?_ ?_) ?_
        · first | (simp; done) | (go_simp; done) | (simp [World.cell?, World.alloc, Array.getElem?_push]; done)
        · first | (simp; done) | (go_simp; done) | (simp [World.cell?, World.alloc, Array.getElem?_push]; done)
        · first | (simp; done) | (simp; omega)
        · first | (simp; done) | (simp; omega)
        rintro e w1 ⟨rfl, hb1⟩
        obtain ⟨hc1, hf1⟩ := bcell hb1
        have hs1 := hb1.size
        simp at hs1
        have y1 : w.heap.size < w1.heap.size := by omega
        have y2 : w.heap.size + 1 < w1.heap.size := by omega
        have y3 : w.heap.size + 1 + 1 < w1.heap.size := by omega
        go_wp2_with fail
        refine Calls.mono (KW.out _ bel) ?_
        rintro e w2 ⟨rfl, hb2⟩
        obtain ⟨hc2, hf2⟩ := bcell hb2
        have hs2 := hb2.size
        have z1 : w.heap.size < w2.heap.size := by omega
        have z2 : w.heap.size + 1 < w2.heap.size := by omega
        have z3 : w.heap.size + 1 + 1 < w2.heap.size := by omega
      · go_wp2
        exact bodyPost_ret (v := .tuple #[.agg #[.int .i64 2, .string T], .bool false]) (by simp [results, Tryz.results120, go_sem, *]) rfl ⟨by rw [HN.out, ← HT.out, ← HB.out, HQ.out]; simp, bel⟩
      · go_wp2_with fail
        go_wp2_with fail
        refine Calls.mono (KR.out _) ?_
        rintro e _ ⟨rfl, rfl⟩
        by_cases hj : j = 0
        · have hj1 : ((j : Int) == 0) = true := by rw [beq_iff_eq]; omega
          have HJ := Lib.hid hj
          clear hj
          go_wp2
          exact bodyPost_ret (v := .tuple #[.agg #[.int .i64 2, .string T], .bool true]) (by simp [results, Tryz.results120, go_sem, *]) rfl ⟨by rw [HN.out, ← HT.out, ← HB.out, HQ.out, HJ.out]; simp, bel⟩
        · have hj1 : ((j : Int) == 0) = false := by rw [beq_eq_false_iff_ne]; omega
          have HJ := Lib.hid (show decide (j = 0) = false by simp [hj])
          clear hj
          go_wp2
          exact bodyPost_ret (v := .tuple #[.agg #[.int .i64 2, .string T], .bool false]) (by simp [results, Tryz.results120, go_sem, *]) rfl ⟨by rw [HN.out, ← HT.out, ← HB.out, HQ.out, HJ.out]; simp, bel⟩
  · have HN := Lib.hid (show nxI s.data.toList a s[a] = ⟨1, subL s.data.toList a (a + runL innP (s.data.toList.drop a)), wrdB (subL s.data.toList a (a + runL innP (s.data.toList.drop a)))⟩ by rw [nxI, h1]; rfl)
    simp only [h1] at kL
    have KL := Lib.hid kL
    clear kL h1 hN hL
    have KC := Lib.hid (fun (wx : World) (pb qb : Nat) => impl_next_1 inset_inn (s := s) (a := a) (pb := pb) (qb := qb) (w := wx) (by omega) hz)
    have hle := run_le innP (s := s) (a := a) (by omega)
    generalize runL innP (s.data.toList.drop a) = k at *
    have hTz : (strL (subL s.data.toList a (a + k))).size ≤ 1048576 := by rw [strL_size, sub_len (by omega) hle]; omega
    obtain ⟨T, hT⟩ : ∃ T, T = strL (subL s.data.toList a (a + k)) := ⟨_, rfl⟩
    have HB := Lib.hid (show wrdB T.data.toList = wrdB (subL s.data.toList a (a + k)) by rw [hT, strL_list])
    rw [← hT] at hTz KC
    have HT := Lib.hid hT
    have KW := Lib.hid (fun (wx : World) => impl_isWord (s := T) (w := wx) hTz)
    clear hT
    go_enter Tryz.func120, Tryz.ntmps120
    go_wp2_with fail
    refine Calls.mono (KL.out _) ?_
    rintro e _ ⟨r1, rfl, hr1, rfl⟩
    go_wp2_with fail
    refine Calls.mono (KC.out _ _ _ ?_ ?_ ?_ ?_) ?_
    · first | (simp; done) | (go_simp; done) | (simp [World.cell?, World.alloc, Array.getElem?_push]; done)
    · first | (simp; done) | (go_simp; done) | (simp [World.cell?, World.alloc, Array.getElem?_push]; done)
    · first | (simp; done) | (simp; omega)
    · first | (simp; done) | (simp; omega)
    rintro e w1 ⟨rfl, hb1⟩
    obtain ⟨hc1, hf1⟩ := bcell hb1
    have hs1 := hb1.size
    simp at hs1
    go_wp2_with fail
    go_wp2_with fail
    refine Calls.mono (KW.out _) ?_
    rintro e _ ⟨rfl, rfl⟩
    go_wp2
    exact bodyPost_ret (v := .tuple #[.agg #[.int .i64 1, .string T], .bool (wrdB T.data.toList)]) (by simp [results, Tryz.results120, go_sem, *]) rfl ⟨by rw [HN.out, ← HT.out, ← HB.out], bel⟩
end Go.Proofs.YtjneodmohkpckaaGreatDoor
