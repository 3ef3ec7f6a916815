/- Tokens of the reference, walked. -/
import Derived.Test.YtjneodmohkpckaaGreatDoorT12s
import Derived.Laws.Strings2
namespace Go.Proofs.YtjneodmohkpckaaGreatDoor
open Go.RowKit
set_option linter.unusedVariables false
set_option linter.unusedSimpArgs false
theorem str_get {s : ByteArray} {k : Nat} (h : k < s.size) : s.data.toList[k]? = some s[k] := by
  rw [List.getElem?_eq_getElem (by simpa using h)]; rfl
theorem str_len (s : ByteArray) : s.data.toList.length = s.size := by simp
theorem wrdB_eq {l : List UInt8} {n : Nat} (h : l.length = n) : wrdB l = (inB (n : Int) 1 12 && (l.head?.any letP && l.all innP)) := by
  rw [wrdB, h, inB]
  congr 1
  congr 1
  · exact decide_eq_decide.2 (by omega)
  · exact decide_eq_decide.2 (by omega)
set_option maxHeartbeats 1000000 in
theorem spec_l12Word {s : ByteArray} {w : World} (hz : s.size ≤ 1048576) : Calls Tryz.prog 140 #[.string s] w fun e w' => e = .returned (.bool (wrdB s.data.toList)) ∧ w = w' := by
  have HW := Lib.hid (wrdB_eq (str_len s))
  go_enter Tryz.func140, Tryz.ntmps140
  go_wp2_with fail
  go_loop [2, 3] (fun _ s3 => ∃ k : Nat, k ≤ s.size ∧ s3 = .int .i64 k ∧ Hid ((s.data.toList.take k).all innP = true)) (fun _ s3 => s.size - (intOf s3).toNat)
  case atStart => exact ⟨0, Nat.zero_le _, rfl, Lib.hid rfl⟩
  case round =>
    obtain ⟨k, hk, rfl, A⟩ := hrel
    by_cases hlt : k < s.size
    · have hlt' : (k : Int) < (s.size : Int) := by omega
      have hk0 : (0 : Int) ≤ (k : Int) := by omega
      have Hc := Lib.hid (str_get hlt)
      have kI := fun (wx : World) => spec_l12Inner (c := s[k]) (w := wx)
      cases hp : innP s[k]
      · rw [hp] at kI
        have HB := Lib.hid (show wrdB s.data.toList = false by rw [HW.out, all_take_false Hc.out hp, Bool.and_false, Bool.and_false])
        have KI := Lib.hid kI
        clear kI hp
        go_wp2_with fail
        go_wp2_with fail
        refine Calls.mono (KI.out _) ?_
        rintro e _ ⟨rfl, rfl⟩
        go_wp2
        go_ret
        exact ⟨ret_bool HB.out.symm, rfl⟩
      · rw [hp] at kI
        have HA := Lib.hid (all_take_step Hc.out A.out hp)
        have KI := Lib.hid kI
        clear kI hp A
        go_wp2_with fail
        go_wp2_with fail
        refine Calls.mono (KI.out _) ?_
        rintro e _ ⟨rfl, rfl⟩
        go_wp2_with fail
        go_round
        case rel => exact ⟨k + 1, by omega, by go_num, HA⟩
        case measure => simp [intOf]; omega
    · obtain rfl : k = s.size := by omega
      have hlt' : ¬ (s.size : Int) < (s.size : Int) := by omega
      have hA := A.out
      rw [List.take_of_length_le (by rw [str_len]; exact Nat.le_refl _)] at hA
      have kin := fun (wx : World) => spec_l01In (x := (s.size : Int)) (lo := 1) (hi := 12) (w := wx)
      cases hr : inB (s.size : Int) 1 12
      · simp only [hr] at kin
        have HB := Lib.hid (show wrdB s.data.toList = false by rw [HW.out, hr]; rfl)
        have KIN := Lib.hid kin
        clear kin hr hA
        go_wp2_with fail
        go_wp2_with fail
        refine Calls.mono (KIN.out _) ?_
        rintro e _ ⟨rfl, rfl⟩
        go_wp2
        go_ret
        exact ⟨ret_bool HB.out.symm, rfl⟩
      · simp only [hr] at kin
        have hr2 := hr
        simp [inB] at hr2
        have hlt0 : 0 < s.size := by omega
        have hlt0' : (0 : Int) < (s.size : Int) := by omega
        have hc0 := str_get hlt0
        have HB := Lib.hid (show wrdB s.data.toList = letP s[0] by rw [HW.out, hr, hA, List.head?_eq_getElem?, hc0]; simp)
        have KL := Lib.hid (fun (wx : World) => spec_l12Letter (c := s[0]) (w := wx))
        have KIN := Lib.hid kin
        clear kin hr hA hr2 hc0
        go_wp2_with fail
        go_wp2_with fail
        refine Calls.mono (KIN.out _) ?_
        rintro e _ ⟨rfl, rfl⟩
        go_wp2_with fail
        go_wp2_with fail
        refine Calls.mono (KL.out _) ?_
        rintro e _ ⟨rfl, rfl⟩
        go_wp2
        go_ret
        exact ⟨ret_bool HB.out.symm, rfl⟩
theorem spec_l12Sign {c : UInt8} {w : World} : Calls Tryz.prog 100 #[.string ⟨#[c]⟩] w fun e w' => e = .returned (.bool (sgnP c)) ∧ w = w' := by
  have q := fun (d : UInt8) => str_eq (a := ⟨#[c]⟩) (b := ⟨#[d]⟩)
  have hs : sgnP c = (decide (c = 61) || decide (c = 40) || decide (c = 41) || decide (c = 44) || decide (c = 59)) := by
    have h : ∀ n : Fin 256, sgnP (UInt8.ofNat n.val) = (decide (UInt8.ofNat n.val = 61) || decide (UInt8.ofNat n.val = 40) || decide (UInt8.ofNat n.val = 41) || decide (UInt8.ofNat n.val = 44) || decide (UInt8.ofNat n.val = 59)) := by decide +kernel
    have := h ⟨c.toNat, c.toNat_lt⟩
    simpa using this
  have q1 := q 61
  have q2 := q 40
  have q3 := q 41
  have q4 := q 44
  have q5 := q 59
  simp at q1 q2 q3 q4 q5
  go_enter Tryz.func100, Tryz.ntmps100
  go_wp2
  all_goals
    go_ret
    refine ⟨ret_bool ?_, rfl⟩
    first | exact decide_eq_decide.2 Iff.rfl | decide | (rw [hs]; simp [*]; done)
/-- a token as it is meant: its kind (0: none), its text, its end, whether it is right -/
structure TN where
  k : Int
  t : List UInt8
  e : Nat
  ok : Bool
def subL (l : List UInt8) (a e : Nat) : List UInt8 := (l.drop a).take (e - a)
def no10 (c : UInt8) : Bool := decide (c.toNat ≠ 10)
def nxS (l : List UInt8) (a : Nat) (c : UInt8) : TN :=
  if c.toNat = 32 ∨ c.toNat = 10 then ⟨0, [], a + 1, true⟩
  else if c.toNat = 35 then ⟨0, [], a + runL no10 (l.drop a), true⟩
  else if letP c = true then ⟨1, subL l a (a + runL innP (l.drop a)), a + runL innP (l.drop a), wrdB (subL l a (a + runL innP (l.drop a)))⟩
  else if digP c = true then ⟨2, subL l a (a + runL digP (l.drop a)), a + runL digP (l.drop a), numB (subL l a (a + runL digP (l.drop a))) && !(l[a + runL digP (l.drop a)]?.any innP)⟩
  else ⟨3, [c], a + 1, sgnP c⟩
def strL (l : List UInt8) : ByteArray := ⟨l.toArray⟩
theorem ext_sub (s : ByteArray) (a e : Nat) : s.extract a e = strL (subL s.data.toList a e) := by
  have h : s = ⟨s.data.toList.toArray⟩ := by cases s; simp
  conv => lhs; rw [h]
  rw [ByteArray.extract_mk]
  rfl
theorem sub_len {s : ByteArray} {a e : Nat} (h1 : a ≤ e) (h2 : e ≤ s.size) : (subL s.data.toList a e).length = e - a := by
  rw [subL, List.length_take, List.length_drop, str_len]; omega
theorem strL_list (l : List UInt8) : (strL l).data.toList = l := by simp [strL]
theorem strL_size (l : List UInt8) : (strL l).size = l.length := by simp [strL, ByteArray.size]
theorem run_sub (s : ByteArray) (a k : Nat) (w : World) (h : a + k ≤ s.size) : (Instr.slice 9 (.string s) (some (.int .i64 (a : Int))) (some (.int .i64 ((a : Int) + (k : Int)))) none).run Tryz.prog w = .ok (.string (strL (subL s.data.toList a (a + k)))) w := by
  rw [run_slice_string (P := Tryz.prog) (t := 9) (s := s) (k := .i64) (k' := .i64) (i := (a : Int)) (j := (a : Int) + k) (h := Tryz.underlying9) (h0 := by omega) (h1 := by omega) (h2 := by omega), ← ext_sub]
  congr 3
theorem run_sub1 (s : ByteArray) (a : Nat) (w : World) (h : a < s.size) : (Instr.slice 9 (.string s) (some (.int .i64 (a : Int))) (some (.int .i64 ((a : Int) + 1))) none).run Tryz.prog w = .ok (.string ⟨#[s[a]]⟩) w := by
  have h1 := run_sub s a 1 w (by omega)
  have h2 : strL (subL s.data.toList a (a + 1)) = ⟨#[s[a]]⟩ := by
    rw [subL, show a + 1 - a = 1 by omega]
    have h3 : (s.data.toList.drop a)[0]? = some s[a] := by rw [List.getElem?_drop, Nat.add_zero]; exact str_get h
    rw [take_at h3]; rfl
  rw [h2] at h1
  exact h1
set_option maxHeartbeats 4000000 in
set_option maxRecDepth 20000 in
theorem spec_l12Next {s : ByteArray} {a : Nat} {w : World} (ha : a < s.size) (hz : s.size ≤ 1048576) :
    Calls Tryz.prog 121 #[.string s, .int .i64 (a : Int)] w fun e w' => e = .returned (.tuple #[.agg #[.int .i64 (nxS s.data.toList a s[a]).k, .string (strL (nxS s.data.toList a s[a]).t)], .int .i64 (nxS s.data.toList a s[a]).e, .bool (nxS s.data.toList a s[a]).ok]) ∧ Below w.heap.size w w' := by
  have hlt' : (a : Int) < (s.size : Int) := by omega
  have ha0 : (0 : Int) ≤ (a : Int) := by omega
  have hu := s[a].toNat_lt
  have kL := Lib.hid (fun (wx : World) => spec_l12Letter (c := s[a]) (w := wx))
  have kD := Lib.hid (fun (wx : World) => spec_l12Digit (c := s[a]) (w := wx))
  have hda : (s.data.toList.drop a)[0]? = some s[a] := by rw [List.getElem?_drop, Nat.add_zero]; exact str_get ha
  have hdl : (s.data.toList.drop a).length = s.size - a := by simp
  have HDA := Lib.hid hda
  have HDL := Lib.hid hdl
  clear hda hdl
  by_cases h1 : s[a].toNat = 32 ∨ s[a].toNat = 10
  · have HN := Lib.hid (show nxS s.data.toList a s[a] = ⟨0, [], a + 1, true⟩ from if_pos h1)
    rcases h1 with h1 | h1
    all_goals
      go_enter Tryz.func121, Tryz.ntmps121
      go_wp2
      exact bodyPost_ret (v := .tuple #[.agg #[.int .i64 0, .string ⟨#[]⟩], .int .i64 ((a : Int) + 1), .bool true]) (by simp [results, Tryz.results121, go_sem, *]) rfl ⟨by rw [HN.out]; rfl, bel⟩
  · have hn1 : nxS s.data.toList a s[a] = (if s[a].toNat = 35 then ⟨0, [], a + runL no10 (s.data.toList.drop a), true⟩ else if letP s[a] = true then ⟨1, subL s.data.toList a (a + runL innP (s.data.toList.drop a)), a + runL innP (s.data.toList.drop a), wrdB (subL s.data.toList a (a + runL innP (s.data.toList.drop a)))⟩ else if digP s[a] = true then ⟨2, subL s.data.toList a (a + runL digP (s.data.toList.drop a)), a + runL digP (s.data.toList.drop a), numB (subL s.data.toList a (a + runL digP (s.data.toList.drop a))) && !(s.data.toList[a + runL digP (s.data.toList.drop a)]?.any innP)⟩ else ⟨3, [s[a]], a + 1, sgnP s[a]⟩) := if_neg h1
    have g32 : ((s[a].toNat : Int) == 32) = false := by rw [beq_eq_false_iff_ne]; omega
    have g10 : ((s[a].toNat : Int) == 10) = false := by rw [beq_eq_false_iff_ne]; omega
    by_cases h2 : s[a].toNat = 35
    · rw [if_pos h2] at hn1
      have HN := Lib.hid hn1
      have HP := Lib.hid (show no10 s[a] = true by simp [no10]; omega)
      have g35 : ((s[a].toNat : Int) == 35) = true := by rw [beq_iff_eq]; omega
      clear hn1 h1 h2
      go_enter Tryz.func121, Tryz.ntmps121
      go_wp2_with fail
      go_loop [8] (fun s8 => ∃ k : Nat, 1 ≤ k ∧ s8 = .int .i64 ((a + k : Nat) : Int) ∧ a + k ≤ s.size ∧ Hid (((s.data.toList.drop a).take k).all no10 = true)) (fun s8 => s.size - (intOf s8).toNat)
      case atStart => exact ⟨1, by omega, by rw [show ((a + 1 : Nat) : Int) = (a : Int) + 1 by omega], by omega, Lib.hid (by rw [take_at HDA.out]; simp [HP.out])⟩
      case round =>
        obtain ⟨k, hk1, rfl, hk, A⟩ := hrel
        by_cases hlt : a + k < s.size
        · have hlt2 : ((a + k : Nat) : Int) < (s.size : Int) := by omega
          have hlt0 : (0 : Int) ≤ ((a + k : Nat) : Int) := by omega
          have Hc := Lib.hid (show (s.data.toList.drop a)[k]? = some s[a + k] by rw [List.getElem?_drop]; exact str_get hlt)
          have hu2 := s[a + k].toNat_lt
          by_cases hp : s[a + k].toNat = 10
          · have HE := Lib.hid (runL_eq (p := no10) (by rw [HDL.out]; omega) A.out (fun c hc => by rw [Hc.out] at hc; cases hc; simp [no10, hp]))
            have gq : ((s[a + k].toNat : Int) != 10) = false := by rw [hp]; rfl
            clear A
            go_wp2
            exact bodyPost_ret (v := .tuple #[.agg #[.int .i64 0, .string ⟨#[]⟩], .int .i64 ((a : Int) + k), .bool true]) (by simp [results, Tryz.results121, go_sem, *]) rfl ⟨by rw [HN.out, HE.out]; simp [strL], bel⟩
          · have HQ := Lib.hid (show no10 s[a + k] = true by simp [no10, hp])
            have gq : ((s[a + k].toNat : Int) != 10) = true := by rw [bne_iff_ne]; omega
            have HA := Lib.hid (all_take_step Hc.out A.out HQ.out)
            go_wp2_with fail
            go_round
            case rel => exact ⟨k + 1, by omega, by rw [show ((a + (k + 1) : Nat) : Int) = (a : Int) + k + 1 by omega], by omega, HA⟩
            case measure => simp [intOf]; omega
        · have hks : a + k = s.size := by omega
          have hlt2 : ¬ ((a + k : Nat) : Int) < (s.size : Int) := by omega
          have HE := Lib.hid (runL_eq (p := no10) (by rw [HDL.out]; omega) A.out (fun c hc => by have := (List.getElem?_eq_some_iff.1 hc).1; rw [HDL.out] at this; omega))
          have HX := Lib.hid (show s.data.toList[a + k]? = none by rw [List.getElem?_eq_none_iff, str_len]; omega)
          clear A hk hlt
          have HKS := Lib.hid hks
          clear hks
          go_wp2
          exact bodyPost_ret (v := .tuple #[.agg #[.int .i64 0, .string ⟨#[]⟩], .int .i64 ((a : Int) + k), .bool true]) (by simp [results, Tryz.results121, go_sem, *]) rfl ⟨by rw [HN.out, HE.out]; simp [strL], bel⟩
    · rw [if_neg h2] at hn1
      have g35 : ((s[a].toNat : Int) == 35) = false := by rw [beq_eq_false_iff_ne]; omega
      have kL2 := kL.out
      cases h3 : letP s[a]
      · have kD2 := kD.out
        rw [h3, if_neg (by decide)] at hn1
        simp only [h3] at kL2
        have KL2 := Lib.hid kL2
        cases h4 : digP s[a]
        · rw [h4, if_neg (by decide)] at hn1
          simp only [h4] at kD2
          have KD2 := Lib.hid kD2
          have HN := Lib.hid hn1
          have hsl := fun wq => run_sub1 s a wq ha
          obtain ⟨T, hT⟩ : ∃ T : ByteArray, T = ⟨#[s[a]]⟩ := ⟨_, rfl⟩
          simp only [← hT] at hsl
          have kw := fun (wx : World) => spec_l12Sign (c := s[a]) (w := wx)
          rw [← hT] at kw
          have KW := Lib.hid kw
          have HT := Lib.hid hT
          clear hn1 h1 h2 kL2 h3 kD2 h4 kw hT
          go_enter Tryz.func121, Tryz.ntmps121
          go_wp2_with fail
          go_wp2_with fail
          refine Calls.mono (KL2.out _) ?_
          rintro e _ ⟨rfl, rfl⟩
          go_wp2_with fail
          go_wp2_with fail
          refine Calls.mono (KD2.out _) ?_
          rintro e _ ⟨rfl, rfl⟩
          go_wp2_with fail
          refine wp_region_noPanic ?_
          refine wp_region_held_drew (S := fun _ => True) (by kernel_rfl) trivial (fun hHeld => ?_)
          refine tkH 0 ?_
          try simp only [Act.put, s1, s2, s3]
          refine tkH 1 ?_
          try simp only [Act.put, s1, s2, s3]
          refine tkH 2 ?_
          try simp only [Act.put, s1, s2, s3]
          refine tkH 3 ?_
          try simp only [Act.put, s1, s2, s3]
          refine tkH 4 ?_
          try simp only [Act.put, s1, s2, s3]
          refine tkH 5 ?_
          try simp only [Act.put, s1, s2, s3]
          refine tkH 6 ?_
          try simp only [Act.put, s1, s2, s3]
          refine tkH 7 ?_
          try simp only [Act.put, s1, s2, s3]
          refine tkH 8 ?_
          try simp only [Act.put, s1, s2, s3]
          refine tkH 9 ?_
          try simp only [Act.put, s1, s2, s3]
          refine wpAnyH_ready (rs := [10]) (by kernel_rfl) (by simp) ?_
          refine AllReadyH.cons rfl (fun K hK => ?_) AllReadyH.nil
          go_simp
          refine Calls.mono (KW.out _) ?_
          rintro e _ ⟨rfl, rfl⟩
          go_wp2_with fail
          refine hK.out _ _ trivial (fun hHeld => ?_)
          clear hK K
          try simp only [Act.put, s1, s2, s3]
          refine wpAnyH_ready (rs := [11]) (by kernel_rfl) (by simp) ?_
          refine AllReadyH.cons rfl (fun K hK => ?_) AllReadyH.nil
          go_simp
          refine hK.out _ _ trivial (fun hHeld => ?_)
          clear hK K
          try simp only [Act.put, s1, s2, s3]
          refine tkH 12 ?_
          try simp only [Act.put, s1, s2, s3]
          refine tkH 13 ?_
          try simp only [Act.put, s1, s2, s3]
          refine wpAnyH_done (by kernel_rfl) ?_ _
          refine NoPanic.normal ?_
          go_wp2
          exact bodyPost_ret (v := .tuple #[.agg #[.int .i64 3, .string T], .int .i64 ((a : Int) + 1), .bool (sgnP s[a])]) (by simp [results, Tryz.results121, go_sem, *]) rfl ⟨by rw [HN.out, HT.out]; simp [strL], bel⟩
        · rw [h4, if_pos rfl] at hn1
          simp only [h4] at kD2
          have KD2 := Lib.hid kD2
          have HN := Lib.hid hn1
          have HP := Lib.hid h4
          clear hn1 h1 h2 kL2 h3 kD2 h4
          go_enter Tryz.func121, Tryz.ntmps121
          go_wp2_with fail
          go_wp2_with fail
          refine Calls.mono (KL2.out _) ?_
          rintro e _ ⟨rfl, rfl⟩
          go_wp2_with fail
          go_wp2_with fail
          refine Calls.mono (KD2.out _) ?_
          rintro e _ ⟨rfl, rfl⟩
          go_wp2_with fail
          go_loop [8] (fun s8 => ∃ k : Nat, 1 ≤ k ∧ s8 = .int .i64 ((a + k : Nat) : Int) ∧ a + k ≤ s.size ∧ Hid (((s.data.toList.drop a).take k).all digP = true)) (fun s8 => s.size - (intOf s8).toNat)
          case atStart => exact ⟨1, by omega, by rw [show ((a + 1 : Nat) : Int) = (a : Int) + 1 by omega], by omega, Lib.hid (by rw [take_at HDA.out]; simp [HP.out])⟩
          case round =>
            obtain ⟨k, hk1, rfl, hk, A⟩ := hrel
            by_cases hlt : a + k < s.size
            · have hlt2 : ((a + k : Nat) : Int) < (s.size : Int) := by omega
              have hlt0 : (0 : Int) ≤ ((a + k : Nat) : Int) := by omega
              have Hc := Lib.hid (show (s.data.toList.drop a)[k]? = some s[a + k] by rw [List.getElem?_drop]; exact str_get hlt)
              have hu2 := s[a + k].toNat_lt
              have kI := fun (wx : World) => spec_l12Digit (c := s[a + k]) (w := wx)
              cases hq : digP s[a + k]
              · have HE := Lib.hid (runL_eq (p := digP) (by rw [HDL.out]; omega) A.out (fun c hc => by rw [Hc.out] at hc; cases hc; exact hq))
                have HQ := Lib.hid hq
                simp only [hq] at kI
                have KI := Lib.hid kI
                clear A hq kI
                go_wp2_with fail
                go_wp2_with fail
                refine Calls.mono (KI.out _) ?_
                rintro e _ ⟨rfl, rfl⟩
                have hsl := fun wq => run_sub s a k wq (by omega)
                obtain ⟨T, hT⟩ : ∃ T, T = strL (subL s.data.toList a (a + k)) := ⟨_, rfl⟩
                simp only [← hT] at hsl
                have hTz : T.size ≤ 1048576 := by rw [hT, strL_size, sub_len (by omega) (by omega)]; omega
                have kn := fun (wx : World) => spec_l12Number (s := T) (w := wx) (Nat.le_trans hTz (by unfold maxLen; omega))
                have hnT : numB T.data.toList = numB (subL s.data.toList a (a + k)) := by rw [hT, strL_list]
                have HT := Lib.hid hT
                clear hT
                cases hq1 : numB T.data.toList
                · simp only [hq1] at kn
                  have KN := Lib.hid kn
                  have HNT := Lib.hid (hnT.symm.trans hq1)
                  clear kn hnT hq1
                  go_wp2_with fail
                  refine Calls.mono (KN.out _) ?_
                  rintro e w1 ⟨rfl, hb1⟩
                  obtain ⟨hc1, hf1⟩ := bcell hb1
                  have hs1 := hb1.size
                  simp at hs1
                  have hz1 : w.heap.size < w1.heap.size := by omega
                  go_wp2
                  exact bodyPost_ret (v := .tuple #[.agg #[.int .i64 2, .string T], .int .i64 ((a : Int) + k), .bool false]) (by simp [results, Tryz.results121, go_sem, *]) rfl ⟨by rw [HN.out, HE.out, HNT.out, HT.out]; simp, bel⟩
                · simp only [hq1] at kn
                  have KN := Lib.hid kn
                  have HNT := Lib.hid (hnT.symm.trans hq1)
                  clear kn hnT hq1
                  have kI2 := fun (wx : World) => spec_l12Inner (c := s[a + k]) (w := wx)
                  have gne : (((a : Int) + (k : Int)) == (s.size : Int)) = false := by rw [beq_eq_false_iff_ne]; omega
                  have HCC := Lib.hid (show s.data.toList[a + k]? = some s[a + k] from str_get hlt)
                  cases hq2 : innP s[a + k]
                  all_goals
                    simp only [hq2] at kI2
                    have KI2 := Lib.hid kI2
                    have HQ2 := Lib.hid hq2
                    clear kI2 hq2
                    go_wp2_with fail
                    refine Calls.mono (KN.out _) ?_
                    rintro e w1 ⟨rfl, hb1⟩
                    obtain ⟨hc1, hf1⟩ := bcell hb1
                    have hs1 := hb1.size
                    simp at hs1
                    have hz1 : w.heap.size < w1.heap.size := by omega
                    go_wp2_with fail
                    go_wp2_with fail
                    refine Calls.mono (KI2.out _) ?_
                    rintro e _ ⟨rfl, rfl⟩
                    go_wp2
                  · exact bodyPost_ret (v := .tuple #[.agg #[.int .i64 2, .string T], .int .i64 ((a : Int) + k), .bool true]) (by simp [results, Tryz.results121, go_sem, *]) rfl ⟨by rw [HN.out, HE.out, HNT.out, HT.out, HCC.out]; simp [HQ2.out], bel⟩
                  · exact bodyPost_ret (v := .tuple #[.agg #[.int .i64 2, .string T], .int .i64 ((a : Int) + k), .bool false]) (by simp [results, Tryz.results121, go_sem, *]) rfl ⟨by rw [HN.out, HE.out, HNT.out, HT.out, HCC.out]; simp [HQ2.out], bel⟩
              · have HQ := Lib.hid hq
                simp only [hq] at kI
                have KI := Lib.hid kI
                clear hq kI
                have HA := Lib.hid (all_take_step Hc.out A.out HQ.out)
                go_wp2_with fail
                go_wp2_with fail
                refine Calls.mono (KI.out _) ?_
                rintro e _ ⟨rfl, rfl⟩
                go_wp2_with fail
                go_round
                case rel => exact ⟨k + 1, by omega, by rw [show ((a + (k + 1) : Nat) : Int) = (a : Int) + k + 1 by omega], by omega, HA⟩
                case measure => simp [intOf]; omega
            · have hks : a + k = s.size := by omega
              have hlt2 : ¬ ((a + k : Nat) : Int) < (s.size : Int) := by omega
              have HE := Lib.hid (runL_eq (p := digP) (by rw [HDL.out]; omega) A.out (fun c hc => by have := (List.getElem?_eq_some_iff.1 hc).1; rw [HDL.out] at this; omega))
              have HX := Lib.hid (show s.data.toList[a + k]? = none by rw [List.getElem?_eq_none_iff, str_len]; omega)
              clear A hk hlt
              have hsl := fun wq => run_sub s a k wq (by omega)
              obtain ⟨T, hT⟩ : ∃ T, T = strL (subL s.data.toList a (a + k)) := ⟨_, rfl⟩
              simp only [← hT] at hsl
              have hTz : T.size ≤ 1048576 := by rw [hT, strL_size, sub_len (by omega) (by omega)]; omega
              have kn := fun (wx : World) => spec_l12Number (s := T) (w := wx) (Nat.le_trans hTz (by unfold maxLen; omega))
              have hnT : numB T.data.toList = numB (subL s.data.toList a (a + k)) := by rw [hT, strL_list]
              have HT := Lib.hid hT
              have gne : (((a : Int) + (k : Int)) == (s.size : Int)) = true := by rw [beq_iff_eq]; omega
              have HGN := Lib.hid gne
              have HKS := Lib.hid hks
              clear hT hks gne
              cases hq1 : numB T.data.toList
              · simp only [hq1] at kn
                have KN := Lib.hid kn
                have HNT := Lib.hid (hnT.symm.trans hq1)
                clear kn hnT hq1
                go_wp2_with fail
                refine Calls.mono (KN.out _) ?_
                rintro e w1 ⟨rfl, hb1⟩
                obtain ⟨hc1, hf1⟩ := bcell hb1
                have hs1 := hb1.size
                simp at hs1
                have hz1 : w.heap.size < w1.heap.size := by omega
                go_wp2
                exact bodyPost_ret (v := .tuple #[.agg #[.int .i64 2, .string T], .int .i64 ((a : Int) + k), .bool false]) (by simp [results, Tryz.results121, go_sem, *]) rfl ⟨by rw [HN.out, HE.out, HNT.out, HT.out]; simp, bel⟩
              · simp only [hq1] at kn
                have KN := Lib.hid kn
                have HNT := Lib.hid (hnT.symm.trans hq1)
                clear kn hnT hq1
                have gne := HGN.out
                go_wp2_with fail
                refine Calls.mono (KN.out _) ?_
                rintro e w1 ⟨rfl, hb1⟩
                obtain ⟨hc1, hf1⟩ := bcell hb1
                have hs1 := hb1.size
                simp at hs1
                have hz1 : w.heap.size < w1.heap.size := by omega
                go_wp2
                exact bodyPost_ret (v := .tuple #[.agg #[.int .i64 2, .string T], .int .i64 ((a : Int) + k), .bool true]) (by simp [results, Tryz.results121, go_sem, *]) rfl ⟨by rw [HN.out, HE.out, HNT.out, HT.out, HX.out]; simp, bel⟩
      · rw [h3, if_pos rfl] at hn1
        simp only [h3] at kL2
        have HN := Lib.hid hn1
        have HP := Lib.hid (show innP s[a] = true by rw [innP, h3]; rfl)
        have KL2 := Lib.hid kL2
        clear hn1 h1 h2 kL2 h3
        go_enter Tryz.func121, Tryz.ntmps121
        go_wp2_with fail
        go_wp2_with fail
        refine Calls.mono (KL2.out _) ?_
        rintro e _ ⟨rfl, rfl⟩
        go_wp2_with fail
        go_loop [8] (fun s8 => ∃ k : Nat, 1 ≤ k ∧ s8 = .int .i64 ((a + k : Nat) : Int) ∧ a + k ≤ s.size ∧ Hid (((s.data.toList.drop a).take k).all innP = true)) (fun s8 => s.size - (intOf s8).toNat)
        case atStart => exact ⟨1, by omega, by rw [show ((a + 1 : Nat) : Int) = (a : Int) + 1 by omega], by omega, Lib.hid (by rw [take_at HDA.out]; simp [HP.out])⟩
        case round =>
          obtain ⟨k, hk1, rfl, hk, A⟩ := hrel
          by_cases hlt : a + k < s.size
          · have hlt2 : ((a + k : Nat) : Int) < (s.size : Int) := by omega
            have hlt0 : (0 : Int) ≤ ((a + k : Nat) : Int) := by omega
            have Hc := Lib.hid (show (s.data.toList.drop a)[k]? = some s[a + k] by rw [List.getElem?_drop]; exact str_get hlt)
            have hu2 := s[a + k].toNat_lt
            have kI := fun (wx : World) => spec_l12Inner (c := s[a + k]) (w := wx)
            cases hq : innP s[a + k]
            · have HE := Lib.hid (runL_eq (p := innP) (by rw [HDL.out]; omega) A.out (fun c hc => by rw [Hc.out] at hc; cases hc; exact hq))
              have HQ := Lib.hid hq
              simp only [hq] at kI
              have KI := Lib.hid kI
              clear A hq kI
              go_wp2_with fail
              go_wp2_with fail
              refine Calls.mono (KI.out _) ?_
              rintro e _ ⟨rfl, rfl⟩
              go_wp2_with fail
              have hsl := fun wq => run_sub s a k wq (by omega)
              obtain ⟨T, hT⟩ : ∃ T, T = strL (subL s.data.toList a (a + k)) := ⟨_, rfl⟩
              simp only [← hT] at hsl
              have hTz : T.size ≤ 1048576 := by rw [hT, strL_size, sub_len (by omega) (by omega)]; omega
              have KW := Lib.hid (fun (wx : World) => spec_l12Word (s := T) (w := wx) hTz)
              have HT := Lib.hid hT
              clear hT
              refine wp_region_noPanic ?_
              refine wp_region_held_drew (S := fun _ => True) (by kernel_rfl) trivial (fun hHeld => ?_)
              refine tkH 0 ?_
              try simp only [Act.put, s1, s2, s3]
              refine tkH 1 ?_
              try simp only [Act.put, s1, s2, s3]
              refine tkH 2 ?_
              try simp only [Act.put, s1, s2, s3]
              refine tkH 3 ?_
              try simp only [Act.put, s1, s2, s3]
              refine tkH 4 ?_
              try simp only [Act.put, s1, s2, s3]
              refine tkH 5 ?_
              try simp only [Act.put, s1, s2, s3]
              refine tkH 6 ?_
              try simp only [Act.put, s1, s2, s3]
              refine tkH 7 ?_
              try simp only [Act.put, s1, s2, s3]
              refine tkH 8 ?_
              try simp only [Act.put, s1, s2, s3]
              refine tkH 9 ?_
              try simp only [Act.put, s1, s2, s3]
              refine wpAnyH_ready (rs := [10]) (by kernel_rfl) (by simp) ?_
              refine AllReadyH.cons rfl (fun K hK => ?_) AllReadyH.nil
              go_simp
              refine Calls.mono (KW.out _) ?_
              rintro e _ ⟨rfl, rfl⟩
              go_wp2_with fail
              refine hK.out _ _ trivial (fun hHeld => ?_)
              clear hK K
              try simp only [Act.put, s1, s2, s3]
              refine wpAnyH_ready (rs := [11]) (by kernel_rfl) (by simp) ?_
              refine AllReadyH.cons rfl (fun K hK => ?_) AllReadyH.nil
              go_simp
              refine hK.out _ _ trivial (fun hHeld => ?_)
              clear hK K
              try simp only [Act.put, s1, s2, s3]
              refine tkH 12 ?_
              try simp only [Act.put, s1, s2, s3]
              refine tkH 13 ?_
              try simp only [Act.put, s1, s2, s3]
              refine wpAnyH_done (by kernel_rfl) ?_ _
              refine NoPanic.normal ?_
              go_wp2
              exact bodyPost_ret (v := .tuple #[.agg #[.int .i64 1, .string T], .int .i64 ((a : Int) + k), .bool (wrdB T.data.toList)]) (by simp [results, Tryz.results121, go_sem, *]) rfl ⟨by rw [HN.out, HE.out, HT.out, strL_list]; simp, bel⟩
            · have HQ := Lib.hid hq
              simp only [hq] at kI
              have KI := Lib.hid kI
              clear hq kI
              have HA := Lib.hid (all_take_step Hc.out A.out HQ.out)
              go_wp2_with fail
              go_wp2_with fail
              refine Calls.mono (KI.out _) ?_
              rintro e _ ⟨rfl, rfl⟩
              go_wp2_with fail
              go_round
              case rel => exact ⟨k + 1, by omega, by rw [show ((a + (k + 1) : Nat) : Int) = (a : Int) + k + 1 by omega], by omega, HA⟩
              case measure => simp [intOf]; omega
          · have hks : a + k = s.size := by omega
            have hlt2 : ¬ ((a + k : Nat) : Int) < (s.size : Int) := by omega
            have HE := Lib.hid (runL_eq (p := innP) (by rw [HDL.out]; omega) A.out (fun c hc => by have := (List.getElem?_eq_some_iff.1 hc).1; rw [HDL.out] at this; omega))
            have HX := Lib.hid (show s.data.toList[a + k]? = none by rw [List.getElem?_eq_none_iff, str_len]; omega)
            clear A hk hlt
            have HKS := Lib.hid hks
            have hsl := fun wq => run_sub s a k wq (by omega)
            obtain ⟨T, hT⟩ : ∃ T, T = strL (subL s.data.toList a (a + k)) := ⟨_, rfl⟩
            simp only [← hT] at hsl
            have hTz : T.size ≤ 1048576 := by rw [hT, strL_size, sub_len (by omega) (by omega)]; omega
            have KW := Lib.hid (fun (wx : World) => spec_l12Word (s := T) (w := wx) hTz)
            have HT := Lib.hid hT
            clear hT hks
            go_wp2_with fail
            refine wp_region_noPanic ?_
            refine wp_region_held_drew (S := fun _ => True) (by kernel_rfl) trivial (fun hHeld => ?_)
            refine tkH 0 ?_
            try simp only [Act.put, s1, s2, s3]
            refine tkH 1 ?_
            try simp only [Act.put, s1, s2, s3]
            refine tkH 2 ?_
            try simp only [Act.put, s1, s2, s3]
            refine tkH 3 ?_
            try simp only [Act.put, s1, s2, s3]
            refine tkH 4 ?_
            try simp only [Act.put, s1, s2, s3]
            refine tkH 5 ?_
            try simp only [Act.put, s1, s2, s3]
            refine tkH 6 ?_
            try simp only [Act.put, s1, s2, s3]
            refine tkH 7 ?_
            try simp only [Act.put, s1, s2, s3]
            refine tkH 8 ?_
            try simp only [Act.put, s1, s2, s3]
            refine tkH 9 ?_
            try simp only [Act.put, s1, s2, s3]
            refine wpAnyH_ready (rs := [10]) (by kernel_rfl) (by simp) ?_
            refine AllReadyH.cons rfl (fun K hK => ?_) AllReadyH.nil
            go_simp
            refine Calls.mono (KW.out _) ?_
            rintro e _ ⟨rfl, rfl⟩
            go_wp2_with fail
            refine hK.out _ _ trivial (fun hHeld => ?_)
            clear hK K
            try simp only [Act.put, s1, s2, s3]
            refine wpAnyH_ready (rs := [11]) (by kernel_rfl) (by simp) ?_
            refine AllReadyH.cons rfl (fun K hK => ?_) AllReadyH.nil
            go_simp
            refine hK.out _ _ trivial (fun hHeld => ?_)
            clear hK K
            try simp only [Act.put, s1, s2, s3]
            refine tkH 12 ?_
            try simp only [Act.put, s1, s2, s3]
            refine tkH 13 ?_
            try simp only [Act.put, s1, s2, s3]
            refine wpAnyH_done (by kernel_rfl) ?_ _
            refine NoPanic.normal ?_
            go_wp2
            exact bodyPost_ret (v := .tuple #[.agg #[.int .i64 1, .string T], .int .i64 ((a : Int) + k), .bool (wrdB T.data.toList)]) (by simp [results, Tryz.results121, go_sem, *]) rfl ⟨by rw [HN.out, HE.out, HT.out, strL_list]; simp, bel⟩
end Go.Proofs.YtjneodmohkpckaaGreatDoor
