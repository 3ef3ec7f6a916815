/- Words and numbers of the program, walked. -/
import Derived.Test.YtjneodmohkpckaaGreatDoorT12i
namespace Go.Proofs.YtjneodmohkpckaaGreatDoor
open Go.RowKit
set_option linter.unusedVariables false
set_option linter.unusedSimpArgs false
theorem inset_all {bs : ByteArray} {p : UInt8 → Bool} (h : ∀ n : Fin 256, inSet bs (UInt8.ofNat n.val) = p (UInt8.ofNat n.val)) (c : UInt8) : inSet bs c = p c := by
  have := h ⟨c.toNat, c.toNat_lt⟩
  simpa using this
def luP (c : UInt8) : Bool := letP c || decide (c.toNat = 95)
theorem inset_let (c : UInt8) : inSet ⟨#[97, 98, 99, 100, 101, 102, 103, 104, 105, 106, 107, 108, 109, 110, 111, 112, 113, 114, 115, 116, 117, 118, 119, 120, 121, 122]⟩ c = letP c := inset_all (by decide +kernel) c
theorem inset_dig (c : UInt8) : inSet ⟨#[48, 49, 50, 51, 52, 53, 54, 55, 56, 57]⟩ c = digP c := inset_all (by decide +kernel) c
theorem inset_inn (c : UInt8) : inSet ⟨#[97, 98, 99, 100, 101, 102, 103, 104, 105, 106, 107, 108, 109, 110, 111, 112, 113, 114, 115, 116, 117, 118, 119, 120, 121, 122, 48, 49, 50, 51, 52, 53, 54, 55, 56, 57, 95]⟩ c = innP c := inset_all (by decide +kernel) c
theorem inset_lu (c : UInt8) : inSet ⟨#[97, 98, 99, 100, 101, 102, 103, 104, 105, 106, 107, 108, 109, 110, 111, 112, 113, 114, 115, 116, 117, 118, 119, 120, 121, 122, 95]⟩ c = luP c := inset_all (by decide +kernel) c
theorem inset_sgn (c : UInt8) : inSet ⟨#[61, 40, 41, 44, 59]⟩ c = sgnP c := inset_all (by decide +kernel) c
theorem idx_set {bs : ByteArray} {p : UInt8 → Bool} (hp : ∀ c, inSet bs c = p c) (c : UInt8) (w : World) : Calls Tryz.prog 145 #[.string bs, .int .u8 (c.toNat : Int)] w fun e w' => ∃ r : Int, e = .returned (.int .i64 r) ∧ decide (0 ≤ r) = p c ∧ w = w' := by
  refine Calls.mono lib_IndexByte ?_
  rintro e w' ⟨rfl, rfl⟩
  refine ⟨_, rfl, ?_, rfl⟩
  rw [← hp]
  exact (Lib.contains_iff_indexByte bs.data.toList c).symm
theorem run_set {bs : ByteArray} {p : UInt8 → Bool} (hp : ∀ c, inSet bs c = p c) {s : ByteArray} {a : Nat} {ai : Int} {w : World} (ha : ai = (a : Int)) (has : a ≤ s.size) (hz : s.size ≤ 1048576) :
    Calls Tryz.prog 146 #[.string s, .int .i64 ai, .string bs] w fun e w' => e = .returned (.int .i64 (runL p (s.data.toList.drop a) : Nat)) ∧ w = w' := by
  have h := impl_run (bs := bs) (w := w) ha has hz
  rw [show inSet bs = p from funext hp] at h
  exact h
set_option maxHeartbeats 2000000 in
theorem impl_isWord {s : ByteArray} {w : World} (hz : s.size ≤ 1048576) : Calls Tryz.prog 114 #[.string s] w fun e w' => e = .returned (.bool (wrdB s.data.toList)) ∧ w = w' := by
  have hB := wrdB_eq (str_len s)
  cases h : inB (s.size : Int) 1 12
  · have HB := Lib.hid (show wrdB s.data.toList = false by rw [hB, h]; rfl)
    have HV := Lib.hid h
    clear h hB
    go_enter Tryz.func114, Tryz.ntmps114
    go_wp2_with fail
    refine Calls.mono (impl_within) ?_
    rintro e _ ⟨rfl, rfl⟩
    rw [HV.out]
    go_wp2
    go_ret
    exact ⟨ret_bool HB.out.symm, rfl⟩
  · have hr := h
    simp [inB] at hr
    have hlt0 : 0 < s.size := by omega
    have hlt0' : (0 : Int) < (s.size : Int) := by omega
    have hc0 := str_get hlt0
    rw [h, List.head?_eq_getElem?, hc0] at hB
    simp only [Option.any_some, Bool.true_and] at hB
    have kX := idx_set inset_let s[0]
    have hk := fun (wx : World) => run_set inset_inn (s := s) (a := 0) (ai := 0) (w := wx) rfl (Nat.zero_le _) hz
    have hall := runN_all (p := innP) (l := s.data.toList)
    rw [str_len] at hall
    change runL innP s.data.toList = s.size ↔ _ at hall
    rw [List.drop_zero] at hk
    have HV := Lib.hid h
    clear h hr
    cases hl : letP s[0]
    · rw [hl] at kX hB
      have HB := Lib.hid (show wrdB s.data.toList = false by rw [hB]; rfl)
      have KX := Lib.hid kX
      clear kX hB hk hall hl hc0
      go_enter Tryz.func114, Tryz.ntmps114
      go_wp2_with fail
      refine Calls.mono (impl_within) ?_
      rintro e _ ⟨rfl, rfl⟩
      rw [HV.out]
      go_wp2_with fail
      refine Calls.mono (KX.out _) ?_
      rintro e _ ⟨r, rfl, hr, rfl⟩
      go_wp2
      go_ret
      exact ⟨ret_bool HB.out.symm, rfl⟩
    · rw [hl, Bool.true_and] at hB
      rw [hl] at kX
      have HB := Lib.hid hB
      have KX := Lib.hid kX
      generalize runL innP s.data.toList = k at *
      have HK := Lib.hid hk
      cases ha : s.data.toList.all innP
      · have hq : ((k : Int) == (s.size : Int)) = false := by
          rw [beq_eq_false_iff_ne]; intro hc; have := hall.1 (by omega); rw [ha] at this; cases this
        have HA := Lib.hid ha
        clear kX hB hk hall hl hc0 ha
        go_enter Tryz.func114, Tryz.ntmps114
        go_wp2_with fail
        refine Calls.mono (impl_within) ?_
        rintro e _ ⟨rfl, rfl⟩
        rw [HV.out]
        go_wp2_with fail
        refine Calls.mono (KX.out _) ?_
        rintro e _ ⟨r, rfl, hr, rfl⟩
        go_wp2_with fail
        go_wp2_with fail
        refine Calls.mono (HK.out _) ?_
        rintro e _ ⟨rfl, rfl⟩
        go_wp2
        go_ret
        exact ⟨ret_bool (by rw [HB.out, HA.out]), rfl⟩
      · have hq : ((k : Int) == (s.size : Int)) = true := by
          rw [beq_iff_eq]; have := hall.2 ha; omega
        have HA := Lib.hid ha
        clear kX hB hk hall hl hc0 ha
        go_enter Tryz.func114, Tryz.ntmps114
        go_wp2_with fail
        refine Calls.mono (impl_within) ?_
        rintro e _ ⟨rfl, rfl⟩
        rw [HV.out]
        go_wp2_with fail
        refine Calls.mono (KX.out _) ?_
        rintro e _ ⟨r, rfl, hr, rfl⟩
        go_wp2_with fail
        go_wp2_with fail
        refine Calls.mono (HK.out _) ?_
        rintro e _ ⟨rfl, rfl⟩
        go_wp2
        go_ret
        exact ⟨ret_bool (by rw [HB.out, HA.out]), rfl⟩
set_option maxHeartbeats 1000000 in
theorem impl_isCount {s : ByteArray} {w : World} (hL : LV w) (hz : s.size ≤ 1048576) : Calls Tryz.prog 149 #[.string s] w fun e w' => e = .returned (.bool (numB s.data.toList)) ∧ Below w.heap.size w w' := by
  have hk := impl_readNumber hL hz
  cases ho : okN s.data.toList
  · have HB := Lib.hid (show numB s.data.toList = false by
      rcases hp : Lib.parseIntB 64 s.data.toList with v | _ | _
      · rw [okN, hp] at ho
        rw [num_iff hp]
        simp only at ho
        rw [ho]; rfl
      · exact num_err (fun v h => by rw [hp] at h; cases h)
      · exact num_err (fun v h => by rw [hp] at h; cases h))
    rw [ho] at hk
    have HK := Lib.hid hk
    clear hk hL ho
    go_enter Tryz.func149, Tryz.ntmps149
    go_wp2_with fail
    refine Calls.mono HK.out ?_
    rintro e w1 ⟨n, rfl, hn, hb1⟩
    clear hn
    go_wp2
    go_ret
    exact ⟨ret_bool HB.out.symm, hb1⟩
  · rw [ho] at hk
    have HK := Lib.hid hk
    have HO := Lib.hid ho
    clear hk hL ho
    go_enter Tryz.func149, Tryz.ntmps149
    go_wp2_with fail
    refine Calls.mono HK.out ?_
    rintro e w1 ⟨n, rfl, hn, hb1⟩
    have HP := Lib.hid (hn trivial)
    clear hn
    have HB := Lib.hid (show numB s.data.toList = inB n 0 9999 by
      rw [num_iff HP.out, inB]
      have h := HO.out
      rw [okN, HP.out] at h
      simp only at h
      rw [h, Bool.true_and])
    go_wp2_with fail
    refine Calls.mono (impl_within) ?_
    rintro e _ ⟨rfl, rfl⟩
    go_wp2
    go_ret
    exact ⟨ret_bool HB.out.symm, hb1⟩
end Go.Proofs.YtjneodmohkpckaaGreatDoor
