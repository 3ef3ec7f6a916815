/- Traffics of layer 10, walked. -/
import Derived.Test.YtipkncjjkkijfaaGreatDoorSl
import Derived.Test.YtipkncjjkkijfaaGreatDoorEx
namespace Go.Proofs.YtipkncjjkkijfaaGreatDoor
open Go.RowKit
set_option linter.unusedVariables false
set_option linter.unusedSimpArgs false
/-- a valid traffic -/
def trafB (b : Int) (l : List Int) : Bool := inB b 2 8 && inB l.length 1 4 && allIn 0 (3 * b - 1) l
theorem trafB_split {b : Int} {l : List Int} (h : trafB b l = true) : 2 ≤ b ∧ b ≤ 8 ∧ 1 ≤ l.length ∧ l.length ≤ 4 ∧ ∀ x ∈ l, 0 ≤ x ∧ x ≤ 3 * b - 1 := by
  simp only [trafB, inB, allIn, Bool.and_eq_true, decide_eq_true_eq, List.all_eq_true] at h
  obtain ⟨⟨⟨h1, h2⟩, h3, h4⟩, h5⟩ := h
  exact ⟨h1, h2, by omega, by omega, h5⟩
theorem any_not_allIn (lo hi : Int) (l : List Int) : (l.any fun p => !inB p lo hi) = !allIn lo hi l := by
  rw [allIn, List.not_all_eq_any_not]
theorem spec_IsTraffic {b : Int} {a : Option Addr} {n c : Nat} {l : List Int} {w : World} (hI : Ints w a n c l) (hn : n ≤ 1048576) :
    Calls Tryz.prog 31 #[.agg #[.int .i64 b, .slice a n c]] w fun e w' => e = .returned (.bool (trafB b l)) ∧ Below w.heap.size w w' := by
  have HI := Lib.hid hI
  clear hI
  have HB := Lib.hid (show trafB b l = (inB b 2 8 && inB l.length 1 4 && allIn 0 (3 * b - 1) l) from rfl)
  rw [HI.out.len] at HB
  cases t1 : inB b 2 8
  · have T1 := Lib.hid t1
    clear t1
    go_enter Tryz.func31, Tryz.ntmps31
    go_wp2_with fail
    refine Calls.mono (spec_l01In) ?_
    rintro e _ ⟨rfl, rfl⟩
    rw [T1.out]
    go_wp2
    go_ret
    exact ⟨ret_bool (by rw [HB.out, T1.out]; rfl), bel⟩
  · have T1 := Lib.hid t1
    obtain ⟨hb0, hb1⟩ : 2 ≤ b ∧ b ≤ 8 := by simpa [inB] using t1
    clear t1
    cases t2 : inB n 1 4
    · have T2 := Lib.hid t2
      clear t2
      go_enter Tryz.func31, Tryz.ntmps31
      go_wp2_with fail
      refine Calls.mono (spec_l01In) ?_
      rintro e _ ⟨rfl, rfl⟩
      rw [T1.out]
      go_wp2_with fail
      refine Calls.mono (spec_l01In) ?_
      rintro e _ ⟨rfl, rfl⟩
      rw [T2.out]
      go_wp2
      go_ret
      exact ⟨ret_bool (by rw [HB.out, T1.out, T2.out]; rfl), bel⟩
    · have T2 := Lib.hid t2
      have HB' := Lib.hid (show trafB b l = allIn 0 (3 * b - 1) l by rw [HB.out, T1.out, T2.out]; rfl)
      clear t2
      go_enter Tryz.func31, Tryz.ntmps31
      go_wp2_with fail
      refine Calls.mono (spec_l01In) ?_
      rintro e _ ⟨rfl, rfl⟩
      rw [T1.out]
      go_wp2_with fail
      refine Calls.mono (spec_l01In) ?_
      rintro e _ ⟨rfl, rfl⟩
      rw [T2.out]
      have hbw : Below w.heap.size w (w.alloc (.cells #[.int .i64 b, .slice a n c] 26)) := bel
      have B0 := Lib.hid (Blk.made w #[.int .i64 b, .slice a n c] 26)
      go_wp2_with fail
      go_loopw [3] (fun s3 wr => ∃ k : Nat, k ≤ n ∧ s3 = .int .i64 k ∧ Below w.heap.size w wr ∧ Hid (Blk wr w.heap.size #[.int .i64 b, .slice a n c] 26) ∧ Hid ((l.take k).all (fun x => inB x 0 (3 * b - 1)) = true)) (fun i _ => n - (intOf i).toNat)
      case atStart => exact ⟨0, Nat.zero_le _, rfl, hbw, B0, rfl⟩
      case round =>
        clear hbw B0
        obtain ⟨k, hk, rfl, hbl, B, A⟩ := hrel
        have c0 := B.out.cell 0
        have c1 := B.out.cell 1
        have z1 := B.out.lt
        simp at c0 c1
        by_cases hlt : k < n
        · obtain ⟨b', off, x, rfl, hb', hx, hcell, hwf⟩ := (HI.out.keep hbl).at hlt
          have Hx := Lib.hid hx
          have hk0 : (0 : Int) ≤ (k : Int) := by omega
          have hk1 : (k : Int) < (n : Int) := by omega
          clear hx hwf
          have e1 : IntKind.i64.wrap (3 * b) = 3 * b := IntWalk.i64_in _ (by omega)
          have e2 : IntKind.i64.wrap (3 * b - 1) = 3 * b - 1 := IntWalk.i64_in _ (by omega)
          cases hq : inB x 0 (3 * b - 1)
          all_goals
            have Hq := Lib.hid hq
            clear hq
            go_wp2_with fail
            go_quiet ((go_at_call 32; exact Calls.mono spec_l01In (fun _ _ h => ⟨h.1, _, h.2.symm⟩)))
            rw [Hq.out]
            clear e1 e2
            go_wp2
          · go_ret
            exact ⟨ret_bool (by rw [HB'.out, allIn, all_take_false Hx.out Hq.out]), bel⟩
          · go_roundw
            case rel => exact ⟨k + 1, by omega, by go_num, bel, B, all_take_step Hx.out A.out Hq.out⟩
            case measure => simp [intOf]; omega
        · go_wp2
          go_ret
          have e : l.take k = l := take_len (by have := HI.out.len; omega)
          have h1 := A.out
          rw [e] at h1
          exact ⟨ret_bool (by rw [HB'.out, allIn, h1]), bel⟩
theorem impl_isBlockCount {n : Int} {w : World} : Calls Tryz.prog 42 #[.int .i64 n] w fun e w' => e = .returned (.bool (inB n 2 8)) ∧ w = w' := by
  go_enter Tryz.func42, Tryz.ntmps42
  go_wp2_with fail
  refine Calls.mono (impl_within) ?_
  rintro e _ ⟨rfl, rfl⟩
  go_wp2
  go_ret
  exact ⟨rfl, rfl⟩
theorem impl_IsTraffic_1 {b x : Int} {g : Nat} {w : World} (h0 : w.cell? ⟨g, 0, none⟩ = some (.int .i64 b)) (hg : g < w.heap.size) (hb : 2 ≤ b) (hb' : b ≤ 8) :
    Calls Tryz.prog 46 #[.int .i64 x, .pointer (some ⟨g, 0, none⟩)] w fun e w' => e = .returned (.bool (!inB x 0 (3 * b - 1))) ∧ Below w.heap.size w w' := by
  go_enter Tryz.func46, Tryz.ntmps46
  go_wp2_with fail
  refine Calls.mono (impl_within) ?_
  rintro e _ ⟨rfl, rfl⟩
  go_wp2
  go_ret
  exact ⟨rfl, bel⟩
theorem impl_IsTraffic {b : Int} {a : Option Addr} {n c : Nat} {l : List Int} {w : World} (hI : Ints w a n c l) (hn : n ≤ 1048576) :
    Calls Tryz.prog 21 #[.agg #[.int .i64 b, .slice a n c]] w fun e w' => e = .returned (.bool (trafB b l)) ∧ Below w.heap.size w w' := by
  have HI := Lib.hid hI
  clear hI
  have HB := Lib.hid (show trafB b l = (inB b 2 8 && inB l.length 1 4 && allIn 0 (3 * b - 1) l) from rfl)
  rw [HI.out.len] at HB
  cases t1 : inB b 2 8
  · have T1 := Lib.hid t1
    clear t1
    go_enter Tryz.func21, Tryz.ntmps21
    go_wp2_with fail
    refine Calls.mono (impl_isBlockCount) ?_
    rintro e _ ⟨rfl, rfl⟩
    rw [T1.out]
    go_wp2
    go_ret
    exact ⟨ret_bool (by rw [HB.out, T1.out]; rfl), bel⟩
  · have T1 := Lib.hid t1
    obtain ⟨hb0, hb1⟩ : 2 ≤ b ∧ b ≤ 8 := by simpa [inB] using t1
    clear t1
    cases t2 : inB n 1 4
    · have T2 := Lib.hid t2
      clear t2
      go_enter Tryz.func21, Tryz.ntmps21
      go_wp2_with fail
      refine Calls.mono (impl_isBlockCount) ?_
      rintro e _ ⟨rfl, rfl⟩
      rw [T1.out]
      go_wp2_with fail
      refine Calls.mono (impl_length_i64) ?_
      rintro e _ ⟨rfl, rfl⟩
      go_wp2_with fail
      refine Calls.mono (impl_within) ?_
      rintro e _ ⟨rfl, rfl⟩
      rw [T2.out]
      go_wp2
      go_ret
      exact ⟨ret_bool (by rw [HB.out, T1.out, T2.out]; rfl), bel⟩
    · have T2 := Lib.hid t2
      have HB' := Lib.hid (show trafB b l = allIn 0 (3 * b - 1) l by rw [HB.out, T1.out, T2.out]; rfl)
      clear t2
      have hcf := fun (wx : World) (hb : Below w.heap.size w wx) (k0 : wx.cell? ⟨w.heap.size, 0, none⟩ = some (.int .i64 b)) (k1 : w.heap.size < wx.heap.size) => slices_ContainsFunc_i64 (w := wx) (g := 46) (lb := #[.pointer (some ⟨w.heap.size, 0, none⟩)]) (p := fun x => !inB x 0 (3 * b - 1)) (enters_of Tryz.func46 (by kernel_rfl) rfl) (fun W x hx hbW => impl_IsTraffic_1 (x := x) (w := W) ((hbW.cell (p := ⟨w.heap.size, 0, none⟩) k1).trans k0) (Nat.lt_of_lt_of_le k1 hbW.size) hb0 hb1) (HI.out.keep hb) hn
      rw [any_not_allIn] at hcf
      have Hcf := Lib.hid hcf
      clear hcf
      go_enter Tryz.func21, Tryz.ntmps21
      go_wp2_with fail
      refine Calls.mono (impl_isBlockCount) ?_
      rintro e _ ⟨rfl, rfl⟩
      rw [T1.out]
      go_wp2_with fail
      refine Calls.mono (impl_length_i64) ?_
      rintro e _ ⟨rfl, rfl⟩
      go_wp2_with fail
      refine Calls.mono (impl_within) ?_
      rintro e _ ⟨rfl, rfl⟩
      rw [T2.out]
      go_wp2_with fail
      refine Calls.mono (Hcf.out _ bel (by simp) (by simp)) ?_
      rintro e w1 ⟨rfl, hb_w1⟩
      obtain ⟨hc_w1, hf_w1⟩ := bcell hb_w1
      have hs_w1 := hb_w1.size
      go_wp2
      go_ret
      exact ⟨ret_bool (by simp [HB'.out]), bel⟩
end Go.Proofs.YtipkncjjkkijfaaGreatDoor
