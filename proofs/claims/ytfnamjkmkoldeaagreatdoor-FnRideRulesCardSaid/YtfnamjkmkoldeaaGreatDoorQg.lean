/- Traffics of layer 10, walked.; Ride states of layer 24, walked. -/
import Derived.Test.YtfnamjkmkoldeaaGreatDoorQa
import Derived.Test.YtfnamjkmkoldeaaGreatDoorFl
namespace Go.Proofs.YtfnamjkmkoldeaaGreatDoor
open Go.RowKit
set_option linter.unusedVariables false
set_option linter.unusedSimpArgs false
/-- a valid traffic -/
def trafB (b : Int) (l : List Int) : Bool := inB b 2 8 && inB l.length 1 4 && allIn 0 (3 * b - 1) l
theorem trafB_split {b : Int} {l : List Int} (h : trafB b l = true) : 2 ≤ b ∧ b ≤ 8 ∧ 1 ≤ l.length ∧ l.length ≤ 4 ∧ ∀ x ∈ l, 0 ≤ x ∧ x ≤ 3 * b - 1 := by
  simp only [trafB, inB, allIn, Bool.and_eq_true, decide_eq_true_eq, List.all_eq_true] at h
  obtain ⟨⟨⟨h1, h2⟩, h3, h4⟩, h5⟩ := h
  exact ⟨h1, h2, by omega, by omega, h5⟩
theorem any_not_allIn (lo hi : Int) (l : List Int) : (l.any fun p => !inB p lo hi) = !allIn lo hi l := by
  rw [allIn, List.not_all_eq_any_not]
set_option maxHeartbeats 1000000 in
theorem laws_toTraffic {b : Int} {a : Option Addr} {n c : Nat} {l : List Int} {w : World} (hI : Ints w a n c l) (hn : n ≤ 1048576) :
    Calls Tryz.prog 11 #[.agg #[.int .i64 b, .slice a n c]] w fun e w' => ∃ g, e = .returned (.agg #[.int .i64 b, .slice (some ⟨g, 0, none⟩) n n]) ∧ Below w.heap.size w w' ∧ OwnI 2 w' w.heap.size (some ⟨g, 0, none⟩) n n l := by
  have HI := Lib.hid hI
  clear hI
  go_enter Tryz.func11, Tryz.ntmps11
  go_wp2_with fail
  refine Calls.mono (laws_toInt64S (HI.out.keep (by repeat (first | exact Below.refl _ _ | assumption | refine below_allocS ?_ _ | refine below_callS ?_ (by assumption) | (refine Below.alloc ?_ (by first | omega | (simp; done) | (simp; omega)) _) | (refine Below.setCell ?_ (by first | omega | (simp; done) | (simp; omega)) _) | refine Below.drew ?_ | refine below_drewN ?_ _ | (refine below_call ?_ (by assumption) (by first | omega | (simp; done) | (simp; omega))) | (refine Below.trans ?_ (by assumption))))) hn) ?_
  rintro e w1 ⟨rfl, hb_w1, ho⟩
  obtain ⟨hc_w1, hf_w1⟩ := bcell hb_w1
  have hs_w1 := hb_w1.size
  simp at hs_w1
  have HO := Lib.hid ho
  clear ho
  have hz1 : w.heap.size < w1.heap.size := by omega
  have hz2 : w.heap.size + 1 < w1.heap.size := by omega
  have hz3 : w.heap.size + 1 + 1 < w1.heap.size := by omega
  go_wp2
  refine bodyPost_ret (v := .agg #[.int .i64 b, .slice (some ⟨w.heap.size + 1 + 1 + 1, 0, none⟩) n n]) (by simp [results, Tryz.results11, go_sem, hc_w1, hf_w1, hz1, hz2, hz3]) rfl ⟨w.heap.size + 1 + 1 + 1, rfl, by repeat (first | exact Below.refl _ _ | assumption | refine below_allocS ?_ _ | refine below_callS ?_ (by assumption) | (refine Below.alloc ?_ (by first | omega | (simp; done) | (simp; omega)) _) | (refine Below.setCell ?_ (by first | omega | (simp; done) | (simp; omega)) _) | refine Below.drew ?_ | refine below_drewN ?_ _ | (refine below_call ?_ (by assumption) (by first | omega | (simp; done) | (simp; omega))) | (refine Below.trans ?_ (by assumption))), ?_⟩
  have h := HO.out
  simp at h
  refine OwnI.le (base := w.heap.size + 1 + 1 + 1) ?_ (by omega)
  repeat (refine OwnI.keepG ?_ (set_grown _ _ _) (by intro g hg; simp at hg ⊢; omega))
  exact h
theorem laws_szTraffic {b : Int} {a : Option Addr} {n c : Nat} {m : Int} {w : World} (hn : (n : Int) ≤ 9223372036854775807) (hm : 0 ≤ m) (hm' : m ≤ 1048576) :
    Calls Tryz.prog 9 #[.agg #[.int .i64 b, .slice a n c], .int .i64 m] w fun e w' => e = .returned (.int .i64 (if m < n then -1 else m - n)) ∧ Below w.heap.size w w' := by
  by_cases h : m < n
  all_goals
    go_enter Tryz.func9, Tryz.ntmps9
    go_wp2
    go_ret
    exact ⟨ret_int (by first | rfl | (split <;> omega)), by repeat (first | exact Below.refl _ _ | assumption | refine below_allocS ?_ _ | refine below_callS ?_ (by assumption) | (refine Below.alloc ?_ (by first | omega | (simp; done) | (simp; omega)) _) | (refine Below.setCell ?_ (by first | omega | (simp; done) | (simp; omega)) _) | refine Below.drew ?_ | refine below_drewN ?_ _ | (refine below_call ?_ (by assumption) (by first | omega | (simp; done) | (simp; omega))) | (refine Below.trans ?_ (by assumption)))⟩
theorem laws_eqInt64S_t {a a' : Option Addr} {n c n' c' : Nat} {l : List Int} {w : World} (hI : Ints w a n c l) (hI' : Ints w a' n' c' l) (hn : n ≤ 1048576) (hn' : n' ≤ 1048576) :
    Calls Tryz.prog 49 #[.slice a n c, .slice a' n' c'] w fun e w' => e = .returned (.bool true) ∧ Below w.heap.size w w' :=
  Calls.mono (laws_eqInt64S hI hI' hn hn') fun e w' ⟨h1, h2⟩ => ⟨by rw [h1]; simp, h2⟩
theorem laws_eqTraffic {b : Int} {a a' : Option Addr} {n c n' c' : Nat} {l : List Int} {w : World} (hI : Ints w a n c l) (hI' : Ints w a' n' c' l) (hn : n ≤ 1048576) (hn' : n' ≤ 1048576) :
    Calls Tryz.prog 13 #[.agg #[.int .i64 b, .slice a n c], .agg #[.int .i64 b, .slice a' n' c']] w fun e w' => e = .returned (.bool true) ∧ Below w.heap.size w w' := by
  have HI := Lib.hid hI
  have HI' := Lib.hid hI'
  clear hI hI'
  have hb : (b != b) = false := by simp
  go_enter Tryz.func13, Tryz.ntmps13
  go_wp2_with fail
  refine Calls.mono (laws_eqInt64S_t (HI.out.keep (by repeat (first | exact Below.refl _ _ | assumption | refine below_allocS ?_ _ | refine below_callS ?_ (by assumption) | (refine Below.alloc ?_ (by first | omega | (simp; done) | (simp; omega)) _) | (refine Below.setCell ?_ (by first | omega | (simp; done) | (simp; omega)) _) | refine Below.drew ?_ | refine below_drewN ?_ _ | (refine below_call ?_ (by assumption) (by first | omega | (simp; done) | (simp; omega))) | (refine Below.trans ?_ (by assumption))))) (HI'.out.keep (by repeat (first | exact Below.refl _ _ | assumption | refine below_allocS ?_ _ | refine below_callS ?_ (by assumption) | (refine Below.alloc ?_ (by first | omega | (simp; done) | (simp; omega)) _) | (refine Below.setCell ?_ (by first | omega | (simp; done) | (simp; omega)) _) | refine Below.drew ?_ | refine below_drewN ?_ _ | (refine below_call ?_ (by assumption) (by first | omega | (simp; done) | (simp; omega))) | (refine Below.trans ?_ (by assumption))))) hn hn') ?_
  rintro e w1 ⟨rfl, hb_w1⟩
  obtain ⟨hc_w1, hf_w1⟩ := bcell hb_w1
  have hs_w1 := hb_w1.size
  go_wp2
  go_ret
  exact ⟨rfl, by repeat (first | exact Below.refl _ _ | assumption | refine below_allocS ?_ _ | refine below_callS ?_ (by assumption) | (refine Below.alloc ?_ (by first | omega | (simp; done) | (simp; omega)) _) | (refine Below.setCell ?_ (by first | omega | (simp; done) | (simp; omega)) _) | refine Below.drew ?_ | refine below_drewN ?_ _ | (refine below_call ?_ (by assumption) (by first | omega | (simp; done) | (simp; omega))) | (refine Below.trans ?_ (by assumption)))⟩
theorem spec_IsTraffic {b : Int} {a : Option Addr} {n c : Nat} {l : List Int} {w : World} (hI : Ints w a n c l) (hn : n ≤ 1048576) :
    Calls Tryz.prog 97 #[.agg #[.int .i64 b, .slice a n c]] w fun e w' => e = .returned (.bool (trafB b l)) ∧ Below w.heap.size w w' := by
  have HI := Lib.hid hI
  clear hI
  have HB := Lib.hid (show trafB b l = (inB b 2 8 && inB l.length 1 4 && allIn 0 (3 * b - 1) l) from rfl)
  rw [HI.out.len] at HB
  cases t1 : inB b 2 8
  · have T1 := Lib.hid t1
    clear t1
    go_enter Tryz.func97, Tryz.ntmps97
    go_wp2_with fail
    refine Calls.mono (spec_l01In) ?_
    rintro e _ ⟨rfl, rfl⟩
    rw [T1.out]
    go_wp2
    go_ret
    exact ⟨ret_bool (by rw [HB.out, T1.out]; rfl), by repeat (first | exact Below.refl _ _ | assumption | refine below_allocS ?_ _ | refine below_callS ?_ (by assumption) | (refine Below.alloc ?_ (by first | omega | (simp; done) | (simp; omega)) _) | (refine Below.setCell ?_ (by first | omega | (simp; done) | (simp; omega)) _) | refine Below.drew ?_ | refine below_drewN ?_ _ | (refine below_call ?_ (by assumption) (by first | omega | (simp; done) | (simp; omega))) | (refine Below.trans ?_ (by assumption)))⟩
  · have T1 := Lib.hid t1
    obtain ⟨hb0, hb1⟩ : 2 ≤ b ∧ b ≤ 8 := by simpa [inB] using t1
    clear t1
    cases t2 : inB n 1 4
    · have T2 := Lib.hid t2
      clear t2
      go_enter Tryz.func97, Tryz.ntmps97
      go_wp2_with fail
      refine Calls.mono (spec_l01In) ?_
      rintro e _ ⟨rfl, rfl⟩
      rw [T1.out]
      go_wp2_with fail
      refine Calls.mono (spec_l01In) ?_
      rintro e _ ⟨rfl, rfl⟩
      rw [T2.out]
      go_wp2
      go_ret
      exact ⟨ret_bool (by rw [HB.out, T1.out, T2.out]; rfl), by repeat (first | exact Below.refl _ _ | assumption | refine below_allocS ?_ _ | refine below_callS ?_ (by assumption) | (refine Below.alloc ?_ (by first | omega | (simp; done) | (simp; omega)) _) | (refine Below.setCell ?_ (by first | omega | (simp; done) | (simp; omega)) _) | refine Below.drew ?_ | refine below_drewN ?_ _ | (refine below_call ?_ (by assumption) (by first | omega | (simp; done) | (simp; omega))) | (refine Below.trans ?_ (by assumption)))⟩
    · have T2 := Lib.hid t2
      have HB' := Lib.hid (show trafB b l = allIn 0 (3 * b - 1) l by rw [HB.out, T1.out, T2.out]; rfl)
      clear t2
      go_enter Tryz.func97, Tryz.ntmps97
      go_wp2_with fail
      refine Calls.mono (spec_l01In) ?_
      rintro e _ ⟨rfl, rfl⟩
      rw [T1.out]
      go_wp2_with fail
      refine Calls.mono (spec_l01In) ?_
      rintro e _ ⟨rfl, rfl⟩
      rw [T2.out]
      have hbw : Below w.heap.size w (w.alloc (.cells #[.int .i64 b, .slice a n c] 28)) := by repeat (first | exact Below.refl _ _ | assumption | refine below_allocS ?_ _ | refine below_callS ?_ (by assumption) | (refine Below.alloc ?_ (by first | omega | (simp; done) | (simp; omega)) _) | (refine Below.setCell ?_ (by first | omega | (simp; done) | (simp; omega)) _) | refine Below.drew ?_ | refine below_drewN ?_ _ | (refine below_call ?_ (by assumption) (by first | omega | (simp; done) | (simp; omega))) | (refine Below.trans ?_ (by assumption)))
      have B0 := Lib.hid (Blk.made w #[.int .i64 b, .slice a n c] 28)
      go_wp2_with fail
      go_loopw [3] (fun s3 wr => ∃ k : Nat, k ≤ n ∧ s3 = .int .i64 k ∧ Below w.heap.size w wr ∧ Hid (Blk wr w.heap.size #[.int .i64 b, .slice a n c] 28) ∧ Hid ((l.take k).all (fun x => inB x 0 (3 * b - 1)) = true)) (fun i _ => n - (intOf i).toNat)
      case atStart => exact ⟨0, Nat.zero_le _, rfl, hbw, B0, rfl⟩
      case round =>
        clear hbw B0
        obtain ⟨k, hk, rfl, hbl, B, A⟩ := hrel
        have c0 := B.out.cell 0
        have c1 := B.out.cell 1
        have z1 := B.out.lt
        simp at c0 c1
        by_cases hlt : k < n
        · obtain ⟨b', off, x, rfl, hb', hx, hcell, hwf⟩ := (HI.out.keep hbl).at hlt
          have Hx := Lib.hid hx
          have hk0 : (0 : Int) ≤ (k : Int) := by omega
          have hk1 : (k : Int) < (n : Int) := by omega
          clear hx hwf
          have e1 : IntKind.i64.wrap (3 * b) = 3 * b := IntWalk.i64_in _ (by omega)
          have e2 : IntKind.i64.wrap (3 * b - 1) = 3 * b - 1 := IntWalk.i64_in _ (by omega)
          cases hq : inB x 0 (3 * b - 1)
          all_goals
            have Hq := Lib.hid hq
            clear hq
            go_wp2_with fail
            go_quiet ((go_at_call 72; exact Calls.mono spec_l01In (fun _ _ h => ⟨h.1, _, h.2.symm⟩)))
            rw [Hq.out]
            clear e1 e2
            go_wp2
          · go_ret
            exact ⟨ret_bool (by rw [HB'.out, allIn, all_take_false Hx.out Hq.out]), by repeat (first | exact Below.refl _ _ | assumption | refine below_allocS ?_ _ | refine below_callS ?_ (by assumption) | (refine Below.alloc ?_ (by first | omega | (simp; done) | (simp; omega)) _) | (refine Below.setCell ?_ (by first | omega | (simp; done) | (simp; omega)) _) | refine Below.drew ?_ | refine below_drewN ?_ _ | (refine below_call ?_ (by assumption) (by first | omega | (simp; done) | (simp; omega))) | (refine Below.trans ?_ (by assumption)))⟩
          · go_roundw
            case rel => exact ⟨k + 1, by omega, by go_num, by repeat (first | exact Below.refl _ _ | assumption | refine below_allocS ?_ _ | refine below_callS ?_ (by assumption) | (refine Below.alloc ?_ (by first | omega | (simp; done) | (simp; omega)) _) | (refine Below.setCell ?_ (by first | omega | (simp; done) | (simp; omega)) _) | refine Below.drew ?_ | refine below_drewN ?_ _ | (refine below_call ?_ (by assumption) (by first | omega | (simp; done) | (simp; omega))) | (refine Below.trans ?_ (by assumption))), B, all_take_step Hx.out A.out Hq.out⟩
            case measure => simp [intOf]; omega
        · go_wp2
          go_ret
          have e : l.take k = l := take_len (by have := HI.out.len; omega)
          have h1 := A.out
          rw [e] at h1
          exact ⟨ret_bool (by rw [HB'.out, allIn, h1]), by repeat (first | exact Below.refl _ _ | assumption | refine below_allocS ?_ _ | refine below_callS ?_ (by assumption) | (refine Below.alloc ?_ (by first | omega | (simp; done) | (simp; omega)) _) | (refine Below.setCell ?_ (by first | omega | (simp; done) | (simp; omega)) _) | refine Below.drew ?_ | refine below_drewN ?_ _ | (refine below_call ?_ (by assumption) (by first | omega | (simp; done) | (simp; omega))) | (refine Below.trans ?_ (by assumption)))⟩
theorem impl_isBlockCount {n : Int} {w : World} : Calls Tryz.prog 102 #[.int .i64 n] w fun e w' => e = .returned (.bool (inB n 2 8)) ∧ w = w' := by
  go_enter Tryz.func102, Tryz.ntmps102
  go_wp2_with fail
  refine Calls.mono (impl_within) ?_
  rintro e _ ⟨rfl, rfl⟩
  go_wp2
  go_ret
  exact ⟨rfl, rfl⟩
theorem impl_IsTraffic_1 {b x : Int} {g : Nat} {w : World} (h0 : w.cell? ⟨g, 0, none⟩ = some (.int .i64 b)) (hg : g < w.heap.size) (hb : 2 ≤ b) (hb' : b ≤ 8) :
    Calls Tryz.prog 103 #[.int .i64 x, .pointer (some ⟨g, 0, none⟩)] w fun e w' => e = .returned (.bool (!inB x 0 (3 * b - 1))) ∧ Below w.heap.size w w' := by
  go_enter Tryz.func103, Tryz.ntmps103
  go_wp2_with fail
  refine Calls.mono (impl_within) ?_
  rintro e _ ⟨rfl, rfl⟩
  go_wp2
  go_ret
  exact ⟨rfl, by repeat (first | exact Below.refl _ _ | assumption | refine below_allocS ?_ _ | refine below_callS ?_ (by assumption) | (refine Below.alloc ?_ (by first | omega | (simp; done) | (simp; omega)) _) | (refine Below.setCell ?_ (by first | omega | (simp; done) | (simp; omega)) _) | refine Below.drew ?_ | refine below_drewN ?_ _ | (refine below_call ?_ (by assumption) (by first | omega | (simp; done) | (simp; omega))) | (refine Below.trans ?_ (by assumption)))⟩
theorem impl_IsTraffic {b : Int} {a : Option Addr} {n c : Nat} {l : List Int} {w : World} (hI : Ints w a n c l) (hn : n ≤ 1048576) :
    Calls Tryz.prog 52 #[.agg #[.int .i64 b, .slice a n c]] w fun e w' => e = .returned (.bool (trafB b l)) ∧ Below w.heap.size w w' := by
  have HI := Lib.hid hI
  clear hI
  have HB := Lib.hid (show trafB b l = (inB b 2 8 && inB l.length 1 4 && allIn 0 (3 * b - 1) l) from rfl)
  rw [HI.out.len] at HB
  cases t1 : inB b 2 8
  · have T1 := Lib.hid t1
    clear t1
    go_enter Tryz.func52, Tryz.ntmps52
    go_wp2_with fail
    refine Calls.mono (impl_isBlockCount) ?_
    rintro e _ ⟨rfl, rfl⟩
    rw [T1.out]
    go_wp2
    go_ret
    exact ⟨ret_bool (by rw [HB.out, T1.out]; rfl), by repeat (first | exact Below.refl _ _ | assumption | refine below_allocS ?_ _ | refine below_callS ?_ (by assumption) | (refine Below.alloc ?_ (by first | omega | (simp; done) | (simp; omega)) _) | (refine Below.setCell ?_ (by first | omega | (simp; done) | (simp; omega)) _) | refine Below.drew ?_ | refine below_drewN ?_ _ | (refine below_call ?_ (by assumption) (by first | omega | (simp; done) | (simp; omega))) | (refine Below.trans ?_ (by assumption)))⟩
  · have T1 := Lib.hid t1
    obtain ⟨hb0, hb1⟩ : 2 ≤ b ∧ b ≤ 8 := by simpa [inB] using t1
    clear t1
    cases t2 : inB n 1 4
    · have T2 := Lib.hid t2
      clear t2
      go_enter Tryz.func52, Tryz.ntmps52
      go_wp2_with fail
      refine Calls.mono (impl_isBlockCount) ?_
      rintro e _ ⟨rfl, rfl⟩
      rw [T1.out]
      go_wp2_with fail
      refine Calls.mono (impl_length_i64) ?_
      rintro e _ ⟨rfl, rfl⟩
      go_wp2_with fail
      refine Calls.mono (impl_within) ?_
      rintro e _ ⟨rfl, rfl⟩
      rw [T2.out]
      go_wp2
      go_ret
      exact ⟨ret_bool (by rw [HB.out, T1.out, T2.out]; rfl), by repeat (first | exact Below.refl _ _ | assumption | refine below_allocS ?_ _ | refine below_callS ?_ (by assumption) | (refine Below.alloc ?_ (by first | omega | (simp; done) | (simp; omega)) _) | (refine Below.setCell ?_ (by first | omega | (simp; done) | (simp; omega)) _) | refine Below.drew ?_ | refine below_drewN ?_ _ | (refine below_call ?_ (by assumption) (by first | omega | (simp; done) | (simp; omega))) | (refine Below.trans ?_ (by assumption)))⟩
    · have T2 := Lib.hid t2
      have HB' := Lib.hid (show trafB b l = allIn 0 (3 * b - 1) l by rw [HB.out, T1.out, T2.out]; rfl)
      clear t2
      have hcf := fun (wx : World) (hb : Below w.heap.size w wx) (k0 : wx.cell? ⟨w.heap.size, 0, none⟩ = some (.int .i64 b)) (k1 : w.heap.size < wx.heap.size) => slices_ContainsFunc_i64 (w := wx) (g := 103) (lb := #[.pointer (some ⟨w.heap.size, 0, none⟩)]) (p := fun x => !inB x 0 (3 * b - 1)) (enters_of Tryz.func103 (by kernel_rfl) rfl) (fun W x hx hbW => impl_IsTraffic_1 (x := x) (w := W) ((hbW.cell (p := ⟨w.heap.size, 0, none⟩) k1).trans k0) (Nat.lt_of_lt_of_le k1 hbW.size) hb0 hb1) (HI.out.keep hb) hn
      rw [any_not_allIn] at hcf
      have Hcf := Lib.hid hcf
      clear hcf
      go_enter Tryz.func52, Tryz.ntmps52
      go_wp2_with fail
      refine Calls.mono (impl_isBlockCount) ?_
      rintro e _ ⟨rfl, rfl⟩
      rw [T1.out]
      go_wp2_with fail
      refine Calls.mono (impl_length_i64) ?_
      rintro e _ ⟨rfl, rfl⟩
      go_wp2_with fail
      refine Calls.mono (impl_within) ?_
      rintro e _ ⟨rfl, rfl⟩
      rw [T2.out]
      go_wp2_with fail
      refine Calls.mono (Hcf.out _ (by repeat (first | exact Below.refl _ _ | assumption | refine below_allocS ?_ _ | refine below_callS ?_ (by assumption) | (refine Below.alloc ?_ (by first | omega | (simp; done) | (simp; omega)) _) | (refine Below.setCell ?_ (by first | omega | (simp; done) | (simp; omega)) _) | refine Below.drew ?_ | refine below_drewN ?_ _ | (refine below_call ?_ (by assumption) (by first | omega | (simp; done) | (simp; omega))) | (refine Below.trans ?_ (by assumption)))) (by simp) (by simp)) ?_
      rintro e w1 ⟨rfl, hb_w1⟩
      obtain ⟨hc_w1, hf_w1⟩ := bcell hb_w1
      have hs_w1 := hb_w1.size
      go_wp2
      go_ret
      exact ⟨ret_bool (by simp [HB'.out]), by repeat (first | exact Below.refl _ _ | assumption | refine below_allocS ?_ _ | refine below_callS ?_ (by assumption) | (refine Below.alloc ?_ (by first | omega | (simp; done) | (simp; omega)) _) | (refine Below.setCell ?_ (by first | omega | (simp; done) | (simp; omega)) _) | refine Below.drew ?_ | refine below_drewN ?_ _ | (refine below_call ?_ (by assumption) (by first | omega | (simp; done) | (simp; omega))) | (refine Below.trans ?_ (by assumption)))⟩
end Go.Proofs.YtfnamjkmkoldeaaGreatDoor
namespace Go.Proofs.YtfnamjkmkoldeaaGreatDoor
open Go.RowKit
set_option linter.unusedVariables false
set_option linter.unusedSimpArgs false
def stAt (b : Int) (t i : Nat) (x : Int) : Bool := inB x 0 (if i < t then 3 * b - 1 else if (i : Int) = t + b then 2 else 3)
def stP (b : Int) (t : Nat) (st : List Int) (i : Nat) : Bool := match st[i]? with | some x => stAt b t i x | none => true
def rideB (b : Int) (t : Nat) (st : List Int) : Bool := ((st.length : Int) == t + b + 1) && upB (stP b t st) st.length
theorem stP_at {b : Int} {t i : Nat} {st : List Int} {x : Int} (h : st[i]? = some x) : stP b t st i = stAt b t i x := by rw [stP, h]
def rideCode (b : Int) (l st : List Int) : Int := if trafB b l = false then 1 else if rideB b l.length st = false then 2 else 0
set_option maxHeartbeats 1000000 in
theorem impl_isRideState {b : Int} {a s : Option Addr} {n c m d : Nat} {st : List Int} {w : World} (hS : Ints w s m d st) (hm : m ≤ 1048576) (hb0 : 2 ≤ b) (hb1 : b ≤ 8) (hn : n ≤ 4) :
    Calls Tryz.prog 112 #[.agg #[.int .i64 b, .slice a n c], .slice s m d] w fun e w' => e = .returned (.bool (rideB b n st)) ∧ Below w.heap.size w w' := by
  have HS := Lib.hid hS
  have HB := Lib.hid (show rideB b n st = (((st.length : Int) == n + b + 1) && upB (stP b n st) st.length) from rfl)
  rw [HS.out.len] at HB
  clear hS
  cases t1 : ((m : Int) != (n : Int) + b + 1)
  · have T1 := Lib.hid (show ((m : Int) == (n : Int) + b + 1) = true by simpa using t1)
    have e1 : IntKind.i64.wrap ((n : Int) + b) = (n : Int) + b := IntWalk.i64_in _ (by omega)
    have e2 : IntKind.i64.wrap ((n : Int) + b + 1) = (n : Int) + b + 1 := IntWalk.i64_in _ (by omega)
    go_enter Tryz.func112, Tryz.ntmps112
    go_wp2_with fail
    refine Calls.mono (impl_length_i64) ?_
    rintro e _ ⟨rfl, rfl⟩
    go_wp2_with fail
    go_quiet ((go_at_call 79; exact Calls.mono impl_length_i64 (fun _ _ h => ⟨h.1, _, h.2.symm⟩)))
    clear e1 e2
    have B0 := Lib.hid (show Blk ((w.alloc (.cells #[.int .i64 b, .slice a n c] 28)).drewN nq) w.heap.size #[.int .i64 b, .slice a n c] 28 from Blk.made _ _ _)
    go_wp2_with fail
    go_loopw [22] (fun s1 wr => ∃ k : Nat, k ≤ m ∧ s1 = .int .i64 k ∧ Below w.heap.size w wr ∧ Hid (Blk wr w.heap.size #[.int .i64 b, .slice a n c] 28) ∧ Hid (upB (stP b n st) k = true)) (fun i _ => m - (intOf i).toNat)
    case atStart => exact ⟨0, Nat.zero_le _, rfl, by repeat (first | exact Below.refl _ _ | assumption | refine below_allocS ?_ _ | refine below_callS ?_ (by assumption) | (refine Below.alloc ?_ (by first | omega | (simp; done) | (simp; omega)) _) | (refine Below.setCell ?_ (by first | omega | (simp; done) | (simp; omega)) _) | refine Below.drew ?_ | refine below_drewN ?_ _ | (refine below_call ?_ (by assumption) (by first | omega | (simp; done) | (simp; omega))) | (refine Below.trans ?_ (by assumption))), B0, rfl⟩
    case round =>
      obtain ⟨k, hk, rfl, hbl, B, A⟩ := hrel
      have c0 := B.out.cell 0
      have c1 := B.out.cell 1
      have z1 := B.out.lt
      simp at c0 c1
      by_cases hlt : k < m
      · obtain ⟨b', off, x, rfl, hb', hx, hcell, hwf⟩ := (HS.out.keep hbl).at hlt
        have Hx := Lib.hid hx
        have hk0 : (0 : Int) ≤ (k : Int) := by omega
        have hk1 : (k : Int) < (m : Int) := by omega
        clear hx hwf
        by_cases h1 : (k : Int) < (n : Int)
        · have HP := Lib.hid (show stP b n st k = inB x 0 (3 * b - 1) by rw [stP_at Hx.out, stAt, if_pos (by omega)])
          cases ht : inB x 0 (3 * b - 1)
          all_goals
            have Ht := Lib.hid ht
            rw [ht] at HP
            clear ht
            go_wp2_with fail
            refine Calls.mono (impl_within) ?_
            rintro e _ ⟨rfl, rfl⟩
            rw [Ht.out]
            go_wp2
          · go_ret
            exact ⟨ret_bool (by rw [HB.out, T1.out, upB_false hlt HP.out]; rfl), hbl⟩
          · go_roundw
            case rel => exact ⟨k + 1, by omega, by go_num, hbl, B, upB_step A.out HP.out⟩
            case measure => simp [intOf]; omega
        · by_cases h2 : (k : Int) = (n : Int) + b
          · have HP := Lib.hid (show stP b n st k = inB x 0 2 by rw [stP_at Hx.out, stAt, if_neg (by omega), if_pos h2])
            have hq : ((k : Int) == (n : Int) + b) = true := by simpa using h2
            clear h2
            cases ht : inB x 0 2
            all_goals
              have Ht := Lib.hid ht
              rw [ht] at HP
              clear ht
              go_wp2_with fail
              refine Calls.mono (impl_within) ?_
              rintro e _ ⟨rfl, rfl⟩
              rw [Ht.out]
              go_wp2
            · go_ret
              exact ⟨ret_bool (by rw [HB.out, T1.out, upB_false hlt HP.out]; rfl), hbl⟩
            · go_roundw
              case rel => exact ⟨k + 1, by omega, by go_num, hbl, B, upB_step A.out HP.out⟩
              case measure => simp [intOf]; omega
          · have HP := Lib.hid (show stP b n st k = inB x 0 3 by rw [stP_at Hx.out, stAt, if_neg (by omega), if_neg h2])
            have hq : ((k : Int) == (n : Int) + b) = false := by simpa using h2
            clear h2
            cases ht : inB x 0 3
            all_goals
              have Ht := Lib.hid ht
              rw [ht] at HP
              clear ht
              go_wp2_with fail
              refine Calls.mono (impl_within) ?_
              rintro e _ ⟨rfl, rfl⟩
              rw [Ht.out]
              go_wp2
            · go_ret
              exact ⟨ret_bool (by rw [HB.out, T1.out, upB_false hlt HP.out]; rfl), hbl⟩
            · go_roundw
              case rel => exact ⟨k + 1, by omega, by go_num, hbl, B, upB_step A.out HP.out⟩
              case measure => simp [intOf]; omega
      · go_wp2
        go_ret
        have e : k = m := by omega
        have h1 := A.out
        rw [e] at h1
        exact ⟨ret_bool (by rw [HB.out, T1.out, h1]; rfl), hbl⟩
  · have T1 := Lib.hid (show ((m : Int) == (n : Int) + b + 1) = false by simpa using t1)
    have e1 : IntKind.i64.wrap ((n : Int) + b) = (n : Int) + b := IntWalk.i64_in _ (by omega)
    have e2 : IntKind.i64.wrap ((n : Int) + b + 1) = (n : Int) + b + 1 := IntWalk.i64_in _ (by omega)
    go_enter Tryz.func112, Tryz.ntmps112
    go_wp2_with fail
    refine Calls.mono (impl_length_i64) ?_
    rintro e _ ⟨rfl, rfl⟩
    go_wp2_with fail
    go_quiet ((go_at_call 79; exact Calls.mono impl_length_i64 (fun _ _ h => ⟨h.1, _, h.2.symm⟩)))
    clear e1 e2
    go_wp2
    go_ret
    exact ⟨ret_bool (by rw [HB.out, T1.out]; rfl), by repeat (first | exact Below.refl _ _ | assumption | refine below_allocS ?_ _ | refine below_callS ?_ (by assumption) | (refine Below.alloc ?_ (by first | omega | (simp; done) | (simp; omega)) _) | (refine Below.setCell ?_ (by first | omega | (simp; done) | (simp; omega)) _) | refine Below.drew ?_ | refine below_drewN ?_ _ | (refine below_call ?_ (by assumption) (by first | omega | (simp; done) | (simp; omega))) | (refine Below.trans ?_ (by assumption)))⟩
end Go.Proofs.YtfnamjkmkoldeaaGreatDoor
