/- Lists of bits, walked. -/
import Derived.Test.YtcnjnkjnpfpaeaaSl
import Derived.Test.YtcnjnkjnpfpaeaaL01
import Derived.Test.YtcnjnkjnpfpaeaaEx
namespace Go.Proofs.Ytcnjnkjnpfpaeaa
open Go.RowKit
set_option linter.unusedVariables false
set_option linter.unusedSimpArgs false
theorem allIn_anyB {lo hi : Int} {l : List Int} : (l.any fun x => !inB x lo hi) = !allIn lo hi l := by
  rw [allIn, List.not_all_eq_any_not]
theorem impl_areBits_1 {x : Int} {w : World} : Calls Try.prog 50 #[.int .i64 x] w fun e w' => e = .returned (.bool (!inB x 0 1)) ∧ w = w' := by
  rcases (show x < 0 ∨ x = 0 ∨ x = 1 ∨ 1 < x by omega) with h | rfl | rfl | h
  · have h0 : (x != 0) = true := by rw [bne_iff_ne]; omega
    have h1 : (x != 1) = true := by rw [bne_iff_ne]; omega
    have HB := Lib.hid (show inB x 0 1 = false by simp [inB]; omega)
    clear h
    go_enter Try.func50, Try.ntmps50
    go_wp2
    go_ret
    exact ⟨ret_bool (by rw [HB.out]; rfl), rfl⟩
  · go_enter Try.func50, Try.ntmps50
    go_wp2
    go_ret
    exact ⟨rfl, rfl⟩
  · go_enter Try.func50, Try.ntmps50
    go_wp2
    go_ret
    exact ⟨rfl, rfl⟩
  · have h0 : (x != 0) = true := by rw [bne_iff_ne]; omega
    have h1 : (x != 1) = true := by rw [bne_iff_ne]; omega
    have HB := Lib.hid (show inB x 0 1 = false by simp [inB]; omega)
    clear h
    go_enter Try.func50, Try.ntmps50
    go_wp2
    go_ret
    exact ⟨ret_bool (by rw [HB.out]; rfl), rfl⟩
def areB (bs : List Int) (N : Int) : Bool := decide ((bs.length : Int) = N) && allIn 0 1 bs
set_option maxHeartbeats 1000000 in
theorem impl_areBits {a : Option Addr} {n c : Nat} {l : List Int} {N : Int} {w : World} (hI : Ints w a n c l) (hn : n ≤ 1048576) :
    Calls Try.prog 30 #[.slice a n c, .int .i64 N] w fun e w' => e = .returned (.bool (areB l N)) ∧ Below w.heap.size w w' := by
  have hl := hI.len
  by_cases h : (n : Int) = N
  · have HA := Lib.hid (show areB l N = allIn 0 1 l by rw [areB, hl, decide_eq_true h, Bool.true_and])
    have hcf := fun (wx : World) (hb : Below w.heap.size w wx) => slices_ContainsFunc_i64 (g := 50) (lb := #[]) (p := fun x => !inB x 0 1) (w := wx) (enters_of Try.func50 (by kernel_rfl) rfl) (fun W x hx hb => Calls.mono (impl_areBits_1 (x := x) (w := W)) (fun e w' h => ⟨h.1, h.2 ▸ Below.refl _ _⟩)) (hI.keep hb) hn
    simp only [allIn_anyB] at hcf
    have hq : ((n : Int) == N) = true := by rw [beq_iff_eq]; exact h
    cases hc : allIn 0 1 l
    all_goals
      simp only [hc] at hcf
      have HC := Lib.hid hc
      have HCF := Lib.hid hcf
      clear hc hcf hI hl h
      go_enter Try.func30, Try.ntmps30
      go_wp2_with fail
      refine Calls.mono (HCF.out _ bel) ?_
      rintro e w1 ⟨rfl, hb_w1⟩
      obtain ⟨hc_w1, hf_w1⟩ := bcell hb_w1
      have hs_w1 := hb_w1.size
      go_wp2
      go_ret
      exact ⟨ret_bool (by rw [HA.out, HC.out]), bel⟩
  · have HA := Lib.hid (show areB l N = false by rw [areB, hl, decide_eq_false h, Bool.false_and])
    have hq : ((n : Int) == N) = false := by rw [beq_eq_false_iff_ne]; exact h
    clear hI hl h
    go_enter Try.func30, Try.ntmps30
    go_wp2
    go_ret
    exact ⟨ret_bool (by rw [HA.out]), bel⟩
set_option maxHeartbeats 1000000 in
theorem spec_l22Bits {a : Option Addr} {n c : Nat} {l : List Int} {N : Int} {w : World} (hI : Ints w a n c l) (hn : n ≤ 1048576) :
    Calls Try.prog 33 #[.slice a n c, .int .i64 N] w fun e w' => e = .returned (.bool (areB l N)) ∧ w = w' := by
  have HI := Lib.hid hI
  clear hI
  go_enter Try.func33, Try.ntmps33
  go_wp2_with fail
  go_loop [4, 5] (fun _ s3 => ∃ k : Nat, k ≤ n ∧ s3 = .int .i64 k ∧ Hid ((l.take k).all (fun x => inB x 0 1) = true)) (fun _ s3 => n - (intOf s3).toNat)
  case atStart => exact ⟨0, Nat.zero_le _, rfl, rfl⟩
  case round =>
    obtain ⟨k, hk, rfl, A⟩ := hrel
    by_cases hlt : k < n
    · have hlt' : (k : Int) < (n : Int) := by omega
      have hk0 : (0 : Int) ≤ (k : Int) := by omega
      obtain ⟨b, off, x, rfl, hb, hx, hcell, hwf⟩ := HI.out.at hlt
      have Hx := Lib.hid hx
      have hin := fun (wx : World) => spec_l01In (x := x) (lo := 0) (hi := 1) (w := wx)
      clear hx
      cases hq : inB x 0 1
      all_goals
        have HQ := Lib.hid hq
        simp only [hq] at hin
        have HIN := Lib.hid hin
        clear hq hin
        go_wp2_with fail
        go_wp2_with fail
        refine Calls.mono ((HIN.out _)) ?_
        rintro e _ ⟨rfl, rfl⟩
      · go_wp2
        go_ret
        exact ⟨ret_bool (by rw [areB, allIn, all_take_false Hx.out HQ.out, Bool.and_false]), rfl⟩
      · go_wp2_with fail
        go_round
        case rel => exact ⟨k + 1, by omega, by go_num, all_take_step Hx.out A.out HQ.out⟩
        case measure => simp [intOf]; omega
    · obtain rfl : n = k := by omega
      have hlt' : ¬ (n : Int) < (n : Int) := by omega
      have h1 := A.out
      rw [take_len HI.out.len] at h1
      have HA := Lib.hid (show areB l N = decide ((n : Int) = N) by rw [areB, allIn, h1, Bool.and_true, HI.out.len])
      clear h1 A
      by_cases h : (n : Int) = N
      · have hq : ((n : Int) == N) = true := by rw [beq_iff_eq]; exact h
        have HA2 := Lib.hid (HA.out.trans (decide_eq_true h))
        clear h HA
        go_wp2
        go_ret
        exact ⟨ret_bool HA2.out.symm, rfl⟩
      · have hq : ((n : Int) == N) = false := by rw [beq_eq_false_iff_ne]; exact h
        have HA2 := Lib.hid (HA.out.trans (decide_eq_false h))
        clear h HA
        go_wp2
        go_ret
        exact ⟨ret_bool HA2.out.symm, rfl⟩
end Go.Proofs.Ytcnjnkjnpfpaeaa
