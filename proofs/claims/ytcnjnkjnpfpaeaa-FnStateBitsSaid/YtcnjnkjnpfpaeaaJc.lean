/- Widths of variables, walked.; Widths of variables, walked: the program.; Widths of variables, walked: lists. -/
import Derived.Test.YtcnjnkjnpfpaeaaL01
import Derived.Test.YtcnjnkjnpfpaeaaSh
import Derived.Test.YtcnjnkjnpfpaeaaJb
namespace Go.Proofs.Ytcnjnkjnpfpaeaa
open Go.RowKit
set_option linter.unusedVariables false
set_option linter.unusedSimpArgs false
def wN (z : Int) : Int := if z ≤ 1 then 0 else if z ≤ 2 then 1 else if z ≤ 4 then 2 else if z ≤ 8 then 3 else if z ≤ 16 then 4 else 5
theorem wN_cases {z : Int} (h1 : 1 ≤ z) (h2 : z ≤ 32) : (z = 1 ∧ wN z = 0) ∨ (z = 2 ∧ wN z = 1) ∨ (2 < z ∧ z ≤ 4 ∧ wN z = 2) ∨ (4 < z ∧ z ≤ 8 ∧ wN z = 3) ∨ (8 < z ∧ z ≤ 16 ∧ wN z = 4) ∨ (16 < z ∧ z ≤ 32 ∧ wN z = 5) := by
  unfold wN; omega
theorem wN_len {z : Int} (h1 : 1 ≤ z) (h2 : z ≤ 32) : (Lib.bitLen (z - 1).toNat : Int) = wN z := by
  have h : ∀ k : Fin 32, ((Lib.bitLen k.val : Nat) : Int) = wN ((k.val : Int) + 1) := by decide +kernel
  have := h ⟨(z - 1).toNat, by omega⟩
  simp only at this
  rw [this]; congr 1; omega
set_option maxHeartbeats 1000000 in
theorem spec_l23Width {z : Int} {w : World} (h1 : 1 ≤ z) (h2 : z ≤ 32) : Calls Try.prog 35 #[.int .i64 z] w fun e w' => e = .returned (.int .i64 (wN z)) ∧ w = w' := by
  have hc := wN_cases h1 h2
  generalize wN z = r at *
  go_enter Try.func35, Try.ntmps35
  go_wp2_with fail
  go_loop [3] (fun s3 => ∃ n : Int, s3 = .int .i64 n ∧ 0 ≤ n ∧ n ≤ r) (fun s3 => (r - intOf s3).toNat)
  case atStart => exact ⟨0, rfl, by omega, by omega⟩
  case round =>
    obtain ⟨n, rfl, hn0, hn⟩ := hrel
    by_cases hnr : n < r
    · rcases (show n = 0 ∨ n = 1 ∨ n = 2 ∨ n = 3 ∨ n = 4 by omega) with rfl | rfl | rfl | rfl | rfl
      all_goals
        first | have f0 : (1 : Int) < z := (by omega) | have f0 : ¬ (1 : Int) < z := (by omega) | skip
        first | have f1 : (2 : Int) < z := (by omega) | have f1 : ¬ (2 : Int) < z := (by omega) | skip
        first | have f2 : (4 : Int) < z := (by omega) | have f2 : ¬ (4 : Int) < z := (by omega) | skip
        first | have f3 : (8 : Int) < z := (by omega) | have f3 : ¬ (8 : Int) < z := (by omega) | skip
        first | have f4 : (16 : Int) < z := (by omega) | have f4 : ¬ (16 : Int) < z := (by omega) | skip
        have f5 : ¬ (32 : Int) < z := by omega
        clear hc
        go_wp2_with fail
        go_round
        case rel => exact ⟨_, rfl, by omega, by omega⟩
        case measure => simp [intOf]; omega
    · obtain rfl : n = r := by omega
      rcases (show n = 0 ∨ n = 1 ∨ n = 2 ∨ n = 3 ∨ n = 4 ∨ n = 5 by omega) with rfl | rfl | rfl | rfl | rfl | rfl
      all_goals
        first | have f0 : (1 : Int) < z := (by omega) | have f0 : ¬ (1 : Int) < z := (by omega) | skip
        first | have f1 : (2 : Int) < z := (by omega) | have f1 : ¬ (2 : Int) < z := (by omega) | skip
        first | have f2 : (4 : Int) < z := (by omega) | have f2 : ¬ (4 : Int) < z := (by omega) | skip
        first | have f3 : (8 : Int) < z := (by omega) | have f3 : ¬ (8 : Int) < z := (by omega) | skip
        first | have f4 : (16 : Int) < z := (by omega) | have f4 : ¬ (16 : Int) < z := (by omega) | skip
        have f5 : ¬ (32 : Int) < z := by omega
        clear hc
        go_wp2
        go_ret
        exact ⟨rfl, rfl⟩
theorem sum_take {l : List Int} {k : Nat} {x : Int} (h : l[k]? = some x) : (l.take (k + 1)).sum = (l.take k).sum + x := by
  rw [take_at h, List.sum_append]; simp
set_option maxHeartbeats 1000000 in
theorem impl_sumOf {a : Option Addr} {n c : Nat} {l : List Int} {w : World} (hI : Ints w a n c l) (hn : n ≤ 1048576) (hs : allIn 0 1000000 l = true) :
    Calls Try.prog 49 #[.slice a n c] w fun e w' => e = .returned (.int .i64 l.sum) ∧ w = w' := by
  have HI := Lib.hid hI
  have HS := Lib.hid hs
  clear hI hs
  go_enter Try.func49, Try.ntmps49
  go_wp2
  go_loop [3, 5, 8] (fun s3 _ s8 => ∃ k : Nat, ∃ s : Int, k ≤ n ∧ s8 = .int .i64 k ∧ s3 = .int .i64 s ∧ 0 ≤ s ∧ s ≤ 1000000 * k ∧ Hid ((l.take k).sum = s)) (fun _ _ s8 => n - (intOf s8).toNat)
  case atStart => exact ⟨0, 0, Nat.zero_le _, rfl, rfl, by omega, by omega, rfl⟩
  case round =>
    obtain ⟨k, s, hk, rfl, rfl, hs0, hs1, A⟩ := hrel
    by_cases hlt : k < n
    · obtain ⟨b, off, x, rfl, hb, hx, hcell, hwf⟩ := HI.out.at hlt
      have Hx := Lib.hid hx
      have hx2 := allIn_at HS.out hx
      have hx0 := hx2.1
      have hx1 := hx2.2
      clear hx hx2
      go_wp2
      go_round
      case rel => exact ⟨k + 1, s + x, by omega, by go_num, rfl, by omega, by omega, Lib.hid (by rw [sum_take Hx.out, A.out])⟩
      case measure => simp [intOf]; omega
    · go_wp2
      go_ret
      have e : l.take k = l := take_len (by have := HI.out.len; omega)
      have h1 := A.out
      rw [e] at h1
      exact ⟨ret_int h1.symm, rfl⟩
theorem wl_take {l : List Int} {k : Nat} {x : Int} (h : l[k]? = some x) : (l.take (k + 1)).map wN = (l.take k).map wN ++ [wN x] := by
  rw [take_at h, List.map_append]; rfl
theorem wN_in {z : Int} (h1 : 1 ≤ z) (h2 : z ≤ 32) : 0 ≤ wN z ∧ wN z ≤ 5 := by have := wN_cases h1 h2; omega
theorem wl_in {l : List Int} (h : allIn 1 32 l = true) : allIn 0 1000000 (l.map wN) = true := by
  rw [allIn, List.all_eq_true] at *
  intro x hx
  obtain ⟨z, hz, rfl⟩ := List.mem_map.1 hx
  have h1 := h z hz
  simp [inB] at h1 ⊢
  have := wN_in h1.1 h1.2
  omega
theorem lib_Len64 {z : Int} {w : World} (h1 : 1 ≤ z) (h2 : z ≤ 32) : Calls Try.prog 48 #[.int .u64 (z - 1)] w fun e w' => e = .returned (.int .i64 (wN z)) ∧ w = w' := by
  refine Calls.mono (Try.bits_Len64 (z - 1) w (by omega) (by omega)) ?_
  rintro e w' ⟨rfl, rfl⟩
  exact ⟨ret_int (wN_len h1 h2), rfl⟩
set_option maxHeartbeats 2000000 in
theorem impl_widths {sa ta ra : Option Addr} {sn sc tn tc rn rc : Nat} {sz : List Int} {w : World} (hI : Ints w sa sn sc sz) (hn : sn ≤ 1048576) (hs : allIn 1 32 sz = true) :
    Calls Try.prog 29 #[.agg #[.slice sa sn sc, .slice ta tn tc, .slice ra rn rc]] w fun e w' => ∃ a c, e = .returned (.tuple #[.slice a sn c, .int .i64 (sz.map wN).sum]) ∧ Below w.heap.size w w' ∧ OwnI 2 w' w.heap.size a sn c (sz.map wN) := by
  have HI := Lib.hid hI
  have HS := Lib.hid hs
  clear hI hs
  go_enter Try.func29, Try.ntmps29
  go_wp2
  go_loopw [4, 6, 10] (fun s4 _ s10 wr => ∃ (k : Nat) (a1 : Option Addr) (c1 : Nat), k ≤ sn ∧ s4 = .slice a1 k c1 ∧ s10 = .int .i64 k ∧ Below w.heap.size w wr ∧ Hid (OwnI 2 wr w.heap.size a1 k c1 ((sz.take k).map wN))) (fun _ _ s10 _ => sn - (intOf s10).toNat)
  case atStart => exact ⟨0, none, 0, Nat.zero_le _, rfl, rfl, bel, Lib.hid (OwnI.nil _ _ _)⟩
  case round =>
    obtain ⟨k, a1, c1, hk, rfl, rfl, hbl, HO⟩ := hrel
    have hsz := hbl.size
    by_cases hlt : k < sn
    · obtain ⟨b, off, z, rfl, hb, hx, hcell, hwf⟩ := (HI.out.keep hbl).at hlt
      have hz2 := allIn_at HS.out hx
      have hz0 := hz2.1
      have hz1 := hz2.2
      have Hx := Lib.hid (wl_take hx)
      have Hw := wN_in hz0 hz1
      have e1 : IntKind.i64.wrap (z - 1) = z - 1 := IntWalk.i64_in _ (by omega)
      clear hx hz2
      go_wp2_with fail
      go_wp2_with fail
      refine Calls.mono ((lib_Len64 hz0 hz1)) ?_
      rintro e _ ⟨rfl, rfl⟩
      go_wp2_with (at_builtin; refine append1_i64 rfl _ _ 24 2 rfl Try.underlying24 Try.infoi64 w.heap.size _ _ _ _ (HO.out.keep ((Below.refl _ _).alloc (Nat.le_refl _) (.cells #[.int .i64 (wN z)] 2))) rfl wr.heap.size (wN z) rfl (by simp) (by unfold I64; omega) (by omega) (by simp; omega) ?_; intro a2 c2 w2 hown2 hb2 hg2)
      have Hown2 := Lib.hid hown2
      clear hown2
      go_roundw
      case rel => exact ⟨k + 1, a2, c2, by omega, rfl, by go_num, Below.trans bel hb2, Lib.hid (by rw [Hx.out]; exact Hown2.out)⟩
      case measure => simp [intOf]; omega
    · obtain rfl : sn = k := by omega
      have h1 := HO.out
      rw [take_len HI.out.len] at h1
      have hsum := impl_sumOf h1.ints hn (wl_in HS.out)
      have HO2 := Lib.hid h1
      have HSM := Lib.hid hsum
      clear h1 hsum
      go_wp2_with fail
      go_wp2_with fail
      refine Calls.mono (HSM.out) ?_
      rintro e _ ⟨rfl, rfl⟩
      go_wp2
      exact bodyPost_ret (v := .tuple #[.slice a1 sn c1, .int .i64 (sz.map wN).sum]) (by simp [results, Try.results29, go_sem]) rfl ⟨a1, c1, rfl, hbl, HO2.out⟩
end Go.Proofs.Ytcnjnkjnpfpaeaa
