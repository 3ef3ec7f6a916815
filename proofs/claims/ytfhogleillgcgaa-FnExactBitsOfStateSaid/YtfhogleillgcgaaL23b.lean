/- Widths of variables, walked: the program. -/
import Derived.Test.YtfhogleillgcgaaL20b
import Derived.Test.YtfhogleillgcgaaL23a
namespace Go.Proofs.Ytfhogleillgcgaa
open Go.RowKit
set_option linter.unusedVariables false
set_option linter.unusedSimpArgs false
theorem sum_take {l : List Int} {k : Nat} {x : Int} (h : l[k]? = some x) : (l.take (k + 1)).sum = (l.take k).sum + x := by
  rw [take_at h, List.sum_append]; simp
set_option maxHeartbeats 1000000 in
theorem impl_sumOf {a : Option Addr} {n c : Nat} {l : List Int} {w : World} (hI : Ints w a n c l) (hn : n ≤ 1048576) (hs : allIn 0 1000000 l = true) :
    Calls Try.prog 65 #[.slice a n c] w fun e w' => e = .returned (.int .i64 l.sum) ∧ w = w' := by
  have HI := Lib.hid hI
  have HS := Lib.hid hs
  clear hI hs
  go_enter Try.func65, Try.ntmps65
  go_wp2
  go_loop [3, 5, 8] (fun s3 _ s8 => ∃ k : Nat, ∃ s : Int, k ≤ n ∧ s8 = .int .i64 k ∧ s3 = .int .i64 s ∧ 0 ≤ s ∧ s ≤ 1000000 * k ∧ Hid ((l.take k).sum = s)) (fun _ _ s8 => n - (intOf s8).toNat)
  case atStart => exact ⟨0, 0, Nat.zero_le _, rfl, rfl, by omega, by omega, rfl⟩
  case round =>
    obtain ⟨k, s, hk, rfl, rfl, hs0, hs1, A⟩ := hrel
    by_cases hlt : k < n
    · obtain ⟨b, off, x, rfl, hb, hx, hcell, hwf⟩ := HI.out.at hlt
      have Hx := Lib.hid hx
      have hx2 := allIn_at HS.out hx
      have hx0 := hx2.1
      have hx1 := hx2.2
      clear hx hx2
      go_wp2
      go_round
      case rel => exact ⟨k + 1, s + x, by omega, by go_num, rfl, by omega, by omega, Lib.hid (by rw [sum_take Hx.out, A.out])⟩
      case measure => simp [intOf]; omega
    · go_wp2
      go_ret
      have e : l.take k = l := take_len (by have := HI.out.len; omega)
      have h1 := A.out
      rw [e] at h1
      exact ⟨ret_int h1.symm, rfl⟩
end Go.Proofs.Ytfhogleillgcgaa
