/- The comparisons of the laws, walked. -/
import Derived.Test.YtcnjnkjnpfpaeaaEx
namespace Go.Proofs.Ytcnjnkjnpfpaeaa
open Go.RowKit
set_option linter.unusedVariables false
set_option linter.unusedSimpArgs false
set_option maxHeartbeats 1000000 in
theorem laws_likeInts {a a' : Option Addr} {n c n' c' : Nat} {l l' : List Int} {w : World} (hI : Ints w a n c l) (hI' : Ints w a' n' c' l') (hn : n ≤ 1048576) (hn' : n' ≤ 1048576) :
    Calls Try.prog 14 #[.slice a n c, .slice a' n' c'] w fun e w' => e = .returned (.bool (decide (l = l'))) ∧ Below w.heap.size w w' := by
  have HI := Lib.hid hI
  have HI' := Lib.hid hI'
  clear hI hI'
  by_cases hnn : n = n'
  · subst hnn
    have hq : ((n : Int) != (n : Int)) = false := by simp
    go_enter Try.func14, Try.ntmps14
    go_wp2
    go_loopw [5] (fun i wr => ∃ k : Nat, k ≤ n ∧ i = .int .i64 k ∧ Below w.heap.size w wr ∧ Hid (l.take k = l'.take k)) (fun i _ => n - (intOf i).toNat)
    case atStart => exact ⟨0, Nat.zero_le _, rfl, Below.refl _ _, rfl⟩
    case round =>
      obtain ⟨k, hk, rfl, hbl, hO⟩ := hrel
      by_cases hlt : k < n
      · obtain ⟨b, off, x, rfl, hb, hx, hcell, hwf⟩ := (HI.out.keep hbl).at hlt
        obtain ⟨b', off', x', rfl, hb', hx', hcell', hwf'⟩ := (HI'.out.keep hbl).at hlt
        have Hx := Lib.hid hx
        have Hx' := Lib.hid hx'
        clear hx hx'
        have hlt' : (k : Int) < (n : Int) := by omega
        have hpos : (0 : Int) ≤ (k : Int) := by omega
        by_cases hxx : x = x'
        · have hd : (x != x') = false := by simp [hxx]
          have Hxx := Lib.hid hxx
          clear hxx
          go_wp2
          go_quiet (fail)
          go_wp2
          go_roundw
          case rel => exact ⟨k + 1, by omega, by go_num, below_drewN hbl _, by show _ = _; rw [take_at Hx.out, take_at Hx'.out, hO.out, Hxx.out]⟩
          case measure => simp [intOf]; omega
        · have hd : (x != x') = true := by simp [hxx]
          go_wp2
          go_quiet (fail)
          go_wp2
          go_ret
          refine ⟨ret_bool ?_, below_drewN hbl _⟩
          have : l ≠ l' := fun h => hxx (by have h1 := Hx.out; have h2 := Hx'.out; rw [h, h2] at h1; simpa using h1.symm)
          simp [this]
      · go_wp2
        go_ret
        have e : k = n := by omega
        have h1 := hO.out
        rw [e, take_len HI.out.len, take_len HI'.out.len] at h1
        exact ⟨ret_bool (by simp [h1]), hbl⟩
  · have hq : ((n : Int) != (n' : Int)) = true := by simp; omega
    have hne : l ≠ l' := fun h => hnn (by rw [← HI.out.len, ← HI'.out.len, h])
    have Hne := Lib.hid hne
    clear hne
    go_enter Try.func14, Try.ntmps14
    go_wp2
    go_ret
    exact ⟨ret_bool (by simp [Hne.out]), Below.refl _ _⟩
end Go.Proofs.Ytcnjnkjnpfpaeaa
