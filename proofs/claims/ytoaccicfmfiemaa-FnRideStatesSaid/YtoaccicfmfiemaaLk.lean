/- The comparisons of the laws, walked. -/
import Derived.Test.YtoaccicfmfiemaaEx
namespace Go.Proofs.Ytoaccicfmfiemaa
open Go.RowKit
set_option linter.unusedVariables false
set_option linter.unusedSimpArgs false
set_option maxHeartbeats 1000000 in
theorem laws_likeInts {a a' : Option Addr} {n c n' c' : Nat} {l l' : List Int} {w : World} (hI : Ints w a n c l) (hI' : Ints w a' n' c' l') (hn : n ≤ 1048576) (hn' : n' ≤ 1048576) :
    Calls Try.prog 36 #[.slice a n c, .slice a' n' c'] w fun e w' => e = .returned (.bool (decide (l = l'))) ∧ Below w.heap.size w w' := by
  have HI := Lib.hid hI
  have HI' := Lib.hid hI'
  clear hI hI'
  by_cases hnn : n = n'
  · subst hnn
    have hq : ((n : Int) != (n : Int)) = false := by simp
    go_enter Try.func36, Try.ntmps36
    go_wp2
    go_loopw [5] (fun i wr => ∃ k : Nat, k ≤ n ∧ i = .int .i64 k ∧ Below w.heap.size w wr ∧ Hid (l.take k = l'.take k)) (fun i _ => n - (intOf i).toNat)
    case atStart => exact ⟨0, Nat.zero_le _, rfl, Below.refl _ _, rfl⟩
    case round =>
      obtain ⟨k, hk, rfl, hbl, hO⟩ := hrel
      by_cases hlt : k < n
      · obtain ⟨b, off, x, rfl, hb, hx, hcell, hwf⟩ := (HI.out.keep hbl).at hlt
        obtain ⟨b', off', x', rfl, hb', hx', hcell', hwf'⟩ := (HI'.out.keep hbl).at hlt
        have Hx := Lib.hid hx
        have Hx' := Lib.hid hx'
        clear hx hx'
        have hlt' : (k : Int) < (n : Int) := by omega
        have hpos : (0 : Int) ≤ (k : Int) := by omega
        by_cases hxx : x = x'
        · have hd : (x != x') = false := by simp [hxx]
          have Hxx := Lib.hid hxx
          clear hxx
          go_wp2
          go_quiet (fail)
          go_wp2
          go_roundw
          case rel => exact ⟨k + 1, by omega, by go_num, below_drewN hbl _, by show _ = _; rw [take_at Hx.out, take_at Hx'.out, hO.out, Hxx.out]⟩
          case measure => simp [intOf]; omega
        · have hd : (x != x') = true := by simp [hxx]
          go_wp2
          go_quiet (fail)
          go_wp2
          go_ret
          refine ⟨ret_bool ?_, below_drewN hbl _⟩
          have : l ≠ l' := fun h => hxx (by have h1 := Hx.out; have h2 := Hx'.out; rw [h, h2] at h1; simpa using h1.symm)
          simp [this]
      · go_wp2
        go_ret
        have e : k = n := by omega
        have h1 := hO.out
        rw [e, take_len HI.out.len, take_len HI'.out.len] at h1
        exact ⟨ret_bool (by simp [h1]), hbl⟩
  · have hq : ((n : Int) != (n' : Int)) = true := by simp; omega
    have hne : l ≠ l' := fun h => hnn (by rw [← HI.out.len, ← HI'.out.len, h])
    have Hne := Lib.hid hne
    clear hne
    go_enter Try.func36, Try.ntmps36
    go_wp2
    go_ret
    exact ⟨ret_bool (by simp [Hne.out]), Below.refl _ _⟩
set_option maxHeartbeats 1000000 in
theorem laws_likeReports9 {a1 a2 a3 a4 : Option Addr} {n1 n2 n3 n4 c1 c2 c3 c4 : Nat} {l1 l2 : List Int} {w : World} (h1 : Ints w a1 n1 c1 l1) (h2 : Ints w a2 n2 c2 l2) (h3 : Ints w a3 n3 c3 l1) (h4 : Ints w a4 n4 c4 l2) (m1 : n1 ≤ 1048576) (m2 : n2 ≤ 1048576) (m3 : n3 ≤ 1048576) (m4 : n4 ≤ 1048576) :
    Calls Try.prog 23 #[.agg #[.slice a1 n1 c1, .slice a2 n2 c2], .agg #[.slice a3 n3 c3, .slice a4 n4 c4]] w fun e w' => e = .returned (.bool true) ∧ Below w.heap.size w w' := by
  have k1 := fun (wx : World) (hb : Below w.heap.size w wx) => laws_likeInts (h1.keep hb) (h3.keep hb) m1 m3
  have k2 := fun (wx : World) (hb : Below w.heap.size w wx) => laws_likeInts (h2.keep hb) (h4.keep hb) m2 m4
  simp only [decide_true] at k1 k2
  have K1 := Lib.hid k1
  have K2 := Lib.hid k2
  clear k1 k2 h1 h2 h3 h4
  go_enter Try.func23, Try.ntmps23
  go_wp2_with fail
  refine Calls.mono (K1.out _ (by repeat (first | exact Below.refl _ _ | assumption | refine below_allocS ?_ _ | refine below_callS ?_ (by assumption) | (refine Below.alloc ?_ (by first | omega | (simp; done) | (simp; omega)) _) | (refine Below.setCell ?_ (by first | omega | (simp; done) | (simp; omega)) _) | refine Below.drew ?_ | refine below_drewN ?_ _ | (refine below_call ?_ (by assumption) (by first | omega | (simp; done) | (simp; omega))) | (refine Below.trans ?_ (by assumption))))) ?_
  rintro e w1 ⟨rfl, hb_w1⟩
  obtain ⟨hc_w1, hf_w1⟩ := bcell hb_w1
  have hs_w1 := hb_w1.size
  simp at hs_w1
  have hz1 : w.heap.size < w1.heap.size := by omega
  have hz2 : w.heap.size + 1 < w1.heap.size := by omega
  go_wp2_with fail
  refine Calls.mono (K2.out _ (by repeat (first | exact Below.refl _ _ | assumption | refine below_allocS ?_ _ | refine below_callS ?_ (by assumption) | (refine Below.alloc ?_ (by first | omega | (simp; done) | (simp; omega)) _) | (refine Below.setCell ?_ (by first | omega | (simp; done) | (simp; omega)) _) | refine Below.drew ?_ | refine below_drewN ?_ _ | (refine below_call ?_ (by assumption) (by first | omega | (simp; done) | (simp; omega))) | (refine Below.trans ?_ (by assumption))))) ?_
  rintro e w2 ⟨rfl, hb_w2⟩
  obtain ⟨hc_w2, hf_w2⟩ := bcell hb_w2
  have hs_w2 := hb_w2.size
  go_wp2
  go_ret
  exact ⟨rfl, by repeat (first | exact Below.refl _ _ | assumption | refine below_allocS ?_ _ | refine below_callS ?_ (by assumption) | (refine Below.alloc ?_ (by first | omega | (simp; done) | (simp; omega)) _) | (refine Below.setCell ?_ (by first | omega | (simp; done) | (simp; omega)) _) | refine Below.drew ?_ | refine below_drewN ?_ _ | (refine below_call ?_ (by assumption) (by first | omega | (simp; done) | (simp; omega))) | (refine Below.trans ?_ (by assumption)))⟩
end Go.Proofs.Ytoaccicfmfiemaa
