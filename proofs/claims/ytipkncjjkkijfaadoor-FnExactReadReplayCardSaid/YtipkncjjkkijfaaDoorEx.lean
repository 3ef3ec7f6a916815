/- The copies, comparisons and marks of the exact laws, walked. -/
import Derived.Test.YtipkncjjkkijfaaDoorBase
namespace Go.Proofs.YtipkncjjkkijfaaDoor
open Go.RowKit
set_option linter.unusedVariables false
set_option linter.unusedSimpArgs false
theorem Tryd.infoi64 : (Tryd.prog.info? 2).map (fun i => (i.zero, i.size, i.bytes)) = some (some (.int .i64 0), 1, 8) := by kernel_rfl
set_option maxHeartbeats 1000000 in
theorem laws_toInt64S {a : Option Addr} {n c : Nat} {l : List Int} {w : World} (hI : Ints w a n c l) (hn : n ≤ 1048576) :
    Calls Tryd.prog 17 #[.slice a n c] w fun e w' => e = .returned (.slice (some ⟨w.heap.size, 0, none⟩) n n) ∧ Below w.heap.size w w' ∧ OwnI 2 w' w.heap.size (some ⟨w.heap.size, 0, none⟩) n n l := by
  obtain ⟨i0, hi, hz0, hz1, hz2⟩ := info_parts Tryd.infoi64
  obtain ⟨w1, hmk, hown, hgr⟩ := run_make_full (P := Tryd.prog) w w.heap.size 22 2 i0 (.int .i64 0) 1 Tryd.underlying22 hi hz0 hz1 .i64 .i64 n (by rw [hz2]; omega) (by unfold maxLen; omega) (Nat.le_refl _)
  have hb1 : Below w.heap.size w w1 := (Below.refl _ _).grown hgr (Nat.le_refl _) (fun k h => by cases h)
  have ho : OwnI 2 w1 w.heap.size (some ⟨w.heap.size, 0, none⟩) n n (l.take 0 ++ List.replicate (n - 0) 0) := by
    refine ⟨?_, fun x hx => ?_⟩
    · have : (madeCells (Value.cells (.int .i64 0)) (n * 1)).toList = (l.take 0 ++ List.replicate (n - 0) 0).map (Value.int .i64) := by
        rw [Nat.mul_one, show Value.cells (.int .i64 0) = #[.int .i64 0] from rfl, toList_madeCells_one]; simp
      rw [this] at hown; exact hown
    · simp at hx; rw [hx.2]; exact ⟨by omega, by omega⟩
  have HI := Lib.hid hI
  have HO := Lib.hid ho
  clear hI ho hown hgr hi hz0 hz1 hz2
  go_enter Tryd.func17, Tryd.ntmps17
  go_wp2
  clear hmk
  go_loopw [4] (fun i wr => ∃ k : Nat, k ≤ n ∧ i = .int .i64 k ∧ Below w.heap.size w wr ∧ Hid (OwnI 2 wr w.heap.size (some ⟨w.heap.size, 0, none⟩) n n (l.take k ++ List.replicate (n - k) 0))) (fun i _ => n - (intOf i).toNat)
  case atStart => exact ⟨0, Nat.zero_le _, rfl, hb1, HO.out⟩
  case round =>
    obtain ⟨k, hk, rfl, hbl, hO⟩ := hrel
    by_cases hlt : k < n
    · obtain ⟨b, off, x, rfl, hb, hx, hcell, hwf⟩ := (HI.out.keep hbl).at hlt
      have Hx := Lib.hid hx
      obtain ⟨y, _, _, hcy⟩ := hO.out.cell hlt
      have hfz := hO.out.free k
      have hne : b ≠ w.heap.size := by
        have := HI.out.pos
        rcases this with h0 | ⟨b', off', he, hb', _⟩
        · omega
        · simp at he; omega
      clear hx
      go_wp2
      go_roundw
      case rel => exact ⟨k + 1, by omega, by go_num, hbl.setCell (by simp) _, by have := hO.out.set k hwf; rw [set_fill Hx.out n HI.out.len] at this; exact this⟩
      case measure => simp [intOf]; omega
    · go_wp2
      go_ret
      have e : k = n := by omega
      have h1 := hO.out
      rw [e, take_len HI.out.len, Nat.sub_self, List.replicate_zero, List.append_nil] at h1
      exact ⟨rfl, hbl, h1⟩
set_option maxHeartbeats 1000000 in
theorem laws_eqInt64S {a a' : Option Addr} {n c n' c' : Nat} {l l' : List Int} {w : World} (hI : Ints w a n c l) (hI' : Ints w a' n' c' l') (hn : n ≤ 1048576) (hn' : n' ≤ 1048576) :
    Calls Tryd.prog 25 #[.slice a n c, .slice a' n' c'] w fun e w' => e = .returned (.bool (decide (l = l'))) ∧ Below w.heap.size w w' := by
  have HI := Lib.hid hI
  have HI' := Lib.hid hI'
  clear hI hI'
  by_cases hnn : n = n'
  · subst hnn
    have hq : ((n : Int) != (n : Int)) = false := by simp
    go_enter Tryd.func25, Tryd.ntmps25
    go_wp2
    go_loopw [5] (fun i wr => ∃ k : Nat, k ≤ n ∧ i = .int .i64 k ∧ Below w.heap.size w wr ∧ Hid (l.take k = l'.take k)) (fun i _ => n - (intOf i).toNat)
    case atStart => exact ⟨0, Nat.zero_le _, rfl, Below.refl _ _, rfl⟩
    case round =>
      obtain ⟨k, hk, rfl, hbl, hO⟩ := hrel
      by_cases hlt : k < n
      · obtain ⟨b, off, x, rfl, hb, hx, hcell, hwf⟩ := (HI.out.keep hbl).at hlt
        obtain ⟨b', off', x', rfl, hb', hx', hcell', hwf'⟩ := (HI'.out.keep hbl).at hlt
        have Hx := Lib.hid hx
        have Hx' := Lib.hid hx'
        clear hx hx'
        have hlt' : (k : Int) < (n : Int) := by omega
        have hpos : (0 : Int) ≤ (k : Int) := by omega
        by_cases hxx : x = x'
        · have hd : (x != x') = false := by simp [hxx]
          have Hxx := Lib.hid hxx
          clear hxx
          go_wp2
          go_quiet (fail)
          go_wp2
          go_roundw
          case rel => exact ⟨k + 1, by omega, by go_num, below_drewN hbl _, by show _ = _; rw [take_at Hx.out, take_at Hx'.out, hO.out, Hxx.out]⟩
          case measure => simp [intOf]; omega
        · have hd : (x != x') = true := by simp [hxx]
          go_wp2
          go_quiet (fail)
          go_wp2
          go_ret
          refine ⟨ret_bool ?_, below_drewN hbl _⟩
          have : l ≠ l' := fun h => hxx (by have h1 := Hx.out; have h2 := Hx'.out; rw [h, h2] at h1; simpa using h1.symm)
          simp [this]
      · go_wp2
        go_ret
        have e : k = n := by omega
        have h1 := hO.out
        rw [e, take_len HI.out.len, take_len HI'.out.len] at h1
        exact ⟨ret_bool (by simp [h1]), hbl⟩
  · have hq : ((n : Int) != (n' : Int)) = true := by simp; omega
    have hne : l ≠ l' := fun h => hnn (by rw [← HI.out.len, ← HI'.out.len, h])
    have Hne := Lib.hid hne
    clear hne
    go_enter Tryd.func25, Tryd.ntmps25
    go_wp2
    go_ret
    exact ⟨ret_bool (by simp [Hne.out]), Below.refl _ _⟩
set_option maxHeartbeats 1000000 in
theorem laws_markInt64S {a : Option Addr} {n c base : Nat} {l : List Int} {q : Int} {w : World} (hI : OwnI 2 w base a n c l) (hn : n ≤ 1048576) (hq0 : 0 ≤ q) (hq1 : q ≤ 1099511627776) :
    Calls Tryd.prog 26 #[.slice a n c, .int .i64 q] w fun e w' => e = .returned (.int .i64 (q + n)) ∧ Touch w w' n a ∧ OwnI 2 w' base a n c (marksI q n) := by
  by_cases hn0 : n = 0
  · subst hn0
    have HI := Lib.hid hI
    have hl : l = marksI q 0 := by have := hI.len; cases l with | nil => rfl | cons => simp at this
    subst hl
    clear hI
    go_enter Tryd.func26, Tryd.ntmps26
    go_wp2
    go_loopw [1, 5] (fun s1 s5 wr => s1 = .int .i64 q ∧ s5 = .int .i64 0 ∧ wr = w) (fun _ _ _ => 0)
    case atStart => exact ⟨rfl, rfl, rfl⟩
    case round =>
      obtain ⟨rfl, rfl, rfl⟩ := hrel
      go_wp2
      go_ret
      exact ⟨ret_int (by omega), ⟨none, grownBy_refl _ _, fun _ h => by cases h⟩, HI.out⟩
  · obtain ⟨g, rfl⟩ := hI.shape (by omega)
    have HI := Lib.hid (show OwnI 2 w base (some ⟨g, 0, none⟩) n c ((marksI q n).take 0 ++ l.drop 0) by simpa using hI)
    have hlen := hI.len
    have Hlen := Lib.hid hlen
    clear hI hlen
    go_enter Tryd.func26, Tryd.ntmps26
    go_wp2
    go_loopw [1, 5] (fun s1 s5 wr => ∃ j : Nat, j ≤ n ∧ s1 = .int .i64 (q + j) ∧ s5 = .int .i64 j ∧ w.grownBy wr (some g) ∧ Hid (OwnI 2 wr base (some ⟨g, 0, none⟩) n c ((marksI q n).take j ++ l.drop j))) (fun _ s5 _ => n - (intOf s5).toNat)
    case atStart => exact ⟨0, Nat.zero_le _, by simp, rfl, grownBy_refl _ _, HI.out⟩
    case round =>
      obtain ⟨j, hj, rfl, rfl, hg, hO⟩ := hrel
      by_cases hlt : j < n
      · obtain ⟨y, _, _, hc0⟩ := hO.out.cell hlt
        have hfz := hO.out.free
        go_wp2
        go_roundw
        case rel =>
          refine ⟨j + 1, by omega, by go_num, by go_num, ?_, ?_⟩
          · repeat (first | exact hg | refine grownBy_set ?_ _ _)
          · have := hO.out.set j (x := q + (j : Int)) ⟨by omega, by omega⟩
            rw [show q + (j : Int) = (fun i : Nat => q + (i : Int)) j from rfl, marksI, mix_set hlt Hlen.out] at this
            exact this
        case measure => simp [intOf]; omega
      · go_wp2
        go_ret
        have e : j = n := by omega
        have h1 := hO.out
        rw [e, List.drop_of_length_le (by have := Hlen.out; omega), List.append_nil, List.take_of_length_le (by simp [marksI])] at h1
        exact ⟨ret_int (by rw [e]), ⟨_, hg, fun b hb => by cases hb; exact ⟨by omega, rfl⟩⟩, h1⟩
theorem laws_toInt64S_g {a : Option Addr} {n c : Nat} {l : List Int} {w : World} (hI : Ints w a n c l) (hn : n ≤ 1048576) :
    Calls Tryd.prog 17 #[.slice a n c] w fun e w' => ∃ g, e = .returned (.slice (some ⟨g, 0, none⟩) n n) ∧ Below w.heap.size w w' ∧ OwnI 2 w' w.heap.size (some ⟨g, 0, none⟩) n n l :=
  Calls.mono (laws_toInt64S hI hn) fun e w' ⟨h1, h2, h3⟩ => ⟨_, h1, h2, h3⟩
end Go.Proofs.YtipkncjjkkijfaaDoor
