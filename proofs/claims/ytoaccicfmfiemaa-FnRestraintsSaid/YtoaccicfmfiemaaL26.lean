/- The restraints of layer 26, walked. -/
import Derived.Test.YtoaccicfmfiemaaL01
import Derived.Test.YtoaccicfmfiemaaSl
namespace Go.Proofs.Ytoaccicfmfiemaa
open Go.RowKit
set_option linter.unusedVariables false
set_option linter.unusedSimpArgs false
def areRes (l : List Int) : Bool := allIn 0 2 l && inB l.length 1 12
set_option maxHeartbeats 400000 in
theorem spec_AreRestraints {a : Option Addr} {n c : Nat} {l : List Int} {w : World} (hI : Ints w a n c l) (hn : n ≤ 1048576) : Calls Try.prog 38 #[.slice a n c] w fun e w' => e = .returned (.bool (areRes l)) ∧ w = w' := by
  go_enter Try.func38, Try.ntmps38
  go_wp2
  go_loop [3] (fun i => ∃ k : Nat, k ≤ n ∧ i = .int .i64 k ∧ Hid (allIn 0 2 (l.take k) = true)) (fun i => n - (intOf i).toNat)
  case atStart => exact ⟨0, Nat.zero_le _, rfl, rfl⟩
  case round =>
    obtain ⟨k, hk, rfl, hall⟩ := hrel
    have HI := Lib.hid hI
    by_cases hlt : k < n
    · obtain ⟨b, off, x, rfl, hb, hx, hcell, hwf⟩ := hI.at hlt
      have Hx := Lib.hid hx
      clear hx hI
      cases hin : inB x 0 2
      · have Hin := Lib.hid hin
        clear hin
        go_wp2_with fail
        refine Calls.mono (spec_l01In) ?_
        rintro e _ ⟨rfl, rfl⟩
        rw [Hin.out]
        go_wp2
        go_ret
        exact ⟨ret_bool (by rw [areRes, allIn, all_take_false Hx.out Hin.out]; rfl), rfl⟩
      · have Hin := Lib.hid hin
        clear hin
        go_wp2_with fail
        refine Calls.mono (spec_l01In) ?_
        rintro e _ ⟨rfl, rfl⟩
        rw [Hin.out]
        go_wp2
        go_round
        case rel => exact ⟨k + 1, by omega, by go_num, all_take_step Hx.out hall.out Hin.out⟩
        case measure => simp [intOf]; omega
    · clear hI
      go_wp2_with fail
      refine Calls.mono (spec_l01In) ?_
      rintro e _ ⟨rfl, rfl⟩
      go_wp2
      go_ret
      have e : l.take k = l := take_len (by have := HI.out.len; omega)
      have h1 := hall.out
      rw [e] at h1
      exact ⟨ret_bool (by rw [areRes, h1, HI.out.len]; rfl), rfl⟩
theorem impl_isRowCount {n : Int} {w : World} : Calls Try.prog 88 #[.int .i64 n] w fun e w' => e = .returned (.bool (inB n 1 12)) ∧ w = w' := by
  go_enter Try.func88, Try.ntmps88
  go_wp2_with fail
  refine Calls.mono (impl_within) ?_
  rintro e _ ⟨rfl, rfl⟩
  go_wp2
  go_ret
  exact ⟨rfl, rfl⟩
theorem impl_AreRestraints_1 {x : Int} {w : World} : Calls Try.prog 104 #[.int .i64 x] w fun e w' => e = .returned (.bool (!inB x 0 2)) ∧ w = w' := by
  go_enter Try.func104, Try.ntmps104
  go_wp2_with fail
  refine Calls.mono (impl_within) ?_
  rintro e _ ⟨rfl, rfl⟩
  go_wp2
  go_ret
  exact ⟨rfl, rfl⟩
theorem impl_AreRestraints {a : Option Addr} {n c : Nat} {l : List Int} {w : World} (hI : Ints w a n c l) (hn : n ≤ 1048576) : Calls Try.prog 37 #[.slice a n c] w fun e w' => e = .returned (.bool (areRes l)) ∧ Below w.heap.size w w' := by
  have hl := hI.len
  have hcf := slices_ContainsFunc_i64 (g := 104) (lb := #[]) (p := fun x => !inB x 0 2) (enters_of Try.func104 (by kernel_rfl) rfl) (fun W x hx hb => Calls.mono (impl_AreRestraints_1 (x := x) (w := W)) (fun e w' h => ⟨h.1, h.2 ▸ Below.refl _ _⟩)) hI hn
  have hd : (!(l.any fun x => !inB x 0 2)) = allIn 0 2 l := by rw [allIn, List.all_eq_not_any_not]
  generalize (l.any fun x => !inB x 0 2) = r at hcf hd
  have Hd := Lib.hid hd
  have Hl := Lib.hid hl
  have HI := Lib.hid hI
  clear hd hl hI
  cases hin : inB n 1 12
  all_goals
    have Hin := Lib.hid hin
    clear hin
    go_enter Try.func37, Try.ntmps37
    go_wp2_with fail
    refine Calls.mono (impl_length_i64) ?_
    rintro e _ ⟨rfl, rfl⟩
    go_wp2_with fail
    refine Calls.mono (impl_isRowCount) ?_
    rintro e _ ⟨rfl, rfl⟩
    rw [Hin.out]
  · go_wp2
    go_ret
    exact ⟨ret_bool (by rw [areRes, Hl.out, Hin.out, Bool.and_false]), Below.refl _ _⟩
  · go_wp2_with fail
    refine Calls.mono hcf ?_
    rintro e w1 ⟨rfl, hb1⟩
    go_wp2
    go_ret
    exact ⟨ret_bool (by rw [areRes, Hl.out, Hin.out, Bool.and_true, Hd.out]), hb1⟩
def allEq (z : Int) (l : List Int) : Bool := l.all fun x => x == z
theorem impl_allLocked_1 {x : Int} {w : World} : Calls Try.prog 135 #[.int .i64 x] w fun e w' => e = .returned (.bool (x != 2)) ∧ w = w' := by
  go_enter Try.func135, Try.ntmps135
  go_wp2
  all_goals
    go_ret
    exact ⟨rfl, rfl⟩
theorem impl_allLocked {a : Option Addr} {n c : Nat} {l : List Int} {w : World} (hI : Ints w a n c l) (hn : n ≤ 1048576) : Calls Try.prog 90 #[.slice a n c] w fun e w' => e = .returned (.bool (allEq 2 l)) ∧ Below w.heap.size w w' := by
  have hcf := slices_ContainsFunc_i64 (g := 135) (lb := #[]) (p := fun x => x != 2) (enters_of Try.func135 (by kernel_rfl) rfl) (fun W x hx hb => Calls.mono (impl_allLocked_1 (x := x) (w := W)) (fun e w' h => ⟨h.1, h.2 ▸ Below.refl _ _⟩)) hI hn
  have hd : (!(l.any fun x => x != 2)) = allEq 2 l := by rw [allEq, List.all_eq_not_any_not]; rfl
  generalize (l.any fun x => x != 2) = r at hcf hd
  have Hd := Lib.hid hd
  have HI := Lib.hid hI
  clear hd hI
  go_enter Try.func90, Try.ntmps90
  go_wp2_with fail
  refine Calls.mono hcf ?_
  rintro e w1 ⟨rfl, hb1⟩
  go_wp2
  go_ret
  exact ⟨ret_bool Hd.out, hb1⟩
theorem impl_AllLocked {a : Option Addr} {n c : Nat} {l : List Int} {w : World} (hI : Ints w a n c l) (hn : n ≤ 1048576) : Calls Try.prog 28 #[.slice a n c] w fun e w' => e = .returned (.bool (areRes l && allEq 2 l)) ∧ Below w.heap.size w w' := by
  have HI := Lib.hid hI
  clear hI
  cases hk : areRes l
  all_goals
    have Hk := Lib.hid hk
    clear hk
    go_enter Try.func28, Try.ntmps28
    go_wp2_with fail
    refine Calls.mono (impl_AreRestraints HI.out hn) ?_
    rintro e w1 ⟨rfl, hb_w1⟩
    obtain ⟨hc_w1, hf_w1⟩ := bcell hb_w1
    have hs_w1 := hb_w1.size
    rw [Hk.out]
  · go_wp2
    go_ret
    exact ⟨rfl, by repeat (first | exact Below.refl _ _ | assumption | refine below_allocS ?_ _ | refine below_callS ?_ (by assumption) | (refine Below.alloc ?_ (by first | omega | (simp; done) | (simp; omega)) _) | (refine Below.setCell ?_ (by first | omega | (simp; done) | (simp; omega)) _) | refine Below.drew ?_ | refine below_drewN ?_ _ | (refine below_call ?_ (by assumption) (by first | omega | (simp; done) | (simp; omega))) | (refine Below.trans ?_ (by assumption)))⟩
  · go_wp2_with fail
    refine Calls.mono (impl_allLocked (HI.out.keep (by repeat (first | exact Below.refl _ _ | assumption | refine below_allocS ?_ _ | refine below_callS ?_ (by assumption) | (refine Below.alloc ?_ (by first | omega | (simp; done) | (simp; omega)) _) | (refine Below.setCell ?_ (by first | omega | (simp; done) | (simp; omega)) _) | refine Below.drew ?_ | refine below_drewN ?_ _ | (refine below_call ?_ (by assumption) (by first | omega | (simp; done) | (simp; omega))) | (refine Below.trans ?_ (by assumption))))) hn) ?_
    rintro e w2 ⟨rfl, hb_w2⟩
    obtain ⟨hc_w2, hf_w2⟩ := bcell hb_w2
    have hs_w2 := hb_w2.size
    go_wp2
    go_ret
    exact ⟨rfl, by repeat (first | exact Below.refl _ _ | assumption | refine below_allocS ?_ _ | refine below_callS ?_ (by assumption) | (refine Below.alloc ?_ (by first | omega | (simp; done) | (simp; omega)) _) | (refine Below.setCell ?_ (by first | omega | (simp; done) | (simp; omega)) _) | refine Below.drew ?_ | refine below_drewN ?_ _ | (refine below_call ?_ (by assumption) (by first | omega | (simp; done) | (simp; omega))) | (refine Below.trans ?_ (by assumption)))⟩
/-- the least of a list whose first is x -/
def minL (x : Int) (l : List Int) : Int := l.foldl min x
theorem minL_le (x : Int) (l : List Int) : minL x l ≤ x := by
  induction l generalizing x with
  | nil => exact Int.le_refl _
  | cons y r ih => exact Int.le_trans (ih (min x y)) (by omega)
theorem minL_ge {z x : Int} {l : List Int} (hx : z ≤ x) (h : ∀ y ∈ l, z ≤ y) : z ≤ minL x l := by
  induction l generalizing x with
  | nil => exact hx
  | cons y r ih =>
    have := h y (by simp)
    exact ih (by omega) fun t ht => h t (by simp [ht])
theorem minL_mem_le {x y : Int} {l : List Int} (h : y ∈ l) : minL x l ≤ y := by
  induction l generalizing x with
  | nil => cases h
  | cons t r ih =>
    rcases List.mem_cons.1 h with rfl | h'
    · show minL (min x y) r ≤ y
      exact Int.le_trans (minL_le (min x y) r) (by omega)
    · exact ih h'
theorem minL_snoc (x y : Int) (l : List Int) : minL x (l ++ [y]) = min (minL x l) y := by simp [minL, List.foldl_append]
theorem I64_minL {x : Int} {l : List Int} (hx : I64 x) (h : ∀ y ∈ l, I64 y) : I64 (minL x l) := by
  refine ⟨minL_ge hx.1 fun y hy => (h y hy).1, Int.le_trans (minL_le _ _) hx.2⟩
theorem spec_l26Least {a : Option Addr} {n c : Nat} {x : Int} {l : List Int} {w : World} (hI : Ints w a n c (x :: l)) (hn : n ≤ 1048576) : Calls Try.prog 91 #[.slice a n c] w fun e w' => e = .returned (.int .i64 (minL x l)) ∧ w = w' := by
  have hl : l.length + 1 = n := by simpa using hI.len
  have h0 : 0 < n := by omega
  obtain ⟨b, off, y, rfl, hb, hx, hcell, hwf⟩ := hI.at h0
  obtain rfl : x = y := by simpa using hx
  have hcell0 : w.cell? ⟨b, off, none⟩ = some (.int .i64 x) := by simpa using hcell
  have HI := Lib.hid hI
  have Hl := Lib.hid hl
  clear hx hcell hI hl
  go_enter Try.func91, Try.ntmps91
  go_wp2
  go_loop [3, 4] (fun m i => ∃ k : Nat, 1 ≤ k ∧ k ≤ n ∧ i = .int .i64 k ∧ m = .int .i64 (minL x (l.take (k - 1)))) (fun _ i => n - (intOf i).toNat)
  case atStart => exact ⟨1, Nat.le_refl _, by omega, rfl, by simp [minL]⟩
  case round =>
    obtain ⟨k, hk1, hk, rfl, rfl⟩ := hrel
    by_cases hlt : k < n
    · obtain ⟨_, _, y, h1, _, hy, hcell, hwfy⟩ := HI.out.at hlt
      simp only [Option.some.injEq, Addr.mk.injEq, and_true] at h1
      obtain ⟨rfl, rfl⟩ := h1
      have hs : minL x (l.take (k - 1 + 1)) = min (minL x (l.take (k - 1))) y := by
        rw [take_at (x := y) (by rw [← hy]; cases k with | zero => omega | succ k => simp), minL_snoc]
      rw [show k - 1 + 1 = k + 1 - 1 from by omega] at hs
      generalize minL x (l.take (k - 1)) = m at hs
      have Hs := Lib.hid hs
      clear hy hs
      go_wp2
      all_goals
        go_round
        case rel => exact ⟨k + 1, by omega, by omega, by go_num, by first | (rw [Hs.out]; done) | (rw [Hs.out]; congr 1; omega)⟩
        case measure => simp [intOf]; omega
    · go_wp2
      go_ret
      have e : l.take (k - 1) = l := List.take_of_length_le (by have := Hl.out; omega)
      exact ⟨ret_int (by rw [e]), rfl⟩
theorem allLocked_iff (x : Int) (l : List Int) (h : areRes (x :: l) = true) : (areRes (x :: l) && (minL x l == 2)) = (areRes (x :: l) && allEq 2 (x :: l)) := by
  rw [h, Bool.true_and, Bool.true_and]
  simp only [areRes, Bool.and_eq_true] at h
  have hr : ∀ y ∈ x :: l, 0 ≤ y ∧ y ≤ 2 := fun y hy => by
    have := List.all_eq_true.1 h.1 y hy
    simpa [inB] using this
  rw [Bool.eq_iff_iff, beq_iff_eq, allEq, List.all_eq_true]
  constructor
  · intro hm y hy
    have h1 := hr y hy
    have h2 : minL x l ≤ y := by
      rcases List.mem_cons.1 hy with rfl | h'
      · exact minL_le _ _
      · exact minL_mem_le h'
    simp; omega
  · intro ha
    have hx : x = 2 := by simpa using ha x (by simp)
    have h1 : 2 ≤ minL x l := minL_ge (by omega) fun y hy => Int.le_of_eq (Eq.symm (by simpa using ha y (by simp [hy])))
    have := minL_le x l
    omega
theorem spec_AllLocked {a : Option Addr} {n c : Nat} {l : List Int} {w : World} (hI : Ints w a n c l) (hn : n ≤ 1048576) : Calls Try.prog 29 #[.slice a n c] w fun e w' => e = .returned (.bool (areRes l && allEq 2 l)) ∧ w = w' := by
  cases hk : areRes l
  · have Hk := Lib.hid hk
    have HI := Lib.hid hI
    clear hk hI
    go_enter Try.func29, Try.ntmps29
    go_wp2_with fail
    refine Calls.mono (spec_AreRestraints HI.out hn) ?_
    rintro e _ ⟨rfl, rfl⟩
    rw [Hk.out]
    go_wp2
    go_ret
    exact ⟨rfl, rfl⟩
  · cases l with
    | nil => simp [areRes, allIn, inB] at hk
    | cons x r =>
      have hi := allLocked_iff x r hk
      rw [hk, Bool.true_and, Bool.true_and] at hi
      have Hi := Lib.hid hi
      have Hk := Lib.hid hk
      have HI := Lib.hid hI
      clear hk hI hi
      go_enter Try.func29, Try.ntmps29
      go_wp2_with fail
      refine Calls.mono (spec_AreRestraints HI.out hn) ?_
      rintro e _ ⟨rfl, rfl⟩
      rw [Hk.out]
      go_wp2_with fail
      refine Calls.mono (spec_l26Least HI.out hn) ?_
      rintro e _ ⟨rfl, rfl⟩
      generalize minL x r = m at Hi
      go_wp2
      go_ret
      exact ⟨ret_bool (by rw [Bool.true_and, ← Hi.out]), rfl⟩
end Go.Proofs.Ytoaccicfmfiemaa
