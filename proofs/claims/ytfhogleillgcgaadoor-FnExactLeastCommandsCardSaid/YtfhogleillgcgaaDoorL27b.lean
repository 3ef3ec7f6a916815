/- Commands of layer 27, walked. -/
import Derived.Test.YtfhogleillgcgaaDoorL27
import Derived.Test.YtfhogleillgcgaaDoorX28a
import Derived.Test.YtfhogleillgcgaaDoorSl
import Derived.Test.YtfhogleillgcgaaDoorFl
namespace Go.Proofs.YtfhogleillgcgaaDoor
open Go.RowKit
set_option linter.unusedVariables false
set_option linter.unusedSimpArgs false
theorem cmd_cases {k : Int} (h : inB k 0 9 = true) : k = 0 ∨ k = 1 ∨ k = 2 ∨ k = 3 ∨ k = 4 ∨ k = 5 ∨ k = 6 ∨ k = 7 ∨ k = 8 ∨ k = 9 := by
  simp [inB] at h; omega
def fromL (k : Int) : List Int := ([[0], [2], [3], [1, 2, 3, 4, 5], [4], [4], [5], [0, 2], [1], [2]] : List (List Int)).getD k.toNat []
def leastR (k : Int) : Int := ([1, 1, 1, 0, 2, 3, 3, 2, 2, 1] : List Int).getD k.toNat 0
def toR (k : Int) : Int := ([2, 3, 2, 4, 2, 5, 4, 1, 2, 0] : List Int).getD k.toNat 0
def keyR (k : Int) : Bool := ([true, false, false, false, true, false, false, true, true, false] : List Bool).getD k.toNat false
def cVerd (m k r : Int) (key : Bool) : Int := if ((fromL k).any fun y => y == m) = false then 1 else if r < leastR k then 2 else if (keyR k && !key) = true then 3 else 0
def cNext (m k r : Int) (key : Bool) : Int := if cVerd m k r key = 0 then toR k else m
theorem cVerd_1 {m k r : Int} {key : Bool} (h : ((fromL k).any fun y => y == m) = false) : cVerd m k r key = 1 := by rw [cVerd, if_pos h]
theorem cVerd_2 {m k r : Int} {key : Bool} (h : ((fromL k).any fun y => y == m) = true) (h2 : r < leastR k) : cVerd m k r key = 2 := by rw [cVerd, if_neg (by simp [h]), if_pos h2]
theorem cVerd_3 {m k r : Int} {key : Bool} (h : ((fromL k).any fun y => y == m) = true) (h2 : leastR k ≤ r) (h3 : (keyR k && !key) = true) : cVerd m k r key = 3 := by rw [cVerd, if_neg (by simp [h]), if_neg (by omega), if_pos h3]
theorem cVerd_0 {m k r : Int} {key : Bool} (h : ((fromL k).any fun y => y == m) = true) (h2 : leastR k ≤ r) (h3 : (keyR k && !key) = false) : cVerd m k r key = 0 := by rw [cVerd, if_neg (by simp [h]), if_neg (by omega), if_neg (by simp [h3])]
set_option maxHeartbeats 4000000 in
theorem impl_verdict_cmd {m k r : Int} {key : Bool} {w : World} (hT : Tab w 1 (cmdRows.flatMap CRow.enc)) (hk : inB k 0 9 = true) (hm : inB m 0 5 = true) :
    Calls Tryd.prog 106 #[.agg #[.int .i64 k, .int .i64 r, .bool key], .int .i64 m] w fun e w' => e = .returned (.int .i64 (cVerd m k r key)) ∧ Below w.heap.size w w' := by
  obtain ⟨hm0, hm1⟩ : 0 ≤ m ∧ m ≤ 5 := by simpa [inB] using hm
  have z := hT.1
  rcases cmd_cases hk with rfl | rfl | rfl | rfl | rfl | rfl | rfl | rfl | rfl | rfl
  · have c0 := hT.2 0 _ rfl
    have c1 := hT.2 1 _ rfl
    have c2 := hT.2 2 _ rfl
    have c3 := hT.2 3 _ rfl
    have hb : (bits BinOp.and IntKind.i64 (1 / 2 ^ m.toNat) 1 == 0) = !((fromL 0).any fun y => y == m) := by
      rcases mode_cases hm with rfl | rfl | rfl | rfl | rfl | rfl <;> rfl
    clear hT
    cases hf : ((fromL 0).any fun y => y == m)
    all_goals
      rw [hf] at hb
      have Hf := Lib.hid hf
      clear hf hm
    · go_enter Tryd.func106, Tryd.ntmps106
      go_wp2
      go_ret
      exact ⟨ret_int (cVerd_1 Hf.out).symm, by repeat (first | exact Below.refl _ _ | assumption | refine below_allocS ?_ _ | refine below_callS ?_ (by assumption) | (refine Below.alloc ?_ (by first | omega | (simp; done) | (simp; omega)) _) | (refine Below.setCell ?_ (by first | omega | (simp; done) | (simp; omega)) _) | refine Below.drew ?_ | refine below_drewN ?_ _ | (refine below_call ?_ (by assumption) (by first | omega | (simp; done) | (simp; omega))) | (refine Below.trans ?_ (by assumption)))⟩
    · by_cases hr : r < leastR 0
      · have Hr := Lib.hid hr
        simp only [leastR, List.getD, Int.toNat, List.getElem?_cons_zero, List.getElem?_cons_succ, Option.getD_some] at hr
        go_enter Tryd.func106, Tryd.ntmps106
        go_wp2
        go_ret
        exact ⟨ret_int (cVerd_2 Hf.out Hr.out).symm, by repeat (first | exact Below.refl _ _ | assumption | refine below_allocS ?_ _ | refine below_callS ?_ (by assumption) | (refine Below.alloc ?_ (by first | omega | (simp; done) | (simp; omega)) _) | (refine Below.setCell ?_ (by first | omega | (simp; done) | (simp; omega)) _) | refine Below.drew ?_ | refine below_drewN ?_ _ | (refine below_call ?_ (by assumption) (by first | omega | (simp; done) | (simp; omega))) | (refine Below.trans ?_ (by assumption)))⟩
      · have Hr := Lib.hid (show leastR 0 ≤ r by omega)
        simp only [leastR, List.getD, Int.toNat, List.getElem?_cons_zero, List.getElem?_cons_succ, Option.getD_some] at hr
        cases key
        all_goals
          go_enter Tryd.func106, Tryd.ntmps106
          go_wp2
          go_ret
          exact ⟨ret_int (by first | exact (cVerd_3 Hf.out Hr.out rfl).symm | exact (cVerd_0 Hf.out Hr.out rfl).symm), by repeat (first | exact Below.refl _ _ | assumption | refine below_allocS ?_ _ | refine below_callS ?_ (by assumption) | (refine Below.alloc ?_ (by first | omega | (simp; done) | (simp; omega)) _) | (refine Below.setCell ?_ (by first | omega | (simp; done) | (simp; omega)) _) | refine Below.drew ?_ | refine below_drewN ?_ _ | (refine below_call ?_ (by assumption) (by first | omega | (simp; done) | (simp; omega))) | (refine Below.trans ?_ (by assumption)))⟩
  · have c0 := hT.2 4 _ rfl
    have c1 := hT.2 5 _ rfl
    have c2 := hT.2 6 _ rfl
    have c3 := hT.2 7 _ rfl
    have hb : (bits BinOp.and IntKind.i64 (4 / 2 ^ m.toNat) 1 == 0) = !((fromL 1).any fun y => y == m) := by
      rcases mode_cases hm with rfl | rfl | rfl | rfl | rfl | rfl <;> rfl
    clear hT
    cases hf : ((fromL 1).any fun y => y == m)
    all_goals
      rw [hf] at hb
      have Hf := Lib.hid hf
      clear hf hm
    · go_enter Tryd.func106, Tryd.ntmps106
      go_wp2
      go_ret
      exact ⟨ret_int (cVerd_1 Hf.out).symm, by repeat (first | exact Below.refl _ _ | assumption | refine below_allocS ?_ _ | refine below_callS ?_ (by assumption) | (refine Below.alloc ?_ (by first | omega | (simp; done) | (simp; omega)) _) | (refine Below.setCell ?_ (by first | omega | (simp; done) | (simp; omega)) _) | refine Below.drew ?_ | refine below_drewN ?_ _ | (refine below_call ?_ (by assumption) (by first | omega | (simp; done) | (simp; omega))) | (refine Below.trans ?_ (by assumption)))⟩
    · by_cases hr : r < leastR 1
      · have Hr := Lib.hid hr
        simp only [leastR, List.getD, Int.toNat, List.getElem?_cons_zero, List.getElem?_cons_succ, Option.getD_some] at hr
        go_enter Tryd.func106, Tryd.ntmps106
        go_wp2
        go_ret
        exact ⟨ret_int (cVerd_2 Hf.out Hr.out).symm, by repeat (first | exact Below.refl _ _ | assumption | refine below_allocS ?_ _ | refine below_callS ?_ (by assumption) | (refine Below.alloc ?_ (by first | omega | (simp; done) | (simp; omega)) _) | (refine Below.setCell ?_ (by first | omega | (simp; done) | (simp; omega)) _) | refine Below.drew ?_ | refine below_drewN ?_ _ | (refine below_call ?_ (by assumption) (by first | omega | (simp; done) | (simp; omega))) | (refine Below.trans ?_ (by assumption)))⟩
      · have Hr := Lib.hid (show leastR 1 ≤ r by omega)
        simp only [leastR, List.getD, Int.toNat, List.getElem?_cons_zero, List.getElem?_cons_succ, Option.getD_some] at hr
        cases key
        all_goals
          go_enter Tryd.func106, Tryd.ntmps106
          go_wp2
          go_ret
          exact ⟨ret_int (by first | exact (cVerd_3 Hf.out Hr.out rfl).symm | exact (cVerd_0 Hf.out Hr.out rfl).symm), by repeat (first | exact Below.refl _ _ | assumption | refine below_allocS ?_ _ | refine below_callS ?_ (by assumption) | (refine Below.alloc ?_ (by first | omega | (simp; done) | (simp; omega)) _) | (refine Below.setCell ?_ (by first | omega | (simp; done) | (simp; omega)) _) | refine Below.drew ?_ | refine below_drewN ?_ _ | (refine below_call ?_ (by assumption) (by first | omega | (simp; done) | (simp; omega))) | (refine Below.trans ?_ (by assumption)))⟩
  · have c0 := hT.2 8 _ rfl
    have c1 := hT.2 9 _ rfl
    have c2 := hT.2 10 _ rfl
    have c3 := hT.2 11 _ rfl
    have hb : (bits BinOp.and IntKind.i64 (8 / 2 ^ m.toNat) 1 == 0) = !((fromL 2).any fun y => y == m) := by
      rcases mode_cases hm with rfl | rfl | rfl | rfl | rfl | rfl <;> rfl
    clear hT
    cases hf : ((fromL 2).any fun y => y == m)
    all_goals
      rw [hf] at hb
      have Hf := Lib.hid hf
      clear hf hm
    · go_enter Tryd.func106, Tryd.ntmps106
      go_wp2
      go_ret
      exact ⟨ret_int (cVerd_1 Hf.out).symm, by repeat (first | exact Below.refl _ _ | assumption | refine below_allocS ?_ _ | refine below_callS ?_ (by assumption) | (refine Below.alloc ?_ (by first | omega | (simp; done) | (simp; omega)) _) | (refine Below.setCell ?_ (by first | omega | (simp; done) | (simp; omega)) _) | refine Below.drew ?_ | refine below_drewN ?_ _ | (refine below_call ?_ (by assumption) (by first | omega | (simp; done) | (simp; omega))) | (refine Below.trans ?_ (by assumption)))⟩
    · by_cases hr : r < leastR 2
      · have Hr := Lib.hid hr
        simp only [leastR, List.getD, Int.toNat, List.getElem?_cons_zero, List.getElem?_cons_succ, Option.getD_some] at hr
        go_enter Tryd.func106, Tryd.ntmps106
        go_wp2
        go_ret
        exact ⟨ret_int (cVerd_2 Hf.out Hr.out).symm, by repeat (first | exact Below.refl _ _ | assumption | refine below_allocS ?_ _ | refine below_callS ?_ (by assumption) | (refine Below.alloc ?_ (by first | omega | (simp; done) | (simp; omega)) _) | (refine Below.setCell ?_ (by first | omega | (simp; done) | (simp; omega)) _) | refine Below.drew ?_ | refine below_drewN ?_ _ | (refine below_call ?_ (by assumption) (by first | omega | (simp; done) | (simp; omega))) | (refine Below.trans ?_ (by assumption)))⟩
      · have Hr := Lib.hid (show leastR 2 ≤ r by omega)
        simp only [leastR, List.getD, Int.toNat, List.getElem?_cons_zero, List.getElem?_cons_succ, Option.getD_some] at hr
        cases key
        all_goals
          go_enter Tryd.func106, Tryd.ntmps106
          go_wp2
          go_ret
          exact ⟨ret_int (by first | exact (cVerd_3 Hf.out Hr.out rfl).symm | exact (cVerd_0 Hf.out Hr.out rfl).symm), by repeat (first | exact Below.refl _ _ | assumption | refine below_allocS ?_ _ | refine below_callS ?_ (by assumption) | (refine Below.alloc ?_ (by first | omega | (simp; done) | (simp; omega)) _) | (refine Below.setCell ?_ (by first | omega | (simp; done) | (simp; omega)) _) | refine Below.drew ?_ | refine below_drewN ?_ _ | (refine below_call ?_ (by assumption) (by first | omega | (simp; done) | (simp; omega))) | (refine Below.trans ?_ (by assumption)))⟩
  · have c0 := hT.2 12 _ rfl
    have c1 := hT.2 13 _ rfl
    have c2 := hT.2 14 _ rfl
    have c3 := hT.2 15 _ rfl
    have hb : (bits BinOp.and IntKind.i64 (62 / 2 ^ m.toNat) 1 == 0) = !((fromL 3).any fun y => y == m) := by
      rcases mode_cases hm with rfl | rfl | rfl | rfl | rfl | rfl <;> rfl
    clear hT
    cases hf : ((fromL 3).any fun y => y == m)
    all_goals
      rw [hf] at hb
      have Hf := Lib.hid hf
      clear hf hm
    · go_enter Tryd.func106, Tryd.ntmps106
      go_wp2
      go_ret
      exact ⟨ret_int (cVerd_1 Hf.out).symm, by repeat (first | exact Below.refl _ _ | assumption | refine below_allocS ?_ _ | refine below_callS ?_ (by assumption) | (refine Below.alloc ?_ (by first | omega | (simp; done) | (simp; omega)) _) | (refine Below.setCell ?_ (by first | omega | (simp; done) | (simp; omega)) _) | refine Below.drew ?_ | refine below_drewN ?_ _ | (refine below_call ?_ (by assumption) (by first | omega | (simp; done) | (simp; omega))) | (refine Below.trans ?_ (by assumption)))⟩
    · by_cases hr : r < leastR 3
      · have Hr := Lib.hid hr
        simp only [leastR, List.getD, Int.toNat, List.getElem?_cons_zero, List.getElem?_cons_succ, Option.getD_some] at hr
        go_enter Tryd.func106, Tryd.ntmps106
        go_wp2
        go_ret
        exact ⟨ret_int (cVerd_2 Hf.out Hr.out).symm, by repeat (first | exact Below.refl _ _ | assumption | refine below_allocS ?_ _ | refine below_callS ?_ (by assumption) | (refine Below.alloc ?_ (by first | omega | (simp; done) | (simp; omega)) _) | (refine Below.setCell ?_ (by first | omega | (simp; done) | (simp; omega)) _) | refine Below.drew ?_ | refine below_drewN ?_ _ | (refine below_call ?_ (by assumption) (by first | omega | (simp; done) | (simp; omega))) | (refine Below.trans ?_ (by assumption)))⟩
      · have Hr := Lib.hid (show leastR 3 ≤ r by omega)
        simp only [leastR, List.getD, Int.toNat, List.getElem?_cons_zero, List.getElem?_cons_succ, Option.getD_some] at hr
        cases key
        all_goals
          go_enter Tryd.func106, Tryd.ntmps106
          go_wp2
          go_ret
          exact ⟨ret_int (by first | exact (cVerd_3 Hf.out Hr.out rfl).symm | exact (cVerd_0 Hf.out Hr.out rfl).symm), by repeat (first | exact Below.refl _ _ | assumption | refine below_allocS ?_ _ | refine below_callS ?_ (by assumption) | (refine Below.alloc ?_ (by first | omega | (simp; done) | (simp; omega)) _) | (refine Below.setCell ?_ (by first | omega | (simp; done) | (simp; omega)) _) | refine Below.drew ?_ | refine below_drewN ?_ _ | (refine below_call ?_ (by assumption) (by first | omega | (simp; done) | (simp; omega))) | (refine Below.trans ?_ (by assumption)))⟩
  · have c0 := hT.2 16 _ rfl
    have c1 := hT.2 17 _ rfl
    have c2 := hT.2 18 _ rfl
    have c3 := hT.2 19 _ rfl
    have hb : (bits BinOp.and IntKind.i64 (16 / 2 ^ m.toNat) 1 == 0) = !((fromL 4).any fun y => y == m) := by
      rcases mode_cases hm with rfl | rfl | rfl | rfl | rfl | rfl <;> rfl
    clear hT
    cases hf : ((fromL 4).any fun y => y == m)
    all_goals
      rw [hf] at hb
      have Hf := Lib.hid hf
      clear hf hm
    · go_enter Tryd.func106, Tryd.ntmps106
      go_wp2
      go_ret
      exact ⟨ret_int (cVerd_1 Hf.out).symm, by repeat (first | exact Below.refl _ _ | assumption | refine below_allocS ?_ _ | refine below_callS ?_ (by assumption) | (refine Below.alloc ?_ (by first | omega | (simp; done) | (simp; omega)) _) | (refine Below.setCell ?_ (by first | omega | (simp; done) | (simp; omega)) _) | refine Below.drew ?_ | refine below_drewN ?_ _ | (refine below_call ?_ (by assumption) (by first | omega | (simp; done) | (simp; omega))) | (refine Below.trans ?_ (by assumption)))⟩
    · by_cases hr : r < leastR 4
      · have Hr := Lib.hid hr
        simp only [leastR, List.getD, Int.toNat, List.getElem?_cons_zero, List.getElem?_cons_succ, Option.getD_some] at hr
        go_enter Tryd.func106, Tryd.ntmps106
        go_wp2
        go_ret
        exact ⟨ret_int (cVerd_2 Hf.out Hr.out).symm, by repeat (first | exact Below.refl _ _ | assumption | refine below_allocS ?_ _ | refine below_callS ?_ (by assumption) | (refine Below.alloc ?_ (by first | omega | (simp; done) | (simp; omega)) _) | (refine Below.setCell ?_ (by first | omega | (simp; done) | (simp; omega)) _) | refine Below.drew ?_ | refine below_drewN ?_ _ | (refine below_call ?_ (by assumption) (by first | omega | (simp; done) | (simp; omega))) | (refine Below.trans ?_ (by assumption)))⟩
      · have Hr := Lib.hid (show leastR 4 ≤ r by omega)
        simp only [leastR, List.getD, Int.toNat, List.getElem?_cons_zero, List.getElem?_cons_succ, Option.getD_some] at hr
        cases key
        all_goals
          go_enter Tryd.func106, Tryd.ntmps106
          go_wp2
          go_ret
          exact ⟨ret_int (by first | exact (cVerd_3 Hf.out Hr.out rfl).symm | exact (cVerd_0 Hf.out Hr.out rfl).symm), by repeat (first | exact Below.refl _ _ | assumption | refine below_allocS ?_ _ | refine below_callS ?_ (by assumption) | (refine Below.alloc ?_ (by first | omega | (simp; done) | (simp; omega)) _) | (refine Below.setCell ?_ (by first | omega | (simp; done) | (simp; omega)) _) | refine Below.drew ?_ | refine below_drewN ?_ _ | (refine below_call ?_ (by assumption) (by first | omega | (simp; done) | (simp; omega))) | (refine Below.trans ?_ (by assumption)))⟩
  · have c0 := hT.2 20 _ rfl
    have c1 := hT.2 21 _ rfl
    have c2 := hT.2 22 _ rfl
    have c3 := hT.2 23 _ rfl
    have hb : (bits BinOp.and IntKind.i64 (16 / 2 ^ m.toNat) 1 == 0) = !((fromL 5).any fun y => y == m) := by
      rcases mode_cases hm with rfl | rfl | rfl | rfl | rfl | rfl <;> rfl
    clear hT
    cases hf : ((fromL 5).any fun y => y == m)
    all_goals
      rw [hf] at hb
      have Hf := Lib.hid hf
      clear hf hm
    · go_enter Tryd.func106, Tryd.ntmps106
      go_wp2
      go_ret
      exact ⟨ret_int (cVerd_1 Hf.out).symm, by repeat (first | exact Below.refl _ _ | assumption | refine below_allocS ?_ _ | refine below_callS ?_ (by assumption) | (refine Below.alloc ?_ (by first | omega | (simp; done) | (simp; omega)) _) | (refine Below.setCell ?_ (by first | omega | (simp; done) | (simp; omega)) _) | refine Below.drew ?_ | refine below_drewN ?_ _ | (refine below_call ?_ (by assumption) (by first | omega | (simp; done) | (simp; omega))) | (refine Below.trans ?_ (by assumption)))⟩
    · by_cases hr : r < leastR 5
      · have Hr := Lib.hid hr
        simp only [leastR, List.getD, Int.toNat, List.getElem?_cons_zero, List.getElem?_cons_succ, Option.getD_some] at hr
        go_enter Tryd.func106, Tryd.ntmps106
        go_wp2
        go_ret
        exact ⟨ret_int (cVerd_2 Hf.out Hr.out).symm, by repeat (first | exact Below.refl _ _ | assumption | refine below_allocS ?_ _ | refine below_callS ?_ (by assumption) | (refine Below.alloc ?_ (by first | omega | (simp; done) | (simp; omega)) _) | (refine Below.setCell ?_ (by first | omega | (simp; done) | (simp; omega)) _) | refine Below.drew ?_ | refine below_drewN ?_ _ | (refine below_call ?_ (by assumption) (by first | omega | (simp; done) | (simp; omega))) | (refine Below.trans ?_ (by assumption)))⟩
      · have Hr := Lib.hid (show leastR 5 ≤ r by omega)
        simp only [leastR, List.getD, Int.toNat, List.getElem?_cons_zero, List.getElem?_cons_succ, Option.getD_some] at hr
        cases key
        all_goals
          go_enter Tryd.func106, Tryd.ntmps106
          go_wp2
          go_ret
          exact ⟨ret_int (by first | exact (cVerd_3 Hf.out Hr.out rfl).symm | exact (cVerd_0 Hf.out Hr.out rfl).symm), by repeat (first | exact Below.refl _ _ | assumption | refine below_allocS ?_ _ | refine below_callS ?_ (by assumption) | (refine Below.alloc ?_ (by first | omega | (simp; done) | (simp; omega)) _) | (refine Below.setCell ?_ (by first | omega | (simp; done) | (simp; omega)) _) | refine Below.drew ?_ | refine below_drewN ?_ _ | (refine below_call ?_ (by assumption) (by first | omega | (simp; done) | (simp; omega))) | (refine Below.trans ?_ (by assumption)))⟩
  · have c0 := hT.2 24 _ rfl
    have c1 := hT.2 25 _ rfl
    have c2 := hT.2 26 _ rfl
    have c3 := hT.2 27 _ rfl
    have hb : (bits BinOp.and IntKind.i64 (32 / 2 ^ m.toNat) 1 == 0) = !((fromL 6).any fun y => y == m) := by
      rcases mode_cases hm with rfl | rfl | rfl | rfl | rfl | rfl <;> rfl
    clear hT
    cases hf : ((fromL 6).any fun y => y == m)
    all_goals
      rw [hf] at hb
      have Hf := Lib.hid hf
      clear hf hm
    · go_enter Tryd.func106, Tryd.ntmps106
      go_wp2
      go_ret
      exact ⟨ret_int (cVerd_1 Hf.out).symm, by repeat (first | exact Below.refl _ _ | assumption | refine below_allocS ?_ _ | refine below_callS ?_ (by assumption) | (refine Below.alloc ?_ (by first | omega | (simp; done) | (simp; omega)) _) | (refine Below.setCell ?_ (by first | omega | (simp; done) | (simp; omega)) _) | refine Below.drew ?_ | refine below_drewN ?_ _ | (refine below_call ?_ (by assumption) (by first | omega | (simp; done) | (simp; omega))) | (refine Below.trans ?_ (by assumption)))⟩
    · by_cases hr : r < leastR 6
      · have Hr := Lib.hid hr
        simp only [leastR, List.getD, Int.toNat, List.getElem?_cons_zero, List.getElem?_cons_succ, Option.getD_some] at hr
        go_enter Tryd.func106, Tryd.ntmps106
        go_wp2
        go_ret
        exact ⟨ret_int (cVerd_2 Hf.out Hr.out).symm, by repeat (first | exact Below.refl _ _ | assumption | refine below_allocS ?_ _ | refine below_callS ?_ (by assumption) | (refine Below.alloc ?_ (by first | omega | (simp; done) | (simp; omega)) _) | (refine Below.setCell ?_ (by first | omega | (simp; done) | (simp; omega)) _) | refine Below.drew ?_ | refine below_drewN ?_ _ | (refine below_call ?_ (by assumption) (by first | omega | (simp; done) | (simp; omega))) | (refine Below.trans ?_ (by assumption)))⟩
      · have Hr := Lib.hid (show leastR 6 ≤ r by omega)
        simp only [leastR, List.getD, Int.toNat, List.getElem?_cons_zero, List.getElem?_cons_succ, Option.getD_some] at hr
        cases key
        all_goals
          go_enter Tryd.func106, Tryd.ntmps106
          go_wp2
          go_ret
          exact ⟨ret_int (by first | exact (cVerd_3 Hf.out Hr.out rfl).symm | exact (cVerd_0 Hf.out Hr.out rfl).symm), by repeat (first | exact Below.refl _ _ | assumption | refine below_allocS ?_ _ | refine below_callS ?_ (by assumption) | (refine Below.alloc ?_ (by first | omega | (simp; done) | (simp; omega)) _) | (refine Below.setCell ?_ (by first | omega | (simp; done) | (simp; omega)) _) | refine Below.drew ?_ | refine below_drewN ?_ _ | (refine below_call ?_ (by assumption) (by first | omega | (simp; done) | (simp; omega))) | (refine Below.trans ?_ (by assumption)))⟩
  · have c0 := hT.2 28 _ rfl
    have c1 := hT.2 29 _ rfl
    have c2 := hT.2 30 _ rfl
    have c3 := hT.2 31 _ rfl
    have hb : (bits BinOp.and IntKind.i64 (5 / 2 ^ m.toNat) 1 == 0) = !((fromL 7).any fun y => y == m) := by
      rcases mode_cases hm with rfl | rfl | rfl | rfl | rfl | rfl <;> rfl
    clear hT
    cases hf : ((fromL 7).any fun y => y == m)
    all_goals
      rw [hf] at hb
      have Hf := Lib.hid hf
      clear hf hm
    · go_enter Tryd.func106, Tryd.ntmps106
      go_wp2
      go_ret
      exact ⟨ret_int (cVerd_1 Hf.out).symm, by repeat (first | exact Below.refl _ _ | assumption | refine below_allocS ?_ _ | refine below_callS ?_ (by assumption) | (refine Below.alloc ?_ (by first | omega | (simp; done) | (simp; omega)) _) | (refine Below.setCell ?_ (by first | omega | (simp; done) | (simp; omega)) _) | refine Below.drew ?_ | refine below_drewN ?_ _ | (refine below_call ?_ (by assumption) (by first | omega | (simp; done) | (simp; omega))) | (refine Below.trans ?_ (by assumption)))⟩
    · by_cases hr : r < leastR 7
      · have Hr := Lib.hid hr
        simp only [leastR, List.getD, Int.toNat, List.getElem?_cons_zero, List.getElem?_cons_succ, Option.getD_some] at hr
        go_enter Tryd.func106, Tryd.ntmps106
        go_wp2
        go_ret
        exact ⟨ret_int (cVerd_2 Hf.out Hr.out).symm, by repeat (first | exact Below.refl _ _ | assumption | refine below_allocS ?_ _ | refine below_callS ?_ (by assumption) | (refine Below.alloc ?_ (by first | omega | (simp; done) | (simp; omega)) _) | (refine Below.setCell ?_ (by first | omega | (simp; done) | (simp; omega)) _) | refine Below.drew ?_ | refine below_drewN ?_ _ | (refine below_call ?_ (by assumption) (by first | omega | (simp; done) | (simp; omega))) | (refine Below.trans ?_ (by assumption)))⟩
      · have Hr := Lib.hid (show leastR 7 ≤ r by omega)
        simp only [leastR, List.getD, Int.toNat, List.getElem?_cons_zero, List.getElem?_cons_succ, Option.getD_some] at hr
        cases key
        all_goals
          go_enter Tryd.func106, Tryd.ntmps106
          go_wp2
          go_ret
          exact ⟨ret_int (by first | exact (cVerd_3 Hf.out Hr.out rfl).symm | exact (cVerd_0 Hf.out Hr.out rfl).symm), by repeat (first | exact Below.refl _ _ | assumption | refine below_allocS ?_ _ | refine below_callS ?_ (by assumption) | (refine Below.alloc ?_ (by first | omega | (simp; done) | (simp; omega)) _) | (refine Below.setCell ?_ (by first | omega | (simp; done) | (simp; omega)) _) | refine Below.drew ?_ | refine below_drewN ?_ _ | (refine below_call ?_ (by assumption) (by first | omega | (simp; done) | (simp; omega))) | (refine Below.trans ?_ (by assumption)))⟩
  · have c0 := hT.2 32 _ rfl
    have c1 := hT.2 33 _ rfl
    have c2 := hT.2 34 _ rfl
    have c3 := hT.2 35 _ rfl
    have hb : (bits BinOp.and IntKind.i64 (2 / 2 ^ m.toNat) 1 == 0) = !((fromL 8).any fun y => y == m) := by
      rcases mode_cases hm with rfl | rfl | rfl | rfl | rfl | rfl <;> rfl
    clear hT
    cases hf : ((fromL 8).any fun y => y == m)
    all_goals
      rw [hf] at hb
      have Hf := Lib.hid hf
      clear hf hm
    · go_enter Tryd.func106, Tryd.ntmps106
      go_wp2
      go_ret
      exact ⟨ret_int (cVerd_1 Hf.out).symm, by repeat (first | exact Below.refl _ _ | assumption | refine below_allocS ?_ _ | refine below_callS ?_ (by assumption) | (refine Below.alloc ?_ (by first | omega | (simp; done) | (simp; omega)) _) | (refine Below.setCell ?_ (by first | omega | (simp; done) | (simp; omega)) _) | refine Below.drew ?_ | refine below_drewN ?_ _ | (refine below_call ?_ (by assumption) (by first | omega | (simp; done) | (simp; omega))) | (refine Below.trans ?_ (by assumption)))⟩
    · by_cases hr : r < leastR 8
      · have Hr := Lib.hid hr
        simp only [leastR, List.getD, Int.toNat, List.getElem?_cons_zero, List.getElem?_cons_succ, Option.getD_some] at hr
        go_enter Tryd.func106, Tryd.ntmps106
        go_wp2
        go_ret
        exact ⟨ret_int (cVerd_2 Hf.out Hr.out).symm, by repeat (first | exact Below.refl _ _ | assumption | refine below_allocS ?_ _ | refine below_callS ?_ (by assumption) | (refine Below.alloc ?_ (by first | omega | (simp; done) | (simp; omega)) _) | (refine Below.setCell ?_ (by first | omega | (simp; done) | (simp; omega)) _) | refine Below.drew ?_ | refine below_drewN ?_ _ | (refine below_call ?_ (by assumption) (by first | omega | (simp; done) | (simp; omega))) | (refine Below.trans ?_ (by assumption)))⟩
      · have Hr := Lib.hid (show leastR 8 ≤ r by omega)
        simp only [leastR, List.getD, Int.toNat, List.getElem?_cons_zero, List.getElem?_cons_succ, Option.getD_some] at hr
        cases key
        all_goals
          go_enter Tryd.func106, Tryd.ntmps106
          go_wp2
          go_ret
          exact ⟨ret_int (by first | exact (cVerd_3 Hf.out Hr.out rfl).symm | exact (cVerd_0 Hf.out Hr.out rfl).symm), by repeat (first | exact Below.refl _ _ | assumption | refine below_allocS ?_ _ | refine below_callS ?_ (by assumption) | (refine Below.alloc ?_ (by first | omega | (simp; done) | (simp; omega)) _) | (refine Below.setCell ?_ (by first | omega | (simp; done) | (simp; omega)) _) | refine Below.drew ?_ | refine below_drewN ?_ _ | (refine below_call ?_ (by assumption) (by first | omega | (simp; done) | (simp; omega))) | (refine Below.trans ?_ (by assumption)))⟩
  · have c0 := hT.2 36 _ rfl
    have c1 := hT.2 37 _ rfl
    have c2 := hT.2 38 _ rfl
    have c3 := hT.2 39 _ rfl
    have hb : (bits BinOp.and IntKind.i64 (4 / 2 ^ m.toNat) 1 == 0) = !((fromL 9).any fun y => y == m) := by
      rcases mode_cases hm with rfl | rfl | rfl | rfl | rfl | rfl <;> rfl
    clear hT
    cases hf : ((fromL 9).any fun y => y == m)
    all_goals
      rw [hf] at hb
      have Hf := Lib.hid hf
      clear hf hm
    · go_enter Tryd.func106, Tryd.ntmps106
      go_wp2
      go_ret
      exact ⟨ret_int (cVerd_1 Hf.out).symm, by repeat (first | exact Below.refl _ _ | assumption | refine below_allocS ?_ _ | refine below_callS ?_ (by assumption) | (refine Below.alloc ?_ (by first | omega | (simp; done) | (simp; omega)) _) | (refine Below.setCell ?_ (by first | omega | (simp; done) | (simp; omega)) _) | refine Below.drew ?_ | refine below_drewN ?_ _ | (refine below_call ?_ (by assumption) (by first | omega | (simp; done) | (simp; omega))) | (refine Below.trans ?_ (by assumption)))⟩
    · by_cases hr : r < leastR 9
      · have Hr := Lib.hid hr
        simp only [leastR, List.getD, Int.toNat, List.getElem?_cons_zero, List.getElem?_cons_succ, Option.getD_some] at hr
        go_enter Tryd.func106, Tryd.ntmps106
        go_wp2
        go_ret
        exact ⟨ret_int (cVerd_2 Hf.out Hr.out).symm, by repeat (first | exact Below.refl _ _ | assumption | refine below_allocS ?_ _ | refine below_callS ?_ (by assumption) | (refine Below.alloc ?_ (by first | omega | (simp; done) | (simp; omega)) _) | (refine Below.setCell ?_ (by first | omega | (simp; done) | (simp; omega)) _) | refine Below.drew ?_ | refine below_drewN ?_ _ | (refine below_call ?_ (by assumption) (by first | omega | (simp; done) | (simp; omega))) | (refine Below.trans ?_ (by assumption)))⟩
      · have Hr := Lib.hid (show leastR 9 ≤ r by omega)
        simp only [leastR, List.getD, Int.toNat, List.getElem?_cons_zero, List.getElem?_cons_succ, Option.getD_some] at hr
        cases key
        all_goals
          go_enter Tryd.func106, Tryd.ntmps106
          go_wp2
          go_ret
          exact ⟨ret_int (by first | exact (cVerd_3 Hf.out Hr.out rfl).symm | exact (cVerd_0 Hf.out Hr.out rfl).symm), by repeat (first | exact Below.refl _ _ | assumption | refine below_allocS ?_ _ | refine below_callS ?_ (by assumption) | (refine Below.alloc ?_ (by first | omega | (simp; done) | (simp; omega)) _) | (refine Below.setCell ?_ (by first | omega | (simp; done) | (simp; omega)) _) | refine Below.drew ?_ | refine below_drewN ?_ _ | (refine below_call ?_ (by assumption) (by first | omega | (simp; done) | (simp; omega))) | (refine Below.trans ?_ (by assumption)))⟩
theorem impl_next_cmd {m k r : Int} {key : Bool} {w : World} (hT : Tab w 1 (cmdRows.flatMap CRow.enc)) (hk : inB k 0 9 = true) (hm : inB m 0 5 = true) :
    Calls Tryd.prog 77 #[.agg #[.int .i64 k, .int .i64 r, .bool key], .int .i64 m] w fun e w' => e = .returned (.int .i64 (cNext m k r key)) ∧ Below w.heap.size w w' := by
  have h1 := fun (wx : World) (hb : Below w.heap.size w wx) => impl_verdict_cmd (m := m) (k := k) (r := r) (key := key) (hT.keep hb) hk hm
  have HN := Lib.hid (show cNext m k r key = if cVerd m k r key = 0 then toR k else m from rfl)
  generalize cVerd m k r key = v at *
  have H1 := Lib.hid h1
  clear h1
  by_cases hv : v = 0
  · subst hv
    rcases cmd_cases hk with rfl | rfl | rfl | rfl | rfl | rfl | rfl | rfl | rfl | rfl
    · have c1 := hT.2 1 _ rfl
      have z := hT.1
      have z0 : 0 < w.heap.size := by omega
      clear hT
      go_enter Tryd.func77, Tryd.ntmps77
      go_wp2_with fail
      refine Calls.mono (H1.out _ (by repeat (first | exact Below.refl _ _ | assumption | refine below_allocS ?_ _ | refine below_callS ?_ (by assumption) | (refine Below.alloc ?_ (by first | omega | (simp; done) | (simp; omega)) _) | (refine Below.setCell ?_ (by first | omega | (simp; done) | (simp; omega)) _) | refine Below.drew ?_ | refine below_drewN ?_ _ | (refine below_call ?_ (by assumption) (by first | omega | (simp; done) | (simp; omega))) | (refine Below.trans ?_ (by assumption))))) ?_
      rintro e w1 ⟨rfl, hb_w1⟩
      obtain ⟨hc_w1, hf_w1⟩ := bcell hb_w1
      have hs_w1 := hb_w1.size
      go_wp2
      go_ret
      exact ⟨ret_int (by rw [HN.out]; rfl), by repeat (first | exact Below.refl _ _ | assumption | refine below_allocS ?_ _ | refine below_callS ?_ (by assumption) | (refine Below.alloc ?_ (by first | omega | (simp; done) | (simp; omega)) _) | (refine Below.setCell ?_ (by first | omega | (simp; done) | (simp; omega)) _) | refine Below.drew ?_ | refine below_drewN ?_ _ | (refine below_call ?_ (by assumption) (by first | omega | (simp; done) | (simp; omega))) | (refine Below.trans ?_ (by assumption)))⟩
    · have c1 := hT.2 5 _ rfl
      have z := hT.1
      have z0 : 0 < w.heap.size := by omega
      clear hT
      go_enter Tryd.func77, Tryd.ntmps77
      go_wp2_with fail
      refine Calls.mono (H1.out _ (by repeat (first | exact Below.refl _ _ | assumption | refine below_allocS ?_ _ | refine below_callS ?_ (by assumption) | (refine Below.alloc ?_ (by first | omega | (simp; done) | (simp; omega)) _) | (refine Below.setCell ?_ (by first | omega | (simp; done) | (simp; omega)) _) | refine Below.drew ?_ | refine below_drewN ?_ _ | (refine below_call ?_ (by assumption) (by first | omega | (simp; done) | (simp; omega))) | (refine Below.trans ?_ (by assumption))))) ?_
      rintro e w1 ⟨rfl, hb_w1⟩
      obtain ⟨hc_w1, hf_w1⟩ := bcell hb_w1
      have hs_w1 := hb_w1.size
      go_wp2
      go_ret
      exact ⟨ret_int (by rw [HN.out]; rfl), by repeat (first | exact Below.refl _ _ | assumption | refine below_allocS ?_ _ | refine below_callS ?_ (by assumption) | (refine Below.alloc ?_ (by first | omega | (simp; done) | (simp; omega)) _) | (refine Below.setCell ?_ (by first | omega | (simp; done) | (simp; omega)) _) | refine Below.drew ?_ | refine below_drewN ?_ _ | (refine below_call ?_ (by assumption) (by first | omega | (simp; done) | (simp; omega))) | (refine Below.trans ?_ (by assumption)))⟩
    · have c1 := hT.2 9 _ rfl
      have z := hT.1
      have z0 : 0 < w.heap.size := by omega
      clear hT
      go_enter Tryd.func77, Tryd.ntmps77
      go_wp2_with fail
      refine Calls.mono (H1.out _ (by repeat (first | exact Below.refl _ _ | assumption | refine below_allocS ?_ _ | refine below_callS ?_ (by assumption) | (refine Below.alloc ?_ (by first | omega | (simp; done) | (simp; omega)) _) | (refine Below.setCell ?_ (by first | omega | (simp; done) | (simp; omega)) _) | refine Below.drew ?_ | refine below_drewN ?_ _ | (refine below_call ?_ (by assumption) (by first | omega | (simp; done) | (simp; omega))) | (refine Below.trans ?_ (by assumption))))) ?_
      rintro e w1 ⟨rfl, hb_w1⟩
      obtain ⟨hc_w1, hf_w1⟩ := bcell hb_w1
      have hs_w1 := hb_w1.size
      go_wp2
      go_ret
      exact ⟨ret_int (by rw [HN.out]; rfl), by repeat (first | exact Below.refl _ _ | assumption | refine below_allocS ?_ _ | refine below_callS ?_ (by assumption) | (refine Below.alloc ?_ (by first | omega | (simp; done) | (simp; omega)) _) | (refine Below.setCell ?_ (by first | omega | (simp; done) | (simp; omega)) _) | refine Below.drew ?_ | refine below_drewN ?_ _ | (refine below_call ?_ (by assumption) (by first | omega | (simp; done) | (simp; omega))) | (refine Below.trans ?_ (by assumption)))⟩
    · have c1 := hT.2 13 _ rfl
      have z := hT.1
      have z0 : 0 < w.heap.size := by omega
      clear hT
      go_enter Tryd.func77, Tryd.ntmps77
      go_wp2_with fail
      refine Calls.mono (H1.out _ (by repeat (first | exact Below.refl _ _ | assumption | refine below_allocS ?_ _ | refine below_callS ?_ (by assumption) | (refine Below.alloc ?_ (by first | omega | (simp; done) | (simp; omega)) _) | (refine Below.setCell ?_ (by first | omega | (simp; done) | (simp; omega)) _) | refine Below.drew ?_ | refine below_drewN ?_ _ | (refine below_call ?_ (by assumption) (by first | omega | (simp; done) | (simp; omega))) | (refine Below.trans ?_ (by assumption))))) ?_
      rintro e w1 ⟨rfl, hb_w1⟩
      obtain ⟨hc_w1, hf_w1⟩ := bcell hb_w1
      have hs_w1 := hb_w1.size
      go_wp2
      go_ret
      exact ⟨ret_int (by rw [HN.out]; rfl), by repeat (first | exact Below.refl _ _ | assumption | refine below_allocS ?_ _ | refine below_callS ?_ (by assumption) | (refine Below.alloc ?_ (by first | omega | (simp; done) | (simp; omega)) _) | (refine Below.setCell ?_ (by first | omega | (simp; done) | (simp; omega)) _) | refine Below.drew ?_ | refine below_drewN ?_ _ | (refine below_call ?_ (by assumption) (by first | omega | (simp; done) | (simp; omega))) | (refine Below.trans ?_ (by assumption)))⟩
    · have c1 := hT.2 17 _ rfl
      have z := hT.1
      have z0 : 0 < w.heap.size := by omega
      clear hT
      go_enter Tryd.func77, Tryd.ntmps77
      go_wp2_with fail
      refine Calls.mono (H1.out _ (by repeat (first | exact Below.refl _ _ | assumption | refine below_allocS ?_ _ | refine below_callS ?_ (by assumption) | (refine Below.alloc ?_ (by first | omega | (simp; done) | (simp; omega)) _) | (refine Below.setCell ?_ (by first | omega | (simp; done) | (simp; omega)) _) | refine Below.drew ?_ | refine below_drewN ?_ _ | (refine below_call ?_ (by assumption) (by first | omega | (simp; done) | (simp; omega))) | (refine Below.trans ?_ (by assumption))))) ?_
      rintro e w1 ⟨rfl, hb_w1⟩
      obtain ⟨hc_w1, hf_w1⟩ := bcell hb_w1
      have hs_w1 := hb_w1.size
      go_wp2
      go_ret
      exact ⟨ret_int (by rw [HN.out]; rfl), by repeat (first | exact Below.refl _ _ | assumption | refine below_allocS ?_ _ | refine below_callS ?_ (by assumption) | (refine Below.alloc ?_ (by first | omega | (simp; done) | (simp; omega)) _) | (refine Below.setCell ?_ (by first | omega | (simp; done) | (simp; omega)) _) | refine Below.drew ?_ | refine below_drewN ?_ _ | (refine below_call ?_ (by assumption) (by first | omega | (simp; done) | (simp; omega))) | (refine Below.trans ?_ (by assumption)))⟩
    · have c1 := hT.2 21 _ rfl
      have z := hT.1
      have z0 : 0 < w.heap.size := by omega
      clear hT
      go_enter Tryd.func77, Tryd.ntmps77
      go_wp2_with fail
      refine Calls.mono (H1.out _ (by repeat (first | exact Below.refl _ _ | assumption | refine below_allocS ?_ _ | refine below_callS ?_ (by assumption) | (refine Below.alloc ?_ (by first | omega | (simp; done) | (simp; omega)) _) | (refine Below.setCell ?_ (by first | omega | (simp; done) | (simp; omega)) _) | refine Below.drew ?_ | refine below_drewN ?_ _ | (refine below_call ?_ (by assumption) (by first | omega | (simp; done) | (simp; omega))) | (refine Below.trans ?_ (by assumption))))) ?_
      rintro e w1 ⟨rfl, hb_w1⟩
      obtain ⟨hc_w1, hf_w1⟩ := bcell hb_w1
      have hs_w1 := hb_w1.size
      go_wp2
      go_ret
      exact ⟨ret_int (by rw [HN.out]; rfl), by repeat (first | exact Below.refl _ _ | assumption | refine below_allocS ?_ _ | refine below_callS ?_ (by assumption) | (refine Below.alloc ?_ (by first | omega | (simp; done) | (simp; omega)) _) | (refine Below.setCell ?_ (by first | omega | (simp; done) | (simp; omega)) _) | refine Below.drew ?_ | refine below_drewN ?_ _ | (refine below_call ?_ (by assumption) (by first | omega | (simp; done) | (simp; omega))) | (refine Below.trans ?_ (by assumption)))⟩
    · have c1 := hT.2 25 _ rfl
      have z := hT.1
      have z0 : 0 < w.heap.size := by omega
      clear hT
      go_enter Tryd.func77, Tryd.ntmps77
      go_wp2_with fail
      refine Calls.mono (H1.out _ (by repeat (first | exact Below.refl _ _ | assumption | refine below_allocS ?_ _ | refine below_callS ?_ (by assumption) | (refine Below.alloc ?_ (by first | omega | (simp; done) | (simp; omega)) _) | (refine Below.setCell ?_ (by first | omega | (simp; done) | (simp; omega)) _) | refine Below.drew ?_ | refine below_drewN ?_ _ | (refine below_call ?_ (by assumption) (by first | omega | (simp; done) | (simp; omega))) | (refine Below.trans ?_ (by assumption))))) ?_
      rintro e w1 ⟨rfl, hb_w1⟩
      obtain ⟨hc_w1, hf_w1⟩ := bcell hb_w1
      have hs_w1 := hb_w1.size
      go_wp2
      go_ret
      exact ⟨ret_int (by rw [HN.out]; rfl), by repeat (first | exact Below.refl _ _ | assumption | refine below_allocS ?_ _ | refine below_callS ?_ (by assumption) | (refine Below.alloc ?_ (by first | omega | (simp; done) | (simp; omega)) _) | (refine Below.setCell ?_ (by first | omega | (simp; done) | (simp; omega)) _) | refine Below.drew ?_ | refine below_drewN ?_ _ | (refine below_call ?_ (by assumption) (by first | omega | (simp; done) | (simp; omega))) | (refine Below.trans ?_ (by assumption)))⟩
    · have c1 := hT.2 29 _ rfl
      have z := hT.1
      have z0 : 0 < w.heap.size := by omega
      clear hT
      go_enter Tryd.func77, Tryd.ntmps77
      go_wp2_with fail
      refine Calls.mono (H1.out _ (by repeat (first | exact Below.refl _ _ | assumption | refine below_allocS ?_ _ | refine below_callS ?_ (by assumption) | (refine Below.alloc ?_ (by first | omega | (simp; done) | (simp; omega)) _) | (refine Below.setCell ?_ (by first | omega | (simp; done) | (simp; omega)) _) | refine Below.drew ?_ | refine below_drewN ?_ _ | (refine below_call ?_ (by assumption) (by first | omega | (simp; done) | (simp; omega))) | (refine Below.trans ?_ (by assumption))))) ?_
      rintro e w1 ⟨rfl, hb_w1⟩
      obtain ⟨hc_w1, hf_w1⟩ := bcell hb_w1
      have hs_w1 := hb_w1.size
      go_wp2
      go_ret
      exact ⟨ret_int (by rw [HN.out]; rfl), by repeat (first | exact Below.refl _ _ | assumption | refine below_allocS ?_ _ | refine below_callS ?_ (by assumption) | (refine Below.alloc ?_ (by first | omega | (simp; done) | (simp; omega)) _) | (refine Below.setCell ?_ (by first | omega | (simp; done) | (simp; omega)) _) | refine Below.drew ?_ | refine below_drewN ?_ _ | (refine below_call ?_ (by assumption) (by first | omega | (simp; done) | (simp; omega))) | (refine Below.trans ?_ (by assumption)))⟩
    · have c1 := hT.2 33 _ rfl
      have z := hT.1
      have z0 : 0 < w.heap.size := by omega
      clear hT
      go_enter Tryd.func77, Tryd.ntmps77
      go_wp2_with fail
      refine Calls.mono (H1.out _ (by repeat (first | exact Below.refl _ _ | assumption | refine below_allocS ?_ _ | refine below_callS ?_ (by assumption) | (refine Below.alloc ?_ (by first | omega | (simp; done) | (simp; omega)) _) | (refine Below.setCell ?_ (by first | omega | (simp; done) | (simp; omega)) _) | refine Below.drew ?_ | refine below_drewN ?_ _ | (refine below_call ?_ (by assumption) (by first | omega | (simp; done) | (simp; omega))) | (refine Below.trans ?_ (by assumption))))) ?_
      rintro e w1 ⟨rfl, hb_w1⟩
      obtain ⟨hc_w1, hf_w1⟩ := bcell hb_w1
      have hs_w1 := hb_w1.size
      go_wp2
      go_ret
      exact ⟨ret_int (by rw [HN.out]; rfl), by repeat (first | exact Below.refl _ _ | assumption | refine below_allocS ?_ _ | refine below_callS ?_ (by assumption) | (refine Below.alloc ?_ (by first | omega | (simp; done) | (simp; omega)) _) | (refine Below.setCell ?_ (by first | omega | (simp; done) | (simp; omega)) _) | refine Below.drew ?_ | refine below_drewN ?_ _ | (refine below_call ?_ (by assumption) (by first | omega | (simp; done) | (simp; omega))) | (refine Below.trans ?_ (by assumption)))⟩
    · have c1 := hT.2 37 _ rfl
      have z := hT.1
      have z0 : 0 < w.heap.size := by omega
      clear hT
      go_enter Tryd.func77, Tryd.ntmps77
      go_wp2_with fail
      refine Calls.mono (H1.out _ (by repeat (first | exact Below.refl _ _ | assumption | refine below_allocS ?_ _ | refine below_callS ?_ (by assumption) | (refine Below.alloc ?_ (by first | omega | (simp; done) | (simp; omega)) _) | (refine Below.setCell ?_ (by first | omega | (simp; done) | (simp; omega)) _) | refine Below.drew ?_ | refine below_drewN ?_ _ | (refine below_call ?_ (by assumption) (by first | omega | (simp; done) | (simp; omega))) | (refine Below.trans ?_ (by assumption))))) ?_
      rintro e w1 ⟨rfl, hb_w1⟩
      obtain ⟨hc_w1, hf_w1⟩ := bcell hb_w1
      have hs_w1 := hb_w1.size
      go_wp2
      go_ret
      exact ⟨ret_int (by rw [HN.out]; rfl), by repeat (first | exact Below.refl _ _ | assumption | refine below_allocS ?_ _ | refine below_callS ?_ (by assumption) | (refine Below.alloc ?_ (by first | omega | (simp; done) | (simp; omega)) _) | (refine Below.setCell ?_ (by first | omega | (simp; done) | (simp; omega)) _) | refine Below.drew ?_ | refine below_drewN ?_ _ | (refine below_call ?_ (by assumption) (by first | omega | (simp; done) | (simp; omega))) | (refine Below.trans ?_ (by assumption)))⟩
  · have Hv := Lib.hid hv
    have hv' : (v == 0) = false := by simpa using hv
    clear hv hT
    go_enter Tryd.func77, Tryd.ntmps77
    go_wp2_with fail
    refine Calls.mono (H1.out _ (by repeat (first | exact Below.refl _ _ | assumption | refine below_allocS ?_ _ | refine below_callS ?_ (by assumption) | (refine Below.alloc ?_ (by first | omega | (simp; done) | (simp; omega)) _) | (refine Below.setCell ?_ (by first | omega | (simp; done) | (simp; omega)) _) | refine Below.drew ?_ | refine below_drewN ?_ _ | (refine below_call ?_ (by assumption) (by first | omega | (simp; done) | (simp; omega))) | (refine Below.trans ?_ (by assumption))))) ?_
    rintro e w1 ⟨rfl, hb_w1⟩
    obtain ⟨hc_w1, hf_w1⟩ := bcell hb_w1
    have hs_w1 := hb_w1.size
    go_wp2
    go_ret
    exact ⟨ret_int (by rw [HN.out, if_neg Hv.out]), by repeat (first | exact Below.refl _ _ | assumption | refine below_allocS ?_ _ | refine below_callS ?_ (by assumption) | (refine Below.alloc ?_ (by first | omega | (simp; done) | (simp; omega)) _) | (refine Below.setCell ?_ (by first | omega | (simp; done) | (simp; omega)) _) | refine Below.drew ?_ | refine below_drewN ?_ _ | (refine below_call ?_ (by assumption) (by first | omega | (simp; done) | (simp; omega))) | (refine Below.trans ?_ (by assumption)))⟩
theorem quiet_same {P : Program} {f : FuncId} {args : Array Value} {w : World} {n : Nat} {v : Value}
    (h : Calls P f args (w.drewN n) fun e w' => e = .returned v ∧ w.drewN n = w') : Calls P f args (w.drewN n) fun e w'' => e = .returned v ∧ ∃ m, w'' = w.drewN m :=
  h.mono fun _ _ ⟨he, hm⟩ => ⟨he, n, hm.symm⟩
theorem spec_l01Has {a : Option Addr} {n c : Nat} {l : List Int} {x : Int} {w : World} (hI : Ints w a n c l) (hn : n ≤ 1048576) :
    Calls Tryd.prog 102 #[.slice a n c, .int .i64 x] w fun e w' => e = .returned (.bool (l.any fun y => y == x)) ∧ w = w' := by
  have HI := Lib.hid hI
  clear hI
  go_enter Tryd.func102, Tryd.ntmps102
  go_wp2
  go_loop [5] (fun s4 => ∃ k : Nat, k ≤ n ∧ s4 = .int .i64 k ∧ Hid ((l.take k).any (fun y => y == x) = false)) (fun i => n - (intOf i).toNat)
  case atStart => exact ⟨0, Nat.zero_le _, rfl, rfl⟩
  case round =>
    obtain ⟨k, hk, rfl, A⟩ := hrel
    by_cases hlt : k < n
    · obtain ⟨b, off, y, rfl, hb, hy, hcell, hwf⟩ := HI.out.at hlt
      have Hy := Lib.hid hy
      clear hy
      cases hq : (y == x)
      all_goals
        have Hq := Lib.hid hq
        go_wp2
      · go_round
        case rel => exact ⟨k + 1, by omega, by go_num, any_take_step Hy.out A.out Hq.out⟩
        case measure => simp [intOf]; omega
      · go_ret
        exact ⟨ret_bool (any_take_true Hy.out Hq.out).symm, rfl⟩
    · go_wp2
      go_ret
      have e : l.take k = l := take_len (by have := HI.out.len; omega)
      have h1 := A.out
      rw [e] at h1
      exact ⟨ret_bool h1.symm, rfl⟩
theorem ints_lit (w : World) (T : TypeId) (l : List Int) (hw : ∀ x ∈ l, I64 x) : Ints (w.alloc (.cells (l.map (Value.int .i64)).toArray T)) (some ⟨w.heap.size, 0, none⟩) l.length l.length l := by
  refine ⟨rfl, Nat.le_refl _, .inr ⟨w.heap.size, 0, rfl, by simp, fun i x hx => ?_⟩, hw, fun h => by cases h⟩
  have := (Blk.made w (l.map (Value.int .i64)).toArray T).cell i
  rw [Nat.zero_add, this]
  simp [hx]
theorem I64_small {l : List Int} (h : l.all (fun x => decide (0 ≤ x) && decide (x ≤ 100)) = true) : ∀ x ∈ l, I64 x := fun x hx => by
  have := List.all_eq_true.1 h x hx
  simp at this
  exact ⟨by omega, by omega⟩
def ListRet (w : World) (l : List Int) (e : Ending) (w' : World) : Prop := ∃ g, e = .returned (.slice (some ⟨g, 0, none⟩) l.length l.length) ∧ Below w.heap.size w w' ∧ Ints w' (some ⟨g, 0, none⟩) l.length l.length l
theorem spec_l27From {k : Int} {w : World} (hk : inB k 0 9 = true) : Calls Tryd.prog 103 #[.int .i64 k] w (ListRet w (fromL k)) := by
  rcases cmd_cases hk with rfl | rfl | rfl | rfl | rfl | rfl | rfl | rfl | rfl | rfl
  · go_enter Tryd.func103, Tryd.ntmps103
    go_wp2
    go_ret
    exact ⟨_, rfl, by repeat (first | exact Below.refl _ _ | assumption | refine below_allocS ?_ _ | refine below_callS ?_ (by assumption) | (refine Below.alloc ?_ (by first | omega | (simp; done) | (simp; omega)) _) | (refine Below.setCell ?_ (by first | omega | (simp; done) | (simp; omega)) _) | refine Below.drew ?_ | refine below_drewN ?_ _ | (refine below_call ?_ (by assumption) (by first | omega | (simp; done) | (simp; omega))) | (refine Below.trans ?_ (by assumption))), ints_lit w 2 (fromL 0) (I64_small (by decide))⟩
  · go_enter Tryd.func103, Tryd.ntmps103
    go_wp2
    go_ret
    exact ⟨_, rfl, by repeat (first | exact Below.refl _ _ | assumption | refine below_allocS ?_ _ | refine below_callS ?_ (by assumption) | (refine Below.alloc ?_ (by first | omega | (simp; done) | (simp; omega)) _) | (refine Below.setCell ?_ (by first | omega | (simp; done) | (simp; omega)) _) | refine Below.drew ?_ | refine below_drewN ?_ _ | (refine below_call ?_ (by assumption) (by first | omega | (simp; done) | (simp; omega))) | (refine Below.trans ?_ (by assumption))), ints_lit w 2 (fromL 1) (I64_small (by decide))⟩
  · go_enter Tryd.func103, Tryd.ntmps103
    go_wp2
    go_ret
    exact ⟨_, rfl, by repeat (first | exact Below.refl _ _ | assumption | refine below_allocS ?_ _ | refine below_callS ?_ (by assumption) | (refine Below.alloc ?_ (by first | omega | (simp; done) | (simp; omega)) _) | (refine Below.setCell ?_ (by first | omega | (simp; done) | (simp; omega)) _) | refine Below.drew ?_ | refine below_drewN ?_ _ | (refine below_call ?_ (by assumption) (by first | omega | (simp; done) | (simp; omega))) | (refine Below.trans ?_ (by assumption))), ints_lit w 2 (fromL 2) (I64_small (by decide))⟩
  · go_enter Tryd.func103, Tryd.ntmps103
    go_wp2
    go_ret
    exact ⟨_, rfl, by repeat (first | exact Below.refl _ _ | assumption | refine below_allocS ?_ _ | refine below_callS ?_ (by assumption) | (refine Below.alloc ?_ (by first | omega | (simp; done) | (simp; omega)) _) | (refine Below.setCell ?_ (by first | omega | (simp; done) | (simp; omega)) _) | refine Below.drew ?_ | refine below_drewN ?_ _ | (refine below_call ?_ (by assumption) (by first | omega | (simp; done) | (simp; omega))) | (refine Below.trans ?_ (by assumption))), ints_lit w 2 (fromL 3) (I64_small (by decide))⟩
  · go_enter Tryd.func103, Tryd.ntmps103
    go_wp2
    go_ret
    exact ⟨_, rfl, by repeat (first | exact Below.refl _ _ | assumption | refine below_allocS ?_ _ | refine below_callS ?_ (by assumption) | (refine Below.alloc ?_ (by first | omega | (simp; done) | (simp; omega)) _) | (refine Below.setCell ?_ (by first | omega | (simp; done) | (simp; omega)) _) | refine Below.drew ?_ | refine below_drewN ?_ _ | (refine below_call ?_ (by assumption) (by first | omega | (simp; done) | (simp; omega))) | (refine Below.trans ?_ (by assumption))), ints_lit w 2 (fromL 4) (I64_small (by decide))⟩
  · go_enter Tryd.func103, Tryd.ntmps103
    go_wp2
    go_ret
    exact ⟨_, rfl, by repeat (first | exact Below.refl _ _ | assumption | refine below_allocS ?_ _ | refine below_callS ?_ (by assumption) | (refine Below.alloc ?_ (by first | omega | (simp; done) | (simp; omega)) _) | (refine Below.setCell ?_ (by first | omega | (simp; done) | (simp; omega)) _) | refine Below.drew ?_ | refine below_drewN ?_ _ | (refine below_call ?_ (by assumption) (by first | omega | (simp; done) | (simp; omega))) | (refine Below.trans ?_ (by assumption))), ints_lit w 2 (fromL 5) (I64_small (by decide))⟩
  · go_enter Tryd.func103, Tryd.ntmps103
    go_wp2
    go_ret
    exact ⟨_, rfl, by repeat (first | exact Below.refl _ _ | assumption | refine below_allocS ?_ _ | refine below_callS ?_ (by assumption) | (refine Below.alloc ?_ (by first | omega | (simp; done) | (simp; omega)) _) | (refine Below.setCell ?_ (by first | omega | (simp; done) | (simp; omega)) _) | refine Below.drew ?_ | refine below_drewN ?_ _ | (refine below_call ?_ (by assumption) (by first | omega | (simp; done) | (simp; omega))) | (refine Below.trans ?_ (by assumption))), ints_lit w 2 (fromL 6) (I64_small (by decide))⟩
  · go_enter Tryd.func103, Tryd.ntmps103
    go_wp2
    go_ret
    exact ⟨_, rfl, by repeat (first | exact Below.refl _ _ | assumption | refine below_allocS ?_ _ | refine below_callS ?_ (by assumption) | (refine Below.alloc ?_ (by first | omega | (simp; done) | (simp; omega)) _) | (refine Below.setCell ?_ (by first | omega | (simp; done) | (simp; omega)) _) | refine Below.drew ?_ | refine below_drewN ?_ _ | (refine below_call ?_ (by assumption) (by first | omega | (simp; done) | (simp; omega))) | (refine Below.trans ?_ (by assumption))), ints_lit w 2 (fromL 7) (I64_small (by decide))⟩
  · go_enter Tryd.func103, Tryd.ntmps103
    go_wp2
    go_ret
    exact ⟨_, rfl, by repeat (first | exact Below.refl _ _ | assumption | refine below_allocS ?_ _ | refine below_callS ?_ (by assumption) | (refine Below.alloc ?_ (by first | omega | (simp; done) | (simp; omega)) _) | (refine Below.setCell ?_ (by first | omega | (simp; done) | (simp; omega)) _) | refine Below.drew ?_ | refine below_drewN ?_ _ | (refine below_call ?_ (by assumption) (by first | omega | (simp; done) | (simp; omega))) | (refine Below.trans ?_ (by assumption))), ints_lit w 2 (fromL 8) (I64_small (by decide))⟩
  · go_enter Tryd.func103, Tryd.ntmps103
    go_wp2
    go_ret
    exact ⟨_, rfl, by repeat (first | exact Below.refl _ _ | assumption | refine below_allocS ?_ _ | refine below_callS ?_ (by assumption) | (refine Below.alloc ?_ (by first | omega | (simp; done) | (simp; omega)) _) | (refine Below.setCell ?_ (by first | omega | (simp; done) | (simp; omega)) _) | refine Below.drew ?_ | refine below_drewN ?_ _ | (refine below_call ?_ (by assumption) (by first | omega | (simp; done) | (simp; omega))) | (refine Below.trans ?_ (by assumption))), ints_lit w 2 (fromL 9) (I64_small (by decide))⟩
set_option maxHeartbeats 1000000 in
theorem spec_l27Least {k : Int} {w : World} (hk : inB k 0 9 = true) : Calls Tryd.prog 104 #[.int .i64 k] w fun e w' => e = .returned (.int .i64 (leastR k)) ∧ w = w' := by
  rcases cmd_cases hk with rfl | rfl | rfl | rfl | rfl | rfl | rfl | rfl | rfl | rfl
  all_goals
    go_enter Tryd.func104, Tryd.ntmps104
    go_wp2
    go_ret
    exact ⟨rfl, rfl⟩
set_option maxHeartbeats 1000000 in
theorem spec_l27Key {k : Int} {w : World} (hk : inB k 0 9 = true) : Calls Tryd.prog 105 #[.int .i64 k] w fun e w' => e = .returned (.bool (keyR k)) ∧ w = w' := by
  rcases cmd_cases hk with rfl | rfl | rfl | rfl | rfl | rfl | rfl | rfl | rfl | rfl
  all_goals
    go_enter Tryd.func105, Tryd.ntmps105
    go_wp2
    go_ret
    exact ⟨rfl, rfl⟩
set_option maxHeartbeats 1000000 in
theorem spec_l27To {k : Int} {w : World} (hk : inB k 0 9 = true) : Calls Tryd.prog 76 #[.int .i64 k] w fun e w' => e = .returned (.int .i64 (toR k)) ∧ Below w.heap.size w w' := by
  rcases cmd_cases hk with rfl | rfl | rfl | rfl | rfl | rfl | rfl | rfl | rfl | rfl
  all_goals
    go_enter Tryd.func76, Tryd.ntmps76
    go_wp2
    go_ret
    exact ⟨rfl, by repeat (first | exact Below.refl _ _ | assumption | refine below_allocS ?_ _ | refine below_callS ?_ (by assumption) | (refine Below.alloc ?_ (by first | omega | (simp; done) | (simp; omega)) _) | (refine Below.setCell ?_ (by first | omega | (simp; done) | (simp; omega)) _) | refine Below.drew ?_ | refine below_drewN ?_ _ | (refine below_call ?_ (by assumption) (by first | omega | (simp; done) | (simp; omega))) | (refine Below.trans ?_ (by assumption)))⟩
set_option maxHeartbeats 1000000 in
theorem spec_l27Verdict {m k r : Int} {key : Bool} {w : World} (hk : inB k 0 9 = true) :
    Calls Tryd.prog 75 #[.int .i64 m, .agg #[.int .i64 k, .int .i64 r, .bool key]] w fun e w' => e = .returned (.int .i64 (cVerd m k r key)) ∧ Below w.heap.size w w' := by
  have hl : (fromL k).length ≤ 1048576 := by rcases cmd_cases hk with rfl | rfl | rfl | rfl | rfl | rfl | rfl | rfl | rfl | rfl <;> decide
  cases hf : ((fromL k).any fun y => y == m)
  all_goals
    have Hf := Lib.hid hf
    clear hf
  · have HV := Lib.hid (cVerd_1 (r := r) (key := key) Hf.out)
    go_enter Tryd.func75, Tryd.ntmps75
    go_wp2_with fail
    refine Calls.mono (spec_l27From hk) ?_
    rintro e w1 ⟨g, rfl, hb_w1, hI⟩
    obtain ⟨hc_w1, hf_w1⟩ := bcell hb_w1
    have hs_w1 := hb_w1.size
    go_wp2_with fail
    refine Calls.mono (spec_l01Has hI hl) ?_
    rintro e _ ⟨rfl, rfl⟩
    rw [Hf.out]
    clear hI
    go_wp2
    go_ret
    exact ⟨ret_int HV.out.symm, by repeat (first | exact Below.refl _ _ | assumption | refine below_allocS ?_ _ | refine below_callS ?_ (by assumption) | (refine Below.alloc ?_ (by first | omega | (simp; done) | (simp; omega)) _) | (refine Below.setCell ?_ (by first | omega | (simp; done) | (simp; omega)) _) | refine Below.drew ?_ | refine below_drewN ?_ _ | (refine below_call ?_ (by assumption) (by first | omega | (simp; done) | (simp; omega))) | (refine Below.trans ?_ (by assumption)))⟩
  · by_cases hr : r < leastR k
    · have HV := Lib.hid (cVerd_2 (key := key) Hf.out hr)
      go_enter Tryd.func75, Tryd.ntmps75
      go_wp2_with fail
      refine Calls.mono (spec_l27From hk) ?_
      rintro e w1 ⟨g, rfl, hb_w1, hI⟩
      obtain ⟨hc_w1, hf_w1⟩ := bcell hb_w1
      have hs_w1 := hb_w1.size
      go_wp2_with fail
      refine Calls.mono (spec_l01Has hI hl) ?_
      rintro e _ ⟨rfl, rfl⟩
      rw [Hf.out]
      clear hI
      go_wp2_with fail
      go_quiet ((go_at_call 104; exact quiet_same (spec_l27Least hk)))
      go_wp2
      go_ret
      exact ⟨ret_int HV.out.symm, by repeat (first | exact Below.refl _ _ | assumption | refine below_allocS ?_ _ | refine below_callS ?_ (by assumption) | (refine Below.alloc ?_ (by first | omega | (simp; done) | (simp; omega)) _) | (refine Below.setCell ?_ (by first | omega | (simp; done) | (simp; omega)) _) | refine Below.drew ?_ | refine below_drewN ?_ _ | (refine below_call ?_ (by assumption) (by first | omega | (simp; done) | (simp; omega))) | (refine Below.trans ?_ (by assumption)))⟩
    · cases hkey : keyR k
      · have HV := Lib.hid (cVerd_0 (key := key) Hf.out (show leastR k ≤ r by omega) (by rw [hkey]; rfl))
        have Hk := Lib.hid hkey
        clear hkey
        go_enter Tryd.func75, Tryd.ntmps75
        go_wp2_with fail
        refine Calls.mono (spec_l27From hk) ?_
        rintro e w1 ⟨g, rfl, hb_w1, hI⟩
        obtain ⟨hc_w1, hf_w1⟩ := bcell hb_w1
        have hs_w1 := hb_w1.size
        go_wp2_with fail
        refine Calls.mono (spec_l01Has hI hl) ?_
        rintro e _ ⟨rfl, rfl⟩
        rw [Hf.out]
        clear hI
        go_wp2_with fail
        go_quiet ((go_at_call 104; exact quiet_same (spec_l27Least hk)))
        go_wp2_with fail
        refine Calls.mono (spec_l27Key hk) ?_
        rintro e _ ⟨rfl, rfl⟩
        rw [Hk.out]
        go_wp2
        go_ret
        exact ⟨ret_int HV.out.symm, by repeat (first | exact Below.refl _ _ | assumption | refine below_allocS ?_ _ | refine below_callS ?_ (by assumption) | (refine Below.alloc ?_ (by first | omega | (simp; done) | (simp; omega)) _) | (refine Below.setCell ?_ (by first | omega | (simp; done) | (simp; omega)) _) | refine Below.drew ?_ | refine below_drewN ?_ _ | (refine below_call ?_ (by assumption) (by first | omega | (simp; done) | (simp; omega))) | (refine Below.trans ?_ (by assumption)))⟩
      · have Hk := Lib.hid hkey
        have HV := Lib.hid (show cVerd m k r key = if key = true then 0 else 3 by cases key with | false => exact cVerd_3 Hf.out (by omega) (by rw [hkey]; rfl) | true => exact cVerd_0 Hf.out (by omega) (by rw [hkey]; rfl))
        clear hkey
        cases key
        all_goals
          go_enter Tryd.func75, Tryd.ntmps75
          go_wp2_with fail
          refine Calls.mono (spec_l27From hk) ?_
          rintro e w1 ⟨g, rfl, hb_w1, hI⟩
          obtain ⟨hc_w1, hf_w1⟩ := bcell hb_w1
          have hs_w1 := hb_w1.size
          go_wp2_with fail
          refine Calls.mono (spec_l01Has hI hl) ?_
          rintro e _ ⟨rfl, rfl⟩
          rw [Hf.out]
          clear hI
          go_wp2_with fail
          go_quiet ((go_at_call 104; exact quiet_same (spec_l27Least hk)))
          go_wp2_with fail
          refine Calls.mono (spec_l27Key hk) ?_
          rintro e _ ⟨rfl, rfl⟩
          rw [Hk.out]
          go_wp2
          go_ret
          exact ⟨ret_int (by rw [HV.out]; rfl), by repeat (first | exact Below.refl _ _ | assumption | refine below_allocS ?_ _ | refine below_callS ?_ (by assumption) | (refine Below.alloc ?_ (by first | omega | (simp; done) | (simp; omega)) _) | (refine Below.setCell ?_ (by first | omega | (simp; done) | (simp; omega)) _) | refine Below.drew ?_ | refine below_drewN ?_ _ | (refine below_call ?_ (by assumption) (by first | omega | (simp; done) | (simp; omega))) | (refine Below.trans ?_ (by assumption)))⟩
end Go.Proofs.YtfhogleillgcgaaDoor
