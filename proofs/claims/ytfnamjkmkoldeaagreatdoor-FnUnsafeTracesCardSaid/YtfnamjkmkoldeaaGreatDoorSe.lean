/- Small functions of the library over int64: greatest number, turning a slice round, sorting two. -/
import Derived.Test.YtfnamjkmkoldeaaGreatDoorQa
import Derived.Test.YtfnamjkmkoldeaaGreatDoorQc
import Derived.BigRegion
import Derived.BigQuiet
namespace Go.Proofs.YtfnamjkmkoldeaaGreatDoor
open Go.RowKit
set_option linter.unusedVariables false
set_option linter.unusedSimpArgs false
/-- j steps of turning round: the outer j pairs are swapped -/
def RevAt (l m : List Int) (j : Nat) : Prop := m.length = l.length ∧ ∀ i, i < l.length → m[i]? = if i < j ∨ l.length ≤ i + j then l[l.length - 1 - i]? else l[i]?
theorem RevAt.start (l : List Int) : RevAt l l 0 := ⟨rfl, fun i hi => by rw [if_neg (by omega)]⟩
theorem RevAt.done {l m : List Int} {j : Nat} (h : RevAt l m j) (hj : l.length ≤ 2 * j + 1) : m = l.reverse := by
  apply List.ext_getElem?
  intro i
  by_cases hi : i < l.length
  · rw [List.getElem?_reverse hi, h.2 i hi]
    split
    · rfl
    · have : i = l.length - 1 - i := by omega
      rw [← this]
  · rw [List.getElem?_eq_none (by rw [h.1]; omega), List.getElem?_eq_none (by rw [List.length_reverse]; omega)]
theorem RevAt.step {l m : List Int} {j : Nat} {x y : Int} (h : RevAt l m j) (hj : 2 * j + 1 < l.length) (hx : m[j]? = some x) (hy : m[l.length - 1 - j]? = some y) : RevAt l ((m.set j y).set (l.length - 1 - j) x) (j + 1) := by
  have hx' : l[j]? = some x := by rw [h.2 j (by omega), if_neg (by omega)] at hx; exact hx
  have hy' : l[l.length - 1 - j]? = some y := by rw [h.2 _ (by omega), if_neg (by omega)] at hy; exact hy
  refine ⟨by rw [List.length_set, List.length_set]; exact h.1, fun i hi => ?_⟩
  rw [List.getElem?_set, List.getElem?_set, List.length_set, h.1]
  by_cases e1 : l.length - 1 - j = i
  · rw [if_pos e1, if_pos (by omega), if_pos (by omega), ← e1, show l.length - 1 - (l.length - 1 - j) = j by omega, hx']
  · rw [if_neg e1]
    by_cases e2 : j = i
    · subst e2
      rw [if_pos rfl, if_pos hi, if_pos (by omega), hy']
    · rw [if_neg e2, h.2 i hi]
      by_cases e3 : i < j ∨ l.length ≤ i + j
      · rw [if_pos e3, if_pos (by omega)]
      · rw [if_neg e3, if_neg (by omega)]
set_option maxHeartbeats 1000000 in
theorem slices_Max_i64 {a : Option Addr} {n c : Nat} {l : List Int} {w : World} (hI : Ints w a n c l) (h0 : 0 < n) (hn : n ≤ 1048576) :
    Calls Tryz.prog 104 #[.slice a n c] w fun e w' => ∃ m, e = .returned (.int .i64 m) ∧ m ∈ l ∧ (∀ x ∈ l, x ≤ m) ∧ w = w' := by
  obtain ⟨b, off, x0, rfl, hb, hx0, hc0, _⟩ := hI.at h0
  have HI := Lib.hid hI
  have HX0 := Lib.hid hx0
  have HL := Lib.hid hI.len
  have hn1 : ¬ (n : Int) < 1 := by omega
  have hn0 : (0 : Int) < (n : Int) := by omega
  rw [Nat.add_zero] at hc0
  clear hI hx0
  go_enter Tryz.func104, Tryz.ntmps104
  go_wp2_with fail
  go_loop [3, 4] (fun s3 s4 => ∃ (j : Nat) (m : Int), s3 = .int .i64 m ∧ s4 = .int .i64 j ∧ j ≤ n ∧ 1 ≤ j ∧ Hid (m ∈ l ∧ ∀ i x, l[i]? = some x → i < j → x ≤ m)) (fun _ i => n - (intOf i).toNat)
  case atStart => exact ⟨1, x0, rfl, rfl, by omega, by omega, Lib.hid ⟨List.mem_of_getElem? HX0.out, fun i x hi hlt => by
    have : i = 0 := by omega
    subst this
    have h := HX0.out
    rw [hi] at h
    cases h
    exact Int.le_refl _⟩⟩
  case round =>
    obtain ⟨j, m, rfl, rfl, hj, hj1, A⟩ := hrel
    by_cases hlt : j < n
    · have hlt' : (j : Int) < (n : Int) := by omega
      obtain ⟨b', off', x, he, hb', hx, hcell, hwf⟩ := HI.out.at hlt
      simp only [Option.some.injEq, Addr.mk.injEq, and_true] at he
      obtain ⟨rfl, rfl⟩ := he
      have Hx := Lib.hid hx
      clear hx
      have HM := Lib.hid (show max m x ∈ l ∧ ∀ i z, l[i]? = some z → i < j + 1 → z ≤ max m x from ⟨by
        rcases Int.le_total m x with h | h
        · rw [Int.max_eq_right h]; exact List.mem_of_getElem? Hx.out
        · rw [Int.max_eq_left h]; exact A.out.1, fun i z hz hlt => by
        by_cases e : i = j
        · subst e; rw [Hx.out] at hz; cases hz; omega
        · have := A.out.2 i z hz (by omega); omega⟩)
      go_wp2
      go_round
      case rel => exact ⟨j + 1, max m x, rfl, by go_num, by omega, by omega, HM⟩
      case measure => simp [intOf]; omega
    · obtain rfl : n = j := by omega
      have hlt' : ¬ (n : Int) < (n : Int) := by omega
      go_wp2
      go_ret
      refine ⟨m, rfl, A.out.1, fun x hx => ?_, rfl⟩
      obtain ⟨i, hi⟩ := List.getElem?_of_mem hx
      exact A.out.2 i x hi (by rw [← HL.out]; exact (List.getElem?_eq_some_iff.1 hi).1)
theorem Touch.then2 {w w1 w2 : World} {n g : Nat} (h : Touch w w1 n (some ⟨g, 0, none⟩)) (h0 : 0 < n) (h2 : w1.grownBy w2 (some g)) : Touch w w2 n (some ⟨g, 0, none⟩) := by
  obtain ⟨r, hg, hr⟩ := h
  refine ⟨some g, ⟨h2.os.trans hg.os, h2.tape.trans hg.tape, h2.output.trans hg.output, Nat.le_trans hg.size h2.size, fun k hk hne => (h2.block k (Nat.lt_of_lt_of_le hk hg.size) hne).trans (hg.block k hk fun e => ?_)⟩, fun b e => by cases e; exact ⟨h0, rfl⟩⟩
  have h3 := (hr k e.symm).2
  simp at h3
  exact hne (by rw [h3])
set_option maxHeartbeats 2000000 in
theorem slices_Reverse_i64 {a : Option Addr} {base n c : Nat} {l : List Int} {w : World} (hI : OwnI 2 w base a n c l) (hn : n ≤ 1048576) :
    Calls Tryz.prog 108 #[.slice a n c] w fun e w' => e = .returned (.tuple #[]) ∧ Touch w w' n a ∧ OwnI 2 w' base a n c l.reverse := by
  have HI := Lib.hid hI
  have HL := Lib.hid hI.len
  have HB := Lib.hid hI.blk
  clear hI
  go_enter Tryz.func108, Tryz.ntmps108
  go_wp2_with fail
  go_loopw [2, 3] (fun s2 s3 wr => ∃ (j : Nat) (m : List Int), s2 = .int .i64 j ∧ s3 = .int .i64 ((n : Int) - 1 - j) ∧ 2 * j ≤ n + 1 ∧ Hid (Touch w wr n a) ∧ Hid (OwnI 2 wr base a n c m) ∧ Hid (RevAt l m j)) (fun s2 _ _ => n + 2 - (intOf s2).toNat)
  case atStart => exact ⟨0, l, rfl, by go_num, by omega, Lib.hid ⟨none, grownBy_refl _ _, fun b e => by cases e⟩, HI, Lib.hid (RevAt.start l)⟩
  case round =>
    obtain ⟨j, m, rfl, rfl, hj, HT, HM, HR⟩ := hrel
    have hj0 : (0 : Int) ≤ (j : Int) := by omega
    by_cases hlt : 2 * j + 1 < n
    · have hlt' : (j : Int) < (n : Int) - 1 - (j : Int) := by omega
      obtain ⟨q, hq⟩ : ∃ q : Nat, q = n - 1 - j := ⟨_, rfl⟩
      have hqe : (n : Int) - 1 - (j : Int) = (q : Int) := by omega
      have hqn : q < n := by omega
      have hjq : j < q := by omega
      have hjn : (j : Int) < (n : Int) := by omega
      have hqn' : (q : Int) < (n : Int) := by omega
      have hq0 : (0 : Int) ≤ (q : Int) := by omega
      have hjq' : (j : Int) < (q : Int) := by omega
      obtain ⟨g, rfl⟩ := HM.out.shape (by omega)
      obtain ⟨x, hx, hxo, hcx⟩ := HM.out.cell (show j < n by omega)
      obtain ⟨y, hy, hyo, hcy⟩ := HM.out.cell hqn
      have hfz := HM.out.free
      have hgl := (HM.out.lt).2
      have HS := Lib.hid (HR.out.step (by rw [HL.out]; omega) hx (by rw [HL.out, ← hq]; exact hy))
      rw [HL.out, ← hq] at HS
      have HQ := Lib.hid hq
      have hne : ¬ j = q := by omega
      clear hx hy hq
      rw [hqe]
      go_wp2
      go_region
      go_wp2
      go_roundw
      case rel =>
        refine ⟨j + 1, (m.set j y).set q x, by go_num, by rw [show (q : Int) - 1 = (n : Int) - 1 - ((j + 1 : Nat) : Int) by omega], by omega, Lib.hid ?_, Lib.hid ?_, HS⟩
        · exact HT.out.then2 (by omega) (grownBy_drewT (grownBy_set (set_grown g _ _) _ _))
        · exact ((HM.out.set j hyo).set q hxo).keep (Below.refl _ _).drew
      case measure => simp [intOf]; omega
    · have hlt' : ¬ (j : Int) < (n : Int) - 1 - (j : Int) := by omega
      have hRD := HR.out.done (by rw [HL.out]; omega)
      have HRD := Lib.hid hRD
      clear hRD
      go_wp2
      (try simp only [Exit.inBlock, Exit.then])
      refine bodyPost_end (results_none rfl _ _ _) rfl ⟨rfl, HT.out, by rw [← HRD.out]; exact HM.out⟩
end Go.Proofs.YtfnamjkmkoldeaaGreatDoor
