/- Is it a token: both sides, walked. -/
import Derived.Test.YtjneodmohkpckaaDoorEt
import Derived.Test.YtjneodmohkpckaaDoorT12l
import Derived.Test.YtjneodmohkpckaaDoorSc
namespace Go.Proofs.YtjneodmohkpckaaDoor
open Go.RowKit
set_option linter.unusedVariables false
set_option linter.unusedSimpArgs false
def sg1 (l : List UInt8) : Bool := match l with
  | [c] => sgnP c
  | _ => false
def tokB (x : TR) : Bool := if x.k = 1 then wrdB x.t.data.toList else if x.k = 2 then numB x.t.data.toList else if x.k = 3 then sg1 x.t.data.toList else false
theorem sg1_not {s : ByteArray} (h : ¬ s.size = 1) : sg1 s.data.toList = false := by
  have h1 := str_len s
  unfold sg1
  split
  · rename_i c e; rw [e] at h1; simp at h1; omega
  · rfl
theorem str_one {s : ByteArray} (h : s.size = 1) : ∃ c, s = ⟨#[c]⟩ := by
  have h1 := str_len s
  rw [h] at h1
  match hl : s.data.toList, h1 with
  | [c], _ => exact ⟨c, by
      obtain ⟨d⟩ := s
      congr 1
      exact Array.toList_inj.1 (by simpa using hl)⟩
theorem spec_l12Sign_all {s : ByteArray} {w : World} : Calls Tryd.prog 36 #[.string s] w fun e w' => e = .returned (.bool (sg1 s.data.toList)) ∧ w = w' := by
  by_cases h : s.size = 1
  · obtain ⟨c, rfl⟩ := str_one h
    exact spec_l12Sign
  · have H := Lib.hid (sg1_not h)
    have hne : ∀ c : UInt8, (s.toList == [c]) = false := fun c => by
      rw [beq_eq_false_iff_ne]
      intro e
      have := congrArg List.length e
      simp only [List.length_singleton] at this
      exact h (by rw [← str_len]; rw [ByteArray.toList_eq] at this; exact this)
    have n1 := hne 61
    have n2 := hne 40
    have n3 := hne 41
    have n4 := hne 44
    have n5 := hne 59
    clear hne
    go_enter Tryd.func36, Tryd.ntmps36
    go_wp2
    go_ret
    exact ⟨by rw [H.out]; rfl, rfl⟩
theorem spec_IsToken {k : Int} {t : ByteArray} {w : World} (hz : t.size ≤ 1048576) : Calls Tryd.prog 14 #[.agg #[.int .i64 k, .string t]] w fun e w' => e = .returned (.bool (tokB ⟨k, t⟩)) ∧ Below w.heap.size w w' := by
  by_cases k1 : k = 1
  · subst k1
    have H := Lib.hid (show tokB ⟨1, t⟩ = wrdB t.data.toList from rfl)
    have K := Lib.hid (fun (wx : World) => spec_l12Word (s := t) (w := wx) hz)
    go_enter Tryd.func14, Tryd.ntmps14
    go_wp2_with fail
    refine Calls.mono (K.out _) ?_
    rintro e _ ⟨rfl, rfl⟩
    go_wp2
    go_ret
    exact ⟨by rw [H.out]; rfl, bel⟩
  by_cases k2 : k = 2
  · subst k2
    have H := Lib.hid (show tokB ⟨2, t⟩ = numB t.data.toList from rfl)
    have K := Lib.hid (fun (wx : World) => spec_l12Number (s := t) (w := wx) (by unfold maxLen; omega))
    go_enter Tryd.func14, Tryd.ntmps14
    go_wp2_with fail
    refine Calls.mono (K.out _) ?_
    rintro e w1 ⟨rfl, hb1⟩
    go_wp2
    go_ret
    exact ⟨by rw [H.out]; rfl, by first | exact hb1 | exact below_callS (below_alloc1 (Below.refl _ _) _) hb1⟩
  by_cases k3 : k = 3
  · subst k3
    have H := Lib.hid (show tokB ⟨3, t⟩ = sg1 t.data.toList from rfl)
    go_enter Tryd.func14, Tryd.ntmps14
    go_wp2_with fail
    refine Calls.mono (spec_l12Sign_all) ?_
    rintro e _ ⟨rfl, rfl⟩
    go_wp2
    go_ret
    exact ⟨by rw [H.out]; rfl, bel⟩
  have H := Lib.hid (show tokB ⟨k, t⟩ = false by simp only [tokB, if_neg k1, if_neg k2, if_neg k3])
  go_enter Tryd.func14, Tryd.ntmps14
  go_wp2
  go_ret
  exact ⟨by rw [H.out]; rfl, bel⟩
theorem impl_IsToken {k : Int} {t : ByteArray} {w : World} (hL : LV w) (hz : t.size ≤ 1048576) : Calls Tryd.prog 13 #[.agg #[.int .i64 k, .string t]] w fun e w' => e = .returned (.bool (tokB ⟨k, t⟩)) ∧ Below w.heap.size w w' := by
  by_cases k1 : k = 1
  · subst k1
    have H := Lib.hid (show tokB ⟨1, t⟩ = wrdB t.data.toList from rfl)
    have K := Lib.hid (fun (wx : World) => impl_isWord (s := t) (w := wx) hz)
    clear hL
    go_enter Tryd.func13, Tryd.ntmps13
    go_wp2_with fail
    refine Calls.mono (K.out _) ?_
    rintro e _ ⟨rfl, rfl⟩
    go_wp2
    go_ret
    exact ⟨by rw [H.out]; rfl, bel⟩
  by_cases k2 : k = 2
  · subst k2
    have H := Lib.hid (show tokB ⟨2, t⟩ = numB t.data.toList from rfl)
    have K := Lib.hid (fun (wx : World) (hb : Below w.heap.size w wx) => impl_isCount (s := t) (hL.keep hb) hz)
    clear hL
    go_enter Tryd.func13, Tryd.ntmps13
    go_wp2_with fail
    refine Calls.mono (K.out _ bel) ?_
    rintro e w1 ⟨rfl, hb1⟩
    go_wp2
    go_ret
    exact ⟨by rw [H.out]; rfl, by first | exact hb1 | exact below_callS (below_alloc1 (Below.refl _ _) _) hb1⟩
  clear hL
  by_cases k3 : k = 3
  · subst k3
    by_cases h : t.size = 1
    · obtain ⟨c, rfl⟩ := str_one h
      have H := Lib.hid (show tokB ⟨3, ⟨#[c]⟩⟩ = sgnP c from rfl)
      have HI := Lib.hid (show decide (0 ≤ Lib.indexByte [61, 40, 41, 44, 59] c) = sgnP c from ((Lib.contains_iff_indexByte [61, 40, 41, 44, 59] c).symm.trans (inset_sgn c)))
      go_enter Tryd.func13, Tryd.ntmps13
      go_wp2_with fail
      refine Calls.mono (Tryd.strings_Contains_one _ c _) ?_
      rintro e w1 ⟨rfl, rfl⟩
      go_wp2
      go_ret
      exact ⟨by rw [H.out, ← HI.out]; rfl, bel⟩
    · have H := Lib.hid (show tokB ⟨3, t⟩ = false from sg1_not h)
      have h' : ((t.size : Int) == 1) = false := by rw [beq_eq_false_iff_ne]; omega
      go_enter Tryd.func13, Tryd.ntmps13
      go_wp2
      go_ret
      exact ⟨by rw [H.out]; rfl, bel⟩
  have H := Lib.hid (show tokB ⟨k, t⟩ = false by simp only [tokB, if_neg k1, if_neg k2, if_neg k3])
  go_enter Tryd.func13, Tryd.ntmps13
  go_wp2
  go_ret
  exact ⟨by rw [H.out]; rfl, bel⟩
end Go.Proofs.YtjneodmohkpckaaDoor
