/- Draws of layer 27, walked: from the code; the law of names. -/
import Derived.Test.YtoaccicfmfiemaaDoorD27
import Derived.Test.YtoaccicfmfiemaaDoorX27
import Derived.Test.YtoaccicfmfiemaaDoorBg
namespace Go.Proofs.YtoaccicfmfiemaaDoor
open Go.RowKit
set_option linter.unusedVariables false
set_option linter.unusedSimpArgs false
theorem modeStr_size (m : Int) : (modeStr m).size ≤ 1000000 := by
  unfold modeStr
  split
  · rename_i h
    rcases mode_cases h with rfl | rfl | rfl | rfl | rfl | rfl <;> decide
  · decide
theorem named_of (m : Int) : namedB (modeStr m) = (!(modeStr m).toList.isEmpty) ∧ (namedB (modeStr m) = true → namedI (modeStr m) = m) := by
  cases h : inB m 0 5
  · have e : modeStr m = ByteArray.empty := by rw [modeStr, h]; rfl
    rw [e]; exact ⟨by decide +kernel, fun h => absurd h (by decide +kernel)⟩
  · rcases mode_cases h with rfl | rfl | rfl | rfl | rfl | rfl <;> decide +kernel
set_option maxHeartbeats 1000000 in
theorem spec_DrawModeName {a : Option Addr} {n c : Nat} {w : World} (hB : Byts w a n c) (hn : n ≤ 4096) :
    Calls Tryd.prog 8 #[.slice a n c] w fun e w' => ∃ r, e = .returned (.int .i64 r) ∧ I64 r ∧ Below w.heap.size w w' := by
  have HB := Lib.hid hB
  clear hB
  go_enter Tryd.func8, Tryd.ntmps8
  go_wp2_with fail
  refine Calls.mono (dw_l01From HB.out (Below.refl _ _) hn) ?_
  rintro e w1 ⟨b, rfl, hb1, hlo, hd⟩
  have HD := Lib.hid hd
  clear hd
  go_wp2_with fail
  refine Calls.mono (spec_l27DrawMode HD.out) ?_
  rintro e w2 ⟨r, rfl, hr, hd⟩
  replace HD := Lib.hid (HD.out.trans hd)
  clear hd
  go_wp2
  go_ret
  exact ⟨_, rfl, hr, HD.out.fin hb1 hlo⟩
set_option maxHeartbeats 1000000 in
theorem spec_DrawModeNamed {a : Option Addr} {n c : Nat} {w : World} (hB : Byts w a n c) (hn : n ≤ 4096) :
    Calls Tryd.prog 11 #[.slice a n c] w fun e w' => ∃ r : ByteArray, e = .returned (.string r) ∧ Below w.heap.size w w' := by
  have HB := Lib.hid hB
  clear hB
  go_enter Tryd.func11, Tryd.ntmps11
  go_wp2_with fail
  refine Calls.mono (dw_l01From HB.out (Below.refl _ _) hn) ?_
  rintro e w1 ⟨b, rfl, hb1, hlo, hd⟩
  have HD := Lib.hid hd
  clear hd
  go_wp2_with fail
  refine Calls.mono (spec_l27DrawMode HD.out) ?_
  rintro e w2 ⟨r, rfl, hr, hd⟩
  replace HD := Lib.hid (HD.out.trans hd)
  clear hd
  have hz := modeStr_size r
  have h1 := fun (wx : World) => spec_ModeName (m := r) (w := wx)
  generalize modeStr r = s at *
  have H1 := Lib.hid h1
  clear h1
  go_wp2_with fail
  refine Calls.mono (H1.out _) ?_
  rintro e w3 ⟨rfl, hb3⟩
  replace HD := Lib.hid (HD.out.below hb3)
  clear hb3
  go_wp2_with fail
  refine Calls.mono (spec_l01Damage (s := s) HD.out hz) ?_
  rintro e w4 ⟨q, rfl, hd⟩
  replace HD := Lib.hid (HD.out.trans hd)
  clear hd
  go_wp2
  go_ret
  exact ⟨_, rfl, HD.out.fin hb1 hlo⟩
set_option maxHeartbeats 4000000 in
theorem law_FnModeNames {a : Option Addr} {n c : Nat} {w : World} (hT : Tab w 0 (strsCells modeNm)) (hB : Byts w a n c) : Calls Tryd.prog 3 #[.slice a n c] w fun e w' => e = .returned (.bool true) ∧ Below w.heap.size w w' := by
  have HB := Lib.hid hB
  have HT := Lib.hid hT
  clear hB hT
  by_cases hn : n ≤ 4096
  · go_enter Tryd.func3, Tryd.ntmps3
    go_wp2_with fail
    refine Calls.mono (laws_big_no hn) ?_
    rintro e _ ⟨rfl, rfl⟩
    go_wp2_with fail
    refine Calls.mono (spec_DrawModeName HB.out hn) ?_
    rintro e w1 ⟨m, rfl, hm, hb_w1⟩
    have hs_w1 := hb_w1.size
    have hq := named_of m
    have h1 := fun (wx : World) (hb : Below w.heap.size w wx) => impl_ModeName (m := m) (HT.out.keep hb)
    have h2 := fun (wx : World) => spec_ModeName (m := m) (w := wx)
    have h3 := fun (wx : World) (hb : Below w.heap.size w wx) => impl_ModeNamed (s := modeStr m) (HT.out.keep hb)
    generalize modeStr m = t at *
    generalize namedB t = B at *
    generalize namedI t = I at *
    have H1 := Lib.hid h1
    have H2 := Lib.hid h2
    have H3 := Lib.hid h3
    have HQ := Lib.hid hq
    clear h1 h2 h3 hq
    go_wp2_with fail
    refine Calls.mono (H1.out _ (by repeat (first | exact Below.refl _ _ | assumption | refine below_allocS ?_ _ | refine below_callS ?_ (by assumption) | (refine Below.alloc ?_ (by first | omega | (simp; done) | (simp; omega)) _) | (refine Below.setCell ?_ (by first | omega | (simp; done) | (simp; omega)) _) | refine Below.drew ?_ | refine below_drewN ?_ _ | (refine below_call ?_ (by assumption) (by first | omega | (simp; done) | (simp; omega))) | (refine Below.trans ?_ (by assumption))))) ?_
    rintro e _ ⟨rfl, rfl⟩
    go_wp2_with fail
    refine Calls.mono (H3.out _ (by repeat (first | exact Below.refl _ _ | assumption | refine below_allocS ?_ _ | refine below_callS ?_ (by assumption) | (refine Below.alloc ?_ (by first | omega | (simp; done) | (simp; omega)) _) | (refine Below.setCell ?_ (by first | omega | (simp; done) | (simp; omega)) _) | refine Below.drew ?_ | refine below_drewN ?_ _ | (refine below_call ?_ (by assumption) (by first | omega | (simp; done) | (simp; omega))) | (refine Below.trans ?_ (by assumption))))) ?_
    rintro e _ ⟨rfl, rfl⟩
    go_wp2_with fail
    refine Calls.mono (spec_DrawModeNamed (HB.out.keep (by repeat (first | exact Below.refl _ _ | assumption | refine below_allocS ?_ _ | refine below_callS ?_ (by assumption) | (refine Below.alloc ?_ (by first | omega | (simp; done) | (simp; omega)) _) | (refine Below.setCell ?_ (by first | omega | (simp; done) | (simp; omega)) _) | refine Below.drew ?_ | refine below_drewN ?_ _ | (refine below_call ?_ (by assumption) (by first | omega | (simp; done) | (simp; omega))) | (refine Below.trans ?_ (by assumption))))) hn) ?_
    rintro e w2 ⟨s, rfl, hb_w2⟩
    have hs_w2 := hb_w2.size
    have h1 := fun (wx : World) => spec_ModeNamed (s := s) (w := wx)
    have h2 := fun (wx : World) (hb : Below w.heap.size w wx) => impl_ModeNamed (s := s) (HT.out.keep hb)
    generalize namedI s = i at *
    generalize namedB s = b at *
    have H4 := Lib.hid h1
    have H5 := Lib.hid h2
    clear h1 h2
    go_wp2_with fail
    refine Calls.mono (H5.out _ (by repeat (first | exact Below.refl _ _ | assumption | refine below_allocS ?_ _ | refine below_callS ?_ (by assumption) | (refine Below.alloc ?_ (by first | omega | (simp; done) | (simp; omega)) _) | (refine Below.setCell ?_ (by first | omega | (simp; done) | (simp; omega)) _) | refine Below.drew ?_ | refine below_drewN ?_ _ | (refine below_call ?_ (by assumption) (by first | omega | (simp; done) | (simp; omega))) | (refine Below.trans ?_ (by assumption))))) ?_
    rintro e _ ⟨rfl, rfl⟩
    go_wp2_with fail
    refine Calls.mono (H4.out _) ?_
    rintro e w3 ⟨rfl, hb_w3⟩
    obtain ⟨hc_w3, hf_w3⟩ := bcell hb_w3
    have hs_w3 := hb_w3.size
    go_wp2_with fail
    refine Calls.mono (H2.out _) ?_
    rintro e w4 ⟨rfl, hb_w4⟩
    obtain ⟨hc_w4, hf_w4⟩ := bcell hb_w4
    have hs_w4 := hb_w4.size
    obtain ⟨e1, e2⟩ := HQ.out
    have s1 : (t.toList == t.toList) = true := by simp
    have s2 : (i == i) = true := by simp
    have s3 : (b == b) = true := by simp
    clear HQ
    cases B
    · have e3 : t.toList.isEmpty = true := by simpa using e1.symm
      have e4 : t.toList = [] := by simpa using e3
      clear e1 e2
      go_wp2
      go_ret
      exact ⟨ret_bool (by simp [*]), by repeat (first | exact Below.refl _ _ | assumption | refine below_allocS ?_ _ | refine below_callS ?_ (by assumption) | (refine Below.alloc ?_ (by first | omega | (simp; done) | (simp; omega)) _) | (refine Below.setCell ?_ (by first | omega | (simp; done) | (simp; omega)) _) | refine Below.drew ?_ | refine below_drewN ?_ _ | (refine below_call ?_ (by assumption) (by first | omega | (simp; done) | (simp; omega))) | (refine Below.trans ?_ (by assumption)))⟩
    · have e3 : t.toList.isEmpty = false := by simpa using e1.symm
      have e5 := e2 rfl
      subst e5
      have s4 : (I == I) = true := by simp
      clear e1 e2
      go_wp2
      go_ret
      exact ⟨ret_bool (by simp [*]), by repeat (first | exact Below.refl _ _ | assumption | refine below_allocS ?_ _ | refine below_callS ?_ (by assumption) | (refine Below.alloc ?_ (by first | omega | (simp; done) | (simp; omega)) _) | (refine Below.setCell ?_ (by first | omega | (simp; done) | (simp; omega)) _) | refine Below.drew ?_ | refine below_drewN ?_ _ | (refine below_call ?_ (by assumption) (by first | omega | (simp; done) | (simp; omega))) | (refine Below.trans ?_ (by assumption)))⟩
  · go_enter Tryd.func3, Tryd.ntmps3
    go_wp2_with fail
    refine Calls.mono (laws_big_yes hn) ?_
    rintro e _ ⟨rfl, rfl⟩
    go_wp2
    go_ret
    exact ⟨rfl, by repeat (first | exact Below.refl _ _ | assumption | refine below_allocS ?_ _ | refine below_callS ?_ (by assumption) | (refine Below.alloc ?_ (by first | omega | (simp; done) | (simp; omega)) _) | (refine Below.setCell ?_ (by first | omega | (simp; done) | (simp; omega)) _) | refine Below.drew ?_ | refine below_drewN ?_ _ | (refine below_call ?_ (by assumption) (by first | omega | (simp; done) | (simp; omega))) | (refine Below.trans ?_ (by assumption)))⟩
end Go.Proofs.YtoaccicfmfiemaaDoor
