/- The law of seatings. -/
import Derived.Test.YtijdcacplibmhaaL28f
namespace Go.Proofs.Ytijdcacplibmhaa
open Go.RowKit
set_option linter.unusedVariables false
set_option linter.unusedSimpArgs false
set_option maxHeartbeats 1000000 in
theorem law_IsSeating {l a m R : Int} {ad sd : Option Addr} {n c ns cs : Nat} {hs ss : List Int} {w : World} (_ : I64 l) (_ : I64 a) (_ : I64 m) (hI : Ints w ad n c hs) (_ : n ≤ maxLen) (hS : Ints w sd ns cs ss) (_ : ns ≤ maxLen) (_ : I64 R) : Calls Try.prog 8 #[.agg #[.int .i64 l, .int .i64 a, .int .i64 m], .slice ad n c, .slice sd ns cs, .int .i64 R] w fun e w' => e = .returned (.bool true) ∧ Below w.heap.size w w' := by
  by_cases hn : n ≤ 1048576
  · by_cases hns : ns ≤ 1048576
    · have HI := Lib.hid hI
      have HS := Lib.hid hS
      have h3 := fun (wx : World) (a1 a2 : Option Addr) (hX : Ints wx a1 n n hs) (hY : Ints wx a2 ns ns ss) => spec_IsSeating (l := l) (a := a) (m := m) (R := R) hX hY hn hns
      have h4 := fun (wx : World) (a1 a2 : Option Addr) (hX : Ints wx a1 n n hs) (hY : Ints wx a2 ns ns ss) => impl_IsSeating (l := l) (a := a) (m := m) (R := R) hX hY hn hns
      generalize seatB l a m hs ss R = v at *
      have H3 := Lib.hid h3
      have H4 := Lib.hid h4
      have hv : (v != v) = false := by simp
      clear hI hS h3 h4
      go_enter Try.func8, Try.ntmps8
      go_wp2_with fail
      refine Calls.mono (laws_toHeightRule) ?_
      rintro e w1 ⟨rfl, hb_w1⟩
      obtain ⟨hc_w1, hf_w1⟩ := bcell hb_w1
      have hs_w1 := hb_w1.size
      simp at hs_w1
      have hz1 : w.heap.size < w1.heap.size := by omega
      go_wp2_with fail
      refine Calls.mono (laws_toInt64S (HI.out.keep (by repeat (first | exact Below.refl _ _ | assumption | refine below_allocS ?_ _ | refine below_callS ?_ (by assumption) | (refine Below.alloc ?_ (by first | omega | (simp; done) | (simp; omega)) _) | (refine Below.setCell ?_ (by first | omega | (simp; done) | (simp; omega)) _) | refine Below.drew ?_ | refine below_drewN ?_ _ | (refine below_call ?_ (by assumption) (by first | omega | (simp; done) | (simp; omega))) | (refine Below.trans ?_ (by assumption))))) hn) ?_
      rintro e w2 ⟨rfl, hb_w2, HO2⟩
      obtain ⟨hc_w2, hf_w2⟩ := bcell hb_w2
      have hs_w2 := hb_w2.size
      have HO2 := Lib.hid HO2
      have hz2 : w.heap.size < w2.heap.size := by omega
      go_wp2_with fail
      refine Calls.mono (laws_toInt64S (HS.out.keep (by repeat (first | exact Below.refl _ _ | assumption | refine below_allocS ?_ _ | refine below_callS ?_ (by assumption) | (refine Below.alloc ?_ (by first | omega | (simp; done) | (simp; omega)) _) | (refine Below.setCell ?_ (by first | omega | (simp; done) | (simp; omega)) _) | refine Below.drew ?_ | refine below_drewN ?_ _ | (refine below_call ?_ (by assumption) (by first | omega | (simp; done) | (simp; omega))) | (refine Below.trans ?_ (by assumption))))) hns) ?_
      rintro e w2b ⟨rfl, hb_w2b, HO2b⟩
      obtain ⟨hc_w2b, hf_w2b⟩ := bcell hb_w2b
      have hs_w2b := hb_w2b.size
      have HO2b := Lib.hid HO2b
      have hz2b : w.heap.size < w2b.heap.size := by omega
      go_wp2_with fail
      refine Calls.mono (H3.out _ _ _ (HO2.out.ints.keep (by repeat (first | exact Below.refl _ _ | assumption | refine below_allocS ?_ _ | refine below_callS ?_ (by assumption) | (refine Below.alloc ?_ (by first | omega | (simp; done) | (simp; omega)) _) | (refine Below.setCell ?_ (by first | omega | (simp; done) | (simp; omega)) _) | refine Below.drew ?_ | refine below_drewN ?_ _ | (refine below_call ?_ (by assumption) (by first | omega | (simp; done) | (simp; omega))) | (refine Below.trans ?_ (by assumption))))) HO2b.out.ints) ?_
      rintro e w3 ⟨rfl, hb_w3⟩
      obtain ⟨hc_w3, hf_w3⟩ := bcell hb_w3
      have hs_w3 := hb_w3.size
      have hz3 : w.heap.size < w3.heap.size := by omega
      go_wp2_with fail
      refine Calls.mono (laws_toInt64S (HI.out.keep (by repeat (first | exact Below.refl _ _ | assumption | refine below_allocS ?_ _ | refine below_callS ?_ (by assumption) | (refine Below.alloc ?_ (by first | omega | (simp; done) | (simp; omega)) _) | (refine Below.setCell ?_ (by first | omega | (simp; done) | (simp; omega)) _) | refine Below.drew ?_ | refine below_drewN ?_ _ | (refine below_call ?_ (by assumption) (by first | omega | (simp; done) | (simp; omega))) | (refine Below.trans ?_ (by assumption))))) hn) ?_
      rintro e w4 ⟨rfl, hb_w4, HO4⟩
      obtain ⟨hc_w4, hf_w4⟩ := bcell hb_w4
      have hs_w4 := hb_w4.size
      have HO4 := Lib.hid HO4
      have hz4 : w.heap.size < w4.heap.size := by omega
      go_wp2_with fail
      refine Calls.mono (laws_toInt64S (HS.out.keep (by repeat (first | exact Below.refl _ _ | assumption | refine below_allocS ?_ _ | refine below_callS ?_ (by assumption) | (refine Below.alloc ?_ (by first | omega | (simp; done) | (simp; omega)) _) | (refine Below.setCell ?_ (by first | omega | (simp; done) | (simp; omega)) _) | refine Below.drew ?_ | refine below_drewN ?_ _ | (refine below_call ?_ (by assumption) (by first | omega | (simp; done) | (simp; omega))) | (refine Below.trans ?_ (by assumption))))) hns) ?_
      rintro e w4b ⟨rfl, hb_w4b, HO4b⟩
      obtain ⟨hc_w4b, hf_w4b⟩ := bcell hb_w4b
      have hs_w4b := hb_w4b.size
      have HO4b := Lib.hid HO4b
      have hz4b : w.heap.size < w4b.heap.size := by omega
      go_wp2_with fail
      refine Calls.mono (laws_toHeightRule) ?_
      rintro e w5 ⟨rfl, hb_w5⟩
      obtain ⟨hc_w5, hf_w5⟩ := bcell hb_w5
      have hs_w5 := hb_w5.size
      go_wp2_with fail
      refine Calls.mono (H4.out _ _ _ (HO4.out.ints.keep (by repeat (first | exact Below.refl _ _ | assumption | refine below_allocS ?_ _ | refine below_callS ?_ (by assumption) | (refine Below.alloc ?_ (by first | omega | (simp; done) | (simp; omega)) _) | (refine Below.setCell ?_ (by first | omega | (simp; done) | (simp; omega)) _) | refine Below.drew ?_ | refine below_drewN ?_ _ | (refine below_call ?_ (by assumption) (by first | omega | (simp; done) | (simp; omega))) | (refine Below.trans ?_ (by assumption))))) (HO4b.out.ints.keep (by repeat (first | exact Below.refl _ _ | assumption | refine below_allocS ?_ _ | refine below_callS ?_ (by assumption) | (refine Below.alloc ?_ (by first | omega | (simp; done) | (simp; omega)) _) | (refine Below.setCell ?_ (by first | omega | (simp; done) | (simp; omega)) _) | refine Below.drew ?_ | refine below_drewN ?_ _ | (refine below_call ?_ (by assumption) (by first | omega | (simp; done) | (simp; omega))) | (refine Below.trans ?_ (by assumption)))))) ?_
      rintro e w6 ⟨rfl, hb_w6⟩
      obtain ⟨hc_w6, hf_w6⟩ := bcell hb_w6
      have hs_w6 := hb_w6.size
      go_wp2_with fail
      refine Calls.mono (laws_toInt64S (HI.out.keep (by repeat (first | exact Below.refl _ _ | assumption | refine below_allocS ?_ _ | refine below_callS ?_ (by assumption) | (refine Below.alloc ?_ (by first | omega | (simp; done) | (simp; omega)) _) | (refine Below.setCell ?_ (by first | omega | (simp; done) | (simp; omega)) _) | refine Below.drew ?_ | refine below_drewN ?_ _ | (refine below_call ?_ (by assumption) (by first | omega | (simp; done) | (simp; omega))) | (refine Below.trans ?_ (by assumption))))) hn) ?_
      rintro e w7 ⟨rfl, hb_w7, HO7⟩
      obtain ⟨hc_w7, hf_w7⟩ := bcell hb_w7
      have hs_w7 := hb_w7.size
      have HO7 := Lib.hid HO7
      go_wp2_with fail
      refine Calls.mono (laws_eqInt64S (HO4.out.ints.keep (by repeat (first | exact Below.refl _ _ | assumption | refine below_allocS ?_ _ | refine below_callS ?_ (by assumption) | (refine Below.alloc ?_ (by first | omega | (simp; done) | (simp; omega)) _) | (refine Below.setCell ?_ (by first | omega | (simp; done) | (simp; omega)) _) | refine Below.drew ?_ | refine below_drewN ?_ _ | (refine below_call ?_ (by assumption) (by first | omega | (simp; done) | (simp; omega))) | (refine Below.trans ?_ (by assumption))))) HO7.out.ints hn hn) ?_
      rintro e w8 ⟨rfl, hb_w8⟩
      obtain ⟨hc_w8, hf_w8⟩ := bcell hb_w8
      have hs_w8 := hb_w8.size
      have ht1 : decide (hs = hs) = true := by simp
      go_wp2_with fail
      refine Calls.mono (laws_toInt64S (HS.out.keep (by repeat (first | exact Below.refl _ _ | assumption | refine below_allocS ?_ _ | refine below_callS ?_ (by assumption) | (refine Below.alloc ?_ (by first | omega | (simp; done) | (simp; omega)) _) | (refine Below.setCell ?_ (by first | omega | (simp; done) | (simp; omega)) _) | refine Below.drew ?_ | refine below_drewN ?_ _ | (refine below_call ?_ (by assumption) (by first | omega | (simp; done) | (simp; omega))) | (refine Below.trans ?_ (by assumption))))) hns) ?_
      rintro e w9 ⟨rfl, hb_w9, HO9⟩
      obtain ⟨hc_w9, hf_w9⟩ := bcell hb_w9
      have hs_w9 := hb_w9.size
      have HO9 := Lib.hid HO9
      go_wp2_with fail
      refine Calls.mono (laws_eqInt64S (HO4b.out.ints.keep (by repeat (first | exact Below.refl _ _ | assumption | refine below_allocS ?_ _ | refine below_callS ?_ (by assumption) | (refine Below.alloc ?_ (by first | omega | (simp; done) | (simp; omega)) _) | (refine Below.setCell ?_ (by first | omega | (simp; done) | (simp; omega)) _) | refine Below.drew ?_ | refine below_drewN ?_ _ | (refine below_call ?_ (by assumption) (by first | omega | (simp; done) | (simp; omega))) | (refine Below.trans ?_ (by assumption))))) HO9.out.ints hns hns) ?_
      rintro e w10 ⟨rfl, hb_w10⟩
      obtain ⟨hc_w10, hf_w10⟩ := bcell hb_w10
      have hs_w10 := hb_w10.size
      go_wp2
      go_ret
      exact ⟨rfl, by repeat (first | exact Below.refl _ _ | assumption | refine below_allocS ?_ _ | refine below_callS ?_ (by assumption) | (refine Below.alloc ?_ (by first | omega | (simp; done) | (simp; omega)) _) | (refine Below.setCell ?_ (by first | omega | (simp; done) | (simp; omega)) _) | refine Below.drew ?_ | refine below_drewN ?_ _ | (refine below_call ?_ (by assumption) (by first | omega | (simp; done) | (simp; omega))) | (refine Below.trans ?_ (by assumption)))⟩
    · go_enter Try.func8, Try.ntmps8
      go_wp2
      go_ret
      exact ⟨rfl, by repeat (first | exact Below.refl _ _ | assumption | refine below_allocS ?_ _ | refine below_callS ?_ (by assumption) | (refine Below.alloc ?_ (by first | omega | (simp; done) | (simp; omega)) _) | (refine Below.setCell ?_ (by first | omega | (simp; done) | (simp; omega)) _) | refine Below.drew ?_ | refine below_drewN ?_ _ | (refine below_call ?_ (by assumption) (by first | omega | (simp; done) | (simp; omega))) | (refine Below.trans ?_ (by assumption)))⟩
  · go_enter Try.func8, Try.ntmps8
    go_wp2
    go_ret
    exact ⟨rfl, by repeat (first | exact Below.refl _ _ | assumption | refine below_allocS ?_ _ | refine below_callS ?_ (by assumption) | (refine Below.alloc ?_ (by first | omega | (simp; done) | (simp; omega)) _) | (refine Below.setCell ?_ (by first | omega | (simp; done) | (simp; omega)) _) | refine Below.drew ?_ | refine below_drewN ?_ _ | (refine below_call ?_ (by assumption) (by first | omega | (simp; done) | (simp; omega))) | (refine Below.trans ?_ (by assumption)))⟩
end Go.Proofs.Ytijdcacplibmhaa
