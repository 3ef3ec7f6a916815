/- The law of ride safety. -/
import Derived.Test.YtfnamjkmkoldeaaGreatDoorCf
import Derived.Test.YtfnamjkmkoldeaaGreatDoorCe
import Derived.Test.YtfnamjkmkoldeaaGreatDoorD24c
import Derived.Test.YtfnamjkmkoldeaaGreatDoorBg
namespace Go.Proofs.YtfnamjkmkoldeaaGreatDoor
open Go.RowKit
set_option linter.unusedVariables false
set_option linter.unusedSimpArgs false
set_option maxHeartbeats 4000000 in
theorem law_FnRideSafe {a : Option Addr} {n c : Nat} {w : World} (hT : Tab w 0 (strsCells ruleNm)) (hB : Byts w a n c) : Calls Tryz.prog 5 #[.slice a n c] w fun e w' => e = .returned (.bool true) ∧ Below w.heap.size w w' := by
  have HB := Lib.hid hB
  have HT := Lib.hid hT
  clear hB hT
  by_cases hn : n ≤ 4096
  · go_enter Tryz.func5, Tryz.ntmps5
    go_wp2_with fail
    refine Calls.mono (laws_big_no hn) ?_
    rintro e _ ⟨rfl, rfl⟩
    go_wp2_with fail
    refine Calls.mono (spec_DrawIsRideSafe HB.out hn) ?_
    rintro e w1 ⟨B, a1, n1, c1, l, bu, sec, rfl, h1, hn1, hB1, hB9, hu1, hu2, hb_w1⟩
    have hs_w1 := hb_w1.size
    obtain ⟨B, rfl⟩ := Int.eq_ofNat_of_zero_le (show 0 ≤ B by omega)
    have HT1 := Lib.hid (HT.out.keep hb_w1)
    have k1 := fun (wx : World) (hb : Below w1.heap.size w1 wx) => impl_IsRideSafe (b := (B : Int)) (bud := bu) (sec := sec) (HT1.out.keep hb) (h1.keep hb) (by omega)
    have k2 := fun (wx : World) (hb : Below w1.heap.size w1 wx) => spec_IsRideSafe (b := (B : Int)) (bud := bu) (sec := sec) (h1.keep hb) (by omega)
    have k3 := fun (wx : World) (hb : Below w1.heap.size w1 wx) => impl_CountUnsafe (b := (B : Int)) (bud := bu) (sec := sec) (HT1.out.keep hb) (h1.keep hb) (by omega)
    have k4 := fun (wx : World) (hb : Below w1.heap.size w1 wx) => spec_CountUnsafe (b := (B : Int)) (bud := bu) (sec := sec) (h1.keep hb) (by omega)
    have hz := fun (h : rsC (B : Int) l bu sec = 0) (hs : safeN B l = true) (hok : sec = true → bu ≠ 2) => cu_zero (b := (B : Int)) h (by rw [Int.toNat_natCast]; exact hs) hok
    have ht := fun (h : rsC (B : Int) l bu sec = 0) => rsC_traf h
    have k5 := fun (ht : trafB (B : Int) l = true) (wx : World) (hb : Below w1.heap.size w1 wx) => impl_IsSafeTraffic (B := B) (h1.keep hb) ht
    generalize rsC (B : Int) l bu sec = C at *
    generalize cuN (B : Int) l bu sec = N at *
    generalize safeN B l = S at *
    generalize trafB (B : Int) l = TR at *
    have K1 := Lib.hid k1
    have K2 := Lib.hid k2
    have K3 := Lib.hid k3
    have K4 := Lib.hid k4
    have K5 := Lib.hid k5
    have HZ := Lib.hid hz
    have HTR := Lib.hid ht
    clear k1 k2 k3 k4 k5 hz ht h1
    have q1 : (C != C) = false := by simp
    have q2 : (N != N) = false := by simp
    have hzz : w1.heap.size < (w1.alloc (.cells #[.int .i64 (B : Int), .slice a1 n1 c1] 28)).heap.size := by simp
    go_wp2_with fail
    refine Calls.mono (K1.out _ (by repeat (first | exact Below.refl _ _ | assumption | refine below_allocS ?_ _ | refine below_callS ?_ (by assumption) | (refine Below.alloc ?_ (by first | omega | (simp; done) | (simp; omega)) _) | (refine Below.setCell ?_ (by first | omega | (simp; done) | (simp; omega)) _) | refine Below.drew ?_ | refine below_drewN ?_ _ | (refine below_call ?_ (by assumption) (by first | omega | (simp; done) | (simp; omega))) | (refine Below.trans ?_ (by assumption))))) ?_
    rintro e w2 ⟨rfl, hb_w2⟩
    obtain ⟨hc_w2, hf_w2⟩ := bcell hb_w2
    have hs_w2 := hb_w2.size
    simp at hs_w2
    have hz2 : w1.heap.size < w2.heap.size := by omega
    go_wp2_with fail
    refine Calls.mono (K2.out _ (by repeat (first | exact Below.refl _ _ | assumption | refine below_allocS ?_ _ | refine below_callS ?_ (by assumption) | (refine Below.alloc ?_ (by first | omega | (simp; done) | (simp; omega)) _) | (refine Below.setCell ?_ (by first | omega | (simp; done) | (simp; omega)) _) | refine Below.drew ?_ | refine below_drewN ?_ _ | (refine below_call ?_ (by assumption) (by first | omega | (simp; done) | (simp; omega))) | (refine Below.trans ?_ (by assumption))))) ?_
    rintro e w3 ⟨rfl, hb_w3⟩
    obtain ⟨hc_w3, hf_w3⟩ := bcell hb_w3
    have hs_w3 := hb_w3.size
    have hz3 : w1.heap.size < w3.heap.size := by omega
    go_wp2_with fail
    refine Calls.mono (K3.out _ (by repeat (first | exact Below.refl _ _ | assumption | refine below_allocS ?_ _ | refine below_callS ?_ (by assumption) | (refine Below.alloc ?_ (by first | omega | (simp; done) | (simp; omega)) _) | (refine Below.setCell ?_ (by first | omega | (simp; done) | (simp; omega)) _) | refine Below.drew ?_ | refine below_drewN ?_ _ | (refine below_call ?_ (by assumption) (by first | omega | (simp; done) | (simp; omega))) | (refine Below.trans ?_ (by assumption))))) ?_
    rintro e w4 ⟨rfl, hb_w4⟩
    obtain ⟨hc_w4, hf_w4⟩ := bcell hb_w4
    have hs_w4 := hb_w4.size
    have hz4 : w1.heap.size < w4.heap.size := by omega
    go_wp2_with fail
    refine Calls.mono (K4.out _ (by repeat (first | exact Below.refl _ _ | assumption | refine below_allocS ?_ _ | refine below_callS ?_ (by assumption) | (refine Below.alloc ?_ (by first | omega | (simp; done) | (simp; omega)) _) | (refine Below.setCell ?_ (by first | omega | (simp; done) | (simp; omega)) _) | refine Below.drew ?_ | refine below_drewN ?_ _ | (refine below_call ?_ (by assumption) (by first | omega | (simp; done) | (simp; omega))) | (refine Below.trans ?_ (by assumption))))) ?_
    rintro e w5 ⟨rfl, hb_w5⟩
    obtain ⟨hc_w5, hf_w5⟩ := bcell hb_w5
    have hs_w5 := hb_w5.size
    have hz5 : w1.heap.size < w5.heap.size := by omega
    by_cases hC : C = 0
    · subst hC
      have htr := HTR.out (by first | exact rfl | trivial)
      by_cases hN : N = 0
      · subst hN
        go_wp2
        go_ret
        exact ⟨rfl, by repeat (first | exact Below.refl _ _ | assumption | refine below_allocS ?_ _ | refine below_callS ?_ (by assumption) | (refine Below.alloc ?_ (by first | omega | (simp; done) | (simp; omega)) _) | (refine Below.setCell ?_ (by first | omega | (simp; done) | (simp; omega)) _) | refine Below.drew ?_ | refine below_drewN ?_ _ | (refine below_call ?_ (by assumption) (by first | omega | (simp; done) | (simp; omega))) | (refine Below.trans ?_ (by assumption)))⟩
      · have hN' : (N == 0) = false := by simpa using hN
        cases S
        · go_wp2_with fail
          refine Calls.mono (K5.out htr _ (by repeat (first | exact Below.refl _ _ | assumption | refine below_allocS ?_ _ | refine below_callS ?_ (by assumption) | (refine Below.alloc ?_ (by first | omega | (simp; done) | (simp; omega)) _) | (refine Below.setCell ?_ (by first | omega | (simp; done) | (simp; omega)) _) | refine Below.drew ?_ | refine below_drewN ?_ _ | (refine below_call ?_ (by assumption) (by first | omega | (simp; done) | (simp; omega))) | (refine Below.trans ?_ (by assumption))))) ?_
          rintro e w6 ⟨rfl, hb_w6⟩
          go_wp2
          go_ret
          exact ⟨rfl, by repeat (first | exact Below.refl _ _ | assumption | refine below_allocS ?_ _ | refine below_callS ?_ (by assumption) | (refine Below.alloc ?_ (by first | omega | (simp; done) | (simp; omega)) _) | (refine Below.setCell ?_ (by first | omega | (simp; done) | (simp; omega)) _) | refine Below.drew ?_ | refine below_drewN ?_ _ | (refine below_call ?_ (by assumption) (by first | omega | (simp; done) | (simp; omega))) | (refine Below.trans ?_ (by assumption)))⟩
        · have hsb : sec = true ∧ bu = 2 := by
            have h := HZ.out (by first | exact rfl | trivial) rfl
            cases sec
            · exact absurd (h (fun e => by cases e)) hN
            · by_cases hbu : bu = 2
              · exact ⟨rfl, hbu⟩
              · exact absurd (h (fun _ => hbu)) hN
          obtain ⟨rfl, rfl⟩ := hsb
          go_wp2_with fail
          refine Calls.mono (K5.out htr _ (by repeat (first | exact Below.refl _ _ | assumption | refine below_allocS ?_ _ | refine below_callS ?_ (by assumption) | (refine Below.alloc ?_ (by first | omega | (simp; done) | (simp; omega)) _) | (refine Below.setCell ?_ (by first | omega | (simp; done) | (simp; omega)) _) | refine Below.drew ?_ | refine below_drewN ?_ _ | (refine below_call ?_ (by assumption) (by first | omega | (simp; done) | (simp; omega))) | (refine Below.trans ?_ (by assumption))))) ?_
          rintro e w6 ⟨rfl, hb_w6⟩
          go_wp2
          go_ret
          exact ⟨rfl, by repeat (first | exact Below.refl _ _ | assumption | refine below_allocS ?_ _ | refine below_callS ?_ (by assumption) | (refine Below.alloc ?_ (by first | omega | (simp; done) | (simp; omega)) _) | (refine Below.setCell ?_ (by first | omega | (simp; done) | (simp; omega)) _) | refine Below.drew ?_ | refine below_drewN ?_ _ | (refine below_call ?_ (by assumption) (by first | omega | (simp; done) | (simp; omega))) | (refine Below.trans ?_ (by assumption)))⟩
    · have hC' : (C != 0) = true := by simpa using hC
      clear hC
      go_wp2
      go_ret
      exact ⟨rfl, by repeat (first | exact Below.refl _ _ | assumption | refine below_allocS ?_ _ | refine below_callS ?_ (by assumption) | (refine Below.alloc ?_ (by first | omega | (simp; done) | (simp; omega)) _) | (refine Below.setCell ?_ (by first | omega | (simp; done) | (simp; omega)) _) | refine Below.drew ?_ | refine below_drewN ?_ _ | (refine below_call ?_ (by assumption) (by first | omega | (simp; done) | (simp; omega))) | (refine Below.trans ?_ (by assumption)))⟩
  · go_enter Tryz.func5, Tryz.ntmps5
    go_wp2_with fail
    refine Calls.mono (laws_big_yes hn) ?_
    rintro e _ ⟨rfl, rfl⟩
    go_wp2
    go_ret
    exact ⟨rfl, by repeat (first | exact Below.refl _ _ | assumption | refine below_allocS ?_ _ | refine below_callS ?_ (by assumption) | (refine Below.alloc ?_ (by first | omega | (simp; done) | (simp; omega)) _) | (refine Below.setCell ?_ (by first | omega | (simp; done) | (simp; omega)) _) | refine Below.drew ?_ | refine below_drewN ?_ _ | (refine below_call ?_ (by assumption) (by first | omega | (simp; done) | (simp; omega))) | (refine Below.trans ?_ (by assumption)))⟩
end Go.Proofs.YtfnamjkmkoldeaaGreatDoor
