/- Rules and models of the exact laws: the size of a model. -/
import Derived.Test.YtfhogleillgcgaaMe
namespace Go.Proofs.Ytfhogleillgcgaa
open Go.RowKit
set_option linter.unusedVariables false
set_option linter.unusedSimpArgs false
theorem laws_szInt64S {a : Option Addr} {n c : Nat} {m : Int} {w : World} (hn : (n : Int) ≤ 9223372036854775807) (hm : 0 ≤ m) (hm' : m ≤ 1048576) : Calls Try.prog 27 #[.slice a n c, .int .i64 m] w fun e w' => e = .returned (.int .i64 (if m < n then -1 else m - n)) ∧ w = w' := by
  by_cases h : m < (n : Int)
  · rw [if_pos h]
    have h' : m - (n : Int) < 0 := by omega
    go_enter Try.func27, Try.ntmps27
    go_wp2
    go_ret
    exact ⟨rfl, rfl⟩
  · rw [if_neg h]
    have h' : ¬ m - (n : Int) < 0 := by omega
    go_enter Try.func27, Try.ntmps27
    go_wp2
    go_ret
    exact ⟨rfl, rfl⟩
set_option maxHeartbeats 1000000 in
theorem laws_szModel {sa ta ra : Option Addr} {sn sc tn tc rn rc : Nat} {l : List (RM × RuD)} {m : Int} {w : World} (hR : FX w w ra rn rc l) (hs : (sn : Int) ≤ 9223372036854775807) (ht : (tn : Int) ≤ 9223372036854775807) (hr : (rn : Int) ≤ 9223372036854775807) (hm : 0 ≤ m) (hm' : m ≤ 1048576) :
    Calls Try.prog 7 #[.agg #[.slice sa sn sc, .slice ta tn tc, .slice ra rn rc], .int .i64 m] w fun e w' => e = .returned (.int .i64 (szN m (sn + tn + (rn + need l)))) ∧ Below w.heap.size w w' := by
  have k1 := fun (wx : World) => laws_szInt64S (a := sa) (n := sn) (c := sc) (m := m) (w := wx) hs hm hm'
  by_cases h1 : m < (sn : Int)
  · have HR := Lib.hid (szN_lt (m := m) (x := sn + tn + (rn + need l)) (by omega))
    simp only [if_pos h1] at k1
    have K1 := Lib.hid k1
    clear k1 hR
    go_enter Try.func7, Try.ntmps7
    go_wp2_with fail
    go_wp2_with fail
    refine Calls.mono ((K1.out _)) ?_
    rintro e _ ⟨rfl, rfl⟩
    go_wp2
    go_ret
    exact ⟨ret_int HR.out.symm, by repeat (first | exact Below.refl _ _ | assumption | refine below_allocS ?_ _ | refine below_callS ?_ (by assumption) | (refine Below.alloc ?_ (by first | omega | (simp; done) | (simp; omega)) _) | (refine Below.setCell ?_ (by first | omega | (simp; done) | (simp; omega)) _) | refine Below.drew ?_ | refine below_drewN ?_ _ | (refine below_call ?_ (by assumption) (by first | omega | (simp; done) | (simp; omega))) | (refine Below.trans ?_ (by assumption)))⟩
  · simp only [if_neg h1] at k1
    have K1 := Lib.hid k1
    have h1' : ¬ m - (sn : Int) < 0 := by omega
    have k2 := fun (wx : World) => laws_szInt64S (a := ta) (n := tn) (c := tc) (m := m - sn) (w := wx) ht (by omega) (by omega)
    clear k1
    by_cases h2 : m - (sn : Int) < (tn : Int)
    · have HR := Lib.hid (szN_lt (m := m) (x := sn + tn + (rn + need l)) (by omega))
      simp only [if_pos h2] at k2
      have K2 := Lib.hid k2
      clear k2 hR
      go_enter Try.func7, Try.ntmps7
      go_wp2_with fail
      go_wp2_with fail
      refine Calls.mono ((K1.out _)) ?_
      rintro e _ ⟨rfl, rfl⟩
      go_wp2_with fail
      go_wp2_with fail
      refine Calls.mono ((K2.out _)) ?_
      rintro e _ ⟨rfl, rfl⟩
      go_wp2
      go_ret
      exact ⟨ret_int HR.out.symm, by repeat (first | exact Below.refl _ _ | assumption | refine below_allocS ?_ _ | refine below_callS ?_ (by assumption) | (refine Below.alloc ?_ (by first | omega | (simp; done) | (simp; omega)) _) | (refine Below.setCell ?_ (by first | omega | (simp; done) | (simp; omega)) _) | refine Below.drew ?_ | refine below_drewN ?_ _ | (refine below_call ?_ (by assumption) (by first | omega | (simp; done) | (simp; omega))) | (refine Below.trans ?_ (by assumption)))⟩
    · simp only [if_neg h2] at k2
      have K2 := Lib.hid k2
      have h2' : ¬ m - (sn : Int) - (tn : Int) < 0 := by omega
      have hFX := hR.keep ((Below.refl _ _).alloc (Nat.le_refl _) (.cells #[.slice sa sn sc, .slice ta tn tc, .slice ra rn rc] 25))
      have hFX2 : FX (w.alloc (.cells #[.slice sa sn sc, .slice ta tn tc, .slice ra rn rc] 25)) (w.alloc (.cells #[.slice sa sn sc, .slice ta tn tc, .slice ra rn rc] 25)) ra rn rc l := by
        refine ⟨hFX.len, hFX.cap, hFX.pos, fun x hx => ?_, hFX.nil⟩
        obtain ⟨q1, q2, q3, q4, q5, q6⟩ := hFX.wf x hx
        exact ⟨q1, q2, q3.keep ((Below.refl _ _).alloc (Nat.le_refl _) _), q4, q5.keep ((Below.refl _ _).alloc (Nat.le_refl _) _), q6⟩
      have k3 := laws_szRuleS (m := m - sn - tn) hFX2 hr (by omega) (by omega)
      have HR := Lib.hid (show szN m (sn + tn + (rn + need l)) = szN (m - sn - tn) (rn + need l) by unfold szN; split <;> split <;> omega)
      have hneg : szN (m - sn - tn) (rn + need l) < 0 ∨ ¬ szN (m - sn - tn) (rn + need l) < 0 := by omega
      have hneg2 : szN (m - sn - tn) (rn + need l) < 0 → szN (m - sn - tn) (rn + need l) = -1 := by unfold szN; split <;> omega
      generalize szN (m - sn - tn) (rn + need l) = q at *
      have K3 := Lib.hid k3
      clear k2 k3 hR hFX hFX2
      rcases hneg with hq | hq
      · obtain rfl := hneg2 hq
        clear hneg2 hq
        go_enter Try.func7, Try.ntmps7
        go_wp2_with fail
        go_wp2_with fail
        refine Calls.mono ((K1.out _)) ?_
        rintro e _ ⟨rfl, rfl⟩
        go_wp2_with fail
        go_wp2_with fail
        refine Calls.mono ((K2.out _)) ?_
        rintro e _ ⟨rfl, rfl⟩
        go_wp2_with fail
        refine Calls.mono K3.out ?_
        rintro e w1 ⟨rfl, hb1⟩
        go_wp2
        go_ret
        exact ⟨ret_int HR.out.symm, by repeat (first | exact Below.refl _ _ | assumption | refine below_allocS ?_ _ | refine below_callS ?_ (by assumption) | (refine Below.alloc ?_ (by first | omega | (simp; done) | (simp; omega)) _) | (refine Below.setCell ?_ (by first | omega | (simp; done) | (simp; omega)) _) | refine Below.drew ?_ | refine below_drewN ?_ _ | (refine below_call ?_ (by assumption) (by first | omega | (simp; done) | (simp; omega))) | (refine Below.trans ?_ (by assumption)))⟩
      · clear hneg2
        go_enter Try.func7, Try.ntmps7
        go_wp2_with fail
        go_wp2_with fail
        refine Calls.mono ((K1.out _)) ?_
        rintro e _ ⟨rfl, rfl⟩
        go_wp2_with fail
        go_wp2_with fail
        refine Calls.mono ((K2.out _)) ?_
        rintro e _ ⟨rfl, rfl⟩
        go_wp2_with fail
        refine Calls.mono K3.out ?_
        rintro e w1 ⟨rfl, hb1⟩
        go_wp2
        go_ret
        exact ⟨ret_int HR.out.symm, by repeat (first | exact Below.refl _ _ | assumption | refine below_allocS ?_ _ | refine below_callS ?_ (by assumption) | (refine Below.alloc ?_ (by first | omega | (simp; done) | (simp; omega)) _) | (refine Below.setCell ?_ (by first | omega | (simp; done) | (simp; omega)) _) | refine Below.drew ?_ | refine below_drewN ?_ _ | (refine below_call ?_ (by assumption) (by first | omega | (simp; done) | (simp; omega))) | (refine Below.trans ?_ (by assumption)))⟩
end Go.Proofs.Ytfhogleillgcgaa
