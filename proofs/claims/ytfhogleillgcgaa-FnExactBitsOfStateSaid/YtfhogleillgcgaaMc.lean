/- Rules and models of the exact laws: sizes. -/
import Derived.Test.YtfhogleillgcgaaFl
namespace Go.Proofs.Ytfhogleillgcgaa
open Go.RowKit
set_option linter.unusedVariables false
set_option linter.unusedSimpArgs false
def szN (m : Int) (x : Nat) : Int := if m < (x : Int) then -1 else m - x
theorem szN_lt {m : Int} {x : Nat} (h : m < (x : Int)) : szN m x = -1 := if_pos h
theorem szN_ge {m : Int} {x : Nat} (h : ¬ m < (x : Int)) : szN m x = m - x := if_neg h
set_option maxHeartbeats 1000000 in
theorem laws_szRule {nm : ByteArray} {ga ea : Option Addr} {gn gc en ec : Nat} {m : Int} {w : World} (hs : nm.size ≤ maxLen) (hg : (gn : Int) ≤ 9223372036854775807) (he : (en : Int) ≤ 9223372036854775807) (hm : 0 ≤ m) (hm' : m ≤ 1048576) :
    Calls Try.prog 52 #[.agg #[.string nm, .slice ga gn gc, .slice ea en ec], .int .i64 m] w fun e w' => e = .returned (.int .i64 (szN m (nm.size + gn + en))) ∧ Below w.heap.size w w' := by
  have hs' : (nm.size : Int) ≤ 9223372036854775807 := by have : nm.size ≤ 9223372036854775807 := hs; omega
  by_cases h1 : m < (nm.size : Int)
  · have h1' : m - (nm.size : Int) < 0 := by omega
    have HR := Lib.hid (szN_lt (m := m) (x := nm.size + gn + en) (by omega))
    go_enter Try.func52, Try.ntmps52
    go_wp2
    go_ret
    exact ⟨ret_int HR.out.symm, by repeat (first | exact Below.refl _ _ | assumption | refine below_allocS ?_ _ | refine below_callS ?_ (by assumption) | (refine Below.alloc ?_ (by first | omega | (simp; done) | (simp; omega)) _) | (refine Below.setCell ?_ (by first | omega | (simp; done) | (simp; omega)) _) | refine Below.drew ?_ | refine below_drewN ?_ _ | (refine below_call ?_ (by assumption) (by first | omega | (simp; done) | (simp; omega))) | (refine Below.trans ?_ (by assumption)))⟩
  · have h1' : ¬ m - (nm.size : Int) < 0 := by omega
    have k1 := fun (wx : World) => laws_szTestS (a := ga) (n := gn) (c := gc) (m := m - nm.size) (w := wx) hg (by omega) (by omega)
    by_cases h2 : m - (nm.size : Int) < (gn : Int)
    · have HR := Lib.hid (szN_lt (m := m) (x := nm.size + gn + en) (by omega))
      simp only [if_pos h2] at k1
      have K1 := Lib.hid k1
      clear k1
      go_enter Try.func52, Try.ntmps52
      go_wp2_with fail
      go_wp2_with fail
      refine Calls.mono ((K1.out _)) ?_
      rintro e _ ⟨rfl, rfl⟩
      go_wp2
      go_ret
      exact ⟨ret_int HR.out.symm, by repeat (first | exact Below.refl _ _ | assumption | refine below_allocS ?_ _ | refine below_callS ?_ (by assumption) | (refine Below.alloc ?_ (by first | omega | (simp; done) | (simp; omega)) _) | (refine Below.setCell ?_ (by first | omega | (simp; done) | (simp; omega)) _) | refine Below.drew ?_ | refine below_drewN ?_ _ | (refine below_call ?_ (by assumption) (by first | omega | (simp; done) | (simp; omega))) | (refine Below.trans ?_ (by assumption)))⟩
    · simp only [if_neg h2] at k1
      have K1 := Lib.hid k1
      have h2' : ¬ m - (nm.size : Int) - (gn : Int) < 0 := by omega
      have k2 := fun (wx : World) => laws_szAssignS (a := ea) (n := en) (c := ec) (m := m - nm.size - gn) (w := wx) he (by omega) (by omega)
      clear k1
      by_cases h3 : m - (nm.size : Int) - (gn : Int) < (en : Int)
      · have HR := Lib.hid (szN_lt (m := m) (x := nm.size + gn + en) (by omega))
        simp only [if_pos h3] at k2
        have K2 := Lib.hid k2
        clear k2
        go_enter Try.func52, Try.ntmps52
        go_wp2_with fail
        go_wp2_with fail
        refine Calls.mono ((K1.out _)) ?_
        rintro e _ ⟨rfl, rfl⟩
        go_wp2_with fail
        go_wp2_with fail
        refine Calls.mono ((K2.out _)) ?_
        rintro e _ ⟨rfl, rfl⟩
        go_wp2
        go_ret
        exact ⟨ret_int HR.out.symm, by repeat (first | exact Below.refl _ _ | assumption | refine below_allocS ?_ _ | refine below_callS ?_ (by assumption) | (refine Below.alloc ?_ (by first | omega | (simp; done) | (simp; omega)) _) | (refine Below.setCell ?_ (by first | omega | (simp; done) | (simp; omega)) _) | refine Below.drew ?_ | refine below_drewN ?_ _ | (refine below_call ?_ (by assumption) (by first | omega | (simp; done) | (simp; omega))) | (refine Below.trans ?_ (by assumption)))⟩
      · have HR := Lib.hid ((szN_ge (m := m) (x := nm.size + gn + en) (by omega)).trans (show m - ((nm.size + gn + en : Nat) : Int) = m - nm.size - gn - en by omega))
        have h3' : ¬ m - (nm.size : Int) - (gn : Int) - (en : Int) < 0 := by omega
        simp only [if_neg h3] at k2
        have K2 := Lib.hid k2
        clear k2
        go_enter Try.func52, Try.ntmps52
        go_wp2_with fail
        go_wp2_with fail
        refine Calls.mono ((K1.out _)) ?_
        rintro e _ ⟨rfl, rfl⟩
        go_wp2_with fail
        go_wp2_with fail
        refine Calls.mono ((K2.out _)) ?_
        rintro e _ ⟨rfl, rfl⟩
        go_wp2
        go_ret
        exact ⟨ret_int HR.out.symm, by repeat (first | exact Below.refl _ _ | assumption | refine below_allocS ?_ _ | refine below_callS ?_ (by assumption) | (refine Below.alloc ?_ (by first | omega | (simp; done) | (simp; omega)) _) | (refine Below.setCell ?_ (by first | omega | (simp; done) | (simp; omega)) _) | refine Below.drew ?_ | refine below_drewN ?_ _ | (refine below_call ?_ (by assumption) (by first | omega | (simp; done) | (simp; omega))) | (refine Below.trans ?_ (by assumption)))⟩
end Go.Proofs.Ytfhogleillgcgaa
