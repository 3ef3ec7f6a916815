/- Models: variables, states and tests, walked. -/
import Derived.Test.YtfhogleillgcgaaL01
import Derived.Test.YtfhogleillgcgaaEx
import Derived.Test.YtfhogleillgcgaaFl
import Derived.Test.YtfhogleillgcgaaSl
namespace Go.Proofs.Ytfhogleillgcgaa
open Go.RowKit
set_option linter.unusedVariables false
set_option linter.unusedSimpArgs false
/-- a rule and a model as they are meant -/
structure RuD where
  nm : ByteArray
  g : List I2b
  e : List I2
structure MoD where
  sz : List Int
  st : List Int
  ru : List RuD
/-- a rule as it lies in memory -/
structure RM where
  nm : ByteArray
  ga : Option Addr
  gn : Nat
  gc : Nat
  ea : Option Addr
  en : Nat
  ec : Nat
def RM.enc (r : RM) : List Value := [.string r.nm, .slice r.ga r.gn r.gc, .slice r.ea r.en r.ec]
def hasB (sz : List Int) (v x : Int) : Bool := inB v 0 ((sz.length : Int) - 1) && inB x 0 (sz.getD v.toNat 0 - 1)
theorem hasB_no {sz : List Int} {v x : Int} (h : inB v 0 ((sz.length : Int) - 1) = false) : hasB sz v x = false := by rw [hasB, h]; rfl
theorem hasB_yes {sz : List Int} {v : Nat} {x z : Int} (hz : sz[v]? = some z) : hasB sz (v : Int) x = inB x 0 (z - 1) := by
  have h1 : v < sz.length := (List.getElem?_eq_some_iff.1 hz).1
  have h2 : inB (v : Int) 0 ((sz.length : Int) - 1) = true := by simp [inB]; omega
  rw [hasB, h2, Int.toNat_natCast, List.getD_eq_getElem?_getD, hz]; rfl
theorem allIn_at {lo hi : Int} {l : List Int} {k : Nat} {z : Int} (h : allIn lo hi l = true) (hz : l[k]? = some z) : lo ≤ z ∧ z ≤ hi := by
  have := List.all_eq_true.1 h z (List.mem_of_getElem? hz)
  simpa [inB] using this
set_option maxHeartbeats 1000000 in
theorem impl_has {v x : Int} {sa ta ra : Option Addr} {sn sc tn tc rn rc : Nat} {sz : List Int} {w : World} (hI : Ints w sa sn sc sz) (hn : sn ≤ 1048576) (hs : allIn 1 32 sz = true) :
    Calls Try.prog 73 #[.agg #[.slice sa sn sc, .slice ta tn tc, .slice ra rn rc], .int .i64 v, .int .i64 x] w fun e w' => e = .returned (.bool (hasB sz v x)) ∧ Below w.heap.size w w' := by
  have hl := hI.len
  have e1 : IntKind.i64.wrap ((sn : Int) - 1) = (sn : Int) - 1 := IntWalk.i64_in _ (by omega)
  cases hv : inB v 0 ((sn : Int) - 1)
  · have HB := Lib.hid (hasB_no (x := x) (show inB v 0 ((sz.length : Int) - 1) = false by rw [hl]; exact hv))
    have HV := Lib.hid hv
    clear hv hI hl
    go_enter Try.func73, Try.ntmps73
    go_wp2_with fail
    refine Calls.mono (impl_length_i64) ?_
    rintro e _ ⟨rfl, rfl⟩
    go_wp2_with fail
    refine Calls.mono (impl_within) ?_
    rintro e _ ⟨rfl, rfl⟩
    rw [HV.out]
    go_wp2
    go_ret
    exact ⟨ret_bool HB.out.symm, by repeat (first | exact Below.refl _ _ | assumption | refine below_allocS ?_ _ | refine below_callS ?_ (by assumption) | (refine Below.alloc ?_ (by first | omega | (simp; done) | (simp; omega)) _) | (refine Below.setCell ?_ (by first | omega | (simp; done) | (simp; omega)) _) | refine Below.drew ?_ | refine below_drewN ?_ _ | (refine below_call ?_ (by assumption) (by first | omega | (simp; done) | (simp; omega))) | (refine Below.trans ?_ (by assumption)))⟩
  · have HV := Lib.hid hv
    have hv2 := hv
    simp [inB] at hv2
    obtain ⟨q, rfl⟩ := Int.eq_ofNat_of_zero_le hv2.1
    obtain ⟨b, off, z, rfl, hb, hz, hcell, hwf⟩ := hI.at (k := q) (by omega)
    have HB := Lib.hid (hasB_yes (x := x) hz)
    have hq0 : (0 : Int) ≤ (q : Int) := by omega
    have hq1 : (q : Int) < (sn : Int) := by omega
    have hz12 := allIn_at hs hz
    have hz1 := hz12.1
    have hz2 := hz12.2
    have e2 : IntKind.i64.wrap (z - 1) = z - 1 := IntWalk.i64_in _ (by omega)
    clear hv hI hl hz hs hz12
    go_enter Try.func73, Try.ntmps73
    go_wp2_with fail
    refine Calls.mono (impl_length_i64) ?_
    rintro e _ ⟨rfl, rfl⟩
    go_wp2_with fail
    refine Calls.mono (impl_within) ?_
    rintro e _ ⟨rfl, rfl⟩
    rw [HV.out]
    go_wp2_with fail
    refine Calls.mono (impl_within) ?_
    rintro e _ ⟨rfl, rfl⟩
    go_wp2
    go_ret
    exact ⟨ret_bool HB.out.symm, by repeat (first | exact Below.refl _ _ | assumption | refine below_allocS ?_ _ | refine below_callS ?_ (by assumption) | (refine Below.alloc ?_ (by first | omega | (simp; done) | (simp; omega)) _) | (refine Below.setCell ?_ (by first | omega | (simp; done) | (simp; omega)) _) | refine Below.drew ?_ | refine below_drewN ?_ _ | (refine below_call ?_ (by assumption) (by first | omega | (simp; done) | (simp; omega))) | (refine Below.trans ?_ (by assumption)))⟩
set_option maxHeartbeats 1000000 in
theorem spec_l20Has {v x : Int} {sa ta ra : Option Addr} {sn sc tn tc rn rc : Nat} {sz : List Int} {w : World} (hI : Ints w sa sn sc sz) (hn : sn ≤ 1048576) (hs : allIn 1 32 sz = true) :
    Calls Try.prog 76 #[.agg #[.slice sa sn sc, .slice ta tn tc, .slice ra rn rc], .int .i64 v, .int .i64 x] w fun e w' => e = .returned (.bool (hasB sz v x)) ∧ Below w.heap.size w w' := by
  have hl := hI.len
  have e1 : IntKind.i64.wrap ((sn : Int) - 1) = (sn : Int) - 1 := IntWalk.i64_in _ (by omega)
  cases hv : inB v 0 ((sn : Int) - 1)
  · have HB := Lib.hid (hasB_no (x := x) (show inB v 0 ((sz.length : Int) - 1) = false by rw [hl]; exact hv))
    have HV := Lib.hid hv
    clear hv hI hl
    go_enter Try.func76, Try.ntmps76
    go_wp2_with fail
    refine Calls.mono (spec_l01In) ?_
    rintro e _ ⟨rfl, rfl⟩
    rw [HV.out]
    go_wp2
    go_ret
    exact ⟨ret_bool HB.out.symm, by repeat (first | exact Below.refl _ _ | assumption | refine below_allocS ?_ _ | refine below_callS ?_ (by assumption) | (refine Below.alloc ?_ (by first | omega | (simp; done) | (simp; omega)) _) | (refine Below.setCell ?_ (by first | omega | (simp; done) | (simp; omega)) _) | refine Below.drew ?_ | refine below_drewN ?_ _ | (refine below_call ?_ (by assumption) (by first | omega | (simp; done) | (simp; omega))) | (refine Below.trans ?_ (by assumption)))⟩
  · have HV := Lib.hid hv
    have hv2 := hv
    simp [inB] at hv2
    obtain ⟨q, rfl⟩ := Int.eq_ofNat_of_zero_le hv2.1
    obtain ⟨b, off, z, rfl, hb, hz, hcell, hwf⟩ := hI.at (k := q) (by omega)
    have HB := Lib.hid (hasB_yes (x := x) hz)
    have hq0 : (0 : Int) ≤ (q : Int) := by omega
    have hq1 : (q : Int) < (sn : Int) := by omega
    have hz12 := allIn_at hs hz
    have hz1 := hz12.1
    have hz2 := hz12.2
    have e2 : IntKind.i64.wrap (z - 1) = z - 1 := IntWalk.i64_in _ (by omega)
    clear hv hI hl hz hs hz12
    go_enter Try.func76, Try.ntmps76
    go_wp2_with fail
    refine Calls.mono (spec_l01In) ?_
    rintro e _ ⟨rfl, rfl⟩
    rw [HV.out]
    go_wp2_with fail
    refine Calls.mono (spec_l01In) ?_
    rintro e _ ⟨rfl, rfl⟩
    go_wp2
    go_ret
    exact ⟨ret_bool HB.out.symm, by repeat (first | exact Below.refl _ _ | assumption | refine below_allocS ?_ _ | refine below_callS ?_ (by assumption) | (refine Below.alloc ?_ (by first | omega | (simp; done) | (simp; omega)) _) | (refine Below.setCell ?_ (by first | omega | (simp; done) | (simp; omega)) _) | refine Below.drew ?_ | refine below_drewN ?_ _ | (refine below_call ?_ (by assumption) (by first | omega | (simp; done) | (simp; omega))) | (refine Below.trans ?_ (by assumption)))⟩
end Go.Proofs.Ytfhogleillgcgaa
