/- BitsOfState and StateOfBits by what the model means. -/
import Derived.Test.YtcnjnkjnpfpaeaaMn
import Derived.Test.YtcnjnkjnpfpaeaaL23i
namespace Go.Proofs.Ytcnjnkjnpfpaeaa
open Go.RowKit
set_option linter.unusedVariables false
set_option linter.unusedSimpArgs false
theorem bsC_rs {sz st vs : List Int} {l : List (RM × RuD)} {rs : List RuD} (h : l.map (·.2) = rs) : bsC sz st l vs = bsC sz st (rsM rs) vs := by rw [bsC, bsC, modelB_rs h]
theorem bsL_rs {sz st vs : List Int} {l : List (RM × RuD)} {rs : List RuD} (h : l.map (·.2) = rs) : bsL sz st l vs = bsL sz st (rsM rs) vs := by rw [bsL, bsL, bsC_rs h]
theorem soC_rs {sz st vs : List Int} {l : List (RM × RuD)} {rs : List RuD} (h : l.map (·.2) = rs) : soC sz st l vs = soC sz st (rsM rs) vs := by rw [soC, soC, modelB_rs h]
theorem soL_rs {sz st vs : List Int} {l : List (RM × RuD)} {rs : List RuD} (h : l.map (·.2) = rs) : soL sz st l vs = soL sz st (rsM rs) vs := by rw [soL, soL, soC_rs h]
theorem wN_5 (z : Int) : (wN z).toNat ≤ 5 := by unfold wN; omega
theorem stBits_len (sz vs : List Int) : (stBits sz vs).length ≤ 5 * vs.length := by
  rw [stBits]
  have : ∀ l : List (Int × Int), (l.flatMap fun p => bitsDn p.1 (wN p.2).toNat).length ≤ 5 * l.length := fun l => by
    induction l with
    | nil => simp
    | cons p r ih =>
      rw [List.flatMap_cons, List.length_append, bitsDn_len, List.length_cons]
      have := wN_5 p.2
      omega
  refine Nat.le_trans (this _) ?_
  have : (vs.zip sz).length ≤ vs.length := by rw [List.length_zip]; omega
  omega
theorem bsL_len (sz st : List Int) (l : List (RM × RuD)) (vs : List Int) : (bsL sz st l vs).length ≤ 80 := by
  rw [bsL]
  split
  · rename_i h
    have hm : modelB sz st l = true := by cases hm : modelB sz st l with | true => rfl | false => rw [bsC, if_pos hm] at h; cases h
    have hs : stateB sz vs = true := by cases hs : stateB sz vs with | true => rfl | false => rw [bsC, if_neg (by simp [hm]), if_pos hs] at h; cases h
    have h1 := stBits_len sz vs
    have h2 := stateB_len hs
    have h3 := modelB_len hm
    omega
  · simp
theorem soL_len (sz st : List Int) (l : List (RM × RuD)) (vs : List Int) : (soL sz st l vs).length ≤ sz.length := by
  rw [soL]
  split
  · simp [stV]
  · simp
theorem spec_BitsOfState_r {sa : Option Addr} {sn sc : Nat} {ta : Option Addr} {tn tc : Nat} {ra : Option Addr} {rn rc : Nat} {sz st : List Int} {rs : List RuD} {va : Option Addr} {vn vc : Nat} {vs : List Int} {w : World} (h : MRd w sa sn sc ta tn tc ra rn rc sz st rs) (hV : Ints w va vn vc vs) (hv : vn ≤ 1048576) :
    Calls Try.prog 7 #[.agg #[.slice sa sn sc, .slice ta tn tc, .slice ra rn rc], .slice va vn vc] w fun e w' => RetIC 2 w (bsL sz st (rsM rs) vs) (bsC sz st (rsM rs) vs) e w' := by
  obtain ⟨l, h1, h2⟩ := h.r
  have := spec_BitsOfState h.s h.sn h.t h.tn h1 h.rn hV hv
  rw [bsL_rs h2, bsC_rs h2] at this
  exact this
theorem impl_BitsOfState_r {sa : Option Addr} {sn sc : Nat} {ta : Option Addr} {tn tc : Nat} {ra : Option Addr} {rn rc : Nat} {sz st : List Int} {rs : List RuD} {va : Option Addr} {vn vc : Nat} {vs : List Int} {w : World} (h : MRd w sa sn sc ta tn tc ra rn rc sz st rs) (hV : Ints w va vn vc vs) (hv : vn ≤ 1048576) :
    Calls Try.prog 6 #[.agg #[.slice sa sn sc, .slice ta tn tc, .slice ra rn rc], .slice va vn vc] w fun e w' => RetIC 2 w (bsL sz st (rsM rs) vs) (bsC sz st (rsM rs) vs) e w' := by
  obtain ⟨l, h1, h2⟩ := h.r
  have := impl_BitsOfState h.s h.sn h.t h.tn h1 h.rn hV hv
  rw [bsL_rs h2, bsC_rs h2] at this
  exact this
theorem spec_StateOfBits_r {sa : Option Addr} {sn sc : Nat} {ta : Option Addr} {tn tc : Nat} {ra : Option Addr} {rn rc : Nat} {sz st : List Int} {rs : List RuD} {va : Option Addr} {vn vc : Nat} {vs : List Int} {w : World} (h : MRd w sa sn sc ta tn tc ra rn rc sz st rs) (hV : Ints w va vn vc vs) (hv : vn ≤ 1048576) :
    Calls Try.prog 10 #[.agg #[.slice sa sn sc, .slice ta tn tc, .slice ra rn rc], .slice va vn vc] w fun e w' => RetIC 2 w (soL sz st (rsM rs) vs) (soC sz st (rsM rs) vs) e w' := by
  obtain ⟨l, h1, h2⟩ := h.r
  have := spec_StateOfBits h.s h.sn h.t h.tn h1 h.rn hV hv
  rw [soL_rs h2, soC_rs h2] at this
  exact this
theorem impl_StateOfBits_r {sa : Option Addr} {sn sc : Nat} {ta : Option Addr} {tn tc : Nat} {ra : Option Addr} {rn rc : Nat} {sz st : List Int} {rs : List RuD} {va : Option Addr} {vn vc : Nat} {vs : List Int} {w : World} (h : MRd w sa sn sc ta tn tc ra rn rc sz st rs) (hV : Ints w va vn vc vs) (hv : vn ≤ 1048576) :
    Calls Try.prog 9 #[.agg #[.slice sa sn sc, .slice ta tn tc, .slice ra rn rc], .slice va vn vc] w fun e w' => RetIC 2 w (soL sz st (rsM rs) vs) (soC sz st (rsM rs) vs) e w' := by
  obtain ⟨l, h1, h2⟩ := h.r
  have := impl_StateOfBits h.s h.sn h.t h.tn h1 h.rn hV hv
  rw [soL_rs h2, soC_rs h2] at this
  exact this
end Go.Proofs.Ytcnjnkjnpfpaeaa
