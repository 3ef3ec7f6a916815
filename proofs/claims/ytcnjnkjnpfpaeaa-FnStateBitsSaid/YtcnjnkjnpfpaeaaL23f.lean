/- BitsOfState of the program, walked. -/
import Derived.Test.YtcnjnkjnpfpaeaaL23e
namespace Go.Proofs.Ytcnjnkjnpfpaeaa
open Go.RowKit
set_option linter.unusedVariables false
set_option linter.unusedSimpArgs false
def scC (sz st : List Int) (l : List (RM × RuD)) (vs : List Int) : Int := if modelB sz st l = false then 1 else if stateB sz vs = false then 2 else 0
def bsL (sz st : List Int) (l : List (RM × RuD)) (vs : List Int) : List Int := if bsC sz st l vs = 0 then stBits sz vs else []
theorem FR.self {w w' : World} {a : Option Addr} {n c : Nat} {l : List (RM × RuD)} (h : FR w w a n c l) (hb : Below w.heap.size w w') : FR w' w' a n c l := by
  have hf := Flats.keep h hb
  exact ⟨hf.len, hf.cap, hf.pos, fun x hx => by obtain ⟨q1, q2, q3, q4, q5, q6⟩ := hf.wf x hx; exact ⟨q1, q2, q3.keep hb, q4, q5.keep hb, q6⟩, hf.nil⟩
set_option maxHeartbeats 1000000 in
theorem impl_stateCode {sa ta ra va : Option Addr} {sn sc tn tc rn rc vn vc : Nat} {sz st vs : List Int} {l : List (RM × RuD)} {w : World} (hI : Ints w sa sn sc sz) (hn : sn ≤ 1048576) (hT : Ints w ta tn tc st) (ht : tn ≤ 1048576) (hR : FR w w ra rn rc l) (hr : rn ≤ 1048576) (hV : Ints w va vn vc vs) (hv : vn ≤ 1048576) :
    Calls Try.prog 19 #[.agg #[.slice sa sn sc, .slice ta tn tc, .slice ra rn rc], .slice va vn vc] w fun e w' => e = .returned (.int .i64 (scC sz st l vs)) ∧ Below w.heap.size w w' := by
  have KM := fun (wx : World) (hb : Below w.heap.size w wx) => impl_IsModel (hI.keep hb) hn (hT.keep hb) ht (hR.self hb) hr
  cases hm : modelB sz st l
  · simp only [hm] at KM
    have K1 := Lib.hid KM
    have HC := Lib.hid (show scC sz st l vs = 1 by rw [scC, if_pos hm])
    clear KM hm hI hT hR hV
    go_enter Try.func19, Try.ntmps19
    go_wp2_with fail
    refine Calls.mono (K1.out _ bel) ?_
    rintro e w1 ⟨rfl, hb_w1⟩
    obtain ⟨hc_w1, hf_w1⟩ := bcell hb_w1
    have hs_w1 := hb_w1.size
    go_wp2
    go_ret
    exact ⟨by rw [HC.out]; rfl, bel⟩
  · simp only [hm] at KM
    have K1 := Lib.hid KM
    have KS := fun (wx : World) (hb : Below w.heap.size w wx) => impl_isState (ta := ta) (tn := tn) (tc := tc) (ra := ra) (rn := rn) (rc := rc) (hI.keep hb) (hV.keep hb) hn hv (modelB_all hm)
    cases hs : stateB sz vs
    all_goals
      simp only [hs] at KS
      have K2 := Lib.hid KS
      have HC := Lib.hid (show scC sz st l vs = _ by rw [scC, if_neg (by simp [hm]), hs])
      clear KM KS hm hs hI hT hR hV
      go_enter Try.func19, Try.ntmps19
      go_wp2_with fail
      refine Calls.mono (K1.out _ bel) ?_
      rintro e w1 ⟨rfl, hb_w1⟩
      obtain ⟨hc_w1, hf_w1⟩ := bcell hb_w1
      have hs_w1 := hb_w1.size
      simp at hs_w1
      have hz1 : w.heap.size < w1.heap.size := by omega
      go_wp2_with fail
      refine Calls.mono (K2.out _ bel) ?_
      rintro e w2 ⟨rfl, hb_w2⟩
      obtain ⟨hc_w2, hf_w2⟩ := bcell hb_w2
      have hs_w2 := hb_w2.size
      go_wp2
      go_ret
      exact ⟨by rw [HC.out]; rfl, bel⟩
set_option maxHeartbeats 2000000 in
theorem impl_BitsOfState {sa ta ra va : Option Addr} {sn sc tn tc rn rc vn vc : Nat} {sz st vs : List Int} {l : List (RM × RuD)} {w : World} (hI : Ints w sa sn sc sz) (hn : sn ≤ 1048576) (hT : Ints w ta tn tc st) (ht : tn ≤ 1048576) (hR : FR w w ra rn rc l) (hr : rn ≤ 1048576) (hV : Ints w va vn vc vs) (hv : vn ≤ 1048576) :
    Calls Try.prog 6 #[.agg #[.slice sa sn sc, .slice ta tn tc, .slice ra rn rc], .slice va vn vc] w fun e w' => RetIC 2 w (bsL sz st l vs) (bsC sz st l vs) e w' := by
  have KC := fun (wx : World) (hb : Below w.heap.size w wx) => impl_stateCode (hI.keep hb) hn (hT.keep hb) ht (hR.self hb) hr (hV.keep hb) hv
  by_cases h0 : scC sz st l vs = 0
  · have hm : modelB sz st l = true := by cases hm : modelB sz st l with | true => rfl | false => rw [scC, if_pos hm] at h0; cases h0
    have hs : stateB sz vs = true := by cases hs : stateB sz vs with | true => rfl | false => rw [scC, if_neg (by simp [hm]), if_pos hs] at h0; cases h0
    simp only [h0] at KC
    have K1 := Lib.hid KC
    have KS := fun (wx : World) (hb : Below w.heap.size w wx) => impl_isSmall (ta := ta) (tn := tn) (tc := tc) (ra := ra) (rn := rn) (rc := rc) (hI.keep hb) hn (modelB_all hm)
    have hn16 : sn ≤ 16 := by have := modelB_len hm; have := hI.len; omega
    cases hq : smB sz
    · simp only [hq] at KS
      have K2 := Lib.hid KS
      have HC := Lib.hid (show bsC sz st l vs = 3 by rw [bsC, if_neg (by simp [hm]), if_neg (by simp [hs]), if_pos hq])
      have HL := Lib.hid (show bsL sz st l vs = [] by rw [bsL, HC.out]; rfl)
      clear KC KS hm hs hq h0 hI hT hR hV
      go_enter Try.func6, Try.ntmps6
      go_wp2_with fail
      refine Calls.mono (K1.out _ bel) ?_
      rintro e w1 ⟨rfl, hb_w1⟩
      obtain ⟨hc_w1, hf_w1⟩ := bcell hb_w1
      have hs_w1 := hb_w1.size
      simp at hs_w1
      have hz1 : w.heap.size < w1.heap.size := by omega
      go_wp2_with fail
      refine Calls.mono (K2.out _ bel) ?_
      rintro e w2 ⟨rfl, hb_w2⟩
      obtain ⟨hc_w2, hf_w2⟩ := bcell hb_w2
      have hs_w2 := hb_w2.size
      go_wp2
      exact bodyPost_ret (v := .tuple #[.slice none 0 0, .int .i64 3]) (by simp [results, Try.results6, go_sem]) rfl ⟨0, none, 0, by rw [HC.out], bel, by rw [HL.out]; exact OwnI.nil _ _ _⟩
    · simp only [hq] at KS
      have K2 := Lib.hid KS
      have K3 := Lib.hid (fun (wx : World) (hb : Below w.heap.size w wx) => impl_bitsOf (ta := ta) (tn := tn) (tc := tc) (ra := ra) (rn := rn) (rc := rc) (hI.keep hb) (hV.keep hb) hn16 (modelB_all hm) hs)
      have HC := Lib.hid (show bsC sz st l vs = 0 by rw [bsC, if_neg (by simp [hm]), if_neg (by simp [hs]), if_neg (by simp [hq])])
      have HL := Lib.hid (show bsL sz st l vs = stBits sz vs by rw [bsL, if_pos HC.out])
      clear KC KS hm hs hq h0 hI hT hR hV
      go_enter Try.func6, Try.ntmps6
      go_wp2_with fail
      refine Calls.mono (K1.out _ bel) ?_
      rintro e w1 ⟨rfl, hb_w1⟩
      obtain ⟨hc_w1, hf_w1⟩ := bcell hb_w1
      have hs_w1 := hb_w1.size
      simp at hs_w1
      have hz1 : w.heap.size < w1.heap.size := by omega
      go_wp2_with fail
      refine Calls.mono (K2.out _ bel) ?_
      rintro e w2 ⟨rfl, hb_w2⟩
      obtain ⟨hc_w2, hf_w2⟩ := bcell hb_w2
      have hs_w2 := hb_w2.size
      have hz2 : w.heap.size < w2.heap.size := by omega
      have hbl2 : Below w.heap.size w w2 := bel
      go_wp2_with fail
      refine Calls.mono (K3.out _ hbl2) ?_
      rintro e w3 ⟨m, a, c, rfl, hb3, ho, hm3⟩
      have HO := Lib.hid ho
      clear ho
      go_wp2
      exact bodyPost_ret (v := .tuple #[.slice a m c, .int .i64 0]) (by simp [results, Try.results6, go_sem]) rfl ⟨m, a, c, by rw [HC.out], below_callS hbl2 hb3, by rw [HL.out]; exact OwnI.le HO.out hbl2.size⟩
  · have h09 : (scC sz st l vs != 0) = true := by rw [bne_iff_ne]; exact h0
    have hbc : bsC sz st l vs = scC sz st l vs := by
      rw [scC] at h0 ⊢
      rw [bsC]
      split
      · rfl
      · split
        · rfl
        · rename_i h1 h2; rw [if_neg h1, if_neg h2] at h0; exact absurd rfl h0
    have HC := Lib.hid hbc
    have HL := Lib.hid (show bsL sz st l vs = [] by rw [bsL, hbc, if_neg h0])
    generalize scC sz st l vs = code at *
    have K1 := Lib.hid KC
    clear KC hbc hI hT hR hV
    go_enter Try.func6, Try.ntmps6
    go_wp2_with fail
    refine Calls.mono (K1.out _ bel) ?_
    rintro e w1 ⟨rfl, hb_w1⟩
    obtain ⟨hc_w1, hf_w1⟩ := bcell hb_w1
    have hs_w1 := hb_w1.size
    go_wp2
    exact bodyPost_ret (v := .tuple #[.slice none 0 0, .int .i64 code]) (by simp [results, Try.results6, go_sem]) rfl ⟨0, none, 0, by rw [HC.out], bel, by rw [HL.out]; exact OwnI.nil _ _ _⟩
end Go.Proofs.Ytcnjnkjnpfpaeaa
