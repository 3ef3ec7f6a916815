/- BitsOfState of the reference, walked. -/
import Derived.Test.YtcnjnkjnpfpaeaaL23f
namespace Go.Proofs.Ytcnjnkjnpfpaeaa
open Go.RowKit
set_option linter.unusedVariables false
set_option linter.unusedSimpArgs false
def smC (sz : List Int) : Int := if smB sz = true then 0 else 3
set_option maxHeartbeats 1000000 in
theorem spec_l20Code {sa ta ra va : Option Addr} {sn sc tn tc rn rc vn vc : Nat} {sz st vs : List Int} {l : List (RM × RuD)} {w : World} (hI : Ints w sa sn sc sz) (hn : sn ≤ 1048576) (hT : Ints w ta tn tc st) (ht : tn ≤ 1048576) (hR : FR w w ra rn rc l) (hr : rn ≤ 1048576) (hV : Ints w va vn vc vs) (hv : vn ≤ 1048576) :
    Calls Try.prog 22 #[.agg #[.slice sa sn sc, .slice ta tn tc, .slice ra rn rc], .slice va vn vc] w fun e w' => e = .returned (.int .i64 (scC sz st l vs)) ∧ Below w.heap.size w w' := by
  have KM := fun (wx : World) (hb : Below w.heap.size w wx) => spec_IsModel (hI.keep hb) hn (hT.keep hb) ht (hR.self hb) hr
  cases hm : modelB sz st l
  · simp only [hm] at KM
    have K1 := Lib.hid KM
    have HC := Lib.hid (show scC sz st l vs = 1 by rw [scC, if_pos hm])
    clear KM hm hI hT hR hV
    go_enter Try.func22, Try.ntmps22
    go_wp2_with fail
    refine Calls.mono (K1.out _ bel) ?_
    rintro e w1 ⟨rfl, hb_w1⟩
    obtain ⟨hc_w1, hf_w1⟩ := bcell hb_w1
    have hs_w1 := hb_w1.size
    go_wp2
    go_ret
    exact ⟨by rw [HC.out]; rfl, bel⟩
  · simp only [hm] at KM
    have K1 := Lib.hid KM
    have KS := fun (wx : World) (hb : Below w.heap.size w wx) => spec_l20State (ta := ta) (tn := tn) (tc := tc) (ra := ra) (rn := rn) (rc := rc) (hI.keep hb) (hV.keep hb) hn hv (modelB_all hm)
    cases hs : stateB sz vs
    all_goals
      simp only [hs] at KS
      have K2 := Lib.hid KS
      have HC := Lib.hid (show scC sz st l vs = _ by rw [scC, if_neg (by simp [hm]), hs])
      clear KM KS hm hs hI hT hR hV
      go_enter Try.func22, Try.ntmps22
      go_wp2_with fail
      refine Calls.mono (K1.out _ bel) ?_
      rintro e w1 ⟨rfl, hb_w1⟩
      obtain ⟨hc_w1, hf_w1⟩ := bcell hb_w1
      have hs_w1 := hb_w1.size
      simp at hs_w1
      have hz1 : w.heap.size < w1.heap.size := by omega
      go_wp2_with fail
      refine Calls.mono (K2.out _ bel) ?_
      rintro e w2 ⟨rfl, hb_w2⟩
      obtain ⟨hc_w2, hf_w2⟩ := bcell hb_w2
      have hs_w2 := hb_w2.size
      go_wp2
      go_ret
      exact ⟨by rw [HC.out]; rfl, bel⟩
set_option maxHeartbeats 1000000 in
theorem spec_l23Total {sa ta ra : Option Addr} {sn sc tn tc rn rc : Nat} {sz : List Int} {w : World} (hI : Ints w sa sn sc sz) (hn : sn ≤ 1048576) (hs : allIn 1 32 sz = true) :
    Calls Try.prog 26 #[.agg #[.slice sa sn sc, .slice ta tn tc, .slice ra rn rc]] w fun e w' => e = .returned (.int .i64 (sz.map wN).sum) ∧ Below w.heap.size w w' := by
  have HI := Lib.hid hI
  have HS := Lib.hid hs
  clear hI hs
  have X := Lib.hid (Blk.made w #[.slice sa sn sc, .slice ta tn tc, .slice ra rn rc] 27)
  have hbA : Below w.heap.size w (w.alloc (.cells #[.slice sa sn sc, .slice ta tn tc, .slice ra rn rc] 27)) := bel
  obtain ⟨wA, hwA⟩ : ∃ wA : World, wA = w.alloc (.cells #[.slice sa sn sc, .slice ta tn tc, .slice ra rn rc] 27) := ⟨_, rfl⟩
  rw [← hwA] at X hbA
  have HwA := Lib.hid hwA
  clear hwA
  go_enter Try.func26, Try.ntmps26
  go_wp2_with fail
  rw [← HwA.out]
  have x0 := X.out.cell 0
  have xl := X.out.lt
  simp at x0
  go_loop [3, 4] (fun s3 s4 => ∃ (k : Nat) (t : Int), k ≤ sn ∧ s4 = .int .i64 k ∧ s3 = .int .i64 t ∧ 0 ≤ t ∧ t ≤ 5 * k ∧ Hid (t = ((sz.take k).map wN).sum)) (fun _ s4 => sn - (intOf s4).toNat)
  case atStart => exact ⟨0, 0, Nat.zero_le _, rfl, rfl, by omega, by omega, Lib.hid (by simp)⟩
  case round =>
    obtain ⟨k, t, hk, rfl, rfl, ht0, ht1, A⟩ := hrel
    by_cases hlt : k < sn
    · have hlt' : (k : Int) < (sn : Int) := by omega
      have hk0 : (0 : Int) ≤ (k : Int) := by omega
      obtain ⟨b, off, z, rfl, hb, hx, hcell, hwf⟩ := (HI.out.keep hbA).at hlt
      have hz2 := allIn_at HS.out hx
      have hz0 := hz2.1
      have hz1 := hz2.2
      have Hx := Lib.hid (wl_take hx)
      have Hw := wN_in hz0 hz1
      have hw0 := Hw.1
      have hw1 := Hw.2
      clear hx hz2 Hw
      go_wp2_with fail
      go_wp2_with fail
      refine Calls.mono ((spec_l23Width hz0 hz1)) ?_
      rintro e _ ⟨rfl, rfl⟩
      go_wp2_with fail
      go_round
      case rel => exact ⟨k + 1, t + wN z, by omega, by go_num, rfl, by omega, by omega, Lib.hid (by rw [Hx.out, List.sum_append, A.out]; simp)⟩
      case measure => simp [intOf]; omega
    · obtain rfl : sn = k := by omega
      have hlt' : ¬ (sn : Int) < (sn : Int) := by omega
      have h1 := A.out
      rw [take_len HI.out.len] at h1
      subst h1
      go_wp2
      go_ret
      exact ⟨rfl, hbA⟩
set_option maxHeartbeats 1000000 in
theorem spec_l23Small {sa ta ra : Option Addr} {sn sc tn tc rn rc : Nat} {sz : List Int} {w : World} (hI : Ints w sa sn sc sz) (hn : sn ≤ 1048576) (hs : allIn 1 32 sz = true) :
    Calls Try.prog 23 #[.agg #[.slice sa sn sc, .slice ta tn tc, .slice ra rn rc]] w fun e w' => e = .returned (.int .i64 (smC sz)) ∧ Below w.heap.size w w' := by
  have KT := fun (wx : World) (hb : Below w.heap.size w wx) => spec_l23Total (ta := ta) (tn := tn) (tc := tc) (ra := ra) (rn := rn) (rc := rc) (hI.keep hb) hn hs
  have hq : smB sz = decide ((sz.map wN).sum ≤ 20) := rfl
  generalize (sz.map wN).sum = t at *
  have K1 := Lib.hid KT
  clear KT hI hs
  by_cases h : t ≤ 20
  · have HQ := Lib.hid (show smC sz = 0 by rw [smC, hq, decide_eq_true h]; rfl)
    have h' : ¬ 20 < t := by omega
    clear h hq
    go_enter Try.func23, Try.ntmps23
    go_wp2_with fail
    refine Calls.mono (K1.out _ bel) ?_
    rintro e w1 ⟨rfl, hb_w1⟩
    obtain ⟨hc_w1, hf_w1⟩ := bcell hb_w1
    have hs_w1 := hb_w1.size
    go_wp2
    go_ret
    exact ⟨by rw [HQ.out]; rfl, bel⟩
  · have HQ := Lib.hid (show smC sz = 3 by rw [smC, hq, decide_eq_false h]; rfl)
    have h' : 20 < t := by omega
    clear h hq
    go_enter Try.func23, Try.ntmps23
    go_wp2_with fail
    refine Calls.mono (K1.out _ bel) ?_
    rintro e w1 ⟨rfl, hb_w1⟩
    obtain ⟨hc_w1, hf_w1⟩ := bcell hb_w1
    have hs_w1 := hb_w1.size
    go_wp2
    go_ret
    exact ⟨by rw [HQ.out]; rfl, bel⟩
set_option maxHeartbeats 2000000 in
theorem spec_l23Bits {sa ta ra va : Option Addr} {sn sc tn tc rn rc vn vc : Nat} {sz vs : List Int} {w : World} (hI : Ints w sa sn sc sz) (hV : Ints w va vn vc vs) (hn : sn ≤ 16) (hs : allIn 1 32 sz = true) (hst : stateB sz vs = true) :
    Calls Try.prog 24 #[.agg #[.slice sa sn sc, .slice ta tn tc, .slice ra rn rc], .slice va vn vc] w fun e w' => ∃ m a c, e = .returned (.slice a m c) ∧ Below w.heap.size w w' ∧ OwnI 2 w' w.heap.size a m c (stBits sz vs) ∧ m ≤ 80 := by
  obtain rfl : vn = sn := by have := hI.len; have := hV.len; have := stateB_len hst; omega
  have HI := Lib.hid hI
  have HV := Lib.hid hV
  have HS := Lib.hid hs
  have HST := Lib.hid hst
  clear hI hs hV hst
  have X := Lib.hid (Blk.made w #[.slice sa vn sc, .slice ta tn tc, .slice ra rn rc] 27)
  have hbA : Below w.heap.size w (w.alloc (.cells #[.slice sa vn sc, .slice ta tn tc, .slice ra rn rc] 27)) := bel
  obtain ⟨wA, hwA⟩ : ∃ wA : World, wA = w.alloc (.cells #[.slice sa vn sc, .slice ta tn tc, .slice ra rn rc] 27) := ⟨_, rfl⟩
  rw [← hwA] at X hbA
  have HwA := Lib.hid hwA
  have O1 := Lib.hid (show OwnI 2 (wA.alloc (.cells #[] 2)) wA.heap.size (some ⟨w.heap.size + 1, 0, none⟩) 0 0 [] by have h := OwnI.empty (E := 2) (base := wA.heap.size) wA (Nat.le_refl _); have e : wA.heap.size = w.heap.size + 1 := (by rw [hwA]; simp); rw [e] at h ⊢; exact h)
  have hbB : Below w.heap.size w (wA.alloc (.cells #[] 2)) := bel
  have X1 := Lib.hid (X.out.keep ((Below.refl _ _).alloc (Nat.le_refl _) (.cells #[] 2)))
  have hxl := X.out.lt
  clear hwA X
  go_enter Try.func24, Try.ntmps24
  go_wp2_with fail
  rw [← HwA.out]
  go_loopw [5, 6, 7] (fun s5 s6 _ wr => ∃ (k m1 : Nat) (a1 : Option Addr) (c1 : Nat), k ≤ vn ∧ s5 = .slice a1 m1 c1 ∧ s6 = .int .i64 k ∧ Below wA.heap.size wA wr ∧ m1 ≤ 5 * k ∧ Hid (OwnI 2 wr wA.heap.size a1 m1 c1 (stBits (sz.take k) (vs.take k))) ∧ Hid (Blk wr w.heap.size #[.slice sa vn sc, .slice ta tn tc, .slice ra rn rc] 27)) (fun _ s6 _ _ => vn - (intOf s6).toNat)
  case atStart => exact ⟨0, 0, _, 0, Nat.zero_le _, rfl, rfl, bel, by omega, O1, X1⟩
  case round =>
    clear O1 X1
    obtain ⟨k, m1, a1, c1, hk, rfl, rfl, hbw, hm1, HO, X⟩ := hrel
    have hbl : Below w.heap.size w wr := below_call hbA hbw hbA.size
    have hsz := hbw.size
    have x0 := X.out.cell 0
    have xl := X.out.lt
    simp at x0
    by_cases hlt : k < vn
    · have hlt' : (k : Int) < (vn : Int) := by omega
      have hk0 : (0 : Int) ≤ (k : Int) := by omega
      obtain ⟨b, off, x, rfl, hb, hx, hcell, hwf⟩ := (HV.out.keep hbl).at hlt
      obtain ⟨b', off', z, rfl, hb', hz, hcell', _⟩ := (HI.out.keep hbl).at hlt
      have hz2 := allIn_at HS.out hz
      have hz0 := hz2.1
      have hz1 := hz2.2
      have hx2 := stateB_at HST.out hx hz
      have hw2 := wN_cases hz2.1 hz2.2
      obtain ⟨W, hW⟩ : ∃ W : Nat, wN z = (W : Int) := ⟨(wN z).toNat, by omega⟩
      have HX := Lib.hid (stBits_step hx hz)
      rw [hW, Int.toNat_natCast] at HX
      have HB := Lib.hid (show ∀ j, j ≤ 4 → bitAt x j = 0 ∨ bitAt x j = 1 from fun j hj => bitAt_in hx2.1 (by omega) hj)
      have hW5 : W ≤ 5 := by omega
      have e1 : IntKind.i64.wrap ((W : Int) - 1) = (W : Int) - 1 := IntWalk.i64_in _ (by omega)
      have HWd := Lib.hid (fun wx => spec_l23Width (z := z) (w := wx) hz0 hz1)
      rw [hW] at HWd
      have HVl := Lib.hid (HV.out.keep hbA)
      have HXg := Lib.hid hx
      clear hx hz hz2 hx2 hw2 hW hz0 hz1
      go_wp2_with fail
      go_wp2_with fail
      refine Calls.mono ((HWd.out _)) ?_
      rintro e _ ⟨rfl, rfl⟩
      go_wp2_with fail
      have Xc := X
      clear x0 xl
      go_loopw [5, 7] (fun s5 s7 wq => ∃ (i m2 : Nat) (a2 : Option Addr) (c2 : Nat) (bt : Int), i ≤ W ∧ s7 = .int .i64 bt ∧ bt = (W : Int) - 1 - i ∧ s5 = .slice a2 m2 c2 ∧ Below wA.heap.size wA wq ∧ m2 ≤ 5 * k + i ∧ Hid (OwnI 2 wq wA.heap.size a2 m2 c2 (stBits (sz.take k) (vs.take k) ++ (bitsDn x W).take i)) ∧ Hid (Blk wq w.heap.size #[.slice (some ⟨b', off', none⟩) vn sc, .slice ta tn tc, .slice ra rn rc] 27)) (fun _ s7 _ => (intOf s7 + 1).toNat)
      case atStart => exact ⟨0, m1, a1, c1, _, Nat.zero_le _, rfl, by omega, rfl, hbw, by omega, by simpa using HO, X⟩
      case round =>
        have hcell9 : ∀ wx, Below wA.heap.size wA wx → wx.cell? ⟨b, off + k, none⟩ = some (.int .i64 x) ∧ b < wx.heap.size := fun wx hbx => by
          obtain ⟨b9, off9, x9, e9, h1, h2, h3, _⟩ := (HVl.out.keep hbx).at hlt
          simp only [Option.some.injEq, Addr.mk.injEq, and_true] at e9
          obtain ⟨rfl, rfl⟩ := e9
          rw [HXg.out] at h2
          simp only [Option.some.injEq] at h2
          subst h2
          exact ⟨h3, h1⟩
        clear HO hcell hcell' hbl hbw hsz X Xc
        obtain ⟨i, m2, a2, c2, bt, hi, rfl, hbt, rfl, hbw, hm2, HO, X⟩ := hrel
        have hbl : Below w.heap.size w wr := below_call hbA hbw hbA.size
        have hsz := hbw.size
        have hcell := (hcell9 _ hbw).1
        have hblt := (hcell9 _ hbw).2
        clear hcell9
        by_cases hlti : i < W
        · obtain ⟨j, hj⟩ : ∃ j : Nat, bt = (j : Int) := ⟨bt.toNat, by omega⟩
          subst hj
          have hj2 : W - 1 - i = j := by omega
          have hj4 : j ≤ 4 := by omega
          have Hg := Lib.hid (take_at (bitsDn_get (x := x) hlti))
          rw [hj2] at Hg
          have hbit := HB.out j hj4
          have HB9 := Lib.hid (show I64 (bits BinOp.and IntKind.i64 (x / 2 ^ j) 1) by have h : I64 (bitAt x j) := (by rcases hbit with h | h <;> rw [h] <;> (unfold I64; omega)); exact h)
          clear hbit
          go_wp2_with (at_builtin; refine append1_i64 rfl _ _ 24 2 rfl Try.underlying24 Try.infoi64 wA.heap.size _ _ _ _ (HO.out.keep ((Below.refl _ _).alloc (Nat.le_refl _) (.cells #[.int .i64 (bits BinOp.and IntKind.i64 (x / 2 ^ j) 1)] 2))) rfl wr.heap.size (bits BinOp.and IntKind.i64 (x / 2 ^ j) 1) rfl (by simp) HB9.out (by omega) (by simp; omega) ?_; intro a3 c3 w3 hown3 hb3 hg3)
          have Hown3 := Lib.hid hown3
          have X3 := Lib.hid (Blk.keepB (X.out.keep ((Below.refl _ _).alloc (Nat.le_refl _) (.cells #[.int .i64 (bits BinOp.and IntKind.i64 (x / 2 ^ j) 1)] 2))) hb3 hxl)
          clear hown3 hg3
          go_roundw
          case rel => exact ⟨i + 1, m2 + 1, a3, c3, _, by omega, rfl, by omega, rfl, Below.trans bel hb3, by omega, Lib.hid (by rw [Hg.out, ← List.append_assoc]; exact Hown3.out), X3⟩
          case measure => simp [intOf]; omega
        · have hj0 : ¬ 0 ≤ bt := by omega
          obtain rfl : i = W := by omega
          have h1 := HO.out
          rw [show (bitsDn x i).take i = bitsDn x i from List.take_of_length_le (by rw [bitsDn_len]; omega), ← HX.out] at h1
          have HO2 := Lib.hid h1
          clear h1
          go_wp2_with fail
          go_roundw
          case rel => exact ⟨k + 1, m2, a2, c2, by omega, rfl, by go_num, hbw, by omega, HO2, X⟩
          case measure => simp [intOf]; omega
    · obtain rfl : vn = k := by omega
      have hlt' : ¬ (vn : Int) < (vn : Int) := by omega
      have h1 := HO.out
      rw [take_len HI.out.len, take_len HV.out.len] at h1
      have HO2 := Lib.hid h1
      clear h1
      go_wp2
      go_ret
      exact ⟨_, _, _, rfl, hbl, HO2.out.le hbA.size, by omega⟩
set_option maxHeartbeats 2000000 in
theorem spec_BitsOfState {sa ta ra va : Option Addr} {sn sc tn tc rn rc vn vc : Nat} {sz st vs : List Int} {l : List (RM × RuD)} {w : World} (hI : Ints w sa sn sc sz) (hn : sn ≤ 1048576) (hT : Ints w ta tn tc st) (ht : tn ≤ 1048576) (hR : FR w w ra rn rc l) (hr : rn ≤ 1048576) (hV : Ints w va vn vc vs) (hv : vn ≤ 1048576) :
    Calls Try.prog 7 #[.agg #[.slice sa sn sc, .slice ta tn tc, .slice ra rn rc], .slice va vn vc] w fun e w' => RetIC 2 w (bsL sz st l vs) (bsC sz st l vs) e w' := by
  have KC := fun (wx : World) (hb : Below w.heap.size w wx) => spec_l20Code (hI.keep hb) hn (hT.keep hb) ht (hR.self hb) hr (hV.keep hb) hv
  by_cases h0 : scC sz st l vs = 0
  · have hm : modelB sz st l = true := by cases hm : modelB sz st l with | true => rfl | false => rw [scC, if_pos hm] at h0; cases h0
    have hs : stateB sz vs = true := by cases hs : stateB sz vs with | true => rfl | false => rw [scC, if_neg (by simp [hm]), if_pos hs] at h0; cases h0
    simp only [h0] at KC
    have K1 := Lib.hid KC
    have KS := fun (wx : World) (hb : Below w.heap.size w wx) => spec_l23Small (ta := ta) (tn := tn) (tc := tc) (ra := ra) (rn := rn) (rc := rc) (hI.keep hb) hn (modelB_all hm)
    have hn16 : sn ≤ 16 := by have := modelB_len hm; have := hI.len; omega
    cases hq : smB sz
    · have hq3 : smC sz = 3 := by rw [smC, hq]; rfl
      simp only [hq3] at KS
      have K2 := Lib.hid KS
      have HC := Lib.hid (show bsC sz st l vs = 3 by rw [bsC, if_neg (by simp [hm]), if_neg (by simp [hs]), if_pos hq])
      have HL := Lib.hid (show bsL sz st l vs = [] by rw [bsL, HC.out]; rfl)
      clear KC KS hm hs hq hq3 h0 hI hT hR hV
      go_enter Try.func7, Try.ntmps7
      go_wp2_with fail
      refine Calls.mono (K1.out _ bel) ?_
      rintro e w1 ⟨rfl, hb_w1⟩
      obtain ⟨hc_w1, hf_w1⟩ := bcell hb_w1
      have hs_w1 := hb_w1.size
      simp at hs_w1
      have hz1 : w.heap.size < w1.heap.size := by omega
      go_wp2_with fail
      refine Calls.mono (K2.out _ bel) ?_
      rintro e w2 ⟨rfl, hb_w2⟩
      obtain ⟨hc_w2, hf_w2⟩ := bcell hb_w2
      have hs_w2 := hb_w2.size
      go_wp2
      exact bodyPost_ret (v := .tuple #[.slice none 0 0, .int .i64 3]) (by simp [results, Try.results7, go_sem]) rfl ⟨0, none, 0, by rw [HC.out], bel, by rw [HL.out]; exact OwnI.nil _ _ _⟩
    · have hq3 : smC sz = 0 := by rw [smC, hq]; rfl
      simp only [hq3] at KS
      have K2 := Lib.hid KS
      have K3 := Lib.hid (fun (wx : World) (hb : Below w.heap.size w wx) => spec_l23Bits (ta := ta) (tn := tn) (tc := tc) (ra := ra) (rn := rn) (rc := rc) (hI.keep hb) (hV.keep hb) hn16 (modelB_all hm) hs)
      have HC := Lib.hid (show bsC sz st l vs = 0 by rw [bsC, if_neg (by simp [hm]), if_neg (by simp [hs]), if_neg (by simp [hq])])
      have HL := Lib.hid (show bsL sz st l vs = stBits sz vs by rw [bsL, if_pos HC.out])
      clear KC KS hm hs hq hq3 h0 hI hT hR hV
      go_enter Try.func7, Try.ntmps7
      go_wp2_with fail
      refine Calls.mono (K1.out _ bel) ?_
      rintro e w1 ⟨rfl, hb_w1⟩
      obtain ⟨hc_w1, hf_w1⟩ := bcell hb_w1
      have hs_w1 := hb_w1.size
      simp at hs_w1
      have hz1 : w.heap.size < w1.heap.size := by omega
      go_wp2_with fail
      refine Calls.mono (K2.out _ bel) ?_
      rintro e w2 ⟨rfl, hb_w2⟩
      obtain ⟨hc_w2, hf_w2⟩ := bcell hb_w2
      have hs_w2 := hb_w2.size
      have hz2 : w.heap.size < w2.heap.size := by omega
      have hbl2 : Below w.heap.size w w2 := bel
      go_wp2_with fail
      refine Calls.mono (K3.out _ hbl2) ?_
      rintro e w3 ⟨m, a, c, rfl, hb3, ho, hm3⟩
      have HO := Lib.hid ho
      clear ho
      go_wp2
      exact bodyPost_ret (v := .tuple #[.slice a m c, .int .i64 0]) (by simp [results, Try.results7, go_sem]) rfl ⟨m, a, c, by rw [HC.out], below_callS hbl2 hb3, by rw [HL.out]; exact OwnI.le HO.out hbl2.size⟩
  · have h09 : (scC sz st l vs != 0) = true := by rw [bne_iff_ne]; exact h0
    have h08 : (scC sz st l vs == 0) = false := by rw [beq_eq_false_iff_ne]; exact h0
    have hbc : bsC sz st l vs = scC sz st l vs := by
      rw [scC] at h0 ⊢
      rw [bsC]
      split
      · rfl
      · split
        · rfl
        · rename_i h1 h2; rw [if_neg h1, if_neg h2] at h0; exact absurd rfl h0
    have HC := Lib.hid hbc
    have HL := Lib.hid (show bsL sz st l vs = [] by rw [bsL, hbc, if_neg h0])
    generalize scC sz st l vs = code at *
    have K1 := Lib.hid KC
    clear KC hbc hI hT hR hV
    go_enter Try.func7, Try.ntmps7
    go_wp2_with fail
    refine Calls.mono (K1.out _ bel) ?_
    rintro e w1 ⟨rfl, hb_w1⟩
    obtain ⟨hc_w1, hf_w1⟩ := bcell hb_w1
    have hs_w1 := hb_w1.size
    go_wp2
    exact bodyPost_ret (v := .tuple #[.slice none 0 0, .int .i64 code]) (by simp [results, Try.results7, go_sem]) rfl ⟨0, none, 0, by rw [HC.out], bel, by rw [HL.out]; exact OwnI.nil _ _ _⟩
end Go.Proofs.Ytcnjnkjnpfpaeaa
