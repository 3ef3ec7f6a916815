/- StateOfBits of the reference and the program, walked. -/
import Derived.Test.YtcnjnkjnpfpaeaaL23h
namespace Go.Proofs.Ytcnjnkjnpfpaeaa
open Go.RowKit
set_option linter.unusedVariables false
set_option linter.unusedSimpArgs false
set_option maxHeartbeats 2000000 in
theorem spec_l23State {sa ta ra va : Option Addr} {sn sc tn tc rn rc vn vc : Nat} {sz bs : List Int} {w : World} (hI : Ints w sa sn sc sz) (hV : Ints w va vn vc bs) (hn : sn ≤ 16) (hs : allIn 1 32 sz = true) (hb : allIn 0 1 bs = true) (hl : vn = offN sz sn) :
    Calls Try.prog 34 #[.agg #[.slice sa sn sc, .slice ta tn tc, .slice ra rn rc], .slice va vn vc] w fun e w' => ∃ a c, e = .returned (.tuple #[.slice a sn c, .bool (stateB sz (stV sz bs))]) ∧ Below w.heap.size w w' ∧ OwnI 2 w' w.heap.size a sn c (stV sz bs) := by
  have HI := Lib.hid hI
  have HV := Lib.hid hV
  have HS := Lib.hid hs
  have HB := Lib.hid hb
  have HL := Lib.hid hl
  clear hI hs hV hb hl
  have X := Lib.hid (Blk.made w #[.slice sa sn sc, .slice ta tn tc, .slice ra rn rc] 27)
  have hbA : Below w.heap.size w (w.alloc (.cells #[.slice sa sn sc, .slice ta tn tc, .slice ra rn rc] 27)) := bel
  obtain ⟨wA, hwA⟩ : ∃ wA : World, wA = w.alloc (.cells #[.slice sa sn sc, .slice ta tn tc, .slice ra rn rc] 27) := ⟨_, rfl⟩
  rw [← hwA] at X hbA
  have HwA := Lib.hid hwA
  have O1 := Lib.hid (show OwnI 2 (wA.alloc (.cells #[] 2)) wA.heap.size (some ⟨w.heap.size + 1, 0, none⟩) 0 0 [] by have h := OwnI.empty (E := 2) (base := wA.heap.size) wA (Nat.le_refl _); have e : wA.heap.size = w.heap.size + 1 := (by rw [hwA]; simp); rw [e] at h ⊢; exact h)
  have hbB : Below w.heap.size w (wA.alloc (.cells #[] 2)) := bel
  have X1 := Lib.hid (X.out.keep ((Below.refl _ _).alloc (Nat.le_refl _) (.cells #[] 2)))
  have hxl := X.out.lt
  clear hwA X
  go_enter Try.func34, Try.ntmps34
  go_wp2_with fail
  rw [← HwA.out]
  go_loopw [6, 7, 8, 9, 10] (fun s6 s7 s8 _ _ wr => ∃ (k f : Nat) (a1 : Option Addr) (c1 : Nat), k ≤ sn ∧ s6 = .slice a1 k c1 ∧ s7 = .int .i64 f ∧ s8 = .int .i64 k ∧ f ≤ 5 * k ∧ Below wA.heap.size wA wr ∧ Hid (f = offN sz k) ∧ Hid (OwnI 2 wr wA.heap.size a1 k c1 ((stV sz bs).take k)) ∧ Hid (Blk wr w.heap.size #[.slice sa sn sc, .slice ta tn tc, .slice ra rn rc] 27)) (fun _ _ s8 _ _ _ => sn - (intOf s8).toNat)
  case atStart => exact ⟨0, 0, _, 0, Nat.zero_le _, rfl, rfl, rfl, by omega, bel, Lib.hid (by simp [offN]), O1, X1⟩
  case round =>
    clear O1 X1 hbB
    obtain ⟨k, f, a1, c1, hk, rfl, rfl, rfl, hf, hbw, HF, HO, X⟩ := hrel
    have hbl : Below w.heap.size w wr := below_call hbA hbw hbA.size
    have hsz := hbw.size
    have x0 := X.out.cell 0
    have x1 := X.out.cell 1
    have x2 := X.out.cell 2
    have xl := X.out.lt
    simp at x0 x1 x2
    by_cases hlt : k < sn
    · have hlt' : (k : Int) < (sn : Int) := by omega
      have hk0 : (0 : Int) ≤ (k : Int) := by omega
      obtain ⟨b', off', z, rfl, hb', hz, hcell', _⟩ := (HI.out.keep hbl).at hlt
      have hz2 := allIn_at HS.out hz
      have hz0 := hz2.1
      have hz1 := hz2.2
      have hw2 := wN_in hz2.1 hz2.2
      obtain ⟨W, hW⟩ : ∃ W : Nat, wN z = (W : Int) := ⟨(wN z).toNat, by omega⟩
      have hst := offN_step hz
      have hsv := stV_at (bits := bs) hz
      rw [hW, Int.toNat_natCast] at hst hsv
      have hle := offN_le (sz := sz) (k := k + 1) (by rw [HI.out.len]; omega)
      have hl9 := HL.out
      have hf9 := HF.out
      rw [HI.out.len] at hle
      have hWm : f + W ≤ vn := by omega
      have hW5 : W ≤ 5 := by omega
      have HST := Lib.hid hst
      have HSV := Lib.hid hsv
      have HWd := Lib.hid (fun wx => spec_l23Width (z := z) (w := wx) hz0 hz1)
      rw [hW] at HWd
      have HP := Lib.hid (allIn_part HB.out (offN sz k) W)
      clear hz hz2 hw2 hW hst hsv hle hl9 hf9 hz0 hz1
      go_wp2_with fail
      go_wp2_with fail
      refine Calls.mono ((HWd.out _)) ?_
      rintro e _ ⟨rfl, rfl⟩
      go_wp2_with fail
      go_loop [7, 9, 10] (fun s7 s9 s10 => ∃ (i : Nat) (v bt : Int), i ≤ W ∧ s7 = .int .i64 ((f + i : Nat) : Int) ∧ s9 = .int .i64 v ∧ s10 = .int .i64 bt ∧ bt = (W : Int) - i ∧ 0 ≤ v ∧ v ≤ 31 ∧ Hid (v = valOf (((bs.drop (offN sz k)).take W).take i))) (fun _ _ s10 => (intOf s10).toNat)
      case atStart => exact ⟨0, 0, _, Nat.zero_le _, by simp, rfl, rfl, by omega, by omega, by omega, Lib.hid (by simp [valOf])⟩
      case round =>
        obtain ⟨i, v, bt, hi, rfl, rfl, rfl, hbt, hv0, hv1, HVv⟩ := hrel
        by_cases hlti : i < W
        · have hbt0 : 0 < bt := by omega
          have hfi : f + i < vn := by omega
          have hfi' : ((f + i : Nat) : Int) < (vn : Int) := by omega
          have hfi0 : (0 : Int) ≤ ((f + i : Nat) : Int) := by omega
          obtain ⟨b, off, x, rfl, hb, hx, hcell, hwf⟩ := (HV.out.keep hbl).at hfi
          have hx3 : ((bs.drop (offN sz k)).take W)[i]? = some x := by rw [List.getElem?_take, if_pos hlti, List.getElem?_drop, ← HF.out]; exact hx
          have hx2 := allIn_at HP.out hx3
          have hx0 := hx2.1
          have hx1 := hx2.2
          have Hn := Lib.hid (valOf_step hx3)
          have Hn3 := Lib.hid (valOf_31 HP.out (show i + 1 ≤ 5 by omega))
          clear hx hx2 hx3
          go_wp2
          go_round
          case rel => exact ⟨i + 1, 2 * v + x, _, by omega, by rw [show ((f + (i + 1) : Nat) : Int) = (f : Int) + i + 1 by omega], rfl, rfl, by omega, by omega, by have h1 := Hn.out; have h2 := Hn3.out; rw [← HVv.out] at h1; omega, Lib.hid (by rw [Hn.out, HVv.out])⟩
          case measure => simp [intOf]; omega
        · obtain rfl : i = W := by omega
          have hbt0 : ¬ 0 < bt := by omega
          have hv9 := HVv.out
          rw [List.take_take, Nat.min_self] at hv9
          have HV9 := Lib.hid hv9
          clear hv9
          go_wp2_with (at_builtin; refine append1_i64 rfl _ _ 24 2 rfl Try.underlying24 Try.infoi64 wA.heap.size _ _ _ _ (HO.out.keep ((Below.refl _ _).alloc (Nat.le_refl _) (.cells #[.int .i64 v] 2))) rfl wr.heap.size v rfl (by simp) (by unfold I64; omega) (by omega) (by simp; omega) ?_; intro a3 c3 w3 hown3 hb3 hg3)
          have Hown3 := Lib.hid hown3
          have X3 := Lib.hid (Blk.keepB (X.out.keep ((Below.refl _ _).alloc (Nat.le_refl _) (.cells #[.int .i64 v] 2))) hb3 hxl)
          clear hown3 hg3
          go_roundw
          case rel =>
            refine ⟨k + 1, f + i, a3, c3, by omega, rfl, rfl, by go_num, by omega, Below.trans bel hb3, Lib.hid (by rw [HST.out, HF.out]), Lib.hid (by rw [take_at HSV.out, ← HV9.out]; exact Hown3.out), X3⟩
          case measure => simp [intOf]; omega
    · obtain rfl : sn = k := by omega
      have hlt' : ¬ (sn : Int) < (sn : Int) := by omega
      have h1 := HO.out
      rw [List.take_of_length_le (by simp [stV]; rw [HI.out.len]; exact Nat.le_refl _)] at h1
      have HO2 := Lib.hid h1
      have K1 := Lib.hid (spec_l20State (ta := ta) (tn := tn) (tc := tc) (ra := ra) (rn := rn) (rc := rc) (HI.out.keep hbl) h1.ints (by omega) (by omega) HS.out)
      clear h1
      go_wp2_with fail
      refine Calls.mono K1.out ?_
      rintro e w5 ⟨rfl, hb5⟩
      go_wp2
      exact bodyPost_ret (v := .tuple #[.slice a1 sn c1, .bool (stateB sz (stV sz bs))]) (by simp [results, Try.results34, go_sem]) rfl ⟨a1, c1, rfl, below_callS hbl hb5, (HO2.out.keep hb5).le hbA.size⟩
def soC (sz st : List Int) (l : List (RM × RuD)) (bs : List Int) : Int := if modelB sz st l = false then 1 else if areB bs (sz.map wN).sum = false then 2 else if smB sz = false then 3 else if stateB sz (stV sz bs) = false then 4 else 0
def soL (sz st : List Int) (l : List (RM × RuD)) (bs : List Int) : List Int := if soC sz st l bs = 0 then stV sz bs else []
theorem areB_parts {bs : List Int} {sz : List Int} (h : areB bs (sz.map wN).sum = true) (hs : allIn 1 32 sz = true) : allIn 0 1 bs = true ∧ bs.length = offN sz sz.length := by
  rw [areB, Bool.and_eq_true] at h
  have h1 := of_decide_eq_true h.1
  have h2 := offN_full hs
  exact ⟨h.2, by omega⟩
theorem soC_1 {sz st : List Int} {l : List (RM × RuD)} {bs : List Int} (hm : modelB sz st l = false) : soC sz st l bs = 1 ∧ soL sz st l bs = [] := by
  have h : soC sz st l bs = 1 := by rw [soC, if_pos hm]
  exact ⟨h, by rw [soL, h]; rfl⟩
theorem soC_2 {sz st : List Int} {l : List (RM × RuD)} {bs : List Int} (hm : modelB sz st l = true) (ha : areB bs (sz.map wN).sum = false) : soC sz st l bs = 2 ∧ soL sz st l bs = [] := by
  have h : soC sz st l bs = 2 := by rw [soC, if_neg (by simp [hm]), if_pos ha]
  exact ⟨h, by rw [soL, h]; rfl⟩
theorem soC_3 {sz st : List Int} {l : List (RM × RuD)} {bs : List Int} (hm : modelB sz st l = true) (ha : areB bs (sz.map wN).sum = true) (hq : smB sz = false) : soC sz st l bs = 3 ∧ soL sz st l bs = [] := by
  have h : soC sz st l bs = 3 := by rw [soC, if_neg (by simp [hm]), if_neg (by simp [ha]), if_pos hq]
  exact ⟨h, by rw [soL, h]; rfl⟩
theorem soC_4 {sz st : List Int} {l : List (RM × RuD)} {bs : List Int} (hm : modelB sz st l = true) (ha : areB bs (sz.map wN).sum = true) (hq : smB sz = true) (hs : stateB sz (stV sz bs) = false) : soC sz st l bs = 4 ∧ soL sz st l bs = [] := by
  have h : soC sz st l bs = 4 := by rw [soC, if_neg (by simp [hm]), if_neg (by simp [ha]), if_neg (by simp [hq]), if_pos hs]
  exact ⟨h, by rw [soL, h]; rfl⟩
theorem soC_0 {sz st : List Int} {l : List (RM × RuD)} {bs : List Int} (hm : modelB sz st l = true) (ha : areB bs (sz.map wN).sum = true) (hq : smB sz = true) (hs : stateB sz (stV sz bs) = true) : soC sz st l bs = 0 ∧ soL sz st l bs = stV sz bs := by
  have h : soC sz st l bs = 0 := by rw [soC, if_neg (by simp [hm]), if_neg (by simp [ha]), if_neg (by simp [hq]), if_neg (by simp [hs])]
  exact ⟨h, by rw [soL, if_pos h]⟩
set_option maxHeartbeats 4000000 in
theorem spec_StateOfBits {sa ta ra va : Option Addr} {sn sc tn tc rn rc vn vc : Nat} {sz st bs : List Int} {l : List (RM × RuD)} {w : World} (hI : Ints w sa sn sc sz) (hn : sn ≤ 1048576) (hT : Ints w ta tn tc st) (ht : tn ≤ 1048576) (hR : FR w w ra rn rc l) (hr : rn ≤ 1048576) (hV : Ints w va vn vc bs) (hv : vn ≤ 1048576) :
    Calls Try.prog 10 #[.agg #[.slice sa sn sc, .slice ta tn tc, .slice ra rn rc], .slice va vn vc] w fun e w' => RetIC 2 w (soL sz st l bs) (soC sz st l bs) e w' := by
  have KM := fun (wx : World) (hb : Below w.heap.size w wx) => spec_IsModel (hI.keep hb) hn (hT.keep hb) ht (hR.self hb) hr
  cases hm : modelB sz st l
  · simp only [hm] at KM
    have K1 := Lib.hid KM
    have HC := Lib.hid (soC_1 (bs := bs) hm)
    clear KM hm hI hT hR hV
    go_enter Try.func10, Try.ntmps10
    go_wp2_with fail
    refine Calls.mono (K1.out _ bel) ?_
    rintro e w1 ⟨rfl, hb_w1⟩
    obtain ⟨hc_w1, hf_w1⟩ := bcell hb_w1
    have hs_w1 := hb_w1.size
    go_wp2
    exact bodyPost_ret (v := .tuple #[.slice none 0 0, .int .i64 1]) (by simp [results, Try.results10, go_sem]) rfl ⟨0, none, 0, by rw [HC.out.1], bel, by rw [HC.out.2]; exact OwnI.nil _ _ _⟩
  · simp only [hm] at KM
    have K1 := Lib.hid KM
    have KT := Lib.hid (fun (wx : World) (hb : Below w.heap.size w wx) => spec_l23Total (ta := ta) (tn := tn) (tc := tc) (ra := ra) (rn := rn) (rc := rc) (hI.keep hb) hn (modelB_all hm))
    have KA := fun (wx : World) (hb : Below w.heap.size w wx) => spec_l22Bits (N := (sz.map wN).sum) (hV.keep hb) hv
    cases ha : areB bs (sz.map wN).sum
    · simp only [ha] at KA
      have K2 := Lib.hid KA
      have HC := Lib.hid (soC_2 hm ha)
      clear KM KA hm ha hI hT hR hV
      go_enter Try.func10, Try.ntmps10
      go_wp2_with fail
      refine Calls.mono (K1.out _ bel) ?_
      rintro e w1 ⟨rfl, hb_w1⟩
      obtain ⟨hc_w1, hf_w1⟩ := bcell hb_w1
      have hs_w1 := hb_w1.size
      simp at hs_w1
      have hz1 : w.heap.size < w1.heap.size := by omega
      go_wp2_with fail
      refine Calls.mono (KT.out _ bel) ?_
      rintro e w2 ⟨rfl, hb_w2⟩
      obtain ⟨hc_w2, hf_w2⟩ := bcell hb_w2
      have hs_w2 := hb_w2.size
      have hz2 : w.heap.size < w2.heap.size := by omega
      go_wp2_with fail
      go_wp2_with fail
      refine Calls.mono ((K2.out _ bel)) ?_
      rintro e _ ⟨rfl, rfl⟩
      go_wp2
      exact bodyPost_ret (v := .tuple #[.slice none 0 0, .int .i64 2]) (by simp [results, Try.results10, go_sem]) rfl ⟨0, none, 0, by rw [HC.out.1], bel, by rw [HC.out.2]; exact OwnI.nil _ _ _⟩
    · simp only [ha] at KA
      have K2 := Lib.hid KA
      have KS := fun (wx : World) (hb : Below w.heap.size w wx) => spec_l23Small (ta := ta) (tn := tn) (tc := tc) (ra := ra) (rn := rn) (rc := rc) (hI.keep hb) hn (modelB_all hm)
      cases hq : smB sz
      · have hq3 : smC sz = 3 := by rw [smC, hq]; rfl
        simp only [hq3] at KS
        have K3 := Lib.hid KS
        have HC := Lib.hid (soC_3 hm ha hq)
        clear KM KA KS hm ha hq hq3 hI hT hR hV
        go_enter Try.func10, Try.ntmps10
        go_wp2_with fail
        refine Calls.mono (K1.out _ bel) ?_
        rintro e w1 ⟨rfl, hb_w1⟩
        obtain ⟨hc_w1, hf_w1⟩ := bcell hb_w1
        have hs_w1 := hb_w1.size
        simp at hs_w1
        have hz1 : w.heap.size < w1.heap.size := by omega
        go_wp2_with fail
        refine Calls.mono (KT.out _ bel) ?_
        rintro e w2 ⟨rfl, hb_w2⟩
        obtain ⟨hc_w2, hf_w2⟩ := bcell hb_w2
        have hs_w2 := hb_w2.size
        have hz2 : w.heap.size < w2.heap.size := by omega
        go_wp2_with fail
        go_wp2_with fail
        refine Calls.mono ((K2.out _ bel)) ?_
        rintro e _ ⟨rfl, rfl⟩
        go_wp2_with fail
        refine Calls.mono (K3.out _ bel) ?_
        rintro e w3 ⟨rfl, hb_w3⟩
        obtain ⟨hc_w3, hf_w3⟩ := bcell hb_w3
        have hs_w3 := hb_w3.size
        go_wp2
        exact bodyPost_ret (v := .tuple #[.slice none 0 0, .int .i64 3]) (by simp [results, Try.results10, go_sem]) rfl ⟨0, none, 0, by rw [HC.out.1], bel, by rw [HC.out.2]; exact OwnI.nil _ _ _⟩
      · have hq3 : smC sz = 0 := by rw [smC, hq]; rfl
        simp only [hq3] at KS
        have K3 := Lib.hid KS
        have hn16 : sn ≤ 16 := by have := modelB_len hm; have := hI.len; omega
        have hap := areB_parts ha (modelB_all hm)
        have K4 := fun (wx : World) (hb : Below w.heap.size w wx) => spec_l23State (ta := ta) (tn := tn) (tc := tc) (ra := ra) (rn := rn) (rc := rc) (hI.keep hb) (hV.keep hb) hn16 (modelB_all hm) hap.1 (by rw [← hV.len, hap.2, hI.len])
        cases hs : stateB sz (stV sz bs)
        · simp only [hs] at K4
          have HK4 := Lib.hid K4
          have HC := Lib.hid (soC_4 hm ha hq hs)
          clear KM KA KS K4 hm ha hq hq3 hap hs hI hT hR hV
          go_enter Try.func10, Try.ntmps10
          go_wp2_with fail
          refine Calls.mono (K1.out _ bel) ?_
          rintro e w1 ⟨rfl, hb_w1⟩
          obtain ⟨hc_w1, hf_w1⟩ := bcell hb_w1
          have hs_w1 := hb_w1.size
          simp at hs_w1
          have hz1 : w.heap.size < w1.heap.size := by omega
          go_wp2_with fail
          refine Calls.mono (KT.out _ bel) ?_
          rintro e w2 ⟨rfl, hb_w2⟩
          obtain ⟨hc_w2, hf_w2⟩ := bcell hb_w2
          have hs_w2 := hb_w2.size
          have hz2 : w.heap.size < w2.heap.size := by omega
          go_wp2_with fail
          go_wp2_with fail
          refine Calls.mono ((K2.out _ bel)) ?_
          rintro e _ ⟨rfl, rfl⟩
          go_wp2_with fail
          refine Calls.mono (K3.out _ bel) ?_
          rintro e w3 ⟨rfl, hb_w3⟩
          obtain ⟨hc_w3, hf_w3⟩ := bcell hb_w3
          have hs_w3 := hb_w3.size
          have hz3 : w.heap.size < w3.heap.size := by omega
          have hbl3 : Below w.heap.size w w3 := bel
          go_wp2_with fail
          refine Calls.mono (HK4.out _ hbl3) ?_
          rintro e w4 ⟨a, c, rfl, hb4, ho⟩
          clear ho
          have hbl4 := below_callS hbl3 hb4
          go_wp2
          exact bodyPost_ret (v := .tuple #[.slice none 0 0, .int .i64 4]) (by simp [results, Try.results10, go_sem]) rfl ⟨0, none, 0, by rw [HC.out.1], hbl4, by rw [HC.out.2]; exact OwnI.nil _ _ _⟩
        · simp only [hs] at K4
          have HK4 := Lib.hid K4
          have HC := Lib.hid (soC_0 hm ha hq hs)
          clear KM KA KS K4 hm ha hq hq3 hap hs hI hT hR hV
          go_enter Try.func10, Try.ntmps10
          go_wp2_with fail
          refine Calls.mono (K1.out _ bel) ?_
          rintro e w1 ⟨rfl, hb_w1⟩
          obtain ⟨hc_w1, hf_w1⟩ := bcell hb_w1
          have hs_w1 := hb_w1.size
          simp at hs_w1
          have hz1 : w.heap.size < w1.heap.size := by omega
          go_wp2_with fail
          refine Calls.mono (KT.out _ bel) ?_
          rintro e w2 ⟨rfl, hb_w2⟩
          obtain ⟨hc_w2, hf_w2⟩ := bcell hb_w2
          have hs_w2 := hb_w2.size
          have hz2 : w.heap.size < w2.heap.size := by omega
          go_wp2_with fail
          go_wp2_with fail
          refine Calls.mono ((K2.out _ bel)) ?_
          rintro e _ ⟨rfl, rfl⟩
          go_wp2_with fail
          refine Calls.mono (K3.out _ bel) ?_
          rintro e w3 ⟨rfl, hb_w3⟩
          obtain ⟨hc_w3, hf_w3⟩ := bcell hb_w3
          have hs_w3 := hb_w3.size
          have hz3 : w.heap.size < w3.heap.size := by omega
          have hbl3 : Below w.heap.size w w3 := bel
          go_wp2_with fail
          refine Calls.mono (HK4.out _ hbl3) ?_
          rintro e w4 ⟨a, c, rfl, hb4, ho⟩
          have HO := Lib.hid ho
          clear ho
          have hbl4 := below_callS hbl3 hb4
          go_wp2
          exact bodyPost_ret (v := .tuple #[.slice a sn c, .int .i64 0]) (by simp [results, Try.results10, go_sem]) rfl ⟨sn, a, c, by rw [HC.out.1], hbl4, by rw [HC.out.2]; exact HO.out.le hbl3.size⟩
set_option maxHeartbeats 4000000 in
theorem impl_StateOfBits {sa ta ra va : Option Addr} {sn sc tn tc rn rc vn vc : Nat} {sz st bs : List Int} {l : List (RM × RuD)} {w : World} (hI : Ints w sa sn sc sz) (hn : sn ≤ 1048576) (hT : Ints w ta tn tc st) (ht : tn ≤ 1048576) (hR : FR w w ra rn rc l) (hr : rn ≤ 1048576) (hV : Ints w va vn vc bs) (hv : vn ≤ 1048576) :
    Calls Try.prog 9 #[.agg #[.slice sa sn sc, .slice ta tn tc, .slice ra rn rc], .slice va vn vc] w fun e w' => RetIC 2 w (soL sz st l bs) (soC sz st l bs) e w' := by
  have KM := fun (wx : World) (hb : Below w.heap.size w wx) => impl_IsModel (hI.keep hb) hn (hT.keep hb) ht (hR.self hb) hr
  cases hm : modelB sz st l
  · simp only [hm] at KM
    have K1 := Lib.hid KM
    have HC := Lib.hid (soC_1 (bs := bs) hm)
    clear KM hm hI hT hR hV
    go_enter Try.func9, Try.ntmps9
    go_wp2_with fail
    refine Calls.mono (K1.out _ bel) ?_
    rintro e w1 ⟨rfl, hb_w1⟩
    obtain ⟨hc_w1, hf_w1⟩ := bcell hb_w1
    have hs_w1 := hb_w1.size
    go_wp2
    exact bodyPost_ret (v := .tuple #[.slice none 0 0, .int .i64 1]) (by simp [results, Try.results9, go_sem]) rfl ⟨0, none, 0, by rw [HC.out.1], bel, by rw [HC.out.2]; exact OwnI.nil _ _ _⟩
  · simp only [hm] at KM
    have K1 := Lib.hid KM
    have KT := Lib.hid (fun (wx : World) (hb : Below w.heap.size w wx) => impl_widths (ta := ta) (tn := tn) (tc := tc) (ra := ra) (rn := rn) (rc := rc) (hI.keep hb) hn (modelB_all hm))
    have KA := fun (wx : World) (hb : Below w.heap.size w wx) => impl_areBits (N := (sz.map wN).sum) (hV.keep hb) hv
    cases ha : areB bs (sz.map wN).sum
    · simp only [ha] at KA
      have K2 := Lib.hid KA
      have HC := Lib.hid (soC_2 hm ha)
      clear KM KA hm ha hI hT hR hV
      go_enter Try.func9, Try.ntmps9
      go_wp2_with fail
      refine Calls.mono (K1.out _ bel) ?_
      rintro e w1 ⟨rfl, hb_w1⟩
      obtain ⟨hc_w1, hf_w1⟩ := bcell hb_w1
      have hs_w1 := hb_w1.size
      simp at hs_w1
      have hz1 : w.heap.size < w1.heap.size := by omega
      have hbl1 : Below w.heap.size w w1 := bel
      go_wp2_with fail
      refine Calls.mono (KT.out _ hbl1) ?_
      rintro e w2 ⟨aw, cw, rfl, hb2, ho⟩
      clear ho
      have hbl2 := below_callS hbl1 hb2
      go_wp2_with fail
      refine Calls.mono (K2.out _ hbl2) ?_
      rintro e w3 ⟨rfl, hb_w3⟩
      obtain ⟨hc_w3, hf_w3⟩ := bcell hb_w3
      have hs_w3 := hb_w3.size
      go_wp2
      exact bodyPost_ret (v := .tuple #[.slice none 0 0, .int .i64 2]) (by simp [results, Try.results9, go_sem]) rfl ⟨0, none, 0, by rw [HC.out.1], below_callS hbl2 hb_w3, by rw [HC.out.2]; exact OwnI.nil _ _ _⟩
    · simp only [ha] at KA
      have K2 := Lib.hid KA
      have KS := fun (wx : World) (hb : Below w.heap.size w wx) => impl_isSmall (ta := ta) (tn := tn) (tc := tc) (ra := ra) (rn := rn) (rc := rc) (hI.keep hb) hn (modelB_all hm)
      cases hq : smB sz
      · simp only [hq] at KS
        have K3 := Lib.hid KS
        have HC := Lib.hid (soC_3 hm ha hq)
        clear KM KA KS hm ha hq hI hT hR hV
        go_enter Try.func9, Try.ntmps9
        go_wp2_with fail
        refine Calls.mono (K1.out _ bel) ?_
        rintro e w1 ⟨rfl, hb_w1⟩
        obtain ⟨hc_w1, hf_w1⟩ := bcell hb_w1
        have hs_w1 := hb_w1.size
        simp at hs_w1
        have hz1 : w.heap.size < w1.heap.size := by omega
        have hbl1 : Below w.heap.size w w1 := bel
        go_wp2_with fail
        refine Calls.mono (KT.out _ hbl1) ?_
        rintro e w2 ⟨aw, cw, rfl, hb2, ho⟩
        clear ho
        have hbl2 := below_callS hbl1 hb2
        have hc2 := (bcell hb2).1
        have hs2 := hb2.size
        have hz2 : w.heap.size < w2.heap.size := by omega
        clear hb2
        go_wp2_with fail
        refine Calls.mono (K2.out _ hbl2) ?_
        rintro e w3 ⟨rfl, hb_w3⟩
        obtain ⟨hc_w3, hf_w3⟩ := bcell hb_w3
        have hs_w3 := hb_w3.size
        have hz3 : w.heap.size < w3.heap.size := by omega
        have hbl3 := below_callS hbl2 hb_w3
        go_wp2_with fail
        refine Calls.mono (K3.out _ hbl3) ?_
        rintro e w4 ⟨rfl, hb_w4⟩
        obtain ⟨hc_w4, hf_w4⟩ := bcell hb_w4
        have hs_w4 := hb_w4.size
        have hz4 : w.heap.size < w4.heap.size := by omega
        have hbl4 := below_callS hbl3 hb_w4
        go_wp2
        exact bodyPost_ret (v := .tuple #[.slice none 0 0, .int .i64 3]) (by simp [results, Try.results9, go_sem]) rfl ⟨0, none, 0, by rw [HC.out.1], hbl4, by rw [HC.out.2]; exact OwnI.nil _ _ _⟩
      · simp only [hq] at KS
        have K3 := Lib.hid KS
        have hn16 : sn ≤ 16 := by have := modelB_len hm; have := hI.len; omega
        have hap := areB_parts ha (modelB_all hm)
        have HK4 := Lib.hid (fun (wx : World) (hb : Below w.heap.size w wx) => impl_valuesOf (ta := ta) (tn := tn) (tc := tc) (ra := ra) (rn := rn) (rc := rc) (hI.keep hb) (hV.keep hb) hn16 (modelB_all hm) hap.1 (by rw [← hV.len, hap.2, hI.len]))
        have K5 := fun (wx : World) (a : Option Addr) (c : Nat) (hb : Below w.heap.size w wx) (ho : Ints wx a sn c (stV sz bs)) => impl_isState (ta := ta) (tn := tn) (tc := tc) (ra := ra) (rn := rn) (rc := rc) (hI.keep hb) ho hn hn (modelB_all hm)
        cases hs : stateB sz (stV sz bs)
        · simp only [hs] at K5
          have HK5 := Lib.hid K5
          have HC := Lib.hid (soC_4 hm ha hq hs)
          clear KM KA KS K5 hm ha hq hap hs hI hT hR hV
          go_enter Try.func9, Try.ntmps9
          go_wp2_with fail
          refine Calls.mono (K1.out _ bel) ?_
          rintro e w1 ⟨rfl, hb_w1⟩
          obtain ⟨hc_w1, hf_w1⟩ := bcell hb_w1
          have hs_w1 := hb_w1.size
          simp at hs_w1
          have hz1 : w.heap.size < w1.heap.size := by omega
          have hbl1 : Below w.heap.size w w1 := bel
          go_wp2_with fail
          refine Calls.mono (KT.out _ hbl1) ?_
          rintro e w2 ⟨aw, cw, rfl, hb2, ho⟩
          clear ho
          have hbl2 := below_callS hbl1 hb2
          have hc2 := (bcell hb2).1
          have hs2 := hb2.size
          have hz2 : w.heap.size < w2.heap.size := by omega
          clear hb2
          go_wp2_with fail
          refine Calls.mono (K2.out _ hbl2) ?_
          rintro e w3 ⟨rfl, hb_w3⟩
          obtain ⟨hc_w3, hf_w3⟩ := bcell hb_w3
          have hs_w3 := hb_w3.size
          have hz3 : w.heap.size < w3.heap.size := by omega
          have hbl3 := below_callS hbl2 hb_w3
          go_wp2_with fail
          refine Calls.mono (K3.out _ hbl3) ?_
          rintro e w4 ⟨rfl, hb_w4⟩
          obtain ⟨hc_w4, hf_w4⟩ := bcell hb_w4
          have hs_w4 := hb_w4.size
          have hz4 : w.heap.size < w4.heap.size := by omega
          have hbl4 := below_callS hbl3 hb_w4
          go_wp2_with fail
          refine Calls.mono (HK4.out _ hbl4) ?_
          rintro e w5 ⟨a, c, rfl, hb_w5, ho⟩
          have HO := Lib.hid ho
          clear ho
          have hc5 := (bcell hb_w5).1
          have hs_w5 := hb_w5.size
          have hz5 : w.heap.size < w5.heap.size := by omega
          have hbl5 := below_callS hbl4 hb_w5
          go_wp2_with fail
          refine Calls.mono (HK5.out _ _ _ hbl5 HO.out.ints) ?_
          rintro e w6 ⟨rfl, hb_w6⟩
          obtain ⟨hc_w6, hf_w6⟩ := bcell hb_w6
          have hs_w6 := hb_w6.size
          go_wp2
          exact bodyPost_ret (v := .tuple #[.slice none 0 0, .int .i64 4]) (by simp [results, Try.results9, go_sem]) rfl ⟨0, none, 0, by rw [HC.out.1], below_callS hbl5 hb_w6, by rw [HC.out.2]; exact OwnI.nil _ _ _⟩
        · simp only [hs] at K5
          have HK5 := Lib.hid K5
          have HC := Lib.hid (soC_0 hm ha hq hs)
          clear KM KA KS K5 hm ha hq hap hs hI hT hR hV
          go_enter Try.func9, Try.ntmps9
          go_wp2_with fail
          refine Calls.mono (K1.out _ bel) ?_
          rintro e w1 ⟨rfl, hb_w1⟩
          obtain ⟨hc_w1, hf_w1⟩ := bcell hb_w1
          have hs_w1 := hb_w1.size
          simp at hs_w1
          have hz1 : w.heap.size < w1.heap.size := by omega
          have hbl1 : Below w.heap.size w w1 := bel
          go_wp2_with fail
          refine Calls.mono (KT.out _ hbl1) ?_
          rintro e w2 ⟨aw, cw, rfl, hb2, ho⟩
          clear ho
          have hbl2 := below_callS hbl1 hb2
          have hc2 := (bcell hb2).1
          have hs2 := hb2.size
          have hz2 : w.heap.size < w2.heap.size := by omega
          clear hb2
          go_wp2_with fail
          refine Calls.mono (K2.out _ hbl2) ?_
          rintro e w3 ⟨rfl, hb_w3⟩
          obtain ⟨hc_w3, hf_w3⟩ := bcell hb_w3
          have hs_w3 := hb_w3.size
          have hz3 : w.heap.size < w3.heap.size := by omega
          have hbl3 := below_callS hbl2 hb_w3
          go_wp2_with fail
          refine Calls.mono (K3.out _ hbl3) ?_
          rintro e w4 ⟨rfl, hb_w4⟩
          obtain ⟨hc_w4, hf_w4⟩ := bcell hb_w4
          have hs_w4 := hb_w4.size
          have hz4 : w.heap.size < w4.heap.size := by omega
          have hbl4 := below_callS hbl3 hb_w4
          go_wp2_with fail
          refine Calls.mono (HK4.out _ hbl4) ?_
          rintro e w5 ⟨a, c, rfl, hb_w5, ho⟩
          have HO := Lib.hid ho
          clear ho
          have hc5 := (bcell hb_w5).1
          have hs_w5 := hb_w5.size
          have hz5 : w.heap.size < w5.heap.size := by omega
          have hbl5 := below_callS hbl4 hb_w5
          go_wp2_with fail
          refine Calls.mono (HK5.out _ _ _ hbl5 HO.out.ints) ?_
          rintro e w6 ⟨rfl, hb_w6⟩
          obtain ⟨hc_w6, hf_w6⟩ := bcell hb_w6
          have hs_w6 := hb_w6.size
          go_wp2
          exact bodyPost_ret (v := .tuple #[.slice a sn c, .int .i64 0]) (by simp [results, Try.results9, go_sem]) rfl ⟨sn, a, c, by rw [HC.out.1], below_callS hbl5 hb_w6, by rw [HC.out.2]; exact (HO.out.keep hb_w6).le hbl4.size⟩
end Go.Proofs.Ytcnjnkjnpfpaeaa
