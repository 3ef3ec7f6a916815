/- BitsOfModel, both functions walked. -/
import Derived.Test.YtcnjnkjnpfpaeaaL20j
import Derived.Test.YtcnjnkjnpfpaeaaJc
namespace Go.Proofs.Ytcnjnkjnpfpaeaa
open Go.RowKit
set_option linter.unusedVariables false
set_option linter.unusedSimpArgs false
def bmL (sz st : List Int) (l : List (RM × RuD)) : List Int := if modelB sz st l = true then sz.map wN else []
def bmC (sz st : List Int) (l : List (RM × RuD)) : Int := if modelB sz st l = true then 0 else 1
theorem modelB_all {sz st : List Int} {l : List (RM × RuD)} (h : modelB sz st l = true) : allIn 1 32 sz = true := by
  rw [modelB] at h
  simp only [Bool.and_eq_true] at h
  exact h.2.1
def RetIC (E : TypeId) (w : World) (l : List Int) (code : Int) (e : Ending) (w' : World) : Prop := ∃ n a c, e = .returned (.tuple #[.slice a n c, .int .i64 code]) ∧ Below w.heap.size w w' ∧ OwnI E w' w.heap.size a n c l
set_option maxHeartbeats 2000000 in
theorem impl_BitsOfModel {sa ta ra : Option Addr} {sn sc tn tc rn rc : Nat} {sz st : List Int} {l : List (RM × RuD)} {w : World} (hI : Ints w sa sn sc sz) (hn : sn ≤ 1048576) (hT : Ints w ta tn tc st) (ht : tn ≤ 1048576) (hR : FR w w ra rn rc l) (hr : rn ≤ 1048576) :
    Calls Try.prog 12 #[.agg #[.slice sa sn sc, .slice ta tn tc, .slice ra rn rc]] w fun e w' => RetIC 2 w (bmL sz st l) (bmC sz st l) e w' := by
  have hB := Blk.made w #[.slice sa sn sc, .slice ta tn tc, .slice ra rn rc] 27
  have hbA : Below w.heap.size w (w.alloc (.cells #[.slice sa sn sc, .slice ta tn tc, .slice ra rn rc] 27)) := (Below.refl _ _).alloc (Nat.le_refl _) _
  obtain ⟨wA, hwA⟩ : ∃ wA : World, wA = w.alloc (.cells #[.slice sa sn sc, .slice ta tn tc, .slice ra rn rc] 27) := ⟨_, rfl⟩
  rw [← hwA] at hB hbA
  have hRk : FR wA wA ra rn rc l := by
    have h := hR.keep hbA
    exact ⟨h.len, h.cap, h.pos, fun x hx => by obtain ⟨q1, q2, q3, q4, q5, q6⟩ := h.wf x hx; exact ⟨q1, q2, q3.keep hbA, q4, q5.keep hbA, q6⟩, h.nil⟩
  have hM := impl_IsModel (hI.keep hbA) hn (hT.keep hbA) ht hRk hr
  have HwA := Lib.hid hwA
  have X := Lib.hid hB
  clear hwA hB hT hR hRk
  have x0 := X.out.cell 0
  have x1 := X.out.cell 1
  have x2 := X.out.cell 2
  have xl := X.out.lt
  simp at x0 x1 x2
  cases hm : modelB sz st l
  · rw [hm] at hM
    have HM := Lib.hid hM
    have HL := Lib.hid (show bmL sz st l = [] by rw [bmL, hm]; rfl)
    have HC := Lib.hid (show bmC sz st l = 1 by rw [bmC, hm]; rfl)
    clear hM hm hI
    go_enter Try.func12, Try.ntmps12
    go_wp2_with fail
    rw [← HwA.out]
    go_wp2_with fail
    refine Calls.mono HM.out ?_
    rintro e w1 ⟨rfl, hb1⟩
    go_wp2
    exact bodyPost_ret (v := .tuple #[.slice none 0 0, .int .i64 1]) (by simp [results, Try.results12, go_sem]) rfl ⟨0, none, 0, by rw [HC.out], below_call hbA hb1 hbA.size, by rw [HL.out]; exact OwnI.nil _ _ _⟩
  · rw [hm] at hM
    have HM := Lib.hid hM
    have HL := Lib.hid (show bmL sz st l = sz.map wN by rw [bmL, hm]; rfl)
    have HC := Lib.hid (show bmC sz st l = 0 by rw [bmC, hm]; rfl)
    have HW := Lib.hid (fun (wx : World) (hb : Below w.heap.size w wx) => impl_widths (ta := ta) (tn := tn) (tc := tc) (ra := ra) (rn := rn) (rc := rc) (hI.keep hb) hn (modelB_all hm))
    clear hM hm hI
    go_enter Try.func12, Try.ntmps12
    go_wp2_with fail
    rw [← HwA.out]
    go_wp2_with fail
    refine Calls.mono HM.out ?_
    rintro e w1 ⟨rfl, hb1⟩
    have hbl1 : Below w.heap.size w w1 := below_call hbA hb1 hbA.size
    have X1 := Lib.hid (X.out.keep hb1)
    clear x0 x1 x2 xl hb1
    have x0 := X1.out.cell 0
    have x1 := X1.out.cell 1
    have x2 := X1.out.cell 2
    have xl := X1.out.lt
    simp at x0 x1 x2
    go_wp2_with fail
    refine Calls.mono (HW.out _ hbl1) ?_
    rintro e w2 ⟨a, c, rfl, hb2, ho⟩
    have HO := Lib.hid ho
    clear ho
    go_wp2
    exact bodyPost_ret (v := .tuple #[.slice a sn c, .int .i64 0]) (by simp [results, Try.results12, go_sem]) rfl ⟨sn, a, c, by rw [HC.out], below_callS hbl1 hb2, by rw [HL.out]; exact OwnI.le HO.out hbl1.size⟩
set_option maxHeartbeats 2000000 in
theorem spec_BitsOfModel {sa ta ra : Option Addr} {sn sc tn tc rn rc : Nat} {sz st : List Int} {l : List (RM × RuD)} {w : World} (hI : Ints w sa sn sc sz) (hn : sn ≤ 1048576) (hT : Ints w ta tn tc st) (ht : tn ≤ 1048576) (hR : FR w w ra rn rc l) (hr : rn ≤ 1048576) :
    Calls Try.prog 13 #[.agg #[.slice sa sn sc, .slice ta tn tc, .slice ra rn rc]] w fun e w' => RetIC 2 w (bmL sz st l) (bmC sz st l) e w' := by
  have hB := Blk.made w #[.slice sa sn sc, .slice ta tn tc, .slice ra rn rc] 27
  have hbA : Below w.heap.size w (w.alloc (.cells #[.slice sa sn sc, .slice ta tn tc, .slice ra rn rc] 27)) := (Below.refl _ _).alloc (Nat.le_refl _) _
  obtain ⟨wA, hwA⟩ : ∃ wA : World, wA = w.alloc (.cells #[.slice sa sn sc, .slice ta tn tc, .slice ra rn rc] 27) := ⟨_, rfl⟩
  rw [← hwA] at hB hbA
  have hRk : FR wA wA ra rn rc l := by
    have h := hR.keep hbA
    exact ⟨h.len, h.cap, h.pos, fun x hx => by obtain ⟨q1, q2, q3, q4, q5, q6⟩ := h.wf x hx; exact ⟨q1, q2, q3.keep hbA, q4, q5.keep hbA, q6⟩, h.nil⟩
  have hM := spec_IsModel (hI.keep hbA) hn (hT.keep hbA) ht hRk hr
  have HwA := Lib.hid hwA
  have X := Lib.hid hB
  clear hwA hB hT hR hRk
  have x0 := X.out.cell 0
  have x1 := X.out.cell 1
  have x2 := X.out.cell 2
  have xl := X.out.lt
  simp at x0 x1 x2
  cases hm : modelB sz st l
  · rw [hm] at hM
    have HM := Lib.hid hM
    have HL := Lib.hid (show bmL sz st l = [] by rw [bmL, hm]; rfl)
    have HC := Lib.hid (show bmC sz st l = 1 by rw [bmC, hm]; rfl)
    clear hM hm hI
    go_enter Try.func13, Try.ntmps13
    go_wp2_with fail
    rw [← HwA.out]
    go_wp2_with fail
    refine Calls.mono HM.out ?_
    rintro e w1 ⟨rfl, hb1⟩
    go_wp2
    exact bodyPost_ret (v := .tuple #[.slice none 0 0, .int .i64 1]) (by simp [results, Try.results13, go_sem]) rfl ⟨0, none, 0, by rw [HC.out], below_call hbA hb1 hbA.size, by rw [HL.out]; exact OwnI.nil _ _ _⟩
  · rw [hm] at hM
    have HM := Lib.hid hM
    have HL := Lib.hid (show bmL sz st l = sz.map wN by rw [bmL, hm]; rfl)
    have HC := Lib.hid (show bmC sz st l = 0 by rw [bmC, hm]; rfl)
    have HS := Lib.hid (modelB_all hm)
    have HI := Lib.hid hI
    clear hM hm hI
    go_enter Try.func13, Try.ntmps13
    go_wp2_with fail
    rw [← HwA.out]
    go_wp2_with fail
    refine Calls.mono HM.out ?_
    rintro e w1 ⟨rfl, hb1⟩
    have hbl1 : Below w.heap.size w w1 := below_call hbA hb1 hbA.size
    have hs1 := hbl1.size
    have X1 := Lib.hid ((X.out.keep hb1).keep ((Below.refl _ _).alloc (Nat.le_refl _) (.cells #[] 2)))
    have hl1 := (X.out.keep hb1).lt
    have O1 := Lib.hid (OwnI.empty (E := 2) (base := w.heap.size + 1) w1 hl1)
    have hblA : Below w.heap.size w (w1.alloc (.cells #[] 2)) := hbl1.alloc hs1 _
    clear x0 x1 x2 xl hb1 X hl1
    go_wp2_with fail
    go_loopw [4, 5] (fun s4 s5 wr => ∃ (k : Nat) (a1 : Option Addr) (c1 : Nat), k ≤ sn ∧ s4 = .slice a1 k c1 ∧ s5 = .int .i64 k ∧ Below w.heap.size w wr ∧ Hid (OwnI 2 wr (w.heap.size + 1) a1 k c1 ((sz.take k).map wN)) ∧ Hid (Blk wr w.heap.size #[.slice sa sn sc, .slice ta tn tc, .slice ra rn rc] 27)) (fun _ s5 _ => sn - (intOf s5).toNat)
    case atStart => exact ⟨0, _, 0, Nat.zero_le _, rfl, rfl, hblA, O1, X1⟩
    case round =>
      clear O1 X1 hblA
      obtain ⟨k, a1, c1, hk, rfl, rfl, hbl, HO, X⟩ := hrel
      have hsz := hbl.size
      have x0 := X.out.cell 0
      have x1 := X.out.cell 1
      have x2 := X.out.cell 2
      have xl := X.out.lt
      simp at x0 x1 x2
      by_cases hlt : k < sn
      · have hlt' : (k : Int) < (sn : Int) := by omega
        have hk0 : (0 : Int) ≤ (k : Int) := by omega
        obtain ⟨b, off, z, rfl, hb, hx, hcell, hwf⟩ := (HI.out.keep hbl).at hlt
        have hz2 := allIn_at HS.out hx
        have hz0 := hz2.1
        have hz1 := hz2.2
        have Hx := Lib.hid (wl_take hx)
        have Hw := wN_in hz0 hz1
        clear hx hz2
        go_wp2_with fail
        go_wp2_with fail
        refine Calls.mono ((spec_l23Width hz0 hz1)) ?_
        rintro e _ ⟨rfl, rfl⟩
        go_wp2_with (at_builtin; refine append1_i64 rfl _ _ 24 2 rfl Try.underlying24 Try.infoi64 (w.heap.size + 1) _ _ _ _ (HO.out.keep ((Below.refl _ _).alloc (Nat.le_refl _) (.cells #[.int .i64 (wN z)] 2))) rfl wr.heap.size (wN z) rfl (by simp) (by unfold I64; omega) (by omega) (by simp; omega) ?_; intro a2 c2 w2 hown2 hb2 hg2)
        have Hown2 := Lib.hid hown2
        have X2 := Lib.hid (Blk.keepB (X.out.keep ((Below.refl _ _).alloc (Nat.le_refl _) (.cells #[.int .i64 (wN z)] 2))) hb2 (by omega))
        clear hown2 hg2
        go_roundw
        case rel => exact ⟨k + 1, a2, c2, by omega, rfl, by go_num, Below.trans bel (hb2.mono (by omega)), Lib.hid (by rw [Hx.out]; exact Hown2.out), X2⟩
        case measure => simp [intOf]; omega
      · obtain rfl : sn = k := by omega
        have hlt' : ¬ (sn : Int) < (sn : Int) := by omega
        have h1 := HO.out
        rw [take_len HI.out.len] at h1
        have HO2 := Lib.hid h1
        clear h1
        go_wp2
        exact bodyPost_ret (v := .tuple #[.slice a1 sn c1, .int .i64 0]) (by simp [results, Try.results13, go_sem]) rfl ⟨sn, a1, c1, by rw [HC.out], hbl, by rw [HL.out]; exact OwnI.le HO2.out (by omega)⟩
end Go.Proofs.Ytcnjnkjnpfpaeaa
