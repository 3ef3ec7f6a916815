/- BitsOfModel, both functions walked.; Bits of states: what they are, and the program's small models and codes, walked.; BitsOfState of the program, walked.; BitsOfState of the reference, walked.; StateOfBits: values of bits, walked.; StateOfBits of the reference and the program, walked. -/
import Derived.Test.YtkaikbaagajckaaL20j
import Derived.Test.YtkaikbaagajckaaJc
import Derived.Test.YtkaikbaagajckaaAp
import Derived.Test.YtkaikbaagajckaaAb
namespace Go.Proofs.Ytkaikbaagajckaa
open Go.RowKit
set_option linter.unusedVariables false
set_option linter.unusedSimpArgs false
def bmL (sz st : List Int) (l : List (RM × RuD)) : List Int := if modelB sz st l = true then sz.map wN else []
def bmC (sz st : List Int) (l : List (RM × RuD)) : Int := if modelB sz st l = true then 0 else 1
theorem modelB_all {sz st : List Int} {l : List (RM × RuD)} (h : modelB sz st l = true) : allIn 1 32 sz = true := by
  rw [modelB] at h
  simp only [Bool.and_eq_true] at h
  exact h.2.1
def RetIC (E : TypeId) (w : World) (l : List Int) (code : Int) (e : Ending) (w' : World) : Prop := ∃ n a c, e = .returned (.tuple #[.slice a n c, .int .i64 code]) ∧ Below w.heap.size w w' ∧ OwnI E w' w.heap.size a n c l
set_option maxHeartbeats 2000000 in
theorem impl_BitsOfModel {sa ta ra : Option Addr} {sn sc tn tc rn rc : Nat} {sz st : List Int} {l : List (RM × RuD)} {w : World} (hI : Ints w sa sn sc sz) (hn : sn ≤ 1048576) (hT : Ints w ta tn tc st) (ht : tn ≤ 1048576) (hR : FR w w ra rn rc l) (hr : rn ≤ 1048576) :
    Calls Try.prog 49 #[.agg #[.slice sa sn sc, .slice ta tn tc, .slice ra rn rc]] w fun e w' => RetIC 2 w (bmL sz st l) (bmC sz st l) e w' := by
  have hB := Blk.made w #[.slice sa sn sc, .slice ta tn tc, .slice ra rn rc] 59
  have hbA : Below w.heap.size w (w.alloc (.cells #[.slice sa sn sc, .slice ta tn tc, .slice ra rn rc] 59)) := (Below.refl _ _).alloc (Nat.le_refl _) _
  obtain ⟨wA, hwA⟩ : ∃ wA : World, wA = w.alloc (.cells #[.slice sa sn sc, .slice ta tn tc, .slice ra rn rc] 59) := ⟨_, rfl⟩
  rw [← hwA] at hB hbA
  have hRk : FR wA wA ra rn rc l := by
    have h := hR.keep hbA
    exact ⟨h.len, h.cap, h.pos, fun x hx => by obtain ⟨q1, q2, q3, q4, q5, q6⟩ := h.wf x hx; exact ⟨q1, q2, q3.keep hbA, q4, q5.keep hbA, q6⟩, h.nil⟩
  have hM := impl_IsModel (hI.keep hbA) hn (hT.keep hbA) ht hRk hr
  have HwA := Lib.hid hwA
  have X := Lib.hid hB
  clear hwA hB hT hR hRk
  have x0 := X.out.cell 0
  have x1 := X.out.cell 1
  have x2 := X.out.cell 2
  have xl := X.out.lt
  simp at x0 x1 x2
  cases hm : modelB sz st l
  · rw [hm] at hM
    have HM := Lib.hid hM
    have HL := Lib.hid (show bmL sz st l = [] by rw [bmL, hm]; rfl)
    have HC := Lib.hid (show bmC sz st l = 1 by rw [bmC, hm]; rfl)
    clear hM hm hI
    go_enter Try.func49, Try.ntmps49
    go_wp2_with fail
    rw [← HwA.out]
    go_wp2_with fail
    refine Calls.mono HM.out ?_
    rintro e w1 ⟨rfl, hb1⟩
    go_wp2
    exact bodyPost_ret (v := .tuple #[.slice none 0 0, .int .i64 1]) (by simp [results, Try.results49, go_sem]) rfl ⟨0, none, 0, by rw [HC.out], below_call hbA hb1 hbA.size, by rw [HL.out]; exact OwnI.nil _ _ _⟩
  · rw [hm] at hM
    have HM := Lib.hid hM
    have HL := Lib.hid (show bmL sz st l = sz.map wN by rw [bmL, hm]; rfl)
    have HC := Lib.hid (show bmC sz st l = 0 by rw [bmC, hm]; rfl)
    have HW := Lib.hid (fun (wx : World) (hb : Below w.heap.size w wx) => impl_widths (ta := ta) (tn := tn) (tc := tc) (ra := ra) (rn := rn) (rc := rc) (hI.keep hb) hn (modelB_all hm))
    clear hM hm hI
    go_enter Try.func49, Try.ntmps49
    go_wp2_with fail
    rw [← HwA.out]
    go_wp2_with fail
    refine Calls.mono HM.out ?_
    rintro e w1 ⟨rfl, hb1⟩
    have hbl1 : Below w.heap.size w w1 := below_call hbA hb1 hbA.size
    have X1 := Lib.hid (X.out.keep hb1)
    clear x0 x1 x2 xl hb1
    have x0 := X1.out.cell 0
    have x1 := X1.out.cell 1
    have x2 := X1.out.cell 2
    have xl := X1.out.lt
    simp at x0 x1 x2
    go_wp2_with fail
    refine Calls.mono (HW.out _ hbl1) ?_
    rintro e w2 ⟨a, c, rfl, hb2, ho⟩
    have HO := Lib.hid ho
    clear ho
    go_wp2
    exact bodyPost_ret (v := .tuple #[.slice a sn c, .int .i64 0]) (by simp [results, Try.results49, go_sem]) rfl ⟨sn, a, c, by rw [HC.out], below_callS hbl1 hb2, by rw [HL.out]; exact OwnI.le HO.out hbl1.size⟩
set_option maxHeartbeats 2000000 in
theorem spec_BitsOfModel {sa ta ra : Option Addr} {sn sc tn tc rn rc : Nat} {sz st : List Int} {l : List (RM × RuD)} {w : World} (hI : Ints w sa sn sc sz) (hn : sn ≤ 1048576) (hT : Ints w ta tn tc st) (ht : tn ≤ 1048576) (hR : FR w w ra rn rc l) (hr : rn ≤ 1048576) :
    Calls Try.prog 50 #[.agg #[.slice sa sn sc, .slice ta tn tc, .slice ra rn rc]] w fun e w' => RetIC 2 w (bmL sz st l) (bmC sz st l) e w' := by
  have hB := Blk.made w #[.slice sa sn sc, .slice ta tn tc, .slice ra rn rc] 59
  have hbA : Below w.heap.size w (w.alloc (.cells #[.slice sa sn sc, .slice ta tn tc, .slice ra rn rc] 59)) := (Below.refl _ _).alloc (Nat.le_refl _) _
  obtain ⟨wA, hwA⟩ : ∃ wA : World, wA = w.alloc (.cells #[.slice sa sn sc, .slice ta tn tc, .slice ra rn rc] 59) := ⟨_, rfl⟩
  rw [← hwA] at hB hbA
  have hRk : FR wA wA ra rn rc l := by
    have h := hR.keep hbA
    exact ⟨h.len, h.cap, h.pos, fun x hx => by obtain ⟨q1, q2, q3, q4, q5, q6⟩ := h.wf x hx; exact ⟨q1, q2, q3.keep hbA, q4, q5.keep hbA, q6⟩, h.nil⟩
  have hM := spec_IsModel (hI.keep hbA) hn (hT.keep hbA) ht hRk hr
  have HwA := Lib.hid hwA
  have X := Lib.hid hB
  clear hwA hB hT hR hRk
  have x0 := X.out.cell 0
  have x1 := X.out.cell 1
  have x2 := X.out.cell 2
  have xl := X.out.lt
  simp at x0 x1 x2
  cases hm : modelB sz st l
  · rw [hm] at hM
    have HM := Lib.hid hM
    have HL := Lib.hid (show bmL sz st l = [] by rw [bmL, hm]; rfl)
    have HC := Lib.hid (show bmC sz st l = 1 by rw [bmC, hm]; rfl)
    clear hM hm hI
    go_enter Try.func50, Try.ntmps50
    go_wp2_with fail
    rw [← HwA.out]
    go_wp2_with fail
    refine Calls.mono HM.out ?_
    rintro e w1 ⟨rfl, hb1⟩
    go_wp2
    exact bodyPost_ret (v := .tuple #[.slice none 0 0, .int .i64 1]) (by simp [results, Try.results50, go_sem]) rfl ⟨0, none, 0, by rw [HC.out], below_call hbA hb1 hbA.size, by rw [HL.out]; exact OwnI.nil _ _ _⟩
  · rw [hm] at hM
    have HM := Lib.hid hM
    have HL := Lib.hid (show bmL sz st l = sz.map wN by rw [bmL, hm]; rfl)
    have HC := Lib.hid (show bmC sz st l = 0 by rw [bmC, hm]; rfl)
    have HS := Lib.hid (modelB_all hm)
    have HI := Lib.hid hI
    clear hM hm hI
    go_enter Try.func50, Try.ntmps50
    go_wp2_with fail
    rw [← HwA.out]
    go_wp2_with fail
    refine Calls.mono HM.out ?_
    rintro e w1 ⟨rfl, hb1⟩
    have hbl1 : Below w.heap.size w w1 := below_call hbA hb1 hbA.size
    have hs1 := hbl1.size
    have X1 := Lib.hid ((X.out.keep hb1).keep ((Below.refl _ _).alloc (Nat.le_refl _) (.cells #[] 2)))
    have hl1 := (X.out.keep hb1).lt
    have O1 := Lib.hid (OwnI.empty (E := 2) (base := w.heap.size + 1) w1 hl1)
    have hblA : Below w.heap.size w (w1.alloc (.cells #[] 2)) := hbl1.alloc hs1 _
    clear x0 x1 x2 xl hb1 X hl1
    go_wp2_with fail
    go_loopw [4, 5] (fun s4 s5 wr => ∃ (k : Nat) (a1 : Option Addr) (c1 : Nat), k ≤ sn ∧ s4 = .slice a1 k c1 ∧ s5 = .int .i64 k ∧ Below w.heap.size w wr ∧ Hid (OwnI 2 wr (w.heap.size + 1) a1 k c1 ((sz.take k).map wN)) ∧ Hid (Blk wr w.heap.size #[.slice sa sn sc, .slice ta tn tc, .slice ra rn rc] 59)) (fun _ s5 _ => sn - (intOf s5).toNat)
    case atStart => exact ⟨0, _, 0, Nat.zero_le _, rfl, rfl, hblA, O1, X1⟩
    case round =>
      clear O1 X1 hblA
      obtain ⟨k, a1, c1, hk, rfl, rfl, hbl, HO, X⟩ := hrel
      have hsz := hbl.size
      have x0 := X.out.cell 0
      have x1 := X.out.cell 1
      have x2 := X.out.cell 2
      have xl := X.out.lt
      simp at x0 x1 x2
      by_cases hlt : k < sn
      · have hlt' : (k : Int) < (sn : Int) := by omega
        have hk0 : (0 : Int) ≤ (k : Int) := by omega
        obtain ⟨b, off, z, rfl, hb, hx, hcell, hwf⟩ := (HI.out.keep hbl).at hlt
        have hz2 := allIn_at HS.out hx
        have hz0 := hz2.1
        have hz1 := hz2.2
        have Hx := Lib.hid (wl_take hx)
        have Hw := wN_in hz0 hz1
        clear hx hz2
        go_wp2_with fail
        go_wp2_with fail
        refine Calls.mono ((spec_l23Width hz0 hz1)) ?_
        rintro e _ ⟨rfl, rfl⟩
        go_wp2_with (at_builtin; refine append1_i64 rfl _ _ 28 2 rfl Try.underlying28 Try.infoi64 (w.heap.size + 1) _ _ _ _ (HO.out.keep ((Below.refl _ _).alloc (Nat.le_refl _) (.cells #[.int .i64 (wN z)] 2))) rfl wr.heap.size (wN z) rfl (by simp) (by unfold I64; omega) (by omega) (by simp; omega) ?_; intro a2 c2 w2 hown2 hb2 hg2)
        have Hown2 := Lib.hid hown2
        have X2 := Lib.hid (Blk.keepB (X.out.keep ((Below.refl _ _).alloc (Nat.le_refl _) (.cells #[.int .i64 (wN z)] 2))) hb2 (by omega))
        clear hown2 hg2
        go_roundw
        case rel => exact ⟨k + 1, a2, c2, by omega, rfl, by go_num, Below.trans (by repeat (first | exact Below.refl _ _ | assumption | refine below_allocS ?_ _ | refine below_callS ?_ (by assumption) | (refine Below.alloc ?_ (by first | omega | (simp; done) | (simp; omega)) _) | (refine Below.setCell ?_ (by first | omega | (simp; done) | (simp; omega)) _) | refine Below.drew ?_ | refine below_drewN ?_ _ | (refine below_call ?_ (by assumption) (by first | omega | (simp; done) | (simp; omega))) | (refine Below.trans ?_ (by assumption)))) (hb2.mono (by omega)), Lib.hid (by rw [Hx.out]; exact Hown2.out), X2⟩
        case measure => simp [intOf]; omega
      · obtain rfl : sn = k := by omega
        have hlt' : ¬ (sn : Int) < (sn : Int) := by omega
        have h1 := HO.out
        rw [take_len HI.out.len] at h1
        have HO2 := Lib.hid h1
        clear h1
        go_wp2
        exact bodyPost_ret (v := .tuple #[.slice a1 sn c1, .int .i64 0]) (by simp [results, Try.results50, go_sem]) rfl ⟨sn, a1, c1, by rw [HC.out], hbl, by rw [HL.out]; exact OwnI.le HO2.out (by omega)⟩
end Go.Proofs.Ytkaikbaagajckaa
namespace Go.Proofs.Ytkaikbaagajckaa
open Go.RowKit
set_option linter.unusedVariables false
set_option linter.unusedSimpArgs false
/-- the bit of x at the place m -/
def bitAt (x : Int) (m : Nat) : Int := bits BinOp.and IntKind.i64 (x / 2 ^ m) 1
theorem bitAt_in {x : Int} {m : Nat} (h0 : 0 ≤ x) (h1 : x ≤ 31) (hm : m ≤ 4) : bitAt x m = 0 ∨ bitAt x m = 1 := by
  have h : ∀ a : Fin 32, ∀ b : Fin 5, bitAt (a.val : Int) b.val = 0 ∨ bitAt (a.val : Int) b.val = 1 := by decide +kernel
  have := h ⟨x.toNat, by omega⟩ ⟨m, by omega⟩
  simp only at this
  rw [Int.toNat_of_nonneg h0] at this
  exact this
/-- the bits of x from the place k - 1 down -/
def bitsDn (x : Int) (k : Nat) : List Int := (List.range k).map fun i : Nat => bitAt x (k - 1 - i)
theorem bitsDn_len (x : Int) (k : Nat) : (bitsDn x k).length = k := by simp [bitsDn]
theorem bitsDn_get {x : Int} {k i : Nat} (h : i < k) : (bitsDn x k)[i]? = some (bitAt x (k - 1 - i)) := range_get h
/-- the bits of a state -/
def stBits (sz vs : List Int) : List Int := (vs.zip sz).flatMap fun p => bitsDn p.1 (wN p.2).toNat
theorem stBits_step {sz vs : List Int} {k : Nat} {x z : Int} (hx : vs[k]? = some x) (hz : sz[k]? = some z) : stBits (sz.take (k + 1)) (vs.take (k + 1)) = stBits (sz.take k) (vs.take k) ++ bitsDn x (wN z).toNat := by
  have h : (vs.zip sz)[k]? = some (x, z) := by rw [List.getElem?_zip_eq_some]; exact ⟨hx, hz⟩
  have e : ∀ m, (vs.take m).zip (sz.take m) = (vs.zip sz).take m := fun m => (List.take_zipWith (f := Prod.mk) (l := vs) (l' := sz)).symm
  rw [stBits, stBits, e, e, take_at h, List.flatMap_append]
  simp
theorem stBits_full {sz vs : List Int} {n : Nat} (h : sz.length = n) (h' : vs.length = n) : stBits (sz.take n) (vs.take n) = stBits sz vs := by rw [take_len h, take_len h']
theorem stateB_at {sz vs : List Int} {k : Nat} {x z : Int} (h : stateB sz vs = true) (hx : vs[k]? = some x) (hz : sz[k]? = some z) : 0 ≤ x ∧ x ≤ z - 1 := by
  rw [stateB, Bool.and_eq_true] at h
  have h2 := h.2
  rw [upB, List.all_eq_true] at h2
  have h3 := h2 k (by simpa using (List.getElem?_eq_some_iff.1 hx).1)
  rw [getD_of hx, hasB_yes hz] at h3
  simpa [inB] using h3
theorem stateB_len {sz vs : List Int} (h : stateB sz vs = true) : vs.length = sz.length := by
  rw [stateB, Bool.and_eq_true] at h
  exact of_decide_eq_true h.1
theorem modelB_len {sz st : List Int} {l : List (RM × RuD)} (h : modelB sz st l = true) : sz.length ≤ 16 := by
  rw [modelB] at h
  simp only [Bool.and_eq_true] at h
  have := h.1
  simp [inB] at this
  omega
def smB (sz : List Int) : Bool := decide ((sz.map wN).sum ≤ 20)
def bsC (sz st : List Int) (l : List (RM × RuD)) (vs : List Int) : Int := if modelB sz st l = false then 1 else if stateB sz vs = false then 2 else if smB sz = false then 3 else 0
set_option maxHeartbeats 1000000 in
theorem impl_isSmall {sa ta ra : Option Addr} {sn sc tn tc rn rc : Nat} {sz : List Int} {w : World} (hI : Ints w sa sn sc sz) (hn : sn ≤ 1048576) (hs : allIn 1 32 sz = true) :
    Calls Try.prog 92 #[.agg #[.slice sa sn sc, .slice ta tn tc, .slice ra rn rc]] w fun e w' => e = .returned (.bool (smB sz)) ∧ Below w.heap.size w w' := by
  have HW := Lib.hid (fun (wx : World) (hb : Below w.heap.size w wx) => impl_widths (ta := ta) (tn := tn) (tc := tc) (ra := ra) (rn := rn) (rc := rc) (hI.keep hb) hn hs)
  have HB := Lib.hid (show smB sz = decide ((sz.map wN).sum ≤ 20) from rfl)
  clear hI hs
  generalize (sz.map wN).sum = S at *
  go_enter Try.func92, Try.ntmps92
  go_wp2_with fail
  refine Calls.mono (HW.out _ (by repeat (first | exact Below.refl _ _ | assumption | refine below_allocS ?_ _ | refine below_callS ?_ (by assumption) | (refine Below.alloc ?_ (by first | omega | (simp; done) | (simp; omega)) _) | (refine Below.setCell ?_ (by first | omega | (simp; done) | (simp; omega)) _) | refine Below.drew ?_ | refine below_drewN ?_ _ | (refine below_call ?_ (by assumption) (by first | omega | (simp; done) | (simp; omega))) | (refine Below.trans ?_ (by assumption))))) ?_
  rintro e w1 ⟨a, c, rfl, hb1, ho⟩
  clear ho
  go_wp2
  go_ret
  exact ⟨ret_bool (by rw [HB.out]), by repeat (first | exact Below.refl _ _ | assumption | refine below_allocS ?_ _ | refine below_callS ?_ (by assumption) | (refine Below.alloc ?_ (by first | omega | (simp; done) | (simp; omega)) _) | (refine Below.setCell ?_ (by first | omega | (simp; done) | (simp; omega)) _) | refine Below.drew ?_ | refine below_drewN ?_ _ | (refine below_call ?_ (by assumption) (by first | omega | (simp; done) | (simp; omega))) | (refine Below.trans ?_ (by assumption)))⟩
set_option maxHeartbeats 2000000 in
theorem impl_bitsOf {sa ta ra va : Option Addr} {sn sc tn tc rn rc vn vc : Nat} {sz vs : List Int} {w : World} (hI : Ints w sa sn sc sz) (hV : Ints w va vn vc vs) (hn : sn ≤ 16) (hs : allIn 1 32 sz = true) (hst : stateB sz vs = true) :
    Calls Try.prog 105 #[.agg #[.slice sa sn sc, .slice ta tn tc, .slice ra rn rc], .slice va vn vc] w fun e w' => ∃ m a c, e = .returned (.slice a m c) ∧ Below w.heap.size w w' ∧ OwnI 2 w' w.heap.size a m c (stBits sz vs) ∧ m ≤ 80 := by
  obtain rfl : vn = sn := by have := hI.len; have := hV.len; have := stateB_len hst; omega
  have HW := Lib.hid (fun (wx : World) (hb : Below w.heap.size w wx) => impl_widths (ta := ta) (tn := tn) (tc := tc) (ra := ra) (rn := rn) (rc := rc) (hI.keep hb) (by omega) hs)
  have HI := Lib.hid hI
  have HV := Lib.hid hV
  have HS := Lib.hid hs
  have HST := Lib.hid hst
  clear hI hs hV hst
  go_enter Try.func105, Try.ntmps105
  go_wp2_with fail
  refine Calls.mono (HW.out _ (by repeat (first | exact Below.refl _ _ | assumption | refine below_allocS ?_ _ | refine below_callS ?_ (by assumption) | (refine Below.alloc ?_ (by first | omega | (simp; done) | (simp; omega)) _) | (refine Below.setCell ?_ (by first | omega | (simp; done) | (simp; omega)) _) | refine Below.drew ?_ | refine below_drewN ?_ _ | (refine below_call ?_ (by assumption) (by first | omega | (simp; done) | (simp; omega))) | (refine Below.trans ?_ (by assumption))))) ?_
  rintro e w1 ⟨aw, cw, rfl, hb1, ho⟩
  have hbl1 : Below w.heap.size w w1 := by repeat (first | exact Below.refl _ _ | assumption | refine below_allocS ?_ _ | refine below_callS ?_ (by assumption) | (refine Below.alloc ?_ (by first | omega | (simp; done) | (simp; omega)) _) | (refine Below.setCell ?_ (by first | omega | (simp; done) | (simp; omega)) _) | refine Below.drew ?_ | refine below_drewN ?_ _ | (refine below_call ?_ (by assumption) (by first | omega | (simp; done) | (simp; omega))) | (refine Below.trans ?_ (by assumption)))
  have HWI := Lib.hid ho.ints
  clear ho hb1
  go_wp2_with fail
  go_loopw [7, 8, 9, 10, 18] (fun s7 _ _ _ s18 wr => ∃ (k m1 : Nat) (a1 : Option Addr) (c1 : Nat), k ≤ vn ∧ s7 = .slice a1 m1 c1 ∧ s18 = .int .i64 k ∧ Below w1.heap.size w1 wr ∧ m1 ≤ 5 * k ∧ Hid (OwnI 2 wr w1.heap.size a1 m1 c1 (stBits (sz.take k) (vs.take k)))) (fun _ _ _ _ s18 _ => vn - (intOf s18).toNat)
  case atStart => exact ⟨0, 0, none, 0, Nat.zero_le _, rfl, rfl, Below.refl _ _, by omega, Lib.hid (OwnI.nil _ _ _)⟩
  case round =>
    obtain ⟨k, m1, a1, c1, hk, rfl, rfl, hbw, hm1, HO⟩ := hrel
    have hbl : Below w.heap.size w wr := below_call hbl1 hbw hbl1.size
    have hsz := hbw.size
    by_cases hlt : k < vn
    · have hlt' : (k : Int) < (vn : Int) := by omega
      have hk0 : (0 : Int) ≤ (k : Int) := by omega
      obtain ⟨b, off, x, rfl, hb, hx, hcell, hwf⟩ := (HV.out.keep hbl).at hlt
      obtain ⟨z, hz⟩ : ∃ z, sz[k]? = some z := ⟨_, List.getElem?_eq_getElem (show k < sz.length by rw [HI.out.len]; exact hlt)⟩
      have hz2 := allIn_at HS.out hz
      have hx2 := stateB_at HST.out hx hz
      have hw2 := wN_cases hz2.1 hz2.2
      obtain ⟨W, hW⟩ : ∃ W : Nat, wN z = (W : Int) := ⟨(wN z).toNat, by omega⟩
      obtain ⟨b', off', y, rfl, hb', hy, hcell', _⟩ := (HWI.out.keep hbw).at hlt
      obtain rfl : y = (W : Int) := by rw [List.getElem?_map, hz] at hy; simp at hy; omega
      have HX := Lib.hid (stBits_step hx hz)
      rw [hW, Int.toNat_natCast] at HX
      have HB := Lib.hid (show ∀ j, j ≤ 4 → bitAt x j = 0 ∨ bitAt x j = 1 from fun j hj => bitAt_in hx2.1 (by omega) hj)
      have hW5 : W ≤ 5 := by omega
      have e1 : IntKind.i64.wrap ((W : Int) - 1) = (W : Int) - 1 := IntWalk.i64_in _ (by omega)
      clear hx hz hy hz2 hx2 hw2 hW
      go_wp2_with fail
      go_loopw [7, 10] (fun s7 s10 wq => ∃ (i m2 : Nat) (a2 : Option Addr) (c2 : Nat) (bt : Int), i ≤ W ∧ s10 = .int .i64 bt ∧ bt = (W : Int) - 1 - i ∧ s7 = .slice a2 m2 c2 ∧ Below w1.heap.size w1 wq ∧ m2 ≤ 5 * k + i ∧ Hid (OwnI 2 wq w1.heap.size a2 m2 c2 (stBits (sz.take k) (vs.take k) ++ (bitsDn x W).take i))) (fun _ s10 _ => (intOf s10 + 1).toNat)
      case atStart => exact ⟨0, m1, a1, c1, _, Nat.zero_le _, rfl, by omega, rfl, hbw, by omega, by simpa using HO⟩
      case round =>
        clear HO hcell hcell' hbl hbw hsz
        obtain ⟨i, m2, a2, c2, bt, hi, rfl, hbt, rfl, hbw, hm2, HO⟩ := hrel
        have hbl : Below w.heap.size w wr := below_call hbl1 hbw hbl1.size
        have hsz := hbw.size
        by_cases hlti : i < W
        · obtain ⟨j, hj⟩ : ∃ j : Nat, bt = (j : Int) := ⟨bt.toNat, by omega⟩
          subst hj
          have hj2 : W - 1 - i = j := by omega
          have hj4 : j ≤ 4 := by omega
          have Hg := Lib.hid (take_at (bitsDn_get (x := x) hlti))
          rw [hj2] at Hg
          have hbit := HB.out j hj4
          have HB9 := Lib.hid (show I64 (bits BinOp.and IntKind.i64 (x / 2 ^ j) 1) by have h : I64 (bitAt x j) := (by rcases hbit with h | h <;> rw [h] <;> (unfold I64; omega)); exact h)
          clear hbit
          go_wp2_with (at_builtin; refine append1_i64 rfl _ _ 28 2 rfl Try.underlying28 Try.infoi64 w1.heap.size _ _ _ _ (HO.out.keep ((Below.refl _ _).alloc (Nat.le_refl _) (.cells #[.int .i64 (bits BinOp.and IntKind.i64 (x / 2 ^ j) 1)] 2))) rfl wr.heap.size (bits BinOp.and IntKind.i64 (x / 2 ^ j) 1) rfl (by simp) HB9.out (by omega) (by simp; omega) ?_; intro a3 c3 w3 hown3 hb3 hg3)
          have Hown3 := Lib.hid hown3
          clear hown3 hg3
          go_roundw
          case rel => exact ⟨i + 1, m2 + 1, a3, c3, _, by omega, rfl, by omega, rfl, Below.trans (by repeat (first | exact Below.refl _ _ | assumption | refine below_allocS ?_ _ | refine below_callS ?_ (by assumption) | (refine Below.alloc ?_ (by first | omega | (simp; done) | (simp; omega)) _) | (refine Below.setCell ?_ (by first | omega | (simp; done) | (simp; omega)) _) | refine Below.drew ?_ | refine below_drewN ?_ _ | (refine below_call ?_ (by assumption) (by first | omega | (simp; done) | (simp; omega))) | (refine Below.trans ?_ (by assumption)))) hb3, by omega, Lib.hid (by rw [Hg.out, ← List.append_assoc]; exact Hown3.out)⟩
          case measure => simp [intOf]; omega
        · have hj0 : ¬ 0 ≤ bt := by omega
          obtain rfl : i = W := by omega
          have h1 := HO.out
          rw [show (bitsDn x i).take i = bitsDn x i from List.take_of_length_le (by rw [bitsDn_len]; omega), ← HX.out] at h1
          have HO2 := Lib.hid h1
          clear h1
          go_wp2_with fail
          go_roundw
          case rel => exact ⟨k + 1, m2, a2, c2, by omega, rfl, by go_num, hbw, by omega, HO2⟩
          case measure => simp [intOf]; omega
    · obtain rfl : vn = k := by omega
      have hlt' : ¬ (vn : Int) < (vn : Int) := by omega
      have h1 := HO.out
      rw [take_len HI.out.len, take_len HV.out.len] at h1
      have HO2 := Lib.hid h1
      clear h1
      go_wp2
      go_ret
      exact ⟨_, _, _, rfl, hbl, HO2.out.le hbl1.size, by omega⟩
end Go.Proofs.Ytkaikbaagajckaa
namespace Go.Proofs.Ytkaikbaagajckaa
open Go.RowKit
set_option linter.unusedVariables false
set_option linter.unusedSimpArgs false
def scC (sz st : List Int) (l : List (RM × RuD)) (vs : List Int) : Int := if modelB sz st l = false then 1 else if stateB sz vs = false then 2 else 0
def bsL (sz st : List Int) (l : List (RM × RuD)) (vs : List Int) : List Int := if bsC sz st l vs = 0 then stBits sz vs else []
theorem FR.self {w w' : World} {a : Option Addr} {n c : Nat} {l : List (RM × RuD)} (h : FR w w a n c l) (hb : Below w.heap.size w w') : FR w' w' a n c l := by
  have hf := Flats.keep h hb
  exact ⟨hf.len, hf.cap, hf.pos, fun x hx => by obtain ⟨q1, q2, q3, q4, q5, q6⟩ := hf.wf x hx; exact ⟨q1, q2, q3.keep hb, q4, q5.keep hb, q6⟩, hf.nil⟩
set_option maxHeartbeats 1000000 in
theorem impl_stateCode {sa ta ra va : Option Addr} {sn sc tn tc rn rc vn vc : Nat} {sz st vs : List Int} {l : List (RM × RuD)} {w : World} (hI : Ints w sa sn sc sz) (hn : sn ≤ 1048576) (hT : Ints w ta tn tc st) (ht : tn ≤ 1048576) (hR : FR w w ra rn rc l) (hr : rn ≤ 1048576) (hV : Ints w va vn vc vs) (hv : vn ≤ 1048576) :
    Calls Try.prog 104 #[.agg #[.slice sa sn sc, .slice ta tn tc, .slice ra rn rc], .slice va vn vc] w fun e w' => e = .returned (.int .i64 (scC sz st l vs)) ∧ Below w.heap.size w w' := by
  have KM := fun (wx : World) (hb : Below w.heap.size w wx) => impl_IsModel (hI.keep hb) hn (hT.keep hb) ht (hR.self hb) hr
  cases hm : modelB sz st l
  · simp only [hm] at KM
    have K1 := Lib.hid KM
    have HC := Lib.hid (show scC sz st l vs = 1 by rw [scC, if_pos hm])
    clear KM hm hI hT hR hV
    go_enter Try.func104, Try.ntmps104
    go_wp2_with fail
    refine Calls.mono (K1.out _ (by repeat (first | exact Below.refl _ _ | assumption | refine below_allocS ?_ _ | refine below_callS ?_ (by assumption) | (refine Below.alloc ?_ (by first | omega | (simp; done) | (simp; omega)) _) | (refine Below.setCell ?_ (by first | omega | (simp; done) | (simp; omega)) _) | refine Below.drew ?_ | refine below_drewN ?_ _ | (refine below_call ?_ (by assumption) (by first | omega | (simp; done) | (simp; omega))) | (refine Below.trans ?_ (by assumption))))) ?_
    rintro e w1 ⟨rfl, hb_w1⟩
    obtain ⟨hc_w1, hf_w1⟩ := bcell hb_w1
    have hs_w1 := hb_w1.size
    go_wp2
    go_ret
    exact ⟨by rw [HC.out]; rfl, by repeat (first | exact Below.refl _ _ | assumption | refine below_allocS ?_ _ | refine below_callS ?_ (by assumption) | (refine Below.alloc ?_ (by first | omega | (simp; done) | (simp; omega)) _) | (refine Below.setCell ?_ (by first | omega | (simp; done) | (simp; omega)) _) | refine Below.drew ?_ | refine below_drewN ?_ _ | (refine below_call ?_ (by assumption) (by first | omega | (simp; done) | (simp; omega))) | (refine Below.trans ?_ (by assumption)))⟩
  · simp only [hm] at KM
    have K1 := Lib.hid KM
    have KS := fun (wx : World) (hb : Below w.heap.size w wx) => impl_isState (ta := ta) (tn := tn) (tc := tc) (ra := ra) (rn := rn) (rc := rc) (hI.keep hb) (hV.keep hb) hn hv (modelB_all hm)
    cases hs : stateB sz vs
    all_goals
      simp only [hs] at KS
      have K2 := Lib.hid KS
      have HC := Lib.hid (show scC sz st l vs = _ by rw [scC, if_neg (by simp [hm]), hs])
      clear KM KS hm hs hI hT hR hV
      go_enter Try.func104, Try.ntmps104
      go_wp2_with fail
      refine Calls.mono (K1.out _ (by repeat (first | exact Below.refl _ _ | assumption | refine below_allocS ?_ _ | refine below_callS ?_ (by assumption) | (refine Below.alloc ?_ (by first | omega | (simp; done) | (simp; omega)) _) | (refine Below.setCell ?_ (by first | omega | (simp; done) | (simp; omega)) _) | refine Below.drew ?_ | refine below_drewN ?_ _ | (refine below_call ?_ (by assumption) (by first | omega | (simp; done) | (simp; omega))) | (refine Below.trans ?_ (by assumption))))) ?_
      rintro e w1 ⟨rfl, hb_w1⟩
      obtain ⟨hc_w1, hf_w1⟩ := bcell hb_w1
      have hs_w1 := hb_w1.size
      simp at hs_w1
      have hz1 : w.heap.size < w1.heap.size := by omega
      go_wp2_with fail
      refine Calls.mono (K2.out _ (by repeat (first | exact Below.refl _ _ | assumption | refine below_allocS ?_ _ | refine below_callS ?_ (by assumption) | (refine Below.alloc ?_ (by first | omega | (simp; done) | (simp; omega)) _) | (refine Below.setCell ?_ (by first | omega | (simp; done) | (simp; omega)) _) | refine Below.drew ?_ | refine below_drewN ?_ _ | (refine below_call ?_ (by assumption) (by first | omega | (simp; done) | (simp; omega))) | (refine Below.trans ?_ (by assumption))))) ?_
      rintro e w2 ⟨rfl, hb_w2⟩
      obtain ⟨hc_w2, hf_w2⟩ := bcell hb_w2
      have hs_w2 := hb_w2.size
      go_wp2
      go_ret
      exact ⟨by rw [HC.out]; rfl, by repeat (first | exact Below.refl _ _ | assumption | refine below_allocS ?_ _ | refine below_callS ?_ (by assumption) | (refine Below.alloc ?_ (by first | omega | (simp; done) | (simp; omega)) _) | (refine Below.setCell ?_ (by first | omega | (simp; done) | (simp; omega)) _) | refine Below.drew ?_ | refine below_drewN ?_ _ | (refine below_call ?_ (by assumption) (by first | omega | (simp; done) | (simp; omega))) | (refine Below.trans ?_ (by assumption)))⟩
set_option maxHeartbeats 2000000 in
theorem impl_BitsOfState {sa ta ra va : Option Addr} {sn sc tn tc rn rc vn vc : Nat} {sz st vs : List Int} {l : List (RM × RuD)} {w : World} (hI : Ints w sa sn sc sz) (hn : sn ≤ 1048576) (hT : Ints w ta tn tc st) (ht : tn ≤ 1048576) (hR : FR w w ra rn rc l) (hr : rn ≤ 1048576) (hV : Ints w va vn vc vs) (hv : vn ≤ 1048576) :
    Calls Try.prog 43 #[.agg #[.slice sa sn sc, .slice ta tn tc, .slice ra rn rc], .slice va vn vc] w fun e w' => RetIC 2 w (bsL sz st l vs) (bsC sz st l vs) e w' := by
  have KC := fun (wx : World) (hb : Below w.heap.size w wx) => impl_stateCode (hI.keep hb) hn (hT.keep hb) ht (hR.self hb) hr (hV.keep hb) hv
  by_cases h0 : scC sz st l vs = 0
  · have hm : modelB sz st l = true := by cases hm : modelB sz st l with | true => rfl | false => rw [scC, if_pos hm] at h0; cases h0
    have hs : stateB sz vs = true := by cases hs : stateB sz vs with | true => rfl | false => rw [scC, if_neg (by simp [hm]), if_pos hs] at h0; cases h0
    simp only [h0] at KC
    have K1 := Lib.hid KC
    have KS := fun (wx : World) (hb : Below w.heap.size w wx) => impl_isSmall (ta := ta) (tn := tn) (tc := tc) (ra := ra) (rn := rn) (rc := rc) (hI.keep hb) hn (modelB_all hm)
    have hn16 : sn ≤ 16 := by have := modelB_len hm; have := hI.len; omega
    cases hq : smB sz
    · simp only [hq] at KS
      have K2 := Lib.hid KS
      have HC := Lib.hid (show bsC sz st l vs = 3 by rw [bsC, if_neg (by simp [hm]), if_neg (by simp [hs]), if_pos hq])
      have HL := Lib.hid (show bsL sz st l vs = [] by rw [bsL, HC.out]; rfl)
      clear KC KS hm hs hq h0 hI hT hR hV
      go_enter Try.func43, Try.ntmps43
      go_wp2_with fail
      refine Calls.mono (K1.out _ (by repeat (first | exact Below.refl _ _ | assumption | refine below_allocS ?_ _ | refine below_callS ?_ (by assumption) | (refine Below.alloc ?_ (by first | omega | (simp; done) | (simp; omega)) _) | (refine Below.setCell ?_ (by first | omega | (simp; done) | (simp; omega)) _) | refine Below.drew ?_ | refine below_drewN ?_ _ | (refine below_call ?_ (by assumption) (by first | omega | (simp; done) | (simp; omega))) | (refine Below.trans ?_ (by assumption))))) ?_
      rintro e w1 ⟨rfl, hb_w1⟩
      obtain ⟨hc_w1, hf_w1⟩ := bcell hb_w1
      have hs_w1 := hb_w1.size
      simp at hs_w1
      have hz1 : w.heap.size < w1.heap.size := by omega
      go_wp2_with fail
      refine Calls.mono (K2.out _ (by repeat (first | exact Below.refl _ _ | assumption | refine below_allocS ?_ _ | refine below_callS ?_ (by assumption) | (refine Below.alloc ?_ (by first | omega | (simp; done) | (simp; omega)) _) | (refine Below.setCell ?_ (by first | omega | (simp; done) | (simp; omega)) _) | refine Below.drew ?_ | refine below_drewN ?_ _ | (refine below_call ?_ (by assumption) (by first | omega | (simp; done) | (simp; omega))) | (refine Below.trans ?_ (by assumption))))) ?_
      rintro e w2 ⟨rfl, hb_w2⟩
      obtain ⟨hc_w2, hf_w2⟩ := bcell hb_w2
      have hs_w2 := hb_w2.size
      go_wp2
      exact bodyPost_ret (v := .tuple #[.slice none 0 0, .int .i64 3]) (by simp [results, Try.results43, go_sem]) rfl ⟨0, none, 0, by rw [HC.out], by repeat (first | exact Below.refl _ _ | assumption | refine below_allocS ?_ _ | refine below_callS ?_ (by assumption) | (refine Below.alloc ?_ (by first | omega | (simp; done) | (simp; omega)) _) | (refine Below.setCell ?_ (by first | omega | (simp; done) | (simp; omega)) _) | refine Below.drew ?_ | refine below_drewN ?_ _ | (refine below_call ?_ (by assumption) (by first | omega | (simp; done) | (simp; omega))) | (refine Below.trans ?_ (by assumption))), by rw [HL.out]; exact OwnI.nil _ _ _⟩
    · simp only [hq] at KS
      have K2 := Lib.hid KS
      have K3 := Lib.hid (fun (wx : World) (hb : Below w.heap.size w wx) => impl_bitsOf (ta := ta) (tn := tn) (tc := tc) (ra := ra) (rn := rn) (rc := rc) (hI.keep hb) (hV.keep hb) hn16 (modelB_all hm) hs)
      have HC := Lib.hid (show bsC sz st l vs = 0 by rw [bsC, if_neg (by simp [hm]), if_neg (by simp [hs]), if_neg (by simp [hq])])
      have HL := Lib.hid (show bsL sz st l vs = stBits sz vs by rw [bsL, if_pos HC.out])
      clear KC KS hm hs hq h0 hI hT hR hV
      go_enter Try.func43, Try.ntmps43
      go_wp2_with fail
      refine Calls.mono (K1.out _ (by repeat (first | exact Below.refl _ _ | assumption | refine below_allocS ?_ _ | refine below_callS ?_ (by assumption) | (refine Below.alloc ?_ (by first | omega | (simp; done) | (simp; omega)) _) | (refine Below.setCell ?_ (by first | omega | (simp; done) | (simp; omega)) _) | refine Below.drew ?_ | refine below_drewN ?_ _ | (refine below_call ?_ (by assumption) (by first | omega | (simp; done) | (simp; omega))) | (refine Below.trans ?_ (by assumption))))) ?_
      rintro e w1 ⟨rfl, hb_w1⟩
      obtain ⟨hc_w1, hf_w1⟩ := bcell hb_w1
      have hs_w1 := hb_w1.size
      simp at hs_w1
      have hz1 : w.heap.size < w1.heap.size := by omega
      go_wp2_with fail
      refine Calls.mono (K2.out _ (by repeat (first | exact Below.refl _ _ | assumption | refine below_allocS ?_ _ | refine below_callS ?_ (by assumption) | (refine Below.alloc ?_ (by first | omega | (simp; done) | (simp; omega)) _) | (refine Below.setCell ?_ (by first | omega | (simp; done) | (simp; omega)) _) | refine Below.drew ?_ | refine below_drewN ?_ _ | (refine below_call ?_ (by assumption) (by first | omega | (simp; done) | (simp; omega))) | (refine Below.trans ?_ (by assumption))))) ?_
      rintro e w2 ⟨rfl, hb_w2⟩
      obtain ⟨hc_w2, hf_w2⟩ := bcell hb_w2
      have hs_w2 := hb_w2.size
      have hz2 : w.heap.size < w2.heap.size := by omega
      have hbl2 : Below w.heap.size w w2 := by repeat (first | exact Below.refl _ _ | assumption | refine below_allocS ?_ _ | refine below_callS ?_ (by assumption) | (refine Below.alloc ?_ (by first | omega | (simp; done) | (simp; omega)) _) | (refine Below.setCell ?_ (by first | omega | (simp; done) | (simp; omega)) _) | refine Below.drew ?_ | refine below_drewN ?_ _ | (refine below_call ?_ (by assumption) (by first | omega | (simp; done) | (simp; omega))) | (refine Below.trans ?_ (by assumption)))
      go_wp2_with fail
      refine Calls.mono (K3.out _ hbl2) ?_
      rintro e w3 ⟨m, a, c, rfl, hb3, ho, hm3⟩
      have HO := Lib.hid ho
      clear ho
      go_wp2
      exact bodyPost_ret (v := .tuple #[.slice a m c, .int .i64 0]) (by simp [results, Try.results43, go_sem]) rfl ⟨m, a, c, by rw [HC.out], below_callS hbl2 hb3, by rw [HL.out]; exact OwnI.le HO.out hbl2.size⟩
  · have h09 : (scC sz st l vs != 0) = true := by rw [bne_iff_ne]; exact h0
    have hbc : bsC sz st l vs = scC sz st l vs := by
      rw [scC] at h0 ⊢
      rw [bsC]
      split
      · rfl
      · split
        · rfl
        · rename_i h1 h2; rw [if_neg h1, if_neg h2] at h0; exact absurd rfl h0
    have HC := Lib.hid hbc
    have HL := Lib.hid (show bsL sz st l vs = [] by rw [bsL, hbc, if_neg h0])
    generalize scC sz st l vs = code at *
    have K1 := Lib.hid KC
    clear KC hbc hI hT hR hV
    go_enter Try.func43, Try.ntmps43
    go_wp2_with fail
    refine Calls.mono (K1.out _ (by repeat (first | exact Below.refl _ _ | assumption | refine below_allocS ?_ _ | refine below_callS ?_ (by assumption) | (refine Below.alloc ?_ (by first | omega | (simp; done) | (simp; omega)) _) | (refine Below.setCell ?_ (by first | omega | (simp; done) | (simp; omega)) _) | refine Below.drew ?_ | refine below_drewN ?_ _ | (refine below_call ?_ (by assumption) (by first | omega | (simp; done) | (simp; omega))) | (refine Below.trans ?_ (by assumption))))) ?_
    rintro e w1 ⟨rfl, hb_w1⟩
    obtain ⟨hc_w1, hf_w1⟩ := bcell hb_w1
    have hs_w1 := hb_w1.size
    go_wp2
    exact bodyPost_ret (v := .tuple #[.slice none 0 0, .int .i64 code]) (by simp [results, Try.results43, go_sem]) rfl ⟨0, none, 0, by rw [HC.out], by repeat (first | exact Below.refl _ _ | assumption | refine below_allocS ?_ _ | refine below_callS ?_ (by assumption) | (refine Below.alloc ?_ (by first | omega | (simp; done) | (simp; omega)) _) | (refine Below.setCell ?_ (by first | omega | (simp; done) | (simp; omega)) _) | refine Below.drew ?_ | refine below_drewN ?_ _ | (refine below_call ?_ (by assumption) (by first | omega | (simp; done) | (simp; omega))) | (refine Below.trans ?_ (by assumption))), by rw [HL.out]; exact OwnI.nil _ _ _⟩
end Go.Proofs.Ytkaikbaagajckaa
namespace Go.Proofs.Ytkaikbaagajckaa
open Go.RowKit
set_option linter.unusedVariables false
set_option linter.unusedSimpArgs false
def smC (sz : List Int) : Int := if smB sz = true then 0 else 3
set_option maxHeartbeats 1000000 in
theorem spec_l20Code {sa ta ra va : Option Addr} {sn sc tn tc rn rc vn vc : Nat} {sz st vs : List Int} {l : List (RM × RuD)} {w : World} (hI : Ints w sa sn sc sz) (hn : sn ≤ 1048576) (hT : Ints w ta tn tc st) (ht : tn ≤ 1048576) (hR : FR w w ra rn rc l) (hr : rn ≤ 1048576) (hV : Ints w va vn vc vs) (hv : vn ≤ 1048576) :
    Calls Try.prog 106 #[.agg #[.slice sa sn sc, .slice ta tn tc, .slice ra rn rc], .slice va vn vc] w fun e w' => e = .returned (.int .i64 (scC sz st l vs)) ∧ Below w.heap.size w w' := by
  have KM := fun (wx : World) (hb : Below w.heap.size w wx) => spec_IsModel (hI.keep hb) hn (hT.keep hb) ht (hR.self hb) hr
  cases hm : modelB sz st l
  · simp only [hm] at KM
    have K1 := Lib.hid KM
    have HC := Lib.hid (show scC sz st l vs = 1 by rw [scC, if_pos hm])
    clear KM hm hI hT hR hV
    go_enter Try.func106, Try.ntmps106
    go_wp2_with fail
    refine Calls.mono (K1.out _ (by repeat (first | exact Below.refl _ _ | assumption | refine below_allocS ?_ _ | refine below_callS ?_ (by assumption) | (refine Below.alloc ?_ (by first | omega | (simp; done) | (simp; omega)) _) | (refine Below.setCell ?_ (by first | omega | (simp; done) | (simp; omega)) _) | refine Below.drew ?_ | refine below_drewN ?_ _ | (refine below_call ?_ (by assumption) (by first | omega | (simp; done) | (simp; omega))) | (refine Below.trans ?_ (by assumption))))) ?_
    rintro e w1 ⟨rfl, hb_w1⟩
    obtain ⟨hc_w1, hf_w1⟩ := bcell hb_w1
    have hs_w1 := hb_w1.size
    go_wp2
    go_ret
    exact ⟨by rw [HC.out]; rfl, by repeat (first | exact Below.refl _ _ | assumption | refine below_allocS ?_ _ | refine below_callS ?_ (by assumption) | (refine Below.alloc ?_ (by first | omega | (simp; done) | (simp; omega)) _) | (refine Below.setCell ?_ (by first | omega | (simp; done) | (simp; omega)) _) | refine Below.drew ?_ | refine below_drewN ?_ _ | (refine below_call ?_ (by assumption) (by first | omega | (simp; done) | (simp; omega))) | (refine Below.trans ?_ (by assumption)))⟩
  · simp only [hm] at KM
    have K1 := Lib.hid KM
    have KS := fun (wx : World) (hb : Below w.heap.size w wx) => spec_l20State (ta := ta) (tn := tn) (tc := tc) (ra := ra) (rn := rn) (rc := rc) (hI.keep hb) (hV.keep hb) hn hv (modelB_all hm)
    cases hs : stateB sz vs
    all_goals
      simp only [hs] at KS
      have K2 := Lib.hid KS
      have HC := Lib.hid (show scC sz st l vs = _ by rw [scC, if_neg (by simp [hm]), hs])
      clear KM KS hm hs hI hT hR hV
      go_enter Try.func106, Try.ntmps106
      go_wp2_with fail
      refine Calls.mono (K1.out _ (by repeat (first | exact Below.refl _ _ | assumption | refine below_allocS ?_ _ | refine below_callS ?_ (by assumption) | (refine Below.alloc ?_ (by first | omega | (simp; done) | (simp; omega)) _) | (refine Below.setCell ?_ (by first | omega | (simp; done) | (simp; omega)) _) | refine Below.drew ?_ | refine below_drewN ?_ _ | (refine below_call ?_ (by assumption) (by first | omega | (simp; done) | (simp; omega))) | (refine Below.trans ?_ (by assumption))))) ?_
      rintro e w1 ⟨rfl, hb_w1⟩
      obtain ⟨hc_w1, hf_w1⟩ := bcell hb_w1
      have hs_w1 := hb_w1.size
      simp at hs_w1
      have hz1 : w.heap.size < w1.heap.size := by omega
      go_wp2_with fail
      refine Calls.mono (K2.out _ (by repeat (first | exact Below.refl _ _ | assumption | refine below_allocS ?_ _ | refine below_callS ?_ (by assumption) | (refine Below.alloc ?_ (by first | omega | (simp; done) | (simp; omega)) _) | (refine Below.setCell ?_ (by first | omega | (simp; done) | (simp; omega)) _) | refine Below.drew ?_ | refine below_drewN ?_ _ | (refine below_call ?_ (by assumption) (by first | omega | (simp; done) | (simp; omega))) | (refine Below.trans ?_ (by assumption))))) ?_
      rintro e w2 ⟨rfl, hb_w2⟩
      obtain ⟨hc_w2, hf_w2⟩ := bcell hb_w2
      have hs_w2 := hb_w2.size
      go_wp2
      go_ret
      exact ⟨by rw [HC.out]; rfl, by repeat (first | exact Below.refl _ _ | assumption | refine below_allocS ?_ _ | refine below_callS ?_ (by assumption) | (refine Below.alloc ?_ (by first | omega | (simp; done) | (simp; omega)) _) | (refine Below.setCell ?_ (by first | omega | (simp; done) | (simp; omega)) _) | refine Below.drew ?_ | refine below_drewN ?_ _ | (refine below_call ?_ (by assumption) (by first | omega | (simp; done) | (simp; omega))) | (refine Below.trans ?_ (by assumption)))⟩
set_option maxHeartbeats 1000000 in
theorem spec_l23Total {sa ta ra : Option Addr} {sn sc tn tc rn rc : Nat} {sz : List Int} {w : World} (hI : Ints w sa sn sc sz) (hn : sn ≤ 1048576) (hs : allIn 1 32 sz = true) :
    Calls Try.prog 86 #[.agg #[.slice sa sn sc, .slice ta tn tc, .slice ra rn rc]] w fun e w' => e = .returned (.int .i64 (sz.map wN).sum) ∧ Below w.heap.size w w' := by
  have HI := Lib.hid hI
  have HS := Lib.hid hs
  clear hI hs
  have X := Lib.hid (Blk.made w #[.slice sa sn sc, .slice ta tn tc, .slice ra rn rc] 59)
  have hbA : Below w.heap.size w (w.alloc (.cells #[.slice sa sn sc, .slice ta tn tc, .slice ra rn rc] 59)) := by repeat (first | exact Below.refl _ _ | assumption | refine below_allocS ?_ _ | refine below_callS ?_ (by assumption) | (refine Below.alloc ?_ (by first | omega | (simp; done) | (simp; omega)) _) | (refine Below.setCell ?_ (by first | omega | (simp; done) | (simp; omega)) _) | refine Below.drew ?_ | refine below_drewN ?_ _ | (refine below_call ?_ (by assumption) (by first | omega | (simp; done) | (simp; omega))) | (refine Below.trans ?_ (by assumption)))
  obtain ⟨wA, hwA⟩ : ∃ wA : World, wA = w.alloc (.cells #[.slice sa sn sc, .slice ta tn tc, .slice ra rn rc] 59) := ⟨_, rfl⟩
  rw [← hwA] at X hbA
  have HwA := Lib.hid hwA
  clear hwA
  go_enter Try.func86, Try.ntmps86
  go_wp2_with fail
  rw [← HwA.out]
  have x0 := X.out.cell 0
  have xl := X.out.lt
  simp at x0
  go_loop [3, 4] (fun s3 s4 => ∃ (k : Nat) (t : Int), k ≤ sn ∧ s4 = .int .i64 k ∧ s3 = .int .i64 t ∧ 0 ≤ t ∧ t ≤ 5 * k ∧ Hid (t = ((sz.take k).map wN).sum)) (fun _ s4 => sn - (intOf s4).toNat)
  case atStart => exact ⟨0, 0, Nat.zero_le _, rfl, rfl, by omega, by omega, Lib.hid (by simp)⟩
  case round =>
    obtain ⟨k, t, hk, rfl, rfl, ht0, ht1, A⟩ := hrel
    by_cases hlt : k < sn
    · have hlt' : (k : Int) < (sn : Int) := by omega
      have hk0 : (0 : Int) ≤ (k : Int) := by omega
      obtain ⟨b, off, z, rfl, hb, hx, hcell, hwf⟩ := (HI.out.keep hbA).at hlt
      have hz2 := allIn_at HS.out hx
      have hz0 := hz2.1
      have hz1 := hz2.2
      have Hx := Lib.hid (wl_take hx)
      have Hw := wN_in hz0 hz1
      have hw0 := Hw.1
      have hw1 := Hw.2
      clear hx hz2 Hw
      go_wp2_with fail
      go_wp2_with fail
      refine Calls.mono ((spec_l23Width hz0 hz1)) ?_
      rintro e _ ⟨rfl, rfl⟩
      go_wp2_with fail
      go_round
      case rel => exact ⟨k + 1, t + wN z, by omega, by go_num, rfl, by omega, by omega, Lib.hid (by rw [Hx.out, List.sum_append, A.out]; simp)⟩
      case measure => simp [intOf]; omega
    · obtain rfl : sn = k := by omega
      have hlt' : ¬ (sn : Int) < (sn : Int) := by omega
      have h1 := A.out
      rw [take_len HI.out.len] at h1
      subst h1
      go_wp2
      go_ret
      exact ⟨rfl, hbA⟩
set_option maxHeartbeats 1000000 in
theorem spec_l23Small {sa ta ra : Option Addr} {sn sc tn tc rn rc : Nat} {sz : List Int} {w : World} (hI : Ints w sa sn sc sz) (hn : sn ≤ 1048576) (hs : allIn 1 32 sz = true) :
    Calls Try.prog 82 #[.agg #[.slice sa sn sc, .slice ta tn tc, .slice ra rn rc]] w fun e w' => e = .returned (.int .i64 (smC sz)) ∧ Below w.heap.size w w' := by
  have KT := fun (wx : World) (hb : Below w.heap.size w wx) => spec_l23Total (ta := ta) (tn := tn) (tc := tc) (ra := ra) (rn := rn) (rc := rc) (hI.keep hb) hn hs
  have hq : smB sz = decide ((sz.map wN).sum ≤ 20) := rfl
  generalize (sz.map wN).sum = t at *
  have K1 := Lib.hid KT
  clear KT hI hs
  by_cases h : t ≤ 20
  · have HQ := Lib.hid (show smC sz = 0 by rw [smC, hq, decide_eq_true h]; rfl)
    have h' : ¬ 20 < t := by omega
    clear h hq
    go_enter Try.func82, Try.ntmps82
    go_wp2_with fail
    refine Calls.mono (K1.out _ (by repeat (first | exact Below.refl _ _ | assumption | refine below_allocS ?_ _ | refine below_callS ?_ (by assumption) | (refine Below.alloc ?_ (by first | omega | (simp; done) | (simp; omega)) _) | (refine Below.setCell ?_ (by first | omega | (simp; done) | (simp; omega)) _) | refine Below.drew ?_ | refine below_drewN ?_ _ | (refine below_call ?_ (by assumption) (by first | omega | (simp; done) | (simp; omega))) | (refine Below.trans ?_ (by assumption))))) ?_
    rintro e w1 ⟨rfl, hb_w1⟩
    obtain ⟨hc_w1, hf_w1⟩ := bcell hb_w1
    have hs_w1 := hb_w1.size
    go_wp2
    go_ret
    exact ⟨by rw [HQ.out]; rfl, by repeat (first | exact Below.refl _ _ | assumption | refine below_allocS ?_ _ | refine below_callS ?_ (by assumption) | (refine Below.alloc ?_ (by first | omega | (simp; done) | (simp; omega)) _) | (refine Below.setCell ?_ (by first | omega | (simp; done) | (simp; omega)) _) | refine Below.drew ?_ | refine below_drewN ?_ _ | (refine below_call ?_ (by assumption) (by first | omega | (simp; done) | (simp; omega))) | (refine Below.trans ?_ (by assumption)))⟩
  · have HQ := Lib.hid (show smC sz = 3 by rw [smC, hq, decide_eq_false h]; rfl)
    have h' : 20 < t := by omega
    clear h hq
    go_enter Try.func82, Try.ntmps82
    go_wp2_with fail
    refine Calls.mono (K1.out _ (by repeat (first | exact Below.refl _ _ | assumption | refine below_allocS ?_ _ | refine below_callS ?_ (by assumption) | (refine Below.alloc ?_ (by first | omega | (simp; done) | (simp; omega)) _) | (refine Below.setCell ?_ (by first | omega | (simp; done) | (simp; omega)) _) | refine Below.drew ?_ | refine below_drewN ?_ _ | (refine below_call ?_ (by assumption) (by first | omega | (simp; done) | (simp; omega))) | (refine Below.trans ?_ (by assumption))))) ?_
    rintro e w1 ⟨rfl, hb_w1⟩
    obtain ⟨hc_w1, hf_w1⟩ := bcell hb_w1
    have hs_w1 := hb_w1.size
    go_wp2
    go_ret
    exact ⟨by rw [HQ.out]; rfl, by repeat (first | exact Below.refl _ _ | assumption | refine below_allocS ?_ _ | refine below_callS ?_ (by assumption) | (refine Below.alloc ?_ (by first | omega | (simp; done) | (simp; omega)) _) | (refine Below.setCell ?_ (by first | omega | (simp; done) | (simp; omega)) _) | refine Below.drew ?_ | refine below_drewN ?_ _ | (refine below_call ?_ (by assumption) (by first | omega | (simp; done) | (simp; omega))) | (refine Below.trans ?_ (by assumption)))⟩
set_option maxHeartbeats 2000000 in
theorem spec_l23Bits {sa ta ra va : Option Addr} {sn sc tn tc rn rc vn vc : Nat} {sz vs : List Int} {w : World} (hI : Ints w sa sn sc sz) (hV : Ints w va vn vc vs) (hn : sn ≤ 16) (hs : allIn 1 32 sz = true) (hst : stateB sz vs = true) :
    Calls Try.prog 107 #[.agg #[.slice sa sn sc, .slice ta tn tc, .slice ra rn rc], .slice va vn vc] w fun e w' => ∃ m a c, e = .returned (.slice a m c) ∧ Below w.heap.size w w' ∧ OwnI 2 w' w.heap.size a m c (stBits sz vs) ∧ m ≤ 80 := by
  obtain rfl : vn = sn := by have := hI.len; have := hV.len; have := stateB_len hst; omega
  have HI := Lib.hid hI
  have HV := Lib.hid hV
  have HS := Lib.hid hs
  have HST := Lib.hid hst
  clear hI hs hV hst
  have X := Lib.hid (Blk.made w #[.slice sa vn sc, .slice ta tn tc, .slice ra rn rc] 59)
  have hbA : Below w.heap.size w (w.alloc (.cells #[.slice sa vn sc, .slice ta tn tc, .slice ra rn rc] 59)) := by repeat (first | exact Below.refl _ _ | assumption | refine below_allocS ?_ _ | refine below_callS ?_ (by assumption) | (refine Below.alloc ?_ (by first | omega | (simp; done) | (simp; omega)) _) | (refine Below.setCell ?_ (by first | omega | (simp; done) | (simp; omega)) _) | refine Below.drew ?_ | refine below_drewN ?_ _ | (refine below_call ?_ (by assumption) (by first | omega | (simp; done) | (simp; omega))) | (refine Below.trans ?_ (by assumption)))
  obtain ⟨wA, hwA⟩ : ∃ wA : World, wA = w.alloc (.cells #[.slice sa vn sc, .slice ta tn tc, .slice ra rn rc] 59) := ⟨_, rfl⟩
  rw [← hwA] at X hbA
  have HwA := Lib.hid hwA
  have O1 := Lib.hid (show OwnI 2 (wA.alloc (.cells #[] 2)) wA.heap.size (some ⟨w.heap.size + 1, 0, none⟩) 0 0 [] by have h := OwnI.empty (E := 2) (base := wA.heap.size) wA (Nat.le_refl _); have e : wA.heap.size = w.heap.size + 1 := (by rw [hwA]; simp); rw [e] at h ⊢; exact h)
  have hbB : Below w.heap.size w (wA.alloc (.cells #[] 2)) := by repeat (first | exact Below.refl _ _ | assumption | refine below_allocS ?_ _ | refine below_callS ?_ (by assumption) | (refine Below.alloc ?_ (by first | omega | (simp; done) | (simp; omega)) _) | (refine Below.setCell ?_ (by first | omega | (simp; done) | (simp; omega)) _) | refine Below.drew ?_ | refine below_drewN ?_ _ | (refine below_call ?_ (by assumption) (by first | omega | (simp; done) | (simp; omega))) | (refine Below.trans ?_ (by assumption)))
  have X1 := Lib.hid (X.out.keep ((Below.refl _ _).alloc (Nat.le_refl _) (.cells #[] 2)))
  have hxl := X.out.lt
  clear hwA X
  go_enter Try.func107, Try.ntmps107
  go_wp2_with fail
  rw [← HwA.out]
  go_loopw [5, 6, 7] (fun s5 s6 _ wr => ∃ (k m1 : Nat) (a1 : Option Addr) (c1 : Nat), k ≤ vn ∧ s5 = .slice a1 m1 c1 ∧ s6 = .int .i64 k ∧ Below wA.heap.size wA wr ∧ m1 ≤ 5 * k ∧ Hid (OwnI 2 wr wA.heap.size a1 m1 c1 (stBits (sz.take k) (vs.take k))) ∧ Hid (Blk wr w.heap.size #[.slice sa vn sc, .slice ta tn tc, .slice ra rn rc] 59)) (fun _ s6 _ _ => vn - (intOf s6).toNat)
  case atStart => exact ⟨0, 0, _, 0, Nat.zero_le _, rfl, rfl, by repeat (first | exact Below.refl _ _ | assumption | refine below_allocS ?_ _ | refine below_callS ?_ (by assumption) | (refine Below.alloc ?_ (by first | omega | (simp; done) | (simp; omega)) _) | (refine Below.setCell ?_ (by first | omega | (simp; done) | (simp; omega)) _) | refine Below.drew ?_ | refine below_drewN ?_ _ | (refine below_call ?_ (by assumption) (by first | omega | (simp; done) | (simp; omega))) | (refine Below.trans ?_ (by assumption))), by omega, O1, X1⟩
  case round =>
    clear O1 X1
    obtain ⟨k, m1, a1, c1, hk, rfl, rfl, hbw, hm1, HO, X⟩ := hrel
    have hbl : Below w.heap.size w wr := below_call hbA hbw hbA.size
    have hsz := hbw.size
    have x0 := X.out.cell 0
    have xl := X.out.lt
    simp at x0
    by_cases hlt : k < vn
    · have hlt' : (k : Int) < (vn : Int) := by omega
      have hk0 : (0 : Int) ≤ (k : Int) := by omega
      obtain ⟨b, off, x, rfl, hb, hx, hcell, hwf⟩ := (HV.out.keep hbl).at hlt
      obtain ⟨b', off', z, rfl, hb', hz, hcell', _⟩ := (HI.out.keep hbl).at hlt
      have hz2 := allIn_at HS.out hz
      have hz0 := hz2.1
      have hz1 := hz2.2
      have hx2 := stateB_at HST.out hx hz
      have hw2 := wN_cases hz2.1 hz2.2
      obtain ⟨W, hW⟩ : ∃ W : Nat, wN z = (W : Int) := ⟨(wN z).toNat, by omega⟩
      have HX := Lib.hid (stBits_step hx hz)
      rw [hW, Int.toNat_natCast] at HX
      have HB := Lib.hid (show ∀ j, j ≤ 4 → bitAt x j = 0 ∨ bitAt x j = 1 from fun j hj => bitAt_in hx2.1 (by omega) hj)
      have hW5 : W ≤ 5 := by omega
      have e1 : IntKind.i64.wrap ((W : Int) - 1) = (W : Int) - 1 := IntWalk.i64_in _ (by omega)
      have HWd := Lib.hid (fun wx => spec_l23Width (z := z) (w := wx) hz0 hz1)
      rw [hW] at HWd
      have HVl := Lib.hid (HV.out.keep hbA)
      have HXg := Lib.hid hx
      clear hx hz hz2 hx2 hw2 hW hz0 hz1
      go_wp2_with fail
      go_wp2_with fail
      refine Calls.mono ((HWd.out _)) ?_
      rintro e _ ⟨rfl, rfl⟩
      go_wp2_with fail
      have Xc := X
      clear x0 xl
      go_loopw [5, 7] (fun s5 s7 wq => ∃ (i m2 : Nat) (a2 : Option Addr) (c2 : Nat) (bt : Int), i ≤ W ∧ s7 = .int .i64 bt ∧ bt = (W : Int) - 1 - i ∧ s5 = .slice a2 m2 c2 ∧ Below wA.heap.size wA wq ∧ m2 ≤ 5 * k + i ∧ Hid (OwnI 2 wq wA.heap.size a2 m2 c2 (stBits (sz.take k) (vs.take k) ++ (bitsDn x W).take i)) ∧ Hid (Blk wq w.heap.size #[.slice (some ⟨b', off', none⟩) vn sc, .slice ta tn tc, .slice ra rn rc] 59)) (fun _ s7 _ => (intOf s7 + 1).toNat)
      case atStart => exact ⟨0, m1, a1, c1, _, Nat.zero_le _, rfl, by omega, rfl, hbw, by omega, by simpa using HO, X⟩
      case round =>
        have hcell9 : ∀ wx, Below wA.heap.size wA wx → wx.cell? ⟨b, off + k, none⟩ = some (.int .i64 x) ∧ b < wx.heap.size := fun wx hbx => by
          obtain ⟨b9, off9, x9, e9, h1, h2, h3, _⟩ := (HVl.out.keep hbx).at hlt
          simp only [Option.some.injEq, Addr.mk.injEq, and_true] at e9
          obtain ⟨rfl, rfl⟩ := e9
          rw [HXg.out] at h2
          simp only [Option.some.injEq] at h2
          subst h2
          exact ⟨h3, h1⟩
        clear HO hcell hcell' hbl hbw hsz X Xc
        obtain ⟨i, m2, a2, c2, bt, hi, rfl, hbt, rfl, hbw, hm2, HO, X⟩ := hrel
        have hbl : Below w.heap.size w wr := below_call hbA hbw hbA.size
        have hsz := hbw.size
        have hcell := (hcell9 _ hbw).1
        have hblt := (hcell9 _ hbw).2
        clear hcell9
        by_cases hlti : i < W
        · obtain ⟨j, hj⟩ : ∃ j : Nat, bt = (j : Int) := ⟨bt.toNat, by omega⟩
          subst hj
          have hj2 : W - 1 - i = j := by omega
          have hj4 : j ≤ 4 := by omega
          have Hg := Lib.hid (take_at (bitsDn_get (x := x) hlti))
          rw [hj2] at Hg
          have hbit := HB.out j hj4
          have HB9 := Lib.hid (show I64 (bits BinOp.and IntKind.i64 (x / 2 ^ j) 1) by have h : I64 (bitAt x j) := (by rcases hbit with h | h <;> rw [h] <;> (unfold I64; omega)); exact h)
          clear hbit
          go_wp2_with (at_builtin; refine append1_i64 rfl _ _ 28 2 rfl Try.underlying28 Try.infoi64 wA.heap.size _ _ _ _ (HO.out.keep ((Below.refl _ _).alloc (Nat.le_refl _) (.cells #[.int .i64 (bits BinOp.and IntKind.i64 (x / 2 ^ j) 1)] 2))) rfl wr.heap.size (bits BinOp.and IntKind.i64 (x / 2 ^ j) 1) rfl (by simp) HB9.out (by omega) (by simp; omega) ?_; intro a3 c3 w3 hown3 hb3 hg3)
          have Hown3 := Lib.hid hown3
          have X3 := Lib.hid (Blk.keepB (X.out.keep ((Below.refl _ _).alloc (Nat.le_refl _) (.cells #[.int .i64 (bits BinOp.and IntKind.i64 (x / 2 ^ j) 1)] 2))) hb3 hxl)
          clear hown3 hg3
          go_roundw
          case rel => exact ⟨i + 1, m2 + 1, a3, c3, _, by omega, rfl, by omega, rfl, Below.trans (by repeat (first | exact Below.refl _ _ | assumption | refine below_allocS ?_ _ | refine below_callS ?_ (by assumption) | (refine Below.alloc ?_ (by first | omega | (simp; done) | (simp; omega)) _) | (refine Below.setCell ?_ (by first | omega | (simp; done) | (simp; omega)) _) | refine Below.drew ?_ | refine below_drewN ?_ _ | (refine below_call ?_ (by assumption) (by first | omega | (simp; done) | (simp; omega))) | (refine Below.trans ?_ (by assumption)))) hb3, by omega, Lib.hid (by rw [Hg.out, ← List.append_assoc]; exact Hown3.out), X3⟩
          case measure => simp [intOf]; omega
        · have hj0 : ¬ 0 ≤ bt := by omega
          obtain rfl : i = W := by omega
          have h1 := HO.out
          rw [show (bitsDn x i).take i = bitsDn x i from List.take_of_length_le (by rw [bitsDn_len]; omega), ← HX.out] at h1
          have HO2 := Lib.hid h1
          clear h1
          go_wp2_with fail
          go_roundw
          case rel => exact ⟨k + 1, m2, a2, c2, by omega, rfl, by go_num, hbw, by omega, HO2, X⟩
          case measure => simp [intOf]; omega
    · obtain rfl : vn = k := by omega
      have hlt' : ¬ (vn : Int) < (vn : Int) := by omega
      have h1 := HO.out
      rw [take_len HI.out.len, take_len HV.out.len] at h1
      have HO2 := Lib.hid h1
      clear h1
      go_wp2
      go_ret
      exact ⟨_, _, _, rfl, hbl, HO2.out.le hbA.size, by omega⟩
set_option maxHeartbeats 2000000 in
theorem spec_BitsOfState {sa ta ra va : Option Addr} {sn sc tn tc rn rc vn vc : Nat} {sz st vs : List Int} {l : List (RM × RuD)} {w : World} (hI : Ints w sa sn sc sz) (hn : sn ≤ 1048576) (hT : Ints w ta tn tc st) (ht : tn ≤ 1048576) (hR : FR w w ra rn rc l) (hr : rn ≤ 1048576) (hV : Ints w va vn vc vs) (hv : vn ≤ 1048576) :
    Calls Try.prog 44 #[.agg #[.slice sa sn sc, .slice ta tn tc, .slice ra rn rc], .slice va vn vc] w fun e w' => RetIC 2 w (bsL sz st l vs) (bsC sz st l vs) e w' := by
  have KC := fun (wx : World) (hb : Below w.heap.size w wx) => spec_l20Code (hI.keep hb) hn (hT.keep hb) ht (hR.self hb) hr (hV.keep hb) hv
  by_cases h0 : scC sz st l vs = 0
  · have hm : modelB sz st l = true := by cases hm : modelB sz st l with | true => rfl | false => rw [scC, if_pos hm] at h0; cases h0
    have hs : stateB sz vs = true := by cases hs : stateB sz vs with | true => rfl | false => rw [scC, if_neg (by simp [hm]), if_pos hs] at h0; cases h0
    simp only [h0] at KC
    have K1 := Lib.hid KC
    have KS := fun (wx : World) (hb : Below w.heap.size w wx) => spec_l23Small (ta := ta) (tn := tn) (tc := tc) (ra := ra) (rn := rn) (rc := rc) (hI.keep hb) hn (modelB_all hm)
    have hn16 : sn ≤ 16 := by have := modelB_len hm; have := hI.len; omega
    cases hq : smB sz
    · have hq3 : smC sz = 3 := by rw [smC, hq]; rfl
      simp only [hq3] at KS
      have K2 := Lib.hid KS
      have HC := Lib.hid (show bsC sz st l vs = 3 by rw [bsC, if_neg (by simp [hm]), if_neg (by simp [hs]), if_pos hq])
      have HL := Lib.hid (show bsL sz st l vs = [] by rw [bsL, HC.out]; rfl)
      clear KC KS hm hs hq hq3 h0 hI hT hR hV
      go_enter Try.func44, Try.ntmps44
      go_wp2_with fail
      refine Calls.mono (K1.out _ (by repeat (first | exact Below.refl _ _ | assumption | refine below_allocS ?_ _ | refine below_callS ?_ (by assumption) | (refine Below.alloc ?_ (by first | omega | (simp; done) | (simp; omega)) _) | (refine Below.setCell ?_ (by first | omega | (simp; done) | (simp; omega)) _) | refine Below.drew ?_ | refine below_drewN ?_ _ | (refine below_call ?_ (by assumption) (by first | omega | (simp; done) | (simp; omega))) | (refine Below.trans ?_ (by assumption))))) ?_
      rintro e w1 ⟨rfl, hb_w1⟩
      obtain ⟨hc_w1, hf_w1⟩ := bcell hb_w1
      have hs_w1 := hb_w1.size
      simp at hs_w1
      have hz1 : w.heap.size < w1.heap.size := by omega
      go_wp2_with fail
      refine Calls.mono (K2.out _ (by repeat (first | exact Below.refl _ _ | assumption | refine below_allocS ?_ _ | refine below_callS ?_ (by assumption) | (refine Below.alloc ?_ (by first | omega | (simp; done) | (simp; omega)) _) | (refine Below.setCell ?_ (by first | omega | (simp; done) | (simp; omega)) _) | refine Below.drew ?_ | refine below_drewN ?_ _ | (refine below_call ?_ (by assumption) (by first | omega | (simp; done) | (simp; omega))) | (refine Below.trans ?_ (by assumption))))) ?_
      rintro e w2 ⟨rfl, hb_w2⟩
      obtain ⟨hc_w2, hf_w2⟩ := bcell hb_w2
      have hs_w2 := hb_w2.size
      go_wp2
      exact bodyPost_ret (v := .tuple #[.slice none 0 0, .int .i64 3]) (by simp [results, Try.results44, go_sem]) rfl ⟨0, none, 0, by rw [HC.out], by repeat (first | exact Below.refl _ _ | assumption | refine below_allocS ?_ _ | refine below_callS ?_ (by assumption) | (refine Below.alloc ?_ (by first | omega | (simp; done) | (simp; omega)) _) | (refine Below.setCell ?_ (by first | omega | (simp; done) | (simp; omega)) _) | refine Below.drew ?_ | refine below_drewN ?_ _ | (refine below_call ?_ (by assumption) (by first | omega | (simp; done) | (simp; omega))) | (refine Below.trans ?_ (by assumption))), by rw [HL.out]; exact OwnI.nil _ _ _⟩
    · have hq3 : smC sz = 0 := by rw [smC, hq]; rfl
      simp only [hq3] at KS
      have K2 := Lib.hid KS
      have K3 := Lib.hid (fun (wx : World) (hb : Below w.heap.size w wx) => spec_l23Bits (ta := ta) (tn := tn) (tc := tc) (ra := ra) (rn := rn) (rc := rc) (hI.keep hb) (hV.keep hb) hn16 (modelB_all hm) hs)
      have HC := Lib.hid (show bsC sz st l vs = 0 by rw [bsC, if_neg (by simp [hm]), if_neg (by simp [hs]), if_neg (by simp [hq])])
      have HL := Lib.hid (show bsL sz st l vs = stBits sz vs by rw [bsL, if_pos HC.out])
      clear KC KS hm hs hq hq3 h0 hI hT hR hV
      go_enter Try.func44, Try.ntmps44
      go_wp2_with fail
      refine Calls.mono (K1.out _ (by repeat (first | exact Below.refl _ _ | assumption | refine below_allocS ?_ _ | refine below_callS ?_ (by assumption) | (refine Below.alloc ?_ (by first | omega | (simp; done) | (simp; omega)) _) | (refine Below.setCell ?_ (by first | omega | (simp; done) | (simp; omega)) _) | refine Below.drew ?_ | refine below_drewN ?_ _ | (refine below_call ?_ (by assumption) (by first | omega | (simp; done) | (simp; omega))) | (refine Below.trans ?_ (by assumption))))) ?_
      rintro e w1 ⟨rfl, hb_w1⟩
      obtain ⟨hc_w1, hf_w1⟩ := bcell hb_w1
      have hs_w1 := hb_w1.size
      simp at hs_w1
      have hz1 : w.heap.size < w1.heap.size := by omega
      go_wp2_with fail
      refine Calls.mono (K2.out _ (by repeat (first | exact Below.refl _ _ | assumption | refine below_allocS ?_ _ | refine below_callS ?_ (by assumption) | (refine Below.alloc ?_ (by first | omega | (simp; done) | (simp; omega)) _) | (refine Below.setCell ?_ (by first | omega | (simp; done) | (simp; omega)) _) | refine Below.drew ?_ | refine below_drewN ?_ _ | (refine below_call ?_ (by assumption) (by first | omega | (simp; done) | (simp; omega))) | (refine Below.trans ?_ (by assumption))))) ?_
      rintro e w2 ⟨rfl, hb_w2⟩
      obtain ⟨hc_w2, hf_w2⟩ := bcell hb_w2
      have hs_w2 := hb_w2.size
      have hz2 : w.heap.size < w2.heap.size := by omega
      have hbl2 : Below w.heap.size w w2 := by repeat (first | exact Below.refl _ _ | assumption | refine below_allocS ?_ _ | refine below_callS ?_ (by assumption) | (refine Below.alloc ?_ (by first | omega | (simp; done) | (simp; omega)) _) | (refine Below.setCell ?_ (by first | omega | (simp; done) | (simp; omega)) _) | refine Below.drew ?_ | refine below_drewN ?_ _ | (refine below_call ?_ (by assumption) (by first | omega | (simp; done) | (simp; omega))) | (refine Below.trans ?_ (by assumption)))
      go_wp2_with fail
      refine Calls.mono (K3.out _ hbl2) ?_
      rintro e w3 ⟨m, a, c, rfl, hb3, ho, hm3⟩
      have HO := Lib.hid ho
      clear ho
      go_wp2
      exact bodyPost_ret (v := .tuple #[.slice a m c, .int .i64 0]) (by simp [results, Try.results44, go_sem]) rfl ⟨m, a, c, by rw [HC.out], below_callS hbl2 hb3, by rw [HL.out]; exact OwnI.le HO.out hbl2.size⟩
  · have h09 : (scC sz st l vs != 0) = true := by rw [bne_iff_ne]; exact h0
    have h08 : (scC sz st l vs == 0) = false := by rw [beq_eq_false_iff_ne]; exact h0
    have hbc : bsC sz st l vs = scC sz st l vs := by
      rw [scC] at h0 ⊢
      rw [bsC]
      split
      · rfl
      · split
        · rfl
        · rename_i h1 h2; rw [if_neg h1, if_neg h2] at h0; exact absurd rfl h0
    have HC := Lib.hid hbc
    have HL := Lib.hid (show bsL sz st l vs = [] by rw [bsL, hbc, if_neg h0])
    generalize scC sz st l vs = code at *
    have K1 := Lib.hid KC
    clear KC hbc hI hT hR hV
    go_enter Try.func44, Try.ntmps44
    go_wp2_with fail
    refine Calls.mono (K1.out _ (by repeat (first | exact Below.refl _ _ | assumption | refine below_allocS ?_ _ | refine below_callS ?_ (by assumption) | (refine Below.alloc ?_ (by first | omega | (simp; done) | (simp; omega)) _) | (refine Below.setCell ?_ (by first | omega | (simp; done) | (simp; omega)) _) | refine Below.drew ?_ | refine below_drewN ?_ _ | (refine below_call ?_ (by assumption) (by first | omega | (simp; done) | (simp; omega))) | (refine Below.trans ?_ (by assumption))))) ?_
    rintro e w1 ⟨rfl, hb_w1⟩
    obtain ⟨hc_w1, hf_w1⟩ := bcell hb_w1
    have hs_w1 := hb_w1.size
    go_wp2
    exact bodyPost_ret (v := .tuple #[.slice none 0 0, .int .i64 code]) (by simp [results, Try.results44, go_sem]) rfl ⟨0, none, 0, by rw [HC.out], by repeat (first | exact Below.refl _ _ | assumption | refine below_allocS ?_ _ | refine below_callS ?_ (by assumption) | (refine Below.alloc ?_ (by first | omega | (simp; done) | (simp; omega)) _) | (refine Below.setCell ?_ (by first | omega | (simp; done) | (simp; omega)) _) | refine Below.drew ?_ | refine below_drewN ?_ _ | (refine below_call ?_ (by assumption) (by first | omega | (simp; done) | (simp; omega))) | (refine Below.trans ?_ (by assumption))), by rw [HL.out]; exact OwnI.nil _ _ _⟩
end Go.Proofs.Ytkaikbaagajckaa
namespace Go.Proofs.Ytkaikbaagajckaa
open Go.RowKit
set_option linter.unusedVariables false
set_option linter.unusedSimpArgs false
def valOf (l : List Int) : Int := l.foldl (fun a b => 2 * a + b) 0
theorem valOf_step {l : List Int} {k : Nat} {x : Int} (h : l[k]? = some x) : valOf (l.take (k + 1)) = 2 * valOf (l.take k) + x := by
  rw [valOf, take_at h, List.foldl_append]; rfl
theorem valOf_in {l : List Int} (h : allIn 0 1 l = true) (k : Nat) (hk : k ≤ 5) : 0 ≤ valOf (l.take k) ∧ valOf (l.take k) ≤ 2 ^ k - 1 := by
  induction k with
  | zero => simp [valOf]
  | succ k ih =>
    have h1 := ih (by omega)
    cases hx : l[k]? with
    | none =>
      rw [List.take_of_length_le (by have := List.getElem?_eq_none_iff.1 hx; omega)]
      rw [List.take_of_length_le (by have := List.getElem?_eq_none_iff.1 hx; omega)] at h1
      have : (2 : Int) ^ (k + 1) = 2 * 2 ^ k := by rw [Int.pow_succ, Int.mul_comm]
      omega
    | some x =>
      have h2 := allIn_at h hx
      rw [valOf_step hx]
      have : (2 : Int) ^ (k + 1) = 2 * 2 ^ k := by rw [Int.pow_succ, Int.mul_comm]
      omega
theorem valOf_31 {l : List Int} (h : allIn 0 1 l = true) {k : Nat} (hk : k ≤ 5) : 0 ≤ valOf (l.take k) ∧ valOf (l.take k) ≤ 31 := by
  have h1 := valOf_in h k hk
  have h2 : (2 : Int) ^ k ≤ 32 := by
    rcases (show k = 0 ∨ k = 1 ∨ k = 2 ∨ k = 3 ∨ k = 4 ∨ k = 5 by omega) with rfl | rfl | rfl | rfl | rfl | rfl <;> decide
  omega
theorem allIn_part {lo hi : Int} {l : List Int} (h : allIn lo hi l = true) (a b : Nat) : allIn lo hi ((l.drop a).take b) = true := by
  rw [allIn, List.all_eq_true] at *
  exact fun x hx => h x (List.mem_of_mem_drop (List.mem_of_mem_take hx))
def offN (sz : List Int) (k : Nat) : Nat := ((sz.take k).map fun z => (wN z).toNat).sum
theorem offN_step {sz : List Int} {k : Nat} {z : Int} (h : sz[k]? = some z) : offN sz (k + 1) = offN sz k + (wN z).toNat := by
  rw [offN, take_at h, List.map_append, List.sum_append]; simp [offN]
theorem offN_le {sz : List Int} {k : Nat} (h : k ≤ sz.length) : offN sz k ≤ offN sz sz.length := by
  have : offN sz sz.length = offN sz k + ((sz.drop k).map fun z => (wN z).toNat).sum := by
    rw [offN, offN, List.take_length, ← List.sum_append, ← List.map_append, List.take_append_drop]
  omega
theorem offN_full {sz : List Int} (h : allIn 1 32 sz = true) : (offN sz sz.length : Int) = (sz.map wN).sum := by
  rw [offN, List.take_length]
  induction sz with
  | nil => rfl
  | cons z r ih =>
    rw [allIn, List.all_cons, Bool.and_eq_true] at h
    have h1 := ih (by rw [allIn]; exact h.2)
    have h2 := h.1
    simp [inB] at h2
    have h3 := wN_in h2.1 h2.2
    simp only [List.map_cons, List.sum_cons]
    omega
/-- the values of bits -/
def stV (sz bits : List Int) : List Int := (List.range sz.length).map fun k : Nat => valOf ((bits.drop (offN sz k)).take (wN (sz.getD k 0)).toNat)
theorem stV_at {sz bits : List Int} {k : Nat} {z : Int} (h : sz[k]? = some z) : (stV sz bits)[k]? = some (valOf ((bits.drop (offN sz k)).take (wN z).toNat)) := by
  rw [stV, range_get (List.getElem?_eq_some_iff.1 h).1, getD_of h]
set_option maxHeartbeats 2000000 in
theorem impl_valuesOf {sa ta ra va : Option Addr} {sn sc tn tc rn rc vn vc : Nat} {sz bs : List Int} {w : World} (hI : Ints w sa sn sc sz) (hV : Ints w va vn vc bs) (hn : sn ≤ 16) (hs : allIn 1 32 sz = true) (hb : allIn 0 1 bs = true) (hl : vn = offN sz sn) :
    Calls Try.prog 109 #[.agg #[.slice sa sn sc, .slice ta tn tc, .slice ra rn rc], .slice va vn vc] w fun e w' => ∃ a c, e = .returned (.slice a sn c) ∧ Below w.heap.size w w' ∧ OwnI 2 w' w.heap.size a sn c (stV sz bs) := by
  have HW := Lib.hid (fun (wx : World) (hb : Below w.heap.size w wx) => impl_widths (ta := ta) (tn := tn) (tc := tc) (ra := ra) (rn := rn) (rc := rc) (hI.keep hb) (by omega) hs)
  have HI := Lib.hid hI
  have HV := Lib.hid hV
  have HS := Lib.hid hs
  have HB := Lib.hid hb
  have HL := Lib.hid hl
  clear hI hs hV hb hl
  go_enter Try.func109, Try.ntmps109
  go_wp2_with fail
  refine Calls.mono (HW.out _ (by repeat (first | exact Below.refl _ _ | assumption | refine below_allocS ?_ _ | refine below_callS ?_ (by assumption) | (refine Below.alloc ?_ (by first | omega | (simp; done) | (simp; omega)) _) | (refine Below.setCell ?_ (by first | omega | (simp; done) | (simp; omega)) _) | refine Below.drew ?_ | refine below_drewN ?_ _ | (refine below_call ?_ (by assumption) (by first | omega | (simp; done) | (simp; omega))) | (refine Below.trans ?_ (by assumption))))) ?_
  rintro e w1 ⟨aw, cw, rfl, hb1, ho⟩
  have hbl1 : Below w.heap.size w w1 := by repeat (first | exact Below.refl _ _ | assumption | refine below_allocS ?_ _ | refine below_callS ?_ (by assumption) | (refine Below.alloc ?_ (by first | omega | (simp; done) | (simp; omega)) _) | (refine Below.setCell ?_ (by first | omega | (simp; done) | (simp; omega)) _) | refine Below.drew ?_ | refine below_drewN ?_ _ | (refine below_call ?_ (by assumption) (by first | omega | (simp; done) | (simp; omega))) | (refine Below.trans ?_ (by assumption)))
  have HWI := Lib.hid ho.ints
  clear ho hb1
  go_wp2_with fail
  have hv0 := (HV.out.keep hbl1)
  have A0 := Lib.hid (show Ints w1 va vn vc (bs.drop (offN sz 0)) by simpa [offN] using hv0)
  clear hv0
  go_loopw [1, 7, 9, 10, 12, 20] (fun s1 s7 _ _ _ s20 wr => ∃ (k m : Nat) (aa : Option Addr) (cc : Nat) (a1 : Option Addr) (c1 : Nat), k ≤ sn ∧ s1 = .slice aa m cc ∧ s7 = .slice a1 k c1 ∧ s20 = .int .i64 k ∧ Below w1.heap.size w1 wr ∧ Hid (m + offN sz k = vn) ∧ Hid (Ints w1 aa m cc (bs.drop (offN sz k))) ∧ Hid (OwnI 2 wr w1.heap.size a1 k c1 ((stV sz bs).take k))) (fun _ _ _ _ _ s20 _ => sn - (intOf s20).toNat)
  case atStart => exact ⟨0, vn, va, vc, none, 0, Nat.zero_le _, rfl, rfl, rfl, Below.refl _ _, Lib.hid (by simp [offN]), A0, Lib.hid (OwnI.nil _ _ _)⟩
  case round =>
    clear A0
    obtain ⟨k, m, aa, cc, a1, c1, hk, rfl, rfl, rfl, hbw, HM, A, HO⟩ := hrel
    have hbl : Below w.heap.size w wr := below_call hbl1 hbw hbl1.size
    have hsz := hbw.size
    by_cases hlt : k < sn
    · have hlt' : (k : Int) < (sn : Int) := by omega
      have hk0 : (0 : Int) ≤ (k : Int) := by omega
      obtain ⟨z, hz⟩ : ∃ z, sz[k]? = some z := ⟨_, List.getElem?_eq_getElem (show k < sz.length by rw [HI.out.len]; exact hlt)⟩
      have hz2 := allIn_at HS.out hz
      have hw2 := wN_in hz2.1 hz2.2
      obtain ⟨W, hW⟩ : ∃ W : Nat, wN z = (W : Int) := ⟨(wN z).toNat, by omega⟩
      obtain ⟨b', off', y, rfl, hb', hy, hcell', _⟩ := (HWI.out.keep hbw).at hlt
      obtain rfl : y = (W : Int) := by rw [List.getElem?_map, hz] at hy; simp at hy; omega
      have hst := offN_step hz
      have hsv := stV_at (bits := bs) hz
      rw [hW, Int.toNat_natCast] at hst hsv
      have hle := offN_le (sz := sz) (k := k + 1) (by rw [HI.out.len]; omega)
      have hm9 := HM.out
      have hl9 := HL.out
      rw [HI.out.len] at hle
      have hWm : W ≤ m := by omega
      have hWm' : (W : Int) ≤ (m : Int) := by omega
      have hW5 : W ≤ 5 := by omega
      have hmc := A.out.cap
      have hWc : (W : Int) ≤ (cc : Int) := by omega
      have HST := Lib.hid hst
      have HSV := Lib.hid hsv
      have P1 := Lib.hid (A.out.take hWm)
      have HP := Lib.hid (allIn_part HB.out (offN sz k) W)
      have P2 := Lib.hid (A.out.part (lo := W) (hi := m) hWm (Nat.le_refl _))
      clear hz hy hz2 hw2 hW hst hsv hle hm9 hl9
      go_wp2_with fail
      go_loop [10, 12, 28] (fun s10 _ s28 => ∃ (i : Nat) (v : Int), i ≤ W ∧ s28 = .int .i64 i ∧ s10 = .int .i64 v ∧ 0 ≤ v ∧ v ≤ 31 ∧ Hid (v = valOf (((bs.drop (offN sz k)).take W).take i))) (fun _ _ s28 => W - (intOf s28).toNat)
      case atStart => exact ⟨0, 0, Nat.zero_le _, rfl, rfl, by omega, by omega, Lib.hid (by simp [valOf])⟩
      case round =>
        obtain ⟨i, v, hi, rfl, rfl, hv0, hv1, HVv⟩ := hrel
        by_cases hlti : i < W
        · have hlti' : (i : Int) < (W : Int) := by omega
          have hi0 : (0 : Int) ≤ (i : Int) := by omega
          obtain ⟨b, off, x, rfl, hb, hx, hcell, hwf⟩ := (P1.out.keep hbw).at hlti
          have hx2 := allIn_at HP.out hx
          have hx0 := hx2.1
          have hx1 := hx2.2
          have Hn := Lib.hid (valOf_step hx)
          have Hn3 := Lib.hid (valOf_31 HP.out (show i + 1 ≤ 5 by omega))
          clear hx hx2
          go_wp2
          go_round
          case rel => exact ⟨i + 1, 2 * v + x, by omega, by go_num, rfl, by omega, by have h1 := Hn.out; have h2 := Hn3.out; rw [← HVv.out] at h1; omega, Lib.hid (by rw [Hn.out, HVv.out])⟩
          case measure => simp [intOf]; omega
        · obtain rfl : i = W := by omega
          have hlti' : ¬ (i : Int) < (i : Int) := by omega
          have hv9 := HVv.out
          rw [List.take_take, Nat.min_self] at hv9
          have HV9 := Lib.hid hv9
          clear hv9
          go_wp2_with (at_builtin; refine append1_i64 rfl _ _ 28 2 rfl Try.underlying28 Try.infoi64 w1.heap.size _ _ _ _ (HO.out.keep ((Below.refl _ _).alloc (Nat.le_refl _) (.cells #[.int .i64 v] 2))) rfl wr.heap.size v rfl (by simp) (by unfold I64; omega) (by omega) (by simp; omega) ?_; intro a3 c3 w3 hown3 hb3 hg3)
          have Hown3 := Lib.hid hown3
          clear hown3 hg3
          go_roundw
          case rel =>
            refine ⟨k + 1, m - i, _, cc - i, a3, c3, by omega, rfl, rfl, by go_num, Below.trans (by repeat (first | exact Below.refl _ _ | assumption | refine below_allocS ?_ _ | refine below_callS ?_ (by assumption) | (refine Below.alloc ?_ (by first | omega | (simp; done) | (simp; omega)) _) | (refine Below.setCell ?_ (by first | omega | (simp; done) | (simp; omega)) _) | refine Below.drew ?_ | refine below_drewN ?_ _ | (refine below_call ?_ (by assumption) (by first | omega | (simp; done) | (simp; omega))) | (refine Below.trans ?_ (by assumption)))) hb3, ?_, ?_, ?_⟩
            · refine Lib.hid ?_
              have h1 := HM.out
              rw [HST.out]; omega
            · refine Lib.hid ?_
              have h1 := P2.out
              have h2 := HM.out
              have h3 := HV.out.len
              rw [List.drop_drop, List.take_of_length_le (by rw [List.length_drop]; omega), ← HST.out] at h1
              exact h1
            · refine Lib.hid ?_
              rw [take_at HSV.out, ← HV9.out]
              exact Hown3.out
          case measure => simp [intOf]; omega
    · obtain rfl : sn = k := by omega
      have hlt' : ¬ (sn : Int) < (sn : Int) := by omega
      have h1 := HO.out
      rw [List.take_of_length_le (by simp [stV]; rw [HI.out.len]; exact Nat.le_refl _)] at h1
      have HO2 := Lib.hid h1
      clear h1
      go_wp2
      go_ret
      exact ⟨_, _, rfl, hbl, HO2.out.le hbl1.size⟩
end Go.Proofs.Ytkaikbaagajckaa
namespace Go.Proofs.Ytkaikbaagajckaa
open Go.RowKit
set_option linter.unusedVariables false
set_option linter.unusedSimpArgs false
set_option maxHeartbeats 2000000 in
theorem spec_l23State {sa ta ra va : Option Addr} {sn sc tn tc rn rc vn vc : Nat} {sz bs : List Int} {w : World} (hI : Ints w sa sn sc sz) (hV : Ints w va vn vc bs) (hn : sn ≤ 16) (hs : allIn 1 32 sz = true) (hb : allIn 0 1 bs = true) (hl : vn = offN sz sn) :
    Calls Try.prog 111 #[.agg #[.slice sa sn sc, .slice ta tn tc, .slice ra rn rc], .slice va vn vc] w fun e w' => ∃ a c, e = .returned (.tuple #[.slice a sn c, .bool (stateB sz (stV sz bs))]) ∧ Below w.heap.size w w' ∧ OwnI 2 w' w.heap.size a sn c (stV sz bs) := by
  have HI := Lib.hid hI
  have HV := Lib.hid hV
  have HS := Lib.hid hs
  have HB := Lib.hid hb
  have HL := Lib.hid hl
  clear hI hs hV hb hl
  have X := Lib.hid (Blk.made w #[.slice sa sn sc, .slice ta tn tc, .slice ra rn rc] 59)
  have hbA : Below w.heap.size w (w.alloc (.cells #[.slice sa sn sc, .slice ta tn tc, .slice ra rn rc] 59)) := by repeat (first | exact Below.refl _ _ | assumption | refine below_allocS ?_ _ | refine below_callS ?_ (by assumption) | (refine Below.alloc ?_ (by first | omega | (simp; done) | (simp; omega)) _) | (refine Below.setCell ?_ (by first | omega | (simp; done) | (simp; omega)) _) | refine Below.drew ?_ | refine below_drewN ?_ _ | (refine below_call ?_ (by assumption) (by first | omega | (simp; done) | (simp; omega))) | (refine Below.trans ?_ (by assumption)))
  obtain ⟨wA, hwA⟩ : ∃ wA : World, wA = w.alloc (.cells #[.slice sa sn sc, .slice ta tn tc, .slice ra rn rc] 59) := ⟨_, rfl⟩
  rw [← hwA] at X hbA
  have HwA := Lib.hid hwA
  have O1 := Lib.hid (show OwnI 2 (wA.alloc (.cells #[] 2)) wA.heap.size (some ⟨w.heap.size + 1, 0, none⟩) 0 0 [] by have h := OwnI.empty (E := 2) (base := wA.heap.size) wA (Nat.le_refl _); have e : wA.heap.size = w.heap.size + 1 := (by rw [hwA]; simp); rw [e] at h ⊢; exact h)
  have hbB : Below w.heap.size w (wA.alloc (.cells #[] 2)) := by repeat (first | exact Below.refl _ _ | assumption | refine below_allocS ?_ _ | refine below_callS ?_ (by assumption) | (refine Below.alloc ?_ (by first | omega | (simp; done) | (simp; omega)) _) | (refine Below.setCell ?_ (by first | omega | (simp; done) | (simp; omega)) _) | refine Below.drew ?_ | refine below_drewN ?_ _ | (refine below_call ?_ (by assumption) (by first | omega | (simp; done) | (simp; omega))) | (refine Below.trans ?_ (by assumption)))
  have X1 := Lib.hid (X.out.keep ((Below.refl _ _).alloc (Nat.le_refl _) (.cells #[] 2)))
  have hxl := X.out.lt
  clear hwA X
  go_enter Try.func111, Try.ntmps111
  go_wp2_with fail
  rw [← HwA.out]
  go_loopw [6, 7, 8, 9, 10] (fun s6 s7 s8 _ _ wr => ∃ (k f : Nat) (a1 : Option Addr) (c1 : Nat), k ≤ sn ∧ s6 = .slice a1 k c1 ∧ s7 = .int .i64 f ∧ s8 = .int .i64 k ∧ f ≤ 5 * k ∧ Below wA.heap.size wA wr ∧ Hid (f = offN sz k) ∧ Hid (OwnI 2 wr wA.heap.size a1 k c1 ((stV sz bs).take k)) ∧ Hid (Blk wr w.heap.size #[.slice sa sn sc, .slice ta tn tc, .slice ra rn rc] 59)) (fun _ _ s8 _ _ _ => sn - (intOf s8).toNat)
  case atStart => exact ⟨0, 0, _, 0, Nat.zero_le _, rfl, rfl, rfl, by omega, by repeat (first | exact Below.refl _ _ | assumption | refine below_allocS ?_ _ | refine below_callS ?_ (by assumption) | (refine Below.alloc ?_ (by first | omega | (simp; done) | (simp; omega)) _) | (refine Below.setCell ?_ (by first | omega | (simp; done) | (simp; omega)) _) | refine Below.drew ?_ | refine below_drewN ?_ _ | (refine below_call ?_ (by assumption) (by first | omega | (simp; done) | (simp; omega))) | (refine Below.trans ?_ (by assumption))), Lib.hid (by simp [offN]), O1, X1⟩
  case round =>
    clear O1 X1 hbB
    obtain ⟨k, f, a1, c1, hk, rfl, rfl, rfl, hf, hbw, HF, HO, X⟩ := hrel
    have hbl : Below w.heap.size w wr := below_call hbA hbw hbA.size
    have hsz := hbw.size
    have x0 := X.out.cell 0
    have x1 := X.out.cell 1
    have x2 := X.out.cell 2
    have xl := X.out.lt
    simp at x0 x1 x2
    by_cases hlt : k < sn
    · have hlt' : (k : Int) < (sn : Int) := by omega
      have hk0 : (0 : Int) ≤ (k : Int) := by omega
      obtain ⟨b', off', z, rfl, hb', hz, hcell', _⟩ := (HI.out.keep hbl).at hlt
      have hz2 := allIn_at HS.out hz
      have hz0 := hz2.1
      have hz1 := hz2.2
      have hw2 := wN_in hz2.1 hz2.2
      obtain ⟨W, hW⟩ : ∃ W : Nat, wN z = (W : Int) := ⟨(wN z).toNat, by omega⟩
      have hst := offN_step hz
      have hsv := stV_at (bits := bs) hz
      rw [hW, Int.toNat_natCast] at hst hsv
      have hle := offN_le (sz := sz) (k := k + 1) (by rw [HI.out.len]; omega)
      have hl9 := HL.out
      have hf9 := HF.out
      rw [HI.out.len] at hle
      have hWm : f + W ≤ vn := by omega
      have hW5 : W ≤ 5 := by omega
      have HST := Lib.hid hst
      have HSV := Lib.hid hsv
      have HWd := Lib.hid (fun wx => spec_l23Width (z := z) (w := wx) hz0 hz1)
      rw [hW] at HWd
      have HP := Lib.hid (allIn_part HB.out (offN sz k) W)
      clear hz hz2 hw2 hW hst hsv hle hl9 hf9 hz0 hz1
      go_wp2_with fail
      go_wp2_with fail
      refine Calls.mono ((HWd.out _)) ?_
      rintro e _ ⟨rfl, rfl⟩
      go_wp2_with fail
      go_loop [7, 9, 10] (fun s7 s9 s10 => ∃ (i : Nat) (v bt : Int), i ≤ W ∧ s7 = .int .i64 ((f + i : Nat) : Int) ∧ s9 = .int .i64 v ∧ s10 = .int .i64 bt ∧ bt = (W : Int) - i ∧ 0 ≤ v ∧ v ≤ 31 ∧ Hid (v = valOf (((bs.drop (offN sz k)).take W).take i))) (fun _ _ s10 => (intOf s10).toNat)
      case atStart => exact ⟨0, 0, _, Nat.zero_le _, by simp, rfl, rfl, by omega, by omega, by omega, Lib.hid (by simp [valOf])⟩
      case round =>
        obtain ⟨i, v, bt, hi, rfl, rfl, rfl, hbt, hv0, hv1, HVv⟩ := hrel
        by_cases hlti : i < W
        · have hbt0 : 0 < bt := by omega
          have hfi : f + i < vn := by omega
          have hfi' : ((f + i : Nat) : Int) < (vn : Int) := by omega
          have hfi0 : (0 : Int) ≤ ((f + i : Nat) : Int) := by omega
          obtain ⟨b, off, x, rfl, hb, hx, hcell, hwf⟩ := (HV.out.keep hbl).at hfi
          have hx3 : ((bs.drop (offN sz k)).take W)[i]? = some x := by rw [List.getElem?_take, if_pos hlti, List.getElem?_drop, ← HF.out]; exact hx
          have hx2 := allIn_at HP.out hx3
          have hx0 := hx2.1
          have hx1 := hx2.2
          have Hn := Lib.hid (valOf_step hx3)
          have Hn3 := Lib.hid (valOf_31 HP.out (show i + 1 ≤ 5 by omega))
          clear hx hx2 hx3
          go_wp2
          go_round
          case rel => exact ⟨i + 1, 2 * v + x, _, by omega, by rw [show ((f + (i + 1) : Nat) : Int) = (f : Int) + i + 1 by omega], rfl, rfl, by omega, by omega, by have h1 := Hn.out; have h2 := Hn3.out; rw [← HVv.out] at h1; omega, Lib.hid (by rw [Hn.out, HVv.out])⟩
          case measure => simp [intOf]; omega
        · obtain rfl : i = W := by omega
          have hbt0 : ¬ 0 < bt := by omega
          have hv9 := HVv.out
          rw [List.take_take, Nat.min_self] at hv9
          have HV9 := Lib.hid hv9
          clear hv9
          go_wp2_with (at_builtin; refine append1_i64 rfl _ _ 28 2 rfl Try.underlying28 Try.infoi64 wA.heap.size _ _ _ _ (HO.out.keep ((Below.refl _ _).alloc (Nat.le_refl _) (.cells #[.int .i64 v] 2))) rfl wr.heap.size v rfl (by simp) (by unfold I64; omega) (by omega) (by simp; omega) ?_; intro a3 c3 w3 hown3 hb3 hg3)
          have Hown3 := Lib.hid hown3
          have X3 := Lib.hid (Blk.keepB (X.out.keep ((Below.refl _ _).alloc (Nat.le_refl _) (.cells #[.int .i64 v] 2))) hb3 hxl)
          clear hown3 hg3
          go_roundw
          case rel =>
            refine ⟨k + 1, f + i, a3, c3, by omega, rfl, rfl, by go_num, by omega, Below.trans (by repeat (first | exact Below.refl _ _ | assumption | refine below_allocS ?_ _ | refine below_callS ?_ (by assumption) | (refine Below.alloc ?_ (by first | omega | (simp; done) | (simp; omega)) _) | (refine Below.setCell ?_ (by first | omega | (simp; done) | (simp; omega)) _) | refine Below.drew ?_ | refine below_drewN ?_ _ | (refine below_call ?_ (by assumption) (by first | omega | (simp; done) | (simp; omega))) | (refine Below.trans ?_ (by assumption)))) hb3, Lib.hid (by rw [HST.out, HF.out]), Lib.hid (by rw [take_at HSV.out, ← HV9.out]; exact Hown3.out), X3⟩
          case measure => simp [intOf]; omega
    · obtain rfl : sn = k := by omega
      have hlt' : ¬ (sn : Int) < (sn : Int) := by omega
      have h1 := HO.out
      rw [List.take_of_length_le (by simp [stV]; rw [HI.out.len]; exact Nat.le_refl _)] at h1
      have HO2 := Lib.hid h1
      have K1 := Lib.hid (spec_l20State (ta := ta) (tn := tn) (tc := tc) (ra := ra) (rn := rn) (rc := rc) (HI.out.keep hbl) h1.ints (by omega) (by omega) HS.out)
      clear h1
      go_wp2_with fail
      refine Calls.mono K1.out ?_
      rintro e w5 ⟨rfl, hb5⟩
      go_wp2
      exact bodyPost_ret (v := .tuple #[.slice a1 sn c1, .bool (stateB sz (stV sz bs))]) (by simp [results, Try.results111, go_sem]) rfl ⟨a1, c1, rfl, below_callS hbl hb5, (HO2.out.keep hb5).le hbA.size⟩
def soC (sz st : List Int) (l : List (RM × RuD)) (bs : List Int) : Int := if modelB sz st l = false then 1 else if areB bs (sz.map wN).sum = false then 2 else if smB sz = false then 3 else if stateB sz (stV sz bs) = false then 4 else 0
def soL (sz st : List Int) (l : List (RM × RuD)) (bs : List Int) : List Int := if soC sz st l bs = 0 then stV sz bs else []
theorem areB_parts {bs : List Int} {sz : List Int} (h : areB bs (sz.map wN).sum = true) (hs : allIn 1 32 sz = true) : allIn 0 1 bs = true ∧ bs.length = offN sz sz.length := by
  rw [areB, Bool.and_eq_true] at h
  have h1 := of_decide_eq_true h.1
  have h2 := offN_full hs
  exact ⟨h.2, by omega⟩
theorem soC_1 {sz st : List Int} {l : List (RM × RuD)} {bs : List Int} (hm : modelB sz st l = false) : soC sz st l bs = 1 ∧ soL sz st l bs = [] := by
  have h : soC sz st l bs = 1 := by rw [soC, if_pos hm]
  exact ⟨h, by rw [soL, h]; rfl⟩
theorem soC_2 {sz st : List Int} {l : List (RM × RuD)} {bs : List Int} (hm : modelB sz st l = true) (ha : areB bs (sz.map wN).sum = false) : soC sz st l bs = 2 ∧ soL sz st l bs = [] := by
  have h : soC sz st l bs = 2 := by rw [soC, if_neg (by simp [hm]), if_pos ha]
  exact ⟨h, by rw [soL, h]; rfl⟩
theorem soC_3 {sz st : List Int} {l : List (RM × RuD)} {bs : List Int} (hm : modelB sz st l = true) (ha : areB bs (sz.map wN).sum = true) (hq : smB sz = false) : soC sz st l bs = 3 ∧ soL sz st l bs = [] := by
  have h : soC sz st l bs = 3 := by rw [soC, if_neg (by simp [hm]), if_neg (by simp [ha]), if_pos hq]
  exact ⟨h, by rw [soL, h]; rfl⟩
theorem soC_4 {sz st : List Int} {l : List (RM × RuD)} {bs : List Int} (hm : modelB sz st l = true) (ha : areB bs (sz.map wN).sum = true) (hq : smB sz = true) (hs : stateB sz (stV sz bs) = false) : soC sz st l bs = 4 ∧ soL sz st l bs = [] := by
  have h : soC sz st l bs = 4 := by rw [soC, if_neg (by simp [hm]), if_neg (by simp [ha]), if_neg (by simp [hq]), if_pos hs]
  exact ⟨h, by rw [soL, h]; rfl⟩
theorem soC_0 {sz st : List Int} {l : List (RM × RuD)} {bs : List Int} (hm : modelB sz st l = true) (ha : areB bs (sz.map wN).sum = true) (hq : smB sz = true) (hs : stateB sz (stV sz bs) = true) : soC sz st l bs = 0 ∧ soL sz st l bs = stV sz bs := by
  have h : soC sz st l bs = 0 := by rw [soC, if_neg (by simp [hm]), if_neg (by simp [ha]), if_neg (by simp [hq]), if_neg (by simp [hs])]
  exact ⟨h, by rw [soL, if_pos h]⟩
set_option maxHeartbeats 4000000 in
theorem spec_StateOfBits {sa ta ra va : Option Addr} {sn sc tn tc rn rc vn vc : Nat} {sz st bs : List Int} {l : List (RM × RuD)} {w : World} (hI : Ints w sa sn sc sz) (hn : sn ≤ 1048576) (hT : Ints w ta tn tc st) (ht : tn ≤ 1048576) (hR : FR w w ra rn rc l) (hr : rn ≤ 1048576) (hV : Ints w va vn vc bs) (hv : vn ≤ 1048576) :
    Calls Try.prog 47 #[.agg #[.slice sa sn sc, .slice ta tn tc, .slice ra rn rc], .slice va vn vc] w fun e w' => RetIC 2 w (soL sz st l bs) (soC sz st l bs) e w' := by
  have KM := fun (wx : World) (hb : Below w.heap.size w wx) => spec_IsModel (hI.keep hb) hn (hT.keep hb) ht (hR.self hb) hr
  cases hm : modelB sz st l
  · simp only [hm] at KM
    have K1 := Lib.hid KM
    have HC := Lib.hid (soC_1 (bs := bs) hm)
    clear KM hm hI hT hR hV
    go_enter Try.func47, Try.ntmps47
    go_wp2_with fail
    refine Calls.mono (K1.out _ (by repeat (first | exact Below.refl _ _ | assumption | refine below_allocS ?_ _ | refine below_callS ?_ (by assumption) | (refine Below.alloc ?_ (by first | omega | (simp; done) | (simp; omega)) _) | (refine Below.setCell ?_ (by first | omega | (simp; done) | (simp; omega)) _) | refine Below.drew ?_ | refine below_drewN ?_ _ | (refine below_call ?_ (by assumption) (by first | omega | (simp; done) | (simp; omega))) | (refine Below.trans ?_ (by assumption))))) ?_
    rintro e w1 ⟨rfl, hb_w1⟩
    obtain ⟨hc_w1, hf_w1⟩ := bcell hb_w1
    have hs_w1 := hb_w1.size
    go_wp2
    exact bodyPost_ret (v := .tuple #[.slice none 0 0, .int .i64 1]) (by simp [results, Try.results47, go_sem]) rfl ⟨0, none, 0, by rw [HC.out.1], by repeat (first | exact Below.refl _ _ | assumption | refine below_allocS ?_ _ | refine below_callS ?_ (by assumption) | (refine Below.alloc ?_ (by first | omega | (simp; done) | (simp; omega)) _) | (refine Below.setCell ?_ (by first | omega | (simp; done) | (simp; omega)) _) | refine Below.drew ?_ | refine below_drewN ?_ _ | (refine below_call ?_ (by assumption) (by first | omega | (simp; done) | (simp; omega))) | (refine Below.trans ?_ (by assumption))), by rw [HC.out.2]; exact OwnI.nil _ _ _⟩
  · simp only [hm] at KM
    have K1 := Lib.hid KM
    have KT := Lib.hid (fun (wx : World) (hb : Below w.heap.size w wx) => spec_l23Total (ta := ta) (tn := tn) (tc := tc) (ra := ra) (rn := rn) (rc := rc) (hI.keep hb) hn (modelB_all hm))
    have KA := fun (wx : World) (hb : Below w.heap.size w wx) => spec_l22Bits (N := (sz.map wN).sum) (hV.keep hb) hv
    cases ha : areB bs (sz.map wN).sum
    · simp only [ha] at KA
      have K2 := Lib.hid KA
      have HC := Lib.hid (soC_2 hm ha)
      clear KM KA hm ha hI hT hR hV
      go_enter Try.func47, Try.ntmps47
      go_wp2_with fail
      refine Calls.mono (K1.out _ (by repeat (first | exact Below.refl _ _ | assumption | refine below_allocS ?_ _ | refine below_callS ?_ (by assumption) | (refine Below.alloc ?_ (by first | omega | (simp; done) | (simp; omega)) _) | (refine Below.setCell ?_ (by first | omega | (simp; done) | (simp; omega)) _) | refine Below.drew ?_ | refine below_drewN ?_ _ | (refine below_call ?_ (by assumption) (by first | omega | (simp; done) | (simp; omega))) | (refine Below.trans ?_ (by assumption))))) ?_
      rintro e w1 ⟨rfl, hb_w1⟩
      obtain ⟨hc_w1, hf_w1⟩ := bcell hb_w1
      have hs_w1 := hb_w1.size
      simp at hs_w1
      have hz1 : w.heap.size < w1.heap.size := by omega
      go_wp2_with fail
      refine Calls.mono (KT.out _ (by repeat (first | exact Below.refl _ _ | assumption | refine below_allocS ?_ _ | refine below_callS ?_ (by assumption) | (refine Below.alloc ?_ (by first | omega | (simp; done) | (simp; omega)) _) | (refine Below.setCell ?_ (by first | omega | (simp; done) | (simp; omega)) _) | refine Below.drew ?_ | refine below_drewN ?_ _ | (refine below_call ?_ (by assumption) (by first | omega | (simp; done) | (simp; omega))) | (refine Below.trans ?_ (by assumption))))) ?_
      rintro e w2 ⟨rfl, hb_w2⟩
      obtain ⟨hc_w2, hf_w2⟩ := bcell hb_w2
      have hs_w2 := hb_w2.size
      have hz2 : w.heap.size < w2.heap.size := by omega
      go_wp2_with fail
      go_wp2_with fail
      refine Calls.mono ((K2.out _ (by repeat (first | exact Below.refl _ _ | assumption | refine below_allocS ?_ _ | refine below_callS ?_ (by assumption) | (refine Below.alloc ?_ (by first | omega | (simp; done) | (simp; omega)) _) | (refine Below.setCell ?_ (by first | omega | (simp; done) | (simp; omega)) _) | refine Below.drew ?_ | refine below_drewN ?_ _ | (refine below_call ?_ (by assumption) (by first | omega | (simp; done) | (simp; omega))) | (refine Below.trans ?_ (by assumption)))))) ?_
      rintro e _ ⟨rfl, rfl⟩
      go_wp2
      exact bodyPost_ret (v := .tuple #[.slice none 0 0, .int .i64 2]) (by simp [results, Try.results47, go_sem]) rfl ⟨0, none, 0, by rw [HC.out.1], by repeat (first | exact Below.refl _ _ | assumption | refine below_allocS ?_ _ | refine below_callS ?_ (by assumption) | (refine Below.alloc ?_ (by first | omega | (simp; done) | (simp; omega)) _) | (refine Below.setCell ?_ (by first | omega | (simp; done) | (simp; omega)) _) | refine Below.drew ?_ | refine below_drewN ?_ _ | (refine below_call ?_ (by assumption) (by first | omega | (simp; done) | (simp; omega))) | (refine Below.trans ?_ (by assumption))), by rw [HC.out.2]; exact OwnI.nil _ _ _⟩
    · simp only [ha] at KA
      have K2 := Lib.hid KA
      have KS := fun (wx : World) (hb : Below w.heap.size w wx) => spec_l23Small (ta := ta) (tn := tn) (tc := tc) (ra := ra) (rn := rn) (rc := rc) (hI.keep hb) hn (modelB_all hm)
      cases hq : smB sz
      · have hq3 : smC sz = 3 := by rw [smC, hq]; rfl
        simp only [hq3] at KS
        have K3 := Lib.hid KS
        have HC := Lib.hid (soC_3 hm ha hq)
        clear KM KA KS hm ha hq hq3 hI hT hR hV
        go_enter Try.func47, Try.ntmps47
        go_wp2_with fail
        refine Calls.mono (K1.out _ (by repeat (first | exact Below.refl _ _ | assumption | refine below_allocS ?_ _ | refine below_callS ?_ (by assumption) | (refine Below.alloc ?_ (by first | omega | (simp; done) | (simp; omega)) _) | (refine Below.setCell ?_ (by first | omega | (simp; done) | (simp; omega)) _) | refine Below.drew ?_ | refine below_drewN ?_ _ | (refine below_call ?_ (by assumption) (by first | omega | (simp; done) | (simp; omega))) | (refine Below.trans ?_ (by assumption))))) ?_
        rintro e w1 ⟨rfl, hb_w1⟩
        obtain ⟨hc_w1, hf_w1⟩ := bcell hb_w1
        have hs_w1 := hb_w1.size
        simp at hs_w1
        have hz1 : w.heap.size < w1.heap.size := by omega
        go_wp2_with fail
        refine Calls.mono (KT.out _ (by repeat (first | exact Below.refl _ _ | assumption | refine below_allocS ?_ _ | refine below_callS ?_ (by assumption) | (refine Below.alloc ?_ (by first | omega | (simp; done) | (simp; omega)) _) | (refine Below.setCell ?_ (by first | omega | (simp; done) | (simp; omega)) _) | refine Below.drew ?_ | refine below_drewN ?_ _ | (refine below_call ?_ (by assumption) (by first | omega | (simp; done) | (simp; omega))) | (refine Below.trans ?_ (by assumption))))) ?_
        rintro e w2 ⟨rfl, hb_w2⟩
        obtain ⟨hc_w2, hf_w2⟩ := bcell hb_w2
        have hs_w2 := hb_w2.size
        have hz2 : w.heap.size < w2.heap.size := by omega
        go_wp2_with fail
        go_wp2_with fail
        refine Calls.mono ((K2.out _ (by repeat (first | exact Below.refl _ _ | assumption | refine below_allocS ?_ _ | refine below_callS ?_ (by assumption) | (refine Below.alloc ?_ (by first | omega | (simp; done) | (simp; omega)) _) | (refine Below.setCell ?_ (by first | omega | (simp; done) | (simp; omega)) _) | refine Below.drew ?_ | refine below_drewN ?_ _ | (refine below_call ?_ (by assumption) (by first | omega | (simp; done) | (simp; omega))) | (refine Below.trans ?_ (by assumption)))))) ?_
        rintro e _ ⟨rfl, rfl⟩
        go_wp2_with fail
        refine Calls.mono (K3.out _ (by repeat (first | exact Below.refl _ _ | assumption | refine below_allocS ?_ _ | refine below_callS ?_ (by assumption) | (refine Below.alloc ?_ (by first | omega | (simp; done) | (simp; omega)) _) | (refine Below.setCell ?_ (by first | omega | (simp; done) | (simp; omega)) _) | refine Below.drew ?_ | refine below_drewN ?_ _ | (refine below_call ?_ (by assumption) (by first | omega | (simp; done) | (simp; omega))) | (refine Below.trans ?_ (by assumption))))) ?_
        rintro e w3 ⟨rfl, hb_w3⟩
        obtain ⟨hc_w3, hf_w3⟩ := bcell hb_w3
        have hs_w3 := hb_w3.size
        go_wp2
        exact bodyPost_ret (v := .tuple #[.slice none 0 0, .int .i64 3]) (by simp [results, Try.results47, go_sem]) rfl ⟨0, none, 0, by rw [HC.out.1], by repeat (first | exact Below.refl _ _ | assumption | refine below_allocS ?_ _ | refine below_callS ?_ (by assumption) | (refine Below.alloc ?_ (by first | omega | (simp; done) | (simp; omega)) _) | (refine Below.setCell ?_ (by first | omega | (simp; done) | (simp; omega)) _) | refine Below.drew ?_ | refine below_drewN ?_ _ | (refine below_call ?_ (by assumption) (by first | omega | (simp; done) | (simp; omega))) | (refine Below.trans ?_ (by assumption))), by rw [HC.out.2]; exact OwnI.nil _ _ _⟩
      · have hq3 : smC sz = 0 := by rw [smC, hq]; rfl
        simp only [hq3] at KS
        have K3 := Lib.hid KS
        have hn16 : sn ≤ 16 := by have := modelB_len hm; have := hI.len; omega
        have hap := areB_parts ha (modelB_all hm)
        have K4 := fun (wx : World) (hb : Below w.heap.size w wx) => spec_l23State (ta := ta) (tn := tn) (tc := tc) (ra := ra) (rn := rn) (rc := rc) (hI.keep hb) (hV.keep hb) hn16 (modelB_all hm) hap.1 (by rw [← hV.len, hap.2, hI.len])
        cases hs : stateB sz (stV sz bs)
        · simp only [hs] at K4
          have HK4 := Lib.hid K4
          have HC := Lib.hid (soC_4 hm ha hq hs)
          clear KM KA KS K4 hm ha hq hq3 hap hs hI hT hR hV
          go_enter Try.func47, Try.ntmps47
          go_wp2_with fail
          refine Calls.mono (K1.out _ (by repeat (first | exact Below.refl _ _ | assumption | refine below_allocS ?_ _ | refine below_callS ?_ (by assumption) | (refine Below.alloc ?_ (by first | omega | (simp; done) | (simp; omega)) _) | (refine Below.setCell ?_ (by first | omega | (simp; done) | (simp; omega)) _) | refine Below.drew ?_ | refine below_drewN ?_ _ | (refine below_call ?_ (by assumption) (by first | omega | (simp; done) | (simp; omega))) | (refine Below.trans ?_ (by assumption))))) ?_
          rintro e w1 ⟨rfl, hb_w1⟩
          obtain ⟨hc_w1, hf_w1⟩ := bcell hb_w1
          have hs_w1 := hb_w1.size
          simp at hs_w1
          have hz1 : w.heap.size < w1.heap.size := by omega
          go_wp2_with fail
          refine Calls.mono (KT.out _ (by repeat (first | exact Below.refl _ _ | assumption | refine below_allocS ?_ _ | refine below_callS ?_ (by assumption) | (refine Below.alloc ?_ (by first | omega | (simp; done) | (simp; omega)) _) | (refine Below.setCell ?_ (by first | omega | (simp; done) | (simp; omega)) _) | refine Below.drew ?_ | refine below_drewN ?_ _ | (refine below_call ?_ (by assumption) (by first | omega | (simp; done) | (simp; omega))) | (refine Below.trans ?_ (by assumption))))) ?_
          rintro e w2 ⟨rfl, hb_w2⟩
          obtain ⟨hc_w2, hf_w2⟩ := bcell hb_w2
          have hs_w2 := hb_w2.size
          have hz2 : w.heap.size < w2.heap.size := by omega
          go_wp2_with fail
          go_wp2_with fail
          refine Calls.mono ((K2.out _ (by repeat (first | exact Below.refl _ _ | assumption | refine below_allocS ?_ _ | refine below_callS ?_ (by assumption) | (refine Below.alloc ?_ (by first | omega | (simp; done) | (simp; omega)) _) | (refine Below.setCell ?_ (by first | omega | (simp; done) | (simp; omega)) _) | refine Below.drew ?_ | refine below_drewN ?_ _ | (refine below_call ?_ (by assumption) (by first | omega | (simp; done) | (simp; omega))) | (refine Below.trans ?_ (by assumption)))))) ?_
          rintro e _ ⟨rfl, rfl⟩
          go_wp2_with fail
          refine Calls.mono (K3.out _ (by repeat (first | exact Below.refl _ _ | assumption | refine below_allocS ?_ _ | refine below_callS ?_ (by assumption) | (refine Below.alloc ?_ (by first | omega | (simp; done) | (simp; omega)) _) | (refine Below.setCell ?_ (by first | omega | (simp; done) | (simp; omega)) _) | refine Below.drew ?_ | refine below_drewN ?_ _ | (refine below_call ?_ (by assumption) (by first | omega | (simp; done) | (simp; omega))) | (refine Below.trans ?_ (by assumption))))) ?_
          rintro e w3 ⟨rfl, hb_w3⟩
          obtain ⟨hc_w3, hf_w3⟩ := bcell hb_w3
          have hs_w3 := hb_w3.size
          have hz3 : w.heap.size < w3.heap.size := by omega
          have hbl3 : Below w.heap.size w w3 := by repeat (first | exact Below.refl _ _ | assumption | refine below_allocS ?_ _ | refine below_callS ?_ (by assumption) | (refine Below.alloc ?_ (by first | omega | (simp; done) | (simp; omega)) _) | (refine Below.setCell ?_ (by first | omega | (simp; done) | (simp; omega)) _) | refine Below.drew ?_ | refine below_drewN ?_ _ | (refine below_call ?_ (by assumption) (by first | omega | (simp; done) | (simp; omega))) | (refine Below.trans ?_ (by assumption)))
          go_wp2_with fail
          refine Calls.mono (HK4.out _ hbl3) ?_
          rintro e w4 ⟨a, c, rfl, hb4, ho⟩
          clear ho
          have hbl4 := below_callS hbl3 hb4
          go_wp2
          exact bodyPost_ret (v := .tuple #[.slice none 0 0, .int .i64 4]) (by simp [results, Try.results47, go_sem]) rfl ⟨0, none, 0, by rw [HC.out.1], hbl4, by rw [HC.out.2]; exact OwnI.nil _ _ _⟩
        · simp only [hs] at K4
          have HK4 := Lib.hid K4
          have HC := Lib.hid (soC_0 hm ha hq hs)
          clear KM KA KS K4 hm ha hq hq3 hap hs hI hT hR hV
          go_enter Try.func47, Try.ntmps47
          go_wp2_with fail
          refine Calls.mono (K1.out _ (by repeat (first | exact Below.refl _ _ | assumption | refine below_allocS ?_ _ | refine below_callS ?_ (by assumption) | (refine Below.alloc ?_ (by first | omega | (simp; done) | (simp; omega)) _) | (refine Below.setCell ?_ (by first | omega | (simp; done) | (simp; omega)) _) | refine Below.drew ?_ | refine below_drewN ?_ _ | (refine below_call ?_ (by assumption) (by first | omega | (simp; done) | (simp; omega))) | (refine Below.trans ?_ (by assumption))))) ?_
          rintro e w1 ⟨rfl, hb_w1⟩
          obtain ⟨hc_w1, hf_w1⟩ := bcell hb_w1
          have hs_w1 := hb_w1.size
          simp at hs_w1
          have hz1 : w.heap.size < w1.heap.size := by omega
          go_wp2_with fail
          refine Calls.mono (KT.out _ (by repeat (first | exact Below.refl _ _ | assumption | refine below_allocS ?_ _ | refine below_callS ?_ (by assumption) | (refine Below.alloc ?_ (by first | omega | (simp; done) | (simp; omega)) _) | (refine Below.setCell ?_ (by first | omega | (simp; done) | (simp; omega)) _) | refine Below.drew ?_ | refine below_drewN ?_ _ | (refine below_call ?_ (by assumption) (by first | omega | (simp; done) | (simp; omega))) | (refine Below.trans ?_ (by assumption))))) ?_
          rintro e w2 ⟨rfl, hb_w2⟩
          obtain ⟨hc_w2, hf_w2⟩ := bcell hb_w2
          have hs_w2 := hb_w2.size
          have hz2 : w.heap.size < w2.heap.size := by omega
          go_wp2_with fail
          go_wp2_with fail
          refine Calls.mono ((K2.out _ (by repeat (first | exact Below.refl _ _ | assumption | refine below_allocS ?_ _ | refine below_callS ?_ (by assumption) | (refine Below.alloc ?_ (by first | omega | (simp; done) | (simp; omega)) _) | (refine Below.setCell ?_ (by first | omega | (simp; done) | (simp; omega)) _) | refine Below.drew ?_ | refine below_drewN ?_ _ | (refine below_call ?_ (by assumption) (by first | omega | (simp; done) | (simp; omega))) | (refine Below.trans ?_ (by assumption)))))) ?_
          rintro e _ ⟨rfl, rfl⟩
          go_wp2_with fail
          refine Calls.mono (K3.out _ (by repeat (first | exact Below.refl _ _ | assumption | refine below_allocS ?_ _ | refine below_callS ?_ (by assumption) | (refine Below.alloc ?_ (by first | omega | (simp; done) | (simp; omega)) _) | (refine Below.setCell ?_ (by first | omega | (simp; done) | (simp; omega)) _) | refine Below.drew ?_ | refine below_drewN ?_ _ | (refine below_call ?_ (by assumption) (by first | omega | (simp; done) | (simp; omega))) | (refine Below.trans ?_ (by assumption))))) ?_
          rintro e w3 ⟨rfl, hb_w3⟩
          obtain ⟨hc_w3, hf_w3⟩ := bcell hb_w3
          have hs_w3 := hb_w3.size
          have hz3 : w.heap.size < w3.heap.size := by omega
          have hbl3 : Below w.heap.size w w3 := by repeat (first | exact Below.refl _ _ | assumption | refine below_allocS ?_ _ | refine below_callS ?_ (by assumption) | (refine Below.alloc ?_ (by first | omega | (simp; done) | (simp; omega)) _) | (refine Below.setCell ?_ (by first | omega | (simp; done) | (simp; omega)) _) | refine Below.drew ?_ | refine below_drewN ?_ _ | (refine below_call ?_ (by assumption) (by first | omega | (simp; done) | (simp; omega))) | (refine Below.trans ?_ (by assumption)))
          go_wp2_with fail
          refine Calls.mono (HK4.out _ hbl3) ?_
          rintro e w4 ⟨a, c, rfl, hb4, ho⟩
          have HO := Lib.hid ho
          clear ho
          have hbl4 := below_callS hbl3 hb4
          go_wp2
          exact bodyPost_ret (v := .tuple #[.slice a sn c, .int .i64 0]) (by simp [results, Try.results47, go_sem]) rfl ⟨sn, a, c, by rw [HC.out.1], hbl4, by rw [HC.out.2]; exact HO.out.le hbl3.size⟩
set_option maxHeartbeats 4000000 in
theorem impl_StateOfBits {sa ta ra va : Option Addr} {sn sc tn tc rn rc vn vc : Nat} {sz st bs : List Int} {l : List (RM × RuD)} {w : World} (hI : Ints w sa sn sc sz) (hn : sn ≤ 1048576) (hT : Ints w ta tn tc st) (ht : tn ≤ 1048576) (hR : FR w w ra rn rc l) (hr : rn ≤ 1048576) (hV : Ints w va vn vc bs) (hv : vn ≤ 1048576) :
    Calls Try.prog 46 #[.agg #[.slice sa sn sc, .slice ta tn tc, .slice ra rn rc], .slice va vn vc] w fun e w' => RetIC 2 w (soL sz st l bs) (soC sz st l bs) e w' := by
  have KM := fun (wx : World) (hb : Below w.heap.size w wx) => impl_IsModel (hI.keep hb) hn (hT.keep hb) ht (hR.self hb) hr
  cases hm : modelB sz st l
  · simp only [hm] at KM
    have K1 := Lib.hid KM
    have HC := Lib.hid (soC_1 (bs := bs) hm)
    clear KM hm hI hT hR hV
    go_enter Try.func46, Try.ntmps46
    go_wp2_with fail
    refine Calls.mono (K1.out _ (by repeat (first | exact Below.refl _ _ | assumption | refine below_allocS ?_ _ | refine below_callS ?_ (by assumption) | (refine Below.alloc ?_ (by first | omega | (simp; done) | (simp; omega)) _) | (refine Below.setCell ?_ (by first | omega | (simp; done) | (simp; omega)) _) | refine Below.drew ?_ | refine below_drewN ?_ _ | (refine below_call ?_ (by assumption) (by first | omega | (simp; done) | (simp; omega))) | (refine Below.trans ?_ (by assumption))))) ?_
    rintro e w1 ⟨rfl, hb_w1⟩
    obtain ⟨hc_w1, hf_w1⟩ := bcell hb_w1
    have hs_w1 := hb_w1.size
    go_wp2
    exact bodyPost_ret (v := .tuple #[.slice none 0 0, .int .i64 1]) (by simp [results, Try.results46, go_sem]) rfl ⟨0, none, 0, by rw [HC.out.1], by repeat (first | exact Below.refl _ _ | assumption | refine below_allocS ?_ _ | refine below_callS ?_ (by assumption) | (refine Below.alloc ?_ (by first | omega | (simp; done) | (simp; omega)) _) | (refine Below.setCell ?_ (by first | omega | (simp; done) | (simp; omega)) _) | refine Below.drew ?_ | refine below_drewN ?_ _ | (refine below_call ?_ (by assumption) (by first | omega | (simp; done) | (simp; omega))) | (refine Below.trans ?_ (by assumption))), by rw [HC.out.2]; exact OwnI.nil _ _ _⟩
  · simp only [hm] at KM
    have K1 := Lib.hid KM
    have KT := Lib.hid (fun (wx : World) (hb : Below w.heap.size w wx) => impl_widths (ta := ta) (tn := tn) (tc := tc) (ra := ra) (rn := rn) (rc := rc) (hI.keep hb) hn (modelB_all hm))
    have KA := fun (wx : World) (hb : Below w.heap.size w wx) => impl_areBits (N := (sz.map wN).sum) (hV.keep hb) hv
    cases ha : areB bs (sz.map wN).sum
    · simp only [ha] at KA
      have K2 := Lib.hid KA
      have HC := Lib.hid (soC_2 hm ha)
      clear KM KA hm ha hI hT hR hV
      go_enter Try.func46, Try.ntmps46
      go_wp2_with fail
      refine Calls.mono (K1.out _ (by repeat (first | exact Below.refl _ _ | assumption | refine below_allocS ?_ _ | refine below_callS ?_ (by assumption) | (refine Below.alloc ?_ (by first | omega | (simp; done) | (simp; omega)) _) | (refine Below.setCell ?_ (by first | omega | (simp; done) | (simp; omega)) _) | refine Below.drew ?_ | refine below_drewN ?_ _ | (refine below_call ?_ (by assumption) (by first | omega | (simp; done) | (simp; omega))) | (refine Below.trans ?_ (by assumption))))) ?_
      rintro e w1 ⟨rfl, hb_w1⟩
      obtain ⟨hc_w1, hf_w1⟩ := bcell hb_w1
      have hs_w1 := hb_w1.size
      simp at hs_w1
      have hz1 : w.heap.size < w1.heap.size := by omega
      have hbl1 : Below w.heap.size w w1 := by repeat (first | exact Below.refl _ _ | assumption | refine below_allocS ?_ _ | refine below_callS ?_ (by assumption) | (refine Below.alloc ?_ (by first | omega | (simp; done) | (simp; omega)) _) | (refine Below.setCell ?_ (by first | omega | (simp; done) | (simp; omega)) _) | refine Below.drew ?_ | refine below_drewN ?_ _ | (refine below_call ?_ (by assumption) (by first | omega | (simp; done) | (simp; omega))) | (refine Below.trans ?_ (by assumption)))
      go_wp2_with fail
      refine Calls.mono (KT.out _ hbl1) ?_
      rintro e w2 ⟨aw, cw, rfl, hb2, ho⟩
      clear ho
      have hbl2 := below_callS hbl1 hb2
      go_wp2_with fail
      refine Calls.mono (K2.out _ hbl2) ?_
      rintro e w3 ⟨rfl, hb_w3⟩
      obtain ⟨hc_w3, hf_w3⟩ := bcell hb_w3
      have hs_w3 := hb_w3.size
      go_wp2
      exact bodyPost_ret (v := .tuple #[.slice none 0 0, .int .i64 2]) (by simp [results, Try.results46, go_sem]) rfl ⟨0, none, 0, by rw [HC.out.1], below_callS hbl2 hb_w3, by rw [HC.out.2]; exact OwnI.nil _ _ _⟩
    · simp only [ha] at KA
      have K2 := Lib.hid KA
      have KS := fun (wx : World) (hb : Below w.heap.size w wx) => impl_isSmall (ta := ta) (tn := tn) (tc := tc) (ra := ra) (rn := rn) (rc := rc) (hI.keep hb) hn (modelB_all hm)
      cases hq : smB sz
      · simp only [hq] at KS
        have K3 := Lib.hid KS
        have HC := Lib.hid (soC_3 hm ha hq)
        clear KM KA KS hm ha hq hI hT hR hV
        go_enter Try.func46, Try.ntmps46
        go_wp2_with fail
        refine Calls.mono (K1.out _ (by repeat (first | exact Below.refl _ _ | assumption | refine below_allocS ?_ _ | refine below_callS ?_ (by assumption) | (refine Below.alloc ?_ (by first | omega | (simp; done) | (simp; omega)) _) | (refine Below.setCell ?_ (by first | omega | (simp; done) | (simp; omega)) _) | refine Below.drew ?_ | refine below_drewN ?_ _ | (refine below_call ?_ (by assumption) (by first | omega | (simp; done) | (simp; omega))) | (refine Below.trans ?_ (by assumption))))) ?_
        rintro e w1 ⟨rfl, hb_w1⟩
        obtain ⟨hc_w1, hf_w1⟩ := bcell hb_w1
        have hs_w1 := hb_w1.size
        simp at hs_w1
        have hz1 : w.heap.size < w1.heap.size := by omega
        have hbl1 : Below w.heap.size w w1 := by repeat (first | exact Below.refl _ _ | assumption | refine below_allocS ?_ _ | refine below_callS ?_ (by assumption) | (refine Below.alloc ?_ (by first | omega | (simp; done) | (simp; omega)) _) | (refine Below.setCell ?_ (by first | omega | (simp; done) | (simp; omega)) _) | refine Below.drew ?_ | refine below_drewN ?_ _ | (refine below_call ?_ (by assumption) (by first | omega | (simp; done) | (simp; omega))) | (refine Below.trans ?_ (by assumption)))
        go_wp2_with fail
        refine Calls.mono (KT.out _ hbl1) ?_
        rintro e w2 ⟨aw, cw, rfl, hb2, ho⟩
        clear ho
        have hbl2 := below_callS hbl1 hb2
        have hc2 := (bcell hb2).1
        have hs2 := hb2.size
        have hz2 : w.heap.size < w2.heap.size := by omega
        clear hb2
        go_wp2_with fail
        refine Calls.mono (K2.out _ hbl2) ?_
        rintro e w3 ⟨rfl, hb_w3⟩
        obtain ⟨hc_w3, hf_w3⟩ := bcell hb_w3
        have hs_w3 := hb_w3.size
        have hz3 : w.heap.size < w3.heap.size := by omega
        have hbl3 := below_callS hbl2 hb_w3
        go_wp2_with fail
        refine Calls.mono (K3.out _ hbl3) ?_
        rintro e w4 ⟨rfl, hb_w4⟩
        obtain ⟨hc_w4, hf_w4⟩ := bcell hb_w4
        have hs_w4 := hb_w4.size
        have hz4 : w.heap.size < w4.heap.size := by omega
        have hbl4 := below_callS hbl3 hb_w4
        go_wp2
        exact bodyPost_ret (v := .tuple #[.slice none 0 0, .int .i64 3]) (by simp [results, Try.results46, go_sem]) rfl ⟨0, none, 0, by rw [HC.out.1], hbl4, by rw [HC.out.2]; exact OwnI.nil _ _ _⟩
      · simp only [hq] at KS
        have K3 := Lib.hid KS
        have hn16 : sn ≤ 16 := by have := modelB_len hm; have := hI.len; omega
        have hap := areB_parts ha (modelB_all hm)
        have HK4 := Lib.hid (fun (wx : World) (hb : Below w.heap.size w wx) => impl_valuesOf (ta := ta) (tn := tn) (tc := tc) (ra := ra) (rn := rn) (rc := rc) (hI.keep hb) (hV.keep hb) hn16 (modelB_all hm) hap.1 (by rw [← hV.len, hap.2, hI.len]))
        have K5 := fun (wx : World) (a : Option Addr) (c : Nat) (hb : Below w.heap.size w wx) (ho : Ints wx a sn c (stV sz bs)) => impl_isState (ta := ta) (tn := tn) (tc := tc) (ra := ra) (rn := rn) (rc := rc) (hI.keep hb) ho hn hn (modelB_all hm)
        cases hs : stateB sz (stV sz bs)
        · simp only [hs] at K5
          have HK5 := Lib.hid K5
          have HC := Lib.hid (soC_4 hm ha hq hs)
          clear KM KA KS K5 hm ha hq hap hs hI hT hR hV
          go_enter Try.func46, Try.ntmps46
          go_wp2_with fail
          refine Calls.mono (K1.out _ (by repeat (first | exact Below.refl _ _ | assumption | refine below_allocS ?_ _ | refine below_callS ?_ (by assumption) | (refine Below.alloc ?_ (by first | omega | (simp; done) | (simp; omega)) _) | (refine Below.setCell ?_ (by first | omega | (simp; done) | (simp; omega)) _) | refine Below.drew ?_ | refine below_drewN ?_ _ | (refine below_call ?_ (by assumption) (by first | omega | (simp; done) | (simp; omega))) | (refine Below.trans ?_ (by assumption))))) ?_
          rintro e w1 ⟨rfl, hb_w1⟩
          obtain ⟨hc_w1, hf_w1⟩ := bcell hb_w1
          have hs_w1 := hb_w1.size
          simp at hs_w1
          have hz1 : w.heap.size < w1.heap.size := by omega
          have hbl1 : Below w.heap.size w w1 := by repeat (first | exact Below.refl _ _ | assumption | refine below_allocS ?_ _ | refine below_callS ?_ (by assumption) | (refine Below.alloc ?_ (by first | omega | (simp; done) | (simp; omega)) _) | (refine Below.setCell ?_ (by first | omega | (simp; done) | (simp; omega)) _) | refine Below.drew ?_ | refine below_drewN ?_ _ | (refine below_call ?_ (by assumption) (by first | omega | (simp; done) | (simp; omega))) | (refine Below.trans ?_ (by assumption)))
          go_wp2_with fail
          refine Calls.mono (KT.out _ hbl1) ?_
          rintro e w2 ⟨aw, cw, rfl, hb2, ho⟩
          clear ho
          have hbl2 := below_callS hbl1 hb2
          have hc2 := (bcell hb2).1
          have hs2 := hb2.size
          have hz2 : w.heap.size < w2.heap.size := by omega
          clear hb2
          go_wp2_with fail
          refine Calls.mono (K2.out _ hbl2) ?_
          rintro e w3 ⟨rfl, hb_w3⟩
          obtain ⟨hc_w3, hf_w3⟩ := bcell hb_w3
          have hs_w3 := hb_w3.size
          have hz3 : w.heap.size < w3.heap.size := by omega
          have hbl3 := below_callS hbl2 hb_w3
          go_wp2_with fail
          refine Calls.mono (K3.out _ hbl3) ?_
          rintro e w4 ⟨rfl, hb_w4⟩
          obtain ⟨hc_w4, hf_w4⟩ := bcell hb_w4
          have hs_w4 := hb_w4.size
          have hz4 : w.heap.size < w4.heap.size := by omega
          have hbl4 := below_callS hbl3 hb_w4
          go_wp2_with fail
          refine Calls.mono (HK4.out _ hbl4) ?_
          rintro e w5 ⟨a, c, rfl, hb_w5, ho⟩
          have HO := Lib.hid ho
          clear ho
          have hc5 := (bcell hb_w5).1
          have hs_w5 := hb_w5.size
          have hz5 : w.heap.size < w5.heap.size := by omega
          have hbl5 := below_callS hbl4 hb_w5
          go_wp2_with fail
          refine Calls.mono (HK5.out _ _ _ hbl5 HO.out.ints) ?_
          rintro e w6 ⟨rfl, hb_w6⟩
          obtain ⟨hc_w6, hf_w6⟩ := bcell hb_w6
          have hs_w6 := hb_w6.size
          go_wp2
          exact bodyPost_ret (v := .tuple #[.slice none 0 0, .int .i64 4]) (by simp [results, Try.results46, go_sem]) rfl ⟨0, none, 0, by rw [HC.out.1], below_callS hbl5 hb_w6, by rw [HC.out.2]; exact OwnI.nil _ _ _⟩
        · simp only [hs] at K5
          have HK5 := Lib.hid K5
          have HC := Lib.hid (soC_0 hm ha hq hs)
          clear KM KA KS K5 hm ha hq hap hs hI hT hR hV
          go_enter Try.func46, Try.ntmps46
          go_wp2_with fail
          refine Calls.mono (K1.out _ (by repeat (first | exact Below.refl _ _ | assumption | refine below_allocS ?_ _ | refine below_callS ?_ (by assumption) | (refine Below.alloc ?_ (by first | omega | (simp; done) | (simp; omega)) _) | (refine Below.setCell ?_ (by first | omega | (simp; done) | (simp; omega)) _) | refine Below.drew ?_ | refine below_drewN ?_ _ | (refine below_call ?_ (by assumption) (by first | omega | (simp; done) | (simp; omega))) | (refine Below.trans ?_ (by assumption))))) ?_
          rintro e w1 ⟨rfl, hb_w1⟩
          obtain ⟨hc_w1, hf_w1⟩ := bcell hb_w1
          have hs_w1 := hb_w1.size
          simp at hs_w1
          have hz1 : w.heap.size < w1.heap.size := by omega
          have hbl1 : Below w.heap.size w w1 := by repeat (first | exact Below.refl _ _ | assumption | refine below_allocS ?_ _ | refine below_callS ?_ (by assumption) | (refine Below.alloc ?_ (by first | omega | (simp; done) | (simp; omega)) _) | (refine Below.setCell ?_ (by first | omega | (simp; done) | (simp; omega)) _) | refine Below.drew ?_ | refine below_drewN ?_ _ | (refine below_call ?_ (by assumption) (by first | omega | (simp; done) | (simp; omega))) | (refine Below.trans ?_ (by assumption)))
          go_wp2_with fail
          refine Calls.mono (KT.out _ hbl1) ?_
          rintro e w2 ⟨aw, cw, rfl, hb2, ho⟩
          clear ho
          have hbl2 := below_callS hbl1 hb2
          have hc2 := (bcell hb2).1
          have hs2 := hb2.size
          have hz2 : w.heap.size < w2.heap.size := by omega
          clear hb2
          go_wp2_with fail
          refine Calls.mono (K2.out _ hbl2) ?_
          rintro e w3 ⟨rfl, hb_w3⟩
          obtain ⟨hc_w3, hf_w3⟩ := bcell hb_w3
          have hs_w3 := hb_w3.size
          have hz3 : w.heap.size < w3.heap.size := by omega
          have hbl3 := below_callS hbl2 hb_w3
          go_wp2_with fail
          refine Calls.mono (K3.out _ hbl3) ?_
          rintro e w4 ⟨rfl, hb_w4⟩
          obtain ⟨hc_w4, hf_w4⟩ := bcell hb_w4
          have hs_w4 := hb_w4.size
          have hz4 : w.heap.size < w4.heap.size := by omega
          have hbl4 := below_callS hbl3 hb_w4
          go_wp2_with fail
          refine Calls.mono (HK4.out _ hbl4) ?_
          rintro e w5 ⟨a, c, rfl, hb_w5, ho⟩
          have HO := Lib.hid ho
          clear ho
          have hc5 := (bcell hb_w5).1
          have hs_w5 := hb_w5.size
          have hz5 : w.heap.size < w5.heap.size := by omega
          have hbl5 := below_callS hbl4 hb_w5
          go_wp2_with fail
          refine Calls.mono (HK5.out _ _ _ hbl5 HO.out.ints) ?_
          rintro e w6 ⟨rfl, hb_w6⟩
          obtain ⟨hc_w6, hf_w6⟩ := bcell hb_w6
          have hs_w6 := hb_w6.size
          go_wp2
          exact bodyPost_ret (v := .tuple #[.slice a sn c, .int .i64 0]) (by simp [results, Try.results46, go_sem]) rfl ⟨sn, a, c, by rw [HC.out.1], below_callS hbl5 hb_w6, by rw [HC.out.2]; exact (HO.out.keep hb_w6).le hbl4.size⟩
end Go.Proofs.Ytkaikbaagajckaa
