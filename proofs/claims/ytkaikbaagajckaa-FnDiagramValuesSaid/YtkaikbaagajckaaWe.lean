/- Counts of ones, constant diagrams, diagrams of inputs: both functions, walked; comparisons of the laws. -/
import Derived.Test.YtkaikbaagajckaaWd
namespace Go.Proofs.Ytkaikbaagajckaa
open Go.RowKit
set_option linter.unusedVariables false
set_option linter.unusedSimpArgs false
def onesC (n : Int) (L : List I3) (root : Int) : Int × Int := if diaB n L root = false then (0, 1) else ((onesN n L root : Int), 0)
theorem onesC_1 {n : Int} {L : List I3} {root : Int} (h : diaB n L root = false) : onesC n L root = (0, 1) := if_pos h
theorem onesC_2 {n : Int} {L : List I3} {root : Int} (h : diaB n L root = true) : onesC n L root = ((onesN n L root : Int), 0) := by rw [onesC, if_neg (by simp [h])]
set_option maxRecDepth 100000 in
set_option maxHeartbeats 2000000 in
theorem impl_CountOnes {a : Option Addr} {n c : Nat} {L : List I3} {inp root : Int} {w : World} (hI : F3 w a n c L) (hi : I64 inp) (hr : I64 root) (hn : n ≤ maxLen) :
    Calls Try.prog 11 #[.agg #[.int .i64 inp, .slice a n c, .int .i64 root]] w fun e w' => e = .returned (.tuple #[.int .i64 (onesC inp L root).1, .int .i64 (onesC inp L root).2]) ∧ Below w.heap.size w w' := by
  have HI := Lib.hid hI
  obtain rfl : L.length = n := hI.len
  have hb0 : Below w.heap.size w (w.alloc (.cells #[.int .i64 inp, .slice a L.length c, .int .i64 root] 26)) := by repeat (first | exact Below.refl _ _ | assumption | refine below_allocS ?_ _ | refine below_callS ?_ (by assumption) | (refine Below.alloc ?_ (by first | omega | (simp; done) | (simp; omega)) _) | (refine Below.setCell ?_ (by first | omega | (simp; done) | (simp; omega)) _) | refine Below.drew ?_ | refine below_drewN ?_ _ | (refine below_call ?_ (by assumption) (by first | omega | (simp; done) | (simp; omega))) | (refine Below.trans ?_ (by assumption)))
  have X := Lib.hid (Blk.made w #[.int .i64 inp, .slice a L.length c, .int .i64 root] 26)
  have hcd := impl_IsDiagram (w := w.alloc (.cells #[.int .i64 inp, .slice a L.length c, .int .i64 root] 26)) (hI.keep hb0) hi hr hn
  clear hI
  cases hd : diaB inp L root
  · rw [hd] at hcd
    have HCD := Lib.hid hcd
    have HF := Lib.hid (onesC_1 hd)
    clear hcd hd
    go_enter Try.func11, Try.ntmps11
    go_wp2_with fail
    refine Calls.mono HCD.out ?_
    rintro e w1 ⟨rfl, hb1⟩
    go_wp2
    go_ret2
    exact ⟨by rw [HF.out]; rfl, below_callS hb0 hb1⟩
  rw [hd] at hcd
  have HCD := Lib.hid hcd
  have HF := Lib.hid (onesC_2 hd)
  have HS := Lib.hid (dia_snd hd)
  obtain ⟨hR, hrr, h0, h20, hll, _, _⟩ := dia_redu hd
  clear hcd hd hR
  go_enter Try.func11, Try.ntmps11
  go_wp2_with fail
  refine Calls.mono HCD.out ?_
  rintro e w1 ⟨rfl, hb1⟩
  have X1 := Lib.hid (X.out.keep hb1)
  have HB1 := Lib.hid (below_callS hb0 hb1)
  have x0 := X1.out.cell 0
  have x1 := X1.out.cell 1
  have x2 := X1.out.cell 2
  have xl := X1.out.lt
  simp only [List.getElem?_toArray, List.getElem?_cons_zero, List.getElem?_cons_succ] at x0 x1 x2
  go_wp2_with fail
  refine Calls.mono (impl_ones (HI.out.keep HB1.out) hll HS.out hrr h0 h20) ?_
  rintro e w2 ⟨rfl, hb2⟩
  go_wp2
  go_ret2
  exact ⟨by rw [HF.out]; rfl, below_callS HB1.out hb2⟩
set_option maxRecDepth 100000 in
set_option maxHeartbeats 2000000 in
theorem spec_CountOnes {a : Option Addr} {n c : Nat} {L : List I3} {inp root : Int} {w : World} (hI : F3 w a n c L) (hi : I64 inp) (hr : I64 root) (hn : n ≤ maxLen) :
    Calls Try.prog 12 #[.agg #[.int .i64 inp, .slice a n c, .int .i64 root]] w fun e w' => e = .returned (.tuple #[.int .i64 (onesC inp L root).1, .int .i64 (onesC inp L root).2]) ∧ Below w.heap.size w w' := by
  have HI := Lib.hid hI
  obtain rfl : L.length = n := hI.len
  have hb0 : Below w.heap.size w (w.alloc (.cells #[.int .i64 inp, .slice a L.length c, .int .i64 root] 26)) := by repeat (first | exact Below.refl _ _ | assumption | refine below_allocS ?_ _ | refine below_callS ?_ (by assumption) | (refine Below.alloc ?_ (by first | omega | (simp; done) | (simp; omega)) _) | (refine Below.setCell ?_ (by first | omega | (simp; done) | (simp; omega)) _) | refine Below.drew ?_ | refine below_drewN ?_ _ | (refine below_call ?_ (by assumption) (by first | omega | (simp; done) | (simp; omega))) | (refine Below.trans ?_ (by assumption)))
  have X := Lib.hid (Blk.made w #[.int .i64 inp, .slice a L.length c, .int .i64 root] 26)
  have hcd := spec_IsDiagram (w := w.alloc (.cells #[.int .i64 inp, .slice a L.length c, .int .i64 root] 26)) (hI.keep hb0) hi hr hn
  clear hI
  cases hd : diaB inp L root
  · rw [hd] at hcd
    have HCD := Lib.hid hcd
    have HF := Lib.hid (onesC_1 hd)
    clear hcd hd
    go_enter Try.func12, Try.ntmps12
    go_wp2_with fail
    refine Calls.mono HCD.out ?_
    rintro e w1 ⟨rfl, hb1⟩
    go_wp2
    go_ret2
    exact ⟨by rw [HF.out]; rfl, below_callS hb0 hb1⟩
  rw [hd] at hcd
  have HCD := Lib.hid hcd
  have HF := Lib.hid (onesC_2 hd)
  have HS := Lib.hid (dia_snd hd)
  obtain ⟨hR, hrr, h0, h20, hll, _, _⟩ := dia_redu hd
  clear hcd hd hR
  go_enter Try.func12, Try.ntmps12
  go_wp2_with fail
  refine Calls.mono HCD.out ?_
  rintro e w1 ⟨rfl, hb1⟩
  have X1 := Lib.hid (X.out.keep hb1)
  have HB1 := Lib.hid (below_callS hb0 hb1)
  have x0 := X1.out.cell 0
  have x1 := X1.out.cell 1
  have x2 := X1.out.cell 2
  have xl := X1.out.lt
  simp only [List.getElem?_toArray, List.getElem?_cons_zero, List.getElem?_cons_succ] at x0 x1 x2
  go_wp2_with fail
  refine Calls.mono (spec_l22Ones (HI.out.keep HB1.out) hll HS.out hrr h0 h20) ?_
  rintro e w2 ⟨rfl, hb2⟩
  go_wp2
  go_ret2
  exact ⟨by rw [HF.out]; rfl, below_callS HB1.out hb2⟩
theorem impl_isInputs {x : Int} {w : World} : Calls Try.prog 59 #[.int .i64 x] w fun e w' => e = .returned (.bool (inB x 0 20)) ∧ w = w' := by
  go_enter Try.func59, Try.ntmps59
  go_wp2_with fail
  refine Calls.mono (impl_within) ?_
  rintro e _ ⟨rfl, rfl⟩
  go_wp2
  go_ret
  exact ⟨rfl, rfl⟩
/-- a diagram's number of inputs and root, and the code -/
def conC (n : Int) (v : Bool) : Int × Int × Int := if inB n 0 20 = true then (n, (if v = true then 1 else 0), 0) else (0, 0, 2)
set_option maxHeartbeats 2000000 in
theorem impl_ConstantDiagram {n : Int} {v : Bool} {w : World} :
    Calls Try.prog 14 #[.int .i64 n, .bool v] w fun e w' => e = .returned (.tuple #[.agg #[.int .i64 (conC n v).1, .slice none 0 0, .int .i64 (conC n v).2.1], .int .i64 (conC n v).2.2]) ∧ Below w.heap.size w w' := by
  cases hn : inB n 0 20
  · have HN := Lib.hid hn
    have HF := Lib.hid (show conC n v = (0, 0, 2) by rw [conC, hn]; rfl)
    clear hn
    go_enter Try.func14, Try.ntmps14
    go_wp2_with fail
    refine Calls.mono (impl_isInputs) ?_
    rintro e _ ⟨rfl, rfl⟩
    rw [HN.out]
    go_wp2
    refine bodyPost_ret (v := .tuple #[.agg #[.int .i64 0, .slice none 0 0, .int .i64 0], .int .i64 2]) (by simp [results, Try.results14, go_sem, *]) rfl ⟨by rw [HF.out], by repeat (first | exact Below.refl _ _ | assumption | refine below_allocS ?_ _ | refine below_callS ?_ (by assumption) | (refine Below.alloc ?_ (by first | omega | (simp; done) | (simp; omega)) _) | (refine Below.setCell ?_ (by first | omega | (simp; done) | (simp; omega)) _) | refine Below.drew ?_ | refine below_drewN ?_ _ | (refine below_call ?_ (by assumption) (by first | omega | (simp; done) | (simp; omega))) | (refine Below.trans ?_ (by assumption)))⟩
  · have HN := Lib.hid hn
    cases v
    all_goals
      have HF := Lib.hid (show ∀ v, conC n v = (n, (if v = true then 1 else 0), 0) from fun v => by rw [conC, hn]; exact if_pos rfl)
      clear hn
      go_enter Try.func14, Try.ntmps14
      go_wp2_with fail
      refine Calls.mono (impl_isInputs) ?_
      rintro e _ ⟨rfl, rfl⟩
      rw [HN.out]
      go_wp2_with fail
      refine Calls.mono impl_truth ?_
      rintro e _ ⟨rfl, rfl⟩
      go_wp2
    · refine bodyPost_ret (v := .tuple #[.agg #[.int .i64 n, .slice none 0 0, .int .i64 0], .int .i64 0]) (by simp [results, Try.results14, go_sem, *]) rfl ⟨by rw [HF.out]; rfl, by repeat (first | exact Below.refl _ _ | assumption | refine below_allocS ?_ _ | refine below_callS ?_ (by assumption) | (refine Below.alloc ?_ (by first | omega | (simp; done) | (simp; omega)) _) | (refine Below.setCell ?_ (by first | omega | (simp; done) | (simp; omega)) _) | refine Below.drew ?_ | refine below_drewN ?_ _ | (refine below_call ?_ (by assumption) (by first | omega | (simp; done) | (simp; omega))) | (refine Below.trans ?_ (by assumption)))⟩
    · refine bodyPost_ret (v := .tuple #[.agg #[.int .i64 n, .slice none 0 0, .int .i64 1], .int .i64 0]) (by simp [results, Try.results14, go_sem, *]) rfl ⟨by rw [HF.out]; rfl, by repeat (first | exact Below.refl _ _ | assumption | refine below_allocS ?_ _ | refine below_callS ?_ (by assumption) | (refine Below.alloc ?_ (by first | omega | (simp; done) | (simp; omega)) _) | (refine Below.setCell ?_ (by first | omega | (simp; done) | (simp; omega)) _) | refine Below.drew ?_ | refine below_drewN ?_ _ | (refine below_call ?_ (by assumption) (by first | omega | (simp; done) | (simp; omega))) | (refine Below.trans ?_ (by assumption)))⟩
set_option maxHeartbeats 2000000 in
theorem spec_ConstantDiagram {n : Int} {v : Bool} {w : World} :
    Calls Try.prog 15 #[.int .i64 n, .bool v] w fun e w' => e = .returned (.tuple #[.agg #[.int .i64 (conC n v).1, .slice none 0 0, .int .i64 (conC n v).2.1], .int .i64 (conC n v).2.2]) ∧ Below w.heap.size w w' := by
  cases hn : inB n 0 20
  · have HN := Lib.hid hn
    have HF := Lib.hid (show conC n v = (0, 0, 2) by rw [conC, hn]; rfl)
    clear hn
    go_enter Try.func15, Try.ntmps15
    go_wp2_with fail
    refine Calls.mono (spec_l01In) ?_
    rintro e _ ⟨rfl, rfl⟩
    rw [HN.out]
    go_wp2
    refine bodyPost_ret (v := .tuple #[.agg #[.int .i64 0, .slice none 0 0, .int .i64 0], .int .i64 2]) (by simp [results, Try.results15, go_sem, *]) rfl ⟨by rw [HF.out], by repeat (first | exact Below.refl _ _ | assumption | refine below_allocS ?_ _ | refine below_callS ?_ (by assumption) | (refine Below.alloc ?_ (by first | omega | (simp; done) | (simp; omega)) _) | (refine Below.setCell ?_ (by first | omega | (simp; done) | (simp; omega)) _) | refine Below.drew ?_ | refine below_drewN ?_ _ | (refine below_call ?_ (by assumption) (by first | omega | (simp; done) | (simp; omega))) | (refine Below.trans ?_ (by assumption)))⟩
  · have HN := Lib.hid hn
    cases v
    all_goals
      have HF := Lib.hid (show ∀ v, conC n v = (n, (if v = true then 1 else 0), 0) from fun v => by rw [conC, hn]; exact if_pos rfl)
      clear hn
      go_enter Try.func15, Try.ntmps15
      go_wp2_with fail
      refine Calls.mono (spec_l01In) ?_
      rintro e _ ⟨rfl, rfl⟩
      rw [HN.out]
      skip
      go_wp2
    · refine bodyPost_ret (v := .tuple #[.agg #[.int .i64 n, .slice none 0 0, .int .i64 0], .int .i64 0]) (by simp [results, Try.results15, go_sem, *]) rfl ⟨by rw [HF.out]; rfl, by repeat (first | exact Below.refl _ _ | assumption | refine below_allocS ?_ _ | refine below_callS ?_ (by assumption) | (refine Below.alloc ?_ (by first | omega | (simp; done) | (simp; omega)) _) | (refine Below.setCell ?_ (by first | omega | (simp; done) | (simp; omega)) _) | refine Below.drew ?_ | refine below_drewN ?_ _ | (refine below_call ?_ (by assumption) (by first | omega | (simp; done) | (simp; omega))) | (refine Below.trans ?_ (by assumption)))⟩
    · refine bodyPost_ret (v := .tuple #[.agg #[.int .i64 n, .slice none 0 0, .int .i64 1], .int .i64 0]) (by simp [results, Try.results15, go_sem, *]) rfl ⟨by rw [HF.out]; rfl, by repeat (first | exact Below.refl _ _ | assumption | refine below_allocS ?_ _ | refine below_callS ?_ (by assumption) | (refine Below.alloc ?_ (by first | omega | (simp; done) | (simp; omega)) _) | (refine Below.setCell ?_ (by first | omega | (simp; done) | (simp; omega)) _) | refine Below.drew ?_ | refine below_drewN ?_ _ | (refine below_call ?_ (by assumption) (by first | omega | (simp; done) | (simp; omega))) | (refine Below.trans ?_ (by assumption)))⟩
/-- a diagram's number of inputs, nodes and root, and the code -/
def inpC (n i : Int) : Int × List I3 × Int × Int := if inB n 0 20 = true ∧ inB i 0 (n - 1) = true then (n, [⟨i, 0, 1⟩], 2, 0) else (0, [], 0, 2)
set_option maxHeartbeats 2000000 in
theorem impl_InputDiagram {n i : Int} {w : World} (hi : I64 i) :
    Calls Try.prog 17 #[.int .i64 n, .int .i64 i] w fun e w' => ∃ a c, e = .returned (.tuple #[.agg #[.int .i64 (inpC n i).1, .slice a (inpC n i).2.1.length c, .int .i64 (inpC n i).2.2.1], .int .i64 (inpC n i).2.2.2]) ∧ OwnF 3 I3.enc I3.ok 76 w' w.heap.size a (inpC n i).2.1.length c (inpC n i).2.1 ∧ Below w.heap.size w w' := by
  cases hn : inB n 0 20
  · have HN := Lib.hid hn
    have HF := Lib.hid (show inpC n i = (0, [], 0, 2) by rw [inpC, hn]; simp)
    clear hn
    go_enter Try.func17, Try.ntmps17
    go_wp2_with fail
    refine Calls.mono (impl_isInputs) ?_
    rintro e _ ⟨rfl, rfl⟩
    rw [HN.out]
    go_wp2
    refine bodyPost_ret (v := .tuple #[.agg #[.int .i64 0, .slice none 0 0, .int .i64 0], .int .i64 2]) (by simp [results, Try.results17, go_sem, *]) rfl ⟨none, 0, by rw [HF.out]; rfl, by rw [HF.out]; exact ⟨World.ownsRow_nil _ _ _ 3, (fun _ h => by cases h), rfl, fun _ => rfl⟩, by repeat (first | exact Below.refl _ _ | assumption | refine below_allocS ?_ _ | refine below_callS ?_ (by assumption) | (refine Below.alloc ?_ (by first | omega | (simp; done) | (simp; omega)) _) | (refine Below.setCell ?_ (by first | omega | (simp; done) | (simp; omega)) _) | refine Below.drew ?_ | refine below_drewN ?_ _ | (refine below_call ?_ (by assumption) (by first | omega | (simp; done) | (simp; omega))) | (refine Below.trans ?_ (by assumption)))⟩
  · have HN := Lib.hid hn
    have hn2 := inBI_true hn
    have e1 : IntKind.i64.wrap (n - 1) = n - 1 := IntWalk.i64_in _ (by omega)
    cases hj : inB i 0 (n - 1)
    · have HJ := Lib.hid hj
      have HF := Lib.hid (show inpC n i = (0, [], 0, 2) by rw [inpC, hn, hj]; simp)
      clear hn hj
      go_enter Try.func17, Try.ntmps17
      go_wp2_with fail
      refine Calls.mono (impl_isInputs) ?_
      rintro e _ ⟨rfl, rfl⟩
      rw [HN.out]
      go_wp2_with fail
      refine Calls.mono (impl_within) ?_
      rintro e _ ⟨rfl, rfl⟩
      rw [HJ.out]
      go_wp2
      refine bodyPost_ret (v := .tuple #[.agg #[.int .i64 0, .slice none 0 0, .int .i64 0], .int .i64 2]) (by simp [results, Try.results17, go_sem, *]) rfl ⟨none, 0, by rw [HF.out]; rfl, by rw [HF.out]; exact ⟨World.ownsRow_nil _ _ _ 3, (fun _ h => by cases h), rfl, fun _ => rfl⟩, by repeat (first | exact Below.refl _ _ | assumption | refine below_allocS ?_ _ | refine below_callS ?_ (by assumption) | (refine Below.alloc ?_ (by first | omega | (simp; done) | (simp; omega)) _) | (refine Below.setCell ?_ (by first | omega | (simp; done) | (simp; omega)) _) | refine Below.drew ?_ | refine below_drewN ?_ _ | (refine below_call ?_ (by assumption) (by first | omega | (simp; done) | (simp; omega))) | (refine Below.trans ?_ (by assumption)))⟩
    · have HJ := Lib.hid hj
      have HF := Lib.hid (show inpC n i = (n, [⟨i, 0, 1⟩], 2, 0) by rw [inpC, hn, hj]; simp)
      clear hn hj
      go_enter Try.func17, Try.ntmps17
      go_wp2_with fail
      refine Calls.mono (impl_isInputs) ?_
      rintro e _ ⟨rfl, rfl⟩
      rw [HN.out]
      go_wp2_with fail
      refine Calls.mono (impl_within) ?_
      rintro e _ ⟨rfl, rfl⟩
      rw [HJ.out]
      go_wp2
      refine bodyPost_ret (v := .tuple #[.agg #[.int .i64 n, .slice (some ⟨w.heap.size + 1, 0, none⟩) 1 1, .int .i64 2], .int .i64 0]) (by simp [results, Try.results17, go_sem, *]) rfl ⟨some ⟨w.heap.size + 1, 0, none⟩, 1, by rw [HF.out]; rfl, ?_, by repeat (first | exact Below.refl _ _ | assumption | refine below_allocS ?_ _ | refine below_callS ?_ (by assumption) | (refine Below.alloc ?_ (by first | omega | (simp; done) | (simp; omega)) _) | (refine Below.setCell ?_ (by first | omega | (simp; done) | (simp; omega)) _) | refine Below.drew ?_ | refine below_drewN ?_ _ | (refine below_call ?_ (by assumption) (by first | omega | (simp; done) | (simp; omega))) | (refine Below.trans ?_ (by assumption)))⟩
      rw [HF.out]
      have h := OwnF.lit (k := 3) (m := 1) (enc := I3.enc) (ok := I3.ok) (E := 76) (cs := #[.int .i64 i, .int .i64 0, .int .i64 1]) (base := w.heap.size) (w.alloc (.cells #[.int .i64 n, .slice (some ⟨w.heap.size + 1, 0, none⟩) 1 1, .int .i64 2] 26)) [⟨i, 0, 1⟩] (by simp) rfl (by decide) (fun _ => rfl) (fun x hx => by simp at hx; rw [hx]; exact ⟨hi, (by show I64 0; unfold I64; omega), (by show I64 1; unfold I64; omega)⟩) rfl
      simpa using h
set_option maxHeartbeats 2000000 in
theorem spec_InputDiagram {n i : Int} {w : World} (hi : I64 i) :
    Calls Try.prog 18 #[.int .i64 n, .int .i64 i] w fun e w' => ∃ a c, e = .returned (.tuple #[.agg #[.int .i64 (inpC n i).1, .slice a (inpC n i).2.1.length c, .int .i64 (inpC n i).2.2.1], .int .i64 (inpC n i).2.2.2]) ∧ OwnF 3 I3.enc I3.ok 76 w' w.heap.size a (inpC n i).2.1.length c (inpC n i).2.1 ∧ Below w.heap.size w w' := by
  cases hn : inB n 0 20
  · have HN := Lib.hid hn
    have HF := Lib.hid (show inpC n i = (0, [], 0, 2) by rw [inpC, hn]; simp)
    clear hn
    go_enter Try.func18, Try.ntmps18
    go_wp2_with fail
    refine Calls.mono (spec_l01In) ?_
    rintro e _ ⟨rfl, rfl⟩
    rw [HN.out]
    go_wp2
    refine bodyPost_ret (v := .tuple #[.agg #[.int .i64 0, .slice none 0 0, .int .i64 0], .int .i64 2]) (by simp [results, Try.results18, go_sem, *]) rfl ⟨none, 0, by rw [HF.out]; rfl, by rw [HF.out]; exact ⟨World.ownsRow_nil _ _ _ 3, (fun _ h => by cases h), rfl, fun _ => rfl⟩, by repeat (first | exact Below.refl _ _ | assumption | refine below_allocS ?_ _ | refine below_callS ?_ (by assumption) | (refine Below.alloc ?_ (by first | omega | (simp; done) | (simp; omega)) _) | (refine Below.setCell ?_ (by first | omega | (simp; done) | (simp; omega)) _) | refine Below.drew ?_ | refine below_drewN ?_ _ | (refine below_call ?_ (by assumption) (by first | omega | (simp; done) | (simp; omega))) | (refine Below.trans ?_ (by assumption)))⟩
  · have HN := Lib.hid hn
    have hn2 := inBI_true hn
    have e1 : IntKind.i64.wrap (n - 1) = n - 1 := IntWalk.i64_in _ (by omega)
    cases hj : inB i 0 (n - 1)
    · have HJ := Lib.hid hj
      have HF := Lib.hid (show inpC n i = (0, [], 0, 2) by rw [inpC, hn, hj]; simp)
      clear hn hj
      go_enter Try.func18, Try.ntmps18
      go_wp2_with fail
      refine Calls.mono (spec_l01In) ?_
      rintro e _ ⟨rfl, rfl⟩
      rw [HN.out]
      go_wp2_with fail
      refine Calls.mono (spec_l01In) ?_
      rintro e _ ⟨rfl, rfl⟩
      rw [HJ.out]
      go_wp2
      refine bodyPost_ret (v := .tuple #[.agg #[.int .i64 0, .slice none 0 0, .int .i64 0], .int .i64 2]) (by simp [results, Try.results18, go_sem, *]) rfl ⟨none, 0, by rw [HF.out]; rfl, by rw [HF.out]; exact ⟨World.ownsRow_nil _ _ _ 3, (fun _ h => by cases h), rfl, fun _ => rfl⟩, by repeat (first | exact Below.refl _ _ | assumption | refine below_allocS ?_ _ | refine below_callS ?_ (by assumption) | (refine Below.alloc ?_ (by first | omega | (simp; done) | (simp; omega)) _) | (refine Below.setCell ?_ (by first | omega | (simp; done) | (simp; omega)) _) | refine Below.drew ?_ | refine below_drewN ?_ _ | (refine below_call ?_ (by assumption) (by first | omega | (simp; done) | (simp; omega))) | (refine Below.trans ?_ (by assumption)))⟩
    · have HJ := Lib.hid hj
      have HF := Lib.hid (show inpC n i = (n, [⟨i, 0, 1⟩], 2, 0) by rw [inpC, hn, hj]; simp)
      clear hn hj
      go_enter Try.func18, Try.ntmps18
      go_wp2_with fail
      refine Calls.mono (spec_l01In) ?_
      rintro e _ ⟨rfl, rfl⟩
      rw [HN.out]
      go_wp2_with fail
      refine Calls.mono (spec_l01In) ?_
      rintro e _ ⟨rfl, rfl⟩
      rw [HJ.out]
      go_wp2
      refine bodyPost_ret (v := .tuple #[.agg #[.int .i64 n, .slice (some ⟨w.heap.size + 1, 0, none⟩) 1 1, .int .i64 2], .int .i64 0]) (by simp [results, Try.results18, go_sem, *]) rfl ⟨some ⟨w.heap.size + 1, 0, none⟩, 1, by rw [HF.out]; rfl, ?_, by repeat (first | exact Below.refl _ _ | assumption | refine below_allocS ?_ _ | refine below_callS ?_ (by assumption) | (refine Below.alloc ?_ (by first | omega | (simp; done) | (simp; omega)) _) | (refine Below.setCell ?_ (by first | omega | (simp; done) | (simp; omega)) _) | refine Below.drew ?_ | refine below_drewN ?_ _ | (refine below_call ?_ (by assumption) (by first | omega | (simp; done) | (simp; omega))) | (refine Below.trans ?_ (by assumption)))⟩
      rw [HF.out]
      have h := OwnF.lit (k := 3) (m := 1) (enc := I3.enc) (ok := I3.ok) (E := 76) (cs := #[.int .i64 i, .int .i64 0, .int .i64 1]) (base := w.heap.size) (w.alloc (.cells #[.int .i64 n, .slice (some ⟨w.heap.size + 1, 0, none⟩) 1 1, .int .i64 2] 26)) [⟨i, 0, 1⟩] (by simp) rfl (by decide) (fun _ => rfl) (fun x hx => by simp at hx; rw [hx]; exact ⟨hi, (by show I64 0; unfold I64; omega), (by show I64 1; unfold I64; omega)⟩) rfl
      simpa using h
set_option maxHeartbeats 1000000 in
theorem laws_likeDiagrams5 {a b : Option Addr} {n c m d : Nat} {L M : List I3} {inp ra rb : Int} {w : World} (hI : F3 w a n c L) (hJ : F3 w b m d M) (hn : n ≤ 1048576) (hm : m ≤ 1048576) :
    Calls Try.prog 20 #[.agg #[.int .i64 inp, .slice a n c, .int .i64 ra], .agg #[.int .i64 inp, .slice b m d, .int .i64 rb]] w fun e w' => e = .returned (.bool (decide ((M, rb) = (L, ra)))) ∧ Below w.heap.size w w' := by
  have HI := Lib.hid hI
  have HJ := Lib.hid hJ
  have q1 := hI.len
  have q2 := hJ.len
  by_cases hr : ra = rb
  · subst hr
    by_cases hl : n = m
    · obtain rfl := hl
      have X := Lib.hid ((Blk.made w #[.int .i64 inp, .slice a n c, .int .i64 ra] 26).keep (below_alloc1 (Below.refl _ _) (.cells #[.int .i64 inp, .slice b n d, .int .i64 ra] 26)))
      have Y := Lib.hid (Blk.made1 w (.cells #[.int .i64 inp, .slice a n c, .int .i64 ra] 26) #[.int .i64 inp, .slice b n d, .int .i64 ra] 26)
      have hb0 : Below w.heap.size w ((w.alloc (.cells #[.int .i64 inp, .slice a n c, .int .i64 ra] 26)).alloc (.cells #[.int .i64 inp, .slice b n d, .int .i64 ra] 26)) := by repeat (first | exact Below.refl _ _ | assumption | refine below_allocS ?_ _ | refine below_callS ?_ (by assumption) | (refine Below.alloc ?_ (by first | omega | (simp; done) | (simp; omega)) _) | (refine Below.setCell ?_ (by first | omega | (simp; done) | (simp; omega)) _) | refine Below.drew ?_ | refine below_drewN ?_ _ | (refine below_call ?_ (by assumption) (by first | omega | (simp; done) | (simp; omega))) | (refine Below.trans ?_ (by assumption)))
      clear hI hJ
      go_enter Try.func20, Try.ntmps20
      go_wp2_with fail
      go_loopw [5] (fun s5 wr => ∃ j : Nat, s5 = .int .i64 j ∧ j ≤ n ∧ Hid (Below w.heap.size w wr) ∧ Hid (Blk wr w.heap.size #[.int .i64 inp, .slice a n c, .int .i64 ra] 26) ∧ Hid (Blk wr (w.heap.size + 1) #[.int .i64 inp, .slice b n d, .int .i64 ra] 26) ∧ Hid (∀ q, q < j → L[q]? = M[q]?)) (fun s5 _ => n - (intOf s5).toNat)
      case atStart => exact ⟨0, rfl, by omega, Lib.hid hb0, X, Y, Lib.hid fun q h => by omega⟩
      case round =>
        clear X Y hb0
        obtain ⟨j, rfl, hj, HB, X, Y, A⟩ := hrel
        have x1 := X.out.cell 1
        have xl := X.out.lt
        have y1 := Y.out.cell 1
        have yl := Y.out.lt
        simp at x1 y1
        by_cases hlt : j < n
        · have hlt' : (j : Int) < (n : Int) := by omega
          have hj0 : (0 : Int) ≤ (j : Int) := by omega
          obtain ⟨b1, o1, x, rfl, hb1, hx, _, c0, c1, c2⟩ := F3.get (HI.out.keep HB.out) hlt
          obtain ⟨b2, o2, y, rfl, hb2, hy, _, d0, d1, d2⟩ := F3.get (HJ.out.keep HB.out) hlt
          have HX := Lib.hid hx
          have HY := Lib.hid hy
          clear hx hy
          have hE := neqNode x y
          by_cases he : x = y
          · subst he
            simp only [ne_eq, not_true_eq_false, decide_false] at hE
            have A2 := Lib.hid (show ∀ q, q < j + 1 → L[q]? = M[q]? from fun q hq => by
              rcases (show q < j ∨ q = j by omega) with h | rfl
              · exact A.out q h
              · rw [HX.out, HY.out])
            go_wp2_with fail
            go_quiet (fail)
            go_wp2
            go_roundw
            case rel => exact ⟨j + 1, by go_num, by omega, Lib.hid (below_drewN HB.out _), Lib.hid (X.out.keep (below_drewN (Below.refl _ _) _)), Lib.hid (Y.out.keep (below_drewN (Below.refl _ _) _)), A2⟩
            case measure => simp [intOf]; omega
          · simp only [ne_eq, he, not_false_eq_true, decide_true] at hE
            have hne := Lib.hid (show ¬ ((M, ra) = (L, ra)) from fun e => by
              simp only [Prod.mk.injEq, and_true] at e
              have h1 := HX.out
              rw [← e, HY.out] at h1
              exact he (Option.some.inj h1).symm)
            go_wp2_with fail
            go_quiet (fail)
            go_wp2
            go_ret
            exact ⟨ret_bool (decide_eq_false hne.out).symm, below_drewN HB.out _⟩
        · have hjn : j = n := by omega
          subst hjn
          have hlt' : ¬ (j : Int) < (j : Int) := by omega
          have heq := Lib.hid (show (M, ra) = (L, ra) from by
            rw [show M = L from List.ext_getElem? fun q => by
              by_cases hq : q < j
              · exact (A.out q hq).symm
              · rw [List.getElem?_eq_none (by omega), List.getElem?_eq_none (by omega)]])
          go_wp2
          go_ret
          exact ⟨ret_bool (by have h := heq.out; simp only [Prod.mk.injEq, and_true] at h; simp [h]), HB.out⟩
    · have hl1 : ¬ (n : Int) = (m : Int) := by omega
      have hne := Lib.hid (show ¬ ((M, ra) = (L, ra)) from fun e => by
        simp only [Prod.mk.injEq, and_true] at e
        rw [e] at q2; omega)
      have e1 : ((n : Int) == (m : Int)) = false := by simpa using hl1
      have e2 : (n == m) = false := by simpa using hl
      clear hI hJ q1 q2
      go_enter Try.func20, Try.ntmps20
      go_wp2
      go_ret
      exact ⟨ret_bool (decide_eq_false hne.out).symm, by repeat (first | exact Below.refl _ _ | assumption | refine below_allocS ?_ _ | refine below_callS ?_ (by assumption) | (refine Below.alloc ?_ (by first | omega | (simp; done) | (simp; omega)) _) | (refine Below.setCell ?_ (by first | omega | (simp; done) | (simp; omega)) _) | refine Below.drew ?_ | refine below_drewN ?_ _ | (refine below_call ?_ (by assumption) (by first | omega | (simp; done) | (simp; omega))) | (refine Below.trans ?_ (by assumption)))⟩
  · have e1 : (ra == rb) = false := by simpa using hr
    have hne := Lib.hid (show ¬ ((M, rb) = (L, ra)) from fun e => by
      simp only [Prod.mk.injEq] at e
      exact hr e.2.symm)
    clear hI hJ q1 q2
    go_enter Try.func20, Try.ntmps20
    go_wp2
    go_ret
    exact ⟨ret_bool (decide_eq_false hne.out).symm, by repeat (first | exact Below.refl _ _ | assumption | refine below_allocS ?_ _ | refine below_callS ?_ (by assumption) | (refine Below.alloc ?_ (by first | omega | (simp; done) | (simp; omega)) _) | (refine Below.setCell ?_ (by first | omega | (simp; done) | (simp; omega)) _) | refine Below.drew ?_ | refine below_drewN ?_ _ | (refine below_call ?_ (by assumption) (by first | omega | (simp; done) | (simp; omega))) | (refine Below.trans ?_ (by assumption)))⟩
end Go.Proofs.Ytkaikbaagajckaa
