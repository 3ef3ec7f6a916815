/- The first list of bits with the value 1: both functions, walked. -/
import Derived.Test.YtkaikbaagajckaaWa
namespace Go.Proofs.Ytkaikbaagajckaa
open Go.RowKit
set_option linter.unusedVariables false
set_option linter.unusedSimpArgs false
/-- the list and the code -/
def fstC (n : Int) (L : List I3) (root : Int) : List Int × Int := if diaB n L root = false then ([], 1) else if root = 0 then ([], 4) else (foR L root (List.replicate n.toNat 0), 0)
theorem fstC_1 {n : Int} {L : List I3} {root : Int} (h : diaB n L root = false) : fstC n L root = ([], 1) := if_pos h
theorem fstC_2 {n : Int} {L : List I3} (h : diaB n L 0 = true) : fstC n L 0 = ([], 4) := by rw [fstC, if_neg (by simp [h]), if_pos rfl]
theorem fstC_3 {n : Int} {L : List I3} {root : Int} (h : diaB n L root = true) (h2 : root ≠ 0) : fstC n L root = (foR L root (List.replicate n.toNat 0), 0) := by rw [fstC, if_neg (by simp [h]), if_neg h2]
set_option maxRecDepth 100000 in
set_option maxHeartbeats 2000000 in
theorem impl_FirstOne {a : Option Addr} {n c : Nat} {L : List I3} {inp root : Int} {w : World} (hI : F3 w a n c L) (hi : I64 inp) (hr : I64 root) (hn : n ≤ maxLen) :
    Calls Try.prog 9 #[.agg #[.int .i64 inp, .slice a n c, .int .i64 root]] w fun e w' => ∃ g gc, e = .returned (.tuple #[.slice g (fstC inp L root).1.length gc, .int .i64 (fstC inp L root).2]) ∧ OwnI 2 w' w.heap.size g (fstC inp L root).1.length gc (fstC inp L root).1 ∧ Below w.heap.size w w' := by
  have HI := Lib.hid hI
  obtain rfl : L.length = n := hI.len
  have hb0 : Below w.heap.size w (w.alloc (.cells #[.int .i64 inp, .slice a L.length c, .int .i64 root] 26)) := by repeat (first | exact Below.refl _ _ | assumption | refine below_allocS ?_ _ | refine below_callS ?_ (by assumption) | (refine Below.alloc ?_ (by first | omega | (simp; done) | (simp; omega)) _) | (refine Below.setCell ?_ (by first | omega | (simp; done) | (simp; omega)) _) | refine Below.drew ?_ | refine below_drewN ?_ _ | (refine below_call ?_ (by assumption) (by first | omega | (simp; done) | (simp; omega))) | (refine Below.trans ?_ (by assumption)))
  have X := Lib.hid (Blk.made w #[.int .i64 inp, .slice a L.length c, .int .i64 root] 26)
  have hcd := impl_IsDiagram (w := w.alloc (.cells #[.int .i64 inp, .slice a L.length c, .int .i64 root] 26)) (hI.keep hb0) hi hr hn
  clear hI
  cases hd : diaB inp L root
  · rw [hd] at hcd
    have HCD := Lib.hid hcd
    have HF := Lib.hid (fstC_1 hd)
    clear hcd hd
    go_enter Try.func9, Try.ntmps9
    go_wp2_with fail
    refine Calls.mono HCD.out ?_
    rintro e w1 ⟨rfl, hb1⟩
    go_wp2
    go_ret2
    exact ⟨none, 0, by rw [HF.out]; rfl, by rw [HF.out]; exact OwnI.nil _ _ _, below_callS hb0 hb1⟩
  rw [hd] at hcd
  have HCD := Lib.hid hcd
  have HD := Lib.hid hd
  clear hcd hd
  by_cases hr0 : root = 0
  · subst hr0
    have HF := Lib.hid (fstC_2 HD.out)
    go_enter Try.func9, Try.ntmps9
    go_wp2_with fail
    refine Calls.mono HCD.out ?_
    rintro e w1 ⟨rfl, hb1⟩
    have x0 := (X.out.keep hb1).cell 2
    have xl := (X.out.keep hb1).lt
    simp only [List.getElem?_toArray, List.getElem?_cons_zero, List.getElem?_cons_succ] at x0
    have hb01 := below_callS hb0 hb1
    go_wp2
    go_ret2
    exact ⟨none, 0, by rw [HF.out]; rfl, by rw [HF.out]; exact OwnI.nil _ _ _, hb01⟩
  have HF := Lib.hid (fstC_3 HD.out hr0)
  have hS := dia_snd HD.out
  obtain ⟨hR, hrr, h0, h20, hll, _, _⟩ := dia_redu HD.out
  obtain ⟨N, rfl⟩ : ∃ N : Nat, inp = (N : Int) := ⟨inp.toNat, by omega⟩
  rw [Int.toNat_natCast] at HF
  have HS := Lib.hid hS
  have hr9 : (root == 0) = false := by simpa using hr0
  have hmk : ∀ wx : World, (Instr.makeSlice 28 (.int .i64 (N : Int)) (.int .i64 (N : Int))).run Try.prog wx = .ok (.slice (some ⟨wx.heap.size, 0, none⟩) N N) (wx.alloc (.cells (Array.replicate N (Value.int .i64 0)) 2)) := fun wx => by
    have h := mkZ N (by omega) wx
    rw [show (List.replicate N (Value.int .i64 0)).toArray = Array.replicate N (Value.int .i64 0) by simp] at h
    exact h
  clear hS hR hi hr hn hr0
  go_enter Try.func9, Try.ntmps9
  go_wp2_with fail
  refine Calls.mono HCD.out ?_
  rintro e w1 ⟨rfl, hb1⟩
  have X1 := Lib.hid (X.out.keep hb1)
  have HB1 := Lib.hid (below_callS hb0 hb1)
  have hs1 := hb1.size
  simp at hs1
  have x0 := X1.out.cell 0
  have x2 := X1.out.cell 2
  have xl := X1.out.lt
  simp only [List.getElem?_toArray, List.getElem?_cons_zero, List.getElem?_cons_succ] at x0 x2
  clear hb1 X hb0
  go_wp2_with fail
  have O2 := Lib.hid (show OwnI 2 (w1.alloc (.cells (Array.replicate N (Value.int .i64 0)) 2)) w.heap.size (some ⟨w1.heap.size, 0, none⟩) N N (List.replicate N 0) from OwnI.zeros w1 (by omega) (by omega) (by simp))
  have X2 := Lib.hid (X1.out.keep (below_alloc1 (Below.refl _ _) (.cells (Array.replicate N (Value.int .i64 0)) 2)))
  have HB2 := Lib.hid (below_alloc1 HB1.out (.cells (Array.replicate N (Value.int .i64 0)) 2))
  clear x0 x2 xl X1 HB1 hmk HCD
  go_loopw [5] (fun s5 wr => ∃ (r : Int) (o : List Int), s5 = .int .i64 r ∧ RefB r L.length ∧ Hid (Below w.heap.size w wr) ∧ Hid (Blk wr w.heap.size #[.int .i64 (N : Int), .slice a L.length c, .int .i64 root] 26) ∧ Hid (OwnI 2 wr w.heap.size (some ⟨w1.heap.size, 0, none⟩) N N o) ∧ Hid (foR L r o = foR L root (List.replicate N 0))) (fun s5 _ => (intOf s5).toNat)
  case atStart => exact ⟨root, _, rfl, hrr, HB2, X2, O2, Lib.hid rfl⟩
  case round =>
    clear X2 HB2 hrr O2
    obtain ⟨r, o, rfl, hr, HB, X, O, A⟩ := hrel
    by_cases h2 : r < 2
    · have h2' : ¬ (2 : Int) ≤ r := by omega
      have HV2 := Lib.hid (show foR L root (List.replicate N 0) = o by rw [← A.out, foR_low o h2])
      have hol := O.out.len
      go_wp2
      go_ret2
      refine ⟨some ⟨w1.heap.size, 0, none⟩, N, ?_, ?_, HB.out⟩
      · rw [HF.out]; simp only; rw [HV2.out, hol]; rfl
      · rw [HF.out]; simp only; rw [HV2.out, hol]; exact O.out
    · obtain ⟨k, rfl⟩ : ∃ k : Nat, r = (k : Int) + 2 := ⟨(r - 2).toNat, by omega⟩
      have hkn : k < L.length := by have := hr.2; omega
      have h2' : (2 : Int) ≤ (k : Int) + 2 := by omega
      have hk0 : (0 : Int) ≤ (k : Int) := by omega
      have hkn' : (k : Int) < (L.length : Int) := by omega
      have i1 : IntKind.i64.wrap ((k : Int) + 2 - 2) = (k : Int) := by rw [IntWalk.i64_in _ (by omega)]; omega
      obtain ⟨b1, o1, x, rfl, hb1, hx, hwf, c0, c1, c2⟩ := F3.get (HI.out.keep HB.out) hkn
      obtain ⟨q1, q2, q3, q4⟩ := HS.out.ord _ _ hx
      have f1 := HS.out.redu.frst.low _ _ hx
      have f2 := HS.out.redu.frst.high _ _ hx
      obtain ⟨i, hxi⟩ : ∃ i : Nat, x.a = (i : Int) := ⟨x.a.toNat, by omega⟩
      have hin : i < N := by omega
      have hi0 : (0 : Int) ≤ (i : Int) := by omega
      have hin' : (i : Int) < (N : Int) := by omega
      have hn1 := foR_node HS.out.redu.frst hx o
      rw [hxi, Int.toNat_natCast] at hn1
      obtain ⟨v0, hv0, hvi, hcell⟩ := O.out.cell hin
      have gl := O.out.lt.2
      have gf := O.out.free
      have y1 := X.out.cell 1
      have yl := X.out.lt
      simp only [List.getElem?_toArray, List.getElem?_cons_zero, List.getElem?_cons_succ] at y1
      have f1' := f1.2
      have f2' := f2.2
      have F1 := Lib.hid (f1.mono (Nat.le_of_lt hkn))
      have F2 := Lib.hid (f2.mono (Nat.le_of_lt hkn))
      have hbA : Below wr.heap.size wr (wr.alloc (.cells #[.int .i64 x.a, .int .i64 x.b, .int .i64 x.c] 76)) := below_alloc1 (Below.refl _ _) _
      have XA := Lib.hid (X.out.keep hbA)
      have OA := Lib.hid (O.out.keep hbA)
      have HBA := Lib.hid (below_callS HB.out hbA)
      rw [hxi] at XA HBA OA
      clear hx hv0 q1 q2 q3 q4 f1 f2 hwf hbA
      by_cases hb0 : x.b = 0
      · rw [if_pos hb0] at hn1
        have HN := Lib.hid hn1
        have e1 : (x.b == 0) = true := by simpa using hb0
        clear hn1
        rw [hb0] at c1 XA HBA OA
        go_wp2
        go_roundw
        case rel => exact ⟨x.c, o.set i 1, rfl, F2.out, Lib.hid (below_alloc1 (HB.out.setCell (p := ⟨w1.heap.size, i, none⟩) (by simp only; omega) _) _), Lib.hid ((X.out.keepG (set_grown _ _ _) (by simp; omega)).keep (below_alloc1 (Below.refl _ _) _)), Lib.hid ((O.out.set i (by unfold I64; omega)).keep (below_alloc1 (Below.refl _ _) _)), Lib.hid (by rw [← A.out, HN.out])⟩
        case measure => simp [intOf]; omega
      · rw [if_neg hb0] at hn1
        have HN := Lib.hid hn1
        have e1 : (x.b == 0) = false := by simpa using hb0
        clear hn1 hb0
        go_wp2
        go_roundw
        case rel => exact ⟨x.b, o, rfl, F1.out, HBA, XA, OA, Lib.hid (by rw [← A.out, HN.out])⟩
        case measure => simp [intOf]; omega
set_option maxRecDepth 100000 in
set_option maxHeartbeats 2000000 in
theorem spec_FirstOne {a : Option Addr} {n c : Nat} {L : List I3} {inp root : Int} {w : World} (hI : F3 w a n c L) (hi : I64 inp) (hr : I64 root) (hn : n ≤ maxLen) :
    Calls Try.prog 10 #[.agg #[.int .i64 inp, .slice a n c, .int .i64 root]] w fun e w' => ∃ g gc, e = .returned (.tuple #[.slice g (fstC inp L root).1.length gc, .int .i64 (fstC inp L root).2]) ∧ OwnI 2 w' w.heap.size g (fstC inp L root).1.length gc (fstC inp L root).1 ∧ Below w.heap.size w w' := by
  have HI := Lib.hid hI
  obtain rfl : L.length = n := hI.len
  have hb0 : Below w.heap.size w (w.alloc (.cells #[.int .i64 inp, .slice a L.length c, .int .i64 root] 26)) := by repeat (first | exact Below.refl _ _ | assumption | refine below_allocS ?_ _ | refine below_callS ?_ (by assumption) | (refine Below.alloc ?_ (by first | omega | (simp; done) | (simp; omega)) _) | (refine Below.setCell ?_ (by first | omega | (simp; done) | (simp; omega)) _) | refine Below.drew ?_ | refine below_drewN ?_ _ | (refine below_call ?_ (by assumption) (by first | omega | (simp; done) | (simp; omega))) | (refine Below.trans ?_ (by assumption)))
  have X := Lib.hid (Blk.made w #[.int .i64 inp, .slice a L.length c, .int .i64 root] 26)
  have hcd := spec_IsDiagram (w := w.alloc (.cells #[.int .i64 inp, .slice a L.length c, .int .i64 root] 26)) (hI.keep hb0) hi hr hn
  clear hI
  cases hd : diaB inp L root
  · rw [hd] at hcd
    have HCD := Lib.hid hcd
    have HF := Lib.hid (fstC_1 hd)
    clear hcd hd
    go_enter Try.func10, Try.ntmps10
    go_wp2_with fail
    refine Calls.mono HCD.out ?_
    rintro e w1 ⟨rfl, hb1⟩
    go_wp2
    go_ret2
    exact ⟨none, 0, by rw [HF.out]; rfl, by rw [HF.out]; exact OwnI.nil _ _ _, below_callS hb0 hb1⟩
  rw [hd] at hcd
  have HCD := Lib.hid hcd
  have HD := Lib.hid hd
  clear hcd hd
  by_cases hr0 : root = 0
  · subst hr0
    have HF := Lib.hid (fstC_2 HD.out)
    go_enter Try.func10, Try.ntmps10
    go_wp2_with fail
    refine Calls.mono HCD.out ?_
    rintro e w1 ⟨rfl, hb1⟩
    have x0 := (X.out.keep hb1).cell 2
    have xl := (X.out.keep hb1).lt
    simp only [List.getElem?_toArray, List.getElem?_cons_zero, List.getElem?_cons_succ] at x0
    have hb01 := below_callS hb0 hb1
    go_wp2
    go_ret2
    exact ⟨none, 0, by rw [HF.out]; rfl, by rw [HF.out]; exact OwnI.nil _ _ _, hb01⟩
  have HF := Lib.hid (fstC_3 HD.out hr0)
  have hS := dia_snd HD.out
  obtain ⟨hR, hrr, h0, h20, hll, _, _⟩ := dia_redu HD.out
  obtain ⟨N, rfl⟩ : ∃ N : Nat, inp = (N : Int) := ⟨inp.toNat, by omega⟩
  rw [Int.toNat_natCast] at HF
  have HS := Lib.hid hS
  have hr9 : (root == 0) = false := by simpa using hr0
  have hmk : ∀ wx : World, (Instr.makeSlice 28 (.int .i64 (N : Int)) (.int .i64 (N : Int))).run Try.prog wx = .ok (.slice (some ⟨wx.heap.size, 0, none⟩) N N) (wx.alloc (.cells (Array.replicate N (Value.int .i64 0)) 2)) := fun wx => by
    have h := mkZ N (by omega) wx
    rw [show (List.replicate N (Value.int .i64 0)).toArray = Array.replicate N (Value.int .i64 0) by simp] at h
    exact h
  clear hS hR hi hr hn hr0
  go_enter Try.func10, Try.ntmps10
  go_wp2_with fail
  refine Calls.mono HCD.out ?_
  rintro e w1 ⟨rfl, hb1⟩
  have X1 := Lib.hid (X.out.keep hb1)
  have HB1 := Lib.hid (below_callS hb0 hb1)
  have hs1 := hb1.size
  simp at hs1
  have x0 := X1.out.cell 0
  have x2 := X1.out.cell 2
  have xl := X1.out.lt
  simp only [List.getElem?_toArray, List.getElem?_cons_zero, List.getElem?_cons_succ] at x0 x2
  clear hb1 X hb0
  go_wp2_with fail
  have O2 := Lib.hid (show OwnI 2 (w1.alloc (.cells (Array.replicate N (Value.int .i64 0)) 2)) w.heap.size (some ⟨w1.heap.size, 0, none⟩) N N (List.replicate N 0) from OwnI.zeros w1 (by omega) (by omega) (by simp))
  have X2 := Lib.hid (X1.out.keep (below_alloc1 (Below.refl _ _) (.cells (Array.replicate N (Value.int .i64 0)) 2)))
  have HB2 := Lib.hid (below_alloc1 HB1.out (.cells (Array.replicate N (Value.int .i64 0)) 2))
  clear x0 x2 xl X1 HB1 hmk HCD
  go_loopw [5] (fun s5 wr => ∃ (r : Int) (o : List Int), s5 = .int .i64 r ∧ RefB r L.length ∧ Hid (Below w.heap.size w wr) ∧ Hid (Blk wr w.heap.size #[.int .i64 (N : Int), .slice a L.length c, .int .i64 root] 26) ∧ Hid (OwnI 2 wr w.heap.size (some ⟨w1.heap.size, 0, none⟩) N N o) ∧ Hid (foR L r o = foR L root (List.replicate N 0))) (fun s5 _ => (intOf s5).toNat)
  case atStart => exact ⟨root, _, rfl, hrr, HB2, X2, O2, Lib.hid rfl⟩
  case round =>
    clear X2 HB2 hrr O2
    obtain ⟨r, o, rfl, hr, HB, X, O, A⟩ := hrel
    by_cases h2 : r < 2
    · have h2' : ¬ (2 : Int) ≤ r := by omega
      have HV2 := Lib.hid (show foR L root (List.replicate N 0) = o by rw [← A.out, foR_low o h2])
      have hol := O.out.len
      go_wp2
      go_ret2
      refine ⟨some ⟨w1.heap.size, 0, none⟩, N, ?_, ?_, HB.out⟩
      · rw [HF.out]; simp only; rw [HV2.out, hol]; rfl
      · rw [HF.out]; simp only; rw [HV2.out, hol]; exact O.out
    · obtain ⟨k, rfl⟩ : ∃ k : Nat, r = (k : Int) + 2 := ⟨(r - 2).toNat, by omega⟩
      have hkn : k < L.length := by have := hr.2; omega
      have h2' : (2 : Int) ≤ (k : Int) + 2 := by omega
      have hk0 : (0 : Int) ≤ (k : Int) := by omega
      have hkn' : (k : Int) < (L.length : Int) := by omega
      have i1 : IntKind.i64.wrap ((k : Int) + 2 - 2) = (k : Int) := by rw [IntWalk.i64_in _ (by omega)]; omega
      obtain ⟨b1, o1, x, rfl, hb1, hx, hwf, c0, c1, c2⟩ := F3.get (HI.out.keep HB.out) hkn
      obtain ⟨q1, q2, q3, q4⟩ := HS.out.ord _ _ hx
      have f1 := HS.out.redu.frst.low _ _ hx
      have f2 := HS.out.redu.frst.high _ _ hx
      obtain ⟨i, hxi⟩ : ∃ i : Nat, x.a = (i : Int) := ⟨x.a.toNat, by omega⟩
      have hin : i < N := by omega
      have hi0 : (0 : Int) ≤ (i : Int) := by omega
      have hin' : (i : Int) < (N : Int) := by omega
      have hn1 := foR_node HS.out.redu.frst hx o
      rw [hxi, Int.toNat_natCast] at hn1
      obtain ⟨v0, hv0, hvi, hcell⟩ := O.out.cell hin
      have gl := O.out.lt.2
      have gf := O.out.free
      have y1 := X.out.cell 1
      have yl := X.out.lt
      simp only [List.getElem?_toArray, List.getElem?_cons_zero, List.getElem?_cons_succ] at y1
      have f1' := f1.2
      have f2' := f2.2
      have F1 := Lib.hid (f1.mono (Nat.le_of_lt hkn))
      have F2 := Lib.hid (f2.mono (Nat.le_of_lt hkn))
      have hbA : Below wr.heap.size wr (wr.alloc (.cells #[.int .i64 x.a, .int .i64 x.b, .int .i64 x.c] 76)) := below_alloc1 (Below.refl _ _) _
      have XA := Lib.hid (X.out.keep hbA)
      have OA := Lib.hid (O.out.keep hbA)
      have HBA := Lib.hid (below_callS HB.out hbA)
      rw [hxi] at XA HBA OA
      clear hx hv0 q1 q2 q3 q4 f1 f2 hwf hbA
      by_cases hb0 : x.b = 0
      · rw [if_pos hb0] at hn1
        have HN := Lib.hid hn1
        have e1 : (x.b == 0) = true := by simpa using hb0
        clear hn1
        rw [hb0] at c1 XA HBA OA
        go_wp2
        go_roundw
        case rel => exact ⟨x.c, o.set i 1, rfl, F2.out, Lib.hid (below_alloc1 (HB.out.setCell (p := ⟨w1.heap.size, i, none⟩) (by simp only; omega) _) _), Lib.hid ((X.out.keepG (set_grown _ _ _) (by simp; omega)).keep (below_alloc1 (Below.refl _ _) _)), Lib.hid ((O.out.set i (by unfold I64; omega)).keep (below_alloc1 (Below.refl _ _) _)), Lib.hid (by rw [← A.out, HN.out])⟩
        case measure => simp [intOf]; omega
      · rw [if_neg hb0] at hn1
        have HN := Lib.hid hn1
        have e1 : (x.b == 0) = false := by simpa using hb0
        clear hn1 hb0
        go_wp2
        go_roundw
        case rel => exact ⟨x.b, o, rfl, F1.out, HBA, XA, OA, Lib.hid (by rw [← A.out, HN.out])⟩
        case measure => simp [intOf]; omega
end Go.Proofs.Ytkaikbaagajckaa
