/- A diagram with an input fixed: the program, walked. -/
import Derived.Test.YtkaikbaagajckaaWg
namespace Go.Proofs.Ytkaikbaagajckaa
open Go.RowKit
set_option linter.unusedVariables false
set_option linter.unusedSimpArgs false
attribute [local go_sem ↓] Go.wp_at_zero Go.wp_at_succ
/-- number of inputs, nodes, root, code -/
def fixC (n : Int) (L : List I3) (root inp bit : Int) : Int × List I3 × Int × Int :=
  if diaB n L root = false then (0, [], 0, 1) else if inB inp 0 (n - 1) = true ∧ inB bit 0 1 = true then (n, (canN mkN (fxN inp bit L).1 ((fxN inp bit L).2.getD root.toNat 0)).1, (canN mkN (fxN inp bit L).1 ((fxN inp bit L).2.getD root.toNat 0)).2, 0) else (0, [], 0, 2)
theorem fixC_1 {n : Int} {L : List I3} {root inp bit : Int} (h : diaB n L root = false) : fixC n L root inp bit = (0, [], 0, 1) := if_pos h
theorem fixC_2 {n : Int} {L : List I3} {root inp bit : Int} (h : diaB n L root = true) (h2 : ¬ (inB inp 0 (n - 1) = true ∧ inB bit 0 1 = true)) : fixC n L root inp bit = (0, [], 0, 2) := by rw [fixC, if_neg (by simp [h]), if_neg h2]
theorem fixC_3 {n : Int} {L : List I3} {root inp bit : Int} (h : diaB n L root = true) (h2 : inB inp 0 (n - 1) = true ∧ inB bit 0 1 = true) : fixC n L root inp bit = (n, (canN mkN (fxN inp bit L).1 ((fxN inp bit L).2.getD root.toNat 0)).1, (canN mkN (fxN inp bit L).1 ((fxN inp bit L).2.getD root.toNat 0)).2, 0) := by rw [fixC, if_neg (by simp [h]), if_pos h2]
def fxP (inp bit : Int) (L : List I3) (j : Nat) : List I3 × List Int := (L.take j).foldl (fxS inp bit) ([], [0, 1])
theorem fxP_next {inp bit : Int} {L : List I3} {j : Nat} {x : I3} (hx : L[j]? = some x) : fxP inp bit L (j + 1) = fxS inp bit (fxP inp bit L j) x := by rw [fxP, take_at hx, List.foldl_append]; rfl
theorem fxP_full (inp bit : Int) (L : List I3) : fxP inp bit L L.length = fxN inp bit L := by rw [fxP, List.take_length, fxN]
theorem ForA.touchI {w w' : World} {lo p mb : Nat} {inp : Int} {L : List I3} {base g : Nat} {n c m : Nat} {R : List Int} (h : ∃ na nc mn, ForA w lo p mb inp na nc mn L) (hO : OwnI 2 w base (some ⟨g, 0, none⟩) n c R) (ht : Touch w w' m (some ⟨g, 0, none⟩)) : ∃ na nc mn, ForA w' lo p mb inp na nc mn L := by
  obtain ⟨na, nc, mn, h⟩ := h
  refine ⟨na, nc, mn, h.blk.keepA ht (blk_ne h.blk hO.typN (by decide)), h.own.keepT ht (fun q e e' => ?_), ?_, h.few, h.lop, h.lom⟩
  · obtain ⟨c1, e1⟩ := h.own.typN e
    obtain ⟨c2, e2⟩ := hO.typN e'
    rw [e2] at e1
    simp at e1
  · obtain ⟨r, hg, hr⟩ := ht
    refine h.map.keepG hg (fun e => ?_)
    have e1 := (hr _ e).2
    obtain ⟨c2, e2⟩ := hO.typN e1
    obtain ⟨es, cl, hm⟩ := h.map.isMap
    rw [hm] at e2
    cases e2
set_option maxRecDepth 100000 in
set_option maxHeartbeats 8000000 in
theorem impl_FixInput {a : Option Addr} {n c : Nat} {L : List I3} {inp root fi bit : Int} {w : World} (hI : F3 w a n c L) (hi : I64 inp) (hr : I64 root) (hn : n ≤ maxLen) :
    Calls Try.prog 26 #[.agg #[.int .i64 inp, .slice a n c, .int .i64 root], .int .i64 fi, .int .i64 bit] w fun e w' => ∃ da dc, e = .returned (.tuple #[.agg #[.int .i64 (fixC inp L root fi bit).1, .slice da (fixC inp L root fi bit).2.1.length dc, .int .i64 (fixC inp L root fi bit).2.2.1], .int .i64 (fixC inp L root fi bit).2.2.2]) ∧ OwnF 3 I3.enc I3.ok 76 w' w.heap.size da (fixC inp L root fi bit).2.1.length dc (fixC inp L root fi bit).2.1 ∧ Below w.heap.size w w' := by
  have HI := Lib.hid hI
  obtain rfl : L.length = n := hI.len
  have hb0 : Below w.heap.size w ((w.alloc (.cells #[.int .i64 inp, .slice a L.length c, .int .i64 root] 26)).alloc (.cells #[.int .i64 0, .slice none 0 0, .int .i64 0] 26)) := by repeat (first | exact Below.refl _ _ | assumption | refine below_allocS ?_ _ | refine below_callS ?_ (by assumption) | (refine Below.alloc ?_ (by first | omega | (simp; done) | (simp; omega)) _) | (refine Below.setCell ?_ (by first | omega | (simp; done) | (simp; omega)) _) | refine Below.drew ?_ | refine below_drewN ?_ _ | (refine below_call ?_ (by assumption) (by first | omega | (simp; done) | (simp; omega))) | (refine Below.trans ?_ (by assumption)))
  have X := Lib.hid ((Blk.made w #[.int .i64 inp, .slice a L.length c, .int .i64 root] 26).keep (below_alloc1 (Below.refl _ _) (.cells #[.int .i64 0, .slice none 0 0, .int .i64 0] 26)))
  have R := Lib.hid (Blk.made1 w (.cells #[.int .i64 inp, .slice a L.length c, .int .i64 root] 26) #[.int .i64 0, .slice none 0 0, .int .i64 0] 26)
  have hcd := impl_IsDiagram (w := (w.alloc (.cells #[.int .i64 inp, .slice a L.length c, .int .i64 root] 26)).alloc (.cells #[.int .i64 0, .slice none 0 0, .int .i64 0] 26)) (hI.keep hb0) hi hr hn
  have HIN := Lib.hid hi
  clear hI
  cases hd : diaB inp L root
  · rw [hd] at hcd
    have HCD := Lib.hid hcd
    have HF := Lib.hid (fixC_1 (inp := fi) (bit := bit) hd)
    clear hcd hd
    go_enter Try.func26, Try.ntmps26
    go_wp2_with fail
    refine Calls.mono HCD.out ?_
    rintro e w1 ⟨rfl, hb1⟩
    have R1 := Lib.hid (R.out.keep hb1)
    have r0 := R1.out.cell 0
    have r1 := R1.out.cell 1
    have r2 := R1.out.cell 2
    have rl := R1.out.lt
    have rf := R1.out.free
    simp only [List.getElem?_toArray, List.getElem?_cons_zero, List.getElem?_cons_succ] at r0 r1 r2
    have hb01 := below_callS hb0 hb1
    go_wp2
    refine bodyPost_ret (v := .tuple #[.agg #[.int .i64 0, .slice none 0 0, .int .i64 0], .int .i64 1]) (by simp [results, Try.results26, go_sem, *]) rfl ⟨none, 0, by rw [HF.out]; rfl, by rw [HF.out]; exact ⟨World.ownsRow_nil _ _ _ 3, (fun _ h => by cases h), rfl, fun _ => rfl⟩, by repeat (first | exact Below.refl _ _ | assumption | refine below_allocS ?_ _ | refine below_callS ?_ (by assumption) | (refine Below.alloc ?_ (by first | omega | (simp; done) | (simp; omega)) _) | (refine Below.setCell ?_ (by first | omega | (simp; done) | (simp; omega)) _) | refine Below.drew ?_ | refine below_drewN ?_ _ | (refine below_call ?_ (by assumption) (by first | omega | (simp; done) | (simp; omega))) | (refine Below.trans ?_ (by assumption)))⟩
  rw [hd] at hcd
  have HCD := Lib.hid hcd
  have HD := Lib.hid hd
  obtain ⟨hR, hrr, h0, h20, hll, _, _⟩ := dia_redu hd
  clear hcd hd hR
  by_cases hq : inB fi 0 (inp - 1) = true ∧ inB bit 0 1 = true
  · have HF := Lib.hid (fixC_3 HD.out hq)
    have hf1 := inBI_true hq.1
    have hf2 := inBI_true hq.2
    have HQ1 := Lib.hid hq.1
    have HQ2 := Lib.hid hq.2
    obtain ⟨i0, rfl⟩ : ∃ i0 : Nat, fi = (i0 : Int) := ⟨fi.toNat, by omega⟩
    have HS := Lib.hid (dia_snd HD.out)
    have e0 : IntKind.i64.wrap (inp - 1) = inp - 1 := IntWalk.i64_in _ (by omega)
    clear hq
    go_enter Try.func26, Try.ntmps26
    go_wp2_with fail
    refine Calls.mono HCD.out ?_
    rintro e w1 ⟨rfl, hb1⟩
    have R1 := Lib.hid (R.out.keep hb1)
    have X1 := Lib.hid (X.out.keep hb1)
    have x0 := X1.out.cell 0
    have xl := X1.out.lt
    simp only [List.getElem?_toArray, List.getElem?_cons_zero, List.getElem?_cons_succ] at x0
    have HB1 := Lib.hid (below_callS hb0 hb1)
    clear hb0 hb1 X R HCD
    go_wp2_with fail
    go_wp2_with fail
    refine Calls.mono (impl_within) ?_
    rintro e _ ⟨rfl, rfl⟩
    rw [HQ1.out]
    go_wp2_with fail
    go_wp2_with fail
    refine Calls.mono (impl_within) ?_
    rintro e _ ⟨rfl, rfl⟩
    rw [HQ2.out]
    go_wp2_with fail
    refine Calls.mono impl_newForest ?_
    rintro e w2 ⟨p, mb, rfl, hFor, hb2, hp2⟩
    obtain ⟨lo, hlo⟩ : ∃ lo, lo = w1.heap.size := ⟨_, rfl⟩
    rw [← hlo] at hFor
    have hRl := R1.out.lt
    have X2 := Lib.hid (X1.out.keep hb2)
    have R2 := Lib.hid (R1.out.keep hb2)
    have HB2 := Lib.hid (below_callS HB1.out hb2)
    have hlo2 : w.heap.size + 1 < lo := by omega
    have hlow : lo ≤ w2.heap.size := by have := hb2.size; omega
    have hplo : lo ≤ p := hFor.lop
    have hmlo : lo ≤ mb := hFor.lom
    have FO2 := Lib.hid hFor
    clear hFor hb2 hp2 hlo X1 R1 HB1 x0 xl hRl
    have x1 := X2.out.cell 1
    have xl := X2.out.lt
    simp only [List.getElem?_toArray, List.getElem?_cons_zero, List.getElem?_cons_succ] at x1
    go_wp2_with fail
    have hbA : Below w2.heap.size w2 (w2.alloc (.cells #[.int .i64 0, .int .i64 1] 2)) := below_alloc1 (Below.refl _ _) _
    have O3 := Lib.hid (show OwnI 2 (w2.alloc (.cells #[.int .i64 0, .int .i64 1] 2)) lo (some ⟨w2.heap.size, 0, none⟩) 2 2 [0, 1] from
      (OwnF.lit (k := 1) (m := 2) (enc := enc1) (ok := I64) (E := 2) (cs := #[.int .i64 0, .int .i64 1]) (base := lo) w2 [0, 1] hlow rfl (by decide) (fun _ => rfl) (fun x hx => by simp at hx; unfold I64; omega) rfl).i1)
    have X3 := Lib.hid (X2.out.keep hbA)
    have R3 := Lib.hid (R2.out.keep hbA)
    have HB3 := Lib.hid (below_callS HB2.out hbA)
    have FO3 := Lib.hid (show ∃ na nc mn, ForA (w2.alloc (.cells #[.int .i64 0, .int .i64 1] 2)) lo p mb inp na nc mn (fxP (i0 : Int) bit L 0).1 from ⟨_, _, _, FO2.out.keep hbA⟩)
    clear hbA X2 R2 HB2 FO2 x1 xl
    go_loopw [9, 39] (fun s9 s39 wr => ∃ (j g mc : Nat), s39 = .int .i64 j ∧ s9 = .slice (some ⟨g, 0, none⟩) (j + 2) mc ∧ j ≤ L.length ∧ lo ≤ wr.heap.size ∧ Hid (Below w.heap.size w wr) ∧ Hid (Blk wr w.heap.size #[.int .i64 inp, .slice a L.length c, .int .i64 root] 26) ∧ Hid (Blk wr (w.heap.size + 1) #[.int .i64 0, .slice none 0 0, .int .i64 0] 26) ∧ Hid (∃ na nc mn, ForA wr lo p mb inp na nc mn (fxP (i0 : Int) bit L j).1) ∧ Hid (OwnI 2 wr lo (some ⟨g, 0, none⟩) (j + 2) mc (fxP (i0 : Int) bit L j).2) ∧ Hid (FxI inp i0 bit L j (fxP (i0 : Int) bit L j))) (fun _ s39 _ => L.length - (intOf s39).toNat)
    case atStart => exact ⟨0, _, 2, rfl, rfl, by omega, by simp; omega, HB3, X3, R3, FO3, O3, Lib.hid FxI.start⟩
    case round =>
      clear X3 R3 HB3 FO3 O3 hlow
      obtain ⟨j, g, mc, rfl, rfl, hj, hlow, HB, X, R, FO, O, IV⟩ := hrel
      by_cases hlt : j < L.length
      · have hlt' : (j : Int) < (L.length : Int) := by omega
        have hj0 : (0 : Int) ≤ (j : Int) := by omega
        obtain ⟨b1, o1, x, rfl, hb1, hx, hwf, c0, c1, c2⟩ := F3.get (HI.out.keep HB.out) hlt
        have hnext := fxP_next (inp := (i0 : Int)) (bit := bit) hx
        have hstep := IV.out.step HS.out hx
        have f1 := HS.out.redu.frst.low _ _ hx
        have f2 := HS.out.redu.frst.high _ _ hx
        obtain ⟨q1, q2, _, _⟩ := HS.out.ord _ _ hx
        obtain ⟨xa, xb, xc⟩ := x
        simp only at c0 c1 c2 q1 q2 f1 f2 hwf
        obtain ⟨i, rfl⟩ : ∃ i : Nat, xa = (i : Int) := ⟨xa.toNat, by omega⟩
        obtain ⟨qb, rfl⟩ : ∃ q : Nat, xb = (q : Int) := ⟨xb.toNat, by have := f1.1; omega⟩
        obtain ⟨qc, rfl⟩ : ∃ q : Nat, xc = (q : Int) := ⟨xc.toNat, by have := f2.1; omega⟩
        have f1' := f1.2
        have f2' := f2.2
        obtain ⟨pb, hpb, hpbi, cpb⟩ := O.out.cell (k := qb) (by omega)
        obtain ⟨pc, hpc, hpci, cpc⟩ := O.out.cell (k := qc) (by omega)
        have gl := O.out.lt.2
        have hfw := IV.out.few
        obtain ⟨FF, PP, hFP⟩ : ∃ F P, fxP (i0 : Int) bit L j = (F, P) := ⟨_, _, rfl⟩
        have hgb : PP.getD qb 0 = pb := by rw [hFP] at hpb; simp only at hpb; rw [List.getD_eq_getElem?_getD, hpb]; rfl
        have hgc : PP.getD qc 0 = pc := by rw [hFP] at hpc; simp only at hpc; rw [List.getD_eq_getElem?_getD, hpc]; rfl
        rw [hFP] at hnext hstep hfw
        rw [← hnext] at hstep
        simp only [fxS, Int.toNat_natCast] at hnext
        rw [hgb, hgc] at hnext
        have FO' := Lib.hid (show ∃ na nc mn, ForA wr lo p mb inp na nc mn FF from by have h := FO.out; rw [hFP] at h; exact h)
        have O' := Lib.hid (show OwnI 2 wr lo (some ⟨g, 0, none⟩) (j + 2) mc PP from by have h := O.out; rw [hFP] at h; exact h)
        have HSTEP := Lib.hid hstep
        have hbR : Below wr.heap.size wr (wr.alloc (.cells #[.int .i64 (i : Int), .int .i64 (qb : Int), .int .i64 (qc : Int)] 76)) := below_alloc1 (Below.refl _ _) _
        have hq0 : (0 : Int) ≤ (qb : Int) := by omega
        have hq1 : (qb : Int) < (j : Int) + 2 := by omega
        have hq2 : (0 : Int) ≤ (qc : Int) := by omega
        have hq3 : (qc : Int) < (j : Int) + 2 := by omega
        simp only at hfw
        clear hx hpb hpc hgb hgc hFP hstep FO O IV f1 f2
        have XA := Lib.hid (X.out.keep hbR)
        have RA := Lib.hid (R.out.keep hbR)
        have FA := Lib.hid (show ∃ na nc mn, ForA (wr.alloc (.cells #[.int .i64 (i : Int), .int .i64 (qb : Int), .int .i64 (qc : Int)] 76)) lo p mb inp na nc mn FF from by obtain ⟨na, nc, mn, h⟩ := FO'.out; exact ⟨na, nc, mn, h.keep hbR⟩)
        have OA := Lib.hid (O'.out.keep hbR)
        have HBA := Lib.hid (below_callS HB.out hbR)
        have ZA := Lib.hid (Blk.made wr #[.int .i64 (i : Int), .int .i64 (qb : Int), .int .i64 (qc : Int)] 76)
        have hsA : lo ≤ (wr.alloc (.cells #[.int .i64 (i : Int), .int .i64 (qb : Int), .int .i64 (qc : Int)] 76)).heap.size := by have := hbR.size; omega
        have cqb := cell_of_keep hbR cpb
        have cqc := cell_of_keep hbR cpc
        obtain ⟨wA, hwA⟩ : ∃ wA, wA = wr.alloc (.cells #[.int .i64 (i : Int), .int .i64 (qb : Int), .int .i64 (qc : Int)] 76) := ⟨_, rfl⟩
        rw [← hwA] at XA RA FA OA HBA ZA hsA cqb cqc
        have n0 := ZA.out.cell 0
        have n1 := ZA.out.cell 1
        have n2 := ZA.out.cell 2
        have nl := ZA.out.lt
        have gA := OA.out.lt.2
        simp only [List.getElem?_toArray, List.getElem?_cons_succ, List.getElem?_cons_zero] at n0 n1 n2
        have x1 := X.out.cell 1
        have xl := X.out.lt
        simp only [List.getElem?_toArray, List.getElem?_cons_succ, List.getElem?_cons_zero] at x1
        clear X R HB FO' O' cpb cpc hbR
        go_wp2_with fail
        rw [← hwA]
        clear hwA c0 c1 c2 x1 xl hb1 gl
        go_quiet (fail)
        obtain ⟨wB, hwB⟩ : ∃ wB : World, wB = wA.drewN nq := ⟨_, rfl⟩
        have hbB : Below wA.heap.size wA wB := by rw [hwB]; exact below_drewN (Below.refl _ _) _
        have hsB : lo ≤ wB.heap.size := by have := hbB.size; omega
        have XB := Lib.hid (XA.out.keep hbB)
        have RB := Lib.hid (RA.out.keep hbB)
        have FB := Lib.hid (show ∃ na nc mn, ForA wB lo p mb inp na nc mn FF from by obtain ⟨na, nc, mn, h⟩ := FA.out; exact ⟨na, nc, mn, h.keep hbB⟩)
        have OB := Lib.hid (OA.out.keep hbB)
        have HBB := Lib.hid (below_callS HBA.out hbB)
        have ZB := Lib.hid (ZA.out.keep hbB)
        rw [← hwB]
        clear hwB hbB XA RA FA OA HBA ZA n0 n1 n2 nl gA cqb cqc hsA
        have n0 := ZB.out.cell 0
        have nl := ZB.out.lt
        simp only [List.getElem?_toArray, List.getElem?_cons_succ, List.getElem?_cons_zero] at n0
        by_cases hii : (i : Int) = (i0 : Int)
        · have e1 : ((i : Int) != (i0 : Int)) = false := by simpa using hii
          rw [if_neg (by simpa using hii)] at hnext
          by_cases hbt : bit = 0
          · have e2 : (bit == 0) = true := by simpa using hbt
            rw [if_pos hbt] at hnext
            have HNX := Lib.hid hnext
            clear hnext hbt
            go_wp2_with (at_builtin; refine appI1 (z := pb) rfl _ _ rfl Try.underlying28 Try.infoi64 lo _ _ _ _ OB.out rfl _ rfl rfl hpbi (by omega) (by omega) ?_; intro g' c' wn ho hb ht hat hsz; have ON := Lib.hid ho; have XN := Lib.hid (XB.out.keepA ht (blk_ne XB.out OB.out.typN (by decide))); have RN := Lib.hid (RB.out.keepA ht (blk_ne RB.out OB.out.typN (by decide))); have FN := Lib.hid (ForA.touchI FB.out OB.out ht); have HBN := Lib.hid (show Below w.heap.size w wn from HBB.out.trans (hb.mono (by omega))); clear ho hb ht hat)
            go_roundw
            case rel =>
              rw [HNX.out] at HSTEP
              exact ⟨j + 1, g', c', by go_num, rfl, by omega, by omega, HBN, XN, RN, Lib.hid (by rw [HNX.out]; exact FN.out), Lib.hid (by rw [HNX.out]; exact ON.out), Lib.hid (by rw [HNX.out]; exact HSTEP.out)⟩
            case measure => simp [intOf]; omega
          · have e2 : (bit == 0) = false := by simpa using hbt
            rw [if_neg hbt] at hnext
            have HNX := Lib.hid hnext
            clear hnext
            go_wp2_with (at_builtin; refine appI1 (z := pc) rfl _ _ rfl Try.underlying28 Try.infoi64 lo _ _ _ _ OB.out rfl _ rfl rfl hpci (by omega) (by omega) ?_; intro g' c' wn ho hb ht hat hsz; have ON := Lib.hid ho; have XN := Lib.hid (XB.out.keepA ht (blk_ne XB.out OB.out.typN (by decide))); have RN := Lib.hid (RB.out.keepA ht (blk_ne RB.out OB.out.typN (by decide))); have FN := Lib.hid (ForA.touchI FB.out OB.out ht); have HBN := Lib.hid (show Below w.heap.size w wn from HBB.out.trans (hb.mono (by omega))); clear ho hb ht hat)
            go_roundw
            case rel =>
              rw [HNX.out] at HSTEP
              exact ⟨j + 1, g', c', by go_num, rfl, by omega, by omega, HBN, XN, RN, Lib.hid (by rw [HNX.out]; exact FN.out), Lib.hid (by rw [HNX.out]; exact ON.out), Lib.hid (by rw [HNX.out]; exact HSTEP.out)⟩
            case measure => simp [intOf]; omega
        · have e1 : ((i : Int) != (i0 : Int)) = true := by simpa using hii
          rw [if_pos (by simpa using hii)] at hnext
          have HNX := Lib.hid hnext
          clear hnext
          obtain ⟨na, nc, mn, hfor⟩ := FB.out
          have FB' := Lib.hid hfor
          clear hfor FB
          go_wp2_with fail
          refine Calls.mono (impl_node FB'.out (by omega) (by unfold I64; omega) hpbi hpci (by omega)) ?_
          rintro e w5 ⟨rfl, ⟨na5, nc5, mn5, hB5⟩, hF5⟩
          have hb5 : Below lo wB w5 := hF5.below (Below.refl _ _) (by omega) (Nat.le_refl _) hplo hmlo
          have hgp : g ≠ p := fun e => by
            obtain ⟨cur, hc⟩ := OB.out.typN rfl
            have h := FB'.out.blk
            rw [Blk, ← e, hc] at h
            simp at h
          have hgm : g ≠ mb := fun e => by
            obtain ⟨cur, hc⟩ := OB.out.typN rfl
            obtain ⟨es, cl, hm⟩ := FB'.out.map.isMap
            rw [← e, hc] at hm
            cases hm
          have X5 := Lib.hid (XB.out.keepB hb5 (by omega))
          have R5 := Lib.hid (RB.out.keepB hb5 (by omega))
          have F5 := Lib.hid (show ∃ na nc mn, ForA w5 lo p mb inp na nc mn (mkN FF (i : Int) pb pc).1 from ⟨_, _, _, hB5⟩)
          have O5 := Lib.hid (OB.out.atB (hF5.block g OB.out.lt.2 hgp hgm (.inr (fun cs l he => by
            obtain ⟨cur, hc⟩ := OB.out.typN rfl
            rw [hc] at he
            simp at he))))
          have HB5 := Lib.hid (show Below w.heap.size w w5 from HBB.out.trans (hb5.mono (by omega)))
          have hs5 := hF5.size
          have hri : I64 (mkN FF (i : Int) pb pc).2 := by
            have h := HSTEP.out.at' (j + 2) (mkN FF (i : Int) pb pc).2 (by
              rw [HNX.out]
              have := OB.out.len
              simp only
              rw [List.getElem?_append_right (by omega), show j + 2 - PP.length = 0 by omega]; rfl)
            have hw := HSTEP.out.few
            rw [HNX.out] at h hw
            have h1 := h.1.1
            have h2 := h.1.2
            simp only at h1 h2 hw
            unfold I64
            omega
          clear hb5 hB5 hF5 XB RB FB' OB HBB
          go_wp2_with (at_builtin; refine appI1 (z := (mkN FF (i : Int) pb pc).2) rfl _ _ rfl Try.underlying28 Try.infoi64 lo _ _ _ _ O5.out rfl _ rfl rfl hri (by omega) (by omega) ?_; intro g' c' wn ho hb ht hat hsz; have ON := Lib.hid ho; have XN := Lib.hid (X5.out.keepA ht (blk_ne X5.out O5.out.typN (by decide))); have RN := Lib.hid (R5.out.keepA ht (blk_ne R5.out O5.out.typN (by decide))); have FN := Lib.hid (ForA.touchI F5.out O5.out ht); have HBN := Lib.hid (show Below w.heap.size w wn from HB5.out.trans (hb.mono (by omega))); clear ho hb ht hat)
          go_roundw
          case rel =>
            rw [HNX.out] at HSTEP
            exact ⟨j + 1, g', c', by go_num, rfl, by omega, by omega, HBN, XN, RN, Lib.hid (by rw [HNX.out]; exact FN.out), Lib.hid (by rw [HNX.out]; exact ON.out), Lib.hid (by rw [HNX.out]; exact HSTEP.out)⟩
          case measure => simp [intOf]; omega
      · have hjn : j = L.length := by omega
        subst hjn
        have hlt' : ¬ (L.length : Int) < (L.length : Int) := by omega
        obtain ⟨q, hq⟩ : ∃ q : Nat, root = (q : Int) := ⟨root.toNat, by have := hrr.1; omega⟩
        subst hq
        have hqn := hrr.2
        obtain ⟨rt, hrt, hrti, crt⟩ := O.out.cell (k := q) (by omega)
        have gl := O.out.lt.2
        have hq0 : (0 : Int) ≤ (q : Int) := by omega
        have hq1 : (q : Int) < (L.length : Int) + 2 := by omega
        have x2 := X.out.cell 2
        have xl := X.out.lt
        simp only [List.getElem?_toArray, List.getElem?_cons_succ, List.getElem?_cons_zero] at x2
        have hat := IV.out.at' q rt hrt
        have hfw := IV.out.few
        have hcl := can_length IV.out.snd.redu hat.1
        have HFX := Lib.hid (fxP_full (i0 : Int) bit L)
        have HRT := Lib.hid (show (fxN (i0 : Int) bit L).2.getD q 0 = rt by rw [← HFX.out, List.getD_eq_getElem?_getD, hrt]; rfl)
        obtain ⟨na, nc, mn, hfor⟩ := FO.out
        clear hrt
        go_wp2_with fail
        refine Calls.mono (impl_limited hfor IV.out.snd.redu (by omega) HIN.out hat.1 (by omega)) ?_
        rintro e w5 ⟨da, dc, rfl, hO, hb5⟩
        have R5 := Lib.hid (R.out.keep hb5)
        have HB5 := Lib.hid (below_callS HB.out hb5)
        have O5 := Lib.hid hO
        have hs5 := hb5.size
        have HC5 := Lib.hid (show fixC inp L (q : Int) (i0 : Int) bit = (inp, (canN mkN (fxP (i0 : Int) bit L L.length).1 rt).1, (canN mkN (fxP (i0 : Int) bit L L.length).1 rt).2, 0) by rw [HF.out, Int.toNat_natCast, HRT.out, HFX.out])
        generalize canN mkN (fxP (i0 : Int) bit L L.length).1 rt = CN at *
        obtain ⟨CL, CR⟩ := CN
        simp only at HC5 O5
        clear hO hb5 X R HB FO O IV hfor hat hfw x2 xl crt gl hcl HI
        have r0 := R5.out.cell 0
        have r1 := R5.out.cell 1
        have r2 := R5.out.cell 2
        have rl := R5.out.lt
        have rf := R5.out.free
        simp only [List.getElem?_toArray, List.getElem?_cons_zero, List.getElem?_cons_succ] at r0 r1 r2
        go_wp2
        have hne : ∀ z, da = some ⟨z, 0, none⟩ → (some (w.heap.size + 1) : Option Nat) ≠ some z := fun z e e' => by
          have := (O5.out.blk z e).1
          simp at e' this
          omega
        have hbz : Below w.heap.size w w5 := HB5.out
        refine bodyPost_ret (v := .tuple #[.agg #[.int .i64 inp, .slice da CL.length dc, .int .i64 CR], .int .i64 0]) (by simp [results, Try.results26, go_sem, *]) rfl ⟨da, dc, ?_, ?_, ?_⟩
        · rw [HC5.out]
        · rw [HC5.out]
          exact ((((O5.out.keepG (set_grown _ _ _) hne).keepG (set_grown _ _ _) hne).keepG (set_grown _ _ _) hne)).le (by omega)
        · repeat (first | exact Below.refl _ _ | assumption | refine below_allocS ?_ _ | refine below_callS ?_ (by assumption) | (refine Below.alloc ?_ (by first | omega | (simp; done) | (simp; omega)) _) | (refine Below.setCell ?_ (by first | omega | (simp; done) | (simp; omega)) _) | refine Below.drew ?_ | refine below_drewN ?_ _ | (refine below_call ?_ (by assumption) (by first | omega | (simp; done) | (simp; omega))) | (refine Below.trans ?_ (by assumption)))
  · have HF := Lib.hid (fixC_2 HD.out hq)
    have e0 : IntKind.i64.wrap (inp - 1) = inp - 1 := IntWalk.i64_in _ (by omega)
    have hcase : inB fi 0 (inp - 1) = false ∨ (inB fi 0 (inp - 1) = true ∧ inB bit 0 1 = false) := by
      cases h1 : inB fi 0 (inp - 1)
      · exact .inl rfl
      · cases h2 : inB bit 0 1
        · exact .inr ⟨rfl, rfl⟩
        · exact absurd ⟨h1, h2⟩ hq
    clear hq
    go_enter Try.func26, Try.ntmps26
    go_wp2_with fail
    refine Calls.mono HCD.out ?_
    rintro e w1 ⟨rfl, hb1⟩
    have R1 := Lib.hid (R.out.keep hb1)
    have X1 := Lib.hid (X.out.keep hb1)
    have x0 := X1.out.cell 0
    have xl := X1.out.lt
    have r0 := R1.out.cell 0
    have r1 := R1.out.cell 1
    have r2 := R1.out.cell 2
    have rl := R1.out.lt
    have rf := R1.out.free
    simp only [List.getElem?_toArray, List.getElem?_cons_zero, List.getElem?_cons_succ] at r0 r1 r2 x0
    have hb01 := below_callS hb0 hb1
    go_wp2_with fail
    go_wp2_with fail
    refine Calls.mono (impl_within) ?_
    rintro e _ ⟨rfl, rfl⟩
    rcases hcase with h1 | ⟨h1, h2⟩
    · rw [h1]
      go_wp2
      refine bodyPost_ret (v := .tuple #[.agg #[.int .i64 0, .slice none 0 0, .int .i64 0], .int .i64 2]) (by simp [results, Try.results26, go_sem, *]) rfl ⟨none, 0, by rw [HF.out]; rfl, by rw [HF.out]; exact ⟨World.ownsRow_nil _ _ _ 3, (fun _ h => by cases h), rfl, fun _ => rfl⟩, by repeat (first | exact Below.refl _ _ | assumption | refine below_allocS ?_ _ | refine below_callS ?_ (by assumption) | (refine Below.alloc ?_ (by first | omega | (simp; done) | (simp; omega)) _) | (refine Below.setCell ?_ (by first | omega | (simp; done) | (simp; omega)) _) | refine Below.drew ?_ | refine below_drewN ?_ _ | (refine below_call ?_ (by assumption) (by first | omega | (simp; done) | (simp; omega))) | (refine Below.trans ?_ (by assumption)))⟩
    · rw [h1]
      have H2 := Lib.hid h2
      clear h2
      go_wp2_with fail
      go_wp2_with fail
      refine Calls.mono (impl_within) ?_
      rintro e _ ⟨rfl, rfl⟩
      rw [H2.out]
      go_wp2
      refine bodyPost_ret (v := .tuple #[.agg #[.int .i64 0, .slice none 0 0, .int .i64 0], .int .i64 2]) (by simp [results, Try.results26, go_sem, *]) rfl ⟨none, 0, by rw [HF.out]; rfl, by rw [HF.out]; exact ⟨World.ownsRow_nil _ _ _ 3, (fun _ h => by cases h), rfl, fun _ => rfl⟩, by repeat (first | exact Below.refl _ _ | assumption | refine below_allocS ?_ _ | refine below_callS ?_ (by assumption) | (refine Below.alloc ?_ (by first | omega | (simp; done) | (simp; omega)) _) | (refine Below.setCell ?_ (by first | omega | (simp; done) | (simp; omega)) _) | refine Below.drew ?_ | refine below_drewN ?_ _ | (refine below_call ?_ (by assumption) (by first | omega | (simp; done) | (simp; omega))) | (refine Below.trans ?_ (by assumption)))⟩
end Go.Proofs.Ytkaikbaagajckaa
