/- A diagram with an input fixed: the reference, walked. -/
import Derived.Test.YtkaikbaagajckaaWh
namespace Go.Proofs.Ytkaikbaagajckaa
open Go.RowKit
set_option linter.unusedVariables false
set_option linter.unusedSimpArgs false
attribute [local go_sem ↓] Go.wp_at_zero Go.wp_at_succ
theorem wp_appI1 {P : Program} {w : World} {o : Oper} {act : Act} {K : Act → World → Prop} {Q : Exit → Act → World → Prop} {z : Int} {t e : TypeId} (s x : Operand)
    (ho : o.op = .call { callee := .builtin .append, args := #[s, x], argTypes := #[t, t] }) (ht : P.underlying t = some (.slice e)) (hinfo : (P.info? e).map (fun i => (i.zero, i.size, i.bytes)) = some (some (.int .i64 0), 1, 8))
    (base : Nat) (a : Option Addr) (n c : Nat) (l : List Int) (hown : OwnI e w base a n c l) (hs : act.eval s = .slice a n c) (gx : Nat) (hx : act.eval x = .slice (some ⟨gx, 0, none⟩) 1 1) (hB : Blk w gx #[.int .i64 z] e) (hz : I64 z)
    (hn : n ≤ 4194304) (hbase : base ≤ w.heap.size)
    (K' : ∀ g' c' w', OwnI e w' base (some ⟨g', 0, none⟩) (n + 1) c' (l ++ [z]) → Below base w w' → Touch w w' 1 a → K (act.put o.dst (.slice (some ⟨g', 0, none⟩) (n + 1) c')) w') : o.wp P act w K Q := by
  refine wp_appAtL (k := 1) (m := 1) (enc := enc1) (ok := I64) s x ho ht hinfo rfl (by decide) (by decide) (fun y u hu => by simp [enc1] at hu; subst hu; rfl) base a n c l [z] hown.f1 hs gx hx hB rfl rfl (fun y hy => by simp at hy; rw [hy]; exact hz) (by decide) hn (by decide) hbase ?_
  intro g' c' w' h1 h2 h3
  exact K' g' c' w' h1.i1 h2 ⟨_, h3, fun b e => ⟨by decide, own_block hown.1 b e⟩⟩
theorem BldA.touchI {w w' : World} {lo p : Nat} {L : List I3} {base g : Nat} {n c m : Nat} {R : List Int} (h : ∃ na nc, BldA w lo p na nc L) (hO : OwnI 2 w base (some ⟨g, 0, none⟩) n c R) (ht : Touch w w' m (some ⟨g, 0, none⟩)) : ∃ na nc, BldA w' lo p na nc L := by
  obtain ⟨na, nc, h⟩ := h
  refine ⟨na, nc, h.blk.keepA ht (blk_ne h.blk hO.typN (by decide)), h.own.keepT ht (fun q e e' => ?_), h.lop⟩
  obtain ⟨c1, e1⟩ := h.own.typN e
  obtain ⟨c2, e2⟩ := hO.typN e'
  rw [e2] at e1
  simp at e1
set_option maxRecDepth 100000 in
set_option maxHeartbeats 8000000 in
theorem spec_FixInput {a : Option Addr} {n c : Nat} {L : List I3} {inp root fi bit : Int} {w : World} (hI : F3 w a n c L) (hi : I64 inp) (hr : I64 root) (hn : n ≤ maxLen) :
    Calls Try.prog 27 #[.agg #[.int .i64 inp, .slice a n c, .int .i64 root], .int .i64 fi, .int .i64 bit] w fun e w' => ∃ da dc, e = .returned (.tuple #[.agg #[.int .i64 (fixC inp L root fi bit).1, .slice da (fixC inp L root fi bit).2.1.length dc, .int .i64 (fixC inp L root fi bit).2.2.1], .int .i64 (fixC inp L root fi bit).2.2.2]) ∧ OwnF 3 I3.enc I3.ok 76 w' w.heap.size da (fixC inp L root fi bit).2.1.length dc (fixC inp L root fi bit).2.1 ∧ Below w.heap.size w w' := by
  have HI := Lib.hid hI
  obtain rfl : L.length = n := hI.len
  have hb0 : Below w.heap.size w ((w.alloc (.cells #[.int .i64 inp, .slice a L.length c, .int .i64 root] 26)).alloc (.cells #[.int .i64 0, .slice none 0 0, .int .i64 0] 26)) := by repeat (first | exact Below.refl _ _ | assumption | refine below_allocS ?_ _ | refine below_callS ?_ (by assumption) | (refine Below.alloc ?_ (by first | omega | (simp; done) | (simp; omega)) _) | (refine Below.setCell ?_ (by first | omega | (simp; done) | (simp; omega)) _) | refine Below.drew ?_ | refine below_drewN ?_ _ | (refine below_call ?_ (by assumption) (by first | omega | (simp; done) | (simp; omega))) | (refine Below.trans ?_ (by assumption)))
  have X := Lib.hid ((Blk.made w #[.int .i64 inp, .slice a L.length c, .int .i64 root] 26).keep (below_alloc1 (Below.refl _ _) (.cells #[.int .i64 0, .slice none 0 0, .int .i64 0] 26)))
  have R := Lib.hid (Blk.made1 w (.cells #[.int .i64 inp, .slice a L.length c, .int .i64 root] 26) #[.int .i64 0, .slice none 0 0, .int .i64 0] 26)
  have hcd := spec_IsDiagram (w := (w.alloc (.cells #[.int .i64 inp, .slice a L.length c, .int .i64 root] 26)).alloc (.cells #[.int .i64 0, .slice none 0 0, .int .i64 0] 26)) (hI.keep hb0) hi hr hn
  have HIN := Lib.hid hi
  clear hI
  cases hd : diaB inp L root
  · rw [hd] at hcd
    have HCD := Lib.hid hcd
    have HF := Lib.hid (fixC_1 (inp := fi) (bit := bit) hd)
    clear hcd hd
    go_enter Try.func27, Try.ntmps27
    go_wp2_with fail
    refine Calls.mono HCD.out ?_
    rintro e w1 ⟨rfl, hb1⟩
    have R1 := Lib.hid (R.out.keep hb1)
    have r0 := R1.out.cell 0
    have r1 := R1.out.cell 1
    have r2 := R1.out.cell 2
    have rl := R1.out.lt
    have rf := R1.out.free
    simp only [List.getElem?_toArray, List.getElem?_cons_zero, List.getElem?_cons_succ] at r0 r1 r2
    have hb01 := below_callS hb0 hb1
    go_wp2
    refine bodyPost_ret (v := .tuple #[.agg #[.int .i64 0, .slice none 0 0, .int .i64 0], .int .i64 1]) (by simp [results, Try.results27, go_sem, *]) rfl ⟨none, 0, by rw [HF.out]; rfl, by rw [HF.out]; exact ⟨World.ownsRow_nil _ _ _ 3, (fun _ h => by cases h), rfl, fun _ => rfl⟩, by repeat (first | exact Below.refl _ _ | assumption | refine below_allocS ?_ _ | refine below_callS ?_ (by assumption) | (refine Below.alloc ?_ (by first | omega | (simp; done) | (simp; omega)) _) | (refine Below.setCell ?_ (by first | omega | (simp; done) | (simp; omega)) _) | refine Below.drew ?_ | refine below_drewN ?_ _ | (refine below_call ?_ (by assumption) (by first | omega | (simp; done) | (simp; omega))) | (refine Below.trans ?_ (by assumption)))⟩
  rw [hd] at hcd
  have HCD := Lib.hid hcd
  have HD := Lib.hid hd
  obtain ⟨hR, hrr, h0, h20, hll, _, _⟩ := dia_redu hd
  clear hcd hd hR
  by_cases hq : inB fi 0 (inp - 1) = true ∧ inB bit 0 1 = true
  · have HF := Lib.hid (fixC_3 HD.out hq)
    have hf1 := inBI_true hq.1
    have hf2 := inBI_true hq.2
    have HQ1 := Lib.hid hq.1
    have HQ2 := Lib.hid hq.2
    obtain ⟨i0, rfl⟩ : ∃ i0 : Nat, fi = (i0 : Int) := ⟨fi.toNat, by omega⟩
    have HS := Lib.hid (dia_snd HD.out)
    have e0 : IntKind.i64.wrap (inp - 1) = inp - 1 := IntWalk.i64_in _ (by omega)
    clear hq
    go_enter Try.func27, Try.ntmps27
    go_wp2_with fail
    refine Calls.mono HCD.out ?_
    rintro e w1 ⟨rfl, hb1⟩
    have R1 := Lib.hid (R.out.keep hb1)
    have X1 := Lib.hid (X.out.keep hb1)
    have x0 := X1.out.cell 0
    have xl := X1.out.lt
    simp only [List.getElem?_toArray, List.getElem?_cons_zero] at x0
    have HB1 := Lib.hid (below_callS hb0 hb1)
    clear hb0 hb1 X R HCD
    go_wp2_with fail
    go_wp2_with fail
    refine Calls.mono (spec_l01In) ?_
    rintro e _ ⟨rfl, rfl⟩
    rw [HQ1.out]
    go_wp2_with fail
    go_wp2_with fail
    refine Calls.mono (spec_l01In) ?_
    rintro e _ ⟨rfl, rfl⟩
    rw [HQ2.out]
    have hRl := R1.out.lt
    obtain ⟨lo, hlo⟩ : ∃ lo, lo = w1.heap.size := ⟨_, rfl⟩
    have hlo2 : w.heap.size + 1 < lo := by omega
    go_wp2_with fail
    have hbA : Below w1.heap.size w1 ((w1.alloc (.cells #[.slice none 0 0] 100)).alloc (.cells #[.int .i64 0, .int .i64 1] 2)) := below_alloc1 (below_alloc1 (Below.refl _ _) _) _
    have B3 := Lib.hid (show ∃ na nc, BldA ((w1.alloc (.cells #[.slice none 0 0] 100)).alloc (.cells #[.int .i64 0, .int .i64 1] 2)) lo w1.heap.size na nc (fxP (i0 : Int) bit L 0).1 from ⟨none, 0, (Blk.made _ _ _).keep (below_alloc1 (Below.refl _ _) _), ⟨World.ownsRow_nil _ _ _ 3, (fun _ h => by cases h), rfl, fun _ => rfl⟩, by omega⟩)
    have O3 := Lib.hid (show OwnI 2 ((w1.alloc (.cells #[.slice none 0 0] 100)).alloc (.cells #[.int .i64 0, .int .i64 1] 2)) lo (some ⟨w1.heap.size + 1, 0, none⟩) 2 2 [0, 1] from by
      have h := OwnF.lit (k := 1) (m := 2) (enc := enc1) (ok := I64) (E := 2) (cs := #[.int .i64 0, .int .i64 1]) (base := lo) (w1.alloc (.cells #[.slice none 0 0] 100)) [0, 1] (by simp; omega) rfl (by decide) (fun _ => rfl) (fun x hx => by simp at hx; unfold I64; omega) rfl
      have h2 := h.i1
      simpa using h2)
    have X3 := Lib.hid (X1.out.keep hbA)
    have R3 := Lib.hid (R1.out.keep hbA)
    have HB3 := Lib.hid (below_callS HB1.out hbA)
    have hp9 : lo ≤ w1.heap.size := by omega
    clear hbA X1 R1 HB1 x0 xl hRl hlo
    go_loopw [9, 10] (fun s9 s10 wr => ∃ (j g mc : Nat), s10 = .int .i64 j ∧ s9 = .slice (some ⟨g, 0, none⟩) (j + 2) mc ∧ j ≤ L.length ∧ lo ≤ wr.heap.size ∧ Hid (Below w.heap.size w wr) ∧ Hid (Blk wr w.heap.size #[.int .i64 inp, .slice a L.length c, .int .i64 root] 26) ∧ Hid (Blk wr (w.heap.size + 1) #[.int .i64 0, .slice none 0 0, .int .i64 0] 26) ∧ Hid (∃ na nc, BldA wr lo w1.heap.size na nc (fxP (i0 : Int) bit L j).1) ∧ Hid (OwnI 2 wr lo (some ⟨g, 0, none⟩) (j + 2) mc (fxP (i0 : Int) bit L j).2) ∧ Hid (FxI inp i0 bit L j (fxP (i0 : Int) bit L j))) (fun _ s10 _ => L.length - (intOf s10).toNat)
    case atStart => exact ⟨0, _, 2, rfl, rfl, by omega, by simp; omega, HB3, X3, R3, B3, O3, Lib.hid FxI.start⟩
    case round =>
      clear X3 R3 HB3 B3 O3
      obtain ⟨j, g, mc, rfl, rfl, hj, hlow, HB, X, R, B, O, IV⟩ := hrel
      have y1 := X.out.cell 1
      have yl := X.out.lt
      simp only [List.getElem?_toArray, List.getElem?_cons_succ, List.getElem?_cons_zero] at y1
      by_cases hlt : j < L.length
      · have hlt' : (j : Int) < (L.length : Int) := by omega
        have hj0 : (0 : Int) ≤ (j : Int) := by omega
        obtain ⟨b1, o1, x, rfl, hb1, hx, hwf, c0, c1, c2⟩ := F3.get (HI.out.keep HB.out) hlt
        have hnext := fxP_next (inp := (i0 : Int)) (bit := bit) hx
        have hstep := IV.out.step HS.out hx
        have f1 := HS.out.redu.frst.low _ _ hx
        have f2 := HS.out.redu.frst.high _ _ hx
        obtain ⟨q1, q2, _, _⟩ := HS.out.ord _ _ hx
        obtain ⟨xa, xb, xc⟩ := x
        simp only at c0 c1 c2 q1 q2 f1 f2 hwf
        obtain ⟨i, rfl⟩ : ∃ i : Nat, xa = (i : Int) := ⟨xa.toNat, by omega⟩
        obtain ⟨qb, rfl⟩ : ∃ q : Nat, xb = (q : Int) := ⟨xb.toNat, by have := f1.1; omega⟩
        obtain ⟨qc, rfl⟩ : ∃ q : Nat, xc = (q : Int) := ⟨xc.toNat, by have := f2.1; omega⟩
        have f1' := f1.2
        have f2' := f2.2
        obtain ⟨pb, hpb, hpbi, cpb⟩ := O.out.cell (k := qb) (by omega)
        obtain ⟨pc, hpc, hpci, cpc⟩ := O.out.cell (k := qc) (by omega)
        have gl := O.out.lt.2
        have hfw := IV.out.few
        obtain ⟨FF, PP, hFP⟩ : ∃ F P, fxP (i0 : Int) bit L j = (F, P) := ⟨_, _, rfl⟩
        have hgb : PP.getD qb 0 = pb := by rw [hFP] at hpb; simp only at hpb; rw [List.getD_eq_getElem?_getD, hpb]; rfl
        have hgc : PP.getD qc 0 = pc := by rw [hFP] at hpc; simp only at hpc; rw [List.getD_eq_getElem?_getD, hpc]; rfl
        rw [hFP] at hnext hstep hfw
        rw [← hnext] at hstep
        simp only [fxS, Int.toNat_natCast] at hnext
        rw [hgb, hgc] at hnext
        have B' := Lib.hid (show ∃ na nc, BldA wr lo w1.heap.size na nc FF from by have h := B.out; rw [hFP] at h; exact h)
        have O' := Lib.hid (show OwnI 2 wr lo (some ⟨g, 0, none⟩) (j + 2) mc PP from by have h := O.out; rw [hFP] at h; exact h)
        have HSTEP := Lib.hid hstep
        have hbR : Below wr.heap.size wr (wr.alloc (.cells #[.int .i64 (i : Int), .int .i64 (qb : Int), .int .i64 (qc : Int)] 76)) := below_alloc1 (Below.refl _ _) _
        have hq0 : (0 : Int) ≤ (qb : Int) := by omega
        have hq1 : (qb : Int) < (j : Int) + 2 := by omega
        have hq2 : (0 : Int) ≤ (qc : Int) := by omega
        have hq3 : (qc : Int) < (j : Int) + 2 := by omega
        simp only at hfw
        clear hx hpb hpc hgb hgc hFP hstep B O IV f1 f2
        have XB := Lib.hid (X.out.keep hbR)
        have RB := Lib.hid (R.out.keep hbR)
        have FB := Lib.hid (show ∃ na nc, BldA (wr.alloc (.cells #[.int .i64 (i : Int), .int .i64 (qb : Int), .int .i64 (qc : Int)] 76)) lo w1.heap.size na nc FF from by obtain ⟨na, nc, h⟩ := B'.out; exact ⟨na, nc, h.keep hbR⟩)
        have OB := Lib.hid (O'.out.keep hbR)
        have HBB := Lib.hid (below_callS HB.out hbR)
        have ZB := Lib.hid (Blk.made wr #[.int .i64 (i : Int), .int .i64 (qb : Int), .int .i64 (qc : Int)] 76)
        have hsB : lo ≤ (wr.alloc (.cells #[.int .i64 (i : Int), .int .i64 (qb : Int), .int .i64 (qc : Int)] 76)).heap.size := by have := hbR.size; omega
        have cqb := cell_of_keep hbR cpb
        have cqc := cell_of_keep hbR cpc
        obtain ⟨wB, hwA⟩ : ∃ wB, wB = wr.alloc (.cells #[.int .i64 (i : Int), .int .i64 (qb : Int), .int .i64 (qc : Int)] 76) := ⟨_, rfl⟩
        rw [← hwA] at XB RB FB OB HBB ZB hsB cqb cqc
        have n0 := ZB.out.cell 0
        have n1 := ZB.out.cell 1
        have n2 := ZB.out.cell 2
        have nl := ZB.out.lt
        have gA := OB.out.lt.2
        simp only [List.getElem?_toArray, List.getElem?_cons_succ, List.getElem?_cons_zero] at n0 n1 n2
        clear X R HB B' O' hbR
        by_cases hii : (i : Int) = (i0 : Int)
        · have e1 : ((i : Int) != (i0 : Int)) = false := by simpa using hii
          rw [if_neg (by simpa using hii)] at hnext
          by_cases hbt : bit = 0
          · have e2 : (bit == 0) = true := by simpa using hbt
            rw [if_pos hbt] at hnext
            have HNX := Lib.hid hnext
            clear hnext hbt hii
            subst hwA
            clear cqb cqc n0 n1 n2 nl gA
            go_wp2_with (at_builtin; refine appI1 (z := pb) rfl _ _ rfl Try.underlying28 Try.infoi64 lo _ _ _ _ OB.out rfl _ rfl (by simp) hpbi (by omega) (by omega) ?_; intro g' c' wn ho hb ht hat hsz; have ON := Lib.hid ho; have XN := Lib.hid (XB.out.keepA ht (blk_ne XB.out OB.out.typN (by decide))); have RN := Lib.hid (RB.out.keepA ht (blk_ne RB.out OB.out.typN (by decide))); have FN := Lib.hid (BldA.touchI FB.out OB.out ht); have HBN := Lib.hid (show Below w.heap.size w wn from HBB.out.trans (hb.mono (by omega))); clear ho hb ht hat)
            go_roundw
            case rel =>
              rw [HNX.out] at HSTEP
              exact ⟨j + 1, g', c', by go_num, rfl, by omega, by omega, HBN, XN, RN, Lib.hid (by rw [HNX.out]; exact FN.out), Lib.hid (by rw [HNX.out]; exact ON.out), Lib.hid (by rw [HNX.out]; exact HSTEP.out)⟩
            case measure => simp [intOf]; omega
          · have e2 : (bit == 0) = false := by simpa using hbt
            rw [if_neg hbt] at hnext
            have HNX := Lib.hid hnext
            clear hnext hbt hii
            subst hwA
            clear cqb cqc n0 n1 n2 nl gA
            go_wp2_with (at_builtin; refine appI1 (z := pc) rfl _ _ rfl Try.underlying28 Try.infoi64 lo _ _ _ _ OB.out rfl _ rfl (by simp) hpci (by omega) (by omega) ?_; intro g' c' wn ho hb ht hat hsz; have ON := Lib.hid ho; have XN := Lib.hid (XB.out.keepA ht (blk_ne XB.out OB.out.typN (by decide))); have RN := Lib.hid (RB.out.keepA ht (blk_ne RB.out OB.out.typN (by decide))); have FN := Lib.hid (BldA.touchI FB.out OB.out ht); have HBN := Lib.hid (show Below w.heap.size w wn from HBB.out.trans (hb.mono (by omega))); clear ho hb ht hat)
            go_roundw
            case rel =>
              rw [HNX.out] at HSTEP
              exact ⟨j + 1, g', c', by go_num, rfl, by omega, by omega, HBN, XN, RN, Lib.hid (by rw [HNX.out]; exact FN.out), Lib.hid (by rw [HNX.out]; exact ON.out), Lib.hid (by rw [HNX.out]; exact HSTEP.out)⟩
            case measure => simp [intOf]; omega
        · have e1 : ((i : Int) != (i0 : Int)) = true := by simpa using hii
          rw [if_pos (by simpa using hii)] at hnext
          have HNX := Lib.hid hnext
          clear hnext hii
          obtain ⟨na, nc, hfor⟩ := FB.out
          have FB' := Lib.hid hfor
          clear hfor FB
          go_wp2_with fail
          rw [← hwA]
          clear hwA c0 c1 c2 y1 yl hb1 gl cpb cpc
          go_wp2_with fail
          refine wp_region_noPanic ?_
          refine wp_region_M (L := 14) (S := (fun wx => wx.cell? ⟨g, qb, none⟩ = some (.int .i64 pb) ∧ wx.cell? ⟨g, qc, none⟩ = some (.int .i64 pc) ∧ wx.cell? ⟨wr.heap.size, 0, none⟩ = some (.int .i64 (i : Int)) ∧ wx.cell? ⟨wr.heap.size, 1, none⟩ = some (.int .i64 (qb : Int)) ∧ wx.cell? ⟨wr.heap.size, 2, none⟩ = some (.int .i64 (qc : Int)) ∧ g < wx.heap.size ∧ wr.heap.size < wx.heap.size ∧ Below wB.heap.size wB wx)) (by kernel_rfl) ?_ (fun hHeld => ?_)
          · exact ⟨cqb, cqc, n0, n1, n2, gA, nl, (Below.refl _ _).drew⟩
          clear cqb cqc n0 n1 n2 gA nl
          refine wpAnyM_takeP (i := 0) (v := ?_) (by simp only [List.getElem?_toArray, List.getElem?_cons_succ, List.getElem?_cons_zero] <;> rfl) (by decide) (by kernel_rfl) (by kernel_rfl) (by kernel_rfl) (by kernel_rfl) (fun _ _ _ h => h) (Or.inl ⟨by rfl, ?_⟩) (by first | exact (fun _ => by assumption) | exact (fun h => by cases h)) ?_
          rotate_left
          · (intro wv hSw; clear hSw; go_simp; try with_reducible rfl)
          try simp only [Act.put, List.setIfInBounds_toArray, List.set_cons_zero, List.set_cons_succ]
          refine wpAnyM_take (i := 1) (v := ?_) (by simp only [List.getElem?_toArray, List.getElem?_cons_succ, List.getElem?_cons_zero] <;> rfl) (by kernel_rfl) (by kernel_rfl) (by kernel_rfl) (by kernel_rfl) (by kernel_rfl) (fun _ _ _ h => h) (Or.inl ⟨by rfl, ?_⟩) (by assumption) ?_
          rotate_left
          · (intro wv hSw; (try dsimp only at hSw); obtain ⟨h1, h2, h3, h4, h5, h6, h7, h8⟩ := hSw; go_simp; try with_reducible rfl)
          try simp only [Act.put, List.setIfInBounds_toArray, List.set_cons_zero, List.set_cons_succ]
          refine wpAnyM_take (i := 2) (v := ?_) (by simp only [List.getElem?_toArray, List.getElem?_cons_succ, List.getElem?_cons_zero] <;> rfl) (by kernel_rfl) (by kernel_rfl) (by kernel_rfl) (by kernel_rfl) (by kernel_rfl) (fun _ _ _ h => h) (Or.inl ⟨by rfl, ?_⟩) (by assumption) ?_
          rotate_left
          · (intro wv hSw; (try dsimp only at hSw); obtain ⟨h1, h2, h3, h4, h5, h6, h7, h8⟩ := hSw; go_simp; try with_reducible rfl)
          try simp only [Act.put, List.setIfInBounds_toArray, List.set_cons_zero, List.set_cons_succ]
          refine wpAnyM_take (i := 3) (v := ?_) (by simp only [List.getElem?_toArray, List.getElem?_cons_succ, List.getElem?_cons_zero] <;> rfl) (by kernel_rfl) (by kernel_rfl) (by kernel_rfl) (by kernel_rfl) (by kernel_rfl) (fun _ _ _ h => h) (Or.inl ⟨by rfl, ?_⟩) (by assumption) ?_
          rotate_left
          · (intro wv hSw; (try dsimp only at hSw); obtain ⟨h1, h2, h3, h4, h5, h6, h7, h8⟩ := hSw; go_simp; try with_reducible rfl)
          try simp only [Act.put, List.setIfInBounds_toArray, List.set_cons_zero, List.set_cons_succ]
          refine wpAnyM_take (i := 4) (v := ?_) (by simp only [List.getElem?_toArray, List.getElem?_cons_succ, List.getElem?_cons_zero] <;> rfl) (by kernel_rfl) (by kernel_rfl) (by kernel_rfl) (by kernel_rfl) (by kernel_rfl) (fun _ _ _ h => h) (Or.inl ⟨by rfl, ?_⟩) (by assumption) ?_
          rotate_left
          · (intro wv hSw; (try dsimp only at hSw); obtain ⟨h1, h2, h3, h4, h5, h6, h7, h8⟩ := hSw; go_simp; try with_reducible rfl)
          try simp only [Act.put, List.setIfInBounds_toArray, List.set_cons_zero, List.set_cons_succ]
          refine wpAnyM_take (i := 5) (v := ?_) (by simp only [List.getElem?_toArray, List.getElem?_cons_succ, List.getElem?_cons_zero] <;> rfl) (by kernel_rfl) (by kernel_rfl) (by kernel_rfl) (by kernel_rfl) (by kernel_rfl) (fun _ _ _ h => h) (Or.inl ⟨by rfl, ?_⟩) (by assumption) ?_
          rotate_left
          · (intro wv hSw; (try dsimp only at hSw); obtain ⟨h1, h2, h3, h4, h5, h6, h7, h8⟩ := hSw; go_simp; try with_reducible rfl)
          try simp only [Act.put, List.setIfInBounds_toArray, List.set_cons_zero, List.set_cons_succ]
          refine wpAnyM_take (i := 6) (v := ?_) (by simp only [List.getElem?_toArray, List.getElem?_cons_succ, List.getElem?_cons_zero] <;> rfl) (by kernel_rfl) (by kernel_rfl) (by kernel_rfl) (by kernel_rfl) (by kernel_rfl) (fun _ _ _ h => h) (Or.inl ⟨by rfl, ?_⟩) (by assumption) ?_
          rotate_left
          · (intro wv hSw; (try dsimp only at hSw); obtain ⟨h1, h2, h3, h4, h5, h6, h7, h8⟩ := hSw; go_simp; try with_reducible rfl)
          try simp only [Act.put, List.setIfInBounds_toArray, List.set_cons_zero, List.set_cons_succ]
          refine wpAnyM_take (i := 7) (v := ?_) (by simp only [List.getElem?_toArray, List.getElem?_cons_succ, List.getElem?_cons_zero] <;> rfl) (by kernel_rfl) (by kernel_rfl) (by kernel_rfl) (by kernel_rfl) (by kernel_rfl) (fun _ _ _ h => h) (Or.inl ⟨by rfl, ?_⟩) (by assumption) ?_
          rotate_left
          · (intro wv hSw; (try dsimp only at hSw); obtain ⟨h1, h2, h3, h4, h5, h6, h7, h8⟩ := hSw; go_simp; try with_reducible rfl)
          try simp only [Act.put, List.setIfInBounds_toArray, List.set_cons_zero, List.set_cons_succ]
          refine wpAnyM_take (i := 8) (v := ?_) (by simp only [List.getElem?_toArray, List.getElem?_cons_succ, List.getElem?_cons_zero] <;> rfl) (by kernel_rfl) (by kernel_rfl) (by kernel_rfl) (by kernel_rfl) (by kernel_rfl) (fun _ _ _ h => h) (Or.inl ⟨by rfl, ?_⟩) (by assumption) ?_
          rotate_left
          · (intro wv hSw; (try dsimp only at hSw); obtain ⟨h1, h2, h3, h4, h5, h6, h7, h8⟩ := hSw; go_simp; try with_reducible rfl)
          try simp only [Act.put, List.setIfInBounds_toArray, List.set_cons_zero, List.set_cons_succ]
          refine wpAnyM_take (i := 9) (v := ?_) (by simp only [List.getElem?_toArray, List.getElem?_cons_succ, List.getElem?_cons_zero] <;> rfl) (by kernel_rfl) (by kernel_rfl) (by kernel_rfl) (by kernel_rfl) (by kernel_rfl) (fun _ _ _ h => h) (Or.inl ⟨by rfl, ?_⟩) (by assumption) ?_
          rotate_left
          · (intro wv hSw; (try dsimp only at hSw); obtain ⟨h1, h2, h3, h4, h5, h6, h7, h8⟩ := hSw; go_simp; try with_reducible rfl)
          try simp only [Act.put, List.setIfInBounds_toArray, List.set_cons_zero, List.set_cons_succ]
          refine wpAnyM_take (i := 10) (v := ?_) (by simp only [List.getElem?_toArray, List.getElem?_cons_succ, List.getElem?_cons_zero] <;> rfl) (by kernel_rfl) (by kernel_rfl) (by kernel_rfl) (by kernel_rfl) (by kernel_rfl) (fun _ _ _ h => h) (Or.inl ⟨by rfl, ?_⟩) (by assumption) ?_
          rotate_left
          · (intro wv hSw; (try dsimp only at hSw); obtain ⟨h1, h2, h3, h4, h5, h6, h7, h8⟩ := hSw; go_simp; try with_reducible rfl)
          try simp only [Act.put, List.setIfInBounds_toArray, List.set_cons_zero, List.set_cons_succ]
          refine wpAnyM_take (i := 11) (v := ?_) (by simp only [List.getElem?_toArray, List.getElem?_cons_succ, List.getElem?_cons_zero] <;> rfl) (by kernel_rfl) (by kernel_rfl) (by kernel_rfl) (by kernel_rfl) (by kernel_rfl) (fun _ _ _ h => h) (Or.inl ⟨by rfl, ?_⟩) (by assumption) ?_
          rotate_left
          · (intro wv hSw; (try dsimp only at hSw); obtain ⟨h1, h2, h3, h4, h5, h6, h7, h8⟩ := hSw; go_simp; try with_reducible rfl)
          try simp only [Act.put, List.setIfInBounds_toArray, List.set_cons_zero, List.set_cons_succ]
          refine wpAnyM_take (i := 12) (v := ?_) (by simp only [List.getElem?_toArray, List.getElem?_cons_succ, List.getElem?_cons_zero] <;> rfl) (by kernel_rfl) (by kernel_rfl) (by kernel_rfl) (by kernel_rfl) (by kernel_rfl) (fun _ _ _ h => h) (Or.inl ⟨by rfl, ?_⟩) (by assumption) ?_
          rotate_left
          · (intro wv hSw; (try dsimp only at hSw); obtain ⟨h1, h2, h3, h4, h5, h6, h7, h8⟩ := hSw; go_simp; try with_reducible rfl)
          try simp only [Act.put, List.setIfInBounds_toArray, List.set_cons_zero, List.set_cons_succ]
          refine wpAnyM_take (i := 13) (v := ?_) (by simp only [List.getElem?_toArray, List.getElem?_cons_succ, List.getElem?_cons_zero] <;> rfl) (by kernel_rfl) (by kernel_rfl) (by kernel_rfl) (by kernel_rfl) (by kernel_rfl) (fun _ _ _ h => h) (Or.inl ⟨by rfl, ?_⟩) (by assumption) ?_
          rotate_left
          · (intro wv hSw; (try dsimp only at hSw); obtain ⟨h1, h2, h3, h4, h5, h6, h7, h8⟩ := hSw; go_simp; try with_reducible rfl)
          try simp only [Act.put, List.setIfInBounds_toArray, List.set_cons_zero, List.set_cons_succ]
          have hbD := hHeld.2.2.2.2.2.2.2
          have hsD := hbD.size
          refine wpAnyM_ready (rs := [14]) (by kernel_rfl) (by simp) ?_
          refine AllReadyM.last rfl (fun K hK => ?_)
          go_simp
          refine Calls.mono (spec_l22Node (FB'.out.keep hbD) (by omega) (by unfold I64; omega) hpbi hpci (by omega)) ?_
          rintro e w5 ⟨rfl, ⟨na5, nc5, hB5⟩, hF5⟩
          have hb5 : Below lo wB w5 := (hbD.mono (by omega)).trans (hF5.below (Below.refl _ _) (by omega) (Nat.le_refl _) hp9 hp9)
          have hgp : g ≠ w1.heap.size := fun e => by
            obtain ⟨cur, hc⟩ := OB.out.typN rfl
            have h := FB'.out.blk
            rw [Blk, ← e, hc] at h
            simp at h
          have X5 := Lib.hid (XB.out.keepB hb5 (by omega))
          have R5 := Lib.hid (RB.out.keepB hb5 (by omega))
          have F5 := Lib.hid (show ∃ na nc, BldA w5 lo w1.heap.size na nc (mkN FF (i : Int) pb pc).1 from ⟨_, _, hB5⟩)
          have O5 := Lib.hid (OB.out.atB (hF5.block g OB.out.lt.2 hgp hgp (.inr (fun cs l he => by
            obtain ⟨cur, hc⟩ := OB.out.typN rfl
            have he' : wB.heap[g]? = some (.cells cs 76 l) := he
            rw [hc] at he'
            simp at he'))))
          have HB5 := Lib.hid (show Below w.heap.size w w5 from HBB.out.trans (hb5.mono (by omega)))
          have hs5 := hF5.size
          have hri : I64 (mkN FF (i : Int) pb pc).2 := by
            have h := HSTEP.out.at' (j + 2) (mkN FF (i : Int) pb pc).2 (by
              rw [HNX.out]
              have := OB.out.len
              simp only
              rw [List.getElem?_append_right (by omega), show j + 2 - PP.length = 0 by omega]; rfl)
            have hw := HSTEP.out.few
            rw [HNX.out] at h hw
            have h1 := h.1.1
            have h2 := h.1.2
            simp only at h1 h2 hw
            unfold I64
            omega
          have hsd : wB.drew.heap.size = wB.heap.size := rfl
          clear hb5 hB5 hF5 XB RB FB' OB HBB hHeld hbD
          go_wp2_with fail
          refine hK.out _ _ ?_
          clear hK K
          try simp only [Act.put, List.setIfInBounds_toArray, List.set_cons_zero, List.set_cons_succ]
          refine wpAnyM_ready (rs := [15]) (by kernel_rfl) (by simp) ?_
          refine AllReadyM.then (by kernel_rfl) rfl (fun K hK => ?_)
          go_simp
          have hbL : Below w5.heap.size w5 (w5.alloc (.cells #[.int .i64 (mkN FF (i : Int) pb pc).2] 2)) := below_alloc1 (Below.refl _ _) _
          refine hK.out _ _ ?_
          clear hK K
          try simp only [Act.put, List.setIfInBounds_toArray, List.set_cons_zero, List.set_cons_succ]
          refine wpAnyM_ready (rs := [16]) (by kernel_rfl) (by simp) ?_
          refine AllReadyM.then (by kernel_rfl) rfl (fun K hK => ?_)
          refine wp_appI1 _ _ rfl Try.underlying28 Try.infoi64 lo _ _ _ _ (O5.out.keep hbL) rfl _ rfl (Blk.made _ _ _) hri (by omega) (by simp; omega) ?_
          intro g' c' wn ho hb ht
          have ON := Lib.hid ho
          have XN := Lib.hid ((X5.out.keep hbL).keepA ht (blk_ne (X5.out.keep hbL) (O5.out.keep hbL).typN (by decide)))
          have RN := Lib.hid ((R5.out.keep hbL).keepA ht (blk_ne (R5.out.keep hbL) (O5.out.keep hbL).typN (by decide)))
          have FN := Lib.hid (BldA.touchI (show ∃ na nc, BldA (w5.alloc (.cells #[.int .i64 (mkN FF (i : Int) pb pc).2] 2)) lo w1.heap.size na nc (mkN FF (i : Int) pb pc).1 from by obtain ⟨na, nc, h⟩ := F5.out; exact ⟨na, nc, h.keep hbL⟩) (O5.out.keep hbL) ht)
          have HBN := Lib.hid (show Below w.heap.size w wn from (below_callS HB5.out hbL).trans (hb.mono (by omega)))
          have hsN := ht.size
          simp at hsN
          clear ho hb ht hbL
          refine hK.out _ _ ?_
          clear hK K
          try simp only [Act.put, List.setIfInBounds_toArray, List.set_cons_zero, List.set_cons_succ]
          refine wpAnyM_ready (rs := [17]) (by kernel_rfl) (by simp) ?_
          refine AllReadyM.then (by kernel_rfl) rfl (fun K hK => ?_)
          go_simp
          refine hK.out _ _ ?_
          clear hK K
          try simp only [Act.put, List.setIfInBounds_toArray, List.set_cons_zero, List.set_cons_succ]
          refine wpAnyM_done (by kernel_rfl) ?_ _
          refine NoPanic.normal ?_
          go_wp2_with fail
          go_roundw
          case rel =>
            rw [HNX.out] at HSTEP
            exact ⟨j + 1, g', c', by go_num, rfl, by omega, by omega, HBN, XN, RN, Lib.hid (by rw [HNX.out]; exact FN.out), Lib.hid (by rw [HNX.out]; exact ON.out), Lib.hid (by rw [HNX.out]; exact HSTEP.out)⟩
          case measure => simp [intOf]; omega
      · have hjn : j = L.length := by omega
        subst hjn
        have hlt' : ¬ (L.length : Int) < (L.length : Int) := by omega
        obtain ⟨q, hq⟩ : ∃ q : Nat, root = (q : Int) := ⟨root.toNat, by have := hrr.1; omega⟩
        subst hq
        have hqn := hrr.2
        obtain ⟨rt, hrt, hrti, crt⟩ := O.out.cell (k := q) (by omega)
        have gl := O.out.lt.2
        have hq0 : (0 : Int) ≤ (q : Int) := by omega
        have hq1 : (q : Int) < (L.length : Int) + 2 := by omega
        have y0 := X.out.cell 0
        have y2 := X.out.cell 2
        simp only [List.getElem?_toArray, List.getElem?_cons_succ, List.getElem?_cons_zero] at y0 y2
        have hat := IV.out.at' q rt hrt
        have hfw := IV.out.few
        have HFX := Lib.hid (fxP_full (i0 : Int) bit L)
        have HRT := Lib.hid (show (fxN (i0 : Int) bit L).2.getD q 0 = rt by rw [← HFX.out, List.getD_eq_getElem?_getD, hrt]; rfl)
        obtain ⟨na, nc, hfor⟩ := B.out
        have p0 := hfor.blk.cell 0
        have pl := hfor.blk.lt
        simp only [List.getElem?_toArray, List.getElem?_cons_zero] at p0
        clear hrt
        have HFR := Lib.hid IV.out.snd.redu.frst
        have HC5 := Lib.hid (show fixC inp L (q : Int) (i0 : Int) bit = (inp, (canN mkN (fxP (i0 : Int) bit L L.length).1 rt).1, (canN mkN (fxP (i0 : Int) bit L L.length).1 rt).2, 0) by rw [HF.out, Int.toNat_natCast, HRT.out, HFX.out])
        generalize hFL : (fxP (i0 : Int) bit L L.length).1 = FL at *
        go_wp2_with fail
        refine wp_region_noPanic ?_
        refine wp_region_M (L := 12) (S := (fun wx => wx.cell? ⟨w1.heap.size, 0, none⟩ = some (.slice na FL.length nc) ∧ wx.cell? ⟨g, q, none⟩ = some (.int .i64 rt) ∧ wx.cell? ⟨w.heap.size, 0, none⟩ = some (.int .i64 inp) ∧ wx.cell? ⟨w.heap.size, 2, none⟩ = some (.int .i64 (q : Int)) ∧ w1.heap.size < wx.heap.size ∧ g < wx.heap.size ∧ w.heap.size < wx.heap.size ∧ Below wr.heap.size wr wx)) (by kernel_rfl) ?_ (fun hHeld => ?_)
        · exact ⟨p0, crt, y0, y2, pl, gl, yl, (Below.refl _ _).drew⟩
        clear p0 crt y0 y1 y2 pl gl yl
        refine wpAnyM_take (i := 0) (v := ?_) (by simp only [List.getElem?_toArray, List.getElem?_cons_succ, List.getElem?_cons_zero] <;> rfl) (by kernel_rfl) (by kernel_rfl) (by kernel_rfl) (by kernel_rfl) (by kernel_rfl) (fun _ _ _ h => h) (Or.inl ⟨by rfl, ?_⟩) (by assumption) ?_
        rotate_left
        · (intro wv hSw; (try dsimp only at hSw); obtain ⟨h1, h2, h3, h4, h5, h6, h7, h8⟩ := hSw; go_simp; try with_reducible rfl)
        try simp only [Act.put, List.setIfInBounds_toArray, List.set_cons_zero, List.set_cons_succ]
        refine wpAnyM_take (i := 1) (v := ?_) (by simp only [List.getElem?_toArray, List.getElem?_cons_succ, List.getElem?_cons_zero] <;> rfl) (by kernel_rfl) (by kernel_rfl) (by kernel_rfl) (by kernel_rfl) (by kernel_rfl) (fun _ _ _ h => h) (Or.inl ⟨by rfl, ?_⟩) (by assumption) ?_
        rotate_left
        · (intro wv hSw; (try dsimp only at hSw); obtain ⟨h1, h2, h3, h4, h5, h6, h7, h8⟩ := hSw; go_simp; try with_reducible rfl)
        try simp only [Act.put, List.setIfInBounds_toArray, List.set_cons_zero, List.set_cons_succ]
        refine wpAnyM_take (i := 2) (v := ?_) (by simp only [List.getElem?_toArray, List.getElem?_cons_succ, List.getElem?_cons_zero] <;> rfl) (by kernel_rfl) (by kernel_rfl) (by kernel_rfl) (by kernel_rfl) (by kernel_rfl) (fun _ _ _ h => h) (Or.inl ⟨by rfl, ?_⟩) (by assumption) ?_
        rotate_left
        · (intro wv hSw; (try dsimp only at hSw); obtain ⟨h1, h2, h3, h4, h5, h6, h7, h8⟩ := hSw; go_simp; try with_reducible rfl)
        try simp only [Act.put, List.setIfInBounds_toArray, List.set_cons_zero, List.set_cons_succ]
        refine wpAnyM_take (i := 3) (v := ?_) (by simp only [List.getElem?_toArray, List.getElem?_cons_succ, List.getElem?_cons_zero] <;> rfl) (by kernel_rfl) (by kernel_rfl) (by kernel_rfl) (by kernel_rfl) (by kernel_rfl) (fun _ _ _ h => h) (Or.inl ⟨by rfl, ?_⟩) (by assumption) ?_
        rotate_left
        · (intro wv hSw; (try dsimp only at hSw); obtain ⟨h1, h2, h3, h4, h5, h6, h7, h8⟩ := hSw; go_simp; try with_reducible rfl)
        try simp only [Act.put, List.setIfInBounds_toArray, List.set_cons_zero, List.set_cons_succ]
        refine wpAnyM_take (i := 4) (v := ?_) (by simp only [List.getElem?_toArray, List.getElem?_cons_succ, List.getElem?_cons_zero] <;> rfl) (by kernel_rfl) (by kernel_rfl) (by kernel_rfl) (by kernel_rfl) (by kernel_rfl) (fun _ _ _ h => h) (Or.inl ⟨by rfl, ?_⟩) (by assumption) ?_
        rotate_left
        · (intro wv hSw; (try dsimp only at hSw); obtain ⟨h1, h2, h3, h4, h5, h6, h7, h8⟩ := hSw; go_simp; try with_reducible rfl)
        try simp only [Act.put, List.setIfInBounds_toArray, List.set_cons_zero, List.set_cons_succ]
        refine wpAnyM_take (i := 5) (v := ?_) (by simp only [List.getElem?_toArray, List.getElem?_cons_succ, List.getElem?_cons_zero] <;> rfl) (by kernel_rfl) (by kernel_rfl) (by kernel_rfl) (by kernel_rfl) (by kernel_rfl) (fun _ _ _ h => h) (Or.inl ⟨by rfl, ?_⟩) (by assumption) ?_
        rotate_left
        · (intro wv hSw; (try dsimp only at hSw); obtain ⟨h1, h2, h3, h4, h5, h6, h7, h8⟩ := hSw; go_simp; try with_reducible rfl)
        try simp only [Act.put, List.setIfInBounds_toArray, List.set_cons_zero, List.set_cons_succ]
        refine wpAnyM_take (i := 6) (v := ?_) (by simp only [List.getElem?_toArray, List.getElem?_cons_succ, List.getElem?_cons_zero] <;> rfl) (by kernel_rfl) (by kernel_rfl) (by kernel_rfl) (by kernel_rfl) (by kernel_rfl) (fun _ _ _ h => h) (Or.inl ⟨by rfl, ?_⟩) (by assumption) ?_
        rotate_left
        · (intro wv hSw; (try dsimp only at hSw); obtain ⟨h1, h2, h3, h4, h5, h6, h7, h8⟩ := hSw; go_simp; try with_reducible rfl)
        try simp only [Act.put, List.setIfInBounds_toArray, List.set_cons_zero, List.set_cons_succ]
        refine wpAnyM_take (i := 7) (v := ?_) (by simp only [List.getElem?_toArray, List.getElem?_cons_succ, List.getElem?_cons_zero] <;> rfl) (by kernel_rfl) (by kernel_rfl) (by kernel_rfl) (by kernel_rfl) (by kernel_rfl) (fun _ _ _ h => h) (Or.inl ⟨by rfl, ?_⟩) (by assumption) ?_
        rotate_left
        · (intro wv hSw; (try dsimp only at hSw); obtain ⟨h1, h2, h3, h4, h5, h6, h7, h8⟩ := hSw; go_simp; try with_reducible rfl)
        try simp only [Act.put, List.setIfInBounds_toArray, List.set_cons_zero, List.set_cons_succ]
        refine wpAnyM_take (i := 8) (v := ?_) (by simp only [List.getElem?_toArray, List.getElem?_cons_succ, List.getElem?_cons_zero] <;> rfl) (by kernel_rfl) (by kernel_rfl) (by kernel_rfl) (by kernel_rfl) (by kernel_rfl) (fun _ _ _ h => h) (Or.inl ⟨by rfl, ?_⟩) (by assumption) ?_
        rotate_left
        · (intro wv hSw; (try dsimp only at hSw); obtain ⟨h1, h2, h3, h4, h5, h6, h7, h8⟩ := hSw; go_simp; try with_reducible rfl)
        try simp only [Act.put, List.setIfInBounds_toArray, List.set_cons_zero, List.set_cons_succ]
        refine wpAnyM_take (i := 9) (v := ?_) (by simp only [List.getElem?_toArray, List.getElem?_cons_succ, List.getElem?_cons_zero] <;> rfl) (by kernel_rfl) (by kernel_rfl) (by kernel_rfl) (by kernel_rfl) (by kernel_rfl) (fun _ _ _ h => h) (Or.inl ⟨by rfl, ?_⟩) (by assumption) ?_
        rotate_left
        · (intro wv hSw; (try dsimp only at hSw); obtain ⟨h1, h2, h3, h4, h5, h6, h7, h8⟩ := hSw; go_simp; try with_reducible rfl)
        try simp only [Act.put, List.setIfInBounds_toArray, List.set_cons_zero, List.set_cons_succ]
        refine wpAnyM_take (i := 10) (v := ?_) (by simp only [List.getElem?_toArray, List.getElem?_cons_succ, List.getElem?_cons_zero] <;> rfl) (by kernel_rfl) (by kernel_rfl) (by kernel_rfl) (by kernel_rfl) (by kernel_rfl) (fun _ _ _ h => h) (Or.inl ⟨by rfl, ?_⟩) (by assumption) ?_
        rotate_left
        · (intro wv hSw; (try dsimp only at hSw); obtain ⟨h1, h2, h3, h4, h5, h6, h7, h8⟩ := hSw; go_simp; try with_reducible rfl)
        try simp only [Act.put, List.setIfInBounds_toArray, List.set_cons_zero, List.set_cons_succ]
        refine wpAnyM_ready (rs := [11]) (by kernel_rfl) (by simp) ?_
        refine AllReadyM.cons rfl (fun K hK => ?_) AllReadyM.nil
        go_simp
        (refine Calls.mono (spec_l22Canonical HFR.out (by omega) (hfor.own.flats.keep (by first | assumption | (go_split_ands; assumption))) hat.1) ?_; rintro e wx2 ⟨da, dc, rfl, hO, hbx⟩; obtain ⟨hcx, hfx⟩ := bcell hbx; have hsx := hbx.size)
        go_wp2_with fail
        refine hK.out _ _ ?_ (fun hHeld => ?_)
        · (try dsimp only); (((try go_split_ands); (repeat' apply And.intro) <;> first | (with_reducible assumption) | (with_reducible exact (hcx _ _ (by assumption)).trans (by assumption)) | (with_reducible exact Nat.lt_of_lt_of_le (by assumption) hsx) | (with_reducible exact below_callS (by assumption) hbx) | (with_reducible exact Below.drew (by assumption)) | (with_reducible exact Go.Proofs.Ytkaikbaagajckaa.cellR_drew (by assumption)) | (with_reducible exact Go.Proofs.Ytkaikbaagajckaa.ltR_drew (by assumption)) | (with_reducible exact (Below.refl _ _).drew)))
        clear hK K
        try simp only [Act.put, List.setIfInBounds_toArray, List.set_cons_zero, List.set_cons_succ]
        have hbh : Below wr.heap.size wr wx2 := hHeld.2.2.2.2.2.2.2
        have R5 := Lib.hid (R.out.keep hbh)
        have HB5 := Lib.hid (below_callS HB.out hbh)
        have r0 := R5.out.cell 0
        have r1 := R5.out.cell 1
        have r2 := R5.out.cell 2
        have rl := R5.out.lt
        have rf := R5.out.free
        simp only [List.getElem?_toArray, List.getElem?_cons_succ, List.getElem?_cons_zero] at r0 r1 r2
        have O5 := Lib.hid hO
        have hsd : wr.drew.heap.size = wr.heap.size := rfl
        have hsw := HB.out.size
        clear hO
        generalize canN mkN FL rt = CN at *
        obtain ⟨CL, CR⟩ := CN
        simp only at HC5 O5
        refine wpAnyM_ready (rs := [12]) (by kernel_rfl) (by simp) ?_
        refine AllReadyM.last rfl (fun K hK => ?_)
        go_simp
        refine hK.out _ _ ?_
        clear hK K
        try simp only [Act.put, List.setIfInBounds_toArray, List.set_cons_zero, List.set_cons_succ]
        refine wpAnyM_ready (rs := [13]) (by kernel_rfl) (by simp) ?_
        refine AllReadyM.then (by kernel_rfl) rfl (fun K hK => ?_)
        go_simp
        refine hK.out _ _ ?_
        clear hK K
        try simp only [Act.put, List.setIfInBounds_toArray, List.set_cons_zero, List.set_cons_succ]
        refine wpAnyM_done (by kernel_rfl) ?_ _
        refine NoPanic.normal ?_
        clear hHeld
        go_wp2
        have hne : ∀ z, da = some ⟨z, 0, none⟩ → (some (w.heap.size + 1) : Option Nat) ≠ some z := fun z e e' => by
          have := (O5.out.blk z e).1
          simp at e' this
          omega
        have hbz : Below w.heap.size w wx2 := HB5.out
        refine bodyPost_ret (v := .tuple #[.agg #[.int .i64 inp, .slice da CL.length dc, .int .i64 CR], .int .i64 0]) (by simp [results, Try.results27, go_sem, *]) rfl ⟨da, dc, ?_, ?_, ?_⟩
        · rw [HC5.out]
        · rw [HC5.out]
          exact ((((O5.out.keepG (set_grown _ _ _) hne).keepG (set_grown _ _ _) hne).keepG (set_grown _ _ _) hne)).le (by omega)
        · repeat (first | exact Below.refl _ _ | assumption | refine below_allocS ?_ _ | refine below_callS ?_ (by assumption) | (refine Below.alloc ?_ (by first | omega | (simp; done) | (simp; omega)) _) | (refine Below.setCell ?_ (by first | omega | (simp; done) | (simp; omega)) _) | refine Below.drew ?_ | refine below_drewN ?_ _ | (refine below_call ?_ (by assumption) (by first | omega | (simp; done) | (simp; omega))) | (refine Below.trans ?_ (by assumption)))
  · have HF := Lib.hid (fixC_2 HD.out hq)
    have e0 : IntKind.i64.wrap (inp - 1) = inp - 1 := IntWalk.i64_in _ (by omega)
    have hcase : inB fi 0 (inp - 1) = false ∨ (inB fi 0 (inp - 1) = true ∧ inB bit 0 1 = false) := by
      cases h1 : inB fi 0 (inp - 1)
      · exact .inl rfl
      · cases h2 : inB bit 0 1
        · exact .inr ⟨rfl, rfl⟩
        · exact absurd ⟨h1, h2⟩ hq
    clear hq
    go_enter Try.func27, Try.ntmps27
    go_wp2_with fail
    refine Calls.mono HCD.out ?_
    rintro e w1 ⟨rfl, hb1⟩
    have R1 := Lib.hid (R.out.keep hb1)
    have X1 := Lib.hid (X.out.keep hb1)
    have x0 := X1.out.cell 0
    have xl := X1.out.lt
    have r0 := R1.out.cell 0
    have r1 := R1.out.cell 1
    have r2 := R1.out.cell 2
    have rl := R1.out.lt
    have rf := R1.out.free
    simp only [List.getElem?_toArray, List.getElem?_cons_zero, List.getElem?_cons_succ] at r0 r1 r2 x0
    have hb01 := below_callS hb0 hb1
    go_wp2_with fail
    go_wp2_with fail
    refine Calls.mono (spec_l01In) ?_
    rintro e _ ⟨rfl, rfl⟩
    rcases hcase with h1 | ⟨h1, h2⟩
    · rw [h1]
      go_wp2
      refine bodyPost_ret (v := .tuple #[.agg #[.int .i64 0, .slice none 0 0, .int .i64 0], .int .i64 2]) (by simp [results, Try.results27, go_sem, *]) rfl ⟨none, 0, by rw [HF.out]; rfl, by rw [HF.out]; exact ⟨World.ownsRow_nil _ _ _ 3, (fun _ h => by cases h), rfl, fun _ => rfl⟩, by repeat (first | exact Below.refl _ _ | assumption | refine below_allocS ?_ _ | refine below_callS ?_ (by assumption) | (refine Below.alloc ?_ (by first | omega | (simp; done) | (simp; omega)) _) | (refine Below.setCell ?_ (by first | omega | (simp; done) | (simp; omega)) _) | refine Below.drew ?_ | refine below_drewN ?_ _ | (refine below_call ?_ (by assumption) (by first | omega | (simp; done) | (simp; omega))) | (refine Below.trans ?_ (by assumption)))⟩
    · rw [h1]
      have H2 := Lib.hid h2
      clear h2
      go_wp2_with fail
      go_wp2_with fail
      refine Calls.mono (spec_l01In) ?_
      rintro e _ ⟨rfl, rfl⟩
      rw [H2.out]
      go_wp2
      refine bodyPost_ret (v := .tuple #[.agg #[.int .i64 0, .slice none 0 0, .int .i64 0], .int .i64 2]) (by simp [results, Try.results27, go_sem, *]) rfl ⟨none, 0, by rw [HF.out]; rfl, by rw [HF.out]; exact ⟨World.ownsRow_nil _ _ _ 3, (fun _ h => by cases h), rfl, fun _ => rfl⟩, by repeat (first | exact Below.refl _ _ | assumption | refine below_allocS ?_ _ | refine below_callS ?_ (by assumption) | (refine Below.alloc ?_ (by first | omega | (simp; done) | (simp; omega)) _) | (refine Below.setCell ?_ (by first | omega | (simp; done) | (simp; omega)) _) | refine Below.drew ?_ | refine below_drewN ?_ _ | (refine below_call ?_ (by assumption) (by first | omega | (simp; done) | (simp; omega))) | (refine Below.trans ?_ (by assumption)))⟩
end Go.Proofs.Ytkaikbaagajckaa
