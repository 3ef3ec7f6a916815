/- The value of a diagram at a list of bits: the reference, walked. (Printed by mkwg.py.) -/
import Derived.Test.YtkaikbaagajckaaWe
namespace Go.Proofs.Ytkaikbaagajckaa
open Go.RowKit
set_option linter.unusedVariables false
set_option linter.unusedSimpArgs false
attribute [local go_sem ↓] Go.wp_at_zero Go.wp_at_succ
theorem cell_of_keep {w w' : World} {b o : Nat} {v : Value} (hb : Below w.heap.size w w') (h : w.cell? ⟨b, o, none⟩ = some v) : w'.cell? ⟨b, o, none⟩ = some v :=
  (hb.cell (p := ⟨b, o, none⟩) (World.block_lt_of_cell? w _ h)).trans h
/-- where a bit of an input leads -/
def brN (n : Int) (L : List I3) (r input bit : Int) : Int := if bit = 0 then (chN n L r input).1 else (chN n L r input).2
set_option maxHeartbeats 2000000 in
theorem spec_l22Branch {a : Option Addr} {n c : Nat} {L : List I3} {inp root r input bit : Int} {w : World} (hI : F3 w a n c L) (hn : n ≤ 1048576) (hr : RefB r L.length) :
    Calls Try.prog 72 #[.agg #[.int .i64 inp, .slice a n c, .int .i64 root], .int .i64 r, .int .i64 input, .int .i64 bit] w fun e w' => e = .returned (.int .i64 (brN inp L r input bit)) ∧ Below w.heap.size w w' := by
  have hb0 : Below w.heap.size w (w.alloc (.cells #[.int .i64 inp, .slice a n c, .int .i64 root] 26)) := by repeat (first | exact Below.refl _ _ | assumption | refine below_allocS ?_ _ | refine below_callS ?_ (by assumption) | (refine Below.alloc ?_ (by first | omega | (simp; done) | (simp; omega)) _) | (refine Below.setCell ?_ (by first | omega | (simp; done) | (simp; omega)) _) | refine Below.drew ?_ | refine below_drewN ?_ _ | (refine below_call ?_ (by assumption) (by first | omega | (simp; done) | (simp; omega))) | (refine Below.trans ?_ (by assumption)))
  have X := Lib.hid (Blk.made w #[.int .i64 inp, .slice a n c, .int .i64 root] 26)
  have HC := Lib.hid (spec_l22Level (inp := inp) (root := root) (hI.keep hb0) hn hr)
  by_cases hl : lvlN inp L r = input
  · have HL := Lib.hid hl
    by_cases h2 : r < 2
    · have HF := Lib.hid (show brN inp L r input bit = r by rw [brN, ch_skip (.inr h2)]; simp)
      clear hI hl
      go_enter Try.func72, Try.ntmps72
      go_wp2_with fail
      refine Calls.mono HC.out ?_
      rintro e w1 ⟨rfl, hb1⟩
      rw [HL.out]
      go_wp2
      go_ret
      exact ⟨by rw [HF.out]; rfl, below_callS hb0 hb1⟩
    · obtain ⟨k, rfl⟩ : ∃ k : Nat, r = (k : Int) + 2 := ⟨(r - 2).toNat, by omega⟩
      have hkn : k < n := by rw [← hI.len]; have := hr.2; omega
      obtain ⟨b, off, x, rfl, hb, hx, hwf, hc0, hc1, hc2⟩ := F3.get hI hkn
      have hk0 : (0 : Int) ≤ (k : Int) := by omega
      have hkn' : (k : Int) < (n : Int) := by omega
      have i1 : IntKind.i64.wrap ((k : Int) + 2 - 2) = (k : Int) := by rw [IntWalk.i64_in _ (by omega)]; omega
      have HX := Lib.hid (ch_node (n := inp) hx (show x.a = input by rw [← hl, lvl_node hx]))
      have HI := Lib.hid hI
      have HC0 := Lib.hid hc0
      have HC1 := Lib.hid hc1
      have HC2 := Lib.hid hc2
      clear hI hl hx hc0 hc1 hc2
      by_cases hbt : bit = 0
      · have e1 : (bit == 0) = true := by simpa using hbt
        have HBT := Lib.hid hbt
        clear hbt
        go_enter Try.func72, Try.ntmps72
        go_wp2_with fail
        refine Calls.mono HC.out ?_
        rintro e w1 ⟨rfl, hb1⟩
        rw [HL.out]
        have x1 := (X.out.keep hb1).cell 1
        have xl := (X.out.keep hb1).lt
        simp only [List.getElem?_toArray, List.getElem?_cons_succ, List.getElem?_cons_zero] at x1
        have hb01 := below_callS hb0 hb1
        have c0 := cell_of_keep hb01 HC0.out
        have c1 := cell_of_keep hb01 HC1.out
        have c2 := cell_of_keep hb01 HC2.out
        have bl := Nat.lt_of_lt_of_le hb hb01.size
        go_wp2
        go_ret
        exact ⟨by rw [brN, HX.out, if_pos HBT.out]; rfl, hb01⟩
      · have e1 : (bit == 0) = false := by simpa using hbt
        have HBT := Lib.hid hbt
        clear hbt
        go_enter Try.func72, Try.ntmps72
        go_wp2_with fail
        refine Calls.mono HC.out ?_
        rintro e w1 ⟨rfl, hb1⟩
        rw [HL.out]
        have x1 := (X.out.keep hb1).cell 1
        have xl := (X.out.keep hb1).lt
        simp only [List.getElem?_toArray, List.getElem?_cons_succ, List.getElem?_cons_zero] at x1
        have hb01 := below_callS hb0 hb1
        have c0 := cell_of_keep hb01 HC0.out
        have c1 := cell_of_keep hb01 HC1.out
        have c2 := cell_of_keep hb01 HC2.out
        have bl := Nat.lt_of_lt_of_le hb hb01.size
        go_wp2
        go_ret
        exact ⟨by rw [brN, HX.out, if_neg HBT.out]; rfl, hb01⟩
  · have HF := Lib.hid (show brN inp L r input bit = r by rw [brN, ch_skip (.inl hl)]; simp)
    have e1 : (lvlN inp L r == input) = false := by simpa using hl
    have e2 : (lvlN inp L r != input) = true := by simpa using hl
    clear hI hl
    go_enter Try.func72, Try.ntmps72
    go_wp2_with fail
    refine Calls.mono HC.out ?_
    rintro e w1 ⟨rfl, hb1⟩
    go_wp2
    go_ret
    exact ⟨by rw [HF.out]; rfl, below_callS hb0 hb1⟩
set_option maxRecDepth 100000 in
set_option maxHeartbeats 2000000 in
theorem spec_ValueOf {a va : Option Addr} {n c vn vc : Nat} {L : List I3} {bits : List Int} {inp root : Int} {w : World} (hI : F3 w a n c L) (hV : Ints w va vn vc bits) (hi : I64 inp) (hr : I64 root) (hn : n ≤ maxLen) (hvn : vn ≤ 1048576) :
    Calls Try.prog 24 #[.agg #[.int .i64 inp, .slice a n c, .int .i64 root], .slice va vn vc] w fun e w' => e = .returned (.tuple #[.int .i64 (valC inp L root bits).1, .int .i64 (valC inp L root bits).2]) ∧ Below w.heap.size w w' := by
  have HI := Lib.hid hI
  have HV := Lib.hid hV
  obtain rfl : L.length = n := hI.len
  have hb0 : Below w.heap.size w (w.alloc (.cells #[.int .i64 inp, .slice a L.length c, .int .i64 root] 26)) := by repeat (first | exact Below.refl _ _ | assumption | refine below_allocS ?_ _ | refine below_callS ?_ (by assumption) | (refine Below.alloc ?_ (by first | omega | (simp; done) | (simp; omega)) _) | (refine Below.setCell ?_ (by first | omega | (simp; done) | (simp; omega)) _) | refine Below.drew ?_ | refine below_drewN ?_ _ | (refine below_call ?_ (by assumption) (by first | omega | (simp; done) | (simp; omega))) | (refine Below.trans ?_ (by assumption)))
  have X := Lib.hid (Blk.made w #[.int .i64 inp, .slice a L.length c, .int .i64 root] 26)
  have hcd := spec_IsDiagram (w := w.alloc (.cells #[.int .i64 inp, .slice a L.length c, .int .i64 root] 26)) (hI.keep hb0) hi hr hn
  clear hI hV
  cases hd : diaB inp L root
  · rw [hd] at hcd
    have HCD := Lib.hid hcd
    have HF := Lib.hid (valC_1 (bits := bits) hd)
    clear hcd hd
    go_enter Try.func24, Try.ntmps24
    go_wp2_with fail
    refine Calls.mono HCD.out ?_
    rintro e w1 ⟨rfl, hb1⟩
    go_wp2
    go_ret2
    exact ⟨by rw [HF.out]; rfl, below_callS hb0 hb1⟩
  rw [hd] at hcd
  have HCD := Lib.hid hcd
  have HD := Lib.hid hd
  clear hcd hd
  cases ha : areB bits inp
  · have hcf := fun (wx : World) (hb : Below w.heap.size w wx) => (spec_l22Bits (N := inp) (HV.out.keep hb) hvn).mono (fun e w' h => (⟨h.1, h.2 ▸ Below.refl _ _⟩ : e = .returned (.bool (areB bits inp)) ∧ Below wx.heap.size wx w'))
    simp only [ha] at hcf
    have HCF := Lib.hid hcf
    have HF := Lib.hid (valC_2 HD.out ha)
    clear ha hcf
    go_enter Try.func24, Try.ntmps24
    go_wp2_with fail
    refine Calls.mono HCD.out ?_
    rintro e w1 ⟨rfl, hb1⟩
    have x0 := (X.out.keep hb1).cell 0
    have xl := (X.out.keep hb1).lt
    simp only [List.getElem?_toArray, List.getElem?_cons_zero] at x0
    have hb01 := below_callS hb0 hb1
    go_wp2_with fail
    refine Calls.mono (HCF.out _ hb01) ?_
    rintro e w2 ⟨rfl, hb2⟩
    go_wp2
    go_ret2
    exact ⟨by rw [HF.out]; rfl, below_callS hb01 hb2⟩
  have hcf := fun (wx : World) (hb : Below w.heap.size w wx) => (spec_l22Bits (N := inp) (HV.out.keep hb) hvn).mono (fun e w' h => (⟨h.1, h.2 ▸ Below.refl _ _⟩ : e = .returned (.bool (areB bits inp)) ∧ Below wx.heap.size wx w'))
  simp only [ha] at hcf
  have HCF := Lib.hid hcf
  have HF := Lib.hid (valC_3 HD.out ha)
  obtain ⟨hbl, h01⟩ := areB_len ha
  have H01 := Lib.hid h01
  have hS := dia_snd HD.out
  obtain ⟨hR, hrr, h0, h20, hll, _, _⟩ := dia_redu HD.out
  have HS := Lib.hid hS
  have hvl : bits.length = vn := HV.out.len
  have hlen' : L.length ≤ 2000 := hll
  clear ha hcf h01 hS hR hi hr hn
  go_enter Try.func24, Try.ntmps24
  go_wp2_with fail
  refine Calls.mono HCD.out ?_
  rintro e w1 ⟨rfl, hb1⟩
  have X1 := Lib.hid (X.out.keep hb1)
  have hb01 := below_callS hb0 hb1
  have x0 := X1.out.cell 0
  have xl := X1.out.lt
  simp only [List.getElem?_toArray, List.getElem?_cons_zero] at x0
  clear hb1 X hb0
  go_wp2_with fail
  refine Calls.mono (HCF.out _ hb01) ?_
  rintro e w2 ⟨rfl, hb2⟩
  have X2 := Lib.hid (X1.out.keep hb2)
  have HB2 := Lib.hid (below_callS hb01 hb2)
  clear hb2 hb01 X1 x0 xl HCF HCD
  have x2 := X2.out.cell 2
  have xl := X2.out.lt
  simp only [List.getElem?_toArray, List.getElem?_cons_zero, List.getElem?_cons_succ] at x2
  go_wp2_with fail
  clear x2 xl
  go_loopw [6] (fun s6 wr => ∃ r : Int, s6 = .int .i64 r ∧ RefB r L.length ∧ Hid (Below w.heap.size w wr) ∧ Hid (Blk wr w.heap.size #[.int .i64 inp, .slice a L.length c, .int .i64 root] 26) ∧ Hid (valN L bits r = valN L bits root)) (fun s6 _ => (intOf s6).toNat)
  case atStart => exact ⟨root, rfl, hrr, HB2, X2, Lib.hid rfl⟩
  case round =>
    clear X2 HB2 hrr
    obtain ⟨r, rfl, hr, HB, X, A⟩ := hrel
    by_cases h2 : r < 2
    · have h2' : ¬ (2 : Int) ≤ r := by omega
      have HV2 := Lib.hid (show valN L bits root = r by rw [← A.out, val_low h2 hr.1])
      go_wp2
      go_ret2
      exact ⟨by rw [HF.out, HV2.out]; rfl, HB.out⟩
    · obtain ⟨k, rfl⟩ : ∃ k : Nat, r = (k : Int) + 2 := ⟨(r - 2).toNat, by omega⟩
      have hkn : k < L.length := by have := hr.2; omega
      have h2' : (2 : Int) ≤ (k : Int) + 2 := by omega
      have hk0 : (0 : Int) ≤ (k : Int) := by omega
      have hkn' : (k : Int) < (L.length : Int) := by omega
      have i1 : IntKind.i64.wrap ((k : Int) + 2 - 2) = (k : Int) := by rw [IntWalk.i64_in _ (by omega)]; omega
      obtain ⟨b1, o1, x, rfl, hb1, hx, hwf, c0, c1, c2⟩ := F3.get (HI.out.keep HB.out) hkn
      obtain ⟨q1, q2, q3, q4⟩ := HS.out.ord _ _ hx
      have f1 := HS.out.redu.frst.low _ _ hx
      have f2 := HS.out.redu.frst.high _ _ hx
      obtain ⟨i, hxi⟩ : ∃ i : Nat, x.a = (i : Int) := ⟨x.a.toNat, by omega⟩
      have hin : i < vn := by omega
      have hi0 : (0 : Int) ≤ (i : Int) := by omega
      have hin' : (i : Int) < (vn : Int) := by omega
      obtain ⟨b2, o2, v, rfl, hb2, hv, hvc, hvw⟩ := (HV.out.keep HB.out).at hin
      have hn1 := val_node HS.out.redu.frst hx (v := v) (by rw [hxi]; simpa using hv) (H01.out _ _ hv)
      have HN := Lib.hid hn1
      have hv01 := H01.out _ _ hv
      have y1 := X.out.cell 1
      have yl := X.out.lt
      simp only [List.getElem?_toArray, List.getElem?_cons_zero, List.getElem?_cons_succ] at y1
      have f1' := f1.2
      have f2' := f2.2
      have F1 := Lib.hid (f1.mono (Nat.le_of_lt hkn))
      have F2 := Lib.hid (f2.mono (Nat.le_of_lt hkn))
      have hbA : Below wr.heap.size wr (wr.alloc (.cells #[.int .i64 (i : Int), .int .i64 x.b, .int .i64 x.c] 76)) := below_alloc1 (Below.refl _ _) _
      have XA := Lib.hid (X.out.keep hbA)
      have ZA := Lib.hid (Blk.made wr #[.int .i64 (i : Int), .int .i64 x.b, .int .i64 x.c] 76)
      have HBA := Lib.hid (below_callS HB.out hbA)
      have HVA := Lib.hid ((HV.out.keep HB.out).keep hbA)
      have hcv := (cell_of_keep hbA hvc)
      have hbv : b2 < (wr.alloc (.cells #[.int .i64 (i : Int), .int .i64 x.b, .int .i64 x.c] 76)).heap.size := by simp; omega
      have LV := Lib.hid (show lvlN inp L ((k : Int) + 2) = (i : Int) from by rw [lvl_node hx, hxi])
      have HRK := Lib.hid hr
      have HCH := Lib.hid (show ∀ bit, brN inp L ((k : Int) + 2) (i : Int) bit = if bit = 0 then x.b else x.c from fun bit => by rw [brN, ch_node (n := inp) hx hxi])
      obtain ⟨wA, hwA⟩ : ∃ wA, wA = wr.alloc (.cells #[.int .i64 (i : Int), .int .i64 x.b, .int .i64 x.c] 76) := ⟨_, rfl⟩
      rw [← hwA] at XA ZA HBA HVA hcv hbv
      have d0 := XA.out.cell 0
      have d1 := XA.out.cell 1
      have d2 := XA.out.cell 2
      have dl := XA.out.lt
      have z0 := ZA.out.cell 0
      have z1 := ZA.out.cell 1
      have z2 := ZA.out.cell 2
      have zl := ZA.out.lt
      simp only [List.getElem?_toArray, List.getElem?_cons_succ, List.getElem?_cons_zero] at d0 d1 d2 z0 z1 z2
      have hrA : Below wA.heap.size wA wA.drew := (Below.refl _ _).drew
      have hlw : L.length ≤ 1048576 := by omega
      clear hx hv q1 q2 q3 q4 f1 f2 hn1 hwf hbA hvw hr
      rcases hv01 with rfl | rfl
      · go_wp2_with fail
        rw [← hwA]
        clear hwA hvc c0 c1 c2 y1 yl hb1 hb2
        refine wp_region_noPanic ?_
        refine wp_region_held_drew (S := (fun wx => wx.cell? ⟨w.heap.size, 0, none⟩ = some (.int .i64 inp) ∧ wx.cell? ⟨w.heap.size, 1, none⟩ = some (.slice (some ⟨b1, o1, none⟩) L.length c) ∧ wx.cell? ⟨w.heap.size, 2, none⟩ = some (.int .i64 root) ∧ wx.cell? ⟨wr.heap.size, 0, none⟩ = some (.int .i64 (i : Int)) ∧ wx.cell? ⟨b2, o2 + i, none⟩ = some (.int .i64 0) ∧ w.heap.size < wx.heap.size ∧ wr.heap.size < wx.heap.size ∧ b2 < wx.heap.size ∧ Below wA.heap.size wA wx)) (by kernel_rfl) ?_ (fun hHeld => ?_)
        · (try dsimp only); (((try go_split_ands); (repeat' apply And.intro) <;> first | (with_reducible assumption) | (with_reducible exact (hcx _ _ (by assumption)).trans (by assumption)) | (with_reducible exact Nat.lt_of_lt_of_le (by assumption) hsx) | (with_reducible exact below_callS (by assumption) hbx) | (with_reducible exact Below.drew (by assumption)) | (with_reducible exact Go.Proofs.Ytkaikbaagajckaa.cellR_drew (by assumption)) | (with_reducible exact Go.Proofs.Ytkaikbaagajckaa.ltR_drew (by assumption)) | (with_reducible exact (Below.refl _ _).drew)))
        refine wpAnyH_take (i := 0) (v := ?_) (by simp only [List.getElem?_toArray, List.getElem?_cons_succ, List.getElem?_cons_zero] <;> rfl) (by kernel_rfl) (by kernel_rfl) (by kernel_rfl) (fun _ _ _ h => h) (Or.inl ⟨by rfl, ?_⟩) (by assumption) ?_
        rotate_left
        · (intro wq hSw; (try dsimp only at hSw); go_simp; try with_reducible rfl)
        try simp only [Act.put, List.setIfInBounds_toArray, List.set_cons_zero, List.set_cons_succ]
        refine wpAnyH_take (i := 1) (v := ?_) (by simp only [List.getElem?_toArray, List.getElem?_cons_succ, List.getElem?_cons_zero] <;> rfl) (by kernel_rfl) (by kernel_rfl) (by kernel_rfl) (fun _ _ _ h => h) (Or.inl ⟨by rfl, ?_⟩) (by assumption) ?_
        rotate_left
        · (intro wq hSw; (try dsimp only at hSw); go_simp; try with_reducible rfl)
        try simp only [Act.put, List.setIfInBounds_toArray, List.set_cons_zero, List.set_cons_succ]
        refine wpAnyH_take (i := 2) (v := ?_) (by simp only [List.getElem?_toArray, List.getElem?_cons_succ, List.getElem?_cons_zero] <;> rfl) (by kernel_rfl) (by kernel_rfl) (by kernel_rfl) (fun _ _ _ h => h) (Or.inl ⟨by rfl, ?_⟩) (by assumption) ?_
        rotate_left
        · (intro wq hSw; (try dsimp only at hSw); go_simp; try with_reducible rfl)
        try simp only [Act.put, List.setIfInBounds_toArray, List.set_cons_zero, List.set_cons_succ]
        refine wpAnyH_take (i := 3) (v := ?_) (by simp only [List.getElem?_toArray, List.getElem?_cons_succ, List.getElem?_cons_zero] <;> rfl) (by kernel_rfl) (by kernel_rfl) (by kernel_rfl) (fun _ _ _ h => h) (Or.inl ⟨by rfl, ?_⟩) (by assumption) ?_
        rotate_left
        · (intro wq hSw; (try dsimp only at hSw); go_simp; try with_reducible rfl)
        try simp only [Act.put, List.setIfInBounds_toArray, List.set_cons_zero, List.set_cons_succ]
        refine wpAnyH_take (i := 4) (v := ?_) (by simp only [List.getElem?_toArray, List.getElem?_cons_succ, List.getElem?_cons_zero] <;> rfl) (by kernel_rfl) (by kernel_rfl) (by kernel_rfl) (fun _ _ _ h => h) (Or.inl ⟨by rfl, ?_⟩) (by assumption) ?_
        rotate_left
        · (intro wq hSw; (try dsimp only at hSw); go_simp; try with_reducible rfl)
        try simp only [Act.put, List.setIfInBounds_toArray, List.set_cons_zero, List.set_cons_succ]
        refine wpAnyH_take (i := 5) (v := ?_) (by simp only [List.getElem?_toArray, List.getElem?_cons_succ, List.getElem?_cons_zero] <;> rfl) (by kernel_rfl) (by kernel_rfl) (by kernel_rfl) (fun _ _ _ h => h) (Or.inl ⟨by rfl, ?_⟩) (by assumption) ?_
        rotate_left
        · (intro wq hSw; (try dsimp only at hSw); go_simp; try with_reducible rfl)
        try simp only [Act.put, List.setIfInBounds_toArray, List.set_cons_zero, List.set_cons_succ]
        refine wpAnyH_take (i := 6) (v := ?_) (by simp only [List.getElem?_toArray, List.getElem?_cons_succ, List.getElem?_cons_zero] <;> rfl) (by kernel_rfl) (by kernel_rfl) (by kernel_rfl) (fun _ _ _ h => h) (Or.inl ⟨by rfl, ?_⟩) (by assumption) ?_
        rotate_left
        · (intro wq hSw; (try dsimp only at hSw); go_simp; try with_reducible rfl)
        try simp only [Act.put, List.setIfInBounds_toArray, List.set_cons_zero, List.set_cons_succ]
        refine wpAnyH_take (i := 7) (v := ?_) (by simp only [List.getElem?_toArray, List.getElem?_cons_succ, List.getElem?_cons_zero] <;> rfl) (by kernel_rfl) (by kernel_rfl) (by kernel_rfl) (fun _ _ _ h => h) (Or.inl ⟨by rfl, ?_⟩) (by assumption) ?_
        rotate_left
        · (intro wq hSw; (try dsimp only at hSw); go_simp; try with_reducible rfl)
        try simp only [Act.put, List.setIfInBounds_toArray, List.set_cons_zero, List.set_cons_succ]
        refine wpAnyH_take (i := 8) (v := ?_) (by simp only [List.getElem?_toArray, List.getElem?_cons_succ, List.getElem?_cons_zero] <;> rfl) (by kernel_rfl) (by kernel_rfl) (by kernel_rfl) (fun _ _ _ h => h) (Or.inl ⟨by rfl, ?_⟩) (by assumption) ?_
        rotate_left
        · (intro wq hSw; (try dsimp only at hSw); go_simp; try with_reducible rfl)
        try simp only [Act.put, List.setIfInBounds_toArray, List.set_cons_zero, List.set_cons_succ]
        refine wpAnyH_ready (rs := [9]) (by kernel_rfl) (by simp) ?_
        refine AllReadyH.cons rfl (fun K hK => ?_) AllReadyH.nil
        go_simp
        (go_at_call 72; refine Calls.mono (spec_l22Branch (HI.out.keep (below_callS HBA.out (by first | assumption | (go_split_ands; assumption)))) hlw HRK.out) ?_; rintro e wx2 ⟨rfl, hbx⟩; rw [HCH.out, if_pos rfl]; obtain ⟨hcx, hfx⟩ := bcell hbx; have hsx := hbx.size)
        go_wp2_with fail
        refine hK.out _ _ ?_ (fun hHeld => ?_)
        · (try dsimp only); (((try go_split_ands); (repeat' apply And.intro) <;> first | (with_reducible assumption) | (with_reducible exact (hcx _ _ (by assumption)).trans (by assumption)) | (with_reducible exact Nat.lt_of_lt_of_le (by assumption) hsx) | (with_reducible exact below_callS (by assumption) hbx) | (with_reducible exact Below.drew (by assumption)) | (with_reducible exact Go.Proofs.Ytkaikbaagajckaa.cellR_drew (by assumption)) | (with_reducible exact Go.Proofs.Ytkaikbaagajckaa.ltR_drew (by assumption)) | (with_reducible exact (Below.refl _ _).drew)))
        clear hK K
        try simp only [Act.put, List.setIfInBounds_toArray, List.set_cons_zero, List.set_cons_succ]
        refine wpAnyH_take (i := 10) (v := ?_) (by simp only [List.getElem?_toArray, List.getElem?_cons_succ, List.getElem?_cons_zero] <;> rfl) (by kernel_rfl) (by kernel_rfl) (by kernel_rfl) (fun _ _ _ h => h) (Or.inl ⟨by rfl, ?_⟩) (by assumption) ?_
        rotate_left
        · (intro wq hSw; (try dsimp only at hSw); go_simp; try with_reducible rfl)
        try simp only [Act.put, List.setIfInBounds_toArray, List.set_cons_zero, List.set_cons_succ]
        refine wpAnyH_done (by kernel_rfl) ?_ _
        refine NoPanic.normal ?_
        have hbE : Below wA.heap.size wA wx2 := hHeld.2.2.2.2.2.2.2.2
        have XE := Lib.hid (XA.out.keep hbE)
        have HBE := Lib.hid (below_callS HBA.out hbE)
        clear hHeld
        go_wp2_with fail
        go_roundw
        case rel => exact ⟨x.b, rfl, F1.out, HBE, XE, Lib.hid (by rw [← A.out, HN.out]; rfl)⟩
        case measure => simp [intOf]; omega
      · go_wp2_with fail
        rw [← hwA]
        clear hwA hvc c0 c1 c2 y1 yl hb1 hb2
        refine wp_region_noPanic ?_
        refine wp_region_held_drew (S := (fun wx => wx.cell? ⟨w.heap.size, 0, none⟩ = some (.int .i64 inp) ∧ wx.cell? ⟨w.heap.size, 1, none⟩ = some (.slice (some ⟨b1, o1, none⟩) L.length c) ∧ wx.cell? ⟨w.heap.size, 2, none⟩ = some (.int .i64 root) ∧ wx.cell? ⟨wr.heap.size, 0, none⟩ = some (.int .i64 (i : Int)) ∧ wx.cell? ⟨b2, o2 + i, none⟩ = some (.int .i64 1) ∧ w.heap.size < wx.heap.size ∧ wr.heap.size < wx.heap.size ∧ b2 < wx.heap.size ∧ Below wA.heap.size wA wx)) (by kernel_rfl) ?_ (fun hHeld => ?_)
        · (try dsimp only); (((try go_split_ands); (repeat' apply And.intro) <;> first | (with_reducible assumption) | (with_reducible exact (hcx _ _ (by assumption)).trans (by assumption)) | (with_reducible exact Nat.lt_of_lt_of_le (by assumption) hsx) | (with_reducible exact below_callS (by assumption) hbx) | (with_reducible exact Below.drew (by assumption)) | (with_reducible exact Go.Proofs.Ytkaikbaagajckaa.cellR_drew (by assumption)) | (with_reducible exact Go.Proofs.Ytkaikbaagajckaa.ltR_drew (by assumption)) | (with_reducible exact (Below.refl _ _).drew)))
        refine wpAnyH_take (i := 0) (v := ?_) (by simp only [List.getElem?_toArray, List.getElem?_cons_succ, List.getElem?_cons_zero] <;> rfl) (by kernel_rfl) (by kernel_rfl) (by kernel_rfl) (fun _ _ _ h => h) (Or.inl ⟨by rfl, ?_⟩) (by assumption) ?_
        rotate_left
        · (intro wq hSw; (try dsimp only at hSw); go_simp; try with_reducible rfl)
        try simp only [Act.put, List.setIfInBounds_toArray, List.set_cons_zero, List.set_cons_succ]
        refine wpAnyH_take (i := 1) (v := ?_) (by simp only [List.getElem?_toArray, List.getElem?_cons_succ, List.getElem?_cons_zero] <;> rfl) (by kernel_rfl) (by kernel_rfl) (by kernel_rfl) (fun _ _ _ h => h) (Or.inl ⟨by rfl, ?_⟩) (by assumption) ?_
        rotate_left
        · (intro wq hSw; (try dsimp only at hSw); go_simp; try with_reducible rfl)
        try simp only [Act.put, List.setIfInBounds_toArray, List.set_cons_zero, List.set_cons_succ]
        refine wpAnyH_take (i := 2) (v := ?_) (by simp only [List.getElem?_toArray, List.getElem?_cons_succ, List.getElem?_cons_zero] <;> rfl) (by kernel_rfl) (by kernel_rfl) (by kernel_rfl) (fun _ _ _ h => h) (Or.inl ⟨by rfl, ?_⟩) (by assumption) ?_
        rotate_left
        · (intro wq hSw; (try dsimp only at hSw); go_simp; try with_reducible rfl)
        try simp only [Act.put, List.setIfInBounds_toArray, List.set_cons_zero, List.set_cons_succ]
        refine wpAnyH_take (i := 3) (v := ?_) (by simp only [List.getElem?_toArray, List.getElem?_cons_succ, List.getElem?_cons_zero] <;> rfl) (by kernel_rfl) (by kernel_rfl) (by kernel_rfl) (fun _ _ _ h => h) (Or.inl ⟨by rfl, ?_⟩) (by assumption) ?_
        rotate_left
        · (intro wq hSw; (try dsimp only at hSw); go_simp; try with_reducible rfl)
        try simp only [Act.put, List.setIfInBounds_toArray, List.set_cons_zero, List.set_cons_succ]
        refine wpAnyH_take (i := 4) (v := ?_) (by simp only [List.getElem?_toArray, List.getElem?_cons_succ, List.getElem?_cons_zero] <;> rfl) (by kernel_rfl) (by kernel_rfl) (by kernel_rfl) (fun _ _ _ h => h) (Or.inl ⟨by rfl, ?_⟩) (by assumption) ?_
        rotate_left
        · (intro wq hSw; (try dsimp only at hSw); go_simp; try with_reducible rfl)
        try simp only [Act.put, List.setIfInBounds_toArray, List.set_cons_zero, List.set_cons_succ]
        refine wpAnyH_take (i := 5) (v := ?_) (by simp only [List.getElem?_toArray, List.getElem?_cons_succ, List.getElem?_cons_zero] <;> rfl) (by kernel_rfl) (by kernel_rfl) (by kernel_rfl) (fun _ _ _ h => h) (Or.inl ⟨by rfl, ?_⟩) (by assumption) ?_
        rotate_left
        · (intro wq hSw; (try dsimp only at hSw); go_simp; try with_reducible rfl)
        try simp only [Act.put, List.setIfInBounds_toArray, List.set_cons_zero, List.set_cons_succ]
        refine wpAnyH_take (i := 6) (v := ?_) (by simp only [List.getElem?_toArray, List.getElem?_cons_succ, List.getElem?_cons_zero] <;> rfl) (by kernel_rfl) (by kernel_rfl) (by kernel_rfl) (fun _ _ _ h => h) (Or.inl ⟨by rfl, ?_⟩) (by assumption) ?_
        rotate_left
        · (intro wq hSw; (try dsimp only at hSw); go_simp; try with_reducible rfl)
        try simp only [Act.put, List.setIfInBounds_toArray, List.set_cons_zero, List.set_cons_succ]
        refine wpAnyH_take (i := 7) (v := ?_) (by simp only [List.getElem?_toArray, List.getElem?_cons_succ, List.getElem?_cons_zero] <;> rfl) (by kernel_rfl) (by kernel_rfl) (by kernel_rfl) (fun _ _ _ h => h) (Or.inl ⟨by rfl, ?_⟩) (by assumption) ?_
        rotate_left
        · (intro wq hSw; (try dsimp only at hSw); go_simp; try with_reducible rfl)
        try simp only [Act.put, List.setIfInBounds_toArray, List.set_cons_zero, List.set_cons_succ]
        refine wpAnyH_take (i := 8) (v := ?_) (by simp only [List.getElem?_toArray, List.getElem?_cons_succ, List.getElem?_cons_zero] <;> rfl) (by kernel_rfl) (by kernel_rfl) (by kernel_rfl) (fun _ _ _ h => h) (Or.inl ⟨by rfl, ?_⟩) (by assumption) ?_
        rotate_left
        · (intro wq hSw; (try dsimp only at hSw); go_simp; try with_reducible rfl)
        try simp only [Act.put, List.setIfInBounds_toArray, List.set_cons_zero, List.set_cons_succ]
        refine wpAnyH_ready (rs := [9]) (by kernel_rfl) (by simp) ?_
        refine AllReadyH.cons rfl (fun K hK => ?_) AllReadyH.nil
        go_simp
        (go_at_call 72; refine Calls.mono (spec_l22Branch (HI.out.keep (below_callS HBA.out (by first | assumption | (go_split_ands; assumption)))) hlw HRK.out) ?_; rintro e wx2 ⟨rfl, hbx⟩; rw [HCH.out, if_neg (by decide)]; obtain ⟨hcx, hfx⟩ := bcell hbx; have hsx := hbx.size)
        go_wp2_with fail
        refine hK.out _ _ ?_ (fun hHeld => ?_)
        · (try dsimp only); (((try go_split_ands); (repeat' apply And.intro) <;> first | (with_reducible assumption) | (with_reducible exact (hcx _ _ (by assumption)).trans (by assumption)) | (with_reducible exact Nat.lt_of_lt_of_le (by assumption) hsx) | (with_reducible exact below_callS (by assumption) hbx) | (with_reducible exact Below.drew (by assumption)) | (with_reducible exact Go.Proofs.Ytkaikbaagajckaa.cellR_drew (by assumption)) | (with_reducible exact Go.Proofs.Ytkaikbaagajckaa.ltR_drew (by assumption)) | (with_reducible exact (Below.refl _ _).drew)))
        clear hK K
        try simp only [Act.put, List.setIfInBounds_toArray, List.set_cons_zero, List.set_cons_succ]
        refine wpAnyH_take (i := 10) (v := ?_) (by simp only [List.getElem?_toArray, List.getElem?_cons_succ, List.getElem?_cons_zero] <;> rfl) (by kernel_rfl) (by kernel_rfl) (by kernel_rfl) (fun _ _ _ h => h) (Or.inl ⟨by rfl, ?_⟩) (by assumption) ?_
        rotate_left
        · (intro wq hSw; (try dsimp only at hSw); go_simp; try with_reducible rfl)
        try simp only [Act.put, List.setIfInBounds_toArray, List.set_cons_zero, List.set_cons_succ]
        refine wpAnyH_done (by kernel_rfl) ?_ _
        refine NoPanic.normal ?_
        have hbE : Below wA.heap.size wA wx2 := hHeld.2.2.2.2.2.2.2.2
        have XE := Lib.hid (XA.out.keep hbE)
        have HBE := Lib.hid (below_callS HBA.out hbE)
        clear hHeld
        go_wp2_with fail
        go_roundw
        case rel => exact ⟨x.c, rfl, F2.out, HBE, XE, Lib.hid (by rw [← A.out, HN.out]; rfl)⟩
        case measure => simp [intOf]; omega
end Go.Proofs.Ytkaikbaagajckaa
