/- The value of a diagram at a list of bits, the first list with the value 1: walked. -/
import Derived.Test.YtkaikbaagajckaaVt
import Derived.Test.YtkaikbaagajckaaVu
import Derived.Test.YtkaikbaagajckaaAb
import Derived.Test.YtkaikbaagajckaaVj
namespace Go.Proofs.Ytkaikbaagajckaa
open Go.RowKit
set_option linter.unusedVariables false
set_option linter.unusedSimpArgs false
/-- the value and the code -/
def valC (n : Int) (L : List I3) (root : Int) (bits : List Int) : Int × Int := if diaB n L root = false then (0, 1) else if areB bits n = false then (0, 2) else (valN L bits root, 0)
theorem valC_1 {n : Int} {L : List I3} {root : Int} {bits : List Int} (h : diaB n L root = false) : valC n L root bits = (0, 1) := if_pos h
theorem valC_2 {n : Int} {L : List I3} {root : Int} {bits : List Int} (h : diaB n L root = true) (h2 : areB bits n = false) : valC n L root bits = (0, 2) := by rw [valC, if_neg (by simp [h]), if_pos h2]
theorem valC_3 {n : Int} {L : List I3} {root : Int} {bits : List Int} (h : diaB n L root = true) (h2 : areB bits n = true) : valC n L root bits = (valN L bits root, 0) := by rw [valC, if_neg (by simp [h]), if_neg (by simp [h2])]
theorem areB_len {bs : List Int} {N : Int} (h : areB bs N = true) : (bs.length : Int) = N ∧ ∀ (i : Nat) (v : Int), bs[i]? = some v → v = 0 ∨ v = 1 := by
  rw [areB, Bool.and_eq_true, decide_eq_true_eq] at h
  refine ⟨h.1, fun i v hv => ?_⟩
  have h2 := h.2
  rw [allIn, List.all_eq_true] at h2
  have h3 := h2 v (List.mem_of_getElem? hv)
  simp [inB] at h3
  omega
set_option maxRecDepth 100000 in
set_option maxHeartbeats 2000000 in
theorem impl_ValueOf {a va : Option Addr} {n c vn vc : Nat} {L : List I3} {bits : List Int} {inp root : Int} {w : World} (hI : F3 w a n c L) (hV : Ints w va vn vc bits) (hi : I64 inp) (hr : I64 root) (hn : n ≤ maxLen) (hvn : vn ≤ 1048576) :
    Calls Try.prog 22 #[.agg #[.int .i64 inp, .slice a n c, .int .i64 root], .slice va vn vc] w fun e w' => e = .returned (.tuple #[.int .i64 (valC inp L root bits).1, .int .i64 (valC inp L root bits).2]) ∧ Below w.heap.size w w' := by
  have HI := Lib.hid hI
  have HV := Lib.hid hV
  obtain rfl : L.length = n := hI.len
  have hb0 : Below w.heap.size w (w.alloc (.cells #[.int .i64 inp, .slice a L.length c, .int .i64 root] 26)) := by repeat (first | exact Below.refl _ _ | assumption | refine below_allocS ?_ _ | refine below_callS ?_ (by assumption) | (refine Below.alloc ?_ (by first | omega | (simp; done) | (simp; omega)) _) | (refine Below.setCell ?_ (by first | omega | (simp; done) | (simp; omega)) _) | refine Below.drew ?_ | refine below_drewN ?_ _ | (refine below_call ?_ (by assumption) (by first | omega | (simp; done) | (simp; omega))) | (refine Below.trans ?_ (by assumption)))
  have X := Lib.hid (Blk.made w #[.int .i64 inp, .slice a L.length c, .int .i64 root] 26)
  have hcd := impl_IsDiagram (w := w.alloc (.cells #[.int .i64 inp, .slice a L.length c, .int .i64 root] 26)) (hI.keep hb0) hi hr hn
  clear hI hV
  cases hd : diaB inp L root
  · rw [hd] at hcd
    have HCD := Lib.hid hcd
    have HF := Lib.hid (valC_1 (bits := bits) hd)
    clear hcd hd
    go_enter Try.func22, Try.ntmps22
    go_wp2_with fail
    refine Calls.mono HCD.out ?_
    rintro e w1 ⟨rfl, hb1⟩
    go_wp2
    go_ret2
    exact ⟨by rw [HF.out]; rfl, below_callS hb0 hb1⟩
  rw [hd] at hcd
  have HCD := Lib.hid hcd
  have HD := Lib.hid hd
  clear hcd hd
  cases ha : areB bits inp
  · have hcf := fun (wx : World) (hb : Below w.heap.size w wx) => impl_areBits (N := inp) (HV.out.keep hb) hvn
    simp only [ha] at hcf
    have HCF := Lib.hid hcf
    have HF := Lib.hid (valC_2 HD.out ha)
    clear ha hcf
    go_enter Try.func22, Try.ntmps22
    go_wp2_with fail
    refine Calls.mono HCD.out ?_
    rintro e w1 ⟨rfl, hb1⟩
    have x0 := (X.out.keep hb1).cell 0
    have xl := (X.out.keep hb1).lt
    simp only [List.getElem?_toArray, List.getElem?_cons_zero] at x0
    have hb01 := below_callS hb0 hb1
    go_wp2_with fail
    refine Calls.mono (HCF.out _ hb01) ?_
    rintro e w2 ⟨rfl, hb2⟩
    go_wp2
    go_ret2
    exact ⟨by rw [HF.out]; rfl, below_callS hb01 hb2⟩
  have hcf := fun (wx : World) (hb : Below w.heap.size w wx) => impl_areBits (N := inp) (HV.out.keep hb) hvn
  simp only [ha] at hcf
  have HCF := Lib.hid hcf
  have HF := Lib.hid (valC_3 HD.out ha)
  obtain ⟨hbl, h01⟩ := areB_len ha
  have H01 := Lib.hid h01
  have hS := dia_snd HD.out
  obtain ⟨hR, hrr, h0, h20, hll, _, _⟩ := dia_redu HD.out
  have HS := Lib.hid hS
  have hvl : bits.length = vn := HV.out.len
  have hlen' : L.length ≤ 2000 := hll
  clear ha hcf h01 hS hR hi hr hn
  go_enter Try.func22, Try.ntmps22
  go_wp2_with fail
  refine Calls.mono HCD.out ?_
  rintro e w1 ⟨rfl, hb1⟩
  have X1 := Lib.hid (X.out.keep hb1)
  have hb01 := below_callS hb0 hb1
  have x0 := X1.out.cell 0
  have xl := X1.out.lt
  simp only [List.getElem?_toArray, List.getElem?_cons_zero] at x0
  clear hb1 X hb0
  go_wp2_with fail
  refine Calls.mono (HCF.out _ hb01) ?_
  rintro e w2 ⟨rfl, hb2⟩
  have X2 := Lib.hid (X1.out.keep hb2)
  have HB2 := Lib.hid (below_callS hb01 hb2)
  clear hb2 hb01 X1 x0 xl HCF HCD
  have x2 := X2.out.cell 2
  have xl := X2.out.lt
  simp only [List.getElem?_toArray, List.getElem?_cons_zero, List.getElem?_cons_succ] at x2
  go_wp2_with fail
  clear x2 xl
  go_loopw [6] (fun s6 wr => ∃ r : Int, s6 = .int .i64 r ∧ RefB r L.length ∧ Hid (Below w.heap.size w wr) ∧ Hid (Blk wr w.heap.size #[.int .i64 inp, .slice a L.length c, .int .i64 root] 26) ∧ Hid (valN L bits r = valN L bits root)) (fun s6 _ => (intOf s6).toNat)
  case atStart => exact ⟨root, rfl, hrr, HB2, X2, Lib.hid rfl⟩
  case round =>
    clear X2 HB2 hrr
    obtain ⟨r, rfl, hr, HB, X, A⟩ := hrel
    by_cases h2 : r < 2
    · have h2' : ¬ (2 : Int) ≤ r := by omega
      have HV2 := Lib.hid (show valN L bits root = r by rw [← A.out, val_low h2 hr.1])
      go_wp2
      go_ret2
      exact ⟨by rw [HF.out, HV2.out]; rfl, HB.out⟩
    · obtain ⟨k, rfl⟩ : ∃ k : Nat, r = (k : Int) + 2 := ⟨(r - 2).toNat, by omega⟩
      have hkn : k < L.length := by have := hr.2; omega
      have h2' : (2 : Int) ≤ (k : Int) + 2 := by omega
      have hk0 : (0 : Int) ≤ (k : Int) := by omega
      have hkn' : (k : Int) < (L.length : Int) := by omega
      have i1 : IntKind.i64.wrap ((k : Int) + 2 - 2) = (k : Int) := by rw [IntWalk.i64_in _ (by omega)]; omega
      obtain ⟨b1, o1, x, rfl, hb1, hx, hwf, c0, c1, c2⟩ := F3.get (HI.out.keep HB.out) hkn
      obtain ⟨q1, q2, q3, q4⟩ := HS.out.ord _ _ hx
      have f1 := HS.out.redu.frst.low _ _ hx
      have f2 := HS.out.redu.frst.high _ _ hx
      obtain ⟨i, hxi⟩ : ∃ i : Nat, x.a = (i : Int) := ⟨x.a.toNat, by omega⟩
      have hin : i < vn := by omega
      have hi0 : (0 : Int) ≤ (i : Int) := by omega
      have hin' : (i : Int) < (vn : Int) := by omega
      obtain ⟨b2, o2, v, rfl, hb2, hv, hvc, hvw⟩ := (HV.out.keep HB.out).at hin
      have hn1 := val_node HS.out.redu.frst hx (v := v) (by rw [hxi]; simpa using hv) (H01.out _ _ hv)
      have HN := Lib.hid hn1
      have hv01 := H01.out _ _ hv
      have y1 := X.out.cell 1
      have yl := X.out.lt
      simp only [List.getElem?_toArray, List.getElem?_cons_zero, List.getElem?_cons_succ] at y1
      have f1' := f1.2
      have f2' := f2.2
      have F1 := Lib.hid (f1.mono (Nat.le_of_lt hkn))
      have F2 := Lib.hid (f2.mono (Nat.le_of_lt hkn))
      have hbA : Below wr.heap.size wr (wr.alloc (.cells #[.int .i64 x.a, .int .i64 x.b, .int .i64 x.c] 76)) := below_alloc1 (Below.refl _ _) _
      have XA := Lib.hid (X.out.keep hbA)
      have HBA := Lib.hid (below_callS HB.out hbA)
      rw [hxi] at XA HBA
      clear hx hv q1 q2 q3 q4 f1 f2 hn1 hwf hbA hvw
      rcases hv01 with rfl | rfl
      · go_wp2
        go_roundw
        case rel => exact ⟨x.b, rfl, F1.out, HBA, XA, Lib.hid (by rw [← A.out, HN.out]; rfl)⟩
        case measure => simp [intOf]; omega
      · go_wp2
        go_roundw
        case rel => exact ⟨x.c, rfl, F2.out, HBA, XA, Lib.hid (by rw [← A.out, HN.out]; rfl)⟩
        case measure => simp [intOf]; omega
end Go.Proofs.Ytkaikbaagajckaa
