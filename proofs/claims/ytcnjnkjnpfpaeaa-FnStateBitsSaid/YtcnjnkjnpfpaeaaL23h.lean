/- StateOfBits: values of bits, walked. -/
import Derived.Test.YtcnjnkjnpfpaeaaL23g
import Derived.Test.YtcnjnkjnpfpaeaaAp
import Derived.Test.YtcnjnkjnpfpaeaaAb
namespace Go.Proofs.Ytcnjnkjnpfpaeaa
open Go.RowKit
set_option linter.unusedVariables false
set_option linter.unusedSimpArgs false
def valOf (l : List Int) : Int := l.foldl (fun a b => 2 * a + b) 0
theorem valOf_step {l : List Int} {k : Nat} {x : Int} (h : l[k]? = some x) : valOf (l.take (k + 1)) = 2 * valOf (l.take k) + x := by
  rw [valOf, take_at h, List.foldl_append]; rfl
theorem valOf_in {l : List Int} (h : allIn 0 1 l = true) (k : Nat) (hk : k ≤ 5) : 0 ≤ valOf (l.take k) ∧ valOf (l.take k) ≤ 2 ^ k - 1 := by
  induction k with
  | zero => simp [valOf]
  | succ k ih =>
    have h1 := ih (by omega)
    cases hx : l[k]? with
    | none =>
      rw [List.take_of_length_le (by have := List.getElem?_eq_none_iff.1 hx; omega)]
      rw [List.take_of_length_le (by have := List.getElem?_eq_none_iff.1 hx; omega)] at h1
      have : (2 : Int) ^ (k + 1) = 2 * 2 ^ k := by rw [Int.pow_succ, Int.mul_comm]
      omega
    | some x =>
      have h2 := allIn_at h hx
      rw [valOf_step hx]
      have : (2 : Int) ^ (k + 1) = 2 * 2 ^ k := by rw [Int.pow_succ, Int.mul_comm]
      omega
theorem valOf_31 {l : List Int} (h : allIn 0 1 l = true) {k : Nat} (hk : k ≤ 5) : 0 ≤ valOf (l.take k) ∧ valOf (l.take k) ≤ 31 := by
  have h1 := valOf_in h k hk
  have h2 : (2 : Int) ^ k ≤ 32 := by
    rcases (show k = 0 ∨ k = 1 ∨ k = 2 ∨ k = 3 ∨ k = 4 ∨ k = 5 by omega) with rfl | rfl | rfl | rfl | rfl | rfl <;> decide
  omega
theorem allIn_part {lo hi : Int} {l : List Int} (h : allIn lo hi l = true) (a b : Nat) : allIn lo hi ((l.drop a).take b) = true := by
  rw [allIn, List.all_eq_true] at *
  exact fun x hx => h x (List.mem_of_mem_drop (List.mem_of_mem_take hx))
def offN (sz : List Int) (k : Nat) : Nat := ((sz.take k).map fun z => (wN z).toNat).sum
theorem offN_step {sz : List Int} {k : Nat} {z : Int} (h : sz[k]? = some z) : offN sz (k + 1) = offN sz k + (wN z).toNat := by
  rw [offN, take_at h, List.map_append, List.sum_append]; simp [offN]
theorem offN_le {sz : List Int} {k : Nat} (h : k ≤ sz.length) : offN sz k ≤ offN sz sz.length := by
  have : offN sz sz.length = offN sz k + ((sz.drop k).map fun z => (wN z).toNat).sum := by
    rw [offN, offN, List.take_length, ← List.sum_append, ← List.map_append, List.take_append_drop]
  omega
theorem offN_full {sz : List Int} (h : allIn 1 32 sz = true) : (offN sz sz.length : Int) = (sz.map wN).sum := by
  rw [offN, List.take_length]
  induction sz with
  | nil => rfl
  | cons z r ih =>
    rw [allIn, List.all_cons, Bool.and_eq_true] at h
    have h1 := ih (by rw [allIn]; exact h.2)
    have h2 := h.1
    simp [inB] at h2
    have h3 := wN_in h2.1 h2.2
    simp only [List.map_cons, List.sum_cons]
    omega
/-- the values of bits -/
def stV (sz bits : List Int) : List Int := (List.range sz.length).map fun k : Nat => valOf ((bits.drop (offN sz k)).take (wN (sz.getD k 0)).toNat)
theorem stV_at {sz bits : List Int} {k : Nat} {z : Int} (h : sz[k]? = some z) : (stV sz bits)[k]? = some (valOf ((bits.drop (offN sz k)).take (wN z).toNat)) := by
  rw [stV, range_get (List.getElem?_eq_some_iff.1 h).1, getD_of h]
set_option maxHeartbeats 2000000 in
theorem impl_valuesOf {sa ta ra va : Option Addr} {sn sc tn tc rn rc vn vc : Nat} {sz bs : List Int} {w : World} (hI : Ints w sa sn sc sz) (hV : Ints w va vn vc bs) (hn : sn ≤ 16) (hs : allIn 1 32 sz = true) (hb : allIn 0 1 bs = true) (hl : vn = offN sz sn) :
    Calls Try.prog 31 #[.agg #[.slice sa sn sc, .slice ta tn tc, .slice ra rn rc], .slice va vn vc] w fun e w' => ∃ a c, e = .returned (.slice a sn c) ∧ Below w.heap.size w w' ∧ OwnI 2 w' w.heap.size a sn c (stV sz bs) := by
  have HW := Lib.hid (fun (wx : World) (hb : Below w.heap.size w wx) => impl_widths (ta := ta) (tn := tn) (tc := tc) (ra := ra) (rn := rn) (rc := rc) (hI.keep hb) (by omega) hs)
  have HI := Lib.hid hI
  have HV := Lib.hid hV
  have HS := Lib.hid hs
  have HB := Lib.hid hb
  have HL := Lib.hid hl
  clear hI hs hV hb hl
  go_enter Try.func31, Try.ntmps31
  go_wp2_with fail
  refine Calls.mono (HW.out _ bel) ?_
  rintro e w1 ⟨aw, cw, rfl, hb1, ho⟩
  have hbl1 : Below w.heap.size w w1 := bel
  have HWI := Lib.hid ho.ints
  clear ho hb1
  go_wp2_with fail
  have hv0 := (HV.out.keep hbl1)
  have A0 := Lib.hid (show Ints w1 va vn vc (bs.drop (offN sz 0)) by simpa [offN] using hv0)
  clear hv0
  go_loopw [1, 7, 9, 10, 12, 20] (fun s1 s7 _ _ _ s20 wr => ∃ (k m : Nat) (aa : Option Addr) (cc : Nat) (a1 : Option Addr) (c1 : Nat), k ≤ sn ∧ s1 = .slice aa m cc ∧ s7 = .slice a1 k c1 ∧ s20 = .int .i64 k ∧ Below w1.heap.size w1 wr ∧ Hid (m + offN sz k = vn) ∧ Hid (Ints w1 aa m cc (bs.drop (offN sz k))) ∧ Hid (OwnI 2 wr w1.heap.size a1 k c1 ((stV sz bs).take k))) (fun _ _ _ _ _ s20 _ => sn - (intOf s20).toNat)
  case atStart => exact ⟨0, vn, va, vc, none, 0, Nat.zero_le _, rfl, rfl, rfl, Below.refl _ _, Lib.hid (by simp [offN]), A0, Lib.hid (OwnI.nil _ _ _)⟩
  case round =>
    clear A0
    obtain ⟨k, m, aa, cc, a1, c1, hk, rfl, rfl, rfl, hbw, HM, A, HO⟩ := hrel
    have hbl : Below w.heap.size w wr := below_call hbl1 hbw hbl1.size
    have hsz := hbw.size
    by_cases hlt : k < sn
    · have hlt' : (k : Int) < (sn : Int) := by omega
      have hk0 : (0 : Int) ≤ (k : Int) := by omega
      obtain ⟨z, hz⟩ : ∃ z, sz[k]? = some z := ⟨_, List.getElem?_eq_getElem (show k < sz.length by rw [HI.out.len]; exact hlt)⟩
      have hz2 := allIn_at HS.out hz
      have hw2 := wN_in hz2.1 hz2.2
      obtain ⟨W, hW⟩ : ∃ W : Nat, wN z = (W : Int) := ⟨(wN z).toNat, by omega⟩
      obtain ⟨b', off', y, rfl, hb', hy, hcell', _⟩ := (HWI.out.keep hbw).at hlt
      obtain rfl : y = (W : Int) := by rw [List.getElem?_map, hz] at hy; simp at hy; omega
      have hst := offN_step hz
      have hsv := stV_at (bits := bs) hz
      rw [hW, Int.toNat_natCast] at hst hsv
      have hle := offN_le (sz := sz) (k := k + 1) (by rw [HI.out.len]; omega)
      have hm9 := HM.out
      have hl9 := HL.out
      rw [HI.out.len] at hle
      have hWm : W ≤ m := by omega
      have hWm' : (W : Int) ≤ (m : Int) := by omega
      have hW5 : W ≤ 5 := by omega
      have hmc := A.out.cap
      have hWc : (W : Int) ≤ (cc : Int) := by omega
      have HST := Lib.hid hst
      have HSV := Lib.hid hsv
      have P1 := Lib.hid (A.out.take hWm)
      have HP := Lib.hid (allIn_part HB.out (offN sz k) W)
      have P2 := Lib.hid (A.out.part (lo := W) (hi := m) hWm (Nat.le_refl _))
      clear hz hy hz2 hw2 hW hst hsv hle hm9 hl9
      go_wp2_with fail
      go_loop [10, 12, 28] (fun s10 _ s28 => ∃ (i : Nat) (v : Int), i ≤ W ∧ s28 = .int .i64 i ∧ s10 = .int .i64 v ∧ 0 ≤ v ∧ v ≤ 31 ∧ Hid (v = valOf (((bs.drop (offN sz k)).take W).take i))) (fun _ _ s28 => W - (intOf s28).toNat)
      case atStart => exact ⟨0, 0, Nat.zero_le _, rfl, rfl, by omega, by omega, Lib.hid (by simp [valOf])⟩
      case round =>
        obtain ⟨i, v, hi, rfl, rfl, hv0, hv1, HVv⟩ := hrel
        by_cases hlti : i < W
        · have hlti' : (i : Int) < (W : Int) := by omega
          have hi0 : (0 : Int) ≤ (i : Int) := by omega
          obtain ⟨b, off, x, rfl, hb, hx, hcell, hwf⟩ := (P1.out.keep hbw).at hlti
          have hx2 := allIn_at HP.out hx
          have hx0 := hx2.1
          have hx1 := hx2.2
          have Hn := Lib.hid (valOf_step hx)
          have Hn3 := Lib.hid (valOf_31 HP.out (show i + 1 ≤ 5 by omega))
          clear hx hx2
          go_wp2
          go_round
          case rel => exact ⟨i + 1, 2 * v + x, by omega, by go_num, rfl, by omega, by have h1 := Hn.out; have h2 := Hn3.out; rw [← HVv.out] at h1; omega, Lib.hid (by rw [Hn.out, HVv.out])⟩
          case measure => simp [intOf]; omega
        · obtain rfl : i = W := by omega
          have hlti' : ¬ (i : Int) < (i : Int) := by omega
          have hv9 := HVv.out
          rw [List.take_take, Nat.min_self] at hv9
          have HV9 := Lib.hid hv9
          clear hv9
          go_wp2_with (at_builtin; refine append1_i64 rfl _ _ 24 2 rfl Try.underlying24 Try.infoi64 w1.heap.size _ _ _ _ (HO.out.keep ((Below.refl _ _).alloc (Nat.le_refl _) (.cells #[.int .i64 v] 2))) rfl wr.heap.size v rfl (by simp) (by unfold I64; omega) (by omega) (by simp; omega) ?_; intro a3 c3 w3 hown3 hb3 hg3)
          have Hown3 := Lib.hid hown3
          clear hown3 hg3
          go_roundw
          case rel =>
            refine ⟨k + 1, m - i, _, cc - i, a3, c3, by omega, rfl, rfl, by go_num, Below.trans bel hb3, ?_, ?_, ?_⟩
            · refine Lib.hid ?_
              have h1 := HM.out
              rw [HST.out]; omega
            · refine Lib.hid ?_
              have h1 := P2.out
              have h2 := HM.out
              have h3 := HV.out.len
              rw [List.drop_drop, List.take_of_length_le (by rw [List.length_drop]; omega), ← HST.out] at h1
              exact h1
            · refine Lib.hid ?_
              rw [take_at HSV.out, ← HV9.out]
              exact Hown3.out
          case measure => simp [intOf]; omega
    · obtain rfl : sn = k := by omega
      have hlt' : ¬ (sn : Int) < (sn : Int) := by omega
      have h1 := HO.out
      rw [List.take_of_length_le (by simp [stV]; rw [HI.out.len]; exact Nat.le_refl _)] at h1
      have HO2 := Lib.hid h1
      clear h1
      go_wp2
      go_ret
      exact ⟨_, _, rfl, hbl, HO2.out.le hbl1.size⟩
end Go.Proofs.Ytcnjnkjnpfpaeaa
