/- Bits of states: what they are, and the program's small models and codes, walked. -/
import Derived.Test.YtcnjnkjnpfpaeaaL23d
namespace Go.Proofs.Ytcnjnkjnpfpaeaa
open Go.RowKit
set_option linter.unusedVariables false
set_option linter.unusedSimpArgs false
/-- the bit of x at the place m -/
def bitAt (x : Int) (m : Nat) : Int := bits BinOp.and IntKind.i64 (x / 2 ^ m) 1
theorem bitAt_in {x : Int} {m : Nat} (h0 : 0 ≤ x) (h1 : x ≤ 31) (hm : m ≤ 4) : bitAt x m = 0 ∨ bitAt x m = 1 := by
  have h : ∀ a : Fin 32, ∀ b : Fin 5, bitAt (a.val : Int) b.val = 0 ∨ bitAt (a.val : Int) b.val = 1 := by decide +kernel
  have := h ⟨x.toNat, by omega⟩ ⟨m, by omega⟩
  simp only at this
  rw [Int.toNat_of_nonneg h0] at this
  exact this
/-- the bits of x from the place k - 1 down -/
def bitsDn (x : Int) (k : Nat) : List Int := (List.range k).map fun i : Nat => bitAt x (k - 1 - i)
theorem bitsDn_len (x : Int) (k : Nat) : (bitsDn x k).length = k := by simp [bitsDn]
theorem bitsDn_get {x : Int} {k i : Nat} (h : i < k) : (bitsDn x k)[i]? = some (bitAt x (k - 1 - i)) := range_get h
/-- the bits of a state -/
def stBits (sz vs : List Int) : List Int := (vs.zip sz).flatMap fun p => bitsDn p.1 (wN p.2).toNat
theorem stBits_step {sz vs : List Int} {k : Nat} {x z : Int} (hx : vs[k]? = some x) (hz : sz[k]? = some z) : stBits (sz.take (k + 1)) (vs.take (k + 1)) = stBits (sz.take k) (vs.take k) ++ bitsDn x (wN z).toNat := by
  have h : (vs.zip sz)[k]? = some (x, z) := by rw [List.getElem?_zip_eq_some]; exact ⟨hx, hz⟩
  have e : ∀ m, (vs.take m).zip (sz.take m) = (vs.zip sz).take m := fun m => (List.take_zipWith (f := Prod.mk) (l := vs) (l' := sz)).symm
  rw [stBits, stBits, e, e, take_at h, List.flatMap_append]
  simp
theorem stBits_full {sz vs : List Int} {n : Nat} (h : sz.length = n) (h' : vs.length = n) : stBits (sz.take n) (vs.take n) = stBits sz vs := by rw [take_len h, take_len h']
theorem stateB_at {sz vs : List Int} {k : Nat} {x z : Int} (h : stateB sz vs = true) (hx : vs[k]? = some x) (hz : sz[k]? = some z) : 0 ≤ x ∧ x ≤ z - 1 := by
  rw [stateB, Bool.and_eq_true] at h
  have h2 := h.2
  rw [upB, List.all_eq_true] at h2
  have h3 := h2 k (by simpa using (List.getElem?_eq_some_iff.1 hx).1)
  rw [getD_of hx, hasB_yes hz] at h3
  simpa [inB] using h3
theorem stateB_len {sz vs : List Int} (h : stateB sz vs = true) : vs.length = sz.length := by
  rw [stateB, Bool.and_eq_true] at h
  exact of_decide_eq_true h.1
theorem modelB_len {sz st : List Int} {l : List (RM × RuD)} (h : modelB sz st l = true) : sz.length ≤ 16 := by
  rw [modelB] at h
  simp only [Bool.and_eq_true] at h
  have := h.1
  simp [inB] at this
  omega
def smB (sz : List Int) : Bool := decide ((sz.map wN).sum ≤ 20)
def bsC (sz st : List Int) (l : List (RM × RuD)) (vs : List Int) : Int := if modelB sz st l = false then 1 else if stateB sz vs = false then 2 else if smB sz = false then 3 else 0
set_option maxHeartbeats 1000000 in
theorem impl_isSmall {sa ta ra : Option Addr} {sn sc tn tc rn rc : Nat} {sz : List Int} {w : World} (hI : Ints w sa sn sc sz) (hn : sn ≤ 1048576) (hs : allIn 1 32 sz = true) :
    Calls Try.prog 20 #[.agg #[.slice sa sn sc, .slice ta tn tc, .slice ra rn rc]] w fun e w' => e = .returned (.bool (smB sz)) ∧ Below w.heap.size w w' := by
  have HW := Lib.hid (fun (wx : World) (hb : Below w.heap.size w wx) => impl_widths (ta := ta) (tn := tn) (tc := tc) (ra := ra) (rn := rn) (rc := rc) (hI.keep hb) hn hs)
  have HB := Lib.hid (show smB sz = decide ((sz.map wN).sum ≤ 20) from rfl)
  clear hI hs
  generalize (sz.map wN).sum = S at *
  go_enter Try.func20, Try.ntmps20
  go_wp2_with fail
  refine Calls.mono (HW.out _ bel) ?_
  rintro e w1 ⟨a, c, rfl, hb1, ho⟩
  clear ho
  go_wp2
  go_ret
  exact ⟨ret_bool (by rw [HB.out]), bel⟩
set_option maxHeartbeats 2000000 in
theorem impl_bitsOf {sa ta ra va : Option Addr} {sn sc tn tc rn rc vn vc : Nat} {sz vs : List Int} {w : World} (hI : Ints w sa sn sc sz) (hV : Ints w va vn vc vs) (hn : sn ≤ 16) (hs : allIn 1 32 sz = true) (hst : stateB sz vs = true) :
    Calls Try.prog 21 #[.agg #[.slice sa sn sc, .slice ta tn tc, .slice ra rn rc], .slice va vn vc] w fun e w' => ∃ m a c, e = .returned (.slice a m c) ∧ Below w.heap.size w w' ∧ OwnI 2 w' w.heap.size a m c (stBits sz vs) ∧ m ≤ 80 := by
  obtain rfl : vn = sn := by have := hI.len; have := hV.len; have := stateB_len hst; omega
  have HW := Lib.hid (fun (wx : World) (hb : Below w.heap.size w wx) => impl_widths (ta := ta) (tn := tn) (tc := tc) (ra := ra) (rn := rn) (rc := rc) (hI.keep hb) (by omega) hs)
  have HI := Lib.hid hI
  have HV := Lib.hid hV
  have HS := Lib.hid hs
  have HST := Lib.hid hst
  clear hI hs hV hst
  go_enter Try.func21, Try.ntmps21
  go_wp2_with fail
  refine Calls.mono (HW.out _ bel) ?_
  rintro e w1 ⟨aw, cw, rfl, hb1, ho⟩
  have hbl1 : Below w.heap.size w w1 := bel
  have HWI := Lib.hid ho.ints
  clear ho hb1
  go_wp2_with fail
  go_loopw [7, 8, 9, 10, 18] (fun s7 _ _ _ s18 wr => ∃ (k m1 : Nat) (a1 : Option Addr) (c1 : Nat), k ≤ vn ∧ s7 = .slice a1 m1 c1 ∧ s18 = .int .i64 k ∧ Below w1.heap.size w1 wr ∧ m1 ≤ 5 * k ∧ Hid (OwnI 2 wr w1.heap.size a1 m1 c1 (stBits (sz.take k) (vs.take k)))) (fun _ _ _ _ s18 _ => vn - (intOf s18).toNat)
  case atStart => exact ⟨0, 0, none, 0, Nat.zero_le _, rfl, rfl, Below.refl _ _, by omega, Lib.hid (OwnI.nil _ _ _)⟩
  case round =>
    obtain ⟨k, m1, a1, c1, hk, rfl, rfl, hbw, hm1, HO⟩ := hrel
    have hbl : Below w.heap.size w wr := below_call hbl1 hbw hbl1.size
    have hsz := hbw.size
    by_cases hlt : k < vn
    · have hlt' : (k : Int) < (vn : Int) := by omega
      have hk0 : (0 : Int) ≤ (k : Int) := by omega
      obtain ⟨b, off, x, rfl, hb, hx, hcell, hwf⟩ := (HV.out.keep hbl).at hlt
      obtain ⟨z, hz⟩ : ∃ z, sz[k]? = some z := ⟨_, List.getElem?_eq_getElem (show k < sz.length by rw [HI.out.len]; exact hlt)⟩
      have hz2 := allIn_at HS.out hz
      have hx2 := stateB_at HST.out hx hz
      have hw2 := wN_cases hz2.1 hz2.2
      obtain ⟨W, hW⟩ : ∃ W : Nat, wN z = (W : Int) := ⟨(wN z).toNat, by omega⟩
      obtain ⟨b', off', y, rfl, hb', hy, hcell', _⟩ := (HWI.out.keep hbw).at hlt
      obtain rfl : y = (W : Int) := by rw [List.getElem?_map, hz] at hy; simp at hy; omega
      have HX := Lib.hid (stBits_step hx hz)
      rw [hW, Int.toNat_natCast] at HX
      have HB := Lib.hid (show ∀ j, j ≤ 4 → bitAt x j = 0 ∨ bitAt x j = 1 from fun j hj => bitAt_in hx2.1 (by omega) hj)
      have hW5 : W ≤ 5 := by omega
      have e1 : IntKind.i64.wrap ((W : Int) - 1) = (W : Int) - 1 := IntWalk.i64_in _ (by omega)
      clear hx hz hy hz2 hx2 hw2 hW
      go_wp2_with fail
      go_loopw [7, 10] (fun s7 s10 wq => ∃ (i m2 : Nat) (a2 : Option Addr) (c2 : Nat) (bt : Int), i ≤ W ∧ s10 = .int .i64 bt ∧ bt = (W : Int) - 1 - i ∧ s7 = .slice a2 m2 c2 ∧ Below w1.heap.size w1 wq ∧ m2 ≤ 5 * k + i ∧ Hid (OwnI 2 wq w1.heap.size a2 m2 c2 (stBits (sz.take k) (vs.take k) ++ (bitsDn x W).take i))) (fun _ s10 _ => (intOf s10 + 1).toNat)
      case atStart => exact ⟨0, m1, a1, c1, _, Nat.zero_le _, rfl, by omega, rfl, hbw, by omega, by simpa using HO⟩
      case round =>
        clear HO hcell hcell' hbl hbw hsz
        obtain ⟨i, m2, a2, c2, bt, hi, rfl, hbt, rfl, hbw, hm2, HO⟩ := hrel
        have hbl : Below w.heap.size w wr := below_call hbl1 hbw hbl1.size
        have hsz := hbw.size
        by_cases hlti : i < W
        · obtain ⟨j, hj⟩ : ∃ j : Nat, bt = (j : Int) := ⟨bt.toNat, by omega⟩
          subst hj
          have hj2 : W - 1 - i = j := by omega
          have hj4 : j ≤ 4 := by omega
          have Hg := Lib.hid (take_at (bitsDn_get (x := x) hlti))
          rw [hj2] at Hg
          have hbit := HB.out j hj4
          have HB9 := Lib.hid (show I64 (bits BinOp.and IntKind.i64 (x / 2 ^ j) 1) by have h : I64 (bitAt x j) := (by rcases hbit with h | h <;> rw [h] <;> (unfold I64; omega)); exact h)
          clear hbit
          go_wp2_with (at_builtin; refine append1_i64 rfl _ _ 24 2 rfl Try.underlying24 Try.infoi64 w1.heap.size _ _ _ _ (HO.out.keep ((Below.refl _ _).alloc (Nat.le_refl _) (.cells #[.int .i64 (bits BinOp.and IntKind.i64 (x / 2 ^ j) 1)] 2))) rfl wr.heap.size (bits BinOp.and IntKind.i64 (x / 2 ^ j) 1) rfl (by simp) HB9.out (by omega) (by simp; omega) ?_; intro a3 c3 w3 hown3 hb3 hg3)
          have Hown3 := Lib.hid hown3
          clear hown3 hg3
          go_roundw
          case rel => exact ⟨i + 1, m2 + 1, a3, c3, _, by omega, rfl, by omega, rfl, Below.trans bel hb3, by omega, Lib.hid (by rw [Hg.out, ← List.append_assoc]; exact Hown3.out)⟩
          case measure => simp [intOf]; omega
        · have hj0 : ¬ 0 ≤ bt := by omega
          obtain rfl : i = W := by omega
          have h1 := HO.out
          rw [show (bitsDn x i).take i = bitsDn x i from List.take_of_length_le (by rw [bitsDn_len]; omega), ← HX.out] at h1
          have HO2 := Lib.hid h1
          clear h1
          go_wp2_with fail
          go_roundw
          case rel => exact ⟨k + 1, m2, a2, c2, by omega, rfl, by go_num, hbw, by omega, HO2⟩
          case measure => simp [intOf]; omega
    · obtain rfl : vn = k := by omega
      have hlt' : ¬ (vn : Int) < (vn : Int) := by omega
      have h1 := HO.out
      rw [take_len HI.out.len, take_len HV.out.len] at h1
      have HO2 := Lib.hid h1
      clear h1
      go_wp2
      go_ret
      exact ⟨_, _, _, rfl, hbl, HO2.out.le hbl1.size, by omega⟩
end Go.Proofs.Ytcnjnkjnpfpaeaa
