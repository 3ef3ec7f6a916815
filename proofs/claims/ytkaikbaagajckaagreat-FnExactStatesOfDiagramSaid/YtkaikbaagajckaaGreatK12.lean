/- BitsOfState of the reference, walked.; Lists of bits, walked.; StateOfBits: values of bits, walked.; Tests as diagrams: plain laws.; Decision diagrams: bounds of counts, the first list of bits with the value 1, the diagram of an input: plain laws. -/
import Derived.Test.YtkaikbaagajckaaGreatK11
import Derived.Test.YtkaikbaagajckaaGreatK02
import Derived.Test.YtkaikbaagajckaaGreatK04
namespace Go.Proofs.YtkaikbaagajckaaGreat
open Go.RowKit
set_option linter.unusedVariables false
set_option linter.unusedSimpArgs false
def smC (sz : List Int) : Int := if smB sz = true then 0 else 3
set_option maxHeartbeats 1000000 in
theorem spec_l23Total {sa ta ra : Option Addr} {sn sc tn tc rn rc : Nat} {sz : List Int} {w : World} (hI : Ints w sa sn sc sz) (hn : sn ≤ 1048576) (hs : allIn 1 32 sz = true) :
    Calls Tryz.prog 82 #[.agg #[.slice sa sn sc, .slice ta tn tc, .slice ra rn rc]] w fun e w' => e = .returned (.int .i64 (sz.map wN).sum) ∧ Below w.heap.size w w' := by
  have HI := Lib.hid hI
  have HS := Lib.hid hs
  clear hI hs
  have X := Lib.hid (Blk.made w #[.slice sa sn sc, .slice ta tn tc, .slice ra rn rc] 36)
  have hbA : Below w.heap.size w (w.alloc (.cells #[.slice sa sn sc, .slice ta tn tc, .slice ra rn rc] 36)) := bel
  obtain ⟨wA, hwA⟩ : ∃ wA : World, wA = w.alloc (.cells #[.slice sa sn sc, .slice ta tn tc, .slice ra rn rc] 36) := ⟨_, rfl⟩
  rw [← hwA] at X hbA
  have HwA := Lib.hid hwA
  clear hwA
  go_enter Tryz.func82, Tryz.ntmps82
  go_wp2_with fail
  rw [← HwA.out]
  have x0 := X.out.cell 0
  have xl := X.out.lt
  simp at x0
  go_loop [3, 4] (fun s3 s4 => ∃ (k : Nat) (t : Int), k ≤ sn ∧ s4 = .int .i64 k ∧ s3 = .int .i64 t ∧ 0 ≤ t ∧ t ≤ 5 * k ∧ Hid (t = ((sz.take k).map wN).sum)) (fun _ s4 => sn - (intOf s4).toNat)
  case atStart => exact ⟨0, 0, Nat.zero_le _, rfl, rfl, by omega, by omega, Lib.hid (by simp)⟩
  case round =>
    obtain ⟨k, t, hk, rfl, rfl, ht0, ht1, A⟩ := hrel
    by_cases hlt : k < sn
    · have hlt' : (k : Int) < (sn : Int) := by omega
      have hk0 : (0 : Int) ≤ (k : Int) := by omega
      obtain ⟨b, off, z, rfl, hb, hx, hcell, hwf⟩ := (HI.out.keep hbA).at hlt
      have hz2 := allIn_at HS.out hx
      have hz0 := hz2.1
      have hz1 := hz2.2
      have Hx := Lib.hid (wl_take hx)
      have Hw := wN_in hz0 hz1
      have hw0 := Hw.1
      have hw1 := Hw.2
      clear hx hz2 Hw
      go_wp2_with fail
      go_wp2_with fail
      refine Calls.mono ((spec_l23Width hz0 hz1)) ?_
      rintro e _ ⟨rfl, rfl⟩
      go_wp2_with fail
      go_round
      case rel => exact ⟨k + 1, t + wN z, by omega, by go_num, rfl, by omega, by omega, Lib.hid (by rw [Hx.out, List.sum_append, A.out]; simp)⟩
      case measure => simp [intOf]; omega
    · obtain rfl : sn = k := by omega
      have hlt' : ¬ (sn : Int) < (sn : Int) := by omega
      have h1 := A.out
      rw [take_len HI.out.len] at h1
      subst h1
      go_wp2
      go_ret
      exact ⟨rfl, hbA⟩
set_option maxHeartbeats 1000000 in
theorem spec_l23Small {sa ta ra : Option Addr} {sn sc tn tc rn rc : Nat} {sz : List Int} {w : World} (hI : Ints w sa sn sc sz) (hn : sn ≤ 1048576) (hs : allIn 1 32 sz = true) :
    Calls Tryz.prog 62 #[.agg #[.slice sa sn sc, .slice ta tn tc, .slice ra rn rc]] w fun e w' => e = .returned (.int .i64 (smC sz)) ∧ Below w.heap.size w w' := by
  have KT := fun (wx : World) (hb : Below w.heap.size w wx) => spec_l23Total (ta := ta) (tn := tn) (tc := tc) (ra := ra) (rn := rn) (rc := rc) (hI.keep hb) hn hs
  have hq : smB sz = decide ((sz.map wN).sum ≤ 20) := rfl
  generalize (sz.map wN).sum = t at *
  have K1 := Lib.hid KT
  clear KT hI hs
  by_cases h : t ≤ 20
  · have HQ := Lib.hid (show smC sz = 0 by rw [smC, hq, decide_eq_true h]; rfl)
    have h' : ¬ 20 < t := by omega
    clear h hq
    go_enter Tryz.func62, Tryz.ntmps62
    go_wp2_with fail
    refine Calls.mono (K1.out _ bel) ?_
    rintro e w1 ⟨rfl, hb_w1⟩
    obtain ⟨hc_w1, hf_w1⟩ := bcell hb_w1
    have hs_w1 := hb_w1.size
    go_wp2
    go_ret
    exact ⟨by rw [HQ.out]; rfl, bel⟩
  · have HQ := Lib.hid (show smC sz = 3 by rw [smC, hq, decide_eq_false h]; rfl)
    have h' : 20 < t := by omega
    clear h hq
    go_enter Tryz.func62, Tryz.ntmps62
    go_wp2_with fail
    refine Calls.mono (K1.out _ bel) ?_
    rintro e w1 ⟨rfl, hb_w1⟩
    obtain ⟨hc_w1, hf_w1⟩ := bcell hb_w1
    have hs_w1 := hb_w1.size
    go_wp2
    go_ret
    exact ⟨by rw [HQ.out]; rfl, bel⟩
set_option maxHeartbeats 2000000 in
theorem spec_l23Bits {sa ta ra va : Option Addr} {sn sc tn tc rn rc vn vc : Nat} {sz vs : List Int} {w : World} (hI : Ints w sa sn sc sz) (hV : Ints w va vn vc vs) (hn : sn ≤ 16) (hs : allIn 1 32 sz = true) (hst : stateB sz vs = true) :
    Calls Tryz.prog 121 #[.agg #[.slice sa sn sc, .slice ta tn tc, .slice ra rn rc], .slice va vn vc] w fun e w' => ∃ m a c, e = .returned (.slice a m c) ∧ Below w.heap.size w w' ∧ OwnI 2 w' w.heap.size a m c (stBits sz vs) ∧ m ≤ 80 := by
  obtain rfl : vn = sn := by have := hI.len; have := hV.len; have := stateB_len hst; omega
  have HI := Lib.hid hI
  have HV := Lib.hid hV
  have HS := Lib.hid hs
  have HST := Lib.hid hst
  clear hI hs hV hst
  have X := Lib.hid (Blk.made w #[.slice sa vn sc, .slice ta tn tc, .slice ra rn rc] 36)
  have hbA : Below w.heap.size w (w.alloc (.cells #[.slice sa vn sc, .slice ta tn tc, .slice ra rn rc] 36)) := bel
  obtain ⟨wA, hwA⟩ : ∃ wA : World, wA = w.alloc (.cells #[.slice sa vn sc, .slice ta tn tc, .slice ra rn rc] 36) := ⟨_, rfl⟩
  rw [← hwA] at X hbA
  have HwA := Lib.hid hwA
  have O1 := Lib.hid (show OwnI 2 (wA.alloc (.cells #[] 2)) wA.heap.size (some ⟨w.heap.size + 1, 0, none⟩) 0 0 [] by have h := OwnI.empty (E := 2) (base := wA.heap.size) wA (Nat.le_refl _); have e : wA.heap.size = w.heap.size + 1 := (by rw [hwA]; simp); rw [e] at h ⊢; exact h)
  have hbB : Below w.heap.size w (wA.alloc (.cells #[] 2)) := bel
  have X1 := Lib.hid (X.out.keep ((Below.refl _ _).alloc (Nat.le_refl _) (.cells #[] 2)))
  have hxl := X.out.lt
  clear hwA X
  go_enter Tryz.func121, Tryz.ntmps121
  go_wp2_with fail
  rw [← HwA.out]
  go_loopw [5, 6, 7] (fun s5 s6 _ wr => ∃ (k m1 : Nat) (a1 : Option Addr) (c1 : Nat), k ≤ vn ∧ s5 = .slice a1 m1 c1 ∧ s6 = .int .i64 k ∧ Below wA.heap.size wA wr ∧ m1 ≤ 5 * k ∧ Hid (OwnI 2 wr wA.heap.size a1 m1 c1 (stBits (sz.take k) (vs.take k))) ∧ Hid (Blk wr w.heap.size #[.slice sa vn sc, .slice ta tn tc, .slice ra rn rc] 36)) (fun _ s6 _ _ => vn - (intOf s6).toNat)
  case atStart => exact ⟨0, 0, _, 0, Nat.zero_le _, rfl, rfl, bel, by omega, O1, X1⟩
  case round =>
    clear O1 X1
    obtain ⟨k, m1, a1, c1, hk, rfl, rfl, hbw, hm1, HO, X⟩ := hrel
    have hbl : Below w.heap.size w wr := below_call hbA hbw hbA.size
    have hsz := hbw.size
    have x0 := X.out.cell 0
    have xl := X.out.lt
    simp at x0
    by_cases hlt : k < vn
    · have hlt' : (k : Int) < (vn : Int) := by omega
      have hk0 : (0 : Int) ≤ (k : Int) := by omega
      obtain ⟨b, off, x, rfl, hb, hx, hcell, hwf⟩ := (HV.out.keep hbl).at hlt
      obtain ⟨b', off', z, rfl, hb', hz, hcell', _⟩ := (HI.out.keep hbl).at hlt
      have hz2 := allIn_at HS.out hz
      have hz0 := hz2.1
      have hz1 := hz2.2
      have hx2 := stateB_at HST.out hx hz
      have hw2 := wN_cases hz2.1 hz2.2
      obtain ⟨W, hW⟩ : ∃ W : Nat, wN z = (W : Int) := ⟨(wN z).toNat, by omega⟩
      have HX := Lib.hid (stBits_step hx hz)
      rw [hW, Int.toNat_natCast] at HX
      have HB := Lib.hid (show ∀ j, j ≤ 4 → bitAt x j = 0 ∨ bitAt x j = 1 from fun j hj => bitAt_in hx2.1 (by omega) hj)
      have hW5 : W ≤ 5 := by omega
      have e1 : IntKind.i64.wrap ((W : Int) - 1) = (W : Int) - 1 := IntWalk.i64_in _ (by omega)
      have HWd := Lib.hid (fun wx => spec_l23Width (z := z) (w := wx) hz0 hz1)
      rw [hW] at HWd
      have HVl := Lib.hid (HV.out.keep hbA)
      have HXg := Lib.hid hx
      clear hx hz hz2 hx2 hw2 hW hz0 hz1
      go_wp2_with fail
      go_wp2_with fail
      refine Calls.mono ((HWd.out _)) ?_
      rintro e _ ⟨rfl, rfl⟩
      go_wp2_with fail
      have Xc := X
      clear x0 xl
      go_loopw [5, 7] (fun s5 s7 wq => ∃ (i m2 : Nat) (a2 : Option Addr) (c2 : Nat) (bt : Int), i ≤ W ∧ s7 = .int .i64 bt ∧ bt = (W : Int) - 1 - i ∧ s5 = .slice a2 m2 c2 ∧ Below wA.heap.size wA wq ∧ m2 ≤ 5 * k + i ∧ Hid (OwnI 2 wq wA.heap.size a2 m2 c2 (stBits (sz.take k) (vs.take k) ++ (bitsDn x W).take i)) ∧ Hid (Blk wq w.heap.size #[.slice (some ⟨b', off', none⟩) vn sc, .slice ta tn tc, .slice ra rn rc] 36)) (fun _ s7 _ => (intOf s7 + 1).toNat)
      case atStart => exact ⟨0, m1, a1, c1, _, Nat.zero_le _, rfl, by omega, rfl, hbw, by omega, by simpa using HO, X⟩
      case round =>
        have hcell9 : ∀ wx, Below wA.heap.size wA wx → wx.cell? ⟨b, off + k, none⟩ = some (.int .i64 x) ∧ b < wx.heap.size := fun wx hbx => by
          obtain ⟨b9, off9, x9, e9, h1, h2, h3, _⟩ := (HVl.out.keep hbx).at hlt
          simp only [Option.some.injEq, Addr.mk.injEq, and_true] at e9
          obtain ⟨rfl, rfl⟩ := e9
          rw [HXg.out] at h2
          simp only [Option.some.injEq] at h2
          subst h2
          exact ⟨h3, h1⟩
        clear HO hcell hcell' hbl hbw hsz X Xc
        obtain ⟨i, m2, a2, c2, bt, hi, rfl, hbt, rfl, hbw, hm2, HO, X⟩ := hrel
        have hbl : Below w.heap.size w wr := below_call hbA hbw hbA.size
        have hsz := hbw.size
        have hcell := (hcell9 _ hbw).1
        have hblt := (hcell9 _ hbw).2
        clear hcell9
        by_cases hlti : i < W
        · obtain ⟨j, hj⟩ : ∃ j : Nat, bt = (j : Int) := ⟨bt.toNat, by omega⟩
          subst hj
          have hj2 : W - 1 - i = j := by omega
          have hj4 : j ≤ 4 := by omega
          have Hg := Lib.hid (take_at (bitsDn_get (x := x) hlti))
          rw [hj2] at Hg
          have hbit := HB.out j hj4
          have HB9 := Lib.hid (show I64 (bits BinOp.and IntKind.i64 (x / 2 ^ j) 1) by have h : I64 (bitAt x j) := (by rcases hbit with h | h <;> rw [h] <;> (unfold I64; omega)); exact h)
          clear hbit
          go_wp2_with (at_builtin; refine append1_i64 rfl _ _ 22 2 rfl Tryz.underlying22 Tryz.infoi64 wA.heap.size _ _ _ _ (HO.out.keep ((Below.refl _ _).alloc (Nat.le_refl _) (.cells #[.int .i64 (bits BinOp.and IntKind.i64 (x / 2 ^ j) 1)] 2))) rfl wr.heap.size (bits BinOp.and IntKind.i64 (x / 2 ^ j) 1) rfl (by simp) HB9.out (by omega) (by simp; omega) ?_; intro a3 c3 w3 hown3 hb3 hg3)
          have Hown3 := Lib.hid hown3
          have X3 := Lib.hid (Blk.keepB (X.out.keep ((Below.refl _ _).alloc (Nat.le_refl _) (.cells #[.int .i64 (bits BinOp.and IntKind.i64 (x / 2 ^ j) 1)] 2))) hb3 hxl)
          clear hown3 hg3
          go_roundw
          case rel => exact ⟨i + 1, m2 + 1, a3, c3, _, by omega, rfl, by omega, rfl, Below.trans bel hb3, by omega, Lib.hid (by rw [Hg.out, ← List.append_assoc]; exact Hown3.out), X3⟩
          case measure => simp [intOf]; omega
        · have hj0 : ¬ 0 ≤ bt := by omega
          obtain rfl : i = W := by omega
          have h1 := HO.out
          rw [show (bitsDn x i).take i = bitsDn x i from List.take_of_length_le (by rw [bitsDn_len]; omega), ← HX.out] at h1
          have HO2 := Lib.hid h1
          clear h1
          go_wp2_with fail
          go_roundw
          case rel => exact ⟨k + 1, m2, a2, c2, by omega, rfl, by go_num, hbw, by omega, HO2, X⟩
          case measure => simp [intOf]; omega
    · obtain rfl : vn = k := by omega
      have hlt' : ¬ (vn : Int) < (vn : Int) := by omega
      have h1 := HO.out
      rw [take_len HI.out.len, take_len HV.out.len] at h1
      have HO2 := Lib.hid h1
      clear h1
      go_wp2
      go_ret
      exact ⟨_, _, _, rfl, hbl, HO2.out.le hbA.size, by omega⟩
end Go.Proofs.YtkaikbaagajckaaGreat
namespace Go.Proofs.YtkaikbaagajckaaGreat
open Go.RowKit
set_option linter.unusedVariables false
set_option linter.unusedSimpArgs false
theorem allIn_anyB {lo hi : Int} {l : List Int} : (l.any fun x => !inB x lo hi) = !allIn lo hi l := by
  rw [allIn, List.not_all_eq_any_not]
theorem impl_areBits_1 {x : Int} {w : World} : Calls Tryz.prog 164 #[.int .i64 x] w fun e w' => e = .returned (.bool (!inB x 0 1)) ∧ w = w' := by
  rcases (show x < 0 ∨ x = 0 ∨ x = 1 ∨ 1 < x by omega) with h | rfl | rfl | h
  · have h0 : (x != 0) = true := by rw [bne_iff_ne]; omega
    have h1 : (x != 1) = true := by rw [bne_iff_ne]; omega
    have HB := Lib.hid (show inB x 0 1 = false by simp [inB]; omega)
    clear h
    go_enter Tryz.func164, Tryz.ntmps164
    go_wp2
    go_ret
    exact ⟨ret_bool (by rw [HB.out]; rfl), rfl⟩
  · go_enter Tryz.func164, Tryz.ntmps164
    go_wp2
    go_ret
    exact ⟨rfl, rfl⟩
  · go_enter Tryz.func164, Tryz.ntmps164
    go_wp2
    go_ret
    exact ⟨rfl, rfl⟩
  · have h0 : (x != 0) = true := by rw [bne_iff_ne]; omega
    have h1 : (x != 1) = true := by rw [bne_iff_ne]; omega
    have HB := Lib.hid (show inB x 0 1 = false by simp [inB]; omega)
    clear h
    go_enter Tryz.func164, Tryz.ntmps164
    go_wp2
    go_ret
    exact ⟨ret_bool (by rw [HB.out]; rfl), rfl⟩
def areB (bs : List Int) (N : Int) : Bool := decide ((bs.length : Int) = N) && allIn 0 1 bs
set_option maxHeartbeats 1000000 in
theorem impl_areBits {a : Option Addr} {n c : Nat} {l : List Int} {N : Int} {w : World} (hI : Ints w a n c l) (hn : n ≤ 1048576) :
    Calls Tryz.prog 102 #[.slice a n c, .int .i64 N] w fun e w' => e = .returned (.bool (areB l N)) ∧ Below w.heap.size w w' := by
  have hl := hI.len
  by_cases h : (n : Int) = N
  · have HA := Lib.hid (show areB l N = allIn 0 1 l by rw [areB, hl, decide_eq_true h, Bool.true_and])
    have hcf := fun (wx : World) (hb : Below w.heap.size w wx) => slices_ContainsFunc_i64 (g := 164) (lb := #[]) (p := fun x => !inB x 0 1) (w := wx) (enters_of Tryz.func164 (by kernel_rfl) rfl) (fun W x hx hb => Calls.mono (impl_areBits_1 (x := x) (w := W)) (fun e w' h => ⟨h.1, h.2 ▸ Below.refl _ _⟩)) (hI.keep hb) hn
    simp only [allIn_anyB] at hcf
    have hq : ((n : Int) == N) = true := by rw [beq_iff_eq]; exact h
    cases hc : allIn 0 1 l
    all_goals
      simp only [hc] at hcf
      have HC := Lib.hid hc
      have HCF := Lib.hid hcf
      clear hc hcf hI hl h
      go_enter Tryz.func102, Tryz.ntmps102
      go_wp2_with fail
      refine Calls.mono (HCF.out _ bel) ?_
      rintro e w1 ⟨rfl, hb_w1⟩
      obtain ⟨hc_w1, hf_w1⟩ := bcell hb_w1
      have hs_w1 := hb_w1.size
      go_wp2
      go_ret
      exact ⟨ret_bool (by rw [HA.out, HC.out]), bel⟩
  · have HA := Lib.hid (show areB l N = false by rw [areB, hl, decide_eq_false h, Bool.false_and])
    have hq : ((n : Int) == N) = false := by rw [beq_eq_false_iff_ne]; exact h
    clear hI hl h
    go_enter Tryz.func102, Tryz.ntmps102
    go_wp2
    go_ret
    exact ⟨ret_bool (by rw [HA.out]), bel⟩
end Go.Proofs.YtkaikbaagajckaaGreat
namespace Go.Proofs.YtkaikbaagajckaaGreat
open Go.RowKit
set_option linter.unusedVariables false
set_option linter.unusedSimpArgs false
def valOf (l : List Int) : Int := l.foldl (fun a b => 2 * a + b) 0
theorem valOf_step {l : List Int} {k : Nat} {x : Int} (h : l[k]? = some x) : valOf (l.take (k + 1)) = 2 * valOf (l.take k) + x := by
  rw [valOf, take_at h, List.foldl_append]; rfl
theorem valOf_in {l : List Int} (h : allIn 0 1 l = true) (k : Nat) (hk : k ≤ 5) : 0 ≤ valOf (l.take k) ∧ valOf (l.take k) ≤ 2 ^ k - 1 := by
  induction k with
  | zero => simp [valOf]
  | succ k ih =>
    have h1 := ih (by omega)
    cases hx : l[k]? with
    | none =>
      rw [List.take_of_length_le (by have := List.getElem?_eq_none_iff.1 hx; omega)]
      rw [List.take_of_length_le (by have := List.getElem?_eq_none_iff.1 hx; omega)] at h1
      have : (2 : Int) ^ (k + 1) = 2 * 2 ^ k := by rw [Int.pow_succ, Int.mul_comm]
      omega
    | some x =>
      have h2 := allIn_at h hx
      rw [valOf_step hx]
      have : (2 : Int) ^ (k + 1) = 2 * 2 ^ k := by rw [Int.pow_succ, Int.mul_comm]
      omega
theorem valOf_31 {l : List Int} (h : allIn 0 1 l = true) {k : Nat} (hk : k ≤ 5) : 0 ≤ valOf (l.take k) ∧ valOf (l.take k) ≤ 31 := by
  have h1 := valOf_in h k hk
  have h2 : (2 : Int) ^ k ≤ 32 := by
    rcases (show k = 0 ∨ k = 1 ∨ k = 2 ∨ k = 3 ∨ k = 4 ∨ k = 5 by omega) with rfl | rfl | rfl | rfl | rfl | rfl <;> decide
  omega
theorem allIn_part {lo hi : Int} {l : List Int} (h : allIn lo hi l = true) (a b : Nat) : allIn lo hi ((l.drop a).take b) = true := by
  rw [allIn, List.all_eq_true] at *
  exact fun x hx => h x (List.mem_of_mem_drop (List.mem_of_mem_take hx))
def offN (sz : List Int) (k : Nat) : Nat := ((sz.take k).map fun z => (wN z).toNat).sum
theorem offN_step {sz : List Int} {k : Nat} {z : Int} (h : sz[k]? = some z) : offN sz (k + 1) = offN sz k + (wN z).toNat := by
  rw [offN, take_at h, List.map_append, List.sum_append]; simp [offN]
theorem offN_le {sz : List Int} {k : Nat} (h : k ≤ sz.length) : offN sz k ≤ offN sz sz.length := by
  have : offN sz sz.length = offN sz k + ((sz.drop k).map fun z => (wN z).toNat).sum := by
    rw [offN, offN, List.take_length, ← List.sum_append, ← List.map_append, List.take_append_drop]
  omega
theorem offN_full {sz : List Int} (h : allIn 1 32 sz = true) : (offN sz sz.length : Int) = (sz.map wN).sum := by
  rw [offN, List.take_length]
  induction sz with
  | nil => rfl
  | cons z r ih =>
    rw [allIn, List.all_cons, Bool.and_eq_true] at h
    have h1 := ih (by rw [allIn]; exact h.2)
    have h2 := h.1
    simp [inB] at h2
    have h3 := wN_in h2.1 h2.2
    simp only [List.map_cons, List.sum_cons]
    omega
/-- the values of bits -/
def stV (sz bits : List Int) : List Int := (List.range sz.length).map fun k : Nat => valOf ((bits.drop (offN sz k)).take (wN (sz.getD k 0)).toNat)
theorem stV_at {sz bits : List Int} {k : Nat} {z : Int} (h : sz[k]? = some z) : (stV sz bits)[k]? = some (valOf ((bits.drop (offN sz k)).take (wN z).toNat)) := by
  rw [stV, range_get (List.getElem?_eq_some_iff.1 h).1, getD_of h]
set_option maxHeartbeats 2000000 in
theorem impl_valuesOf {sa ta ra va : Option Addr} {sn sc tn tc rn rc vn vc : Nat} {sz bs : List Int} {w : World} (hI : Ints w sa sn sc sz) (hV : Ints w va vn vc bs) (hn : sn ≤ 16) (hs : allIn 1 32 sz = true) (hb : allIn 0 1 bs = true) (hl : vn = offN sz sn) :
    Calls Tryz.prog 111 #[.agg #[.slice sa sn sc, .slice ta tn tc, .slice ra rn rc], .slice va vn vc] w fun e w' => ∃ a c, e = .returned (.slice a sn c) ∧ Below w.heap.size w w' ∧ OwnI 2 w' w.heap.size a sn c (stV sz bs) := by
  have HW := Lib.hid (fun (wx : World) (hb : Below w.heap.size w wx) => impl_widths (ta := ta) (tn := tn) (tc := tc) (ra := ra) (rn := rn) (rc := rc) (hI.keep hb) (by omega) hs)
  have HI := Lib.hid hI
  have HV := Lib.hid hV
  have HS := Lib.hid hs
  have HB := Lib.hid hb
  have HL := Lib.hid hl
  clear hI hs hV hb hl
  go_enter Tryz.func111, Tryz.ntmps111
  go_wp2_with fail
  refine Calls.mono (HW.out _ bel) ?_
  rintro e w1 ⟨aw, cw, rfl, hb1, ho⟩
  have hbl1 : Below w.heap.size w w1 := bel
  have HWI := Lib.hid ho.ints
  clear ho hb1
  go_wp2_with fail
  have hv0 := (HV.out.keep hbl1)
  have A0 := Lib.hid (show Ints w1 va vn vc (bs.drop (offN sz 0)) by simpa [offN] using hv0)
  clear hv0
  go_loopw [1, 7, 9, 10, 12, 20] (fun s1 s7 _ _ _ s20 wr => ∃ (k m : Nat) (aa : Option Addr) (cc : Nat) (a1 : Option Addr) (c1 : Nat), k ≤ sn ∧ s1 = .slice aa m cc ∧ s7 = .slice a1 k c1 ∧ s20 = .int .i64 k ∧ Below w1.heap.size w1 wr ∧ Hid (m + offN sz k = vn) ∧ Hid (Ints w1 aa m cc (bs.drop (offN sz k))) ∧ Hid (OwnI 2 wr w1.heap.size a1 k c1 ((stV sz bs).take k))) (fun _ _ _ _ _ s20 _ => sn - (intOf s20).toNat)
  case atStart => exact ⟨0, vn, va, vc, none, 0, Nat.zero_le _, rfl, rfl, rfl, Below.refl _ _, Lib.hid (by simp [offN]), A0, Lib.hid (OwnI.nil _ _ _)⟩
  case round =>
    clear A0
    obtain ⟨k, m, aa, cc, a1, c1, hk, rfl, rfl, rfl, hbw, HM, A, HO⟩ := hrel
    have hbl : Below w.heap.size w wr := below_call hbl1 hbw hbl1.size
    have hsz := hbw.size
    by_cases hlt : k < sn
    · have hlt' : (k : Int) < (sn : Int) := by omega
      have hk0 : (0 : Int) ≤ (k : Int) := by omega
      obtain ⟨z, hz⟩ : ∃ z, sz[k]? = some z := ⟨_, List.getElem?_eq_getElem (show k < sz.length by rw [HI.out.len]; exact hlt)⟩
      have hz2 := allIn_at HS.out hz
      have hw2 := wN_in hz2.1 hz2.2
      obtain ⟨W, hW⟩ : ∃ W : Nat, wN z = (W : Int) := ⟨(wN z).toNat, by omega⟩
      obtain ⟨b', off', y, rfl, hb', hy, hcell', _⟩ := (HWI.out.keep hbw).at hlt
      obtain rfl : y = (W : Int) := by rw [List.getElem?_map, hz] at hy; simp at hy; omega
      have hst := offN_step hz
      have hsv := stV_at (bits := bs) hz
      rw [hW, Int.toNat_natCast] at hst hsv
      have hle := offN_le (sz := sz) (k := k + 1) (by rw [HI.out.len]; omega)
      have hm9 := HM.out
      have hl9 := HL.out
      rw [HI.out.len] at hle
      have hWm : W ≤ m := by omega
      have hWm' : (W : Int) ≤ (m : Int) := by omega
      have hW5 : W ≤ 5 := by omega
      have hmc := A.out.cap
      have hWc : (W : Int) ≤ (cc : Int) := by omega
      have HST := Lib.hid hst
      have HSV := Lib.hid hsv
      have P1 := Lib.hid (A.out.take hWm)
      have HP := Lib.hid (allIn_part HB.out (offN sz k) W)
      have P2 := Lib.hid (A.out.part (lo := W) (hi := m) hWm (Nat.le_refl _))
      clear hz hy hz2 hw2 hW hst hsv hle hm9 hl9
      go_wp2_with fail
      go_loop [10, 12, 28] (fun s10 _ s28 => ∃ (i : Nat) (v : Int), i ≤ W ∧ s28 = .int .i64 i ∧ s10 = .int .i64 v ∧ 0 ≤ v ∧ v ≤ 31 ∧ Hid (v = valOf (((bs.drop (offN sz k)).take W).take i))) (fun _ _ s28 => W - (intOf s28).toNat)
      case atStart => exact ⟨0, 0, Nat.zero_le _, rfl, rfl, by omega, by omega, Lib.hid (by simp [valOf])⟩
      case round =>
        obtain ⟨i, v, hi, rfl, rfl, hv0, hv1, HVv⟩ := hrel
        by_cases hlti : i < W
        · have hlti' : (i : Int) < (W : Int) := by omega
          have hi0 : (0 : Int) ≤ (i : Int) := by omega
          obtain ⟨b, off, x, rfl, hb, hx, hcell, hwf⟩ := (P1.out.keep hbw).at hlti
          have hx2 := allIn_at HP.out hx
          have hx0 := hx2.1
          have hx1 := hx2.2
          have Hn := Lib.hid (valOf_step hx)
          have Hn3 := Lib.hid (valOf_31 HP.out (show i + 1 ≤ 5 by omega))
          clear hx hx2
          go_wp2
          go_round
          case rel => exact ⟨i + 1, 2 * v + x, by omega, by go_num, rfl, by omega, by have h1 := Hn.out; have h2 := Hn3.out; rw [← HVv.out] at h1; omega, Lib.hid (by rw [Hn.out, HVv.out])⟩
          case measure => simp [intOf]; omega
        · obtain rfl : i = W := by omega
          have hlti' : ¬ (i : Int) < (i : Int) := by omega
          have hv9 := HVv.out
          rw [List.take_take, Nat.min_self] at hv9
          have HV9 := Lib.hid hv9
          clear hv9
          go_wp2_with (at_builtin; refine append1_i64 rfl _ _ 22 2 rfl Tryz.underlying22 Tryz.infoi64 w1.heap.size _ _ _ _ (HO.out.keep ((Below.refl _ _).alloc (Nat.le_refl _) (.cells #[.int .i64 v] 2))) rfl wr.heap.size v rfl (by simp) (by unfold I64; omega) (by omega) (by simp; omega) ?_; intro a3 c3 w3 hown3 hb3 hg3)
          have Hown3 := Lib.hid hown3
          clear hown3 hg3
          go_roundw
          case rel =>
            refine ⟨k + 1, m - i, _, cc - i, a3, c3, by omega, rfl, rfl, by go_num, Below.trans bel hb3, ?_, ?_, ?_⟩
            · refine Lib.hid ?_
              have h1 := HM.out
              rw [HST.out]; omega
            · refine Lib.hid ?_
              have h1 := P2.out
              have h2 := HM.out
              have h3 := HV.out.len
              rw [List.drop_drop, List.take_of_length_le (by rw [List.length_drop]; omega), ← HST.out] at h1
              exact h1
            · refine Lib.hid ?_
              rw [take_at HSV.out, ← HV9.out]
              exact Hown3.out
          case measure => simp [intOf]; omega
    · obtain rfl : sn = k := by omega
      have hlt' : ¬ (sn : Int) < (sn : Int) := by omega
      have h1 := HO.out
      rw [List.take_of_length_le (by simp [stV]; rw [HI.out.len]; exact Nat.le_refl _)] at h1
      have HO2 := Lib.hid h1
      clear h1
      go_wp2
      go_ret
      exact ⟨_, _, rfl, hbl, HO2.out.le hbl1.size⟩
end Go.Proofs.YtkaikbaagajckaaGreat
namespace Go.Proofs.YtkaikbaagajckaaGreat
open Go.RowKit
set_option linter.unusedVariables false
set_option linter.unusedSimpArgs false
theorem off_sum {sz : List Int} (hs : allIn 1 32 sz = true) (hn : sz.length ≤ 16) : (sz.map wN).sum = (offN sz sz.length : Int) ∧ ∀ k, k ≤ sz.length → offN sz k ≤ 5 * k := by
  refine ⟨(offN_full hs).symm, fun k => ?_⟩
  induction k with
  | zero => intro _; simp [offN]
  | succ k ih =>
    intro hk
    obtain ⟨z, hz⟩ : ∃ z, sz[k]? = some z := ⟨_, List.getElem?_eq_getElem (by omega)⟩
    have h2 := allIn_at hs hz
    have hw := wN_in h2.1 h2.2
    rw [offN_step hz]
    have := ih (by omega)
    omega
/-- the values of a variable that are allowed, from one of its bits on, and what follows -/
def vtN (al : Int → Bool) : Nat → List I3 → Int → Int → Int → List I3 × Int
  | 0, L, v, _, rest => (L, if al v = true then rest else 0)
  | k + 1, L, v, i, rest => mkN (vtN al k (vtN al k L (2 * v) (i + 1) rest).1 (2 * v + 1) (i + 1) rest).1 i (vtN al k L (2 * v) (i + 1) rest).2 (vtN al k (vtN al k L (2 * v) (i + 1) rest).1 (2 * v + 1) (i + 1) rest).2
/-- the value of k bits from i on, behind some -/
def vbN (β : Nat → Bool) : Nat → Nat → Int → Int
  | 0, _, v => v
  | k + 1, i, v => vbN β k (i + 1) (2 * v + if β i = true then 1 else 0)
theorem vt_inv {n : Int} {al : Int → Bool} : ∀ (k : Nat) (L : List I3) (v : Int) (i : Nat) (rest : Int), Snd n L → RefB rest L.length → (i : Int) + k ≤ n → (i : Int) + k ≤ lvlN n L rest →
    Snd n (vtN al k L v i rest).1 ∧ RefB (vtN al k L v i rest).2 (vtN al k L v i rest).1.length ∧ (i : Int) ≤ lvlN n (vtN al k L v i rest).1 (vtN al k L v i rest).2 ∧ (∃ t, (vtN al k L v i rest).1 = L ++ t ∧ t.length + 1 ≤ 2 ^ k) ∧
    ∀ β, evR (vtN al k L v i rest).1 β (vtN al k L v i rest).2 = (evR L β rest && al (vbN β k i v)) := by
  intro k
  induction k with
  | zero =>
    intro L v i rest hS hr hn hl
    rw [vtN]
    cases ha : al v
    · simp only [Bool.false_eq_true, if_false]
      refine ⟨hS, ⟨by omega, by omega⟩, by rw [lvl_low (by omega)]; omega, ⟨[], by simp, by simp⟩, fun β => ?_⟩
      rw [ev_zero, vbN, ha, Bool.and_false]
    · simp only [if_true]
      refine ⟨hS, hr, by omega, ⟨[], by simp, by simp⟩, fun β => ?_⟩
      rw [vbN, ha, Bool.and_true]
  | succ k ih =>
    intro L v i rest hS hr hn hl
    push_cast at hn hl
    obtain ⟨a1, a2, a3, ⟨t1, a4, a5⟩, a6⟩ := ih L (2 * v) (i + 1) rest hS hr (by push_cast; omega) (by push_cast; omega)
    have ei : (((i + 1 : Nat)) : Int) = (i : Int) + 1 := by omega
    rw [ei] at a1 a2 a3 a4 a6
    rw [vtN]
    generalize vtN al k L (2 * v) ((i : Int) + 1) rest = A at *
    obtain ⟨A1, A2⟩ := A
    simp only at a1 a2 a3 a4 a6 ⊢
    have hr1 : RefB rest A1.length := hr.mono (by rw [a4, List.length_append]; omega)
    have hl1 : lvlN n A1 rest = lvlN n L rest := by rw [a4]; exact lvl_app hr
    have he1 : ∀ β, evR A1 β rest = evR L β rest := fun β => by rw [a4]; exact ev_app hS.redu.frst hr
    obtain ⟨b1, b2, b3, ⟨t2, b4, b5⟩, b6⟩ := ih A1 (2 * v + 1) (i + 1) rest a1 hr1 (by push_cast; omega) (by rw [hl1]; push_cast; omega)
    rw [ei] at b1 b2 b3 b4 b6
    generalize vtN al k A1 (2 * v + 1) ((i : Int) + 1) rest = B at *
    obtain ⟨B1, B2⟩ := B
    simp only at b1 b2 b3 b4 b6 ⊢
    have hl2 : RefB A2 B1.length := a2.mono (by rw [b4, List.length_append]; omega)
    have hv2 : lvlN n B1 A2 = lvlN n A1 A2 := by rw [b4]; exact lvl_app a2
    have he2 : ∀ β, evR B1 β A2 = evR A1 β A2 := fun β => by rw [b4]; exact ev_app a1.redu.frst a2
    have hF := b1.redu.frst
    obtain ⟨t3, c4, c5⟩ := mkN_pre B1 i A2 B2
    have hA := hF.add (i := (i : Int)) hl2 b2
    have hO := b1.ord.add hF (i := (i : Int)) hl2 b2 (by omega) (by omega) (by rw [hv2]; omega) (by omega)
    refine ⟨b1.add hl2 b2 (by omega) (by omega) (by rw [hv2]; omega) (by omega), hA.2, hO.2, ⟨t1 ++ (t2 ++ t3), by rw [c4, b4, a4]; simp, ?_⟩, fun β => ?_⟩
    · rw [List.length_append, List.length_append, Nat.pow_succ]; omega
    · rw [ev_mk hF hl2 b2, Int.toNat_natCast, b6, he2, a6, he1, vbN]
      cases β i <;> simp
theorem mkN_ref {L : List I3} {i lo hi : Int} (hl : RefB lo L.length) : RefB (mkN L i lo hi).2 (mkN L i lo hi).1.length := by
  unfold mkN
  split
  · exact hl
  · split
    · rename_i k hk
      have := (List.getElem?_eq_some_iff.1 (posN_some hk).1).1
      exact ⟨by simp only; omega, by simp only; omega⟩
    · exact ⟨by simp only; omega, by simp only [List.length_append, List.length_cons, List.length_nil]; omega⟩
theorem vt_ref {al : Int → Bool} : ∀ (k : Nat) (L : List I3) (v i rest : Int), RefB rest L.length →
    RefB (vtN al k L v i rest).2 (vtN al k L v i rest).1.length ∧ L.length ≤ (vtN al k L v i rest).1.length ∧ (vtN al k L v i rest).1.length + 1 ≤ L.length + 2 ^ k := by
  intro k
  induction k with
  | zero =>
    intro L v i rest hr
    rw [vtN]
    refine ⟨?_, Nat.le_refl _, by simp⟩
    cases al v
    · exact ⟨by simp, by simp; omega⟩
    · exact hr
  | succ k ih =>
    intro L v i rest hr
    obtain ⟨a1, a2, a3⟩ := ih L (2 * v) (i + 1) rest hr
    rw [vtN]
    generalize vtN al k L (2 * v) (i + 1) rest = A at *
    obtain ⟨A1, A2⟩ := A
    simp only at a1 a2 a3 ⊢
    obtain ⟨b1, b2, b3⟩ := ih A1 (2 * v + 1) (i + 1) rest (hr.mono a2)
    generalize vtN al k A1 (2 * v + 1) (i + 1) rest = B at *
    obtain ⟨B1, B2⟩ := B
    simp only at b1 b2 b3 ⊢
    obtain ⟨t3, c4, c5⟩ := mkN_pre B1 i A2 B2
    have hlen : (mkN B1 i A2 B2).1.length = B1.length + t3.length := by rw [c4, List.length_append]
    refine ⟨mkN_ref (a1.mono b2), by omega, ?_⟩
    rw [Nat.pow_succ]; omega
theorem vt_new {al : Int → Bool} {k : Nat} {L : List I3} {v i rest : Int} {A B : List I3 × Int} (hA : vtN al k L (2 * v) (i + 1) rest = A) (hB : vtN al k A.1 (2 * v + 1) (i + 1) rest = B) : vtN al (k + 1) L v i rest = mkN B.1 i A.2 B.2 := by
  subst hA hB; rfl
/-- what a test allows -/
def alB (sz : List Int) (g : List I2b) (j : Nat) (v : Int) : Bool := decide (v < sz.getD j 0) && !(g.any fun t => decide (t.a = (j : Int)) && (decide (v = t.b) != t.c))
/-- behind the last k variables -/
def tdN (sz : List Int) (g : List I2b) : Nat → List I3 × Int
  | 0 => ([], 1)
  | k + 1 => vtN (alB sz g (sz.length - 1 - k)) (wN (sz.getD (sz.length - 1 - k) 0)).toNat (tdN sz g k).1 0 (offN sz (sz.length - 1 - k) : Int) (tdN sz g k).2
theorem td_inv {sz : List Int} {g : List I2b} (hs : allIn 1 32 sz = true) : ∀ k, k ≤ sz.length →
    Snd (offN sz sz.length : Int) (tdN sz g k).1 ∧ RefB (tdN sz g k).2 (tdN sz g k).1.length ∧ (offN sz (sz.length - k) : Int) ≤ lvlN (offN sz sz.length : Int) (tdN sz g k).1 (tdN sz g k).2 ∧ (tdN sz g k).1.length ≤ 31 * k ∧
    ∀ β, evR (tdN sz g k).1 β (tdN sz g k).2 = true ↔ ∀ j, sz.length - k ≤ j → j < sz.length → alB sz g j (vbN β (wN (sz.getD j 0)).toNat (offN sz j) 0) = true := by
  intro k
  induction k with
  | zero =>
    intro _
    rw [tdN]
    refine ⟨Snd.nil _, ⟨by omega, by simp⟩, by rw [lvl_low (by omega)]; simp, by simp, fun β => ?_⟩
    rw [ev_low (by omega)]
    simp only [decide_true, true_iff]
    intro j h1 h2
    omega
  | succ k ih =>
    intro hk
    obtain ⟨i1, i2, i3, i4, i5⟩ := ih (by omega)
    obtain ⟨q, hq⟩ : ∃ q, q = sz.length - 1 - k := ⟨_, rfl⟩
    have hql : q < sz.length := by omega
    obtain ⟨z, hz⟩ : ∃ z, sz[q]? = some z := ⟨_, List.getElem?_eq_getElem hql⟩
    have hgd : sz.getD q 0 = z := getD_of hz
    have hz2 := allIn_at hs hz
    have hw := wN_in hz2.1 hz2.2
    have hst := offN_step hz
    have hof := offN_le (sz := sz) (k := q + 1) (by omega)
    have e1 : sz.length - k = q + 1 := by omega
    rw [e1] at i3 i5
    rw [tdN, ← hq, hgd]
    generalize tdN sz g k = A at *
    obtain ⟨L, r⟩ := A
    simp only at i1 i2 i3 i4 i5 ⊢
    obtain ⟨b1, b2, b3, ⟨t, b4, b5⟩, b6⟩ := vt_inv (al := alB sz g q) (wN z).toNat L 0 (offN sz q) r i1 i2 (by omega) (by omega)
    have h32 : 2 ^ (wN z).toNat ≤ 32 := Nat.le_trans (Nat.pow_le_pow_right (by decide) (show (wN z).toNat ≤ 5 by omega)) (by decide)
    refine ⟨b1, b2, by rw [show sz.length - (k + 1) = q by omega]; exact b3, by rw [b4, List.length_append]; omega, fun β => ?_⟩
    rw [b6, Bool.and_eq_true, i5, show sz.length - (k + 1) = q by omega]
    constructor
    · rintro ⟨h1, h2⟩ j hj1 hj2
      by_cases hjq : j = q
      · subst hjq; rw [hgd]; exact h2
      · exact h1 j (by omega) hj2
    · intro h
      refine ⟨fun j h1 h2 => h j (by omega) h2, ?_⟩
      have := h q (Nat.le_refl _) hql
      rw [hgd] at this
      exact this
/-- the diagram of tests -/
def tsN (sz : List Int) (g : List I2b) : List I3 × Int := canN mkN (tdN sz g sz.length).1 (tdN sz g sz.length).2
theorem ts_few {sz : List Int} {g : List I2b} (hs : allIn 1 32 sz = true) (hn : sz.length ≤ 16) : (tsN sz g).1.length ≤ 496 := by
  obtain ⟨i1, i2, _, i4, _⟩ := td_inv (g := g) hs sz.length (Nat.le_refl _)
  have := can_length i1.redu i2
  rw [tsN]; omega
end Go.Proofs.YtkaikbaagajckaaGreat
namespace Go.Proofs.YtkaikbaagajckaaGreat
open Go.RowKit
set_option linter.unusedVariables false
set_option linter.unusedSimpArgs false
theorem cnt_le {n : Int} {L : List I3} (h : Snd n L) (hn : 0 ≤ n) : ∀ (m : Nat) (r : Int), r.toNat ≤ m → RefB r L.length → cntR n L r ≤ 2 ^ (n - lvlN n L r).toNat := by
  have low : ∀ r : Int, r < 2 → cntR n L r ≤ 2 ^ (n - lvlN n L r).toNat := fun r h2 => by
    have := Nat.two_pow_pos (n - lvlN n L r).toNat
    rw [cnt_low h2]
    split <;> omega
  intro m
  induction m with
  | zero => intro r hm hr; exact low r (by omega)
  | succ m ih =>
    intro r hm hr
    by_cases h2 : r < 2
    · exact low r h2
    · obtain ⟨k, rfl⟩ : ∃ k : Nat, r = (k : Int) + 2 := ⟨(r - 2).toNat, by omega⟩
      have hlt : k < L.length := by have := hr.2; omega
      obtain ⟨x, hx⟩ : ∃ x, L[k]? = some x := ⟨_, List.getElem?_eq_getElem hlt⟩
      have f3 := (h.redu.frst.low _ _ hx)
      have f4 := (h.redu.frst.high _ _ hx)
      have f3' := f3.2
      have f4' := f4.2
      obtain ⟨o1, o2, o3, o4⟩ := h.ord _ _ hx
      have i1 := ih x.b (by omega) (f3.mono (by omega))
      have i2 := ih x.c (by omega) (f4.mono (by omega))
      have l1 := lvl_le h.ord (f3.mono (by omega) : RefB x.b L.length)
      have l2 := lvl_le h.ord (f4.mono (by omega) : RefB x.c L.length)
      rw [cnt_node h.redu.frst hx, lvl_node hx]
      have e0 : (n - x.a).toNat = (n - (x.a + 1)).toNat + 1 := by omega
      have e1 : 2 ^ (n - lvlN n L x.b).toNat * 2 ^ (lvlN n L x.b - (x.a + 1)).toNat = 2 ^ (n - (x.a + 1)).toNat := by rw [← Nat.pow_add]; congr 1; omega
      have e2 : 2 ^ (n - lvlN n L x.c).toNat * 2 ^ (lvlN n L x.c - (x.a + 1)).toNat = 2 ^ (n - (x.a + 1)).toNat := by rw [← Nat.pow_add]; congr 1; omega
      have g1 := Nat.mul_le_mul_right (2 ^ (lvlN n L x.b - (x.a + 1)).toNat) i1
      have g2 := Nat.mul_le_mul_right (2 ^ (lvlN n L x.c - (x.a + 1)).toNat) i2
      rw [e1] at g1
      rw [e2] at g2
      rw [e0, Nat.pow_succ]
      omega
theorem pow_20 {k : Nat} (h : k ≤ 20) : 2 ^ k ≤ 1048576 := Nat.le_trans (Nat.pow_le_pow_right (by decide) h) (by decide)
theorem cnt_few {n : Int} {L : List I3} (h : Snd n L) (hn : 0 ≤ n) (h20 : n ≤ 20) {r : Int} (hr : RefB r L.length) : cntR n L r ≤ 1048576 := by
  have h0 := lvl_pos h.ord hn hr
  exact Nat.le_trans (cnt_le h hn _ r (Nat.le_refl _) hr) (pow_20 (by omega))
theorem ones_le {n : Int} {L : List I3} (h : Snd n L) (hn : 0 ≤ n) {r : Int} (hr : RefB r L.length) : onesN n L r ≤ 2 ^ n.toNat := by
  have h1 := cnt_le h hn _ r (Nat.le_refl _) hr
  have h0 := lvl_pos h.ord hn hr
  have h2 := lvl_le h.ord hr
  have h3 := Nat.mul_le_mul_right (2 ^ (lvlN n L r).toNat) h1
  rw [← Nat.pow_add, show (n - lvlN n L r).toNat + (lvlN n L r).toNat = n.toNat by omega] at h3
  exact h3
/-! ### values along bits -/
theorem bit_at {bits : List Int} {i : Nat} {v : Int} (h : bits[i]? = some v) : bitF 0 bits i = (v == 1) := by
  rw [bitF, Nat.sub_zero, List.getD_eq_getElem?_getD, h]; simp
/-- the value at a list of bits -/
def valN (L : List I3) (bits : List Int) (root : Int) : Int := if evR L (bitF 0 bits) root = true then 1 else 0
theorem val_in (L : List I3) (bits : List Int) (root : Int) : valN L bits root = 0 ∨ valN L bits root = 1 := by
  unfold valN; split <;> simp
theorem val_low {L : List I3} {bits : List Int} {r : Int} (h : r < 2) (h0 : 0 ≤ r) : valN L bits r = r := by
  rw [valN, ev_low h]
  have : r = 0 ∨ r = 1 := by omega
  rcases this with rfl | rfl <;> rfl
theorem val_node {L : List I3} (hF : Frst L) {bits : List Int} {k : Nat} {x : I3} (hx : L[k]? = some x) {v : Int} (hv : bits[x.a.toNat]? = some v) (h01 : v = 0 ∨ v = 1) : valN L bits ((k : Int) + 2) = valN L bits (if v = 0 then x.b else x.c) := by
  rw [valN, ev_node hF hx, bit_at hv, valN]
  rcases h01 with rfl | rfl <;> rfl
/-! ### the first list -/
def foF (L : List I3) : Nat → Int → List Int → List Int
  | 0, _, o => o
  | f + 1, r, o => if r < 2 then o else match L[(r - 2).toNat]? with
    | none => o
    | some x => if x.b = 0 then foF L f x.c (o.set x.a.toNat 1) else foF L f x.b o
theorem fo_low {L : List I3} (f : Nat) {r : Int} (o : List Int) (h : r < 2) : foF L f r o = o := by
  cases f with
  | zero => rfl
  | succ f => rw [foF, if_pos h]
theorem fo_fuel {L : List I3} (hF : Frst L) : ∀ (f g : Nat) (r : Int) (o : List Int), r.toNat ≤ f → r.toNat ≤ g → foF L f r o = foF L g r o := by
  intro f
  induction f with
  | zero => intro g r o hf hg; rw [fo_low _ _ (by omega), fo_low _ _ (by omega)]
  | succ f ih =>
    intro g r o hf hg
    by_cases hr : r < 2
    · rw [fo_low _ _ hr, fo_low _ _ hr]
    · obtain ⟨g, rfl⟩ : ∃ g', g = g' + 1 := ⟨g - 1, by omega⟩
      rw [foF, foF, if_neg hr, if_neg hr]
      cases hx : L[(r - 2).toNat]? with
      | none => rfl
      | some x =>
        have h3 := hF.low _ _ hx
        have h4 := hF.high _ _ hx
        unfold RefB at h3 h4
        simp only
        split
        · exact ih g x.c _ (by omega) (by omega)
        · exact ih g x.b _ (by omega) (by omega)
def foR (L : List I3) (r : Int) (o : List Int) : List Int := foF L r.toNat r o
theorem foR_low {L : List I3} {r : Int} (o : List Int) (h : r < 2) : foR L r o = o := fo_low _ _ h
theorem foR_node {L : List I3} (hF : Frst L) {k : Nat} {x : I3} (hx : L[k]? = some x) (o : List Int) : foR L ((k : Int) + 2) o = if x.b = 0 then foR L x.c (o.set x.a.toNat 1) else foR L x.b o := by
  have h3 := hF.low _ _ hx
  have h4 := hF.high _ _ hx
  unfold RefB at h3 h4
  rw [foR, show ((k : Int) + 2).toNat = (k + 1) + 1 by omega, foF, if_neg (by omega), show ((k : Int) + 2 - 2).toNat = k by omega, hx]
  simp only
  split
  · exact fo_fuel hF _ _ _ _ (by omega) (Nat.le_refl _)
  · exact fo_fuel hF _ _ _ _ (by omega) (Nat.le_refl _)
theorem fo_value {n : Nat} {L : List I3} (h : Snd (n : Int) L) : ∀ (m : Nat) (r : Int) (o : List Int), r.toNat ≤ m → RefB r L.length → r ≠ 0 → o.length = n → (∀ y ∈ o, y = 0 ∨ y = 1) → (∀ i : Nat, lvlN (n : Int) L r ≤ (i : Int) → i < n → o[i]? = some 0) →
    (foR L r o).length = n ∧ (∀ y ∈ foR L r o, y = 0 ∨ y = 1) ∧ (∀ i : Nat, (i : Int) < lvlN (n : Int) L r → (foR L r o)[i]? = o[i]?) ∧ evR L (bitF 0 (foR L r o)) r = true := by
  have low : ∀ (r : Int) (o : List Int), r < 2 → RefB r L.length → r ≠ 0 → o.length = n → (∀ y ∈ o, y = 0 ∨ y = 1) → (foR L r o).length = n ∧ (∀ y ∈ foR L r o, y = 0 ∨ y = 1) ∧ (∀ i : Nat, (i : Int) < lvlN (n : Int) L r → (foR L r o)[i]? = o[i]?) ∧ evR L (bitF 0 (foR L r o)) r = true := fun r o h2 hr h0 hl h01 => by
    rw [foR_low o h2]
    refine ⟨hl, h01, fun i _ => rfl, ?_⟩
    have h9 := hr.1
    rw [ev_low h2]
    exact decide_eq_true (by omega)
  intro m
  induction m with
  | zero => intro r o hm hr h0 hl h01 hz; exact low r o (by omega) hr h0 hl h01
  | succ m ih =>
    intro r o hm hr h0 hl h01 hz
    by_cases h2 : r < 2
    · exact low r o h2 hr h0 hl h01
    · obtain ⟨k, rfl⟩ : ∃ k : Nat, r = (k : Int) + 2 := ⟨(r - 2).toNat, by omega⟩
      have hlt : k < L.length := by have := hr.2; omega
      obtain ⟨x, hx⟩ : ∃ x, L[k]? = some x := ⟨_, List.getElem?_eq_getElem hlt⟩
      have f3 := (h.redu.frst.low _ _ hx)
      have f4 := (h.redu.frst.high _ _ hx)
      have f3' := f3.2
      have f4' := f4.2
      have hd := h.redu.diff x (List.mem_of_getElem? hx)
      obtain ⟨o1, o2, o3, o4⟩ := h.ord _ _ hx
      rw [lvl_node hx] at hz
      rw [foR_node h.redu.frst hx, lvl_node hx]
      have hxn : x.a.toNat < n := by omega
      by_cases hb : x.b = 0
      · rw [if_pos hb]
        have hset : ∀ i : Nat, i ≠ x.a.toNat → (o.set x.a.toNat 1)[i]? = o[i]? := fun i hi => List.getElem?_set_ne (fun e => hi e.symm)
        obtain ⟨q1, q2, q3, q4⟩ := ih x.c (o.set x.a.toNat 1) (by omega) (f4.mono (by omega)) (fun e => hd (by omega)) (by simpa using hl) (fun y hy => by
          rcases List.mem_or_eq_of_mem_set hy with h1 | h1
          · exact h01 y h1
          · exact .inr h1) (fun i hi hn => by rw [hset i (by omega)]; exact hz i (by omega) hn)
        refine ⟨q1, q2, fun i hi => by rw [q3 i (by omega), hset i (by omega)], ?_⟩
        have hat : (foR L x.c (o.set x.a.toNat 1))[x.a.toNat]? = some 1 := by
          rw [q3 x.a.toNat (by omega), List.getElem?_set_self (by omega)]
        rw [ev_node h.redu.frst hx, bit_at hat]
        exact q4
      · rw [if_neg hb]
        obtain ⟨q1, q2, q3, q4⟩ := ih x.b o (by omega) (f3.mono (by omega)) hb hl h01 (fun i hi hn => hz i (by omega) hn)
        refine ⟨q1, q2, fun i hi => q3 i (by omega), ?_⟩
        have hat : (foR L x.b o)[x.a.toNat]? = some 0 := by
          rw [q3 x.a.toNat (by omega)]; exact hz _ (by omega) hxn
        rw [ev_node h.redu.frst hx, bit_at hat]
        exact q4
/-! ### the diagram of an input -/
theorem inp_dia {m i : Int} (h0 : 0 ≤ i) (h1 : i ≤ m - 1) (hm : m ≤ 20) : diaB m [⟨i, 0, 1⟩] 2 = true := by
  have hx : ([⟨i, 0, 1⟩] : List I3)[0]? = some ⟨i, 0, 1⟩ := rfl
  have hc : canN mkN [⟨i, 0, 1⟩] 2 = ([⟨i, 0, 1⟩], 2) := by
    rw [canN, show (2 : Int).toNat = 1 + 1 from rfl, wlk_new _ _ _ _ (by decide) (by simp) (show ([⟨i, 0, 1⟩] : List I3)[1 + 1 - 2]? = some ⟨i, 0, 1⟩ from rfl)]
    rw [wlk_low _ _ _ _ (show ((0 : Int)).toNat < 2 by decide), wlk_low _ _ _ _ (show ((1 : Int)).toNat < 2 by decide)]
    rw [mkN_new (by decide) (by simp)]
    rfl
  rw [diaB, dia0, hc]
  simp only [Bool.and_eq_true]
  refine ⟨⟨⟨⟨?_, by simp⟩, by simp [inB]⟩, ?_⟩, by simp⟩
  · rw [inB, Bool.and_eq_true]; exact ⟨decide_eq_true (by omega), decide_eq_true hm⟩
  · rw [upB, List.all_eq_true]
    intro q hq
    have : q = 0 := by simpa using hq
    subst this
    refine (ndB_iff hx).2 ⟨⟨h0, h1⟩, ⟨by simp, by simp⟩, ⟨by simp, by simp⟩, by simp, ?_, ?_⟩
    · rw [lvl_low (show (0 : Int) < 2 by decide)]; simp only; omega
    · rw [lvl_low (show (1 : Int) < 2 by decide)]; simp only; omega
theorem inp_ones {m i : Int} (h0 : 0 ≤ i) (h1 : i ≤ m - 1) : 2 * onesN m [⟨i, 0, 1⟩] 2 = 2 ^ m.toNat := by
  have hx : ([⟨i, 0, 1⟩] : List I3)[0]? = some ⟨i, 0, 1⟩ := rfl
  have hF : Frst ([⟨i, 0, 1⟩] : List I3) := Frst.app Frst.nil (by unfold RefB; simp) (by unfold RefB; simp)
  have e := cnt_node (n := m) hF hx
  rw [show ((0 : Nat) : Int) + 2 = 2 from rfl] at e
  have l := lvl_node (n := m) hx
  rw [show ((0 : Nat) : Int) + 2 = 2 from rfl] at l
  rw [onesN, e, l]
  simp only
  rw [cnt_low (show (0 : Int) < 2 by decide), cnt_low (show (1 : Int) < 2 by decide), if_pos rfl, if_neg (by decide), lvl_low (show (1 : Int) < 2 by decide), Nat.zero_mul, Nat.zero_add, Nat.one_mul, ← Nat.pow_add, ← Nat.pow_succ']
  congr 1
  omega
end Go.Proofs.YtkaikbaagajckaaGreat
