/- BitsOfState of the program, walked.; BitsOfState of the reference, walked.; Append of records to a row of the call's own.; Lists of bits, walked.; StateOfBits: values of bits, walked. -/
import Derived.Test.YtkaikbaagajckaaGreatN08
import Derived.Test.YtkaikbaagajckaaGreatBase
import Derived.Test.YtkaikbaagajckaaGreatN01
namespace Go.Proofs.YtkaikbaagajckaaGreat
open Go.RowKit
set_option linter.unusedVariables false
set_option linter.unusedSimpArgs false
theorem FR.self {w w' : World} {a : Option Addr} {n c : Nat} {l : List (RM × RuD)} (h : FR w w a n c l) (hb : Below w.heap.size w w') : FR w' w' a n c l := by
  have hf := Flats.keep h hb
  exact ⟨hf.len, hf.cap, hf.pos, fun x hx => by obtain ⟨q1, q2, q3, q4, q5, q6⟩ := hf.wf x hx; exact ⟨q1, q2, q3.keep hb, q4, q5.keep hb, q6⟩, hf.nil⟩
def smC (sz : List Int) : Int := if smB sz = true then 0 else 3
set_option maxHeartbeats 1000000 in
theorem spec_l23Total {sa ta ra : Option Addr} {sn sc tn tc rn rc : Nat} {sz : List Int} {w : World} (hI : Ints w sa sn sc sz) (hn : sn ≤ 1048576) (hs : allIn 1 32 sz = true) :
    Calls Tryz.prog 82 #[.agg #[.slice sa sn sc, .slice ta tn tc, .slice ra rn rc]] w fun e w' => e = .returned (.int .i64 (sz.map wN).sum) ∧ Below w.heap.size w w' := by
  have HI := Lib.hid hI
  have HS := Lib.hid hs
  clear hI hs
  have X := Lib.hid (Blk.made w #[.slice sa sn sc, .slice ta tn tc, .slice ra rn rc] 36)
  have hbA : Below w.heap.size w (w.alloc (.cells #[.slice sa sn sc, .slice ta tn tc, .slice ra rn rc] 36)) := bel
  obtain ⟨wA, hwA⟩ : ∃ wA : World, wA = w.alloc (.cells #[.slice sa sn sc, .slice ta tn tc, .slice ra rn rc] 36) := ⟨_, rfl⟩
  rw [← hwA] at X hbA
  have HwA := Lib.hid hwA
  clear hwA
  go_enter Tryz.func82, Tryz.ntmps82
  go_wp2_with fail
  rw [← HwA.out]
  have x0 := X.out.cell 0
  have xl := X.out.lt
  simp at x0
  go_loop [3, 4] (fun s3 s4 => ∃ (k : Nat) (t : Int), k ≤ sn ∧ s4 = .int .i64 k ∧ s3 = .int .i64 t ∧ 0 ≤ t ∧ t ≤ 5 * k ∧ Hid (t = ((sz.take k).map wN).sum)) (fun _ s4 => sn - (intOf s4).toNat)
  case atStart => exact ⟨0, 0, Nat.zero_le _, rfl, rfl, by omega, by omega, Lib.hid (by simp)⟩
  case round =>
    obtain ⟨k, t, hk, rfl, rfl, ht0, ht1, A⟩ := hrel
    by_cases hlt : k < sn
    · have hlt' : (k : Int) < (sn : Int) := by omega
      have hk0 : (0 : Int) ≤ (k : Int) := by omega
      obtain ⟨b, off, z, rfl, hb, hx, hcell, hwf⟩ := (HI.out.keep hbA).at hlt
      have hz2 := allIn_at HS.out hx
      have hz0 := hz2.1
      have hz1 := hz2.2
      have Hx := Lib.hid (wl_take hx)
      have Hw := wN_in hz0 hz1
      have hw0 := Hw.1
      have hw1 := Hw.2
      clear hx hz2 Hw
      go_wp2_with fail
      go_wp2_with fail
      refine Calls.mono ((spec_l23Width hz0 hz1)) ?_
      rintro e _ ⟨rfl, rfl⟩
      go_wp2_with fail
      go_round
      case rel => exact ⟨k + 1, t + wN z, by omega, by go_num, rfl, by omega, by omega, Lib.hid (by rw [Hx.out, List.sum_append, A.out]; simp)⟩
      case measure => simp [intOf]; omega
    · obtain rfl : sn = k := by omega
      have hlt' : ¬ (sn : Int) < (sn : Int) := by omega
      have h1 := A.out
      rw [take_len HI.out.len] at h1
      subst h1
      go_wp2
      go_ret
      exact ⟨rfl, hbA⟩
set_option maxHeartbeats 1000000 in
theorem spec_l23Small {sa ta ra : Option Addr} {sn sc tn tc rn rc : Nat} {sz : List Int} {w : World} (hI : Ints w sa sn sc sz) (hn : sn ≤ 1048576) (hs : allIn 1 32 sz = true) :
    Calls Tryz.prog 62 #[.agg #[.slice sa sn sc, .slice ta tn tc, .slice ra rn rc]] w fun e w' => e = .returned (.int .i64 (smC sz)) ∧ Below w.heap.size w w' := by
  have KT := fun (wx : World) (hb : Below w.heap.size w wx) => spec_l23Total (ta := ta) (tn := tn) (tc := tc) (ra := ra) (rn := rn) (rc := rc) (hI.keep hb) hn hs
  have hq : smB sz = decide ((sz.map wN).sum ≤ 20) := rfl
  generalize (sz.map wN).sum = t at *
  have K1 := Lib.hid KT
  clear KT hI hs
  by_cases h : t ≤ 20
  · have HQ := Lib.hid (show smC sz = 0 by rw [smC, hq, decide_eq_true h]; rfl)
    have h' : ¬ 20 < t := by omega
    clear h hq
    go_enter Tryz.func62, Tryz.ntmps62
    go_wp2_with fail
    refine Calls.mono (K1.out _ bel) ?_
    rintro e w1 ⟨rfl, hb_w1⟩
    obtain ⟨hc_w1, hf_w1⟩ := bcell hb_w1
    have hs_w1 := hb_w1.size
    go_wp2
    go_ret
    exact ⟨by rw [HQ.out]; rfl, bel⟩
  · have HQ := Lib.hid (show smC sz = 3 by rw [smC, hq, decide_eq_false h]; rfl)
    have h' : 20 < t := by omega
    clear h hq
    go_enter Tryz.func62, Tryz.ntmps62
    go_wp2_with fail
    refine Calls.mono (K1.out _ bel) ?_
    rintro e w1 ⟨rfl, hb_w1⟩
    obtain ⟨hc_w1, hf_w1⟩ := bcell hb_w1
    have hs_w1 := hb_w1.size
    go_wp2
    go_ret
    exact ⟨by rw [HQ.out]; rfl, bel⟩
set_option maxHeartbeats 2000000 in
theorem spec_l23Bits {sa ta ra va : Option Addr} {sn sc tn tc rn rc vn vc : Nat} {sz vs : List Int} {w : World} (hI : Ints w sa sn sc sz) (hV : Ints w va vn vc vs) (hn : sn ≤ 16) (hs : allIn 1 32 sz = true) (hst : stateB sz vs = true) :
    Calls Tryz.prog 121 #[.agg #[.slice sa sn sc, .slice ta tn tc, .slice ra rn rc], .slice va vn vc] w fun e w' => ∃ m a c, e = .returned (.slice a m c) ∧ Below w.heap.size w w' ∧ OwnI 2 w' w.heap.size a m c (stBits sz vs) ∧ m ≤ 80 := by
  obtain rfl : vn = sn := by have := hI.len; have := hV.len; have := stateB_len hst; omega
  have HI := Lib.hid hI
  have HV := Lib.hid hV
  have HS := Lib.hid hs
  have HST := Lib.hid hst
  clear hI hs hV hst
  have X := Lib.hid (Blk.made w #[.slice sa vn sc, .slice ta tn tc, .slice ra rn rc] 36)
  have hbA : Below w.heap.size w (w.alloc (.cells #[.slice sa vn sc, .slice ta tn tc, .slice ra rn rc] 36)) := bel
  obtain ⟨wA, hwA⟩ : ∃ wA : World, wA = w.alloc (.cells #[.slice sa vn sc, .slice ta tn tc, .slice ra rn rc] 36) := ⟨_, rfl⟩
  rw [← hwA] at X hbA
  have HwA := Lib.hid hwA
  have O1 := Lib.hid (show OwnI 2 (wA.alloc (.cells #[] 2)) wA.heap.size (some ⟨w.heap.size + 1, 0, none⟩) 0 0 [] by have h := OwnI.empty (E := 2) (base := wA.heap.size) wA (Nat.le_refl _); have e : wA.heap.size = w.heap.size + 1 := (by rw [hwA]; simp); rw [e] at h ⊢; exact h)
  have hbB : Below w.heap.size w (wA.alloc (.cells #[] 2)) := bel
  have X1 := Lib.hid (X.out.keep ((Below.refl _ _).alloc (Nat.le_refl _) (.cells #[] 2)))
  have hxl := X.out.lt
  clear hwA X
  go_enter Tryz.func121, Tryz.ntmps121
  go_wp2_with fail
  rw [← HwA.out]
  go_loopw [5, 6, 7] (fun s5 s6 _ wr => ∃ (k m1 : Nat) (a1 : Option Addr) (c1 : Nat), k ≤ vn ∧ s5 = .slice a1 m1 c1 ∧ s6 = .int .i64 k ∧ Below wA.heap.size wA wr ∧ m1 ≤ 5 * k ∧ Hid (OwnI 2 wr wA.heap.size a1 m1 c1 (stBits (sz.take k) (vs.take k))) ∧ Hid (Blk wr w.heap.size #[.slice sa vn sc, .slice ta tn tc, .slice ra rn rc] 36)) (fun _ s6 _ _ => vn - (intOf s6).toNat)
  case atStart => exact ⟨0, 0, _, 0, Nat.zero_le _, rfl, rfl, bel, by omega, O1, X1⟩
  case round =>
    clear O1 X1
    obtain ⟨k, m1, a1, c1, hk, rfl, rfl, hbw, hm1, HO, X⟩ := hrel
    have hbl : Below w.heap.size w wr := below_call hbA hbw hbA.size
    have hsz := hbw.size
    have x0 := X.out.cell 0
    have xl := X.out.lt
    simp at x0
    by_cases hlt : k < vn
    · have hlt' : (k : Int) < (vn : Int) := by omega
      have hk0 : (0 : Int) ≤ (k : Int) := by omega
      obtain ⟨b, off, x, rfl, hb, hx, hcell, hwf⟩ := (HV.out.keep hbl).at hlt
      obtain ⟨b', off', z, rfl, hb', hz, hcell', _⟩ := (HI.out.keep hbl).at hlt
      have hz2 := allIn_at HS.out hz
      have hz0 := hz2.1
      have hz1 := hz2.2
      have hx2 := stateB_at HST.out hx hz
      have hw2 := wN_cases hz2.1 hz2.2
      obtain ⟨W, hW⟩ : ∃ W : Nat, wN z = (W : Int) := ⟨(wN z).toNat, by omega⟩
      have HX := Lib.hid (stBits_step hx hz)
      rw [hW, Int.toNat_natCast] at HX
      have HB := Lib.hid (show ∀ j, j ≤ 4 → bitAt x j = 0 ∨ bitAt x j = 1 from fun j hj => bitAt_in hx2.1 (by omega) hj)
      have hW5 : W ≤ 5 := by omega
      have e1 : IntKind.i64.wrap ((W : Int) - 1) = (W : Int) - 1 := IntWalk.i64_in _ (by omega)
      have HWd := Lib.hid (fun wx => spec_l23Width (z := z) (w := wx) hz0 hz1)
      rw [hW] at HWd
      have HVl := Lib.hid (HV.out.keep hbA)
      have HXg := Lib.hid hx
      clear hx hz hz2 hx2 hw2 hW hz0 hz1
      go_wp2_with fail
      go_wp2_with fail
      refine Calls.mono ((HWd.out _)) ?_
      rintro e _ ⟨rfl, rfl⟩
      go_wp2_with fail
      have Xc := X
      clear x0 xl
      go_loopw [5, 7] (fun s5 s7 wq => ∃ (i m2 : Nat) (a2 : Option Addr) (c2 : Nat) (bt : Int), i ≤ W ∧ s7 = .int .i64 bt ∧ bt = (W : Int) - 1 - i ∧ s5 = .slice a2 m2 c2 ∧ Below wA.heap.size wA wq ∧ m2 ≤ 5 * k + i ∧ Hid (OwnI 2 wq wA.heap.size a2 m2 c2 (stBits (sz.take k) (vs.take k) ++ (bitsDn x W).take i)) ∧ Hid (Blk wq w.heap.size #[.slice (some ⟨b', off', none⟩) vn sc, .slice ta tn tc, .slice ra rn rc] 36)) (fun _ s7 _ => (intOf s7 + 1).toNat)
      case atStart => exact ⟨0, m1, a1, c1, _, Nat.zero_le _, rfl, by omega, rfl, hbw, by omega, by simpa using HO, X⟩
      case round =>
        have hcell9 : ∀ wx, Below wA.heap.size wA wx → wx.cell? ⟨b, off + k, none⟩ = some (.int .i64 x) ∧ b < wx.heap.size := fun wx hbx => by
          obtain ⟨b9, off9, x9, e9, h1, h2, h3, _⟩ := (HVl.out.keep hbx).at hlt
          simp only [Option.some.injEq, Addr.mk.injEq, and_true] at e9
          obtain ⟨rfl, rfl⟩ := e9
          rw [HXg.out] at h2
          simp only [Option.some.injEq] at h2
          subst h2
          exact ⟨h3, h1⟩
        clear HO hcell hcell' hbl hbw hsz X Xc
        obtain ⟨i, m2, a2, c2, bt, hi, rfl, hbt, rfl, hbw, hm2, HO, X⟩ := hrel
        have hbl : Below w.heap.size w wr := below_call hbA hbw hbA.size
        have hsz := hbw.size
        have hcell := (hcell9 _ hbw).1
        have hblt := (hcell9 _ hbw).2
        clear hcell9
        by_cases hlti : i < W
        · obtain ⟨j, hj⟩ : ∃ j : Nat, bt = (j : Int) := ⟨bt.toNat, by omega⟩
          subst hj
          have hj2 : W - 1 - i = j := by omega
          have hj4 : j ≤ 4 := by omega
          have Hg := Lib.hid (take_at (bitsDn_get (x := x) hlti))
          rw [hj2] at Hg
          have hbit := HB.out j hj4
          have HB9 := Lib.hid (show I64 (bits BinOp.and IntKind.i64 (x / 2 ^ j) 1) by have h : I64 (bitAt x j) := (by rcases hbit with h | h <;> rw [h] <;> (unfold I64; omega)); exact h)
          clear hbit
          go_wp2_with (at_builtin; refine append1_i64 rfl _ _ 22 2 rfl Tryz.underlying22 Tryz.infoi64 wA.heap.size _ _ _ _ (HO.out.keep ((Below.refl _ _).alloc (Nat.le_refl _) (.cells #[.int .i64 (bits BinOp.and IntKind.i64 (x / 2 ^ j) 1)] 2))) rfl wr.heap.size (bits BinOp.and IntKind.i64 (x / 2 ^ j) 1) rfl (by simp) HB9.out (by omega) (by simp; omega) ?_; intro a3 c3 w3 hown3 hb3 hg3)
          have Hown3 := Lib.hid hown3
          have X3 := Lib.hid (Blk.keepB (X.out.keep ((Below.refl _ _).alloc (Nat.le_refl _) (.cells #[.int .i64 (bits BinOp.and IntKind.i64 (x / 2 ^ j) 1)] 2))) hb3 hxl)
          clear hown3 hg3
          go_roundw
          case rel => exact ⟨i + 1, m2 + 1, a3, c3, _, by omega, rfl, by omega, rfl, Below.trans bel hb3, by omega, Lib.hid (by rw [Hg.out, ← List.append_assoc]; exact Hown3.out), X3⟩
          case measure => simp [intOf]; omega
        · have hj0 : ¬ 0 ≤ bt := by omega
          obtain rfl : i = W := by omega
          have h1 := HO.out
          rw [show (bitsDn x i).take i = bitsDn x i from List.take_of_length_le (by rw [bitsDn_len]; omega), ← HX.out] at h1
          have HO2 := Lib.hid h1
          clear h1
          go_wp2_with fail
          go_roundw
          case rel => exact ⟨k + 1, m2, a2, c2, by omega, rfl, by go_num, hbw, by omega, HO2, X⟩
          case measure => simp [intOf]; omega
    · obtain rfl : vn = k := by omega
      have hlt' : ¬ (vn : Int) < (vn : Int) := by omega
      have h1 := HO.out
      rw [take_len HI.out.len, take_len HV.out.len] at h1
      have HO2 := Lib.hid h1
      clear h1
      go_wp2
      go_ret
      exact ⟨_, _, _, rfl, hbl, HO2.out.le hbA.size, by omega⟩
theorem flat_inv {α : Type} {k : Nat} {enc : α → List Value} (hk : ∀ x, (enc x).length = k) (h0 : 0 < k) : ∀ {l : List α} {j : Nat} {u : Value}, (l.flatMap enc)[j]? = some u → ∃ x, l[j / k]? = some x ∧ (enc x)[j % k]? = some u
  | [], j, u, h => by simp at h
  | y :: r, j, u, h => by
    rw [List.flatMap_cons] at h
    by_cases hj : j < k
    · rw [List.getElem?_append_left (by rw [hk]; exact hj)] at h
      exact ⟨y, by rw [Nat.div_eq_of_lt hj]; rfl, by rw [Nat.mod_eq_of_lt hj]; exact h⟩
    · obtain ⟨j', rfl⟩ : ∃ j', j = j' + k := ⟨j - k, by omega⟩
      rw [List.getElem?_append_right (by rw [hk]; omega), hk, Nat.add_sub_cancel] at h
      obtain ⟨x, h1, h2⟩ := flat_inv hk h0 h
      exact ⟨x, by rw [Nat.add_div_right _ h0]; exact h1, by rw [Nat.add_mod_right]; exact h2⟩
/-- 'append(out, xs...)' of records of k cells to a slice of the call's own -/
theorem appendL_F {α : Type} {k : Nat} {enc : α → List Value} {ok : α → Prop} {z : Value} {by' : Nat} {P : Program} {w : World} {ops : Array Oper} {rest : List Oper} {o : Oper} {act : Act} {Q : Exit → Act → World → Prop} (hgd : o.guard = none) (s x : Operand) (t e : TypeId)
    (ho : o.op = .call { callee := .builtin .append, args := #[s, x], argTypes := #[t, t] }) (ht : P.underlying t = some (.slice e)) (hinfo : (P.info? e).map (fun i => (i.zero, i.size, i.bytes)) = some (some z, k, by'))
    (hzs : z.cells.size = k) (hk : 0 < k) (hby : by' ≤ 128) (hone : ∀ y : α, ∀ u ∈ enc y, u.oneCell' = true)
    (base : Nat) (a : Option Addr) (n c : Nat) (l : List α) (hown : OwnF k enc ok e w base a n c l) (hs : act.eval s = .slice a n c) (a2 : Option Addr) (m c2 : Nat) (l2 : List α) (hx : act.eval x = .slice a2 m c2) (hsrc : Flats k enc ok w a2 m c2 l2)
    (hn : n ≤ 4194304) (hm : m ≤ 4194304) (hbase : base ≤ w.heap.size)
    (K : ∀ a' c' w', OwnF k enc ok e w' base a' (n + m) c' (l ++ l2) → Below base w w' → w.grownBy w' (Value.slice a n c).ownBlock → (a' = none → a = none) → wpList P ops Q rest (act.put o.dst (.slice a' (n + m) c')) w') : wpList P ops Q (o :: rest) act w := by
  obtain ⟨i, hi, hz0, hz1, hz2⟩ := info_parts hinfo
  obtain ⟨hown1, hok, hlen, henc⟩ := hown
  have hmul : ∀ q : List α, (q.flatMap enc).length = q.length * k := fun q => by
    induction q with
    | nil => simp
    | cons y r ih => rw [List.flatMap_cons, List.length_append, ih, henc, List.length_cons, Nat.succ_mul, Nat.add_comm]
  cases a2 with
  | none =>
    obtain ⟨rfl, rfl⟩ := hsrc.nil rfl
    have hl2 : l2 = [] := List.length_eq_zero_iff.1 hsrc.len
    subst hl2
    refine wpList_append_own_none hgd s x t ho base e i k ht hi (.slice a n c) n _ hs hown1 hx ?_
    refine K a c w ?_ (Below.refl _ _) (grownBy_refl _ _) id
    rw [List.append_nil]; exact ⟨hown1, hok, hlen, henc⟩
  | some ad =>
    refine wpList_append_own w hgd s x t ho base e i z k by' ht hi hz0 hz1 hz2 hzs hk (.slice a n c) n _ hs hown1 ad m c2 (l2.flatMap enc) hx (by rw [hmul, hsrc.len]) ?_ ?_ (by unfold maxLen; omega) (Nat.le_trans (Nat.mul_le_mul_left (n + m) hby) (by omega)) hbase ?_
    · intro j u hj
      obtain ⟨x, h1, h2⟩ := flat_inv henc hk hj
      have hjm : j / k < m := by rw [← hsrc.len]; exact (List.getElem?_eq_some_iff.1 h1).1
      obtain ⟨b, off, he, _, hc⟩ := hsrc.pos.resolve_left (Nat.ne_of_gt (Nat.lt_of_le_of_lt (Nat.zero_le _) hjm))
      simp only [Option.some.injEq] at he
      subst he
      have e1 : (⟨b, off, none⟩ : Addr).add j = ⟨b, off + j, none⟩ := by by_cases h0 : j = 0 <;> simp [Addr.add, h0]
      have := hc _ x h1 _ u h2
      rw [Nat.add_assoc, Nat.mul_comm, Nat.div_add_mod] at this
      rw [e1]; exact this
    · intro u hu
      obtain ⟨y, _, hy⟩ := List.mem_flatMap.1 hu
      exact hone y u hy
    · intro v' w' hown' hg hnil
      have hform := Joins.ownsRow_forms hown'
      have hb : Below base w w' := (Below.refl _ _).grown hg hbase fun q hq => (hown1.lt q hq).1
      have hmap : l.flatMap enc ++ l2.flatMap enc = (l ++ l2).flatMap enc := (List.flatMap_append ..).symm
      have hw : ∀ y ∈ l ++ l2, ok y := fun y hy => by
        rcases List.mem_append.1 hy with h | h
        · exact hok y h
        · exact hsrc.wf y h
      have hll : (l ++ l2).length = n + m := by rw [List.length_append, hlen, hsrc.len]
      rw [hmap] at hown'
      rcases hform with ⟨hv, h0⟩ | ⟨g, cap, hv⟩
      · have h1 := hnil.1 hv
        rw [hv] at hown' ⊢
        have h2 := K none 0 w' (by rw [h0] at hown' hll ⊢; exact ⟨hown', hw, hll, henc⟩) hb hg (fun _ => by have := h1.1; simp only [Value.slice.injEq] at this; exact this.1)
        rw [h0] at h2; exact h2
      · rw [hv] at hown' ⊢
        exact K _ _ _ ⟨hown', hw, hll, henc⟩ hb hg (fun h => by cases h)
theorem addr_add0 {b o i : Nat} : (⟨b, o, none⟩ : Addr).add i = ⟨b, o + i, none⟩ := by by_cases h0 : i = 0 <;> simp [Addr.add, h0]
/-- 's[lo:hi]' of a slice that is read -/
theorem Ints.part {w : World} {a : Option Addr} {n c : Nat} {l : List Int} (h : Ints w a n c l) {lo hi : Nat} (h1 : lo ≤ hi) (h2 : hi ≤ n) : Ints w (if c = lo then a else a.map (·.add lo)) (hi - lo) (c - lo) ((l.drop lo).take (hi - lo)) := by
  have hc := h.cap
  have hl := h.len
  refine ⟨by rw [List.length_take, List.length_drop, hl]; omega, by omega, ?_, fun x hx => h.wf x (List.mem_of_mem_drop (List.mem_of_mem_take hx)), fun e => ?_⟩
  · by_cases h0 : hi - lo = 0
    · exact .inl h0
    · obtain ⟨b, off, ha, hlt, hx⟩ := h.pos.resolve_left (by omega)
      subst ha
      refine .inr ⟨b, off + lo, ?_, hlt, fun i x hi' => ?_⟩
      · rw [if_neg (by omega), Option.map_some, addr_add0]
      · rw [List.getElem?_take] at hi'
        split at hi'
        · rw [List.getElem?_drop] at hi'
          rw [Nat.add_assoc]; exact hx _ _ hi'
        · cases hi'
  · have ha : a = none := by
      split at e
      · exact e
      · cases a with
        | none => rfl
        | some => cases e
    have := h.nil ha
    omega

def valOf (l : List Int) : Int := l.foldl (fun a b => 2 * a + b) 0
theorem valOf_step {l : List Int} {k : Nat} {x : Int} (h : l[k]? = some x) : valOf (l.take (k + 1)) = 2 * valOf (l.take k) + x := by
  rw [valOf, take_at h, List.foldl_append]; rfl
theorem valOf_in {l : List Int} (h : allIn 0 1 l = true) (k : Nat) (hk : k ≤ 5) : 0 ≤ valOf (l.take k) ∧ valOf (l.take k) ≤ 2 ^ k - 1 := by
  induction k with
  | zero => simp [valOf]
  | succ k ih =>
    have h1 := ih (by omega)
    cases hx : l[k]? with
    | none =>
      rw [List.take_of_length_le (by have := List.getElem?_eq_none_iff.1 hx; omega)]
      rw [List.take_of_length_le (by have := List.getElem?_eq_none_iff.1 hx; omega)] at h1
      have : (2 : Int) ^ (k + 1) = 2 * 2 ^ k := by rw [Int.pow_succ, Int.mul_comm]
      omega
    | some x =>
      have h2 := allIn_at h hx
      rw [valOf_step hx]
      have : (2 : Int) ^ (k + 1) = 2 * 2 ^ k := by rw [Int.pow_succ, Int.mul_comm]
      omega
theorem valOf_31 {l : List Int} (h : allIn 0 1 l = true) {k : Nat} (hk : k ≤ 5) : 0 ≤ valOf (l.take k) ∧ valOf (l.take k) ≤ 31 := by
  have h1 := valOf_in h k hk
  have h2 : (2 : Int) ^ k ≤ 32 := by
    rcases (show k = 0 ∨ k = 1 ∨ k = 2 ∨ k = 3 ∨ k = 4 ∨ k = 5 by omega) with rfl | rfl | rfl | rfl | rfl | rfl <;> decide
  omega
theorem allIn_part {lo hi : Int} {l : List Int} (h : allIn lo hi l = true) (a b : Nat) : allIn lo hi ((l.drop a).take b) = true := by
  rw [allIn, List.all_eq_true] at *
  exact fun x hx => h x (List.mem_of_mem_drop (List.mem_of_mem_take hx))
def offN (sz : List Int) (k : Nat) : Nat := ((sz.take k).map fun z => (wN z).toNat).sum
theorem offN_step {sz : List Int} {k : Nat} {z : Int} (h : sz[k]? = some z) : offN sz (k + 1) = offN sz k + (wN z).toNat := by
  rw [offN, take_at h, List.map_append, List.sum_append]; simp [offN]
theorem offN_le {sz : List Int} {k : Nat} (h : k ≤ sz.length) : offN sz k ≤ offN sz sz.length := by
  have : offN sz sz.length = offN sz k + ((sz.drop k).map fun z => (wN z).toNat).sum := by
    rw [offN, offN, List.take_length, ← List.sum_append, ← List.map_append, List.take_append_drop]
  omega
theorem offN_full {sz : List Int} (h : allIn 1 32 sz = true) : (offN sz sz.length : Int) = (sz.map wN).sum := by
  rw [offN, List.take_length]
  induction sz with
  | nil => rfl
  | cons z r ih =>
    rw [allIn, List.all_cons, Bool.and_eq_true] at h
    have h1 := ih (by rw [allIn]; exact h.2)
    have h2 := h.1
    simp [inB] at h2
    have h3 := wN_in h2.1 h2.2
    simp only [List.map_cons, List.sum_cons]
    omega
/-- the values of bits -/
def stV (sz bits : List Int) : List Int := (List.range sz.length).map fun k : Nat => valOf ((bits.drop (offN sz k)).take (wN (sz.getD k 0)).toNat)
theorem stV_at {sz bits : List Int} {k : Nat} {z : Int} (h : sz[k]? = some z) : (stV sz bits)[k]? = some (valOf ((bits.drop (offN sz k)).take (wN z).toNat)) := by
  rw [stV, range_get (List.getElem?_eq_some_iff.1 h).1, getD_of h]
set_option maxHeartbeats 2000000 in
theorem impl_valuesOf {sa ta ra va : Option Addr} {sn sc tn tc rn rc vn vc : Nat} {sz bs : List Int} {w : World} (hI : Ints w sa sn sc sz) (hV : Ints w va vn vc bs) (hn : sn ≤ 16) (hs : allIn 1 32 sz = true) (hb : allIn 0 1 bs = true) (hl : vn = offN sz sn) :
    Calls Tryz.prog 111 #[.agg #[.slice sa sn sc, .slice ta tn tc, .slice ra rn rc], .slice va vn vc] w fun e w' => ∃ a c, e = .returned (.slice a sn c) ∧ Below w.heap.size w w' ∧ OwnI 2 w' w.heap.size a sn c (stV sz bs) := by
  have HW := Lib.hid (fun (wx : World) (hb : Below w.heap.size w wx) => impl_widths (ta := ta) (tn := tn) (tc := tc) (ra := ra) (rn := rn) (rc := rc) (hI.keep hb) (by omega) hs)
  have HI := Lib.hid hI
  have HV := Lib.hid hV
  have HS := Lib.hid hs
  have HB := Lib.hid hb
  have HL := Lib.hid hl
  clear hI hs hV hb hl
  go_enter Tryz.func111, Tryz.ntmps111
  go_wp2_with fail
  refine Calls.mono (HW.out _ bel) ?_
  rintro e w1 ⟨aw, cw, rfl, hb1, ho⟩
  have hbl1 : Below w.heap.size w w1 := bel
  have HWI := Lib.hid ho.ints
  clear ho hb1
  go_wp2_with fail
  have hv0 := (HV.out.keep hbl1)
  have A0 := Lib.hid (show Ints w1 va vn vc (bs.drop (offN sz 0)) by simpa [offN] using hv0)
  clear hv0
  go_loopw [1, 7, 9, 10, 12, 20] (fun s1 s7 _ _ _ s20 wr => ∃ (k m : Nat) (aa : Option Addr) (cc : Nat) (a1 : Option Addr) (c1 : Nat), k ≤ sn ∧ s1 = .slice aa m cc ∧ s7 = .slice a1 k c1 ∧ s20 = .int .i64 k ∧ Below w1.heap.size w1 wr ∧ Hid (m + offN sz k = vn) ∧ Hid (Ints w1 aa m cc (bs.drop (offN sz k))) ∧ Hid (OwnI 2 wr w1.heap.size a1 k c1 ((stV sz bs).take k))) (fun _ _ _ _ _ s20 _ => sn - (intOf s20).toNat)
  case atStart => exact ⟨0, vn, va, vc, none, 0, Nat.zero_le _, rfl, rfl, rfl, Below.refl _ _, Lib.hid (by simp [offN]), A0, Lib.hid (OwnI.nil _ _ _)⟩
  case round =>
    clear A0
    obtain ⟨k, m, aa, cc, a1, c1, hk, rfl, rfl, rfl, hbw, HM, A, HO⟩ := hrel
    have hbl : Below w.heap.size w wr := below_call hbl1 hbw hbl1.size
    have hsz := hbw.size
    by_cases hlt : k < sn
    · have hlt' : (k : Int) < (sn : Int) := by omega
      have hk0 : (0 : Int) ≤ (k : Int) := by omega
      obtain ⟨z, hz⟩ : ∃ z, sz[k]? = some z := ⟨_, List.getElem?_eq_getElem (show k < sz.length by rw [HI.out.len]; exact hlt)⟩
      have hz2 := allIn_at HS.out hz
      have hw2 := wN_in hz2.1 hz2.2
      obtain ⟨W, hW⟩ : ∃ W : Nat, wN z = (W : Int) := ⟨(wN z).toNat, by omega⟩
      obtain ⟨b', off', y, rfl, hb', hy, hcell', _⟩ := (HWI.out.keep hbw).at hlt
      obtain rfl : y = (W : Int) := by rw [List.getElem?_map, hz] at hy; simp at hy; omega
      have hst := offN_step hz
      have hsv := stV_at (bits := bs) hz
      rw [hW, Int.toNat_natCast] at hst hsv
      have hle := offN_le (sz := sz) (k := k + 1) (by rw [HI.out.len]; omega)
      have hm9 := HM.out
      have hl9 := HL.out
      rw [HI.out.len] at hle
      have hWm : W ≤ m := by omega
      have hWm' : (W : Int) ≤ (m : Int) := by omega
      have hW5 : W ≤ 5 := by omega
      have hmc := A.out.cap
      have hWc : (W : Int) ≤ (cc : Int) := by omega
      have HST := Lib.hid hst
      have HSV := Lib.hid hsv
      have P1 := Lib.hid (A.out.take hWm)
      have HP := Lib.hid (allIn_part HB.out (offN sz k) W)
      have P2 := Lib.hid (A.out.part (lo := W) (hi := m) hWm (Nat.le_refl _))
      clear hz hy hz2 hw2 hW hst hsv hle hm9 hl9
      go_wp2_with fail
      go_loop [10, 12, 28] (fun s10 _ s28 => ∃ (i : Nat) (v : Int), i ≤ W ∧ s28 = .int .i64 i ∧ s10 = .int .i64 v ∧ 0 ≤ v ∧ v ≤ 31 ∧ Hid (v = valOf (((bs.drop (offN sz k)).take W).take i))) (fun _ _ s28 => W - (intOf s28).toNat)
      case atStart => exact ⟨0, 0, Nat.zero_le _, rfl, rfl, by omega, by omega, Lib.hid (by simp [valOf])⟩
      case round =>
        obtain ⟨i, v, hi, rfl, rfl, hv0, hv1, HVv⟩ := hrel
        by_cases hlti : i < W
        · have hlti' : (i : Int) < (W : Int) := by omega
          have hi0 : (0 : Int) ≤ (i : Int) := by omega
          obtain ⟨b, off, x, rfl, hb, hx, hcell, hwf⟩ := (P1.out.keep hbw).at hlti
          have hx2 := allIn_at HP.out hx
          have hx0 := hx2.1
          have hx1 := hx2.2
          have Hn := Lib.hid (valOf_step hx)
          have Hn3 := Lib.hid (valOf_31 HP.out (show i + 1 ≤ 5 by omega))
          clear hx hx2
          go_wp2
          go_round
          case rel => exact ⟨i + 1, 2 * v + x, by omega, by go_num, rfl, by omega, by have h1 := Hn.out; have h2 := Hn3.out; rw [← HVv.out] at h1; omega, Lib.hid (by rw [Hn.out, HVv.out])⟩
          case measure => simp [intOf]; omega
        · obtain rfl : i = W := by omega
          have hlti' : ¬ (i : Int) < (i : Int) := by omega
          have hv9 := HVv.out
          rw [List.take_take, Nat.min_self] at hv9
          have HV9 := Lib.hid hv9
          clear hv9
          go_wp2_with (at_builtin; refine append1_i64 rfl _ _ 22 2 rfl Tryz.underlying22 Tryz.infoi64 w1.heap.size _ _ _ _ (HO.out.keep ((Below.refl _ _).alloc (Nat.le_refl _) (.cells #[.int .i64 v] 2))) rfl wr.heap.size v rfl (by simp) (by unfold I64; omega) (by omega) (by simp; omega) ?_; intro a3 c3 w3 hown3 hb3 hg3)
          have Hown3 := Lib.hid hown3
          clear hown3 hg3
          go_roundw
          case rel =>
            refine ⟨k + 1, m - i, _, cc - i, a3, c3, by omega, rfl, rfl, by go_num, Below.trans bel hb3, ?_, ?_, ?_⟩
            · refine Lib.hid ?_
              have h1 := HM.out
              rw [HST.out]; omega
            · refine Lib.hid ?_
              have h1 := P2.out
              have h2 := HM.out
              have h3 := HV.out.len
              rw [List.drop_drop, List.take_of_length_le (by rw [List.length_drop]; omega), ← HST.out] at h1
              exact h1
            · refine Lib.hid ?_
              rw [take_at HSV.out, ← HV9.out]
              exact Hown3.out
          case measure => simp [intOf]; omega
    · obtain rfl : sn = k := by omega
      have hlt' : ¬ (sn : Int) < (sn : Int) := by omega
      have h1 := HO.out
      rw [List.take_of_length_le (by simp [stV]; rw [HI.out.len]; exact Nat.le_refl _)] at h1
      have HO2 := Lib.hid h1
      clear h1
      go_wp2
      go_ret
      exact ⟨_, _, rfl, hbl, HO2.out.le hbl1.size⟩
end Go.Proofs.YtkaikbaagajckaaGreat
