/- The law of restraints. -/
import Derived.Test.YtoaccicfmfiemaaLk
import Derived.Test.YtoaccicfmfiemaaD26d
import Derived.Test.YtoaccicfmfiemaaBg
import Derived.Test.YtoaccicfmfiemaaRl
namespace Go.Proofs.Ytoaccicfmfiemaa
open Go.RowKit
set_option linter.unusedVariables false
set_option linter.unusedSimpArgs false
theorem runL_app (l : List Int) (s1 s2 : List I2) : runL l (s1 ++ s2) = (runL l s1).bind fun m => runL m s2 := by
  unfold runL; rw [List.foldlM_append]; rfl
theorem runL_in {l l' : List Int} {st : List I2} (hl : allIn 0 2 l = true) (h : runL l st = some l') : allIn 0 2 l' = true := by
  unfold runL at h
  induction st generalizing l with
  | nil => simp at h; rw [← h]; exact hl
  | cons x r ih =>
    rw [List.foldlM_cons] at h
    cases hs : stepR l x with
    | none => rw [hs] at h; cases h
    | some l1 => rw [hs] at h; exact ih (stepR_in hl hs) h
theorem runCode0 {l : List Int} {st : List I2} (h : runCode l st = 0) : areRes l = true ∧ st.length ≤ 200 ∧ (st.any fun x => !stepOk l.length x) = false ∧ ∃ L, runL l st = some L ∧ runRes l st = L := by
  have h' := h
  unfold runCode at h'
  split at h'
  · omega
  · split at h'
    · omega
    · split at h'
      · omega
      · split at h'
        · omega
        · rename_i h1 h2 h3 h4
          refine ⟨by simpa using h1, by omega, by simpa using h3, ?_⟩
          cases hL : runL l st with
          | none => exact absurd hL h4
          | some L => exact ⟨L, rfl, by rw [runRes, if_pos h, hL]; rfl⟩
theorem runCode_of {l L : List Int} {st : List I2} (h1 : areRes l = true) (h2 : st.length ≤ 200) (h3 : (st.any fun x => !stepOk l.length x) = false) (h4 : runL l st = some L) : runCode l st = 0 ∧ runRes l st = L := by
  have h : runCode l st = 0 := by
    unfold runCode
    rw [if_neg (by simp [h1]), if_neg (by omega), if_neg (by simp [h3]), if_neg (by simp [h4])]
  exact ⟨h, by rw [runRes, if_pos h, h4]; rfl⟩
theorem areRes_of {l m : List Int} (h : areRes l = true) (hl : m.length = l.length) (hi : allIn 0 2 m = true) : areRes m = true := by
  simp only [areRes, Bool.and_eq_true] at h ⊢
  exact ⟨hi, by rw [hl]; exact h.2⟩
theorem run_split {l : List Int} {st : List I2} (h : runCode l st = 0) (k : Nat) : runCode l (st.take k) = 0 ∧ runCode (runRes l (st.take k)) (st.drop k) = 0 ∧ runRes (runRes l (st.take k)) (st.drop k) = runRes l st ∧ areRes (runRes l st) = true := by
  obtain ⟨h1, h2, h3, L, h4, h5⟩ := runCode0 h
  have e := runL_app l (st.take k) (st.drop k)
  rw [List.take_append_drop, h4] at e
  cases hm : runL l (st.take k) with
  | none => rw [hm] at e; cases e
  | some m =>
    rw [hm] at e
    have e' : runL m (st.drop k) = some L := e.symm
    have hin : allIn 0 2 l = true := by simp only [areRes, Bool.and_eq_true] at h1; exact h1.1
    have hall := List.any_eq_false.1 h3
    obtain ⟨a1, a2⟩ := runCode_of h1 (st := st.take k) (by rw [List.length_take]; omega) (by rw [List.any_eq_false]; exact fun x hx => hall x (List.mem_of_mem_take hx)) hm
    have hml := runL_len hm
    have hmi := runL_in hin hm
    obtain ⟨b1, b2⟩ := runCode_of (areRes_of h1 hml hmi) (st := st.drop k) (by rw [List.length_drop]; omega) (by rw [hml, List.any_eq_false]; exact fun x hx => hall x (List.mem_of_mem_drop hx)) e'
    rw [a2, h5]
    exact ⟨a1, b1, b2, areRes_of h1 (runL_len h4) (runL_in hin h4)⟩
theorem lock_all {y : List Int} {x : I2} (h : runCode y [x] = 0) (hx : x.a = 2) : (areRes (runRes y [x]) && allEq 2 (runRes y [x])) = true := by
  obtain ⟨h1, h2, h3, L, h4, h5⟩ := runCode0 h
  obtain ⟨_, _, _, h6⟩ := run_split h 0
  rw [h6, h5]
  have h7 : stepR y x = some L := by
    unfold runL at h4
    rw [List.foldlM_cons] at h4
    cases hs : stepR y x with
    | none => rw [hs] at h4; cases h4
    | some l1 => rw [hs] at h4; simpa using h4
  unfold stepR at h7
  rw [if_neg (by omega), if_neg (by omega), if_pos hx] at h7
  split at h7
  · cases h7
  · simp only [Option.some.injEq] at h7
    subst h7
    simp [allEq]
theorem F2.from {w : World} {a : Option Addr} {n c : Nat} {l : List I2} (h : F2 w a n c l) {m : Nat} (hm : m ≤ n) : F2 w (if c = m then a else a.map (·.add (m * 2))) (n - m) (c - m) (l.drop m) := by
  have hc := h.cap
  have hl := h.len
  refine ⟨by rw [List.length_drop, hl], by omega, ?_, fun x hx => h.wf x (List.mem_of_mem_drop hx), fun e => ?_⟩
  · by_cases h0 : n - m = 0
    · exact .inl h0
    · obtain ⟨b, off, ha, hlt, hx⟩ := h.pos.resolve_left (by omega)
      subst ha
      refine .inr ⟨b, off + m * 2, ?_, hlt, fun i x hi j v hv => ?_⟩
      · rw [if_neg (by omega), Option.map_some, addr_add0]
      · rw [List.getElem?_drop] at hi
        have := hx _ _ hi j v hv
        rw [show off + m * 2 + i * 2 + j = off + (m + i) * 2 + j by omega]
        exact this
  · have ha : a = none := by
      split at e
      · exact e
      · cases a with
        | none => rfl
        | some => cases e
    have := h.nil ha
    omega
theorem Byts.ne {w : World} {a : Option Addr} {n c g : Nat} (h : Byts w a n c) (hg : w.heap.size ≤ g) : 0 < n → ∀ q off, a = some ⟨q, off, none⟩ → q ≠ g := fun h0 q off e => by
  obtain ⟨b, off', ha, hlt, _⟩ := h.pos.resolve_left (by omega)
  rw [ha] at e
  simp only [Option.some.injEq, Addr.mk.injEq] at e
  omega
set_option maxHeartbeats 4000000 in
theorem law_FnRestraints {a : Option Addr} {n c : Nat} {w : World} (hB : Byts w a n c) : Calls Try.prog 5 #[.slice a n c] w fun e w' => e = .returned (.bool true) ∧ Below w.heap.size w w' := by
  have HB := Lib.hid hB
  clear hB
  by_cases hn : n ≤ 4096
  · go_enter Try.func5, Try.ntmps5
    go_wp2_with fail
    refine Calls.mono (laws_big_no hn) ?_
    rintro e _ ⟨rfl, rfl⟩
    go_wp2_with fail
    refine Calls.mono (spec_DrawRunRestraints HB.out hn) ?_
    rintro e w1 ⟨a1, n1, c1, l, a2, n2, c2, st, rfl, h1, hn1, h3, hn2, hb_w1⟩
    have hs_w1 := hb_w1.size
    have k1 := fun (wx : World) (hb : Below w1.heap.size w1 wx) => impl_RunRestraints (h1.keep hb) (h3.keep hb) (by omega) (by omega)
    have k2 := fun (wx : World) (hb : Below w1.heap.size w1 wx) => spec_RunRestraints (h1.keep hb) (h3.keep hb) (by omega) (by omega)
    have k3 := fun (wx : World) (hb : Below w1.heap.size w1 wx) => impl_AreRestraints (h1.keep hb) (by omega)
    have k4 := fun (wx : World) (hb : Below w1.heap.size w1 wx) => spec_AreRestraints (h1.keep hb) (by omega)
    have k5 := fun (wx : World) (hb : Below w1.heap.size w1 wx) (k : Nat) (hk : k ≤ n2) => impl_RunRestraints (h1.keep hb) ((h3.keep hb).take hk) (by omega) (by omega)
    have k6 := fun (wx : World) (hb : Below w1.heap.size w1 wx) (k : Nat) (hk : k ≤ n2) => F2.from (h3.keep hb) hk
    have hc := fun (h : runCode l st = 0) (k : Nat) => run_split h k
    have rl := runRes_len (l := l) (st := st)
    have rl2 := fun (k : Nat) => runRes_len (l := l) (st := st.take k)
    have hl := h1.len
    have hcap := h3.cap
    rw [hl] at rl
    unfold OwnRetC at k1 k2 k5
    have K5 := Lib.hid k5
    have K6 := Lib.hid k6
    clear k5 k6 h1 h3
    generalize hC : runCode l st = C at *
    generalize hX : runRes l st = X at *
    generalize areRes l = R at *
    have K1 := Lib.hid k1
    have K2 := Lib.hid k2
    have K3 := Lib.hid k3
    have K4 := Lib.hid k4
    have HC := Lib.hid hc
    have RL2 := Lib.hid rl2
    have Hl := Lib.hid hl
    clear k1 k2 k3 k4 hc rl2 hC hX hl
    have q1 : (C != C) = false := by simp
    have q2 : (R != R) = false := by simp
    go_wp2_with fail
    refine Calls.mono (K1.out _ (by repeat (first | exact Below.refl _ _ | assumption | refine below_allocS ?_ _ | refine below_callS ?_ (by assumption) | (refine Below.alloc ?_ (by first | omega | (simp; done) | (simp; omega)) _) | (refine Below.setCell ?_ (by first | omega | (simp; done) | (simp; omega)) _) | refine Below.drew ?_ | refine below_drewN ?_ _ | (refine below_call ?_ (by assumption) (by first | omega | (simp; done) | (simp; omega))) | (refine Below.trans ?_ (by assumption))))) ?_
    rintro e w2 ⟨m2, a21, c21, rfl, hb_w2, o2⟩
    have hs_w2 := hb_w2.size
    have O2 := Lib.hid o2.ints
    clear o2
    go_wp2_with fail
    refine Calls.mono (K2.out _ (by repeat (first | exact Below.refl _ _ | assumption | refine below_allocS ?_ _ | refine below_callS ?_ (by assumption) | (refine Below.alloc ?_ (by first | omega | (simp; done) | (simp; omega)) _) | (refine Below.setCell ?_ (by first | omega | (simp; done) | (simp; omega)) _) | refine Below.drew ?_ | refine below_drewN ?_ _ | (refine below_call ?_ (by assumption) (by first | omega | (simp; done) | (simp; omega))) | (refine Below.trans ?_ (by assumption))))) ?_
    rintro e w3 ⟨m3, a31, c31, rfl, hb_w3, o3⟩
    have hs_w3 := hb_w3.size
    have O3 := Lib.hid o3.ints
    clear o3
    have y2 : m2 ≤ 1048576 := by have := O2.out.len; omega
    have y3 : m3 ≤ 1048576 := by have := O3.out.len; omega
    go_wp2_with fail
    refine Calls.mono (spec_DrawStepRestraints (HB.out.keep (by repeat (first | exact Below.refl _ _ | assumption | refine below_allocS ?_ _ | refine below_callS ?_ (by assumption) | (refine Below.alloc ?_ (by first | omega | (simp; done) | (simp; omega)) _) | (refine Below.setCell ?_ (by first | omega | (simp; done) | (simp; omega)) _) | refine Below.drew ?_ | refine below_drewN ?_ _ | (refine below_call ?_ (by assumption) (by first | omega | (simp; done) | (simp; omega))) | (refine Below.trans ?_ (by assumption))))) hn) ?_
    rintro e w4 ⟨a4, n4, c4, y, x, rfl, h4, hn4, hx, hb_w4⟩
    have hs_w4 := hb_w4.size
    have k1 := fun (wx : World) (hb : Below w4.heap.size w4 wx) => impl_StepRestraints (h4.keep hb) (by omega) hx
    have k2 := fun (wx : World) (hb : Below w4.heap.size w4 wx) => spec_StepRestraints (h4.keep hb) (by omega) hx
    have hc := fun (h : runCode y [x] = 0) (hx : x.a = 2) => lock_all h hx
    have rz := runRes_len (l := y) (st := [x])
    rw [h4.len] at rz
    unfold OwnRetC at k1 k2
    clear h4
    generalize runCode y [x] = D at *
    generalize runRes y [x] = Z at *
    obtain ⟨xa, xb⟩ := x
    simp only at hc k1 k2
    have K7 := Lib.hid k1
    have K8 := Lib.hid k2
    have HD := Lib.hid hc
    clear k1 k2 hc hx
    have q3 : (D != D) = false := by simp
    go_wp2_with fail
    refine Calls.mono (K7.out _ (by repeat (first | exact Below.refl _ _ | assumption | refine below_allocS ?_ _ | refine below_callS ?_ (by assumption) | (refine Below.alloc ?_ (by first | omega | (simp; done) | (simp; omega)) _) | (refine Below.setCell ?_ (by first | omega | (simp; done) | (simp; omega)) _) | refine Below.drew ?_ | refine below_drewN ?_ _ | (refine below_call ?_ (by assumption) (by first | omega | (simp; done) | (simp; omega))) | (refine Below.trans ?_ (by assumption))))) ?_
    rintro e w5 ⟨m5, a5, c5, rfl, hb_w5, o5⟩
    obtain ⟨hc_w5, hf_w5⟩ := bcell hb_w5
    have hs_w5 := hb_w5.size
    simp at hs_w5
    have O5 := Lib.hid o5.ints
    clear o5
    have hz5 : w4.heap.size < w5.heap.size := by omega
    go_wp2_with fail
    refine Calls.mono (K8.out _ (by repeat (first | exact Below.refl _ _ | assumption | refine below_allocS ?_ _ | refine below_callS ?_ (by assumption) | (refine Below.alloc ?_ (by first | omega | (simp; done) | (simp; omega)) _) | (refine Below.setCell ?_ (by first | omega | (simp; done) | (simp; omega)) _) | refine Below.drew ?_ | refine below_drewN ?_ _ | (refine below_call ?_ (by assumption) (by first | omega | (simp; done) | (simp; omega))) | (refine Below.trans ?_ (by assumption))))) ?_
    rintro e w6 ⟨m6, a6, c6, rfl, hb_w6, o6⟩
    obtain ⟨hc_w6, hf_w6⟩ := bcell hb_w6
    have hs_w6 := hb_w6.size
    have O6 := Lib.hid o6.ints
    clear o6
    have hz6 : w4.heap.size < w6.heap.size := by omega
    have y5 : m5 ≤ 1048576 := by have := O5.out.len; omega
    have y6 : m6 ≤ 1048576 := by have := O6.out.len; omega
    go_wp2_with fail
    refine Calls.mono (laws_likeInts (O2.out.keep (by repeat (first | exact Below.refl _ _ | assumption | refine below_allocS ?_ _ | refine below_callS ?_ (by assumption) | (refine Below.alloc ?_ (by first | omega | (simp; done) | (simp; omega)) _) | (refine Below.setCell ?_ (by first | omega | (simp; done) | (simp; omega)) _) | refine Below.drew ?_ | refine below_drewN ?_ _ | (refine below_call ?_ (by assumption) (by first | omega | (simp; done) | (simp; omega))) | (refine Below.trans ?_ (by assumption))))) (O3.out.keep (by repeat (first | exact Below.refl _ _ | assumption | refine below_allocS ?_ _ | refine below_callS ?_ (by assumption) | (refine Below.alloc ?_ (by first | omega | (simp; done) | (simp; omega)) _) | (refine Below.setCell ?_ (by first | omega | (simp; done) | (simp; omega)) _) | refine Below.drew ?_ | refine below_drewN ?_ _ | (refine below_call ?_ (by assumption) (by first | omega | (simp; done) | (simp; omega))) | (refine Below.trans ?_ (by assumption))))) y2 y3) ?_
    rw [decide_eq_true rfl]
    rintro e w7 ⟨rfl, hb_w7⟩
    obtain ⟨hc_w7, hf_w7⟩ := bcell hb_w7
    have hs_w7 := hb_w7.size
    go_wp2_with fail
    refine Calls.mono (laws_likeInts (O5.out.keep (by repeat (first | exact Below.refl _ _ | assumption | refine below_allocS ?_ _ | refine below_callS ?_ (by assumption) | (refine Below.alloc ?_ (by first | omega | (simp; done) | (simp; omega)) _) | (refine Below.setCell ?_ (by first | omega | (simp; done) | (simp; omega)) _) | refine Below.drew ?_ | refine below_drewN ?_ _ | (refine below_call ?_ (by assumption) (by first | omega | (simp; done) | (simp; omega))) | (refine Below.trans ?_ (by assumption))))) (O6.out.keep (by repeat (first | exact Below.refl _ _ | assumption | refine below_allocS ?_ _ | refine below_callS ?_ (by assumption) | (refine Below.alloc ?_ (by first | omega | (simp; done) | (simp; omega)) _) | (refine Below.setCell ?_ (by first | omega | (simp; done) | (simp; omega)) _) | refine Below.drew ?_ | refine below_drewN ?_ _ | (refine below_call ?_ (by assumption) (by first | omega | (simp; done) | (simp; omega))) | (refine Below.trans ?_ (by assumption))))) y5 y6) ?_
    rw [decide_eq_true rfl]
    rintro e w8 ⟨rfl, hb_w8⟩
    obtain ⟨hc_w8, hf_w8⟩ := bcell hb_w8
    have hs_w8 := hb_w8.size
    have hz7 : w4.heap.size < w7.heap.size := by omega
    have hz8 : w4.heap.size < w8.heap.size := by omega
    go_wp2_with fail
    refine Calls.mono (K3.out _ (by repeat (first | exact Below.refl _ _ | assumption | refine below_allocS ?_ _ | refine below_callS ?_ (by assumption) | (refine Below.alloc ?_ (by first | omega | (simp; done) | (simp; omega)) _) | (refine Below.setCell ?_ (by first | omega | (simp; done) | (simp; omega)) _) | refine Below.drew ?_ | refine below_drewN ?_ _ | (refine below_call ?_ (by assumption) (by first | omega | (simp; done) | (simp; omega))) | (refine Below.trans ?_ (by assumption))))) ?_
    rintro e w9 ⟨rfl, hb_w9⟩
    obtain ⟨hc_w9, hf_w9⟩ := bcell hb_w9
    have hs_w9 := hb_w9.size
    have hz9 : w4.heap.size < w9.heap.size := by omega
    go_wp2_with fail
    refine Calls.mono (K4.out _ (by repeat (first | exact Below.refl _ _ | assumption | refine below_allocS ?_ _ | refine below_callS ?_ (by assumption) | (refine Below.alloc ?_ (by first | omega | (simp; done) | (simp; omega)) _) | (refine Below.setCell ?_ (by first | omega | (simp; done) | (simp; omega)) _) | refine Below.drew ?_ | refine below_drewN ?_ _ | (refine below_call ?_ (by assumption) (by first | omega | (simp; done) | (simp; omega))) | (refine Below.trans ?_ (by assumption))))) ?_
    rintro e _ ⟨rfl, rfl⟩
    by_cases hD0 : D = 0
    · by_cases hxa : xa = 2
      · subst hD0 hxa
        have hlk := HD.out (by first | exact rfl | trivial) (by first | exact rfl | trivial)
        have k1 := fun (wx : World) (hb : Below w5.heap.size w5 wx) => impl_AllLocked (O5.out.keep hb) y5
        rw [hlk] at k1
        have K10 := Lib.hid k1
        clear k1 hlk
        go_wp2_with fail
        refine Calls.mono (K10.out _ (by repeat (first | exact Below.refl _ _ | assumption | refine below_allocS ?_ _ | refine below_callS ?_ (by assumption) | (refine Below.alloc ?_ (by first | omega | (simp; done) | (simp; omega)) _) | (refine Below.setCell ?_ (by first | omega | (simp; done) | (simp; omega)) _) | refine Below.drew ?_ | refine below_drewN ?_ _ | (refine below_call ?_ (by assumption) (by first | omega | (simp; done) | (simp; omega))) | (refine Below.trans ?_ (by assumption))))) ?_
        rintro e w10 ⟨rfl, hb_w10⟩
        have hs_w10 := hb_w10.size
        by_cases hC0 : C = 0
        · subst hC0
          go_wp2_with fail
          refine Calls.mono (laws_roll (HB.out.keep (by repeat (first | exact Below.refl _ _ | assumption | refine below_allocS ?_ _ | refine below_callS ?_ (by assumption) | (refine Below.alloc ?_ (by first | omega | (simp; done) | (simp; omega)) _) | (refine Below.setCell ?_ (by first | omega | (simp; done) | (simp; omega)) _) | refine Below.drew ?_ | refine below_drewN ?_ _ | (refine below_call ?_ (by assumption) (by first | omega | (simp; done) | (simp; omega))) | (refine Below.trans ?_ (by assumption))))) hn) ?_
          rintro e w11 ⟨g, rfl, hb_w11, hg, hDi⟩
          have hs_w11 := hb_w11.size
          have hwg : w.heap.size ≤ g := Nat.le_trans (show Below w.heap.size w w10 by repeat (first | exact Below.refl _ _ | assumption | refine below_allocS ?_ _ | refine below_callS ?_ (by assumption) | (refine Below.alloc ?_ (by first | omega | (simp; done) | (simp; omega)) _) | (refine Below.setCell ?_ (by first | omega | (simp; done) | (simp; omega)) _) | refine Below.drew ?_ | refine below_drewN ?_ _ | (refine below_call ?_ (by assumption) (by first | omega | (simp; done) | (simp; omega))) | (refine Below.trans ?_ (by assumption)))).size hg
          have HDi := Lib.hid hDi
          clear hDi
          go_wp2_with fail
          refine Calls.mono (laws_below (m := (n2 : Int) + 1) (HB.out.keep (by repeat (first | exact Below.refl _ _ | assumption | refine below_allocS ?_ _ | refine below_callS ?_ (by assumption) | (refine Below.alloc ?_ (by first | omega | (simp; done) | (simp; omega)) _) | (refine Below.setCell ?_ (by first | omega | (simp; done) | (simp; omega)) _) | refine Below.drew ?_ | refine below_drewN ?_ _ | (refine below_call ?_ (by assumption) (by first | omega | (simp; done) | (simp; omega))) | (refine Below.trans ?_ (by assumption))))) HDi.out (HB.out.ne hwg) (by omega) (by omega) hn) ?_
          rintro e w12 ⟨kk, rfl, hk0, hk1, ho⟩
          have hb_w12 : Below w10.heap.size w10 w12 := ho.below hb_w11 hg hb_w11.size
          have hs_w12 := hb_w12.size
          clear ho hb_w11
          obtain ⟨k, rfl⟩ := Int.eq_ofNat_of_zero_le hk0
          have hk : k ≤ n2 := by omega
          have hkz : (0 : Int) ≤ (k : Int) := by omega
          have hkc : (k : Int) ≤ (c2 : Int) := by omega
          have hkn : (k : Int) ≤ (n2 : Int) := by omega
          have hnc : (n2 : Int) ≤ (c2 : Int) := by omega
          obtain ⟨e1, e2, e3, e4⟩ := HC.out (by first | exact rfl | trivial) k
          have E1 := Lib.hid e1
          have E2 := Lib.hid e2
          have E3 := Lib.hid e3
          have E4 := Lib.hid e4
          have hr2 := RL2.out k
          rw [Hl.out] at hr2
          clear e1 e2 e3 e4
          go_wp2_with fail
          refine Calls.mono (K5.out _ (by repeat (first | exact Below.refl _ _ | assumption | refine below_allocS ?_ _ | refine below_callS ?_ (by assumption) | (refine Below.alloc ?_ (by first | omega | (simp; done) | (simp; omega)) _) | (refine Below.setCell ?_ (by first | omega | (simp; done) | (simp; omega)) _) | refine Below.drew ?_ | refine below_drewN ?_ _ | (refine below_call ?_ (by assumption) (by first | omega | (simp; done) | (simp; omega))) | (refine Below.trans ?_ (by assumption)))) k hk) ?_
          rw [E1.out]
          rintro e w13 ⟨m13, a13, c13, rfl, hb_w13, o13⟩
          have hs_w13 := hb_w13.size
          have y13 : m13 ≤ 1048576 := by have := o13.len; omega
          have O13 := Lib.hid o13.ints
          clear o13
          have k9 := fun (wx : World) (hb : Below w13.heap.size w13 wx) (hb1 : Below w1.heap.size w1 wx) => impl_RunRestraints (O13.out.keep hb) (K6.out _ hb1 k hk) y13 (by omega)
          rw [E2.out, E3.out] at k9
          unfold OwnRetC at k9
          by_cases hck : c2 = k
          · obtain rfl : n2 = k := by omega
            obtain rfl : c2 = n2 := hck
            simp only [if_true, Nat.sub_self] at k9
            have K9 := Lib.hid k9
            clear k9
            go_wp2_with fail
            refine Calls.mono (K9.out _ (by repeat (first | exact Below.refl _ _ | assumption | refine below_allocS ?_ _ | refine below_callS ?_ (by assumption) | (refine Below.alloc ?_ (by first | omega | (simp; done) | (simp; omega)) _) | (refine Below.setCell ?_ (by first | omega | (simp; done) | (simp; omega)) _) | refine Below.drew ?_ | refine below_drewN ?_ _ | (refine below_call ?_ (by assumption) (by first | omega | (simp; done) | (simp; omega))) | (refine Below.trans ?_ (by assumption)))) (by repeat (first | exact Below.refl _ _ | assumption | refine below_allocS ?_ _ | refine below_callS ?_ (by assumption) | (refine Below.alloc ?_ (by first | omega | (simp; done) | (simp; omega)) _) | (refine Below.setCell ?_ (by first | omega | (simp; done) | (simp; omega)) _) | refine Below.drew ?_ | refine below_drewN ?_ _ | (refine below_call ?_ (by assumption) (by first | omega | (simp; done) | (simp; omega))) | (refine Below.trans ?_ (by assumption))))) ?_
            rintro e w14 ⟨m14, a14, c14, rfl, hb_w14, o14⟩
            have hs_w14 := hb_w14.size
            have y14 : m14 ≤ 1048576 := by have h1 := o14.len; have h2 := O2.out.len; omega
            have O14 := Lib.hid o14.ints
            clear o14
            go_wp2_with fail
            refine Calls.mono (laws_likeInts (O14.out.keep (by repeat (first | exact Below.refl _ _ | assumption | refine below_allocS ?_ _ | refine below_callS ?_ (by assumption) | (refine Below.alloc ?_ (by first | omega | (simp; done) | (simp; omega)) _) | (refine Below.setCell ?_ (by first | omega | (simp; done) | (simp; omega)) _) | refine Below.drew ?_ | refine below_drewN ?_ _ | (refine below_call ?_ (by assumption) (by first | omega | (simp; done) | (simp; omega))) | (refine Below.trans ?_ (by assumption))))) (O2.out.keep (by repeat (first | exact Below.refl _ _ | assumption | refine below_allocS ?_ _ | refine below_callS ?_ (by assumption) | (refine Below.alloc ?_ (by first | omega | (simp; done) | (simp; omega)) _) | (refine Below.setCell ?_ (by first | omega | (simp; done) | (simp; omega)) _) | refine Below.drew ?_ | refine below_drewN ?_ _ | (refine below_call ?_ (by assumption) (by first | omega | (simp; done) | (simp; omega))) | (refine Below.trans ?_ (by assumption))))) y14 y2) ?_
            rw [decide_eq_true rfl]
            rintro e w15 ⟨rfl, hb_w15⟩
            have hs_w15 := hb_w15.size
            go_wp2_with fail
            refine Calls.mono (impl_AreRestraints (O2.out.keep (by repeat (first | exact Below.refl _ _ | assumption | refine below_allocS ?_ _ | refine below_callS ?_ (by assumption) | (refine Below.alloc ?_ (by first | omega | (simp; done) | (simp; omega)) _) | (refine Below.setCell ?_ (by first | omega | (simp; done) | (simp; omega)) _) | refine Below.drew ?_ | refine below_drewN ?_ _ | (refine below_call ?_ (by assumption) (by first | omega | (simp; done) | (simp; omega))) | (refine Below.trans ?_ (by assumption))))) y2) ?_
            rw [E4.out]
            rintro e w16 ⟨rfl, hb_w16⟩
            go_wp2
            go_ret
            exact ⟨rfl, by repeat (first | exact Below.refl _ _ | assumption | refine below_allocS ?_ _ | refine below_callS ?_ (by assumption) | (refine Below.alloc ?_ (by first | omega | (simp; done) | (simp; omega)) _) | (refine Below.setCell ?_ (by first | omega | (simp; done) | (simp; omega)) _) | refine Below.drew ?_ | refine below_drewN ?_ _ | (refine below_call ?_ (by assumption) (by first | omega | (simp; done) | (simp; omega))) | (refine Below.trans ?_ (by assumption)))⟩
          · have hck' : ¬ (k : Int) = (c2 : Int) := by omega
            simp only [if_neg hck] at k9
            have K9 := Lib.hid k9
            clear k9
            go_wp2_with fail
            refine Calls.mono (K9.out _ (by repeat (first | exact Below.refl _ _ | assumption | refine below_allocS ?_ _ | refine below_callS ?_ (by assumption) | (refine Below.alloc ?_ (by first | omega | (simp; done) | (simp; omega)) _) | (refine Below.setCell ?_ (by first | omega | (simp; done) | (simp; omega)) _) | refine Below.drew ?_ | refine below_drewN ?_ _ | (refine below_call ?_ (by assumption) (by first | omega | (simp; done) | (simp; omega))) | (refine Below.trans ?_ (by assumption)))) (by repeat (first | exact Below.refl _ _ | assumption | refine below_allocS ?_ _ | refine below_callS ?_ (by assumption) | (refine Below.alloc ?_ (by first | omega | (simp; done) | (simp; omega)) _) | (refine Below.setCell ?_ (by first | omega | (simp; done) | (simp; omega)) _) | refine Below.drew ?_ | refine below_drewN ?_ _ | (refine below_call ?_ (by assumption) (by first | omega | (simp; done) | (simp; omega))) | (refine Below.trans ?_ (by assumption))))) ?_
            rintro e w14 ⟨m14, a14, c14, rfl, hb_w14, o14⟩
            have hs_w14 := hb_w14.size
            have y14 : m14 ≤ 1048576 := by have h1 := o14.len; have h2 := O2.out.len; omega
            have O14 := Lib.hid o14.ints
            clear o14
            go_wp2_with fail
            refine Calls.mono (laws_likeInts (O14.out.keep (by repeat (first | exact Below.refl _ _ | assumption | refine below_allocS ?_ _ | refine below_callS ?_ (by assumption) | (refine Below.alloc ?_ (by first | omega | (simp; done) | (simp; omega)) _) | (refine Below.setCell ?_ (by first | omega | (simp; done) | (simp; omega)) _) | refine Below.drew ?_ | refine below_drewN ?_ _ | (refine below_call ?_ (by assumption) (by first | omega | (simp; done) | (simp; omega))) | (refine Below.trans ?_ (by assumption))))) (O2.out.keep (by repeat (first | exact Below.refl _ _ | assumption | refine below_allocS ?_ _ | refine below_callS ?_ (by assumption) | (refine Below.alloc ?_ (by first | omega | (simp; done) | (simp; omega)) _) | (refine Below.setCell ?_ (by first | omega | (simp; done) | (simp; omega)) _) | refine Below.drew ?_ | refine below_drewN ?_ _ | (refine below_call ?_ (by assumption) (by first | omega | (simp; done) | (simp; omega))) | (refine Below.trans ?_ (by assumption))))) y14 y2) ?_
            rw [decide_eq_true rfl]
            rintro e w15 ⟨rfl, hb_w15⟩
            have hs_w15 := hb_w15.size
            go_wp2_with fail
            refine Calls.mono (impl_AreRestraints (O2.out.keep (by repeat (first | exact Below.refl _ _ | assumption | refine below_allocS ?_ _ | refine below_callS ?_ (by assumption) | (refine Below.alloc ?_ (by first | omega | (simp; done) | (simp; omega)) _) | (refine Below.setCell ?_ (by first | omega | (simp; done) | (simp; omega)) _) | refine Below.drew ?_ | refine below_drewN ?_ _ | (refine below_call ?_ (by assumption) (by first | omega | (simp; done) | (simp; omega))) | (refine Below.trans ?_ (by assumption))))) y2) ?_
            rw [E4.out]
            rintro e w16 ⟨rfl, hb_w16⟩
            go_wp2
            go_ret
            exact ⟨rfl, by repeat (first | exact Below.refl _ _ | assumption | refine below_allocS ?_ _ | refine below_callS ?_ (by assumption) | (refine Below.alloc ?_ (by first | omega | (simp; done) | (simp; omega)) _) | (refine Below.setCell ?_ (by first | omega | (simp; done) | (simp; omega)) _) | refine Below.drew ?_ | refine below_drewN ?_ _ | (refine below_call ?_ (by assumption) (by first | omega | (simp; done) | (simp; omega))) | (refine Below.trans ?_ (by assumption)))⟩
        · have hC' : (C != 0) = true := by simpa using hC0
          clear hC0
          go_wp2
          go_ret
          exact ⟨rfl, by repeat (first | exact Below.refl _ _ | assumption | refine below_allocS ?_ _ | refine below_callS ?_ (by assumption) | (refine Below.alloc ?_ (by first | omega | (simp; done) | (simp; omega)) _) | (refine Below.setCell ?_ (by first | omega | (simp; done) | (simp; omega)) _) | refine Below.drew ?_ | refine below_drewN ?_ _ | (refine below_call ?_ (by assumption) (by first | omega | (simp; done) | (simp; omega))) | (refine Below.trans ?_ (by assumption)))⟩
      · subst hD0
        have hx' : (xa == 2) = false := by simpa using hxa
        clear hxa
        by_cases hC0 : C = 0
        · subst hC0
          go_wp2_with fail
          refine Calls.mono (laws_roll (HB.out.keep (by repeat (first | exact Below.refl _ _ | assumption | refine below_allocS ?_ _ | refine below_callS ?_ (by assumption) | (refine Below.alloc ?_ (by first | omega | (simp; done) | (simp; omega)) _) | (refine Below.setCell ?_ (by first | omega | (simp; done) | (simp; omega)) _) | refine Below.drew ?_ | refine below_drewN ?_ _ | (refine below_call ?_ (by assumption) (by first | omega | (simp; done) | (simp; omega))) | (refine Below.trans ?_ (by assumption))))) hn) ?_
          rintro e w11 ⟨g, rfl, hb_w11, hg, hDi⟩
          have hs_w11 := hb_w11.size
          have hwg : w.heap.size ≤ g := Nat.le_trans (show Below w.heap.size w w9 by repeat (first | exact Below.refl _ _ | assumption | refine below_allocS ?_ _ | refine below_callS ?_ (by assumption) | (refine Below.alloc ?_ (by first | omega | (simp; done) | (simp; omega)) _) | (refine Below.setCell ?_ (by first | omega | (simp; done) | (simp; omega)) _) | refine Below.drew ?_ | refine below_drewN ?_ _ | (refine below_call ?_ (by assumption) (by first | omega | (simp; done) | (simp; omega))) | (refine Below.trans ?_ (by assumption)))).size hg
          have HDi := Lib.hid hDi
          clear hDi
          go_wp2_with fail
          refine Calls.mono (laws_below (m := (n2 : Int) + 1) (HB.out.keep (by repeat (first | exact Below.refl _ _ | assumption | refine below_allocS ?_ _ | refine below_callS ?_ (by assumption) | (refine Below.alloc ?_ (by first | omega | (simp; done) | (simp; omega)) _) | (refine Below.setCell ?_ (by first | omega | (simp; done) | (simp; omega)) _) | refine Below.drew ?_ | refine below_drewN ?_ _ | (refine below_call ?_ (by assumption) (by first | omega | (simp; done) | (simp; omega))) | (refine Below.trans ?_ (by assumption))))) HDi.out (HB.out.ne hwg) (by omega) (by omega) hn) ?_
          rintro e w12 ⟨kk, rfl, hk0, hk1, ho⟩
          have hb_w12 : Below w9.heap.size w9 w12 := ho.below hb_w11 hg hb_w11.size
          have hs_w12 := hb_w12.size
          clear ho hb_w11
          obtain ⟨k, rfl⟩ := Int.eq_ofNat_of_zero_le hk0
          have hk : k ≤ n2 := by omega
          have hkz : (0 : Int) ≤ (k : Int) := by omega
          have hkc : (k : Int) ≤ (c2 : Int) := by omega
          have hkn : (k : Int) ≤ (n2 : Int) := by omega
          have hnc : (n2 : Int) ≤ (c2 : Int) := by omega
          obtain ⟨e1, e2, e3, e4⟩ := HC.out (by first | exact rfl | trivial) k
          have E1 := Lib.hid e1
          have E2 := Lib.hid e2
          have E3 := Lib.hid e3
          have E4 := Lib.hid e4
          have hr2 := RL2.out k
          rw [Hl.out] at hr2
          clear e1 e2 e3 e4
          go_wp2_with fail
          refine Calls.mono (K5.out _ (by repeat (first | exact Below.refl _ _ | assumption | refine below_allocS ?_ _ | refine below_callS ?_ (by assumption) | (refine Below.alloc ?_ (by first | omega | (simp; done) | (simp; omega)) _) | (refine Below.setCell ?_ (by first | omega | (simp; done) | (simp; omega)) _) | refine Below.drew ?_ | refine below_drewN ?_ _ | (refine below_call ?_ (by assumption) (by first | omega | (simp; done) | (simp; omega))) | (refine Below.trans ?_ (by assumption)))) k hk) ?_
          rw [E1.out]
          rintro e w13 ⟨m13, a13, c13, rfl, hb_w13, o13⟩
          have hs_w13 := hb_w13.size
          have y13 : m13 ≤ 1048576 := by have := o13.len; omega
          have O13 := Lib.hid o13.ints
          clear o13
          have k9 := fun (wx : World) (hb : Below w13.heap.size w13 wx) (hb1 : Below w1.heap.size w1 wx) => impl_RunRestraints (O13.out.keep hb) (K6.out _ hb1 k hk) y13 (by omega)
          rw [E2.out, E3.out] at k9
          unfold OwnRetC at k9
          by_cases hck : c2 = k
          · obtain rfl : n2 = k := by omega
            obtain rfl : c2 = n2 := hck
            simp only [if_true, Nat.sub_self] at k9
            have K9 := Lib.hid k9
            clear k9
            go_wp2_with fail
            refine Calls.mono (K9.out _ (by repeat (first | exact Below.refl _ _ | assumption | refine below_allocS ?_ _ | refine below_callS ?_ (by assumption) | (refine Below.alloc ?_ (by first | omega | (simp; done) | (simp; omega)) _) | (refine Below.setCell ?_ (by first | omega | (simp; done) | (simp; omega)) _) | refine Below.drew ?_ | refine below_drewN ?_ _ | (refine below_call ?_ (by assumption) (by first | omega | (simp; done) | (simp; omega))) | (refine Below.trans ?_ (by assumption)))) (by repeat (first | exact Below.refl _ _ | assumption | refine below_allocS ?_ _ | refine below_callS ?_ (by assumption) | (refine Below.alloc ?_ (by first | omega | (simp; done) | (simp; omega)) _) | (refine Below.setCell ?_ (by first | omega | (simp; done) | (simp; omega)) _) | refine Below.drew ?_ | refine below_drewN ?_ _ | (refine below_call ?_ (by assumption) (by first | omega | (simp; done) | (simp; omega))) | (refine Below.trans ?_ (by assumption))))) ?_
            rintro e w14 ⟨m14, a14, c14, rfl, hb_w14, o14⟩
            have hs_w14 := hb_w14.size
            have y14 : m14 ≤ 1048576 := by have h1 := o14.len; have h2 := O2.out.len; omega
            have O14 := Lib.hid o14.ints
            clear o14
            go_wp2_with fail
            refine Calls.mono (laws_likeInts (O14.out.keep (by repeat (first | exact Below.refl _ _ | assumption | refine below_allocS ?_ _ | refine below_callS ?_ (by assumption) | (refine Below.alloc ?_ (by first | omega | (simp; done) | (simp; omega)) _) | (refine Below.setCell ?_ (by first | omega | (simp; done) | (simp; omega)) _) | refine Below.drew ?_ | refine below_drewN ?_ _ | (refine below_call ?_ (by assumption) (by first | omega | (simp; done) | (simp; omega))) | (refine Below.trans ?_ (by assumption))))) (O2.out.keep (by repeat (first | exact Below.refl _ _ | assumption | refine below_allocS ?_ _ | refine below_callS ?_ (by assumption) | (refine Below.alloc ?_ (by first | omega | (simp; done) | (simp; omega)) _) | (refine Below.setCell ?_ (by first | omega | (simp; done) | (simp; omega)) _) | refine Below.drew ?_ | refine below_drewN ?_ _ | (refine below_call ?_ (by assumption) (by first | omega | (simp; done) | (simp; omega))) | (refine Below.trans ?_ (by assumption))))) y14 y2) ?_
            rw [decide_eq_true rfl]
            rintro e w15 ⟨rfl, hb_w15⟩
            have hs_w15 := hb_w15.size
            go_wp2_with fail
            refine Calls.mono (impl_AreRestraints (O2.out.keep (by repeat (first | exact Below.refl _ _ | assumption | refine below_allocS ?_ _ | refine below_callS ?_ (by assumption) | (refine Below.alloc ?_ (by first | omega | (simp; done) | (simp; omega)) _) | (refine Below.setCell ?_ (by first | omega | (simp; done) | (simp; omega)) _) | refine Below.drew ?_ | refine below_drewN ?_ _ | (refine below_call ?_ (by assumption) (by first | omega | (simp; done) | (simp; omega))) | (refine Below.trans ?_ (by assumption))))) y2) ?_
            rw [E4.out]
            rintro e w16 ⟨rfl, hb_w16⟩
            go_wp2
            go_ret
            exact ⟨rfl, by repeat (first | exact Below.refl _ _ | assumption | refine below_allocS ?_ _ | refine below_callS ?_ (by assumption) | (refine Below.alloc ?_ (by first | omega | (simp; done) | (simp; omega)) _) | (refine Below.setCell ?_ (by first | omega | (simp; done) | (simp; omega)) _) | refine Below.drew ?_ | refine below_drewN ?_ _ | (refine below_call ?_ (by assumption) (by first | omega | (simp; done) | (simp; omega))) | (refine Below.trans ?_ (by assumption)))⟩
          · have hck' : ¬ (k : Int) = (c2 : Int) := by omega
            simp only [if_neg hck] at k9
            have K9 := Lib.hid k9
            clear k9
            go_wp2_with fail
            refine Calls.mono (K9.out _ (by repeat (first | exact Below.refl _ _ | assumption | refine below_allocS ?_ _ | refine below_callS ?_ (by assumption) | (refine Below.alloc ?_ (by first | omega | (simp; done) | (simp; omega)) _) | (refine Below.setCell ?_ (by first | omega | (simp; done) | (simp; omega)) _) | refine Below.drew ?_ | refine below_drewN ?_ _ | (refine below_call ?_ (by assumption) (by first | omega | (simp; done) | (simp; omega))) | (refine Below.trans ?_ (by assumption)))) (by repeat (first | exact Below.refl _ _ | assumption | refine below_allocS ?_ _ | refine below_callS ?_ (by assumption) | (refine Below.alloc ?_ (by first | omega | (simp; done) | (simp; omega)) _) | (refine Below.setCell ?_ (by first | omega | (simp; done) | (simp; omega)) _) | refine Below.drew ?_ | refine below_drewN ?_ _ | (refine below_call ?_ (by assumption) (by first | omega | (simp; done) | (simp; omega))) | (refine Below.trans ?_ (by assumption))))) ?_
            rintro e w14 ⟨m14, a14, c14, rfl, hb_w14, o14⟩
            have hs_w14 := hb_w14.size
            have y14 : m14 ≤ 1048576 := by have h1 := o14.len; have h2 := O2.out.len; omega
            have O14 := Lib.hid o14.ints
            clear o14
            go_wp2_with fail
            refine Calls.mono (laws_likeInts (O14.out.keep (by repeat (first | exact Below.refl _ _ | assumption | refine below_allocS ?_ _ | refine below_callS ?_ (by assumption) | (refine Below.alloc ?_ (by first | omega | (simp; done) | (simp; omega)) _) | (refine Below.setCell ?_ (by first | omega | (simp; done) | (simp; omega)) _) | refine Below.drew ?_ | refine below_drewN ?_ _ | (refine below_call ?_ (by assumption) (by first | omega | (simp; done) | (simp; omega))) | (refine Below.trans ?_ (by assumption))))) (O2.out.keep (by repeat (first | exact Below.refl _ _ | assumption | refine below_allocS ?_ _ | refine below_callS ?_ (by assumption) | (refine Below.alloc ?_ (by first | omega | (simp; done) | (simp; omega)) _) | (refine Below.setCell ?_ (by first | omega | (simp; done) | (simp; omega)) _) | refine Below.drew ?_ | refine below_drewN ?_ _ | (refine below_call ?_ (by assumption) (by first | omega | (simp; done) | (simp; omega))) | (refine Below.trans ?_ (by assumption))))) y14 y2) ?_
            rw [decide_eq_true rfl]
            rintro e w15 ⟨rfl, hb_w15⟩
            have hs_w15 := hb_w15.size
            go_wp2_with fail
            refine Calls.mono (impl_AreRestraints (O2.out.keep (by repeat (first | exact Below.refl _ _ | assumption | refine below_allocS ?_ _ | refine below_callS ?_ (by assumption) | (refine Below.alloc ?_ (by first | omega | (simp; done) | (simp; omega)) _) | (refine Below.setCell ?_ (by first | omega | (simp; done) | (simp; omega)) _) | refine Below.drew ?_ | refine below_drewN ?_ _ | (refine below_call ?_ (by assumption) (by first | omega | (simp; done) | (simp; omega))) | (refine Below.trans ?_ (by assumption))))) y2) ?_
            rw [E4.out]
            rintro e w16 ⟨rfl, hb_w16⟩
            go_wp2
            go_ret
            exact ⟨rfl, by repeat (first | exact Below.refl _ _ | assumption | refine below_allocS ?_ _ | refine below_callS ?_ (by assumption) | (refine Below.alloc ?_ (by first | omega | (simp; done) | (simp; omega)) _) | (refine Below.setCell ?_ (by first | omega | (simp; done) | (simp; omega)) _) | refine Below.drew ?_ | refine below_drewN ?_ _ | (refine below_call ?_ (by assumption) (by first | omega | (simp; done) | (simp; omega))) | (refine Below.trans ?_ (by assumption)))⟩
        · have hC' : (C != 0) = true := by simpa using hC0
          clear hC0
          go_wp2
          go_ret
          exact ⟨rfl, by repeat (first | exact Below.refl _ _ | assumption | refine below_allocS ?_ _ | refine below_callS ?_ (by assumption) | (refine Below.alloc ?_ (by first | omega | (simp; done) | (simp; omega)) _) | (refine Below.setCell ?_ (by first | omega | (simp; done) | (simp; omega)) _) | refine Below.drew ?_ | refine below_drewN ?_ _ | (refine below_call ?_ (by assumption) (by first | omega | (simp; done) | (simp; omega))) | (refine Below.trans ?_ (by assumption)))⟩
    · have hD' : (D == 0) = false := by simpa using hD0
      clear hD0
      by_cases hC0 : C = 0
      · subst hC0
        go_wp2_with fail
        refine Calls.mono (laws_roll (HB.out.keep (by repeat (first | exact Below.refl _ _ | assumption | refine below_allocS ?_ _ | refine below_callS ?_ (by assumption) | (refine Below.alloc ?_ (by first | omega | (simp; done) | (simp; omega)) _) | (refine Below.setCell ?_ (by first | omega | (simp; done) | (simp; omega)) _) | refine Below.drew ?_ | refine below_drewN ?_ _ | (refine below_call ?_ (by assumption) (by first | omega | (simp; done) | (simp; omega))) | (refine Below.trans ?_ (by assumption))))) hn) ?_
        rintro e w11 ⟨g, rfl, hb_w11, hg, hDi⟩
        have hs_w11 := hb_w11.size
        have hwg : w.heap.size ≤ g := Nat.le_trans (show Below w.heap.size w w9 by repeat (first | exact Below.refl _ _ | assumption | refine below_allocS ?_ _ | refine below_callS ?_ (by assumption) | (refine Below.alloc ?_ (by first | omega | (simp; done) | (simp; omega)) _) | (refine Below.setCell ?_ (by first | omega | (simp; done) | (simp; omega)) _) | refine Below.drew ?_ | refine below_drewN ?_ _ | (refine below_call ?_ (by assumption) (by first | omega | (simp; done) | (simp; omega))) | (refine Below.trans ?_ (by assumption)))).size hg
        have HDi := Lib.hid hDi
        clear hDi
        go_wp2_with fail
        refine Calls.mono (laws_below (m := (n2 : Int) + 1) (HB.out.keep (by repeat (first | exact Below.refl _ _ | assumption | refine below_allocS ?_ _ | refine below_callS ?_ (by assumption) | (refine Below.alloc ?_ (by first | omega | (simp; done) | (simp; omega)) _) | (refine Below.setCell ?_ (by first | omega | (simp; done) | (simp; omega)) _) | refine Below.drew ?_ | refine below_drewN ?_ _ | (refine below_call ?_ (by assumption) (by first | omega | (simp; done) | (simp; omega))) | (refine Below.trans ?_ (by assumption))))) HDi.out (HB.out.ne hwg) (by omega) (by omega) hn) ?_
        rintro e w12 ⟨kk, rfl, hk0, hk1, ho⟩
        have hb_w12 : Below w9.heap.size w9 w12 := ho.below hb_w11 hg hb_w11.size
        have hs_w12 := hb_w12.size
        clear ho hb_w11
        obtain ⟨k, rfl⟩ := Int.eq_ofNat_of_zero_le hk0
        have hk : k ≤ n2 := by omega
        have hkz : (0 : Int) ≤ (k : Int) := by omega
        have hkc : (k : Int) ≤ (c2 : Int) := by omega
        have hkn : (k : Int) ≤ (n2 : Int) := by omega
        have hnc : (n2 : Int) ≤ (c2 : Int) := by omega
        obtain ⟨e1, e2, e3, e4⟩ := HC.out (by first | exact rfl | trivial) k
        have E1 := Lib.hid e1
        have E2 := Lib.hid e2
        have E3 := Lib.hid e3
        have E4 := Lib.hid e4
        have hr2 := RL2.out k
        rw [Hl.out] at hr2
        clear e1 e2 e3 e4
        go_wp2_with fail
        refine Calls.mono (K5.out _ (by repeat (first | exact Below.refl _ _ | assumption | refine below_allocS ?_ _ | refine below_callS ?_ (by assumption) | (refine Below.alloc ?_ (by first | omega | (simp; done) | (simp; omega)) _) | (refine Below.setCell ?_ (by first | omega | (simp; done) | (simp; omega)) _) | refine Below.drew ?_ | refine below_drewN ?_ _ | (refine below_call ?_ (by assumption) (by first | omega | (simp; done) | (simp; omega))) | (refine Below.trans ?_ (by assumption)))) k hk) ?_
        rw [E1.out]
        rintro e w13 ⟨m13, a13, c13, rfl, hb_w13, o13⟩
        have hs_w13 := hb_w13.size
        have y13 : m13 ≤ 1048576 := by have := o13.len; omega
        have O13 := Lib.hid o13.ints
        clear o13
        have k9 := fun (wx : World) (hb : Below w13.heap.size w13 wx) (hb1 : Below w1.heap.size w1 wx) => impl_RunRestraints (O13.out.keep hb) (K6.out _ hb1 k hk) y13 (by omega)
        rw [E2.out, E3.out] at k9
        unfold OwnRetC at k9
        by_cases hck : c2 = k
        · obtain rfl : n2 = k := by omega
          obtain rfl : c2 = n2 := hck
          simp only [if_true, Nat.sub_self] at k9
          have K9 := Lib.hid k9
          clear k9
          go_wp2_with fail
          refine Calls.mono (K9.out _ (by repeat (first | exact Below.refl _ _ | assumption | refine below_allocS ?_ _ | refine below_callS ?_ (by assumption) | (refine Below.alloc ?_ (by first | omega | (simp; done) | (simp; omega)) _) | (refine Below.setCell ?_ (by first | omega | (simp; done) | (simp; omega)) _) | refine Below.drew ?_ | refine below_drewN ?_ _ | (refine below_call ?_ (by assumption) (by first | omega | (simp; done) | (simp; omega))) | (refine Below.trans ?_ (by assumption)))) (by repeat (first | exact Below.refl _ _ | assumption | refine below_allocS ?_ _ | refine below_callS ?_ (by assumption) | (refine Below.alloc ?_ (by first | omega | (simp; done) | (simp; omega)) _) | (refine Below.setCell ?_ (by first | omega | (simp; done) | (simp; omega)) _) | refine Below.drew ?_ | refine below_drewN ?_ _ | (refine below_call ?_ (by assumption) (by first | omega | (simp; done) | (simp; omega))) | (refine Below.trans ?_ (by assumption))))) ?_
          rintro e w14 ⟨m14, a14, c14, rfl, hb_w14, o14⟩
          have hs_w14 := hb_w14.size
          have y14 : m14 ≤ 1048576 := by have h1 := o14.len; have h2 := O2.out.len; omega
          have O14 := Lib.hid o14.ints
          clear o14
          go_wp2_with fail
          refine Calls.mono (laws_likeInts (O14.out.keep (by repeat (first | exact Below.refl _ _ | assumption | refine below_allocS ?_ _ | refine below_callS ?_ (by assumption) | (refine Below.alloc ?_ (by first | omega | (simp; done) | (simp; omega)) _) | (refine Below.setCell ?_ (by first | omega | (simp; done) | (simp; omega)) _) | refine Below.drew ?_ | refine below_drewN ?_ _ | (refine below_call ?_ (by assumption) (by first | omega | (simp; done) | (simp; omega))) | (refine Below.trans ?_ (by assumption))))) (O2.out.keep (by repeat (first | exact Below.refl _ _ | assumption | refine below_allocS ?_ _ | refine below_callS ?_ (by assumption) | (refine Below.alloc ?_ (by first | omega | (simp; done) | (simp; omega)) _) | (refine Below.setCell ?_ (by first | omega | (simp; done) | (simp; omega)) _) | refine Below.drew ?_ | refine below_drewN ?_ _ | (refine below_call ?_ (by assumption) (by first | omega | (simp; done) | (simp; omega))) | (refine Below.trans ?_ (by assumption))))) y14 y2) ?_
          rw [decide_eq_true rfl]
          rintro e w15 ⟨rfl, hb_w15⟩
          have hs_w15 := hb_w15.size
          go_wp2_with fail
          refine Calls.mono (impl_AreRestraints (O2.out.keep (by repeat (first | exact Below.refl _ _ | assumption | refine below_allocS ?_ _ | refine below_callS ?_ (by assumption) | (refine Below.alloc ?_ (by first | omega | (simp; done) | (simp; omega)) _) | (refine Below.setCell ?_ (by first | omega | (simp; done) | (simp; omega)) _) | refine Below.drew ?_ | refine below_drewN ?_ _ | (refine below_call ?_ (by assumption) (by first | omega | (simp; done) | (simp; omega))) | (refine Below.trans ?_ (by assumption))))) y2) ?_
          rw [E4.out]
          rintro e w16 ⟨rfl, hb_w16⟩
          go_wp2
          go_ret
          exact ⟨rfl, by repeat (first | exact Below.refl _ _ | assumption | refine below_allocS ?_ _ | refine below_callS ?_ (by assumption) | (refine Below.alloc ?_ (by first | omega | (simp; done) | (simp; omega)) _) | (refine Below.setCell ?_ (by first | omega | (simp; done) | (simp; omega)) _) | refine Below.drew ?_ | refine below_drewN ?_ _ | (refine below_call ?_ (by assumption) (by first | omega | (simp; done) | (simp; omega))) | (refine Below.trans ?_ (by assumption)))⟩
        · have hck' : ¬ (k : Int) = (c2 : Int) := by omega
          simp only [if_neg hck] at k9
          have K9 := Lib.hid k9
          clear k9
          go_wp2_with fail
          refine Calls.mono (K9.out _ (by repeat (first | exact Below.refl _ _ | assumption | refine below_allocS ?_ _ | refine below_callS ?_ (by assumption) | (refine Below.alloc ?_ (by first | omega | (simp; done) | (simp; omega)) _) | (refine Below.setCell ?_ (by first | omega | (simp; done) | (simp; omega)) _) | refine Below.drew ?_ | refine below_drewN ?_ _ | (refine below_call ?_ (by assumption) (by first | omega | (simp; done) | (simp; omega))) | (refine Below.trans ?_ (by assumption)))) (by repeat (first | exact Below.refl _ _ | assumption | refine below_allocS ?_ _ | refine below_callS ?_ (by assumption) | (refine Below.alloc ?_ (by first | omega | (simp; done) | (simp; omega)) _) | (refine Below.setCell ?_ (by first | omega | (simp; done) | (simp; omega)) _) | refine Below.drew ?_ | refine below_drewN ?_ _ | (refine below_call ?_ (by assumption) (by first | omega | (simp; done) | (simp; omega))) | (refine Below.trans ?_ (by assumption))))) ?_
          rintro e w14 ⟨m14, a14, c14, rfl, hb_w14, o14⟩
          have hs_w14 := hb_w14.size
          have y14 : m14 ≤ 1048576 := by have h1 := o14.len; have h2 := O2.out.len; omega
          have O14 := Lib.hid o14.ints
          clear o14
          go_wp2_with fail
          refine Calls.mono (laws_likeInts (O14.out.keep (by repeat (first | exact Below.refl _ _ | assumption | refine below_allocS ?_ _ | refine below_callS ?_ (by assumption) | (refine Below.alloc ?_ (by first | omega | (simp; done) | (simp; omega)) _) | (refine Below.setCell ?_ (by first | omega | (simp; done) | (simp; omega)) _) | refine Below.drew ?_ | refine below_drewN ?_ _ | (refine below_call ?_ (by assumption) (by first | omega | (simp; done) | (simp; omega))) | (refine Below.trans ?_ (by assumption))))) (O2.out.keep (by repeat (first | exact Below.refl _ _ | assumption | refine below_allocS ?_ _ | refine below_callS ?_ (by assumption) | (refine Below.alloc ?_ (by first | omega | (simp; done) | (simp; omega)) _) | (refine Below.setCell ?_ (by first | omega | (simp; done) | (simp; omega)) _) | refine Below.drew ?_ | refine below_drewN ?_ _ | (refine below_call ?_ (by assumption) (by first | omega | (simp; done) | (simp; omega))) | (refine Below.trans ?_ (by assumption))))) y14 y2) ?_
          rw [decide_eq_true rfl]
          rintro e w15 ⟨rfl, hb_w15⟩
          have hs_w15 := hb_w15.size
          go_wp2_with fail
          refine Calls.mono (impl_AreRestraints (O2.out.keep (by repeat (first | exact Below.refl _ _ | assumption | refine below_allocS ?_ _ | refine below_callS ?_ (by assumption) | (refine Below.alloc ?_ (by first | omega | (simp; done) | (simp; omega)) _) | (refine Below.setCell ?_ (by first | omega | (simp; done) | (simp; omega)) _) | refine Below.drew ?_ | refine below_drewN ?_ _ | (refine below_call ?_ (by assumption) (by first | omega | (simp; done) | (simp; omega))) | (refine Below.trans ?_ (by assumption))))) y2) ?_
          rw [E4.out]
          rintro e w16 ⟨rfl, hb_w16⟩
          go_wp2
          go_ret
          exact ⟨rfl, by repeat (first | exact Below.refl _ _ | assumption | refine below_allocS ?_ _ | refine below_callS ?_ (by assumption) | (refine Below.alloc ?_ (by first | omega | (simp; done) | (simp; omega)) _) | (refine Below.setCell ?_ (by first | omega | (simp; done) | (simp; omega)) _) | refine Below.drew ?_ | refine below_drewN ?_ _ | (refine below_call ?_ (by assumption) (by first | omega | (simp; done) | (simp; omega))) | (refine Below.trans ?_ (by assumption)))⟩
      · have hC' : (C != 0) = true := by simpa using hC0
        clear hC0
        go_wp2
        go_ret
        exact ⟨rfl, by repeat (first | exact Below.refl _ _ | assumption | refine below_allocS ?_ _ | refine below_callS ?_ (by assumption) | (refine Below.alloc ?_ (by first | omega | (simp; done) | (simp; omega)) _) | (refine Below.setCell ?_ (by first | omega | (simp; done) | (simp; omega)) _) | refine Below.drew ?_ | refine below_drewN ?_ _ | (refine below_call ?_ (by assumption) (by first | omega | (simp; done) | (simp; omega))) | (refine Below.trans ?_ (by assumption)))⟩
  · go_enter Try.func5, Try.ntmps5
    go_wp2_with fail
    refine Calls.mono (laws_big_yes hn) ?_
    rintro e _ ⟨rfl, rfl⟩
    go_wp2
    go_ret
    exact ⟨rfl, by repeat (first | exact Below.refl _ _ | assumption | refine below_allocS ?_ _ | refine below_callS ?_ (by assumption) | (refine Below.alloc ?_ (by first | omega | (simp; done) | (simp; omega)) _) | (refine Below.setCell ?_ (by first | omega | (simp; done) | (simp; omega)) _) | refine Below.drew ?_ | refine below_drewN ?_ _ | (refine below_call ?_ (by assumption) (by first | omega | (simp; done) | (simp; omega))) | (refine Below.trans ?_ (by assumption)))⟩
end Go.Proofs.Ytoaccicfmfiemaa
