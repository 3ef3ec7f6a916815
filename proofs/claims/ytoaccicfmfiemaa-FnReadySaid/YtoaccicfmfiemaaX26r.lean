/- The law of readiness. -/
import Derived.Test.YtoaccicfmfiemaaL26c
import Derived.Test.YtoaccicfmfiemaaLk
import Derived.Test.YtoaccicfmfiemaaD26c
import Derived.Test.YtoaccicfmfiemaaBg
namespace Go.Proofs.Ytoaccicfmfiemaa
open Go.RowKit
set_option linter.unusedVariables false
set_option linter.unusedSimpArgs false
theorem applyC_hit {ch : Int} {i : Nat} : ∀ {fs : List I3} {b : List Int}, b[i]? = some 0 → (applyC ch b fs)[i]? ≠ some 0 → ∃ f ∈ fs, f.b = ch ∧ f.c ≠ 0 ∧ f.a.toNat = i
  | [], b, h, h' => absurd h h'
  | f :: r, b, h, h' => by
    have e : applyC ch b (f :: r) = applyC ch (if (f.b == ch) = true then b.set f.a.toNat f.c else b) r := rfl
    by_cases h0 : (if (f.b == ch) = true then b.set f.a.toNat f.c else b)[i]? = some 0
    · rw [e] at h'
      obtain ⟨g, hg, r1⟩ := applyC_hit h0 h'
      exact ⟨g, List.mem_cons_of_mem _ hg, r1⟩
    · by_cases hb : (f.b == ch) = true
      · rw [if_pos hb, List.getElem?_set] at h0
        by_cases hi : f.a.toNat = i
        · refine ⟨f, List.mem_cons_self, by simpa using hb, ?_, hi⟩
          have hlt : i < b.length := (List.getElem?_eq_some_iff.1 h).1
          rw [if_pos hi, if_pos (by omega)] at h0
          intro hc; exact h0 (by rw [hc])
        · rw [if_neg hi] at h0; exact absurd h h0
      · rw [if_neg hb] at h0; exact absurd h h0
theorem tol_no {l : List I3} (ht : tolB l = true) {p q : Nat} {x y : I3} (hx : l[p]? = some x) (hy : l[q]? = some y) (hpq : p < q) (ha : x.a = y.a) (h1 : x.c = 1) (h2 : y.c = 1) : False := by
  have hq : q < l.length := (List.getElem?_eq_some_iff.1 hy).1
  have h3 : tolAt l q = true := by
    unfold tolB at ht
    rw [upB, List.all_eq_true] at ht
    exact ht q (by simpa using hq)
  rw [tolAt_eq hy] at h3
  have h4 : (l.take q).any (tolHit y) = true := by
    rw [List.any_eq_true]
    refine ⟨x, List.mem_of_getElem? (i := p) (by rw [List.getElem?_take, if_pos hpq]; exact hx), ?_⟩
    simp [tolHit, ha, h1, h2]
  rw [h4] at h3; cases h3
theorem any0 {b : List Int} {i : Nat} (h : (b.any fun y => 0 == y) = false) : b[i]? ≠ some 0 := fun e => by
  have := List.any_eq_false.1 h 0 (List.mem_of_getElem? e)
  simp at this
theorem ready_locked {l : List Int} {fs : List I3} (h0 : repCode l fs = 0) (hr : readyE l fs = true) (ht : tolB fs = true) : allEq 2 l = true := by
  obtain ⟨h1, h2, h3⟩ := repCode_pos h0
  simp only [readyE, readyB, Bool.and_eq_true, decide_eq_true_eq, Bool.not_eq_true'] at hr
  obtain ⟨_, hr0, hr1⟩ := hr
  rw [allEq, List.all_eq_true]
  intro x hx
  by_cases h : x = 2
  · simp [h]
  · exfalso
    obtain ⟨i, hi⟩ := List.getElem?_of_mem hx
    have hb : (baseL l)[i]? = some 0 := by rw [baseL, List.getElem?_map, hi]; simp [h]
    obtain ⟨f, hf, f1, f2, f3⟩ := applyC_hit hb (any0 hr0)
    obtain ⟨g, hg, g1, g2, g3⟩ := applyC_hit hb (any0 hr1)
    have mf := lockB_mem h2 hf
    have mg := lockB_mem h2 hg
    obtain ⟨p, hp⟩ := List.getElem?_of_mem hf
    obtain ⟨q, hq⟩ := List.getElem?_of_mem hg
    have hpq : p ≠ q := fun e => by subst e; rw [hp] at hq; simp at hq; subst hq; omega
    by_cases hlt : p < q
    · exact tol_no ht hp hq hlt (by omega) (by omega) (by omega)
    · exact tol_no ht hq hp (by omega) (by omega) (by omega) (by omega)
theorem lock_nil {n : Nat} (h : inB n 1 12 = true) : lockB n [] = true := by simp [lockB, upB, h]
theorem rep_nil {l : List Int} {fs : List I3} (h0 : repCode l fs = 0) : repCode l [] = 0 := by
  obtain ⟨h1, _, _⟩ := repCode_pos h0
  have h2 : inB l.length 1 12 = true := by simp only [areRes, Bool.and_eq_true] at h1; exact h1.2
  unfold repCode
  rw [if_neg (by simp [h1]), if_neg (by simp [lock_nil h2])]
theorem ready_nil {l : List Int} {fs : List I3} (h0 : repCode l fs = 0) : readyE l [] = (areRes l && allEq 2 l) := by
  obtain ⟨h1, _, _⟩ := repCode_pos h0
  rw [readyE, rep_nil h0, readyB, h1]
  have e : ∀ ch, applyC ch (baseL l) [] = baseL l := fun _ => rfl
  rw [e, e]
  have h2 : ((baseL l).any fun y => 0 == y) = !allEq 2 l := by
    rw [allEq, baseL, List.any_map, List.not_all_eq_any_not]
    congr 1; funext x
    by_cases h : x = 2 <;> simp [h]
  rw [h2]; simp
theorem repL_len (ch : Int) (l : List Int) (fs : List I3) : (repL ch l fs).length ≤ l.length := by
  unfold repL
  split
  · rw [applyC_len, baseL_len]; exact Nat.le_refl _
  · exact Nat.zero_le _
set_option maxHeartbeats 4000000 in
theorem law_FnReady {a : Option Addr} {n c : Nat} {w : World} (hB : Byts w a n c) : Calls Try.prog 4 #[.slice a n c] w fun e w' => e = .returned (.bool true) ∧ Below w.heap.size w w' := by
  have HB := Lib.hid hB
  clear hB
  by_cases hn : n ≤ 4096
  · go_enter Try.func4, Try.ntmps4
    go_wp2_with fail
    refine Calls.mono (laws_big_no hn) ?_
    rintro e _ ⟨rfl, rfl⟩
    go_wp2_with fail
    refine Calls.mono (spec_DrawIsReady HB.out hn) ?_
    rintro e w1 ⟨a1, n1, c1, l, a2, n2, c2, fs, rfl, h1, hn1, h3, hn2, hb_w1⟩
    have hl := h1.len
    have k1 := fun (wx : World) (hb : Below w1.heap.size w1 wx) => impl_IsReady (h1.keep hb) (h3.keep hb) (by omega) (by omega)
    have k2 := fun (wx : World) (hb : Below w1.heap.size w1 wx) => spec_IsReady (h1.keep hb) (h3.keep hb) (by omega) (by omega)
    have k3 := fun (wx : World) (hb : Below w1.heap.size w1 wx) => impl_LockReport (h1.keep hb) (h3.keep hb) (by omega) (by omega)
    have k4 := fun (wx : World) (hb : Below w1.heap.size w1 wx) => spec_LockReport (h1.keep hb) (h3.keep hb) (by omega) (by omega)
    have k5 := fun (wx : World) (hb : Below w1.heap.size w1 wx) => impl_AreLockFaults (rows := (n1 : Int)) (h3.keep hb) (by omega)
    have k6 := fun (wx : World) (hb : Below w1.heap.size w1 wx) => spec_AreLockFaults (rows := (n1 : Int)) (h3.keep hb) (by omega)
    have k7 := fun (wx : World) (hb : Below w1.heap.size w1 wx) => impl_AreLockFaultsTolerated (rows := (n1 : Int)) (h3.keep hb) (by omega)
    have k8 := fun (wx : World) (hb : Below w1.heap.size w1 wx) => spec_AreLockFaultsTolerated (rows := (n1 : Int)) (h3.keep hb) (by omega)
    have k9 := fun (wx : World) (hb : Below w1.heap.size w1 wx) => impl_AllLocked (h1.keep hb) (by omega)
    have k10 := fun (wx : World) (hb : Below w1.heap.size w1 wx) => spec_AllLocked (h1.keep hb) (by omega)
    have k11 := fun (wx : World) (hb : Below w1.heap.size w1 wx) => impl_IsReady (fs := []) (h1.keep hb) (show F3 wx none 0 0 [] from ⟨rfl, Nat.le_refl _, .inl rfl, (fun _ h => by cases h), fun _ => ⟨rfl, rfl⟩⟩) (by omega) (by omega)
    have hc := fun (h0 : repCode l fs = 0) => (⟨rep_nil h0, ready_nil h0, fun hr ht => (by simp only [Bool.and_eq_true] at ht; rw [ready_locked h0 hr ht.2, (repCode_pos h0).1]; rfl)⟩ : repCode l [] = 0 ∧ readyE l [] = (areRes l && allEq 2 l) ∧ (readyE l fs = true → (lockB n1 fs && tolB fs) = true → (areRes l && allEq 2 l) = true))
    unfold LockRepC at k3 k4
    have r0 : (repL 0 l fs).length ≤ 13 := by have := repL_len 0 l fs; omega
    have r1 : (repL 1 l fs).length ≤ 13 := by have := repL_len 1 l fs; omega
    clear h1 h3 hl
    generalize repCode l [] = C1 at *
    generalize readyE l [] = R1 at *
    generalize repCode l fs = C at *
    generalize readyE l fs = R at *
    generalize (lockB n1 fs && tolB fs) = T at *
    generalize lockB n1 fs = LB at *
    generalize (areRes l && allEq 2 l) = A at *
    generalize repL 0 l fs = L0 at *
    generalize repL 1 l fs = L1 at *
    have K1 := Lib.hid k1
    have K2 := Lib.hid k2
    have K3 := Lib.hid k3
    have K4 := Lib.hid k4
    have K5 := Lib.hid k5
    have K6 := Lib.hid k6
    have K7 := Lib.hid k7
    have K8 := Lib.hid k8
    have K9 := Lib.hid k9
    have K10 := Lib.hid k10
    have K11 := Lib.hid k11
    have HC := Lib.hid hc
    clear k1 k2 k3 k4 k5 k6 k7 k8 k9 k10 k11 hc
    have hs_w1 := hb_w1.size
    have q1 : (C != C) = false := by simp
    have q2 : (R != R) = false := by simp
    have q3 : (LB != LB) = false := by simp
    have q4 : (T != T) = false := by simp
    have q5 : (A != A) = false := by simp
    go_wp2_with fail
    refine Calls.mono (K1.out _ (by repeat (first | exact Below.refl _ _ | assumption | refine below_allocS ?_ _ | refine below_callS ?_ (by assumption) | (refine Below.alloc ?_ (by first | omega | (simp; done) | (simp; omega)) _) | (refine Below.setCell ?_ (by first | omega | (simp; done) | (simp; omega)) _) | refine Below.drew ?_ | refine below_drewN ?_ _ | (refine below_call ?_ (by assumption) (by first | omega | (simp; done) | (simp; omega))) | (refine Below.trans ?_ (by assumption))))) ?_
    rintro e w2 ⟨rfl, hb_w2⟩
    obtain ⟨hc_w2, hf_w2⟩ := bcell hb_w2
    have hs_w2 := hb_w2.size
    go_wp2_with fail
    refine Calls.mono (K2.out _ (by repeat (first | exact Below.refl _ _ | assumption | refine below_allocS ?_ _ | refine below_callS ?_ (by assumption) | (refine Below.alloc ?_ (by first | omega | (simp; done) | (simp; omega)) _) | (refine Below.setCell ?_ (by first | omega | (simp; done) | (simp; omega)) _) | refine Below.drew ?_ | refine below_drewN ?_ _ | (refine below_call ?_ (by assumption) (by first | omega | (simp; done) | (simp; omega))) | (refine Below.trans ?_ (by assumption))))) ?_
    rintro e w3 ⟨rfl, hb_w3⟩
    obtain ⟨hc_w3, hf_w3⟩ := bcell hb_w3
    have hs_w3 := hb_w3.size
    go_wp2_with fail
    refine Calls.mono (K3.out _ (by repeat (first | exact Below.refl _ _ | assumption | refine below_allocS ?_ _ | refine below_callS ?_ (by assumption) | (refine Below.alloc ?_ (by first | omega | (simp; done) | (simp; omega)) _) | (refine Below.setCell ?_ (by first | omega | (simp; done) | (simp; omega)) _) | refine Below.drew ?_ | refine below_drewN ?_ _ | (refine below_call ?_ (by assumption) (by first | omega | (simp; done) | (simp; omega))) | (refine Below.trans ?_ (by assumption))))) ?_
    rintro e w4 ⟨m4, a41, c41, a42, c42, rfl, hb_w4, o41, o42, _⟩
    obtain ⟨hc_w4, hf_w4⟩ := bcell hb_w4
    have hs_w4 := hb_w4.size
    have O41 := Lib.hid o41.ints
    have O42 := Lib.hid o42.ints
    clear o41 o42
    have y4 : m4 ≤ 1048576 := by have := O41.out.len; omega
    have hz4 : w4.heap.size < (w4.alloc (.cells #[.slice a41 m4 c41, .slice a42 m4 c42] 39)).heap.size := by simp
    go_wp2_with fail
    refine Calls.mono (K4.out _ (by repeat (first | exact Below.refl _ _ | assumption | refine below_allocS ?_ _ | refine below_callS ?_ (by assumption) | (refine Below.alloc ?_ (by first | omega | (simp; done) | (simp; omega)) _) | (refine Below.setCell ?_ (by first | omega | (simp; done) | (simp; omega)) _) | refine Below.drew ?_ | refine below_drewN ?_ _ | (refine below_call ?_ (by assumption) (by first | omega | (simp; done) | (simp; omega))) | (refine Below.trans ?_ (by assumption))))) ?_
    rintro e w5 ⟨m5, a51, c51, a52, c52, rfl, hb_w5, o51, o52, _⟩
    obtain ⟨hc_w5, hf_w5⟩ := bcell hb_w5
    have hs_w5 := hb_w5.size
    simp at hs_w5
    have O51 := Lib.hid o51.ints
    have O52 := Lib.hid o52.ints
    clear o51 o52
    have y5 : m5 ≤ 1048576 := by have := O51.out.len; omega
    have hz5 : w4.heap.size < w5.heap.size := by omega
    go_wp2_with fail
    refine Calls.mono (laws_likeReports9 (O41.out.keep (by repeat (first | exact Below.refl _ _ | assumption | refine below_allocS ?_ _ | refine below_callS ?_ (by assumption) | (refine Below.alloc ?_ (by first | omega | (simp; done) | (simp; omega)) _) | (refine Below.setCell ?_ (by first | omega | (simp; done) | (simp; omega)) _) | refine Below.drew ?_ | refine below_drewN ?_ _ | (refine below_call ?_ (by assumption) (by first | omega | (simp; done) | (simp; omega))) | (refine Below.trans ?_ (by assumption))))) (O42.out.keep (by repeat (first | exact Below.refl _ _ | assumption | refine below_allocS ?_ _ | refine below_callS ?_ (by assumption) | (refine Below.alloc ?_ (by first | omega | (simp; done) | (simp; omega)) _) | (refine Below.setCell ?_ (by first | omega | (simp; done) | (simp; omega)) _) | refine Below.drew ?_ | refine below_drewN ?_ _ | (refine below_call ?_ (by assumption) (by first | omega | (simp; done) | (simp; omega))) | (refine Below.trans ?_ (by assumption))))) (O51.out.keep (by repeat (first | exact Below.refl _ _ | assumption | refine below_allocS ?_ _ | refine below_callS ?_ (by assumption) | (refine Below.alloc ?_ (by first | omega | (simp; done) | (simp; omega)) _) | (refine Below.setCell ?_ (by first | omega | (simp; done) | (simp; omega)) _) | refine Below.drew ?_ | refine below_drewN ?_ _ | (refine below_call ?_ (by assumption) (by first | omega | (simp; done) | (simp; omega))) | (refine Below.trans ?_ (by assumption))))) (O52.out.keep (by repeat (first | exact Below.refl _ _ | assumption | refine below_allocS ?_ _ | refine below_callS ?_ (by assumption) | (refine Below.alloc ?_ (by first | omega | (simp; done) | (simp; omega)) _) | (refine Below.setCell ?_ (by first | omega | (simp; done) | (simp; omega)) _) | refine Below.drew ?_ | refine below_drewN ?_ _ | (refine below_call ?_ (by assumption) (by first | omega | (simp; done) | (simp; omega))) | (refine Below.trans ?_ (by assumption))))) y4 y4 y5 y5) ?_
    rintro e w6 ⟨rfl, hb_w6⟩
    go_wp2_with fail
    refine Calls.mono (K5.out _ (by repeat (first | exact Below.refl _ _ | assumption | refine below_allocS ?_ _ | refine below_callS ?_ (by assumption) | (refine Below.alloc ?_ (by first | omega | (simp; done) | (simp; omega)) _) | (refine Below.setCell ?_ (by first | omega | (simp; done) | (simp; omega)) _) | refine Below.drew ?_ | refine below_drewN ?_ _ | (refine below_call ?_ (by assumption) (by first | omega | (simp; done) | (simp; omega))) | (refine Below.trans ?_ (by assumption))))) ?_
    rintro e w7 ⟨rfl, hb_w7⟩
    obtain ⟨hc_w7, hf_w7⟩ := bcell hb_w7
    have hs_w7 := hb_w7.size
    go_wp2_with fail
    refine Calls.mono (K6.out _ (by repeat (first | exact Below.refl _ _ | assumption | refine below_allocS ?_ _ | refine below_callS ?_ (by assumption) | (refine Below.alloc ?_ (by first | omega | (simp; done) | (simp; omega)) _) | (refine Below.setCell ?_ (by first | omega | (simp; done) | (simp; omega)) _) | refine Below.drew ?_ | refine below_drewN ?_ _ | (refine below_call ?_ (by assumption) (by first | omega | (simp; done) | (simp; omega))) | (refine Below.trans ?_ (by assumption))))) ?_
    rintro e w8 ⟨rfl, hb_w8⟩
    obtain ⟨hc_w8, hf_w8⟩ := bcell hb_w8
    have hs_w8 := hb_w8.size
    go_wp2_with fail
    refine Calls.mono (K7.out _ (by repeat (first | exact Below.refl _ _ | assumption | refine below_allocS ?_ _ | refine below_callS ?_ (by assumption) | (refine Below.alloc ?_ (by first | omega | (simp; done) | (simp; omega)) _) | (refine Below.setCell ?_ (by first | omega | (simp; done) | (simp; omega)) _) | refine Below.drew ?_ | refine below_drewN ?_ _ | (refine below_call ?_ (by assumption) (by first | omega | (simp; done) | (simp; omega))) | (refine Below.trans ?_ (by assumption))))) ?_
    rintro e w9 ⟨rfl, hb_w9⟩
    obtain ⟨hc_w9, hf_w9⟩ := bcell hb_w9
    have hs_w9 := hb_w9.size
    go_wp2_with fail
    refine Calls.mono (K8.out _ (by repeat (first | exact Below.refl _ _ | assumption | refine below_allocS ?_ _ | refine below_callS ?_ (by assumption) | (refine Below.alloc ?_ (by first | omega | (simp; done) | (simp; omega)) _) | (refine Below.setCell ?_ (by first | omega | (simp; done) | (simp; omega)) _) | refine Below.drew ?_ | refine below_drewN ?_ _ | (refine below_call ?_ (by assumption) (by first | omega | (simp; done) | (simp; omega))) | (refine Below.trans ?_ (by assumption))))) ?_
    rintro e w10 ⟨rfl, hb_w10⟩
    obtain ⟨hc_w10, hf_w10⟩ := bcell hb_w10
    have hs_w10 := hb_w10.size
    go_wp2_with fail
    refine Calls.mono (K9.out _ (by repeat (first | exact Below.refl _ _ | assumption | refine below_allocS ?_ _ | refine below_callS ?_ (by assumption) | (refine Below.alloc ?_ (by first | omega | (simp; done) | (simp; omega)) _) | (refine Below.setCell ?_ (by first | omega | (simp; done) | (simp; omega)) _) | refine Below.drew ?_ | refine below_drewN ?_ _ | (refine below_call ?_ (by assumption) (by first | omega | (simp; done) | (simp; omega))) | (refine Below.trans ?_ (by assumption))))) ?_
    rintro e w11 ⟨rfl, hb_w11⟩
    obtain ⟨hc_w11, hf_w11⟩ := bcell hb_w11
    have hs_w11 := hb_w11.size
    go_wp2_with fail
    refine Calls.mono (K10.out _ (by repeat (first | exact Below.refl _ _ | assumption | refine below_allocS ?_ _ | refine below_callS ?_ (by assumption) | (refine Below.alloc ?_ (by first | omega | (simp; done) | (simp; omega)) _) | (refine Below.setCell ?_ (by first | omega | (simp; done) | (simp; omega)) _) | refine Below.drew ?_ | refine below_drewN ?_ _ | (refine below_call ?_ (by assumption) (by first | omega | (simp; done) | (simp; omega))) | (refine Below.trans ?_ (by assumption))))) ?_
    rintro e _ ⟨rfl, rfl⟩
    by_cases hC : C = 0
    · subst hC
      obtain ⟨e1, e2, h4⟩ := HC.out rfl
      subst e1 e2
      have H4 := Lib.hid h4
      clear h4
      go_wp2_with fail
      refine Calls.mono (K11.out _ (by repeat (first | exact Below.refl _ _ | assumption | refine below_allocS ?_ _ | refine below_callS ?_ (by assumption) | (refine Below.alloc ?_ (by first | omega | (simp; done) | (simp; omega)) _) | (refine Below.setCell ?_ (by first | omega | (simp; done) | (simp; omega)) _) | refine Below.drew ?_ | refine below_drewN ?_ _ | (refine below_call ?_ (by assumption) (by first | omega | (simp; done) | (simp; omega))) | (refine Below.trans ?_ (by assumption))))) ?_
      rintro e w12 ⟨rfl, hb_w12⟩
      obtain ⟨hc_w12, hf_w12⟩ := bcell hb_w12
      have hs_w12 := hb_w12.size
      cases R
      · go_wp2_with (go_at_call 28; refine Calls.mono (K9.out _ (by repeat (first | exact Below.refl _ _ | assumption | refine below_allocS ?_ _ | refine below_callS ?_ (by assumption) | (refine Below.alloc ?_ (by first | omega | (simp; done) | (simp; omega)) _) | (refine Below.setCell ?_ (by first | omega | (simp; done) | (simp; omega)) _) | refine Below.drew ?_ | refine below_drewN ?_ _ | (refine below_call ?_ (by assumption) (by first | omega | (simp; done) | (simp; omega))) | (refine Below.trans ?_ (by assumption))))) ?_; rintro e w13 ⟨rfl, hb_w13⟩)
        go_ret
        exact ⟨ret_bool (by simp), by repeat (first | exact Below.refl _ _ | assumption | refine below_allocS ?_ _ | refine below_callS ?_ (by assumption) | (refine Below.alloc ?_ (by first | omega | (simp; done) | (simp; omega)) _) | (refine Below.setCell ?_ (by first | omega | (simp; done) | (simp; omega)) _) | refine Below.drew ?_ | refine below_drewN ?_ _ | (refine below_call ?_ (by assumption) (by first | omega | (simp; done) | (simp; omega))) | (refine Below.trans ?_ (by assumption)))⟩
      · cases T
        · go_wp2_with (first | (go_at_call 28; refine Calls.mono (K9.out _ (by repeat (first | exact Below.refl _ _ | assumption | refine below_allocS ?_ _ | refine below_callS ?_ (by assumption) | (refine Below.alloc ?_ (by first | omega | (simp; done) | (simp; omega)) _) | (refine Below.setCell ?_ (by first | omega | (simp; done) | (simp; omega)) _) | refine Below.drew ?_ | refine below_drewN ?_ _ | (refine below_call ?_ (by assumption) (by first | omega | (simp; done) | (simp; omega))) | (refine Below.trans ?_ (by assumption))))) ?_; rintro e w13 ⟨rfl, hb_w13⟩) | (go_at_call 26; refine Calls.mono (K7.out _ (by repeat (first | exact Below.refl _ _ | assumption | refine below_allocS ?_ _ | refine below_callS ?_ (by assumption) | (refine Below.alloc ?_ (by first | omega | (simp; done) | (simp; omega)) _) | (refine Below.setCell ?_ (by first | omega | (simp; done) | (simp; omega)) _) | refine Below.drew ?_ | refine below_drewN ?_ _ | (refine below_call ?_ (by assumption) (by first | omega | (simp; done) | (simp; omega))) | (refine Below.trans ?_ (by assumption))))) ?_; rintro e w14 ⟨rfl, hb_w14⟩))
          go_ret
          exact ⟨ret_bool (by simp), by repeat (first | exact Below.refl _ _ | assumption | refine below_allocS ?_ _ | refine below_callS ?_ (by assumption) | (refine Below.alloc ?_ (by first | omega | (simp; done) | (simp; omega)) _) | (refine Below.setCell ?_ (by first | omega | (simp; done) | (simp; omega)) _) | refine Below.drew ?_ | refine below_drewN ?_ _ | (refine below_call ?_ (by assumption) (by first | omega | (simp; done) | (simp; omega))) | (refine Below.trans ?_ (by assumption)))⟩
        · have hA := H4.out rfl rfl
          subst hA
          go_wp2_with (first | (go_at_call 28; refine Calls.mono (K9.out _ (by repeat (first | exact Below.refl _ _ | assumption | refine below_allocS ?_ _ | refine below_callS ?_ (by assumption) | (refine Below.alloc ?_ (by first | omega | (simp; done) | (simp; omega)) _) | (refine Below.setCell ?_ (by first | omega | (simp; done) | (simp; omega)) _) | refine Below.drew ?_ | refine below_drewN ?_ _ | (refine below_call ?_ (by assumption) (by first | omega | (simp; done) | (simp; omega))) | (refine Below.trans ?_ (by assumption))))) ?_; rintro e w13 ⟨rfl, hb_w13⟩) | (go_at_call 26; refine Calls.mono (K7.out _ (by repeat (first | exact Below.refl _ _ | assumption | refine below_allocS ?_ _ | refine below_callS ?_ (by assumption) | (refine Below.alloc ?_ (by first | omega | (simp; done) | (simp; omega)) _) | (refine Below.setCell ?_ (by first | omega | (simp; done) | (simp; omega)) _) | refine Below.drew ?_ | refine below_drewN ?_ _ | (refine below_call ?_ (by assumption) (by first | omega | (simp; done) | (simp; omega))) | (refine Below.trans ?_ (by assumption))))) ?_; rintro e w14 ⟨rfl, hb_w14⟩))
          go_ret
          exact ⟨ret_bool (by simp), by repeat (first | exact Below.refl _ _ | assumption | refine below_allocS ?_ _ | refine below_callS ?_ (by assumption) | (refine Below.alloc ?_ (by first | omega | (simp; done) | (simp; omega)) _) | (refine Below.setCell ?_ (by first | omega | (simp; done) | (simp; omega)) _) | refine Below.drew ?_ | refine below_drewN ?_ _ | (refine below_call ?_ (by assumption) (by first | omega | (simp; done) | (simp; omega))) | (refine Below.trans ?_ (by assumption)))⟩
    · have hC' : (C != 0) = true := by simpa using hC
      clear hC
      go_wp2
      go_ret
      exact ⟨rfl, by repeat (first | exact Below.refl _ _ | assumption | refine below_allocS ?_ _ | refine below_callS ?_ (by assumption) | (refine Below.alloc ?_ (by first | omega | (simp; done) | (simp; omega)) _) | (refine Below.setCell ?_ (by first | omega | (simp; done) | (simp; omega)) _) | refine Below.drew ?_ | refine below_drewN ?_ _ | (refine below_call ?_ (by assumption) (by first | omega | (simp; done) | (simp; omega))) | (refine Below.trans ?_ (by assumption)))⟩
  · go_enter Try.func4, Try.ntmps4
    go_wp2_with fail
    refine Calls.mono (laws_big_yes hn) ?_
    rintro e _ ⟨rfl, rfl⟩
    go_wp2
    go_ret
    exact ⟨rfl, by repeat (first | exact Below.refl _ _ | assumption | refine below_allocS ?_ _ | refine below_callS ?_ (by assumption) | (refine Below.alloc ?_ (by first | omega | (simp; done) | (simp; omega)) _) | (refine Below.setCell ?_ (by first | omega | (simp; done) | (simp; omega)) _) | refine Below.drew ?_ | refine below_drewN ?_ _ | (refine below_call ?_ (by assumption) (by first | omega | (simp; done) | (simp; omega))) | (refine Below.trans ?_ (by assumption)))⟩
end Go.Proofs.Ytoaccicfmfiemaa
