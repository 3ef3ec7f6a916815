/- Safe traffics: plain laws.; Safe traffics: walked. -/
import Derived.Test.YtipkncjjkkijfaaGreatDoorBase
import Derived.Test.YtipkncjjkkijfaaGreatDoorZ2
import Derived.Test.YtipkncjjkkijfaaGreatDoorZ7
import Derived.BigQuiet
namespace Go.Proofs.YtipkncjjkkijfaaGreatDoor
open Go.RowKit
set_option linter.unusedVariables false
set_option linter.unusedSimpArgs false
/-- a train in a place uses a block -/
def usesN (B p b : Nat) : Bool := p / 3 == b || (p % 3 == 2 && (p / 3 + 1) % B == b)
def cntN (B : Nat) (ps : List Int) (b : Nat) : Nat := ps.countP fun p => usesN B p.toNat b
def safeN (B : Nat) (ps : List Int) : Bool := (List.range B).all fun b => decide (cntN B ps b ≤ 1)
def cntL (B : Nat) (ps : List Int) : List Int := (List.range B).map fun b => (cntN B ps b : Int)
theorem cntL_len (B : Nat) (ps : List Int) : (cntL B ps).length = B := by simp [cntL]
theorem cntL_nil (B : Nat) : cntL B [] = List.replicate B 0 := by
  apply List.ext_getElem?
  intro i
  by_cases h : i < B
  · simp [cntL, cntN, h]
  · simp [cntL, h]
theorem cntL_at {B : Nat} {ps : List Int} {b : Nat} (hb : b < B) : (cntL B ps)[b]? = some (cntN B ps b : Int) := by simp [cntL, hb]
theorem cntN_step (B : Nat) (ps : List Int) (p : Int) (b : Nat) : cntN B (ps ++ [p]) b = cntN B ps b + if usesN B p.toNat b = true then 1 else 0 := by
  rw [cntN, List.countP_append, List.countP_singleton]; rfl
theorem cntN_take {B : Nat} {ps : List Int} {p : Int} {k b : Nat} (h : ps[k]? = some p) : cntN B (ps.take (k + 1)) b = cntN B (ps.take k) b + if usesN B p.toNat b = true then 1 else 0 := by rw [take_at h, cntN_step]
theorem cntN_le (B : Nat) (ps : List Int) (b : Nat) : cntN B ps b ≤ ps.length := List.countP_le_length
theorem usesN_run {B p b : Nat} (h : p % 3 ≠ 2) : usesN B p b = (p / 3 == b) := by simp [usesN, h]
theorem usesN_cross {B p b : Nat} (h : p % 3 = 2) : usesN B p b = (p / 3 == b || (p / 3 + 1) % B == b) := by simp [usesN, h]
/-- one block more is counted -/
theorem cntL_run {B : Nat} {ps : List Int} {p : Nat} (h : p % 3 ≠ 2) : (cntL B ps).set (p / 3) ((cntN B ps (p / 3) : Int) + 1) = cntL B (ps ++ [(p : Int)]) := by
  apply List.ext_getElem?
  intro i
  rw [List.getElem?_set, cntL_len]
  by_cases hi : i < B
  · rw [cntL_at hi, cntL_at hi, cntN_step, Int.toNat_natCast, usesN_run h]
    by_cases e : p / 3 = i
    · subst e; rw [if_pos rfl, if_pos hi]; simp
    · rw [if_neg e]; simp [e]
  · have h1 : (cntL B ps)[i]? = none := List.getElem?_eq_none (by rw [cntL_len]; omega)
    have h2 : (cntL B (ps ++ [(p : Int)]))[i]? = none := List.getElem?_eq_none (by rw [cntL_len]; omega)
    rw [h1, h2]
    split
    · rw [if_neg (by omega)]
    · rfl
theorem next_ne {B q : Nat} (hB : 2 ≤ B) (hq : q < B) : (q + 1) % B ≠ q := by
  by_cases h : q + 1 < B
  · rw [Nat.mod_eq_of_lt h]; omega
  · have : q + 1 = B := by omega
    rw [this, Nat.mod_self]; omega
/-- two blocks more are counted -/
theorem cntL_cross {B : Nat} {ps : List Int} {p : Nat} (hB : 2 ≤ B) (hp : p / 3 < B) (h : p % 3 = 2) {a b : Nat} (hab : (a = p / 3 ∧ b = (p / 3 + 1) % B) ∨ (b = p / 3 ∧ a = (p / 3 + 1) % B)) :
    ((cntL B ps).set a ((cntN B ps a : Int) + 1)).set b ((cntN B ps b : Int) + 1) = cntL B (ps ++ [(p : Int)]) ∧ ((cntL B ps).set a ((cntN B ps a : Int) + 1))[b]? = some (cntN B ps b : Int) := by
  have hne := next_ne hB hp
  have hC : (p / 3 + 1) % B < B := Nat.mod_lt _ (by omega)
  have hab' : a ≠ b ∧ a < B ∧ b < B ∧ ∀ i, usesN B p i = (a == i || b == i) := by
    rcases hab with ⟨rfl, rfl⟩ | ⟨rfl, rfl⟩
    · exact ⟨fun e => hne e.symm, hp, hC, fun i => usesN_cross h⟩
    · exact ⟨hne, hC, hp, fun i => by rw [usesN_cross h, Bool.or_comm]⟩
  obtain ⟨h1, h2, h3, h4⟩ := hab'
  refine ⟨?_, ?_⟩
  · apply List.ext_getElem?
    intro i
    rw [List.getElem?_set, List.getElem?_set, List.length_set, cntL_len]
    by_cases hi : i < B
    · rw [cntL_at hi, cntL_at hi, cntN_step, Int.toNat_natCast, h4]
      by_cases e : b = i
      · subst e; rw [if_pos rfl, if_pos hi]; simp
      · rw [if_neg e]
        by_cases e' : a = i
        · subst e'; rw [if_pos rfl, if_pos hi]; simp
        · rw [if_neg e']; simp [e, e']
    · have q1 : (cntL B ps)[i]? = none := List.getElem?_eq_none (by rw [cntL_len]; omega)
      have q2 : (cntL B (ps ++ [(p : Int)]))[i]? = none := List.getElem?_eq_none (by rw [cntL_len]; omega)
      rw [q1, q2, if_neg (by omega), if_neg (by omega)]
  · rw [List.getElem?_set_ne h1, cntL_at h3]
/-- the greatest number of trains at a block tells -/
theorem safe_max {B : Nat} {ps : List Int} {m : Int} (hm : m ∈ cntL B ps) (hx : ∀ x ∈ cntL B ps, x ≤ m) : decide (m ≤ 1) = safeN B ps := by
  rw [Bool.eq_iff_iff, decide_eq_true_iff, safeN, List.all_eq_true]
  constructor
  · intro h b hb
    have h1 := hx (cntN B ps b : Int) (List.mem_map.2 ⟨b, hb, rfl⟩)
    exact decide_eq_true (by omega)
  · intro h
    rw [cntL] at hm
    obtain ⟨b, hb, rfl⟩ := List.mem_map.1 hm
    have := of_decide_eq_true (h b hb)
    omega
theorem safe_no {B : Nat} {ps : List Int} {b : Nat} (hb : b < B) (h : 1 < cntN B ps b) : safeN B ps = false := by
  rw [safeN, List.all_eq_false]
  exact ⟨b, List.mem_range.2 hb, by simp; omega⟩
theorem safe_yes {B : Nat} {ps : List Int} (h : upB (fun b => decide (cntN B ps b ≤ 1)) B = true) : safeN B ps = true := h
theorem spec_l10Uses {B p b : Nat} {w : World} (hB : 0 < B) (hB8 : B ≤ 8) (hp : p ≤ 1000) :
    Calls Tryz.prog 100 #[.int .i64 (B : Int), .int .i64 (p : Int), .int .i64 (b : Int)] w fun e w' => e = .returned (.bool (usesN B p b)) ∧ w = w' := by
  have hB0 : ¬ (B : Int) = 0 := by omega
  cases h1 : (p / 3 == b)
  · have h1' : ¬ (p : Int) / 3 = (b : Int) := by simp at h1; omega
    cases h2 : (p % 3 == 2)
    · have HQ := Lib.hid (show usesN B p b = false by rw [usesN, h1, h2]; rfl)
      have h2' : ¬ (p : Int) % 3 = 2 := by simp at h2; omega
      clear h1 h2
      go_enter Tryz.func100, Tryz.ntmps100
      go_wp2
      go_ret
      exact ⟨ret_bool (by rw [HQ.out]; simpa using h1'), rfl⟩
    · have h2' : (p : Int) % 3 = 2 := by simp at h2; omega
      have e1 : ((p : Int) / 3 + 1) % (B : Int) = (((p / 3 + 1) % B : Nat) : Int) := by push_cast; rfl
      have HQ := Lib.hid (show usesN B p b = decide (((p : Int) / 3 + 1) % (B : Int) = (b : Int)) by
        rw [usesN, h1, h2, e1, Bool.false_or, Bool.true_and, Bool.eq_iff_iff, beq_iff_eq, decide_eq_true_iff]; omega)
      have HF := Lib.hid (show (((p : Int) / 3 == (b : Int))) = false by rw [beq_eq_false_iff_ne]; exact h1')
      clear h1 h2 e1
      go_enter Tryz.func100, Tryz.ntmps100
      go_wp2
      go_ret
      exact ⟨ret_bool (by rw [HQ.out, HF.out, Bool.false_or]; rfl), rfl⟩
  · have h1' : (p : Int) / 3 = (b : Int) := by simp at h1; omega
    have HQ := Lib.hid (show usesN B p b = true by rw [usesN, h1]; rfl)
    clear h1
    go_enter Tryz.func100, Tryz.ntmps100
    go_wp2
    go_ret
    exact ⟨ret_bool (by rw [HQ.out] <;> first | rfl | simp [h1']), rfl⟩
set_option maxHeartbeats 1000000 in
theorem spec_l10Count {B b n c : Nat} {a : Option Addr} {l : List Int} {w : World} (hI : Ints w a n c l) (hn : n ≤ 1000) (hB : 0 < B) (hB8 : B ≤ 8) (hp : ∀ x ∈ l, 0 ≤ x ∧ x ≤ 1000) :
    Calls Tryz.prog 82 #[.agg #[.int .i64 (B : Int), .slice a n c], .int .i64 (b : Int)] w fun e w' => e = .returned (.int .i64 (cntN B l b : Int)) ∧ Below w.heap.size w w' := by
  have hbA : Below w.heap.size w (w.alloc (.cells #[.int .i64 (B : Int), .slice a n c] 26)) := bel
  have X := Lib.hid (Blk.made w #[.int .i64 (B : Int), .slice a n c] 26)
  have HI := Lib.hid hI
  have HPL := Lib.hid hp
  have HL := Lib.hid hI.len
  clear hI hp
  have hcle := fun (j : Nat) => cntN_le B (l.take j) b
  have HCL := Lib.hid hcle
  clear hcle
  go_enter Tryz.func82, Tryz.ntmps82
  go_wp2_with fail
  go_loopw [5, 6] (fun s5 s6 wr => ∃ j : Nat, s5 = .int .i64 (cntN B (l.take j) b : Int) ∧ s6 = .int .i64 j ∧ j ≤ n ∧ Below w.heap.size w wr ∧ Hid (Blk wr w.heap.size #[.int .i64 (B : Int), .slice a n c] 26)) (fun _ s6 _ => n - (intOf s6).toNat)
  case atStart => exact ⟨0, by rfl, rfl, by omega, hbA, X⟩
  case round =>
    clear X hbA
    obtain ⟨j, rfl, rfl, hj, hbl, X⟩ := hrel
    have m0 := X.out.cell 0
    have m1 := X.out.cell 1
    have ml := X.out.lt
    simp at m0 m1
    by_cases hlt : j < n
    · have hlt' : (j : Int) < (n : Int) := by omega
      have hj0 : (0 : Int) ≤ (j : Int) := by omega
      obtain ⟨bb, off, x, rfl, hbb, hx, hcell, hwf⟩ := (HI.out.keep hbl).at hlt
      have hxp := HPL.out x (List.mem_of_getElem? hx)
      obtain ⟨q, rfl⟩ := Int.eq_ofNat_of_zero_le hxp.1
      have hst := cntN_take (B := B) (b := b) hx
      rw [Int.toNat_natCast] at hst
      have hq : q ≤ 1000 := by omega
      have hcn : cntN B (l.take j) b ≤ 1000 := Nat.le_trans (HCL.out j) (by rw [List.length_take]; omega)
      obtain ⟨cn, hcn'⟩ : ∃ cn : Nat, cntN B (l.take j) b = cn := ⟨_, rfl⟩
      rw [hcn'] at hst hcn ⊢
      clear hx hxp hcn'
      have KU := Lib.hid (fun (wx : World) => spec_l10Uses (b := b) (w := wx) hB hB8 hq)
      cases hu : usesN B q b with
      | true =>
        rw [hu, if_pos rfl] at hst
        rw [hu] at KU
        have HS := Lib.hid hst
        clear hst hu
        go_wp2
        go_region_held3 (fun wx => wx.cell? ⟨w.heap.size, 0, none⟩ = some (.int .i64 (B : Int)) ∧ wx.cell? ⟨w.heap.size, 1, none⟩ = some (.slice (some ⟨bb, off, none⟩) n c) ∧ wx.cell? ⟨bb, off + j, none⟩ = some (.int .i64 (q : Int)) ∧ w.heap.size < wx.heap.size ∧ bb < wx.heap.size) (((try go_split_ands); (repeat' apply And.intro) <;> first | (with_reducible assumption) | (with_reducible exact cell_drew (by with_reducible assumption)) | (with_reducible exact lt_drew (by with_reducible assumption)))) (first | (go_at_call 100; go_split_ands; refine Calls.mono (KU.out _) ?_; rintro e _ ⟨rfl, rfl⟩))
        go_split_ands
        go_wp2
        go_roundw
        case rel => exact ⟨j + 1, by rw [HS.out]; go_num, by go_num, by omega, bel, Lib.hid (X.out.keep bel)⟩
        case measure => simp [intOf]; omega
      | false =>
        rw [hu, if_neg (by simp)] at hst
        rw [hu] at KU
        have HS := Lib.hid hst
        clear hst hu
        go_wp2
        go_region_held3 (fun wx => wx.cell? ⟨w.heap.size, 0, none⟩ = some (.int .i64 (B : Int)) ∧ wx.cell? ⟨w.heap.size, 1, none⟩ = some (.slice (some ⟨bb, off, none⟩) n c) ∧ wx.cell? ⟨bb, off + j, none⟩ = some (.int .i64 (q : Int)) ∧ w.heap.size < wx.heap.size ∧ bb < wx.heap.size) (((try go_split_ands); (repeat' apply And.intro) <;> first | (with_reducible assumption) | (with_reducible exact cell_drew (by with_reducible assumption)) | (with_reducible exact lt_drew (by with_reducible assumption)))) (first | (go_at_call 100; go_split_ands; refine Calls.mono (KU.out _) ?_; rintro e _ ⟨rfl, rfl⟩))
        go_split_ands
        go_wp2
        go_roundw
        case rel => exact ⟨j + 1, by rw [HS.out]; rfl, by go_num, by omega, bel, Lib.hid (X.out.keep bel)⟩
        case measure => simp [intOf]; omega
    · obtain rfl : n = j := by omega
      have hlt' : ¬ (n : Int) < (n : Int) := by omega
      have HT := Lib.hid (show l.take n = l from take_len HL.out)
      go_wp2
      go_ret
      exact ⟨by rw [HT.out]; rfl, hbl⟩
set_option maxHeartbeats 1000000 in
theorem spec_IsSafeTraffic {B n c : Nat} {a : Option Addr} {l : List Int} {w : World} (hI : Ints w a n c l) (ht : trafB (B : Int) l = true) :
    Calls Tryz.prog 65 #[.agg #[.int .i64 (B : Int), .slice a n c]] w fun e w' => e = .returned (.bool (safeN B l)) ∧ Below w.heap.size w w' := by
  obtain ⟨h1, h2, h3, h4, h5⟩ := trafB_split ht
  have hn : n ≤ 4 := by rw [← hI.len]; exact h4
  have hbA : Below w.heap.size w (w.alloc (.cells #[.int .i64 (B : Int), .slice a n c] 26)) := bel
  have X := Lib.hid (Blk.made w #[.int .i64 (B : Int), .slice a n c] 26)
  have K1 := Lib.hid (fun (wx : World) (hx : Below w.heap.size w wx) => spec_IsTraffic (b := (B : Int)) (hI.keep hx) (by omega))
  have K2 := Lib.hid (fun (wx : World) (hx : Below w.heap.size w wx) (b : Nat) => spec_l10Count (B := B) (b := b) (hI.keep hx) (by omega) (by omega) (by omega) (fun x hx => by have := h5 x hx; omega))
  have HT := Lib.hid ht
  clear hI ht h1 h3 h4 h5
  go_enter Tryz.func65, Tryz.ntmps65
  go_wp2_with fail
  refine Calls.mono (K1.out _ hbA) ?_
  rintro e w1 ⟨rfl, hb1⟩
  rw [HT.out]
  have X1 := Lib.hid (X.out.keep hb1)
  have hbl1 : Below w.heap.size w w1 := bel
  clear hbA hb1 X
  go_wp2_with fail
  go_loopw [3] (fun s3 wr => ∃ j : Nat, s3 = .int .i64 j ∧ j ≤ B ∧ Below w.heap.size w wr ∧ Hid (Blk wr w.heap.size #[.int .i64 (B : Int), .slice a n c] 26) ∧ Hid (upB (fun b => decide (cntN B l b ≤ 1)) j = true)) (fun s3 _ => B - (intOf s3).toNat)
  case atStart => exact ⟨0, rfl, by omega, hbl1, X1, Lib.hid (upB_zero _)⟩
  case round =>
    clear X1 hbl1
    obtain ⟨j, rfl, hj, hbl, X, A⟩ := hrel
    have m0 := X.out.cell 0
    have m1 := X.out.cell 1
    have ml := X.out.lt
    simp at m0 m1
    by_cases hlt : j < B
    · have hlt' : (j : Int) < (B : Int) := by omega
      go_wp2_with fail
      refine Calls.mono (K2.out _ hbl j) ?_
      rintro e w2 ⟨rfl, hb2⟩
      by_cases hc : cntN B l j ≤ 1
      · have hc' : ¬ (1 : Int) < (cntN B l j : Int) := by omega
        have HU := Lib.hid (upB_step A.out (by simpa using hc))
        go_wp2
        go_roundw
        case rel => exact ⟨j + 1, by go_num, by omega, below_callS hbl hb2, Lib.hid (X.out.keep hb2), HU⟩
        case measure => simp [intOf]; omega
      · have hc' : (1 : Int) < (cntN B l j : Int) := by omega
        have HU := Lib.hid (safe_no (ps := l) hlt (by omega))
        go_wp2
        go_ret
        exact ⟨ret_bool HU.out.symm, below_callS hbl hb2⟩
    · obtain rfl : B = j := by omega
      have hlt' : ¬ (B : Int) < (B : Int) := by omega
      have HU := Lib.hid (safe_yes (ps := l) A.out)
      go_wp2
      go_ret
      exact ⟨ret_bool HU.out.symm, hbl⟩
end Go.Proofs.YtipkncjjkkijfaaGreatDoor
