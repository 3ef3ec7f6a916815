/- The reference's parser: its state and its small steps, walked.; The reference's parser: numbers, kinds, walked. -/
import Derived.Test.YtjneodmohkpckaaGreatDoorEj
import Derived.Test.YtjneodmohkpckaaGreatDoorEh
namespace Go.Proofs.YtjneodmohkpckaaGreatDoor
open Go.RowKit
set_option linter.unusedVariables false
set_option linter.unusedSimpArgs false
variable {N : Nat}
/-- where the reference's parser stands -/
structure RS (N : Nat) (w : World) (p : Nat) (ta : Option Addr) (tn tc k : Nat) (bad : Bool) (L0 L : List TR) : Prop where
  x : Blk w p #[.slice ta tn tc, .int .i64 (k : Int), .bool bad] 74
  t : FT w ta tn tc L0
  ne : ∀ g off, ta = some ⟨g, off, none⟩ → g < p
  n8 : tn ≤ 800
  kn : k ≤ tn ∧ tn = N
  dr : L = L0.drop k
  sz : ∀ x ∈ L0, x.t.size ≤ 6000
  tk : ∀ x ∈ L0, TkB x
def RSt (N : Nat) (w : World) (p : Nat) (bad : Bool) (L : List TR) : Prop := ∃ ta tn tc k L0, RS N w p ta tn tc k bad L0 L
theorem RSt.keep {w w' : World} {p : Nat} {bad : Bool} {L : List TR} (h : RSt N w p bad L) (hb : Below w.heap.size w w') : RSt N w' p bad L := by
  obtain ⟨ta, tn, tc, k, L0, h⟩ := h
  exact ⟨ta, tn, tc, k, L0, h.x.keep hb, h.t.keep hb, h.ne, h.n8, h.kn, h.dr, h.sz, h.tk⟩
theorem RSt.keepB {w w' : World} {p B : Nat} {bad : Bool} {L : List TR} (h : RSt N w p bad L) (hb : Below B w w') (hB : p < B) : RSt N w' p bad L := by
  obtain ⟨ta, tn, tc, k, L0, h⟩ := h
  exact ⟨ta, tn, tc, k, L0, h.x.keepB hb hB, h.t.only (lo := B) (hi := w.heap.size) (Below.onlyE hb) (fun g o e => by have := h.ne g o e; omega), h.ne, h.n8, h.kn, h.dr, h.sz, h.tk⟩
theorem RSt.lt {w : World} {p : Nat} {bad : Bool} {L : List TR} (h : RSt N w p bad L) : p < w.heap.size := by
  obtain ⟨ta, tn, tc, k, L0, h⟩ := h; exact h.x.lt
theorem RSt.n8 {w : World} {p : Nat} {bad : Bool} {L : List TR} (h : RSt N w p bad L) : L.length ≤ 800 := by
  obtain ⟨ta, tn, tc, k, L0, h⟩ := h; have := h.n8; have := h.t.len; rw [h.dr, List.length_drop]; omega
theorem RSt.tk {w : World} {p : Nat} {bad : Bool} {L : List TR} (h : RSt N w p bad L) : ∀ x ∈ L, TkB x := by
  obtain ⟨ta, tn, tc, k, L0, h⟩ := h; rw [h.dr]; exact fun x hx => h.tk x (List.mem_of_mem_drop hx)
theorem RSt.bd {w : World} {p : Nat} {bad : Bool} {L : List TR} (h : RSt N w p bad L) : w.cell? ⟨p, 2, none⟩ = some (.bool bad) ∧ p < w.heap.size := by
  obtain ⟨ta, tn, tc, k, L0, h⟩ := h; exact ⟨h.x.cell 2, h.x.lt⟩
theorem RSt.szp {w : World} {p : Nat} {bad : Bool} {L : List TR} (h : RSt N w p bad L) : (pkT L).size ≤ 6000 := by
  obtain ⟨ta, tn, tc, k, L0, h⟩ := h
  cases hL : L with
  | nil => decide
  | cons x r =>
    refine h.sz x (List.mem_of_mem_drop (i := k) ?_)
    rw [← h.dr, hL]; exact List.mem_cons_self ..
/-- one token is passed over -/
theorem RS.adv {w : World} {p tn tc k : Nat} {ta : Option Addr} {bad : Bool} {L0 L : List TR} (h : RS N w p ta tn tc k bad L0 L) (hL : L ≠ []) : RS N (w.setCell ⟨p, 1, none⟩ (.int .i64 ((k : Int) + 1))) p ta tn tc (k + 1) bad L0 L.tail := by
  have hk : k < tn := by
    have := h.t.len
    apply Nat.lt_of_not_le
    intro hle
    exact hL (by rw [h.dr, List.drop_of_length_le (by omega)])
  refine ⟨?_, h.t.only (only_p 1 _) (fun g o e => by have := h.ne g o e; omega), h.ne, h.n8, ⟨hk, h.kn.2⟩, by rw [h.dr, List.tail_drop], h.sz, h.tk⟩
  have := heap_setCell_same w p 1 _ _ (.int .i64 ((k : Int) + 1)) h.x
  rw [show ((k + 1 : Nat) : Int) = (k : Int) + 1 from by omega]
  exact this
theorem RS.wrong {w : World} {p tn tc k : Nat} {ta : Option Addr} {bad : Bool} {L0 L : List TR} (h : RS N w p ta tn tc k bad L0 L) : RS N (w.setCell ⟨p, 2, none⟩ (.bool true)) p ta tn tc k true L0 L :=
  ⟨heap_setCell_same w p 2 _ _ _ h.x, h.t.only (only_p 2 _) (fun g o e => by have := h.ne g o e; omega), h.ne, h.n8, h.kn, h.dr, h.sz, h.tk⟩
set_option maxHeartbeats 1000000 in
theorem spec_l13Peek {p : Nat} {bad : Bool} {L : List TR} {w : World} (h : RSt N w p bad L) : Calls Tryz.prog 113 #[.pointer (some ⟨p, 0, none⟩)] w fun e w' => e = .returned (.string (pkT L)) ∧ Below w.heap.size w w' := by
  obtain ⟨ta, tn, tc, k, L0, h⟩ := h
  have x0 := h.x.cell 0
  have x1 := h.x.cell 1
  have xl := h.x.lt
  simp only [List.getElem?_toArray, List.getElem?_cons_zero, List.getElem?_cons_succ] at x0 x1
  have hk0 : (0 : Int) ≤ (k : Int) := by omega
  by_cases hk : k < tn
  · obtain ⟨b, off, x, rfl, hb, hx, hok, c0, c1⟩ := FT.get h.t hk
    have E := Lib.hid (show pkT L = x.t by rw [h.dr, List.drop_eq_getElem_cons (by rw [h.t.len]; exact hk)]; rw [List.getElem?_eq_getElem (by rw [h.t.len]; exact hk)] at hx; simp only [pkT]; rw [Option.some.inj hx])
    have hk' : (k : Int) < (tn : Int) := by omega
    clear h hx
    go_enter Tryz.func113, Tryz.ntmps113
    go_wp2_with fail
    go_quiet (fail)
    go_wp2_with fail
    go_quiet (fail)
    go_wp2
    go_ret
    exact ⟨by rw [E.out]; rfl, bel⟩
  · have E := Lib.hid (show pkT L = ⟨#[]⟩ by rw [h.dr, List.drop_of_length_le (by have := h.t.len; omega)]; rfl)
    have hk' : ¬ (k : Int) < (tn : Int) := by omega
    clear h
    go_enter Tryz.func113, Tryz.ntmps113
    go_wp2_with fail
    go_quiet (fail)
    go_wp2
    go_ret
    exact ⟨by rw [E.out]; rfl, bel⟩
set_option maxHeartbeats 1000000 in
theorem spec_l13Want {p : Nat} {bad : Bool} {L : List TR} {s : ByteArray} {w : World} (h : RSt N w p bad L) (ht : s.data.toList ≠ []) : Calls Tryz.prog 110 #[.pointer (some ⟨p, 0, none⟩), .string s] w fun e w' => (∃ v, e = .returned v) ∧ RSt N w' p (bad || !isT L s.data.toList) (exL L s.data.toList) ∧ Only p (p + 1) w w' := by
  have HK := Lib.hid (spec_l13Peek h)
  have H := Lib.hid h
  clear h
  cases hq : isT L s.data.toList
  · have hpk : (!((pkT L).toList == s.toList)) = true := pk_ne hq
    have HE := Lib.hid (show exL L s.data.toList = L by rw [exL, hq]; rfl)
    clear hq
    go_enter Tryz.func110, Tryz.ntmps110
    go_wp2_with fail
    refine Calls.mono HK.out ?_
    rintro e w1 ⟨rfl, hb1⟩
    obtain ⟨ta, tn, tc, k, L0, h1⟩ := H.out.keep hb1
    have x1 := h1.x.cell 2
    have xl := h1.x.lt
    have xf := h1.x.free
    simp only [List.getElem?_toArray, List.getElem?_cons_zero, List.getElem?_cons_succ] at x1
    have HP := Lib.hid h1.wrong
    have HO := Lib.hid (((Only.refl p (p + 1) w).then hb1).set ⟨Nat.le_refl _, Nat.lt_succ_self _⟩ 2 (.bool true))
    clear h1 hb1
    go_wp2
    refine bodyPost_ret (results_none Tryz.results110 _ _ _) rfl ?_
    exact ⟨⟨_, rfl⟩, by rw [HE.out]; first | exact ⟨ta, tn, tc, k, L0, HP.out⟩ | rw [Bool.not_false, Bool.or_true]; exact ⟨ta, tn, tc, k, L0, HP.out⟩, HO.out⟩
  · have hpk : (!((pkT L).toList == s.toList)) = false := pk_ne hq
    have HE := Lib.hid (show exL L s.data.toList = L.tail by rw [exL, if_pos hq])
    have hne : L ≠ [] := by
      obtain ⟨x, r, e, _⟩ := isT_ne ht hq
      rw [e]; simp
    clear hq
    go_enter Tryz.func110, Tryz.ntmps110
    go_wp2_with fail
    refine Calls.mono HK.out ?_
    rintro e w1 ⟨rfl, hb1⟩
    obtain ⟨ta, tn, tc, k, L0, h1⟩ := H.out.keep hb1
    have x1 := h1.x.cell 1
    have xl := h1.x.lt
    have xf := h1.x.free
    simp only [List.getElem?_toArray, List.getElem?_cons_zero, List.getElem?_cons_succ] at x1
    have HP := Lib.hid (h1.adv hne)
    have hk8 : k ≤ 800 := by have := h1.n8; have := h1.kn; omega
    have ek : IntKind.i64.wrap ((k : Int) + 1) = (k : Int) + 1 := IntWalk.i64_in _ (by omega)
    have HO := Lib.hid (((Only.refl p (p + 1) w).then hb1).set ⟨Nat.le_refl _, Nat.lt_succ_self _⟩ 1 (.int .i64 ((k : Int) + 1)))
    clear h1 hb1
    go_wp2
    refine bodyPost_end (results_none Tryz.results110 _ _ _) rfl ?_
    exact ⟨⟨_, rfl⟩, by rw [HE.out]; first | exact ⟨ta, tn, tc, k + 1, L0, HP.out⟩ | rw [Bool.not_true, Bool.or_false]; exact ⟨ta, tn, tc, k + 1, L0, HP.out⟩, HO.out⟩
theorem spec_l13WantL {p : Nat} {bad : Bool} {L : List TR} {t : List UInt8} {w : World} (h : RSt N w p bad L) (ht : t ≠ []) : Calls Tryz.prog 110 #[.pointer (some ⟨p, 0, none⟩), .string ⟨t.toArray⟩] w fun e w' => (∃ v, e = .returned v) ∧ RSt N w' p (bad || !isT L t) (exL L t) ∧ Only p (p + 1) w w' := by
  have h1 := spec_l13Want (s := ⟨t.toArray⟩) h (by simpa using ht)
  simpa using h1
def namB (t : ByteArray) : Bool := wrdB t.data.toList && decide (kwI t < 0)
theorem spec_l13Name {s : ByteArray} {w : World} (hz : s.size ≤ 1048576) : Calls Tryz.prog 96 #[.string s] w fun e w' => e = .returned (.bool (namB s)) ∧ Below w.heap.size w w' := by
  have H := Lib.hid (show namB s = (wrdB s.data.toList && decide (kwI s < 0)) from rfl)
  have HW := Lib.hid (fun (wx : World) => spec_l12Word (s := s) (w := wx) hz)
  cases hw : wrdB s.data.toList
  · rw [hw] at HW H
    go_enter Tryz.func96, Tryz.ntmps96
    go_wp2_with fail
    refine Calls.mono (HW.out _) ?_
    rintro e _ ⟨rfl, rfl⟩
    go_wp2
    go_ret
    exact ⟨by rw [H.out]; rfl, bel⟩
  · rw [hw] at HW H
    go_enter Tryz.func96, Tryz.ntmps96
    go_wp2_with fail
    refine Calls.mono (HW.out _) ?_
    rintro e _ ⟨rfl, rfl⟩
    go_wp2_with fail
    refine Calls.mono spec_l12Keyword ?_
    rintro e w1 ⟨rfl, hb1⟩
    go_wp2
    go_ret
    exact ⟨by rw [H.out]; rfl, hb1⟩
theorem nam_nmB {L : List TR} (hK : ∀ x ∈ L, TkB x) : namB (pkT L) = (!L.isEmpty && nmB (tkOf L)) := by
  cases L with
  | nil => decide +kernel
  | cons x r =>
    show (wrdB x.t.data.toList && decide (kwI x.t < 0)) = (decide (x.k = 1) && decide (kwI x.t < 0))
    congr 1
    rcases hK x (List.mem_cons_self ..) with h | h | h
    · rw [h.2, decide_eq_true h.1]
    · rw [decide_eq_false (by omega)]
      have h2 := numB_len h.2
      rw [wrdB]
      have : (x.t.data.toList.head?.any letP) = false := by
        cases hl : x.t.data.toList with
        | nil => rfl
        | cons c t =>
          rw [hl] at h2
          have h3 := h2.2.2
          simp only [List.all_cons, Bool.and_eq_true] at h3
          have h4 := h3.1
          simp only [digP, Bool.and_eq_true, decide_eq_true_eq] at h4
          simp only [List.head?_cons, Option.any_some, letP]
          have : ¬ 97 ≤ c.toNat := by omega
          simp [this]
      rw [this]; simp
    · obtain ⟨h1, c, hc, ht⟩ := h
      rw [decide_eq_false (by omega), ht, wrdB]
      have : letP c = false := by
        simp only [sgnP, Bool.or_eq_true, decide_eq_true_eq] at hc
        simp only [letP]
        have : ¬ 97 ≤ c.toNat := by omega
        simp [this]
      simp [this]
set_option maxHeartbeats 1000000 in
theorem spec_l13WantName {p : Nat} {bad : Bool} {L : List TR} {w : World} (h : RSt N w p bad L) : Calls Tryz.prog 111 #[.pointer (some ⟨p, 0, none⟩)] w fun e w' => e = .returned (.string (if namB (pkT L) = true then pkT L else ⟨#[]⟩)) ∧ RSt N w' p (bad || !namB (pkT L)) (if namB (pkT L) = true then L.tail else L) ∧ Only p (p + 1) w w' := by
  have HK := Lib.hid (spec_l13Peek h)
  have HN := Lib.hid (fun (wx : World) => spec_l13Name (s := pkT L) (w := wx) (by have := h.szp; omega))
  have H := Lib.hid h
  have hne : namB (pkT L) = true → L ≠ [] := fun hn e => by rw [e] at hn; revert hn; decide +kernel
  clear h
  generalize pkT L = s at *
  cases hq : namB s
  · rw [hq] at HN
    clear hne
    go_enter Tryz.func111, Tryz.ntmps111
    go_wp2_with fail
    refine Calls.mono HK.out ?_
    rintro e w1 ⟨rfl, hb1⟩
    go_wp2_with fail
    refine Calls.mono (HN.out _) ?_
    rintro e w2 ⟨rfl, hb2⟩
    obtain ⟨ta, tn, tc, k, L0, h1⟩ := (H.out.keep hb1).keep hb2
    have x1 := h1.x.cell 2
    have xl := h1.x.lt
    have xf := h1.x.free
    simp only [List.getElem?_toArray, List.getElem?_cons_zero, List.getElem?_cons_succ] at x1
    have HP := Lib.hid h1.wrong
    have HO := Lib.hid ((((Only.refl p (p + 1) w).then hb1).then hb2).set ⟨Nat.le_refl _, Nat.lt_succ_self _⟩ 2 (.bool true))
    clear h1 hb1 hb2
    go_wp2
    go_ret
    exact ⟨rfl, ⟨ta, tn, tc, k, L0, HP.out⟩, HO.out⟩
  · rw [hq] at HN
    have hn := hne hq
    clear hne
    go_enter Tryz.func111, Tryz.ntmps111
    go_wp2_with fail
    refine Calls.mono HK.out ?_
    rintro e w1 ⟨rfl, hb1⟩
    go_wp2_with fail
    refine Calls.mono (HN.out _) ?_
    rintro e w2 ⟨rfl, hb2⟩
    obtain ⟨ta, tn, tc, k, L0, h1⟩ := (H.out.keep hb1).keep hb2
    have x1 := h1.x.cell 1
    have xl := h1.x.lt
    have xf := h1.x.free
    simp only [List.getElem?_toArray, List.getElem?_cons_zero, List.getElem?_cons_succ] at x1
    have HP := Lib.hid (h1.adv hn)
    have hk8 : k ≤ 800 := by have := h1.n8; have := h1.kn; omega
    have ek : IntKind.i64.wrap ((k : Int) + 1) = (k : Int) + 1 := IntWalk.i64_in _ (by omega)
    have HO := Lib.hid ((((Only.refl p (p + 1) w).then hb1).then hb2).set ⟨Nat.le_refl _, Nat.lt_succ_self _⟩ 1 (.int .i64 ((k : Int) + 1)))
    clear h1 hb1 hb2
    go_wp2
    go_ret
    exact ⟨rfl, ⟨ta, tn, tc, k + 1, L0, HP.out⟩, HO.out⟩
variable {N : Nat}
theorem spec_l13Takes {k : Int} {w : World} : Calls Tryz.prog 101 #[.int .i64 k] w fun e w' => e = .returned (.int .i64 (tkA k : Int)) ∧ w = w' := by
  have H := Lib.hid (show tkA k = if k = 1 ∨ k = 2 ∨ k = 3 then 0 else if k = 4 ∨ k = 7 ∨ k = 8 ∨ k = 9 then 1 else 2 from rfl)
  have fin : ∀ n : Nat, tkA k = n → Ending.returned (.int .i64 (n : Int)) = .returned (.int .i64 (tkA k : Int)) := fun n h => by rw [h]
  have HF := Lib.hid fin
  clear fin
  by_cases h1 : k = 1
  · subst h1
    go_enter Tryz.func101, Tryz.ntmps101
    go_wp2
    go_ret
    exact ⟨HF.out 0 (by decide), rfl⟩
  by_cases h2 : k = 2
  · subst h2
    go_enter Tryz.func101, Tryz.ntmps101
    go_wp2
    go_ret
    exact ⟨HF.out 0 (by decide), rfl⟩
  by_cases h3 : k = 3
  · subst h3
    go_enter Tryz.func101, Tryz.ntmps101
    go_wp2
    go_ret
    exact ⟨HF.out 0 (by decide), rfl⟩
  by_cases h4 : k = 4
  · subst h4
    go_enter Tryz.func101, Tryz.ntmps101
    go_wp2
    go_ret
    exact ⟨HF.out 1 (by decide), rfl⟩
  by_cases h7 : k = 7
  · subst h7
    go_enter Tryz.func101, Tryz.ntmps101
    go_wp2
    go_ret
    exact ⟨HF.out 1 (by decide), rfl⟩
  by_cases h8 : k = 8
  · subst h8
    go_enter Tryz.func101, Tryz.ntmps101
    go_wp2
    go_ret
    exact ⟨HF.out 1 (by decide), rfl⟩
  by_cases h9 : k = 9
  · subst h9
    go_enter Tryz.func101, Tryz.ntmps101
    go_wp2
    go_ret
    exact ⟨HF.out 1 (by decide), rfl⟩
  · have e1 : (k == 1) = false := by simpa using h1
    have e2 : (k == 2) = false := by simpa using h2
    have e3 : (k == 3) = false := by simpa using h3
    have e4 : (k == 4) = false := by simpa using h4
    have e7 : (k == 7) = false := by simpa using h7
    have e8 : (k == 8) = false := by simpa using h8
    have e9 : (k == 9) = false := by simpa using h9
    have HG := Lib.hid (show tkA k = 2 by rw [H.out, if_neg (by omega), if_neg (by omega)])
    go_enter Tryz.func101, Tryz.ntmps101
    go_wp2
    go_ret
    exact ⟨HF.out 2 HG.out, rfl⟩
theorem spec_l13Counts {k : Int} {w : World} : Calls Tryz.prog 143 #[.int .i64 k] w fun e w' => e = .returned (.bool (numK k)) ∧ w = w' := by
  have H := Lib.hid (show numK k = decide (k = 7 ∨ k = 8 ∨ k = 11 ∨ k = 12) from rfl)
  by_cases h1 : k = 7
  · subst h1
    go_enter Tryz.func143, Tryz.ntmps143
    go_wp2
    go_ret
    exact ⟨rfl, rfl⟩
  by_cases h2 : k = 8
  · subst h2
    go_enter Tryz.func143, Tryz.ntmps143
    go_wp2
    go_ret
    exact ⟨rfl, rfl⟩
  by_cases h3 : k = 11
  · subst h3
    go_enter Tryz.func143, Tryz.ntmps143
    go_wp2
    go_ret
    exact ⟨rfl, rfl⟩
  · have e1 : (k == 7) = false := by simpa using h1
    have e2 : (k == 8) = false := by simpa using h2
    have e3 : (k == 11) = false := by simpa using h3
    have HG := Lib.hid (show numK k = (k == 12) by
      rw [H.out]
      by_cases h4 : k = 12
      · rw [h4]; rfl
      · have : (k == 12) = false := by simpa using h4
        rw [this, decide_eq_false (by omega)])
    go_enter Tryz.func143, Tryz.ntmps143
    go_wp2
    go_ret
    exact ⟨by rw [HG.out]; rfl, rfl⟩
theorem v01_tk {L : List TR} (hK : ∀ x ∈ L, TkB x) : v01B (pkT L).data.toList = (!L.isEmpty && decide ((tkOf L).k = 2)) := by
  cases L with
  | nil => decide +kernel
  | cons x r =>
    show v01B x.t.data.toList = decide (x.k = 2)
    have dig : ∀ (c : UInt8) (t : List UInt8), x.t.data.toList = c :: t → digP c = false → v01B x.t.data.toList = false := fun c t h hd => by
      rw [h, v01B]
      simp only [List.all_cons, hd, Bool.false_and, Bool.and_false]
    rcases hK x (List.mem_cons_self ..) with h | h | h
    · rw [decide_eq_false (by omega)]
      have h2 := h.2
      cases hl : x.t.data.toList with
      | nil => rfl
      | cons c t =>
        rw [hl, wrdB] at h2
        simp only [List.head?_cons, Option.any_some, Bool.and_eq_true, letP, decide_eq_true_eq] at h2
        rw [← hl]
        refine dig c t hl ?_
        have : ¬ c.toNat ≤ 57 := by omega
        simp [digP, this]
    · rw [decide_eq_true h.1]
      have h2 := h.2
      rw [num_v01, Bool.and_eq_true] at h2
      exact h2.1
    · rw [decide_eq_false (by omega)]
      obtain ⟨_, c, hc, ht⟩ := h
      refine dig c [] ht ?_
      simp only [sgnP, Bool.or_eq_true, decide_eq_true_eq] at hc
      have : ¬ (48 ≤ c.toNat ∧ c.toNat ≤ 57) := by omega
      rw [digP]
      by_cases h1 : 48 ≤ c.toNat
      · have : ¬ c.toNat ≤ 57 := by omega
        simp [this]
      · simp [h1]
set_option maxHeartbeats 1000000 in
theorem spec_l13WantNumber {p : Nat} {bad : Bool} {L : List TR} {w : World} (h : RSt N w p bad L) : Calls Tryz.prog 187 #[.pointer (some ⟨p, 0, none⟩)] w fun e w' => (∃ n : Int, e = .returned (.int .i64 n) ∧ ((tkOf L).k = 2 → n = (valA 0 (tkOf L).t.data.toList : Int))) ∧ RSt N w' p (bad || !(!L.isEmpty && decide ((tkOf L).k = 2))) (if (!L.isEmpty && decide ((tkOf L).k = 2)) = true then L.tail else L) ∧ Only p (p + 1) w w' := by
  have HK := Lib.hid (spec_l13Peek h)
  have HN := Lib.hid (fun (wx : World) => spec_l01Value (s := pkT L) (w := wx) (by have := h.szp; unfold maxLen; omega))
  have HV := v01_tk h.tk
  have H := Lib.hid h
  have hne : (!L.isEmpty && decide ((tkOf L).k = 2)) = true → L ≠ [] ∧ pkT L = (tkOf L).t := fun hn => by
    cases L with
    | nil => simp at hn
    | cons x r => exact ⟨by simp, rfl⟩
  have hno : (!L.isEmpty && decide ((tkOf L).k = 2)) = false → ¬ (tkOf L).k = 2 := fun hn hk => by
    cases L with
    | nil => simp [tkOf] at hk
    | cons x r => simp [hk] at hn
  clear h
  generalize pkT L = s at *
  rw [HV] at HN
  clear HV
  cases hq : (!L.isEmpty && decide ((tkOf L).k = 2))
  · rw [hq] at HN
    have HNO := Lib.hid (hno hq)
    clear hne hno hq
    go_enter Tryz.func187, Tryz.ntmps187
    go_wp2_with fail
    refine Calls.mono HK.out ?_
    rintro e w1 ⟨rfl, hb1⟩
    go_wp2_with fail
    refine Calls.mono (HN.out _) ?_
    rintro e w2 ⟨n, rfl, _, hb2⟩
    obtain ⟨ta, tn, tc, k, L0, h1⟩ := (H.out.keep hb1).keep hb2
    have x1 := h1.x.cell 2
    have xl := h1.x.lt
    have xf := h1.x.free
    simp only [List.getElem?_toArray, List.getElem?_cons_zero, List.getElem?_cons_succ] at x1
    have HP := Lib.hid h1.wrong
    have HO := Lib.hid ((((Only.refl p (p + 1) w).then hb1).then hb2).set ⟨Nat.le_refl _, Nat.lt_succ_self _⟩ 2 (.bool true))
    clear h1 hb1 hb2
    go_wp2
    go_ret
    exact ⟨⟨0, rfl, fun h => absurd h HNO.out⟩, ⟨ta, tn, tc, k, L0, HP.out⟩, HO.out⟩
  · rw [hq] at HN
    obtain ⟨hn, hs⟩ := hne hq
    have HS := Lib.hid hs
    clear hne hno hq hs
    go_enter Tryz.func187, Tryz.ntmps187
    go_wp2_with fail
    refine Calls.mono HK.out ?_
    rintro e w1 ⟨rfl, hb1⟩
    go_wp2_with fail
    refine Calls.mono (HN.out _) ?_
    rintro e w2 ⟨n, rfl, hnv, hb2⟩
    have HNV := Lib.hid (hnv (by trivial))
    obtain ⟨ta, tn, tc, k, L0, h1⟩ := (H.out.keep hb1).keep hb2
    have x1 := h1.x.cell 1
    have xl := h1.x.lt
    have xf := h1.x.free
    simp only [List.getElem?_toArray, List.getElem?_cons_zero, List.getElem?_cons_succ] at x1
    have HP := Lib.hid (h1.adv hn)
    have hk8 : k ≤ 800 := by have := h1.n8; have := h1.kn; omega
    have ek : IntKind.i64.wrap ((k : Int) + 1) = (k : Int) + 1 := IntWalk.i64_in _ (by omega)
    have HO := Lib.hid ((((Only.refl p (p + 1) w).then hb1).then hb2).set ⟨Nat.le_refl _, Nat.lt_succ_self _⟩ 1 (.int .i64 ((k : Int) + 1)))
    clear h1 hb1 hb2 hnv
    go_wp2
    go_ret
    exact ⟨⟨n, rfl, fun _ => by rw [← HS.out]; exact HNV.out⟩, ⟨ta, tn, tc, k + 1, L0, HP.out⟩, HO.out⟩
end Go.Proofs.YtjneodmohkpckaaGreatDoor
