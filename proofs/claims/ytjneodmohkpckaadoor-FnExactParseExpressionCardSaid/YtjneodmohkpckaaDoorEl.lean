/- The reference's parser: its state and its small steps, walked. -/
import Derived.Test.YtjneodmohkpckaaDoorEj
import Derived.Test.YtjneodmohkpckaaDoorEh
namespace Go.Proofs.YtjneodmohkpckaaDoor
open Go.RowKit
set_option linter.unusedVariables false
set_option linter.unusedSimpArgs false
variable {N : Nat}
/-- where the reference's parser stands -/
structure RS (N : Nat) (w : World) (p : Nat) (ta : Option Addr) (tn tc k : Nat) (bad : Bool) (L0 L : List TR) : Prop where
  x : Blk w p #[.slice ta tn tc, .int .i64 (k : Int), .bool bad] 56
  t : FT w ta tn tc L0
  ne : ∀ g off, ta = some ⟨g, off, none⟩ → g < p
  n8 : tn ≤ 800
  kn : k ≤ tn ∧ tn = N
  dr : L = L0.drop k
  sz : ∀ x ∈ L0, x.t.size ≤ 6000
  tk : ∀ x ∈ L0, TkB x
def RSt (N : Nat) (w : World) (p : Nat) (bad : Bool) (L : List TR) : Prop := ∃ ta tn tc k L0, RS N w p ta tn tc k bad L0 L
theorem RSt.keep {w w' : World} {p : Nat} {bad : Bool} {L : List TR} (h : RSt N w p bad L) (hb : Below w.heap.size w w') : RSt N w' p bad L := by
  obtain ⟨ta, tn, tc, k, L0, h⟩ := h
  exact ⟨ta, tn, tc, k, L0, h.x.keep hb, h.t.keep hb, h.ne, h.n8, h.kn, h.dr, h.sz, h.tk⟩
theorem RSt.keepB {w w' : World} {p B : Nat} {bad : Bool} {L : List TR} (h : RSt N w p bad L) (hb : Below B w w') (hB : p < B) : RSt N w' p bad L := by
  obtain ⟨ta, tn, tc, k, L0, h⟩ := h
  exact ⟨ta, tn, tc, k, L0, h.x.keepB hb hB, h.t.only (lo := B) (hi := w.heap.size) (Below.onlyE hb) (fun g o e => by have := h.ne g o e; omega), h.ne, h.n8, h.kn, h.dr, h.sz, h.tk⟩
theorem RSt.lt {w : World} {p : Nat} {bad : Bool} {L : List TR} (h : RSt N w p bad L) : p < w.heap.size := by
  obtain ⟨ta, tn, tc, k, L0, h⟩ := h; exact h.x.lt
theorem RSt.n8 {w : World} {p : Nat} {bad : Bool} {L : List TR} (h : RSt N w p bad L) : L.length ≤ 800 := by
  obtain ⟨ta, tn, tc, k, L0, h⟩ := h; have := h.n8; have := h.t.len; rw [h.dr, List.length_drop]; omega
theorem RSt.tk {w : World} {p : Nat} {bad : Bool} {L : List TR} (h : RSt N w p bad L) : ∀ x ∈ L, TkB x := by
  obtain ⟨ta, tn, tc, k, L0, h⟩ := h; rw [h.dr]; exact fun x hx => h.tk x (List.mem_of_mem_drop hx)
theorem RSt.bd {w : World} {p : Nat} {bad : Bool} {L : List TR} (h : RSt N w p bad L) : w.cell? ⟨p, 2, none⟩ = some (.bool bad) ∧ p < w.heap.size := by
  obtain ⟨ta, tn, tc, k, L0, h⟩ := h; exact ⟨h.x.cell 2, h.x.lt⟩
theorem RSt.szp {w : World} {p : Nat} {bad : Bool} {L : List TR} (h : RSt N w p bad L) : (pkT L).size ≤ 6000 := by
  obtain ⟨ta, tn, tc, k, L0, h⟩ := h
  cases hL : L with
  | nil => decide
  | cons x r =>
    refine h.sz x (List.mem_of_mem_drop (i := k) ?_)
    rw [← h.dr, hL]; exact List.mem_cons_self ..
/-- one token is passed over -/
theorem RS.adv {w : World} {p tn tc k : Nat} {ta : Option Addr} {bad : Bool} {L0 L : List TR} (h : RS N w p ta tn tc k bad L0 L) (hL : L ≠ []) : RS N (w.setCell ⟨p, 1, none⟩ (.int .i64 ((k : Int) + 1))) p ta tn tc (k + 1) bad L0 L.tail := by
  have hk : k < tn := by
    have := h.t.len
    apply Nat.lt_of_not_le
    intro hle
    exact hL (by rw [h.dr, List.drop_of_length_le (by omega)])
  refine ⟨?_, h.t.only (only_p 1 _) (fun g o e => by have := h.ne g o e; omega), h.ne, h.n8, ⟨hk, h.kn.2⟩, by rw [h.dr, List.tail_drop], h.sz, h.tk⟩
  have := heap_setCell_same w p 1 _ _ (.int .i64 ((k : Int) + 1)) h.x
  rw [show ((k + 1 : Nat) : Int) = (k : Int) + 1 from by omega]
  exact this
theorem RS.wrong {w : World} {p tn tc k : Nat} {ta : Option Addr} {bad : Bool} {L0 L : List TR} (h : RS N w p ta tn tc k bad L0 L) : RS N (w.setCell ⟨p, 2, none⟩ (.bool true)) p ta tn tc k true L0 L :=
  ⟨heap_setCell_same w p 2 _ _ _ h.x, h.t.only (only_p 2 _) (fun g o e => by have := h.ne g o e; omega), h.ne, h.n8, h.kn, h.dr, h.sz, h.tk⟩
set_option maxHeartbeats 1000000 in
theorem spec_l13Peek {p : Nat} {bad : Bool} {L : List TR} {w : World} (h : RSt N w p bad L) : Calls Tryd.prog 67 #[.pointer (some ⟨p, 0, none⟩)] w fun e w' => e = .returned (.string (pkT L)) ∧ Below w.heap.size w w' := by
  obtain ⟨ta, tn, tc, k, L0, h⟩ := h
  have x0 := h.x.cell 0
  have x1 := h.x.cell 1
  have xl := h.x.lt
  simp only [List.getElem?_toArray, List.getElem?_cons_zero, List.getElem?_cons_succ] at x0 x1
  have hk0 : (0 : Int) ≤ (k : Int) := by omega
  by_cases hk : k < tn
  · obtain ⟨b, off, x, rfl, hb, hx, hok, c0, c1⟩ := FT.get h.t hk
    have E := Lib.hid (show pkT L = x.t by rw [h.dr, List.drop_eq_getElem_cons (by rw [h.t.len]; exact hk)]; rw [List.getElem?_eq_getElem (by rw [h.t.len]; exact hk)] at hx; simp only [pkT]; rw [Option.some.inj hx])
    have hk' : (k : Int) < (tn : Int) := by omega
    clear h hx
    go_enter Tryd.func67, Tryd.ntmps67
    go_wp2_with fail
    go_quiet (fail)
    go_wp2_with fail
    go_quiet (fail)
    go_wp2
    go_ret
    exact ⟨by rw [E.out]; rfl, bel⟩
  · have E := Lib.hid (show pkT L = ⟨#[]⟩ by rw [h.dr, List.drop_of_length_le (by have := h.t.len; omega)]; rfl)
    have hk' : ¬ (k : Int) < (tn : Int) := by omega
    clear h
    go_enter Tryd.func67, Tryd.ntmps67
    go_wp2_with fail
    go_quiet (fail)
    go_wp2
    go_ret
    exact ⟨by rw [E.out]; rfl, bel⟩
set_option maxHeartbeats 1000000 in
theorem spec_l13Want {p : Nat} {bad : Bool} {L : List TR} {s : ByteArray} {w : World} (h : RSt N w p bad L) (ht : s.data.toList ≠ []) : Calls Tryd.prog 98 #[.pointer (some ⟨p, 0, none⟩), .string s] w fun e w' => (∃ v, e = .returned v) ∧ RSt N w' p (bad || !isT L s.data.toList) (exL L s.data.toList) ∧ Only p (p + 1) w w' := by
  have HK := Lib.hid (spec_l13Peek h)
  have H := Lib.hid h
  clear h
  cases hq : isT L s.data.toList
  · have hpk : (!((pkT L).toList == s.toList)) = true := pk_ne hq
    have HE := Lib.hid (show exL L s.data.toList = L by rw [exL, hq]; rfl)
    clear hq
    go_enter Tryd.func98, Tryd.ntmps98
    go_wp2_with fail
    refine Calls.mono HK.out ?_
    rintro e w1 ⟨rfl, hb1⟩
    obtain ⟨ta, tn, tc, k, L0, h1⟩ := H.out.keep hb1
    have x1 := h1.x.cell 2
    have xl := h1.x.lt
    have xf := h1.x.free
    simp only [List.getElem?_toArray, List.getElem?_cons_zero, List.getElem?_cons_succ] at x1
    have HP := Lib.hid h1.wrong
    have HO := Lib.hid (((Only.refl p (p + 1) w).then hb1).set ⟨Nat.le_refl _, Nat.lt_succ_self _⟩ 2 (.bool true))
    clear h1 hb1
    go_wp2
    refine bodyPost_ret (results_none Tryd.results98 _ _ _) rfl ?_
    exact ⟨⟨_, rfl⟩, by rw [HE.out]; first | exact ⟨ta, tn, tc, k, L0, HP.out⟩ | rw [Bool.not_false, Bool.or_true]; exact ⟨ta, tn, tc, k, L0, HP.out⟩, HO.out⟩
  · have hpk : (!((pkT L).toList == s.toList)) = false := pk_ne hq
    have HE := Lib.hid (show exL L s.data.toList = L.tail by rw [exL, if_pos hq])
    have hne : L ≠ [] := by
      obtain ⟨x, r, e, _⟩ := isT_ne ht hq
      rw [e]; simp
    clear hq
    go_enter Tryd.func98, Tryd.ntmps98
    go_wp2_with fail
    refine Calls.mono HK.out ?_
    rintro e w1 ⟨rfl, hb1⟩
    obtain ⟨ta, tn, tc, k, L0, h1⟩ := H.out.keep hb1
    have x1 := h1.x.cell 1
    have xl := h1.x.lt
    have xf := h1.x.free
    simp only [List.getElem?_toArray, List.getElem?_cons_zero, List.getElem?_cons_succ] at x1
    have HP := Lib.hid (h1.adv hne)
    have hk8 : k ≤ 800 := by have := h1.n8; have := h1.kn; omega
    have ek : IntKind.i64.wrap ((k : Int) + 1) = (k : Int) + 1 := IntWalk.i64_in _ (by omega)
    have HO := Lib.hid (((Only.refl p (p + 1) w).then hb1).set ⟨Nat.le_refl _, Nat.lt_succ_self _⟩ 1 (.int .i64 ((k : Int) + 1)))
    clear h1 hb1
    go_wp2
    refine bodyPost_end (results_none Tryd.results98 _ _ _) rfl ?_
    exact ⟨⟨_, rfl⟩, by rw [HE.out]; first | exact ⟨ta, tn, tc, k + 1, L0, HP.out⟩ | rw [Bool.not_true, Bool.or_false]; exact ⟨ta, tn, tc, k + 1, L0, HP.out⟩, HO.out⟩
theorem spec_l13WantL {p : Nat} {bad : Bool} {L : List TR} {t : List UInt8} {w : World} (h : RSt N w p bad L) (ht : t ≠ []) : Calls Tryd.prog 98 #[.pointer (some ⟨p, 0, none⟩), .string ⟨t.toArray⟩] w fun e w' => (∃ v, e = .returned v) ∧ RSt N w' p (bad || !isT L t) (exL L t) ∧ Only p (p + 1) w w' := by
  have h1 := spec_l13Want (s := ⟨t.toArray⟩) h (by simpa using ht)
  simpa using h1
def namB (t : ByteArray) : Bool := wrdB t.data.toList && decide (kwI t < 0)
theorem spec_l13Name {s : ByteArray} {w : World} (hz : s.size ≤ 1048576) : Calls Tryd.prog 103 #[.string s] w fun e w' => e = .returned (.bool (namB s)) ∧ Below w.heap.size w w' := by
  have H := Lib.hid (show namB s = (wrdB s.data.toList && decide (kwI s < 0)) from rfl)
  have HW := Lib.hid (fun (wx : World) => spec_l12Word (s := s) (w := wx) hz)
  cases hw : wrdB s.data.toList
  · rw [hw] at HW H
    go_enter Tryd.func103, Tryd.ntmps103
    go_wp2_with fail
    refine Calls.mono (HW.out _) ?_
    rintro e _ ⟨rfl, rfl⟩
    go_wp2
    go_ret
    exact ⟨by rw [H.out]; rfl, bel⟩
  · rw [hw] at HW H
    go_enter Tryd.func103, Tryd.ntmps103
    go_wp2_with fail
    refine Calls.mono (HW.out _) ?_
    rintro e _ ⟨rfl, rfl⟩
    go_wp2_with fail
    refine Calls.mono spec_l12Keyword ?_
    rintro e w1 ⟨rfl, hb1⟩
    go_wp2
    go_ret
    exact ⟨by rw [H.out]; rfl, hb1⟩
theorem nam_nmB {L : List TR} (hK : ∀ x ∈ L, TkB x) : namB (pkT L) = (!L.isEmpty && nmB (tkOf L)) := by
  cases L with
  | nil => decide +kernel
  | cons x r =>
    show (wrdB x.t.data.toList && decide (kwI x.t < 0)) = (decide (x.k = 1) && decide (kwI x.t < 0))
    congr 1
    rcases hK x (List.mem_cons_self ..) with h | h | h
    · rw [h.2, decide_eq_true h.1]
    · rw [decide_eq_false (by omega)]
      have h2 := numB_len h.2
      rw [wrdB]
      have : (x.t.data.toList.head?.any letP) = false := by
        cases hl : x.t.data.toList with
        | nil => rfl
        | cons c t =>
          rw [hl] at h2
          have h3 := h2.2.2
          simp only [List.all_cons, Bool.and_eq_true] at h3
          have h4 := h3.1
          simp only [digP, Bool.and_eq_true, decide_eq_true_eq] at h4
          simp only [List.head?_cons, Option.any_some, letP]
          have : ¬ 97 ≤ c.toNat := by omega
          simp [this]
      rw [this]; simp
    · obtain ⟨h1, c, hc, ht⟩ := h
      rw [decide_eq_false (by omega), ht, wrdB]
      have : letP c = false := by
        simp only [sgnP, Bool.or_eq_true, decide_eq_true_eq] at hc
        simp only [letP]
        have : ¬ 97 ≤ c.toNat := by omega
        simp [this]
      simp [this]
set_option maxHeartbeats 1000000 in
theorem spec_l13WantName {p : Nat} {bad : Bool} {L : List TR} {w : World} (h : RSt N w p bad L) : Calls Tryd.prog 100 #[.pointer (some ⟨p, 0, none⟩)] w fun e w' => e = .returned (.string (if namB (pkT L) = true then pkT L else ⟨#[]⟩)) ∧ RSt N w' p (bad || !namB (pkT L)) (if namB (pkT L) = true then L.tail else L) ∧ Only p (p + 1) w w' := by
  have HK := Lib.hid (spec_l13Peek h)
  have HN := Lib.hid (fun (wx : World) => spec_l13Name (s := pkT L) (w := wx) (by have := h.szp; omega))
  have H := Lib.hid h
  have hne : namB (pkT L) = true → L ≠ [] := fun hn e => by rw [e] at hn; revert hn; decide +kernel
  clear h
  generalize pkT L = s at *
  cases hq : namB s
  · rw [hq] at HN
    clear hne
    go_enter Tryd.func100, Tryd.ntmps100
    go_wp2_with fail
    refine Calls.mono HK.out ?_
    rintro e w1 ⟨rfl, hb1⟩
    go_wp2_with fail
    refine Calls.mono (HN.out _) ?_
    rintro e w2 ⟨rfl, hb2⟩
    obtain ⟨ta, tn, tc, k, L0, h1⟩ := (H.out.keep hb1).keep hb2
    have x1 := h1.x.cell 2
    have xl := h1.x.lt
    have xf := h1.x.free
    simp only [List.getElem?_toArray, List.getElem?_cons_zero, List.getElem?_cons_succ] at x1
    have HP := Lib.hid h1.wrong
    have HO := Lib.hid ((((Only.refl p (p + 1) w).then hb1).then hb2).set ⟨Nat.le_refl _, Nat.lt_succ_self _⟩ 2 (.bool true))
    clear h1 hb1 hb2
    go_wp2
    go_ret
    exact ⟨rfl, ⟨ta, tn, tc, k, L0, HP.out⟩, HO.out⟩
  · rw [hq] at HN
    have hn := hne hq
    clear hne
    go_enter Tryd.func100, Tryd.ntmps100
    go_wp2_with fail
    refine Calls.mono HK.out ?_
    rintro e w1 ⟨rfl, hb1⟩
    go_wp2_with fail
    refine Calls.mono (HN.out _) ?_
    rintro e w2 ⟨rfl, hb2⟩
    obtain ⟨ta, tn, tc, k, L0, h1⟩ := (H.out.keep hb1).keep hb2
    have x1 := h1.x.cell 1
    have xl := h1.x.lt
    have xf := h1.x.free
    simp only [List.getElem?_toArray, List.getElem?_cons_zero, List.getElem?_cons_succ] at x1
    have HP := Lib.hid (h1.adv hn)
    have hk8 : k ≤ 800 := by have := h1.n8; have := h1.kn; omega
    have ek : IntKind.i64.wrap ((k : Int) + 1) = (k : Int) + 1 := IntWalk.i64_in _ (by omega)
    have HO := Lib.hid ((((Only.refl p (p + 1) w).then hb1).then hb2).set ⟨Nat.le_refl _, Nat.lt_succ_self _⟩ 1 (.int .i64 ((k : Int) + 1)))
    clear h1 hb1 hb2
    go_wp2
    go_ret
    exact ⟨rfl, ⟨ta, tn, tc, k + 1, L0, HP.out⟩, HO.out⟩
end Go.Proofs.YtjneodmohkpckaaDoor
