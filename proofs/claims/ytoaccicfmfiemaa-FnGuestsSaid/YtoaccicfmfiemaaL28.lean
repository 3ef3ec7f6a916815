/- The guests of layer 28, walked. -/
import Derived.Test.YtoaccicfmfiemaaSl
import Derived.Test.YtoaccicfmfiemaaL26
import Derived.Test.YtoaccicfmfiemaaX28a
namespace Go.Proofs.Ytoaccicfmfiemaa
open Go.RowKit
set_option linter.unusedVariables false
set_option linter.unusedSimpArgs false
def verd (l a m h : Int) : Int := if h < l then 0 else if m < h then 3 else if a ≤ h then 2 else 1
theorem verd_cases (l a m h : Int) : verd l a m h = 0 ∨ verd l a m h = 1 ∨ verd l a m h = 2 ∨ verd l a m h = 3 := by
  unfold verd; repeat' split
  all_goals omega
/-- the error of a rule and heights -/
def hCode (l a m : Int) (hs : List Int) : Int :=
  if heightB l a m = false then 1 else if 24 < hs.length then 3 else if (hs.any fun x => !inB x 1 3000) = true then 2 else 0
theorem Ints.one {w : World} {E : TypeId} {h : Int} (hw : I64 h) {g : Nat} (hg : g = w.heap.size) : Ints (w.alloc (.cells #[.int .i64 h] E)) (some ⟨g, 0, none⟩) 1 1 [h] := by
  subst hg
  refine ⟨rfl, Nat.le_refl _, .inr ⟨_, 0, rfl, by simp, fun i x hx => ?_⟩, fun x hx => ?_, fun h => by cases h⟩
  · cases i with
    | zero => simp at hx; subst hx; simp
    | succ i => simp at hx
  · simp at hx; subst hx; exact hw
theorem impl_verdict {l a m h : Int} {w : World} : Calls Try.prog 75 #[.agg #[.int .i64 l, .int .i64 a, .int .i64 m], .int .i64 h] w fun e w' => e = .returned (.int .i64 (verd l a m h)) ∧ Below w.heap.size w w' := by
  go_enter Try.func75, Try.ntmps75
  go_wp2
  all_goals
    go_ret
    exact ⟨ret_int (by unfold verd; (repeat' split) <;> omega), by repeat (first | exact Below.refl _ _ | assumption | refine below_allocS ?_ _ | refine below_callS ?_ (by assumption) | (refine Below.alloc ?_ (by first | omega | (simp; done) | (simp; omega)) _) | (refine Below.setCell ?_ (by first | omega | (simp; done) | (simp; omega)) _) | refine Below.drew ?_ | refine below_drewN ?_ _ | (refine below_call ?_ (by assumption) (by first | omega | (simp; done) | (simp; omega))) | (refine Below.trans ?_ (by assumption)))⟩
theorem spec_l28Verdict {l a m h : Int} {w : World} : Calls Try.prog 77 #[.agg #[.int .i64 l, .int .i64 a, .int .i64 m], .int .i64 h] w fun e w' => e = .returned (.int .i64 (verd l a m h)) ∧ Below w.heap.size w w' := by
  go_enter Try.func77, Try.ntmps77
  go_wp2
  all_goals
    go_ret
    exact ⟨ret_int (by unfold verd; (repeat' split) <;> omega), by repeat (first | exact Below.refl _ _ | assumption | refine below_allocS ?_ _ | refine below_callS ?_ (by assumption) | (refine Below.alloc ?_ (by first | omega | (simp; done) | (simp; omega)) _) | (refine Below.setCell ?_ (by first | omega | (simp; done) | (simp; omega)) _) | refine Below.drew ?_ | refine below_drewN ?_ _ | (refine below_call ?_ (by assumption) (by first | omega | (simp; done) | (simp; omega))) | (refine Below.trans ?_ (by assumption)))⟩
theorem impl_heightsCode_1 {x : Int} {w : World} : Calls Try.prog 129 #[.int .i64 x] w fun e w' => e = .returned (.bool (!inB x 1 3000)) ∧ w = w' := by
  go_enter Try.func129, Try.ntmps129
  go_wp2_with fail
  refine Calls.mono (impl_within) ?_
  rintro e _ ⟨rfl, rfl⟩
  go_wp2
  go_ret
  exact ⟨rfl, rfl⟩
theorem impl_heightsCode {l a m : Int} {ad : Option Addr} {n c : Nat} {hs : List Int} {w : World} (hI : Ints w ad n c hs) (hn : n ≤ 1048576) :
    Calls Try.prog 74 #[.agg #[.int .i64 l, .int .i64 a, .int .i64 m], .slice ad n c] w fun e w' => e = .returned (.int .i64 (hCode l a m hs)) ∧ Below w.heap.size w w' := by
  have hl := hI.len
  have Hl := Lib.hid hl
  have HI := Lib.hid hI
  have hcf := fun (wx : World) (hb : Below w.heap.size w wx) => slices_ContainsFunc_i64 (g := 129) (lb := #[]) (p := fun x => !inB x 1 3000) (w := wx) (enters_of Try.func129 (by kernel_rfl) rfl) (fun W x hx hb => Calls.mono (impl_heightsCode_1 (x := x) (w := W)) (fun e w' h => ⟨h.1, h.2 ▸ Below.refl _ _⟩)) (HI.out.keep hb) hn
  have Hcf := Lib.hid hcf
  clear hI hl hcf
  cases hh : heightB l a m
  all_goals
    have Hh := Lib.hid hh
    clear hh
    go_enter Try.func74, Try.ntmps74
    go_wp2_with fail
    refine Calls.mono (impl_IsHeightRule) ?_
    rintro e w1 ⟨rfl, hb_w1⟩
    obtain ⟨hc_w1, hf_w1⟩ := bcell hb_w1
    have hs_w1 := hb_w1.size
    simp at hs_w1
    rw [Hh.out]
  · go_wp2
    go_ret
    exact ⟨ret_int (by rw [hCode, if_pos Hh.out]), by repeat (first | exact Below.refl _ _ | assumption | refine below_allocS ?_ _ | refine below_callS ?_ (by assumption) | (refine Below.alloc ?_ (by first | omega | (simp; done) | (simp; omega)) _) | (refine Below.setCell ?_ (by first | omega | (simp; done) | (simp; omega)) _) | refine Below.drew ?_ | refine below_drewN ?_ _ | (refine below_call ?_ (by assumption) (by first | omega | (simp; done) | (simp; omega))) | (refine Below.trans ?_ (by assumption)))⟩
  · by_cases h24 : 24 < n
    · have h24' : (24 : Int) < (n : Int) := by omega
      go_wp2
      go_ret
      exact ⟨ret_int (by rw [hCode, if_neg (by rw [Hh.out]; decide), if_pos (by rw [Hl.out]; exact h24)]), by repeat (first | exact Below.refl _ _ | assumption | refine below_allocS ?_ _ | refine below_callS ?_ (by assumption) | (refine Below.alloc ?_ (by first | omega | (simp; done) | (simp; omega)) _) | (refine Below.setCell ?_ (by first | omega | (simp; done) | (simp; omega)) _) | refine Below.drew ?_ | refine below_drewN ?_ _ | (refine below_call ?_ (by assumption) (by first | omega | (simp; done) | (simp; omega))) | (refine Below.trans ?_ (by assumption)))⟩
    · have h24' : ¬ (24 : Int) < (n : Int) := by omega
      go_wp2_with fail
      refine Calls.mono (Hcf.out _ (by repeat (first | exact Below.refl _ _ | assumption | refine below_allocS ?_ _ | refine below_callS ?_ (by assumption) | (refine Below.alloc ?_ (by first | omega | (simp; done) | (simp; omega)) _) | (refine Below.setCell ?_ (by first | omega | (simp; done) | (simp; omega)) _) | refine Below.drew ?_ | refine below_drewN ?_ _ | (refine below_call ?_ (by assumption) (by first | omega | (simp; done) | (simp; omega))) | (refine Below.trans ?_ (by assumption))))) ?_
      rintro e w2 ⟨rfl, hb2⟩
      cases hany : (hs.any fun x => !inB x 1 3000)
      all_goals
        have Hany := Lib.hid hany
        clear hany
        go_wp2
        go_ret
      · exact ⟨ret_int (by rw [hCode, if_neg (by rw [Hh.out]; decide), if_neg (by rw [Hl.out]; exact h24), if_neg (by rw [Hany.out]; decide)]), by repeat (first | exact Below.refl _ _ | assumption | refine below_allocS ?_ _ | refine below_callS ?_ (by assumption) | (refine Below.alloc ?_ (by first | omega | (simp; done) | (simp; omega)) _) | (refine Below.setCell ?_ (by first | omega | (simp; done) | (simp; omega)) _) | refine Below.drew ?_ | refine below_drewN ?_ _ | (refine below_call ?_ (by assumption) (by first | omega | (simp; done) | (simp; omega))) | (refine Below.trans ?_ (by assumption)))⟩
      · exact ⟨ret_int (by rw [hCode, if_neg (by rw [Hh.out]; decide), if_neg (by rw [Hl.out]; exact h24), if_pos Hany.out]), by repeat (first | exact Below.refl _ _ | assumption | refine below_allocS ?_ _ | refine below_callS ?_ (by assumption) | (refine Below.alloc ?_ (by first | omega | (simp; done) | (simp; omega)) _) | (refine Below.setCell ?_ (by first | omega | (simp; done) | (simp; omega)) _) | refine Below.drew ?_ | refine below_drewN ?_ _ | (refine below_call ?_ (by assumption) (by first | omega | (simp; done) | (simp; omega))) | (refine Below.trans ?_ (by assumption)))⟩
/-- the verdict on a guest, and the error -/
def gVerd (l a m h : Int) : Int := if hCode l a m [h] = 0 then verd l a m h else 0
theorem ret_i2 {a b c d : Int} (h : a = b) (h' : c = d) : Ending.returned (.tuple #[.int .i64 a, .int .i64 c]) = .returned (.tuple #[.int .i64 b, .int .i64 d]) := by rw [h, h']
set_option maxHeartbeats 1000000 in
theorem impl_GuestVerdict {l a m h : Int} {w : World} (hh : I64 h) : Calls Try.prog 13 #[.agg #[.int .i64 l, .int .i64 a, .int .i64 m], .int .i64 h] w fun e w' => e = .returned (.tuple #[.int .i64 (gVerd l a m h), .int .i64 (hCode l a m [h])]) ∧ Below w.heap.size w w' := by
  have hI := Ints.one (w := w.alloc (.cells #[.int .i64 l, .int .i64 a, .int .i64 m] 25)) (E := 2) hh (g := w.heap.size + 1) (by simp)
  have HI := Lib.hid hI
  clear hI hh
  go_enter Try.func13, Try.ntmps13
  go_wp2_with fail
  refine Calls.mono (impl_heightsCode HI.out (by omega)) ?_
  rintro e w1 ⟨rfl, hb1⟩
  obtain ⟨hc1, hf1⟩ := bcell hb1
  have hs1 := hb1.size
  simp at hs1
  have hz1 : w.heap.size < w1.heap.size := by omega
  have hz2 : w.heap.size < w.heap.size + 1 + 1 := by omega
  have hgv : gVerd l a m h = if hCode l a m [h] = 0 then verd l a m h else 0 := rfl
  have Hgv := Lib.hid hgv
  clear hgv
  generalize hcode : hCode l a m [h] = code at Hgv
  have Hcode := Lib.hid hcode
  clear hcode
  by_cases hz : code = 0
  · have hq : (code != 0) = false := by simp [hz]
    have Hz := Lib.hid hz
    clear hz
    go_wp2_with fail
    refine Calls.mono (impl_verdict) ?_
    rintro e w2 ⟨rfl, hb_w2⟩
    obtain ⟨hc_w2, hf_w2⟩ := bcell hb_w2
    have hs_w2 := hb_w2.size
    go_wp2
    go_ret2
    exact ⟨ret_i2 (by rw [Hgv.out, if_pos Hz.out]) (by rw [Hcode.out, Hz.out]), by repeat (first | exact Below.refl _ _ | assumption | refine below_allocS ?_ _ | refine below_callS ?_ (by assumption) | (refine Below.alloc ?_ (by first | omega | (simp; done) | (simp; omega)) _) | (refine Below.setCell ?_ (by first | omega | (simp; done) | (simp; omega)) _) | refine Below.drew ?_ | refine below_drewN ?_ _ | (refine below_call ?_ (by assumption) (by first | omega | (simp; done) | (simp; omega))) | (refine Below.trans ?_ (by assumption)))⟩
  · have hq : (code != 0) = true := by simp [hz]
    go_wp2
    go_ret2
    exact ⟨ret_i2 (by rw [Hgv.out, if_neg hz]) Hcode.out.symm, by repeat (first | exact Below.refl _ _ | assumption | refine below_allocS ?_ _ | refine below_callS ?_ (by assumption) | (refine Below.alloc ?_ (by first | omega | (simp; done) | (simp; omega)) _) | (refine Below.setCell ?_ (by first | omega | (simp; done) | (simp; omega)) _) | refine Below.drew ?_ | refine below_drewN ?_ _ | (refine below_call ?_ (by assumption) (by first | omega | (simp; done) | (simp; omega))) | (refine Below.trans ?_ (by assumption)))⟩
set_option maxHeartbeats 1000000 in
theorem spec_GuestVerdict {l a m h : Int} {w : World} : Calls Try.prog 14 #[.agg #[.int .i64 l, .int .i64 a, .int .i64 m], .int .i64 h] w fun e w' => e = .returned (.tuple #[.int .i64 (gVerd l a m h), .int .i64 (hCode l a m [h])]) ∧ Below w.heap.size w w' := by
  cases hh : heightB l a m
  · have hcd : hCode l a m [h] = 1 := by rw [hCode, if_pos hh]
    have Hcd := Lib.hid hcd
    have Hh := Lib.hid hh
    clear hh hcd
    go_enter Try.func14, Try.ntmps14
    go_wp2_with fail
    refine Calls.mono (spec_IsHeightRule) ?_
    rintro e w1 ⟨rfl, hb_w1⟩
    obtain ⟨hc_w1, hf_w1⟩ := bcell hb_w1
    have hs_w1 := hb_w1.size
    rw [Hh.out]
    go_wp2
    go_ret2
    exact ⟨ret_i2 (by rw [gVerd, Hcd.out]; rfl) Hcd.out.symm, by repeat (first | exact Below.refl _ _ | assumption | refine below_allocS ?_ _ | refine below_callS ?_ (by assumption) | (refine Below.alloc ?_ (by first | omega | (simp; done) | (simp; omega)) _) | (refine Below.setCell ?_ (by first | omega | (simp; done) | (simp; omega)) _) | refine Below.drew ?_ | refine below_drewN ?_ _ | (refine below_call ?_ (by assumption) (by first | omega | (simp; done) | (simp; omega))) | (refine Below.trans ?_ (by assumption)))⟩
  · cases hin : inB h 1 3000
    all_goals
      have Hh := Lib.hid hh
      have Hin := Lib.hid hin
      clear hh hin
      go_enter Try.func14, Try.ntmps14
      go_wp2_with fail
      refine Calls.mono (spec_IsHeightRule) ?_
      rintro e w1 ⟨rfl, hb_w1⟩
      obtain ⟨hc_w1, hf_w1⟩ := bcell hb_w1
      have hs_w1 := hb_w1.size
      simp at hs_w1
      have hz1 : w.heap.size < w1.heap.size := by omega
      rw [Hh.out]
      go_wp2_with fail
      refine Calls.mono (spec_l01In) ?_
      rintro e _ ⟨rfl, rfl⟩
      rw [Hin.out]
    · go_wp2
      go_ret2
      have hcd : hCode l a m [h] = 2 := by rw [hCode, if_neg (by rw [Hh.out]; decide), if_neg (by simp), if_pos (by simp [Hin.out])]
      exact ⟨ret_i2 (by rw [gVerd, hcd]; rfl) hcd.symm, by repeat (first | exact Below.refl _ _ | assumption | refine below_allocS ?_ _ | refine below_callS ?_ (by assumption) | (refine Below.alloc ?_ (by first | omega | (simp; done) | (simp; omega)) _) | (refine Below.setCell ?_ (by first | omega | (simp; done) | (simp; omega)) _) | refine Below.drew ?_ | refine below_drewN ?_ _ | (refine below_call ?_ (by assumption) (by first | omega | (simp; done) | (simp; omega))) | (refine Below.trans ?_ (by assumption)))⟩
    · go_wp2_with fail
      refine Calls.mono (spec_l28Verdict) ?_
      rintro e w2 ⟨rfl, hb_w2⟩
      obtain ⟨hc_w2, hf_w2⟩ := bcell hb_w2
      have hs_w2 := hb_w2.size
      go_wp2
      go_ret2
      have hcd : hCode l a m [h] = 0 := by rw [hCode, if_neg (by rw [Hh.out]; decide), if_neg (by simp), if_neg (by simp [Hin.out])]
      exact ⟨ret_i2 (by rw [gVerd, if_pos hcd]) hcd.symm, by repeat (first | exact Below.refl _ _ | assumption | refine below_allocS ?_ _ | refine below_callS ?_ (by assumption) | (refine Below.alloc ?_ (by first | omega | (simp; done) | (simp; omega)) _) | (refine Below.setCell ?_ (by first | omega | (simp; done) | (simp; omega)) _) | refine Below.drew ?_ | refine below_drewN ?_ _ | (refine below_call ?_ (by assumption) (by first | omega | (simp; done) | (simp; omega))) | (refine Below.trans ?_ (by assumption)))⟩
/-- how many guests have a verdict -/
def cntV (l a m : Int) (hs : List Int) (v : Int) : Int := ((hs.filter fun h => verd l a m h == v).length : Nat)
theorem cntV_nonneg (l a m : Int) (hs : List Int) (v : Int) : 0 ≤ cntV l a m hs v := by unfold cntV; omega
theorem cntV_le (l a m : Int) (hs : List Int) (v : Int) : cntV l a m hs v ≤ hs.length := by
  unfold cntV; have := List.length_filter_le (fun h => verd l a m h == v) hs; omega
theorem cntV_step {l a m : Int} {hs : List Int} {v x : Int} {k : Nat} (hx : hs[k]? = some x) : cntV l a m (hs.take (k + 1)) v = cntV l a m (hs.take k) v + (if (verd l a m x == v) = true then 1 else 0) := by
  unfold cntV
  rw [take_at hx, List.filter_append]
  by_cases h : (verd l a m x == v) = true
  · simp [h]
  · simp [h]
set_option maxHeartbeats 1000000 in
theorem impl_count {l a m v : Int} {ad : Option Addr} {n c : Nat} {hs : List Int} {w : World} (hI : Ints w ad n c hs) (hn : n ≤ 1048576) :
    Calls Try.prog 130 #[.agg #[.int .i64 l, .int .i64 a, .int .i64 m], .slice ad n c, .int .i64 v] w fun e w' => e = .returned (.int .i64 (cntV l a m hs v)) ∧ Below w.heap.size w w' := by
  have HI := Lib.hid hI
  clear hI
  go_enter Try.func130, Try.ntmps130
  go_wp2
  go_loopw [7, 9, 12] (fun s7 _ s12 wr => ∃ k : Nat, k ≤ n ∧ s12 = .int .i64 k ∧ s7 = .int .i64 (cntV l a m (hs.take k) v) ∧ Below w.heap.size w wr ∧ w.heap.size < wr.heap.size ∧ wr.cell? ⟨w.heap.size, 0, none⟩ = some (.int .i64 l) ∧ wr.cell? ⟨w.heap.size, 1, none⟩ = some (.int .i64 a) ∧ wr.cell? ⟨w.heap.size, 2, none⟩ = some (.int .i64 m)) (fun _ _ i _ => n - (intOf i).toNat)
  case atStart => exact ⟨0, Nat.zero_le _, rfl, rfl, by repeat (first | exact Below.refl _ _ | assumption | refine below_allocS ?_ _ | refine below_callS ?_ (by assumption) | (refine Below.alloc ?_ (by first | omega | (simp; done) | (simp; omega)) _) | (refine Below.setCell ?_ (by first | omega | (simp; done) | (simp; omega)) _) | refine Below.drew ?_ | refine below_drewN ?_ _ | (refine below_call ?_ (by assumption) (by first | omega | (simp; done) | (simp; omega))) | (refine Below.trans ?_ (by assumption))), by simp, by simp, by simp, by simp⟩
  case round =>
    obtain ⟨k, hk, rfl, rfl, hbl, hz, hd0, hd1, hd2⟩ := hrel
    by_cases hlt : k < n
    · obtain ⟨b, off, x, rfl, hb, hx, hcell, hwf⟩ := (HI.out.keep hbl).at hlt
      have Hst := Lib.hid (cntV_step (l := l) (a := a) (m := m) (v := v) hx)
      have hb0 := cntV_nonneg l a m (hs.take k) v
      have hb1 := cntV_le l a m (hs.take k) v
      have hb2 : ((hs.take k).length : Int) ≤ k := by have := List.length_take_le k hs; omega
      clear hx
      generalize cntV l a m (hs.take k) v = q at *
      go_wp2_with fail
      refine Calls.mono (impl_verdict) ?_
      rintro e w2 ⟨rfl, hb_w2⟩
      obtain ⟨hc_w2, hf_w2⟩ := bcell hb_w2
      have hs_w2 := hb_w2.size
      have hz2 : w.heap.size < w2.heap.size := by omega
      have e0 : w2.cell? ⟨w.heap.size, 0, none⟩ = some (.int .i64 l) := (hc_w2 _ _ hz).trans hd0
      have e1 : w2.cell? ⟨w.heap.size, 1, none⟩ = some (.int .i64 a) := (hc_w2 _ _ hz).trans hd1
      have e2 : w2.cell? ⟨w.heap.size, 2, none⟩ = some (.int .i64 m) := (hc_w2 _ _ hz).trans hd2
      have hbl2 : Below w.heap.size w w2 := by repeat (first | exact Below.refl _ _ | assumption | refine below_allocS ?_ _ | refine below_callS ?_ (by assumption) | (refine Below.alloc ?_ (by first | omega | (simp; done) | (simp; omega)) _) | (refine Below.setCell ?_ (by first | omega | (simp; done) | (simp; omega)) _) | refine Below.drew ?_ | refine below_drewN ?_ _ | (refine below_call ?_ (by assumption) (by first | omega | (simp; done) | (simp; omega))) | (refine Below.trans ?_ (by assumption)))
      clear hc_w2 hf_w2 hd0 hd1 hd2
      cases hv : (verd l a m x == v)
      all_goals
        have Hv := Lib.hid hv
        go_wp2_with fail
        refine Calls.mono impl_truth ?_
        rintro e _ ⟨rfl, rfl⟩
        go_wp2
        go_roundw
        case rel => exact ⟨k + 1, by omega, by go_num, by rw [Hst.out, Hv.out]; simp, hbl2, hz2, e0, e1, e2⟩
        case measure => simp [intOf]; omega
    · go_wp2
      go_ret
      have e : hs.take k = hs := take_len (by have := HI.out.len; omega)
      exact ⟨ret_int (by rw [e]), hbl⟩
/-- the least number of rows of a seating, and the error -/
def rowsN (l a m : Int) (hs : List Int) : Int := if cntV l a m hs 1 + cntV l a m hs 2 < hs.length then 0 else if cntV l a m hs 2 < cntV l a m hs 1 then 0 else cntV l a m hs 1 + (cntV l a m hs 2 - cntV l a m hs 1 + 1) / 2
def rowsC (l a m : Int) (hs : List Int) : Int := if cntV l a m hs 1 + cntV l a m hs 2 < hs.length then 5 else if cntV l a m hs 2 < cntV l a m hs 1 then 4 else 0
set_option maxHeartbeats 2000000 in
theorem impl_rows {l a m : Int} {ad : Option Addr} {n c : Nat} {hs : List Int} {w : World} (hI : Ints w ad n c hs) (hn : n ≤ 1048576) :
    Calls Try.prog 78 #[.agg #[.int .i64 l, .int .i64 a, .int .i64 m], .slice ad n c] w fun e w' => e = .returned (.tuple #[.int .i64 (rowsN l a m hs), .int .i64 (rowsC l a m hs)]) ∧ Below w.heap.size w w' := by
  have hl := hI.len
  have h1a := cntV_nonneg l a m hs 1
  have h1b := cntV_le l a m hs 1
  have h2a := cntV_nonneg l a m hs 2
  have h2b := cntV_le l a m hs 2
  have HN := Lib.hid (show rowsN l a m hs = if cntV l a m hs 1 + cntV l a m hs 2 < (n : Int) then 0 else if cntV l a m hs 2 < cntV l a m hs 1 then 0 else cntV l a m hs 1 + (cntV l a m hs 2 - cntV l a m hs 1 + 1) / 2 by rw [rowsN, hl])
  have HC := Lib.hid (show rowsC l a m hs = if cntV l a m hs 1 + cntV l a m hs 2 < (n : Int) then 5 else if cntV l a m hs 2 < cntV l a m hs 1 then 4 else 0 by rw [rowsC, hl])
  rw [hl] at h1b h2b
  have HI := Lib.hid hI
  clear hI hl
  have hcon := fun (v : Int) (wx : World) (hb : Below w.heap.size w wx) => impl_count (l := l) (a := a) (m := m) (v := v) (HI.out.keep hb) hn
  have h1 := fun wx hb => hcon 1 wx hb
  have h2 := fun wx hb => hcon 2 wx hb
  clear hcon
  generalize cntV l a m hs 1 = c1 at *
  generalize cntV l a m hs 2 = c2 at *
  have H1 := Lib.hid h1
  have H2 := Lib.hid h2
  clear h1 h2
  go_enter Try.func78, Try.ntmps78
  go_wp2
  go_region_held3 (fun wx => wx.cell? ⟨w.heap.size, 0, none⟩ = some (.int .i64 l) ∧ wx.cell? ⟨w.heap.size, 1, none⟩ = some (.int .i64 a) ∧ wx.cell? ⟨w.heap.size, 2, none⟩ = some (.int .i64 m) ∧ w.heap.size < wx.heap.size ∧ Below w.heap.size w wx) (((try go_split_ands); (repeat' apply And.intro) <;> first | assumption | exact Blk.keep (by assumption) hbx | exact Blk.drew (by assumption) | exact Blk.drew (Blk.made _ _ _) | exact Below.drew (by assumption) | exact Below.drew (below_allocS (by first | exact Below.refl _ _ | assumption) _) | exact below_callS (by assumption) hbx | exact below_call (by assumption) hbx (Below.size (by assumption)) | exact (hcx _ _ (by assumption)).trans (by assumption) | omega | (simp [*]; done) | (simp; omega))) (first | (go_at_call_of 130 (Value.int IntKind.i64 1); go_split_ands; refine Calls.mono (H1.out _ (by assumption)) ?_; rintro e wx2 ⟨rfl, hbx⟩; obtain ⟨hcx, hfx⟩ := bcell hbx; have hsx := hbx.size) | (go_at_call 130; go_split_ands; refine Calls.mono (H2.out _ (by assumption)) ?_; rintro e wx2 ⟨rfl, hbx⟩; obtain ⟨hcx, hfx⟩ := bcell hbx; have hsx := hbx.size))
  go_split_ands
  by_cases t1 : c1 + c2 < (n : Int)
  · go_wp2_with fail
    refine Calls.mono (impl_length_i64) ?_
    rintro e _ ⟨rfl, rfl⟩
    go_wp2
    go_ret2
    exact ⟨ret_i2 (by rw [HN.out, if_pos (by omega)]) (by rw [HC.out, if_pos (by omega)]), by assumption⟩
  · by_cases t2 : c2 < c1
    all_goals
      go_wp2_with fail
      refine Calls.mono (impl_length_i64) ?_
      rintro e _ ⟨rfl, rfl⟩
      go_wp2
      go_ret2
    · exact ⟨ret_i2 (by rw [HN.out, if_neg (by omega), if_pos (by omega)]) (by rw [HC.out, if_neg (by omega), if_pos (by omega)]), by assumption⟩
    · exact ⟨ret_i2 (by rw [HN.out, if_neg (by omega), if_neg (by omega)]) (by rw [HC.out, if_neg (by omega), if_neg (by omega)]), by assumption⟩
def needN (l a m : Int) (hs : List Int) : Int := if hCode l a m hs = 0 then rowsN l a m hs else 0
def needC (l a m : Int) (hs : List Int) : Int := if hCode l a m hs = 0 then rowsC l a m hs else hCode l a m hs
set_option maxHeartbeats 1000000 in
theorem impl_RowsNeeded {l a m : Int} {ad : Option Addr} {n c : Nat} {hs : List Int} {w : World} (hI : Ints w ad n c hs) (hn : n ≤ 1048576) :
    Calls Try.prog 17 #[.agg #[.int .i64 l, .int .i64 a, .int .i64 m], .slice ad n c] w fun e w' => e = .returned (.tuple #[.int .i64 (needN l a m hs), .int .i64 (needC l a m hs)]) ∧ Below w.heap.size w w' := by
  have HI := Lib.hid hI
  clear hI
  have HN := Lib.hid (show needN l a m hs = if hCode l a m hs = 0 then rowsN l a m hs else 0 from rfl)
  have HC := Lib.hid (show needC l a m hs = if hCode l a m hs = 0 then rowsC l a m hs else hCode l a m hs from rfl)
  have h1 := fun (wx : World) (hb : Below w.heap.size w wx) => impl_heightsCode (l := l) (a := a) (m := m) (HI.out.keep hb) hn
  generalize hCode l a m hs = code at *
  have H1 := Lib.hid h1
  clear h1
  by_cases hz : code = 0
  · have hq : (code != 0) = false := by simp [hz]
    have Hz := Lib.hid hz
    clear hz
    go_enter Try.func17, Try.ntmps17
    go_wp2_with fail
    refine Calls.mono (H1.out _ (by repeat (first | exact Below.refl _ _ | assumption | refine below_allocS ?_ _ | refine below_callS ?_ (by assumption) | (refine Below.alloc ?_ (by first | omega | (simp; done) | (simp; omega)) _) | (refine Below.setCell ?_ (by first | omega | (simp; done) | (simp; omega)) _) | refine Below.drew ?_ | refine below_drewN ?_ _ | (refine below_call ?_ (by assumption) (by first | omega | (simp; done) | (simp; omega))) | (refine Below.trans ?_ (by assumption))))) ?_
    rintro e w1 ⟨rfl, hb_w1⟩
    obtain ⟨hc_w1, hf_w1⟩ := bcell hb_w1
    have hs_w1 := hb_w1.size
    simp at hs_w1
    have hz1 : w.heap.size < w1.heap.size := by omega
    go_wp2_with fail
    refine Calls.mono (impl_rows (HI.out.keep (by repeat (first | exact Below.refl _ _ | assumption | refine below_allocS ?_ _ | refine below_callS ?_ (by assumption) | (refine Below.alloc ?_ (by first | omega | (simp; done) | (simp; omega)) _) | (refine Below.setCell ?_ (by first | omega | (simp; done) | (simp; omega)) _) | refine Below.drew ?_ | refine below_drewN ?_ _ | (refine below_call ?_ (by assumption) (by first | omega | (simp; done) | (simp; omega))) | (refine Below.trans ?_ (by assumption))))) hn) ?_
    rintro e w2 ⟨rfl, hb_w2⟩
    obtain ⟨hc_w2, hf_w2⟩ := bcell hb_w2
    have hs_w2 := hb_w2.size
    go_wp2
    go_ret2
    exact ⟨ret_i2 (by rw [HN.out, if_pos Hz.out]) (by rw [HC.out, if_pos Hz.out]), by repeat (first | exact Below.refl _ _ | assumption | refine below_allocS ?_ _ | refine below_callS ?_ (by assumption) | (refine Below.alloc ?_ (by first | omega | (simp; done) | (simp; omega)) _) | (refine Below.setCell ?_ (by first | omega | (simp; done) | (simp; omega)) _) | refine Below.drew ?_ | refine below_drewN ?_ _ | (refine below_call ?_ (by assumption) (by first | omega | (simp; done) | (simp; omega))) | (refine Below.trans ?_ (by assumption)))⟩
  · have hq : (code != 0) = true := by simp [hz]
    have Hz := Lib.hid hz
    clear hz
    go_enter Try.func17, Try.ntmps17
    go_wp2_with fail
    refine Calls.mono (H1.out _ (by repeat (first | exact Below.refl _ _ | assumption | refine below_allocS ?_ _ | refine below_callS ?_ (by assumption) | (refine Below.alloc ?_ (by first | omega | (simp; done) | (simp; omega)) _) | (refine Below.setCell ?_ (by first | omega | (simp; done) | (simp; omega)) _) | refine Below.drew ?_ | refine below_drewN ?_ _ | (refine below_call ?_ (by assumption) (by first | omega | (simp; done) | (simp; omega))) | (refine Below.trans ?_ (by assumption))))) ?_
    rintro e w1 ⟨rfl, hb_w1⟩
    obtain ⟨hc_w1, hf_w1⟩ := bcell hb_w1
    have hs_w1 := hb_w1.size
    simp at hs_w1
    go_wp2
    go_ret2
    exact ⟨ret_i2 (by rw [HN.out, if_neg Hz.out]) (by rw [HC.out, if_neg Hz.out]), by repeat (first | exact Below.refl _ _ | assumption | refine below_allocS ?_ _ | refine below_callS ?_ (by assumption) | (refine Below.alloc ?_ (by first | omega | (simp; done) | (simp; omega)) _) | (refine Below.setCell ?_ (by first | omega | (simp; done) | (simp; omega)) _) | refine Below.drew ?_ | refine below_drewN ?_ _ | (refine below_call ?_ (by assumption) (by first | omega | (simp; done) | (simp; omega))) | (refine Below.trans ?_ (by assumption)))⟩
end Go.Proofs.Ytoaccicfmfiemaa
