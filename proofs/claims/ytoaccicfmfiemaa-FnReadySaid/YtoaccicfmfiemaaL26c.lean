/- The reports of locks of layer 26, walked. -/
import Derived.Test.YtoaccicfmfiemaaL26b
import Derived.RegionTactic
import Derived.BigRegion
namespace Go.Proofs.Ytoaccicfmfiemaa
open Go.RowKit
set_option linter.unusedVariables false
set_option linter.unusedSimpArgs false
def baseL (l : List Int) : List Int := l.map fun x => if x = 2 then 1 else 0
theorem baseL_step {l : List Int} {k : Nat} {x : Int} (hx : l[k]? = some x) : baseL (l.take (k + 1)) = baseL (l.take k) ++ [if x = 2 then 1 else 0] := by
  unfold baseL; rw [take_at hx, List.map_append]; rfl
/-- what a channel reports -/
def applyC (ch : Int) (b : List Int) (fs : List I3) : List Int := fs.foldl (fun b f => if (f.b == ch) = true then b.set f.a.toNat f.c else b) b
theorem applyC_step {ch : Int} {b : List Int} {fs : List I3} {k : Nat} {x : I3} (hx : fs[k]? = some x) : applyC ch b (fs.take (k + 1)) = if (x.b == ch) = true then (applyC ch b (fs.take k)).set x.a.toNat x.c else applyC ch b (fs.take k) := by
  unfold applyC; rw [take_at hx, List.foldl_append]; rfl
theorem applyC_len (ch : Int) (b : List Int) (fs : List I3) : (applyC ch b fs).length = b.length := by
  unfold applyC
  induction fs generalizing b with
  | nil => rfl
  | cons f r ih => rw [List.foldl_cons, ih]; split <;> simp
theorem lockB_mem {n : Nat} {fs : List I3} (h : lockB n fs = true) {x : I3} (hx : x ∈ fs) : 0 ≤ x.a ∧ x.a < n ∧ (x.b = 0 ∨ x.b = 1) ∧ (x.c = 0 ∨ x.c = 1) := by
  simp only [lockB, Bool.and_eq_true] at h
  obtain ⟨h1, h2, _⟩ := h
  have hn : 1 ≤ (n : Int) ∧ (n : Int) ≤ 12 := by simpa [inB] using h2
  obtain ⟨i, hi⟩ := List.getElem?_of_mem hx
  have hlt : i < fs.length := (List.getElem?_eq_some_iff.1 hi).1
  have h3 := List.all_eq_true.1 h1 i (by simpa using hlt)
  simp only [lockAt, hi, Bool.and_eq_true] at h3
  obtain ⟨⟨ha, hb, hc⟩, _⟩ := h3
  have hw : wrap64 ((n : Int) - 1) = (n : Int) - 1 := IntWalk.wrap64_in _ ⟨by omega, by omega⟩
  rw [hw] at ha
  simp only [inB, Bool.and_eq_true, decide_eq_true_eq] at ha hb hc
  omega
/-- a report in memory of the call's own -/
def LockRep (E : TypeId) (w : World) (n : Nat) (l1 l2 : List Int) (e : Ending) (w' : World) : Prop :=
  ∃ a1 c1 a2 c2, e = .returned (.agg #[.slice a1 n c1, .slice a2 n c2]) ∧ Below w.heap.size w w' ∧ OwnI E w' w.heap.size a1 n c1 l1 ∧ OwnI E w' w.heap.size a2 n c2 l2 ∧ Apart a1 a2
/-- a slice in memory of the call's own -/
def OwnRet (E : TypeId) (w : World) (n : Nat) (l : List Int) (e : Ending) (w' : World) : Prop :=
  ∃ a1 c1, e = .returned (.slice a1 n c1) ∧ Below w.heap.size w w' ∧ OwnI E w' w.heap.size a1 n c1 l
set_option maxHeartbeats 4000000 in
theorem impl_lockReport {a af : Option Addr} {n c nf cf : Nat} {l : List Int} {fs : List I3} {w : World} (hI : Ints w a n c l) (hF : F3 w af nf cf fs) (hn : n ≤ 1048576) (hnf : nf ≤ 1048576) (hn1 : 0 < n) (hv : lockB n fs = true) :
    Calls Try.prog 83 #[.slice a n c, .slice af nf cf] w (LockRep 2 w n (applyC 0 (baseL l) fs) (applyC 1 (baseL l) fs)) := by
  have HI := Lib.hid hI
  have HF := Lib.hid hF
  have HV := Lib.hid hv
  clear hI hF hv
  go_enter Try.func83, Try.ntmps83
  go_wp2
  go_loopw [5, 7, 13] (fun s5 _ s13 wr => ∃ (k : Nat) (a1 : Option Addr) (c1 : Nat), k ≤ n ∧ s5 = .slice a1 k c1 ∧ s13 = .int .i64 k ∧ Below w.heap.size w wr ∧ w.heap.size < wr.heap.size ∧ Hid (Blk wr w.heap.size #[.slice none 0 0, .slice none 0 0] 39) ∧ Hid (OwnI 2 wr (w.heap.size + 1) a1 k c1 (baseL (l.take k)))) (fun _ _ i _ => n - (intOf i).toNat)
  case atStart => exact ⟨0, none, 0, Nat.zero_le _, rfl, rfl, by repeat (first | exact Below.refl _ _ | assumption | refine below_allocS ?_ _ | refine below_callS ?_ (by assumption) | (refine Below.alloc ?_ (by first | omega | (simp; done) | (simp; omega)) _) | (refine Below.setCell ?_ (by first | omega | (simp; done) | (simp; omega)) _) | refine Below.drew ?_ | refine below_drewN ?_ _ | (refine below_call ?_ (by assumption) (by first | omega | (simp; done) | (simp; omega))) | (refine Below.trans ?_ (by assumption))), by simp, Blk.made _ _ _, OwnI.nil _ _ _⟩
  case round =>
    obtain ⟨k, a1, c1, hk, rfl, rfl, hbl, hz, HB, HO⟩ := hrel
    have hsz := hbl.size
    by_cases hlt : k < n
    · obtain ⟨b, off, x, rfl, hb, hx, hcell, hwf⟩ := (HI.out.keep hbl).at hlt
      have Hst := Lib.hid (baseL_step hx)
      clear hx
      cases h2 : (x == 2)
      all_goals
        have H2 := Lib.hid (show (if x = 2 then (1 : Int) else 0) = _ from rfl)
        have hx2 := h2
        simp at hx2
        have HX := Lib.hid hx2
        clear hx2 H2
        go_wp2_with fail
        refine Calls.mono impl_truth ?_
        rintro e _ ⟨rfl, rfl⟩
      · go_wp2_with (at_builtin; refine append1_i64 rfl _ _ 32 2 rfl Try.underlying32 Try.infoi64 (w.heap.size + 1) _ _ _ _ (HO.out.keep ((Below.refl _ _).alloc (Nat.le_refl _) (.cells #[.int .i64 0] 2))) rfl wr.heap.size 0 rfl (by simp) ⟨by omega, by omega⟩ (by omega) (by simp; omega) ?_; intro a2 c2 w2 hown2 hb2 hg2)
        have Hown2 := Lib.hid hown2
        clear hown2
        go_roundw
        case rel => exact ⟨k + 1, a2, c2, by omega, rfl, by go_num, Below.trans (by repeat (first | exact Below.refl _ _ | assumption | refine below_allocS ?_ _ | refine below_callS ?_ (by assumption) | (refine Below.alloc ?_ (by first | omega | (simp; done) | (simp; omega)) _) | (refine Below.setCell ?_ (by first | omega | (simp; done) | (simp; omega)) _) | refine Below.drew ?_ | refine below_drewN ?_ _ | (refine below_call ?_ (by assumption) (by first | omega | (simp; done) | (simp; omega))) | (refine Below.trans ?_ (by assumption)))) (hb2.mono (by omega)), by have := hb2.size; simp at this; omega, (HB.out.keep ((Below.refl _ _).alloc (Nat.le_refl _) _)).keepB hb2 (by omega), by rw [Hst.out, if_neg HX.out]; exact Hown2.out⟩
        case measure => simp [intOf]; omega
      · go_wp2_with (at_builtin; refine append1_i64 rfl _ _ 32 2 rfl Try.underlying32 Try.infoi64 (w.heap.size + 1) _ _ _ _ (HO.out.keep ((Below.refl _ _).alloc (Nat.le_refl _) (.cells #[.int .i64 1] 2))) rfl wr.heap.size 1 rfl (by simp) ⟨by omega, by omega⟩ (by omega) (by simp; omega) ?_; intro a2 c2 w2 hown2 hb2 hg2)
        have Hown2 := Lib.hid hown2
        clear hown2
        go_roundw
        case rel => exact ⟨k + 1, a2, c2, by omega, rfl, by go_num, Below.trans (by repeat (first | exact Below.refl _ _ | assumption | refine below_allocS ?_ _ | refine below_callS ?_ (by assumption) | (refine Below.alloc ?_ (by first | omega | (simp; done) | (simp; omega)) _) | (refine Below.setCell ?_ (by first | omega | (simp; done) | (simp; omega)) _) | refine Below.drew ?_ | refine below_drewN ?_ _ | (refine below_call ?_ (by assumption) (by first | omega | (simp; done) | (simp; omega))) | (refine Below.trans ?_ (by assumption)))) (hb2.mono (by omega)), by have := hb2.size; simp at this; omega, (HB.out.keep ((Below.refl _ _).alloc (Nat.le_refl _) _)).keepB hb2 (by omega), by rw [Hst.out, if_pos HX.out]; exact Hown2.out⟩
        case measure => simp [intOf]; omega
    · have e : k = n := by omega
      subst e
      have Hown := Lib.hid HO.out
      have hlk : l.take k = l := take_len HI.out.len
      rw [hlk] at HO Hown
      obtain ⟨g1, rfl⟩ := HO.out.shape hn1
      have hg1 := HO.out.blk _ rfl
      go_wp2_with fail
      refine Calls.mono (slices_Clone_i64 HO.out.ints hn) ?_
      rintro e w2 ⟨a2, c2, rfl, hb2, ho2, hnil⟩
      have HO2 := Lib.hid ho2
      have HO1 := Lib.hid (HO.out.keep hb2)
      have HB2 := Lib.hid (HB.out.keep hb2)
      have hs2 := hb2.size
      obtain ⟨g2, rfl⟩ := ho2.shape hn1
      have hg2 := ho2.blk _ rfl
      clear ho2 hnil HO Hown hlk
      have hbl2 : Below w.heap.size w w2 := by repeat (first | exact Below.refl _ _ | assumption | refine below_allocS ?_ _ | refine below_callS ?_ (by assumption) | (refine Below.alloc ?_ (by first | omega | (simp; done) | (simp; omega)) _) | (refine Below.setCell ?_ (by first | omega | (simp; done) | (simp; omega)) _) | refine Below.drew ?_ | refine below_drewN ?_ _ | (refine below_call ?_ (by assumption) (by first | omega | (simp; done) | (simp; omega))) | (refine Below.trans ?_ (by assumption)))
      clear hb2
      go_wp2
      have hR := Lib.hid (Blk.made w2 #[.slice (some ⟨g1, 0, none⟩) k c1, .slice (some ⟨g2, 0, none⟩) k c2] 39)
      go_loopw [10, 30] (fun _ s30 wi => ∃ m : Nat, m ≤ nf ∧ s30 = .int .i64 m ∧ Below w.heap.size w wi ∧ w2.heap.size < wi.heap.size ∧ Hid (Blk wi w.heap.size #[.slice none 0 0, .slice none 0 0] 39) ∧ Hid (Blk wi w2.heap.size #[.slice (some ⟨g1, 0, none⟩) k c1, .slice (some ⟨g2, 0, none⟩) k c2] 39) ∧ Hid (OwnI 2 wi (w.heap.size + 1) (some ⟨g1, 0, none⟩) k c1 (applyC 0 (baseL l) (fs.take m))) ∧ Hid (OwnI 2 wi (w.heap.size + 1) (some ⟨g2, 0, none⟩) k c2 (applyC 1 (baseL l) (fs.take m)))) (fun _ i _ => nf - (intOf i).toNat)
      case atStart => exact ⟨0, Nat.zero_le _, rfl, by repeat (first | exact Below.refl _ _ | assumption | refine below_allocS ?_ _ | refine below_callS ?_ (by assumption) | (refine Below.alloc ?_ (by first | omega | (simp; done) | (simp; omega)) _) | (refine Below.setCell ?_ (by first | omega | (simp; done) | (simp; omega)) _) | refine Below.drew ?_ | refine below_drewN ?_ _ | (refine below_call ?_ (by assumption) (by first | omega | (simp; done) | (simp; omega))) | (refine Below.trans ?_ (by assumption))), by simp, HB2.out.keep (by repeat (first | exact Below.refl _ _ | assumption | refine below_allocS ?_ _ | refine below_callS ?_ (by assumption) | (refine Below.alloc ?_ (by first | omega | (simp; done) | (simp; omega)) _) | (refine Below.setCell ?_ (by first | omega | (simp; done) | (simp; omega)) _) | refine Below.drew ?_ | refine below_drewN ?_ _ | (refine below_call ?_ (by assumption) (by first | omega | (simp; done) | (simp; omega))) | (refine Below.trans ?_ (by assumption)))), hR.out, HO1.out.keep (by repeat (first | exact Below.refl _ _ | assumption | refine below_allocS ?_ _ | refine below_callS ?_ (by assumption) | (refine Below.alloc ?_ (by first | omega | (simp; done) | (simp; omega)) _) | (refine Below.setCell ?_ (by first | omega | (simp; done) | (simp; omega)) _) | refine Below.drew ?_ | refine below_drewN ?_ _ | (refine below_call ?_ (by assumption) (by first | omega | (simp; done) | (simp; omega))) | (refine Below.trans ?_ (by assumption)))), (HO2.out.keep (by repeat (first | exact Below.refl _ _ | assumption | refine below_allocS ?_ _ | refine below_callS ?_ (by assumption) | (refine Below.alloc ?_ (by first | omega | (simp; done) | (simp; omega)) _) | (refine Below.setCell ?_ (by first | omega | (simp; done) | (simp; omega)) _) | refine Below.drew ?_ | refine below_drewN ?_ _ | (refine below_call ?_ (by assumption) (by first | omega | (simp; done) | (simp; omega))) | (refine Below.trans ?_ (by assumption))))).le (by omega)⟩
      case round =>
        obtain ⟨m, hm, rfl, hbi, hzi, HBi, HRi, Ha, Hb⟩ := hrel
        have hszi := hbi.size
        by_cases hltm : m < nf
        · obtain ⟨b, off, x, rfl, hb, hx, hwf, hc0, hc1, hc2⟩ := F3.get (HF.out.keep hbi) hltm
          obtain ⟨v1, v2, v3, v4⟩ := lockB_mem HV.out (List.mem_of_getElem? hx)
          have Hs0 := Lib.hid (applyC_step (ch := 0) (b := baseL l) hx)
          have Hs1 := Lib.hid (applyC_step (ch := 1) (b := baseL l) hx)
          have hw3 := hwf.2.2
          obtain ⟨q, hq⟩ := Int.eq_ofNat_of_zero_le v1
          have Hq := Lib.hid (show x.a.toNat = q by omega)
          rw [hq] at hc0 v2
          have hqk : q < k := by omega
          have Hx := Lib.hid hx
          clear hx v1 v4 hq
          have k0 := HRi.out.cell 0
          have k1 := HRi.out.cell 1
          have hne : b ≠ wr.heap.size := by omega
          simp at k0 k1
          cases hch : (x.b == 0)
          · have hx1 : x.b = 1 := by simp at hch; omega
            have hs1 : (x.b == 1) = true := by simp [hx1]
            have E0 := Lib.hid (show applyC 0 (baseL l) (fs.take (m + 1)) = applyC 0 (baseL l) (fs.take m) by rw [Hs0.out, hch]; rfl)
            have E1 := Lib.hid (show applyC 1 (baseL l) (fs.take (m + 1)) = (applyC 1 (baseL l) (fs.take m)).set q x.c by rw [Hs1.out, hs1, Hq.out]; rfl)
            obtain ⟨y, _, _, hcy⟩ := Hb.out.cell hqk
            have hfz := Hb.out.free q
            have hlt2 := Hb.out.blk _ rfl
            clear Hs0 Hs1 hx1 hs1
            go_wp2
            go_roundw
            case rel => exact ⟨m + 1, by omega, by go_num, by repeat (first | exact Below.refl _ _ | assumption | refine below_allocS ?_ _ | refine below_callS ?_ (by assumption) | (refine Below.alloc ?_ (by first | omega | (simp; done) | (simp; omega)) _) | (refine Below.setCell ?_ (by first | omega | (simp; done) | (simp; omega)) _) | refine Below.drew ?_ | refine below_drewN ?_ _ | (refine below_call ?_ (by assumption) (by first | omega | (simp; done) | (simp; omega))) | (refine Below.trans ?_ (by assumption))), by simp; omega, (HBi.out.keepG (set_grown g2 q (.int .i64 x.c)) (by simp; omega)).keep (by repeat (first | exact Below.refl _ _ | assumption | refine below_allocS ?_ _ | refine below_callS ?_ (by assumption) | (refine Below.alloc ?_ (by first | omega | (simp; done) | (simp; omega)) _) | (refine Below.setCell ?_ (by first | omega | (simp; done) | (simp; omega)) _) | refine Below.drew ?_ | refine below_drewN ?_ _ | (refine below_call ?_ (by assumption) (by first | omega | (simp; done) | (simp; omega))) | (refine Below.trans ?_ (by assumption)))), (HRi.out.keepG (set_grown g2 q (.int .i64 x.c)) (by simp; omega)).keep (by repeat (first | exact Below.refl _ _ | assumption | refine below_allocS ?_ _ | refine below_callS ?_ (by assumption) | (refine Below.alloc ?_ (by first | omega | (simp; done) | (simp; omega)) _) | (refine Below.setCell ?_ (by first | omega | (simp; done) | (simp; omega)) _) | refine Below.drew ?_ | refine below_drewN ?_ _ | (refine below_call ?_ (by assumption) (by first | omega | (simp; done) | (simp; omega))) | (refine Below.trans ?_ (by assumption)))), by rw [E0.out]; exact (Ha.out.keepG (set_grown g2 q (.int .i64 x.c)) (by intro g e; simp at e ⊢; omega)).keep (by repeat (first | exact Below.refl _ _ | assumption | refine below_allocS ?_ _ | refine below_callS ?_ (by assumption) | (refine Below.alloc ?_ (by first | omega | (simp; done) | (simp; omega)) _) | (refine Below.setCell ?_ (by first | omega | (simp; done) | (simp; omega)) _) | refine Below.drew ?_ | refine below_drewN ?_ _ | (refine below_call ?_ (by assumption) (by first | omega | (simp; done) | (simp; omega))) | (refine Below.trans ?_ (by assumption)))), by rw [E1.out]; exact (Hb.out.set q hw3).keep (by repeat (first | exact Below.refl _ _ | assumption | refine below_allocS ?_ _ | refine below_callS ?_ (by assumption) | (refine Below.alloc ?_ (by first | omega | (simp; done) | (simp; omega)) _) | (refine Below.setCell ?_ (by first | omega | (simp; done) | (simp; omega)) _) | refine Below.drew ?_ | refine below_drewN ?_ _ | (refine below_call ?_ (by assumption) (by first | omega | (simp; done) | (simp; omega))) | (refine Below.trans ?_ (by assumption))))⟩
            case measure => simp [intOf]; omega
          · have hx0 : x.b = 0 := by simpa using hch
            have hs1 : (x.b == 1) = false := by simp [hx0]
            have E0 := Lib.hid (show applyC 0 (baseL l) (fs.take (m + 1)) = (applyC 0 (baseL l) (fs.take m)).set q x.c by rw [Hs0.out, hch, Hq.out]; rfl)
            have E1 := Lib.hid (show applyC 1 (baseL l) (fs.take (m + 1)) = applyC 1 (baseL l) (fs.take m) by rw [Hs1.out, hs1]; rfl)
            obtain ⟨y, _, _, hcy⟩ := Ha.out.cell hqk
            have hfz := Ha.out.free q
            have hlt2 := Ha.out.blk _ rfl
            clear Hs0 Hs1 hx0 hs1
            go_wp2
            go_roundw
            case rel => exact ⟨m + 1, by omega, by go_num, by repeat (first | exact Below.refl _ _ | assumption | refine below_allocS ?_ _ | refine below_callS ?_ (by assumption) | (refine Below.alloc ?_ (by first | omega | (simp; done) | (simp; omega)) _) | (refine Below.setCell ?_ (by first | omega | (simp; done) | (simp; omega)) _) | refine Below.drew ?_ | refine below_drewN ?_ _ | (refine below_call ?_ (by assumption) (by first | omega | (simp; done) | (simp; omega))) | (refine Below.trans ?_ (by assumption))), by simp; omega, (HBi.out.keepG (set_grown g1 q (.int .i64 x.c)) (by simp; omega)).keep (by repeat (first | exact Below.refl _ _ | assumption | refine below_allocS ?_ _ | refine below_callS ?_ (by assumption) | (refine Below.alloc ?_ (by first | omega | (simp; done) | (simp; omega)) _) | (refine Below.setCell ?_ (by first | omega | (simp; done) | (simp; omega)) _) | refine Below.drew ?_ | refine below_drewN ?_ _ | (refine below_call ?_ (by assumption) (by first | omega | (simp; done) | (simp; omega))) | (refine Below.trans ?_ (by assumption)))), (HRi.out.keepG (set_grown g1 q (.int .i64 x.c)) (by simp; omega)).keep (by repeat (first | exact Below.refl _ _ | assumption | refine below_allocS ?_ _ | refine below_callS ?_ (by assumption) | (refine Below.alloc ?_ (by first | omega | (simp; done) | (simp; omega)) _) | (refine Below.setCell ?_ (by first | omega | (simp; done) | (simp; omega)) _) | refine Below.drew ?_ | refine below_drewN ?_ _ | (refine below_call ?_ (by assumption) (by first | omega | (simp; done) | (simp; omega))) | (refine Below.trans ?_ (by assumption)))), by rw [E0.out]; exact (Ha.out.set q hw3).keep (by repeat (first | exact Below.refl _ _ | assumption | refine below_allocS ?_ _ | refine below_callS ?_ (by assumption) | (refine Below.alloc ?_ (by first | omega | (simp; done) | (simp; omega)) _) | (refine Below.setCell ?_ (by first | omega | (simp; done) | (simp; omega)) _) | refine Below.drew ?_ | refine below_drewN ?_ _ | (refine below_call ?_ (by assumption) (by first | omega | (simp; done) | (simp; omega))) | (refine Below.trans ?_ (by assumption)))), by rw [E1.out]; exact (Hb.out.keepG (set_grown g1 q (.int .i64 x.c)) (by intro g e; simp at e ⊢; omega)).keep (by repeat (first | exact Below.refl _ _ | assumption | refine below_allocS ?_ _ | refine below_callS ?_ (by assumption) | (refine Below.alloc ?_ (by first | omega | (simp; done) | (simp; omega)) _) | (refine Below.setCell ?_ (by first | omega | (simp; done) | (simp; omega)) _) | refine Below.drew ?_ | refine below_drewN ?_ _ | (refine below_call ?_ (by assumption) (by first | omega | (simp; done) | (simp; omega))) | (refine Below.trans ?_ (by assumption))))⟩
            case measure => simp [intOf]; omega
        · have e : m = nf := by omega
          have hlf : fs.take m = fs := take_len (by have := HF.out.len; omega)
          have h0 := Ha.out
          have h1 := Hb.out
          rw [hlf] at h0 h1
          have H0 := Lib.hid h0
          have H1 := Lib.hid h1
          have k0 := HRi.out.cell 0
          have k1 := HRi.out.cell 1
          simp at k0 k1
          have b0 := HBi.out.cell 0
          have b1 := HBi.out.cell 1
          have f0 := HBi.out.free 0
          have f1 := HBi.out.free 1
          simp at b0 b1
          clear h0 h1 e
          go_wp2
          refine bodyPost_ret (v := .agg #[.slice (some ⟨g1, 0, none⟩) k c1, .slice (some ⟨g2, 0, none⟩) k c2]) (by simp [results, Try.results83, go_sem, *]) rfl ⟨_, _, _, _, rfl, by repeat (first | exact Below.refl _ _ | assumption | refine below_allocS ?_ _ | refine below_callS ?_ (by assumption) | (refine Below.alloc ?_ (by first | omega | (simp; done) | (simp; omega)) _) | (refine Below.setCell ?_ (by first | omega | (simp; done) | (simp; omega)) _) | refine Below.drew ?_ | refine below_drewN ?_ _ | (refine below_call ?_ (by assumption) (by first | omega | (simp; done) | (simp; omega))) | (refine Below.trans ?_ (by assumption))), ?_, ?_, ?_⟩
          · exact (((H0.out.keepG (set_grown _ _ _) (by intro g e; simp at e ⊢; omega)).keepG (set_grown _ _ _) (by intro g e; simp at e ⊢; omega))).le (by omega)
          · exact (((H1.out.keepG (set_grown _ _ _) (by intro g e; simp at e ⊢; omega)).keepG (set_grown _ _ _) (by intro g e; simp at e ⊢; omega))).le (by omega)
          · intro g e1 e2; simp at e1 e2; omega
theorem half_base {l : List Int} (h : allIn 0 2 l = true) {k : Nat} {x : Int} (hx : l[k]? = some x) : 0 ≤ x ∧ x ≤ 2 ∧ (if x = 2 then (1 : Int) else 0) = x / 2 := by
  have := List.all_eq_true.1 h x (List.mem_of_getElem? hx)
  simp [inB] at this
  refine ⟨this.1, this.2, ?_⟩
  split <;> omega
set_option maxHeartbeats 4000000 in
theorem spec_l26Channel {a af : Option Addr} {n c nf cf : Nat} {l : List Int} {fs : List I3} {ch : Int} {w : World} (hI : Ints w a n c l) (hF : F3 w af nf cf fs) (hn : n ≤ 1048576) (hnf : nf ≤ 1048576) (hn1 : 0 < n) (ha : allIn 0 2 l = true) (hv : lockB n fs = true) :
    Calls Try.prog 84 #[.slice a n c, .slice af nf cf, .int .i64 ch] w (OwnRet 2 w n (applyC ch (baseL l) fs)) := by
  have HI := Lib.hid hI
  have HF := Lib.hid hF
  have HV := Lib.hid hv
  have HA := Lib.hid ha
  clear hI hF hv ha
  go_enter Try.func84, Try.ntmps84
  go_wp2
  go_loopw [7, 8] (fun s7 s8 wr => ∃ (k : Nat) (a1 : Option Addr) (c1 : Nat), k ≤ n ∧ s7 = .slice a1 k c1 ∧ s8 = .int .i64 k ∧ Below w.heap.size w wr ∧ Hid (OwnI 2 wr w.heap.size a1 k c1 (baseL (l.take k)))) (fun _ i _ => n - (intOf i).toNat)
  case atStart => exact ⟨0, _, 0, Nat.zero_le _, rfl, rfl, by repeat (first | exact Below.refl _ _ | assumption | refine below_allocS ?_ _ | refine below_callS ?_ (by assumption) | (refine Below.alloc ?_ (by first | omega | (simp; done) | (simp; omega)) _) | (refine Below.setCell ?_ (by first | omega | (simp; done) | (simp; omega)) _) | refine Below.drew ?_ | refine below_drewN ?_ _ | (refine below_call ?_ (by assumption) (by first | omega | (simp; done) | (simp; omega))) | (refine Below.trans ?_ (by assumption))), OwnI.empty w (Nat.le_refl _)⟩
  case round =>
    obtain ⟨k, a1, c1, hk, rfl, rfl, hbl, HO⟩ := hrel
    have hsz := hbl.size
    by_cases hlt : k < n
    · obtain ⟨b, off, x, rfl, hb, hx, hcell, hwf⟩ := (HI.out.keep hbl).at hlt
      obtain ⟨hx0, hx2, hxe⟩ := half_base HA.out hx
      have Hst := Lib.hid (baseL_step hx)
      rw [hxe] at Hst
      clear hx hxe
      go_wp2_with (at_builtin; refine append1_i64 rfl _ _ 32 2 rfl Try.underlying32 Try.infoi64 w.heap.size _ _ _ _ (HO.out.keep ((Below.refl _ _).alloc (Nat.le_refl _) (.cells #[.int .i64 (x / 2)] 2))) rfl wr.heap.size (x / 2) rfl (by simp) ⟨by omega, by omega⟩ (by omega) (by simp; omega) ?_; intro a2 c2 w2 hown2 hb2 hg2)
      have Hown2 := Lib.hid hown2
      clear hown2
      go_roundw
      case rel => exact ⟨k + 1, a2, c2, by omega, rfl, by go_num, Below.trans (by repeat (first | exact Below.refl _ _ | assumption | refine below_allocS ?_ _ | refine below_callS ?_ (by assumption) | (refine Below.alloc ?_ (by first | omega | (simp; done) | (simp; omega)) _) | (refine Below.setCell ?_ (by first | omega | (simp; done) | (simp; omega)) _) | refine Below.drew ?_ | refine below_drewN ?_ _ | (refine below_call ?_ (by assumption) (by first | omega | (simp; done) | (simp; omega))) | (refine Below.trans ?_ (by assumption)))) hb2, by rw [Hst.out]; exact Hown2.out⟩
      case measure => simp [intOf]; omega
    · have e : k = n := by omega
      subst e
      have hlk : l.take k = l := take_len HI.out.len
      rw [hlk] at HO
      obtain ⟨g1, rfl⟩ := HO.out.shape hn1
      have hg1 := HO.out.blk _ rfl
      go_wp2
      go_loopw [9] (fun s9 wi => ∃ m : Nat, m ≤ nf ∧ s9 = .int .i64 m ∧ Below w.heap.size w wi ∧ Hid (OwnI 2 wi w.heap.size (some ⟨g1, 0, none⟩) k c1 (applyC ch (baseL l) (fs.take m)))) (fun i _ => nf - (intOf i).toNat)
      case atStart => exact ⟨0, Nat.zero_le _, rfl, by repeat (first | exact Below.refl _ _ | assumption | refine below_allocS ?_ _ | refine below_callS ?_ (by assumption) | (refine Below.alloc ?_ (by first | omega | (simp; done) | (simp; omega)) _) | (refine Below.setCell ?_ (by first | omega | (simp; done) | (simp; omega)) _) | refine Below.drew ?_ | refine below_drewN ?_ _ | (refine below_call ?_ (by assumption) (by first | omega | (simp; done) | (simp; omega))) | (refine Below.trans ?_ (by assumption))), HO.out⟩
      case round =>
        obtain ⟨m, hm, rfl, hbi, Ha⟩ := hrel
        have hszi := hbi.size
        by_cases hltm : m < nf
        · obtain ⟨b, off, x, rfl, hb, hx, hwf, hc0, hc1, hc2⟩ := F3.get (HF.out.keep hbi) hltm
          obtain ⟨v1, v2, v3, v4⟩ := lockB_mem HV.out (List.mem_of_getElem? hx)
          have Hs0 := Lib.hid (applyC_step (ch := ch) (b := baseL l) hx)
          have hw3 := hwf.2.2
          obtain ⟨q, hq⟩ := Int.eq_ofNat_of_zero_le v1
          have Hq := Lib.hid (show x.a.toNat = q by omega)
          rw [hq] at hc0 v2
          have hqk : q < k := by omega
          have hqk' : (q : Int) < (k : Int) := by omega
          have hq0 : (0 : Int) ≤ (q : Int) := by omega
          have hltm' : (m : Int) < (nf : Int) := by omega
          have hm0 : (0 : Int) ≤ (m : Int) := by omega
          clear hx v1 v4 hq
          cases hch : (x.b == ch)
          · have E0 := Lib.hid (show applyC ch (baseL l) (fs.take (m + 1)) = applyC ch (baseL l) (fs.take m) by rw [Hs0.out, hch]; rfl)
            go_wp2
            go_roundw
            case rel => exact ⟨m + 1, by omega, by go_num, by repeat (first | exact Below.refl _ _ | assumption | refine below_allocS ?_ _ | refine below_callS ?_ (by assumption) | (refine Below.alloc ?_ (by first | omega | (simp; done) | (simp; omega)) _) | (refine Below.setCell ?_ (by first | omega | (simp; done) | (simp; omega)) _) | refine Below.drew ?_ | refine below_drewN ?_ _ | (refine below_call ?_ (by assumption) (by first | omega | (simp; done) | (simp; omega))) | (refine Below.trans ?_ (by assumption))), by rw [E0.out]; exact Ha.out⟩
            case measure => simp [intOf]; omega
          · have E0 := Lib.hid (show applyC ch (baseL l) (fs.take (m + 1)) = (applyC ch (baseL l) (fs.take m)).set q x.c by rw [Hs0.out, hch, Hq.out]; rfl)
            obtain ⟨y, _, _, hcy⟩ := Ha.out.cell hqk
            have hfz := Ha.out.free q
            have hlt2 := Ha.out.blk _ rfl
            go_wp2
            go_region
            go_wp2
            go_roundw
            case rel => exact ⟨m + 1, by omega, by go_num, by repeat (first | exact Below.refl _ _ | assumption | refine below_allocS ?_ _ | refine below_callS ?_ (by assumption) | (refine Below.alloc ?_ (by first | omega | (simp; done) | (simp; omega)) _) | (refine Below.setCell ?_ (by first | omega | (simp; done) | (simp; omega)) _) | refine Below.drew ?_ | refine below_drewN ?_ _ | (refine below_call ?_ (by assumption) (by first | omega | (simp; done) | (simp; omega))) | (refine Below.trans ?_ (by assumption))), by rw [E0.out]; exact (Ha.out.set q hw3).keep (by repeat (first | exact Below.refl _ _ | assumption | refine below_allocS ?_ _ | refine below_callS ?_ (by assumption) | (refine Below.alloc ?_ (by first | omega | (simp; done) | (simp; omega)) _) | (refine Below.setCell ?_ (by first | omega | (simp; done) | (simp; omega)) _) | refine Below.drew ?_ | refine below_drewN ?_ _ | (refine below_call ?_ (by assumption) (by first | omega | (simp; done) | (simp; omega))) | (refine Below.trans ?_ (by assumption))))⟩
            case measure => simp [intOf]; omega
        · have hlf : fs.take m = fs := take_len (by have := HF.out.len; omega)
          rw [hlf] at Ha
          go_wp2
          go_ret
          exact ⟨_, _, rfl, hbi, Ha.out⟩
def repCode (l : List Int) (fs : List I3) : Int := if areRes l = false then 1 else if lockB l.length fs = false then 2 else 0
def repL (ch : Int) (l : List Int) (fs : List I3) : List Int := if repCode l fs = 0 then applyC ch (baseL l) fs else []
/-- a report in memory of the call's own, and an error -/
def LockRepC (E : TypeId) (w : World) (l : List Int) (fs : List I3) (e : Ending) (w' : World) : Prop :=
  ∃ n a1 c1 a2 c2, e = .returned (.tuple #[.agg #[.slice a1 n c1, .slice a2 n c2], .int .i64 (repCode l fs)]) ∧ Below w.heap.size w w' ∧ OwnI E w' w.heap.size a1 n c1 (repL 0 l fs) ∧ OwnI E w' w.heap.size a2 n c2 (repL 1 l fs) ∧ Apart a1 a2
theorem LockRepC.err {E : TypeId} {w w' : World} {l : List Int} {fs : List I3} {k : Int} (h : repCode l fs = k) (hk : k ≠ 0) (hb : Below w.heap.size w w') : LockRepC E w l fs (.returned (.tuple #[.agg #[.slice none 0 0, .slice none 0 0], .int .i64 k])) w' := by
  have h0 : repCode l fs ≠ 0 := by rw [h]; exact hk
  refine ⟨0, none, 0, none, 0, by rw [h], hb, ?_, ?_, fun g e => by cases e⟩
  · rw [repL, if_neg h0]; exact OwnI.nil _ _ _
  · rw [repL, if_neg h0]; exact OwnI.nil _ _ _
set_option maxHeartbeats 2000000 in
theorem impl_LockReport {a af : Option Addr} {n c nf cf : Nat} {l : List Int} {fs : List I3} {w : World} (hI : Ints w a n c l) (hF : F3 w af nf cf fs) (hn : n ≤ 1048576) (hnf : nf ≤ 1048576) :
    Calls Try.prog 21 #[.slice a n c, .slice af nf cf] w (LockRepC 2 w l fs) := by
  have hl := hI.len
  have HI := Lib.hid hI
  have HF := Lib.hid hF
  clear hI hF
  cases hr : areRes l
  · have HC := Lib.hid (show repCode l fs = 1 by rw [repCode, if_pos hr])
    have Hr := Lib.hid hr
    clear hr hl
    go_enter Try.func21, Try.ntmps21
    go_wp2_with fail
    refine Calls.mono (impl_AreRestraints (HI.out.keep (by repeat (first | exact Below.refl _ _ | assumption | refine below_allocS ?_ _ | refine below_callS ?_ (by assumption) | (refine Below.alloc ?_ (by first | omega | (simp; done) | (simp; omega)) _) | (refine Below.setCell ?_ (by first | omega | (simp; done) | (simp; omega)) _) | refine Below.drew ?_ | refine below_drewN ?_ _ | (refine below_call ?_ (by assumption) (by first | omega | (simp; done) | (simp; omega))) | (refine Below.trans ?_ (by assumption))))) hn) ?_
    rintro e w1 ⟨rfl, hb_w1⟩
    obtain ⟨hc_w1, hf_w1⟩ := bcell hb_w1
    have hs_w1 := hb_w1.size
    simp at hs_w1
    have hz1 : w.heap.size < w1.heap.size := by omega
    rw [Hr.out]
    go_wp2
    exact bodyPost_ret (v := .tuple #[.agg #[.slice none 0 0, .slice none 0 0], .int .i64 1]) (by simp [results, Try.results21, go_sem, *]) rfl (LockRepC.err HC.out (by decide) (by repeat (first | exact Below.refl _ _ | assumption | refine below_allocS ?_ _ | refine below_callS ?_ (by assumption) | (refine Below.alloc ?_ (by first | omega | (simp; done) | (simp; omega)) _) | (refine Below.setCell ?_ (by first | omega | (simp; done) | (simp; omega)) _) | refine Below.drew ?_ | refine below_drewN ?_ _ | (refine below_call ?_ (by assumption) (by first | omega | (simp; done) | (simp; omega))) | (refine Below.trans ?_ (by assumption)))))
  · cases hf : lockB n fs
    · have HC := Lib.hid (show repCode l fs = 2 by rw [repCode, if_neg (by rw [hr]; decide), hl, if_pos hf])
      have Hr := Lib.hid hr
      have Hf := Lib.hid hf
      clear hr hl hf
      go_enter Try.func21, Try.ntmps21
      go_wp2_with fail
      refine Calls.mono (impl_AreRestraints (HI.out.keep (by repeat (first | exact Below.refl _ _ | assumption | refine below_allocS ?_ _ | refine below_callS ?_ (by assumption) | (refine Below.alloc ?_ (by first | omega | (simp; done) | (simp; omega)) _) | (refine Below.setCell ?_ (by first | omega | (simp; done) | (simp; omega)) _) | refine Below.drew ?_ | refine below_drewN ?_ _ | (refine below_call ?_ (by assumption) (by first | omega | (simp; done) | (simp; omega))) | (refine Below.trans ?_ (by assumption))))) hn) ?_
      rintro e w1 ⟨rfl, hb_w1⟩
      obtain ⟨hc_w1, hf_w1⟩ := bcell hb_w1
      have hs_w1 := hb_w1.size
      simp at hs_w1
      have hz1 : w.heap.size < w1.heap.size := by omega
      rw [Hr.out]
      go_wp2_with fail
      refine Calls.mono (impl_length_i64) ?_
      rintro e _ ⟨rfl, rfl⟩
      go_wp2_with fail
      refine Calls.mono (impl_AreLockFaults (HF.out.keep (by repeat (first | exact Below.refl _ _ | assumption | refine below_allocS ?_ _ | refine below_callS ?_ (by assumption) | (refine Below.alloc ?_ (by first | omega | (simp; done) | (simp; omega)) _) | (refine Below.setCell ?_ (by first | omega | (simp; done) | (simp; omega)) _) | refine Below.drew ?_ | refine below_drewN ?_ _ | (refine below_call ?_ (by assumption) (by first | omega | (simp; done) | (simp; omega))) | (refine Below.trans ?_ (by assumption))))) hnf) ?_
      rintro e w2 ⟨rfl, hb_w2⟩
      obtain ⟨hc_w2, hf_w2⟩ := bcell hb_w2
      have hs_w2 := hb_w2.size
      have hz2 : w.heap.size < w2.heap.size := by omega
      rw [Hf.out]
      go_wp2
      exact bodyPost_ret (v := .tuple #[.agg #[.slice none 0 0, .slice none 0 0], .int .i64 2]) (by simp [results, Try.results21, go_sem, *]) rfl (LockRepC.err HC.out (by decide) (by repeat (first | exact Below.refl _ _ | assumption | refine below_allocS ?_ _ | refine below_callS ?_ (by assumption) | (refine Below.alloc ?_ (by first | omega | (simp; done) | (simp; omega)) _) | (refine Below.setCell ?_ (by first | omega | (simp; done) | (simp; omega)) _) | refine Below.drew ?_ | refine below_drewN ?_ _ | (refine below_call ?_ (by assumption) (by first | omega | (simp; done) | (simp; omega))) | (refine Below.trans ?_ (by assumption)))))
    · have hc0 : repCode l fs = 0 := by rw [repCode, if_neg (by rw [hr]; decide), hl, if_neg (by rw [hf]; decide)]
      have HC := Lib.hid hc0
      have H0 := Lib.hid (show repL 0 l fs = applyC 0 (baseL l) fs by rw [repL, if_pos hc0])
      have H1 := Lib.hid (show repL 1 l fs = applyC 1 (baseL l) fs by rw [repL, if_pos hc0])
      have hn1 : 0 < n := by
        simp only [areRes, Bool.and_eq_true] at hr
        have : 1 ≤ (l.length : Int) ∧ (l.length : Int) ≤ 12 := by simpa [inB] using hr.2
        omega
      have Hr := Lib.hid hr
      have Hf := Lib.hid hf
      clear hr hl hf hc0
      go_enter Try.func21, Try.ntmps21
      go_wp2_with fail
      refine Calls.mono (impl_AreRestraints (HI.out.keep (by repeat (first | exact Below.refl _ _ | assumption | refine below_allocS ?_ _ | refine below_callS ?_ (by assumption) | (refine Below.alloc ?_ (by first | omega | (simp; done) | (simp; omega)) _) | (refine Below.setCell ?_ (by first | omega | (simp; done) | (simp; omega)) _) | refine Below.drew ?_ | refine below_drewN ?_ _ | (refine below_call ?_ (by assumption) (by first | omega | (simp; done) | (simp; omega))) | (refine Below.trans ?_ (by assumption))))) hn) ?_
      rintro e w1 ⟨rfl, hb_w1⟩
      obtain ⟨hc_w1, hf_w1⟩ := bcell hb_w1
      have hs_w1 := hb_w1.size
      simp at hs_w1
      have hz1 : w.heap.size < w1.heap.size := by omega
      rw [Hr.out]
      go_wp2_with fail
      refine Calls.mono (impl_length_i64) ?_
      rintro e _ ⟨rfl, rfl⟩
      go_wp2_with fail
      refine Calls.mono (impl_AreLockFaults (HF.out.keep (by repeat (first | exact Below.refl _ _ | assumption | refine below_allocS ?_ _ | refine below_callS ?_ (by assumption) | (refine Below.alloc ?_ (by first | omega | (simp; done) | (simp; omega)) _) | (refine Below.setCell ?_ (by first | omega | (simp; done) | (simp; omega)) _) | refine Below.drew ?_ | refine below_drewN ?_ _ | (refine below_call ?_ (by assumption) (by first | omega | (simp; done) | (simp; omega))) | (refine Below.trans ?_ (by assumption))))) hnf) ?_
      rintro e w2 ⟨rfl, hb_w2⟩
      obtain ⟨hc_w2, hf_w2⟩ := bcell hb_w2
      have hs_w2 := hb_w2.size
      have hz2 : w.heap.size < w2.heap.size := by omega
      rw [Hf.out]
      go_wp2_with fail
      refine Calls.mono (impl_lockReport (HI.out.keep (by repeat (first | exact Below.refl _ _ | assumption | refine below_allocS ?_ _ | refine below_callS ?_ (by assumption) | (refine Below.alloc ?_ (by first | omega | (simp; done) | (simp; omega)) _) | (refine Below.setCell ?_ (by first | omega | (simp; done) | (simp; omega)) _) | refine Below.drew ?_ | refine below_drewN ?_ _ | (refine below_call ?_ (by assumption) (by first | omega | (simp; done) | (simp; omega))) | (refine Below.trans ?_ (by assumption))))) (HF.out.keep (by repeat (first | exact Below.refl _ _ | assumption | refine below_allocS ?_ _ | refine below_callS ?_ (by assumption) | (refine Below.alloc ?_ (by first | omega | (simp; done) | (simp; omega)) _) | (refine Below.setCell ?_ (by first | omega | (simp; done) | (simp; omega)) _) | refine Below.drew ?_ | refine below_drewN ?_ _ | (refine below_call ?_ (by assumption) (by first | omega | (simp; done) | (simp; omega))) | (refine Below.trans ?_ (by assumption))))) hn hnf hn1 Hf.out) ?_
      rintro e w3 ⟨a1, c1, a2, c2, rfl, hb3, ho1, ho2, hap⟩
      obtain ⟨hc3, hf3⟩ := bcell hb3
      have hs3 := hb3.size
      have hz3 : w.heap.size < w3.heap.size := by omega
      have HO1 := Lib.hid ho1
      have HO2 := Lib.hid ho2
      obtain ⟨g1, rfl⟩ := ho1.shape hn1
      obtain ⟨g2, rfl⟩ := ho2.shape hn1
      have hg1 := ho1.blk _ rfl
      have hg2 := ho2.blk _ rfl
      have HAp := Lib.hid hap
      clear ho1 ho2 hap
      go_wp2
      refine bodyPost_ret (v := .tuple #[.agg #[.slice (some ⟨g1, 0, none⟩) n c1, .slice (some ⟨g2, 0, none⟩) n c2], .int .i64 0]) (by simp [results, Try.results21, go_sem, *]) rfl ⟨n, _, _, _, _, by rw [HC.out], by repeat (first | exact Below.refl _ _ | assumption | refine below_allocS ?_ _ | refine below_callS ?_ (by assumption) | (refine Below.alloc ?_ (by first | omega | (simp; done) | (simp; omega)) _) | (refine Below.setCell ?_ (by first | omega | (simp; done) | (simp; omega)) _) | refine Below.drew ?_ | refine below_drewN ?_ _ | (refine below_call ?_ (by assumption) (by first | omega | (simp; done) | (simp; omega))) | (refine Below.trans ?_ (by assumption))), ?_, ?_, HAp.out⟩
      · rw [H0.out]
        exact ((HO1.out.keepG (set_grown _ _ _) (by intro g e; simp at e ⊢; omega)).keepG (set_grown _ _ _) (by intro g e; simp at e ⊢; omega)).le (by omega)
      · rw [H1.out]
        exact ((HO2.out.keepG (set_grown _ _ _) (by intro g e; simp at e ⊢; omega)).keepG (set_grown _ _ _) (by intro g e; simp at e ⊢; omega)).le (by omega)
set_option maxHeartbeats 2000000 in
theorem spec_LockReport {a af : Option Addr} {n c nf cf : Nat} {l : List Int} {fs : List I3} {w : World} (hI : Ints w a n c l) (hF : F3 w af nf cf fs) (hn : n ≤ 1048576) (hnf : nf ≤ 1048576) :
    Calls Try.prog 22 #[.slice a n c, .slice af nf cf] w (LockRepC 2 w l fs) := by
  have hl := hI.len
  have HI := Lib.hid hI
  have HF := Lib.hid hF
  clear hI hF
  cases hr : areRes l
  · have HC := Lib.hid (show repCode l fs = 1 by rw [repCode, if_pos hr])
    have Hr := Lib.hid hr
    clear hr hl
    go_enter Try.func22, Try.ntmps22
    go_wp2_with fail
    refine Calls.mono (spec_AreRestraints (HI.out.keep (by repeat (first | exact Below.refl _ _ | assumption | refine below_allocS ?_ _ | refine below_callS ?_ (by assumption) | (refine Below.alloc ?_ (by first | omega | (simp; done) | (simp; omega)) _) | (refine Below.setCell ?_ (by first | omega | (simp; done) | (simp; omega)) _) | refine Below.drew ?_ | refine below_drewN ?_ _ | (refine below_call ?_ (by assumption) (by first | omega | (simp; done) | (simp; omega))) | (refine Below.trans ?_ (by assumption))))) hn) ?_
    rintro e _ ⟨rfl, rfl⟩
    rw [Hr.out]
    go_wp2
    exact bodyPost_ret (v := .tuple #[.agg #[.slice none 0 0, .slice none 0 0], .int .i64 1]) (by simp [results, Try.results22, go_sem, *]) rfl (LockRepC.err HC.out (by decide) (by repeat (first | exact Below.refl _ _ | assumption | refine below_allocS ?_ _ | refine below_callS ?_ (by assumption) | (refine Below.alloc ?_ (by first | omega | (simp; done) | (simp; omega)) _) | (refine Below.setCell ?_ (by first | omega | (simp; done) | (simp; omega)) _) | refine Below.drew ?_ | refine below_drewN ?_ _ | (refine below_call ?_ (by assumption) (by first | omega | (simp; done) | (simp; omega))) | (refine Below.trans ?_ (by assumption)))))
  · cases hf : lockB n fs
    · have HC := Lib.hid (show repCode l fs = 2 by rw [repCode, if_neg (by rw [hr]; decide), hl, if_pos hf])
      have Hr := Lib.hid hr
      have Hf := Lib.hid hf
      clear hr hl hf
      go_enter Try.func22, Try.ntmps22
      go_wp2_with fail
      refine Calls.mono (spec_AreRestraints (HI.out.keep (by repeat (first | exact Below.refl _ _ | assumption | refine below_allocS ?_ _ | refine below_callS ?_ (by assumption) | (refine Below.alloc ?_ (by first | omega | (simp; done) | (simp; omega)) _) | (refine Below.setCell ?_ (by first | omega | (simp; done) | (simp; omega)) _) | refine Below.drew ?_ | refine below_drewN ?_ _ | (refine below_call ?_ (by assumption) (by first | omega | (simp; done) | (simp; omega))) | (refine Below.trans ?_ (by assumption))))) hn) ?_
      rintro e _ ⟨rfl, rfl⟩
      rw [Hr.out]
      go_wp2_with fail
      refine Calls.mono (spec_AreLockFaults (HF.out.keep (by repeat (first | exact Below.refl _ _ | assumption | refine below_allocS ?_ _ | refine below_callS ?_ (by assumption) | (refine Below.alloc ?_ (by first | omega | (simp; done) | (simp; omega)) _) | (refine Below.setCell ?_ (by first | omega | (simp; done) | (simp; omega)) _) | refine Below.drew ?_ | refine below_drewN ?_ _ | (refine below_call ?_ (by assumption) (by first | omega | (simp; done) | (simp; omega))) | (refine Below.trans ?_ (by assumption))))) hnf) ?_
      rintro e w2 ⟨rfl, hb_w2⟩
      obtain ⟨hc_w2, hf_w2⟩ := bcell hb_w2
      have hs_w2 := hb_w2.size
      simp at hs_w2
      have hz2 : w.heap.size < w2.heap.size := by omega
      rw [Hf.out]
      go_wp2
      exact bodyPost_ret (v := .tuple #[.agg #[.slice none 0 0, .slice none 0 0], .int .i64 2]) (by simp [results, Try.results22, go_sem, *]) rfl (LockRepC.err HC.out (by decide) (by repeat (first | exact Below.refl _ _ | assumption | refine below_allocS ?_ _ | refine below_callS ?_ (by assumption) | (refine Below.alloc ?_ (by first | omega | (simp; done) | (simp; omega)) _) | (refine Below.setCell ?_ (by first | omega | (simp; done) | (simp; omega)) _) | refine Below.drew ?_ | refine below_drewN ?_ _ | (refine below_call ?_ (by assumption) (by first | omega | (simp; done) | (simp; omega))) | (refine Below.trans ?_ (by assumption)))))
    · have hc0 : repCode l fs = 0 := by rw [repCode, if_neg (by rw [hr]; decide), hl, if_neg (by rw [hf]; decide)]
      have HC := Lib.hid hc0
      have H0 := Lib.hid (show repL 0 l fs = applyC 0 (baseL l) fs by rw [repL, if_pos hc0])
      have H1 := Lib.hid (show repL 1 l fs = applyC 1 (baseL l) fs by rw [repL, if_pos hc0])
      have hn1 : 0 < n := by
        simp only [areRes, Bool.and_eq_true] at hr
        have : 1 ≤ (l.length : Int) ∧ (l.length : Int) ≤ 12 := by simpa [inB] using hr.2
        omega
      have Ha := Lib.hid (show allIn 0 2 l = true by simp only [areRes, Bool.and_eq_true] at hr; exact hr.1)
      have Hr := Lib.hid hr
      have Hf := Lib.hid hf
      clear hr hl hf hc0
      go_enter Try.func22, Try.ntmps22
      go_wp2_with fail
      refine Calls.mono (spec_AreRestraints (HI.out.keep (by repeat (first | exact Below.refl _ _ | assumption | refine below_allocS ?_ _ | refine below_callS ?_ (by assumption) | (refine Below.alloc ?_ (by first | omega | (simp; done) | (simp; omega)) _) | (refine Below.setCell ?_ (by first | omega | (simp; done) | (simp; omega)) _) | refine Below.drew ?_ | refine below_drewN ?_ _ | (refine below_call ?_ (by assumption) (by first | omega | (simp; done) | (simp; omega))) | (refine Below.trans ?_ (by assumption))))) hn) ?_
      rintro e _ ⟨rfl, rfl⟩
      rw [Hr.out]
      go_wp2_with fail
      refine Calls.mono (spec_AreLockFaults (HF.out.keep (by repeat (first | exact Below.refl _ _ | assumption | refine below_allocS ?_ _ | refine below_callS ?_ (by assumption) | (refine Below.alloc ?_ (by first | omega | (simp; done) | (simp; omega)) _) | (refine Below.setCell ?_ (by first | omega | (simp; done) | (simp; omega)) _) | refine Below.drew ?_ | refine below_drewN ?_ _ | (refine below_call ?_ (by assumption) (by first | omega | (simp; done) | (simp; omega))) | (refine Below.trans ?_ (by assumption))))) hnf) ?_
      rintro e w2 ⟨rfl, hb_w2⟩
      obtain ⟨hc_w2, hf_w2⟩ := bcell hb_w2
      have hs_w2 := hb_w2.size
      simp at hs_w2
      have hz2 : w.heap.size < w2.heap.size := by omega
      rw [Hf.out]
      go_wp2_with fail
      refine Calls.mono (spec_l26Channel (HI.out.keep (by repeat (first | exact Below.refl _ _ | assumption | refine below_allocS ?_ _ | refine below_callS ?_ (by assumption) | (refine Below.alloc ?_ (by first | omega | (simp; done) | (simp; omega)) _) | (refine Below.setCell ?_ (by first | omega | (simp; done) | (simp; omega)) _) | refine Below.drew ?_ | refine below_drewN ?_ _ | (refine below_call ?_ (by assumption) (by first | omega | (simp; done) | (simp; omega))) | (refine Below.trans ?_ (by assumption))))) (HF.out.keep (by repeat (first | exact Below.refl _ _ | assumption | refine below_allocS ?_ _ | refine below_callS ?_ (by assumption) | (refine Below.alloc ?_ (by first | omega | (simp; done) | (simp; omega)) _) | (refine Below.setCell ?_ (by first | omega | (simp; done) | (simp; omega)) _) | refine Below.drew ?_ | refine below_drewN ?_ _ | (refine below_call ?_ (by assumption) (by first | omega | (simp; done) | (simp; omega))) | (refine Below.trans ?_ (by assumption))))) hn hnf hn1 Ha.out Hf.out) ?_
      rintro e w3 ⟨a1, c1, rfl, hb3, ho1⟩
      obtain ⟨hc3, hf3⟩ := bcell hb3
      have hs3 := hb3.size
      have hz3 : w.heap.size < w3.heap.size := by omega
      have hg1' := ho1.blk
      go_wp2_with fail
      refine Calls.mono (spec_l26Channel (HI.out.keep (by repeat (first | exact Below.refl _ _ | assumption | refine below_allocS ?_ _ | refine below_callS ?_ (by assumption) | (refine Below.alloc ?_ (by first | omega | (simp; done) | (simp; omega)) _) | (refine Below.setCell ?_ (by first | omega | (simp; done) | (simp; omega)) _) | refine Below.drew ?_ | refine below_drewN ?_ _ | (refine below_call ?_ (by assumption) (by first | omega | (simp; done) | (simp; omega))) | (refine Below.trans ?_ (by assumption))))) (HF.out.keep (by repeat (first | exact Below.refl _ _ | assumption | refine below_allocS ?_ _ | refine below_callS ?_ (by assumption) | (refine Below.alloc ?_ (by first | omega | (simp; done) | (simp; omega)) _) | (refine Below.setCell ?_ (by first | omega | (simp; done) | (simp; omega)) _) | refine Below.drew ?_ | refine below_drewN ?_ _ | (refine below_call ?_ (by assumption) (by first | omega | (simp; done) | (simp; omega))) | (refine Below.trans ?_ (by assumption))))) hn hnf hn1 Ha.out Hf.out) ?_
      rintro e w4 ⟨a2, c2, rfl, hb4, ho2⟩
      obtain ⟨hc4, hf4⟩ := bcell hb4
      have hs4 := hb4.size
      have hz4 : w.heap.size < w4.heap.size := by omega
      have hap : Apart a1 a2 := Apart.of (fun g e => (hg1' g e).2) (fun g e => (ho2.blk g e).1)
      replace ho1 := ho1.keep hb4
      clear hg1'
      have HO1 := Lib.hid ho1
      have HO2 := Lib.hid ho2
      obtain ⟨g1, rfl⟩ := ho1.shape hn1
      obtain ⟨g2, rfl⟩ := ho2.shape hn1
      have hg1 := ho1.blk _ rfl
      have hg2 := ho2.blk _ rfl
      have HAp := Lib.hid hap
      clear ho1 ho2 hap
      go_wp2
      refine bodyPost_ret (v := .tuple #[.agg #[.slice (some ⟨g1, 0, none⟩) n c1, .slice (some ⟨g2, 0, none⟩) n c2], .int .i64 0]) (by simp [results, Try.results22, go_sem, *]) rfl ⟨n, _, _, _, _, by rw [HC.out], by repeat (first | exact Below.refl _ _ | assumption | refine below_allocS ?_ _ | refine below_callS ?_ (by assumption) | (refine Below.alloc ?_ (by first | omega | (simp; done) | (simp; omega)) _) | (refine Below.setCell ?_ (by first | omega | (simp; done) | (simp; omega)) _) | refine Below.drew ?_ | refine below_drewN ?_ _ | (refine below_call ?_ (by assumption) (by first | omega | (simp; done) | (simp; omega))) | (refine Below.trans ?_ (by assumption))), ?_, ?_, HAp.out⟩
      · rw [H0.out]
        exact ((HO1.out.keepG (set_grown _ _ _) (by intro g e; simp at e ⊢; omega)).keepG (set_grown _ _ _) (by intro g e; simp at e ⊢; omega)).le (by omega)
      · rw [H1.out]
        exact ((HO2.out.keepG (set_grown _ _ _) (by intro g e; simp at e ⊢; omega)).keepG (set_grown _ _ _) (by intro g e; simp at e ⊢; omega)).le (by omega)
def readyB (l : List Int) (fs : List I3) : Bool := !((applyC 0 (baseL l) fs).any fun y => 0 == y) && !((applyC 1 (baseL l) fs).any fun y => 0 == y)
set_option maxHeartbeats 2000000 in
theorem impl_isReady {a af : Option Addr} {n c nf cf : Nat} {l : List Int} {fs : List I3} {w : World} (hI : Ints w a n c l) (hF : F3 w af nf cf fs) (hn : n ≤ 1048576) (hnf : nf ≤ 1048576) (hn1 : 0 < n) (hv : lockB n fs = true) :
    Calls Try.prog 80 #[.slice a n c, .slice af nf cf] w fun e w' => e = .returned (.bool (readyB l fs)) ∧ Below w.heap.size w w' := by
  have HR := Lib.hid (show readyB l fs = (!((applyC 0 (baseL l) fs).any fun y => 0 == y) && !((applyC 1 (baseL l) fs).any fun y => 0 == y)) from rfl)
  have HI := Lib.hid hI
  have HF := Lib.hid hF
  clear hI hF
  cases h0 : ((applyC 0 (baseL l) fs).any fun y => 0 == y)
  all_goals
    have HH := Lib.hid h0
    clear h0
    go_enter Try.func80, Try.ntmps80
    go_wp2_with fail
    refine Calls.mono (impl_lockReport (HI.out.keep (by repeat (first | exact Below.refl _ _ | assumption | refine below_allocS ?_ _ | refine below_callS ?_ (by assumption) | (refine Below.alloc ?_ (by first | omega | (simp; done) | (simp; omega)) _) | (refine Below.setCell ?_ (by first | omega | (simp; done) | (simp; omega)) _) | refine Below.drew ?_ | refine below_drewN ?_ _ | (refine below_call ?_ (by assumption) (by first | omega | (simp; done) | (simp; omega))) | (refine Below.trans ?_ (by assumption))))) (HF.out.keep (by repeat (first | exact Below.refl _ _ | assumption | refine below_allocS ?_ _ | refine below_callS ?_ (by assumption) | (refine Below.alloc ?_ (by first | omega | (simp; done) | (simp; omega)) _) | (refine Below.setCell ?_ (by first | omega | (simp; done) | (simp; omega)) _) | refine Below.drew ?_ | refine below_drewN ?_ _ | (refine below_call ?_ (by assumption) (by first | omega | (simp; done) | (simp; omega))) | (refine Below.trans ?_ (by assumption))))) hn hnf hn1 hv) ?_
    rintro e w3 ⟨a1, c1, a2, c2, rfl, hb3, ho1, ho2, hap⟩
    have HO1 := Lib.hid ho1
    have HO2 := Lib.hid ho2
    clear ho1 ho2 hap
    go_wp2_with fail
    refine Calls.mono (slices_Contains_i64 (HO1.out.ints.keep (by repeat (first | exact Below.refl _ _ | assumption | refine below_allocS ?_ _ | refine below_callS ?_ (by assumption) | (refine Below.alloc ?_ (by first | omega | (simp; done) | (simp; omega)) _) | (refine Below.setCell ?_ (by first | omega | (simp; done) | (simp; omega)) _) | refine Below.drew ?_ | refine below_drewN ?_ _ | (refine below_call ?_ (by assumption) (by first | omega | (simp; done) | (simp; omega))) | (refine Below.trans ?_ (by assumption))))) hn) ?_
    rintro e _ ⟨rfl, rfl⟩
    rw [HH.out]
  · go_wp2_with fail
    refine Calls.mono (slices_Contains_i64 (HO2.out.ints.keep (by repeat (first | exact Below.refl _ _ | assumption | refine below_allocS ?_ _ | refine below_callS ?_ (by assumption) | (refine Below.alloc ?_ (by first | omega | (simp; done) | (simp; omega)) _) | (refine Below.setCell ?_ (by first | omega | (simp; done) | (simp; omega)) _) | refine Below.drew ?_ | refine below_drewN ?_ _ | (refine below_call ?_ (by assumption) (by first | omega | (simp; done) | (simp; omega))) | (refine Below.trans ?_ (by assumption))))) hn) ?_
    rintro e _ ⟨rfl, rfl⟩
    go_wp2
    go_ret
    exact ⟨ret_bool (by rw [HR.out, HH.out]; rfl), by repeat (first | exact Below.refl _ _ | assumption | refine below_allocS ?_ _ | refine below_callS ?_ (by assumption) | (refine Below.alloc ?_ (by first | omega | (simp; done) | (simp; omega)) _) | (refine Below.setCell ?_ (by first | omega | (simp; done) | (simp; omega)) _) | refine Below.drew ?_ | refine below_drewN ?_ _ | (refine below_call ?_ (by assumption) (by first | omega | (simp; done) | (simp; omega))) | (refine Below.trans ?_ (by assumption)))⟩
  · go_wp2
    go_ret
    exact ⟨ret_bool (by rw [HR.out, HH.out]; rfl), by repeat (first | exact Below.refl _ _ | assumption | refine below_allocS ?_ _ | refine below_callS ?_ (by assumption) | (refine Below.alloc ?_ (by first | omega | (simp; done) | (simp; omega)) _) | (refine Below.setCell ?_ (by first | omega | (simp; done) | (simp; omega)) _) | refine Below.drew ?_ | refine below_drewN ?_ _ | (refine below_call ?_ (by assumption) (by first | omega | (simp; done) | (simp; omega))) | (refine Below.trans ?_ (by assumption)))⟩
def readyE (l : List Int) (fs : List I3) : Bool := decide (repCode l fs = 0) && readyB l fs
theorem repCode_pos {l : List Int} {fs : List I3} (h : repCode l fs = 0) : areRes l = true ∧ lockB l.length fs = true ∧ 0 < l.length := by
  unfold repCode at h
  split at h
  · omega
  · split at h
    · omega
    · rename_i h1 h2
      have h1' : areRes l = true := by simpa using h1
      refine ⟨h1', by simpa using h2, ?_⟩
      simp only [areRes, Bool.and_eq_true] at h1'
      have : 1 ≤ (l.length : Int) ∧ (l.length : Int) ≤ 12 := by simpa [inB] using h1'.2
      omega
theorem ret_bi {a b : Bool} {c d : Int} (h : a = b) (h' : c = d) : Ending.returned (.tuple #[.bool a, .int .i64 c]) = .returned (.tuple #[.bool b, .int .i64 d]) := by rw [h, h']
set_option maxHeartbeats 2000000 in
theorem impl_IsReady {a af : Option Addr} {n c nf cf : Nat} {l : List Int} {fs : List I3} {w : World} (hI : Ints w a n c l) (hF : F3 w af nf cf fs) (hn : n ≤ 1048576) (hnf : nf ≤ 1048576) :
    Calls Try.prog 19 #[.slice a n c, .slice af nf cf] w fun e w' => e = .returned (.tuple #[.bool (readyE l fs), .int .i64 (repCode l fs)]) ∧ Below w.heap.size w w' := by
  have HI := Lib.hid hI
  have HF := Lib.hid hF
  clear hI hF
  go_enter Try.func19, Try.ntmps19
  go_wp2_with fail
  refine Calls.mono (impl_LockReport (HI.out.keep (by repeat (first | exact Below.refl _ _ | assumption | refine below_allocS ?_ _ | refine below_callS ?_ (by assumption) | (refine Below.alloc ?_ (by first | omega | (simp; done) | (simp; omega)) _) | (refine Below.setCell ?_ (by first | omega | (simp; done) | (simp; omega)) _) | refine Below.drew ?_ | refine below_drewN ?_ _ | (refine below_call ?_ (by assumption) (by first | omega | (simp; done) | (simp; omega))) | (refine Below.trans ?_ (by assumption))))) (HF.out.keep (by repeat (first | exact Below.refl _ _ | assumption | refine below_allocS ?_ _ | refine below_callS ?_ (by assumption) | (refine Below.alloc ?_ (by first | omega | (simp; done) | (simp; omega)) _) | (refine Below.setCell ?_ (by first | omega | (simp; done) | (simp; omega)) _) | refine Below.drew ?_ | refine below_drewN ?_ _ | (refine below_call ?_ (by assumption) (by first | omega | (simp; done) | (simp; omega))) | (refine Below.trans ?_ (by assumption))))) hn hnf) ?_
  rintro e w1 ⟨m, a1, c1, a2, c2, rfl, hb1, _, _, _⟩
  have hs1 := hb1.size
  have HR := Lib.hid (show readyE l fs = (decide (repCode l fs = 0) && readyB l fs) from rfl)
  by_cases hz : repCode l fs = 0
  · obtain ⟨h1, h2, h3⟩ := repCode_pos hz
    rw [HI.out.len] at h2 h3
    have H2 := Lib.hid h2
    have hq : (repCode l fs != 0) = false := by simp [hz]
    have Hz := Lib.hid hz
    clear hz h1 h2
    generalize hcode : repCode l fs = code at *
    have Hcode := Lib.hid hcode
    clear hcode
    go_wp2_with fail
    refine Calls.mono (impl_isReady (HI.out.keep (by repeat (first | exact Below.refl _ _ | assumption | refine below_allocS ?_ _ | refine below_callS ?_ (by assumption) | (refine Below.alloc ?_ (by first | omega | (simp; done) | (simp; omega)) _) | (refine Below.setCell ?_ (by first | omega | (simp; done) | (simp; omega)) _) | refine Below.drew ?_ | refine below_drewN ?_ _ | (refine below_call ?_ (by assumption) (by first | omega | (simp; done) | (simp; omega))) | (refine Below.trans ?_ (by assumption))))) (HF.out.keep (by repeat (first | exact Below.refl _ _ | assumption | refine below_allocS ?_ _ | refine below_callS ?_ (by assumption) | (refine Below.alloc ?_ (by first | omega | (simp; done) | (simp; omega)) _) | (refine Below.setCell ?_ (by first | omega | (simp; done) | (simp; omega)) _) | refine Below.drew ?_ | refine below_drewN ?_ _ | (refine below_call ?_ (by assumption) (by first | omega | (simp; done) | (simp; omega))) | (refine Below.trans ?_ (by assumption))))) hn hnf h3 H2.out) ?_
    rintro e w2 ⟨rfl, hb2⟩
    go_wp2
    go_ret2
    exact ⟨ret_bi (by rw [HR.out, Hz.out]; rfl) (by rw [Hcode.out, Hz.out]), by repeat (first | exact Below.refl _ _ | assumption | refine below_allocS ?_ _ | refine below_callS ?_ (by assumption) | (refine Below.alloc ?_ (by first | omega | (simp; done) | (simp; omega)) _) | (refine Below.setCell ?_ (by first | omega | (simp; done) | (simp; omega)) _) | refine Below.drew ?_ | refine below_drewN ?_ _ | (refine below_call ?_ (by assumption) (by first | omega | (simp; done) | (simp; omega))) | (refine Below.trans ?_ (by assumption)))⟩
  · have hq : (repCode l fs != 0) = true := by simp [hz]
    generalize hcode : repCode l fs = code at *
    have Hcode := Lib.hid hcode
    have Hz := Lib.hid hz
    clear hcode hz
    go_wp2
    go_ret2
    exact ⟨ret_bi (by rw [HR.out, decide_eq_false Hz.out]; rfl) (by rw [Hcode.out]), by repeat (first | exact Below.refl _ _ | assumption | refine below_allocS ?_ _ | refine below_callS ?_ (by assumption) | (refine Below.alloc ?_ (by first | omega | (simp; done) | (simp; omega)) _) | (refine Below.setCell ?_ (by first | omega | (simp; done) | (simp; omega)) _) | refine Below.drew ?_ | refine below_drewN ?_ _ | (refine below_call ?_ (by assumption) (by first | omega | (simp; done) | (simp; omega))) | (refine Below.trans ?_ (by assumption)))⟩
theorem sum_snoc (l : List Int) (x : Int) : (l ++ [x]).sum = l.sum + x := by simp
theorem sum_bound {M : Int} (hM : 0 ≤ M) (l : List Int) (h : ∀ x ∈ l, 0 ≤ x ∧ x ≤ M) : 0 ≤ l.sum ∧ l.sum ≤ M * l.length := by
  induction l with
  | nil => simp
  | cons y r ih =>
    obtain ⟨h1, h2⟩ := ih fun x hx => h x (by simp [hx])
    have h3 := h y (by simp)
    have h4 : M * ((y :: r).length : Int) = M * r.length + M := by rw [List.length_cons, Int.natCast_add, Int.mul_add]; simp
    rw [List.sum_cons, h4]
    omega
set_option maxHeartbeats 1000000 in
theorem spec_l01Sum {a : Option Addr} {n c : Nat} {l : List Int} {w : World} (hI : Ints w a n c l) (hn : n ≤ 1048576) (hM : ∀ x ∈ l, 0 ≤ x ∧ x ≤ 4096) :
    Calls Try.prog 81 #[.slice a n c] w fun e w' => e = .returned (.int .i64 l.sum) ∧ w = w' := by
  have HI := Lib.hid hI
  have HM := Lib.hid hM
  clear hI hM
  go_enter Try.func81, Try.ntmps81
  go_wp2
  go_loop [3, 4] (fun s3 s4 => ∃ k : Nat, k ≤ n ∧ s4 = .int .i64 k ∧ s3 = .int .i64 (l.take k).sum) (fun _ i => n - (intOf i).toNat)
  case atStart => exact ⟨0, Nat.zero_le _, rfl, rfl⟩
  case round =>
    obtain ⟨k, hk, rfl, rfl⟩ := hrel
    by_cases hlt : k < n
    · obtain ⟨b, off, x, rfl, hb, hx, hcell, hwf⟩ := HI.out.at hlt
      obtain ⟨hx0, hx1⟩ := HM.out x (List.mem_of_getElem? hx)
      obtain ⟨hs0, hs1⟩ := sum_bound (M := 4096) (by omega) (l.take k) fun y hy => HM.out y (List.mem_of_mem_take hy)
      have hlen : ((l.take k).length : Int) ≤ k := by have := List.length_take_le k l; omega
      have Hst := Lib.hid (show (l.take (k + 1)).sum = (l.take k).sum + x by rw [take_at hx, sum_snoc])
      clear hx
      generalize (l.take k).sum = q at *
      generalize ((l.take k).length : Int) = m at *
      go_wp2
      go_round
      case rel => exact ⟨k + 1, by omega, by go_num, by rw [Hst.out]⟩
      case measure => simp [intOf]; omega
    · go_wp2
      go_ret
      have e : l.take k = l := take_len (by have := HI.out.len; omega)
      exact ⟨ret_int (by rw [e]), rfl⟩
theorem applyC_mem {ch : Int} {b : List Int} {fs : List I3} (hb : ∀ x ∈ b, x = 0 ∨ x = 1) (hf : ∀ f ∈ fs, f.c = 0 ∨ f.c = 1) : ∀ x ∈ applyC ch b fs, x = 0 ∨ x = 1 := by
  unfold applyC
  induction fs generalizing b with
  | nil => exact hb
  | cons f r ih =>
    rw [List.foldl_cons]
    refine ih ?_ fun g hg => hf g (by simp [hg])
    split
    · intro x hx
      rcases List.mem_or_eq_of_mem_set hx with h | h
      · exact hb x h
      · rw [h]; exact hf f (by simp)
    · exact hb
theorem baseL_len (l : List Int) : (baseL l).length = l.length := by simp [baseL]
theorem baseL_mem (l : List Int) : ∀ x ∈ baseL l, x = 0 ∨ x = 1 := by
  intro x hx
  simp only [baseL, List.mem_map] at hx
  obtain ⟨y, _, rfl⟩ := hx
  split <;> simp
theorem sum_any {l : List Int} (h : ∀ x ∈ l, x = 0 ∨ x = 1) : l.sum ≤ l.length ∧ ((l.any fun y => 0 == y) = true → l.sum < l.length) ∧ ((l.any fun y => 0 == y) = false → l.sum = l.length) := by
  induction l with
  | nil => simp
  | cons y r ih =>
    obtain ⟨h1, h2, h3⟩ := ih fun x hx => h x (by simp [hx])
    rw [List.sum_cons, List.length_cons, List.any_cons]
    rcases h y (by simp) with rfl | rfl
    · refine ⟨by omega, fun _ => by omega, fun h => by simp at h⟩
    · refine ⟨by omega, fun h => ?_, fun h => ?_⟩
      · have := h2 (by simpa using h); omega
      · have := h3 (by simpa using h); omega
theorem ready_sum {l : List Int} {fs : List I3} (h : repCode l fs = 0) : readyB l fs = ((applyC 0 (baseL l) fs).sum + (applyC 1 (baseL l) fs).sum == 2 * (l.length : Int)) := by
  obtain ⟨_, h2, _⟩ := repCode_pos h
  have hf : ∀ f ∈ fs, f.c = 0 ∨ f.c = 1 := fun f hf => (lockB_mem h2 hf).2.2.2
  have e0 : (applyC 0 (baseL l) fs).length = l.length := by rw [applyC_len, baseL, List.length_map]
  have e1 : (applyC 1 (baseL l) fs).length = l.length := by rw [applyC_len, baseL, List.length_map]
  obtain ⟨a1, a2, a3⟩ := sum_any (applyC_mem (ch := 0) (baseL_mem l) hf)
  obtain ⟨b1, b2, b3⟩ := sum_any (applyC_mem (ch := 1) (baseL_mem l) hf)
  unfold readyB
  cases p : ((applyC 0 (baseL l) fs).any fun y => 0 == y) <;> cases q : ((applyC 1 (baseL l) fs).any fun y => 0 == y)
  · have := a3 p; have := b3 q
    simp; omega
  · have := a3 p; have := b2 q
    simp; omega
  · have := a2 p; have := b3 q
    simp; omega
  · have := a2 p; have := b2 q
    simp; omega
set_option maxHeartbeats 4000000 in
theorem spec_IsReady {a af : Option Addr} {n c nf cf : Nat} {l : List Int} {fs : List I3} {w : World} (hI : Ints w a n c l) (hF : F3 w af nf cf fs) (hn : n ≤ 1048576) (hnf : nf ≤ 1048576) :
    Calls Try.prog 20 #[.slice a n c, .slice af nf cf] w fun e w' => e = .returned (.tuple #[.bool (readyE l fs), .int .i64 (repCode l fs)]) ∧ Below w.heap.size w w' := by
  have HI := Lib.hid hI
  have HF := Lib.hid hF
  clear hI hF
  go_enter Try.func20, Try.ntmps20
  go_wp2_with fail
  refine Calls.mono (spec_LockReport (HI.out.keep (by repeat (first | exact Below.refl _ _ | assumption | refine below_allocS ?_ _ | refine below_callS ?_ (by assumption) | (refine Below.alloc ?_ (by first | omega | (simp; done) | (simp; omega)) _) | (refine Below.setCell ?_ (by first | omega | (simp; done) | (simp; omega)) _) | refine Below.drew ?_ | refine below_drewN ?_ _ | (refine below_call ?_ (by assumption) (by first | omega | (simp; done) | (simp; omega))) | (refine Below.trans ?_ (by assumption))))) (HF.out.keep (by repeat (first | exact Below.refl _ _ | assumption | refine below_allocS ?_ _ | refine below_callS ?_ (by assumption) | (refine Below.alloc ?_ (by first | omega | (simp; done) | (simp; omega)) _) | (refine Below.setCell ?_ (by first | omega | (simp; done) | (simp; omega)) _) | refine Below.drew ?_ | refine below_drewN ?_ _ | (refine below_call ?_ (by assumption) (by first | omega | (simp; done) | (simp; omega))) | (refine Below.trans ?_ (by assumption))))) hn hnf) ?_
  rintro e w1 ⟨m, a1, c1, a2, c2, rfl, hb1, ho1, ho2, _⟩
  have hs1 := hb1.size
  have HO1 := Lib.hid ho1
  have HO2 := Lib.hid ho2
  clear ho1 ho2
  have HR := Lib.hid (show readyE l fs = (decide (repCode l fs = 0) && readyB l fs) from rfl)
  by_cases hz : repCode l fs = 0
  · obtain ⟨h1, h2, h3⟩ := repCode_pos hz
    have hf : ∀ f ∈ fs, f.c = 0 ∨ f.c = 1 := fun f hf => (lockB_mem h2 hf).2.2.2
    have hm0 := applyC_mem (ch := 0) (baseL_mem l) hf
    have hm1 := applyC_mem (ch := 1) (baseL_mem l) hf
    have r0 : repL 0 l fs = applyC 0 (baseL l) fs := by rw [repL, if_pos hz]
    have r1 : repL 1 l fs = applyC 1 (baseL l) fs := by rw [repL, if_pos hz]
    rw [r0] at HO1; rw [r1] at HO2
    have hlen := HI.out.len
    have hmn : m = n := by rw [← HO1.out.len, applyC_len, baseL, List.length_map, hlen]
    subst hmn
    have hrs := ready_sum hz
    rw [hlen] at hrs
    have hq : (repCode l fs != 0) = false := by simp [hz]
    have Hz := Lib.hid hz
    have Hrs := Lib.hid hrs
    have b0 := sum_bound (M := 1) (by omega) (applyC 0 (baseL l) fs) fun x hx => by rcases hm0 x hx with h | h <;> omega
    have b1 := sum_bound (M := 1) (by omega) (applyC 1 (baseL l) fs) fun x hx => by rcases hm1 x hx with h | h <;> omega
    rw [applyC_len, baseL_len, hlen] at b0 b1
    obtain ⟨b00, b01⟩ := b0
    obtain ⟨b10, b11⟩ := b1
    have c0 := fun (wx : World) (hb : Below w1.heap.size w1 wx) => spec_l01Sum (HO1.out.ints.keep hb) hn (fun x hx => by rcases hm0 x hx with h | h <;> omega)
    have c1 := fun (wx : World) (hb : Below w1.heap.size w1 wx) => spec_l01Sum (HO2.out.ints.keep hb) hn (fun x hx => by rcases hm1 x hx with h | h <;> omega)
    generalize (applyC 0 (baseL l) fs).sum = s0 at *
    generalize (applyC 1 (baseL l) fs).sum = s1 at *
    have C0 := Lib.hid c0
    have C1 := Lib.hid c1
    clear hz h1 h2 h3 hf hm0 hm1 r0 r1 hlen hrs c0 c1
    generalize hcode : repCode l fs = code at *
    have Hcode := Lib.hid hcode
    clear hcode
    go_wp2
    go_region_held3 (fun wx => wx.cell? ⟨w1.heap.size, 0, none⟩ = some (.slice a1 m c1) ∧ wx.cell? ⟨w1.heap.size, 1, none⟩ = some (.slice a2 m c2) ∧ w1.heap.size < wx.heap.size ∧ Below w1.heap.size w1 wx) (((try go_split_ands); (repeat' apply And.intro) <;> first | assumption | exact Below.drew (below_allocS (by first | exact Below.refl _ _ | assumption) _) | omega | (simp [*]; done))) (first | (go_at_call_of 81 (Value.slice a1 m c1); go_split_ands; refine Calls.mono (C0.out _ (by assumption)) ?_; rintro e _ ⟨rfl, rfl⟩) | (go_at_call 81; go_split_ands; refine Calls.mono (C1.out _ (by assumption)) ?_; rintro e _ ⟨rfl, rfl⟩))
    go_split_ands
    go_wp2
    go_ret2
    exact ⟨ret_bi (by rw [HR.out, Hz.out, Hrs.out, show IntKind.i64.wrap (s0 + s1) = s0 + s1 from IntWalk.i64_in _ (by omega), show IntKind.i64.wrap (2 * (m : Int)) = 2 * (m : Int) from IntWalk.i64_in _ (by omega)]; simp) (by rw [Hcode.out, Hz.out]), by repeat (first | exact Below.refl _ _ | assumption | refine below_allocS ?_ _ | refine below_callS ?_ (by assumption) | (refine Below.alloc ?_ (by first | omega | (simp; done) | (simp; omega)) _) | (refine Below.setCell ?_ (by first | omega | (simp; done) | (simp; omega)) _) | refine Below.drew ?_ | refine below_drewN ?_ _ | (refine below_call ?_ (by assumption) (by first | omega | (simp; done) | (simp; omega))) | (refine Below.trans ?_ (by assumption)))⟩
  · have hq : (repCode l fs != 0) = true := by simp [hz]
    generalize hcode : repCode l fs = code at *
    have Hcode := Lib.hid hcode
    have Hz := Lib.hid hz
    clear hcode hz
    go_wp2
    go_ret2
    exact ⟨ret_bi (by rw [HR.out, decide_eq_false Hz.out]; rfl) (by rw [Hcode.out]), by repeat (first | exact Below.refl _ _ | assumption | refine below_allocS ?_ _ | refine below_callS ?_ (by assumption) | (refine Below.alloc ?_ (by first | omega | (simp; done) | (simp; omega)) _) | (refine Below.setCell ?_ (by first | omega | (simp; done) | (simp; omega)) _) | refine Below.drew ?_ | refine below_drewN ?_ _ | (refine below_call ?_ (by assumption) (by first | omega | (simp; done) | (simp; omega))) | (refine Below.trans ?_ (by assumption)))⟩
end Go.Proofs.Ytoaccicfmfiemaa
