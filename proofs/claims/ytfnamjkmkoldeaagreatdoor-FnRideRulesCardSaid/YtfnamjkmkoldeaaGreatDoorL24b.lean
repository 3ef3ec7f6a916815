/- The traffic in a ride state, walked. -/
import Derived.Test.YtfnamjkmkoldeaaGreatDoorQg
namespace Go.Proofs.YtfnamjkmkoldeaaGreatDoor
open Go.RowKit
set_option linter.unusedVariables false
set_option linter.unusedSimpArgs false
def OwnRet0 (E : TypeId) (w : World) (n : Nat) (l : List Int) (e : Ending) (w' : World) : Prop :=
  ∃ a c, e = .returned (.slice a n c) ∧ Below w.heap.size w w' ∧ OwnI E w' w.heap.size a n c l
def TrafRet (E : TypeId) (w : World) (b : Int) (l : List Int) (e : Ending) (w' : World) : Prop :=
  ∃ n a c, e = .returned (.agg #[.int .i64 b, .slice a n c]) ∧ Below w.heap.size w w' ∧ OwnI E w' w.heap.size a n c l
def TrafRetC (E : TypeId) (w : World) (b : Int) (l : List Int) (code : Int) (e : Ending) (w' : World) : Prop :=
  ∃ n a c, e = .returned (.tuple #[.agg #[.int .i64 b, .slice a n c], .int .i64 code]) ∧ Below w.heap.size w w' ∧ OwnI E w' w.heap.size a n c l
def trB (b : Int) (l st : List Int) : Int := if rideCode b l st = 0 then b else 0
def trL (b : Int) (l st : List Int) : List Int := if rideCode b l st = 0 then st.take l.length else []
theorem rideCode_ok {b : Int} {l st : List Int} (h : rideCode b l st = 0) : trafB b l = true ∧ rideB b l.length st = true := by
  unfold rideCode at h
  split at h
  · cases h
  · split at h
    · cases h
    · simp_all
theorem rideB_len {b : Int} {t : Nat} {st : List Int} (h : rideB b t st = true) : (st.length : Int) = t + b + 1 := by
  simp only [rideB, Bool.and_eq_true, beq_iff_eq] at h
  exact h.1
set_option maxHeartbeats 1000000 in
theorem spec_l01Own0 {a : Option Addr} {n c : Nat} {l : List Int} {w : World} (hI : Ints w a n c l) (hn : n ≤ 1048576) :
    Calls Tryz.prog 56 #[.slice a n c] w (OwnRet0 2 w n l) := by
  have HI := Lib.hid hI
  clear hI
  go_enter Tryz.func56, Tryz.ntmps56
  go_wp2_with (at_builtin; refine appendL_i64 rfl _ _ 22 2 rfl Tryz.underlying22 Tryz.infoi64 w.heap.size _ _ _ _ (OwnI.empty w (Nat.le_refl _)) rfl _ _ _ _ rfl (HI.out.keep ((Below.refl _ _).alloc (Nat.le_refl _) _)) (by omega) (by omega) (by simp) ?_; intro a1 c1 w1 hown1 hb1 hg1 hnil1)
  have Hown := Lib.hid hown1
  clear hown1
  go_ret
  exact ⟨a1, c1, by simp, by repeat (first | exact Below.refl _ _ | assumption | refine below_allocS ?_ _ | refine below_callS ?_ (by assumption) | (refine Below.alloc ?_ (by first | omega | (simp; done) | (simp; omega)) _) | (refine Below.setCell ?_ (by first | omega | (simp; done) | (simp; omega)) _) | refine Below.drew ?_ | refine below_drewN ?_ _ | (refine below_call ?_ (by assumption) (by first | omega | (simp; done) | (simp; omega))) | (refine Below.trans ?_ (by assumption))), by simpa using Hown.out⟩
set_option maxHeartbeats 1000000 in
theorem impl_rideStateCode {b : Int} {a s : Option Addr} {n c m d : Nat} {l st : List Int} {w : World} (hI : Ints w a n c l) (hS : Ints w s m d st) (hn : n ≤ 1048576) (hm : m ≤ 1048576) :
    Calls Tryz.prog 66 #[.agg #[.int .i64 b, .slice a n c], .slice s m d] w fun e w' => e = .returned (.int .i64 (rideCode b l st)) ∧ Below w.heap.size w w' := by
  have HS := Lib.hid hS
  have HI := Lib.hid hI
  have HC := Lib.hid (show rideCode b l st = if trafB b l = false then 1 else if rideB b n st = false then 2 else 0 by rw [rideCode, hI.len])
  have hll := hI.len
  have B0 := Lib.hid (Blk.made w #[.int .i64 b, .slice a n c] 28)
  clear hS hI
  cases t0 : trafB b l
  · have T0 := Lib.hid t0
    clear t0 hll
    go_enter Tryz.func66, Tryz.ntmps66
    go_wp2_with fail
    refine Calls.mono (impl_IsTraffic (HI.out.keep (by repeat (first | exact Below.refl _ _ | assumption | refine below_allocS ?_ _ | refine below_callS ?_ (by assumption) | (refine Below.alloc ?_ (by first | omega | (simp; done) | (simp; omega)) _) | (refine Below.setCell ?_ (by first | omega | (simp; done) | (simp; omega)) _) | refine Below.drew ?_ | refine below_drewN ?_ _ | (refine below_call ?_ (by assumption) (by first | omega | (simp; done) | (simp; omega))) | (refine Below.trans ?_ (by assumption))))) hn) ?_
    rintro e w1 ⟨rfl, hb_w1⟩
    obtain ⟨hc_w1, hf_w1⟩ := bcell hb_w1
    have hs_w1 := hb_w1.size
    rw [T0.out]
    go_wp2
    go_ret
    exact ⟨ret_int (by rw [HC.out, T0.out]; rfl), by repeat (first | exact Below.refl _ _ | assumption | refine below_allocS ?_ _ | refine below_callS ?_ (by assumption) | (refine Below.alloc ?_ (by first | omega | (simp; done) | (simp; omega)) _) | (refine Below.setCell ?_ (by first | omega | (simp; done) | (simp; omega)) _) | refine Below.drew ?_ | refine below_drewN ?_ _ | (refine below_call ?_ (by assumption) (by first | omega | (simp; done) | (simp; omega))) | (refine Below.trans ?_ (by assumption)))⟩
  · have T0 := Lib.hid t0
    obtain ⟨hb0, hb1, hn1, hn4, _⟩ := trafB_split t0
    rw [hll] at hn4
    clear t0 hll
    go_enter Tryz.func66, Tryz.ntmps66
    go_wp2_with fail
    refine Calls.mono (impl_IsTraffic (HI.out.keep (by repeat (first | exact Below.refl _ _ | assumption | refine below_allocS ?_ _ | refine below_callS ?_ (by assumption) | (refine Below.alloc ?_ (by first | omega | (simp; done) | (simp; omega)) _) | (refine Below.setCell ?_ (by first | omega | (simp; done) | (simp; omega)) _) | refine Below.drew ?_ | refine below_drewN ?_ _ | (refine below_call ?_ (by assumption) (by first | omega | (simp; done) | (simp; omega))) | (refine Below.trans ?_ (by assumption))))) hn) ?_
    rintro e w1 ⟨rfl, hb_w1⟩
    obtain ⟨hc_w1, hf_w1⟩ := bcell hb_w1
    have hs_w1 := hb_w1.size
    rw [T0.out]
    simp at hs_w1
    go_wp2_with fail
    refine Calls.mono (impl_isRideState (HS.out.keep (by repeat (first | exact Below.refl _ _ | assumption | refine below_allocS ?_ _ | refine below_callS ?_ (by assumption) | (refine Below.alloc ?_ (by first | omega | (simp; done) | (simp; omega)) _) | (refine Below.setCell ?_ (by first | omega | (simp; done) | (simp; omega)) _) | refine Below.drew ?_ | refine below_drewN ?_ _ | (refine below_call ?_ (by assumption) (by first | omega | (simp; done) | (simp; omega))) | (refine Below.trans ?_ (by assumption))))) hm hb0 hb1 hn4) ?_
    rintro e w2 ⟨rfl, hb_w2⟩
    obtain ⟨hc_w2, hf_w2⟩ := bcell hb_w2
    have hs_w2 := hb_w2.size
    cases t1 : rideB b n st
    all_goals
      have T1 := Lib.hid t1
      clear t1
      go_wp2
      go_ret
      exact ⟨ret_int (by rw [HC.out, T0.out, T1.out]; rfl), by repeat (first | exact Below.refl _ _ | assumption | refine below_allocS ?_ _ | refine below_callS ?_ (by assumption) | (refine Below.alloc ?_ (by first | omega | (simp; done) | (simp; omega)) _) | (refine Below.setCell ?_ (by first | omega | (simp; done) | (simp; omega)) _) | refine Below.drew ?_ | refine below_drewN ?_ _ | (refine below_call ?_ (by assumption) (by first | omega | (simp; done) | (simp; omega))) | (refine Below.trans ?_ (by assumption)))⟩
set_option maxHeartbeats 1000000 in
theorem impl_trafficIn {b : Int} {a s : Option Addr} {n c m d : Nat} {st : List Int} {w : World} (hS : Ints w s m d st) (hn : n ≤ m) (hm : m ≤ 1048576) :
    Calls Tryz.prog 67 #[.agg #[.int .i64 b, .slice a n c], .slice s m d] w (TrafRet 2 w b (st.take n)) := by
  have HS := Lib.hid hS
  have hmd := hS.cap
  clear hS
  go_enter Tryz.func67, Tryz.ntmps67
  go_wp2_with fail
  have hnd : (n : Int) ≤ (d : Int) := by omega
  have hn0 : (0 : Int) ≤ (n : Int) := by omega
  have B1 := (Blk.made (w.alloc (.cells #[.int .i64 b, .slice a n c] 28)) #[.int .i64 0, .slice none 0 0] 28)
  simp at B1
  have HB1 := Lib.hid B1
  clear B1
  go_region_with (first | (go_at_call 63; refine Calls.mono (slices_Clone_i64 ((HS.out.keep (by repeat (first | exact Below.refl _ _ | assumption | refine below_allocS ?_ _ | refine below_callS ?_ (by assumption) | (refine Below.alloc ?_ (by first | omega | (simp; done) | (simp; omega)) _) | (refine Below.setCell ?_ (by first | omega | (simp; done) | (simp; omega)) _) | refine Below.drew ?_ | refine below_drewN ?_ _ | (refine below_call ?_ (by assumption) (by first | omega | (simp; done) | (simp; omega))) | (refine Below.trans ?_ (by assumption))))).take hn) (by omega)) ?_; rintro e w1 ⟨a1, c1, rfl, hbx, ho1, hnl1⟩; have HO1 := Lib.hid ho1; clear ho1; obtain ⟨hc1, hf1⟩ := bcell hbx; have hs1 := hbx.size; simp at hs1; have hz1 : w.heap.size < w1.heap.size := (by omega); have hz2 : w.heap.size + 1 < w1.heap.size := (by omega)))
  all_goals
    go_wp2
    refine bodyPost_ret (v := .agg #[.int .i64 b, .slice a1 n c1]) (by simp [results, Tryz.results67, go_sem, *]) rfl ⟨n, a1, c1, rfl, by repeat (first | exact Below.refl _ _ | assumption | refine below_allocS ?_ _ | refine below_callS ?_ (by assumption) | (refine Below.alloc ?_ (by first | omega | (simp; done) | (simp; omega)) _) | (refine Below.setCell ?_ (by first | omega | (simp; done) | (simp; omega)) _) | refine Below.drew ?_ | refine below_drewN ?_ _ | (refine below_call ?_ (by assumption) (by first | omega | (simp; done) | (simp; omega))) | (refine Below.trans ?_ (by assumption))), ?_⟩
    have h := HO1.out
    simp at h
    have hblk := h.blk
    refine OwnI.le (base := w.heap.size + 1 + 1) ?_ (by omega)
    repeat (first | exact h | refine OwnI.keepG ?_ (set_grown _ _ _) (by intro g hg; have := hblk g hg; simp; omega))
set_option maxHeartbeats 1000000 in
theorem spec_l24Traffic {b : Int} {a s : Option Addr} {n c m d : Nat} {st : List Int} {w : World} (hS : Ints w s m d st) (hn : n ≤ m) (hm : m ≤ 1048576) :
    Calls Tryz.prog 43 #[.agg #[.int .i64 b, .slice a n c], .slice s m d] w (TrafRet 2 w b (st.take n)) := by
  have HS := Lib.hid hS
  have hmd := hS.cap
  clear hS
  go_enter Tryz.func43, Tryz.ntmps43
  go_wp2_with fail
  have hnd : (n : Int) ≤ (d : Int) := by omega
  have hn0 : (0 : Int) ≤ (n : Int) := by omega
  have B1 := (Blk.made (w.alloc (.cells #[.int .i64 b, .slice a n c] 28)) #[.int .i64 0, .slice none 0 0] 28)
  simp at B1
  have HB1 := Lib.hid B1
  clear B1
  go_region_with (first | (go_at_call 56; refine Calls.mono (spec_l01Own0 ((HS.out.keep (by repeat (first | exact Below.refl _ _ | assumption | refine below_allocS ?_ _ | refine below_callS ?_ (by assumption) | (refine Below.alloc ?_ (by first | omega | (simp; done) | (simp; omega)) _) | (refine Below.setCell ?_ (by first | omega | (simp; done) | (simp; omega)) _) | refine Below.drew ?_ | refine below_drewN ?_ _ | (refine below_call ?_ (by assumption) (by first | omega | (simp; done) | (simp; omega))) | (refine Below.trans ?_ (by assumption))))).take hn) (by omega)) ?_; rintro e w1 ⟨a1, c1, rfl, hbx, ho1⟩; have HO1 := Lib.hid ho1; clear ho1; obtain ⟨hc1, hf1⟩ := bcell hbx; have hs1 := hbx.size; simp at hs1; have hz1 : w.heap.size < w1.heap.size := (by omega); have hz2 : w.heap.size + 1 < w1.heap.size := (by omega)))
  all_goals
    go_wp2
    refine bodyPost_ret (v := .agg #[.int .i64 b, .slice a1 n c1]) (by simp [results, Tryz.results43, go_sem, *]) rfl ⟨n, a1, c1, rfl, by repeat (first | exact Below.refl _ _ | assumption | refine below_allocS ?_ _ | refine below_callS ?_ (by assumption) | (refine Below.alloc ?_ (by first | omega | (simp; done) | (simp; omega)) _) | (refine Below.setCell ?_ (by first | omega | (simp; done) | (simp; omega)) _) | refine Below.drew ?_ | refine below_drewN ?_ _ | (refine below_call ?_ (by assumption) (by first | omega | (simp; done) | (simp; omega))) | (refine Below.trans ?_ (by assumption))), ?_⟩
    have h := HO1.out
    simp at h
    have hblk := h.blk
    refine OwnI.le (base := w.heap.size + 1 + 1) ?_ (by omega)
    repeat (first | exact h | refine OwnI.keepG ?_ (set_grown _ _ _) (by intro g hg; have := hblk g hg; simp; omega))
set_option maxHeartbeats 1000000 in
theorem impl_TrafficIn {b : Int} {a s : Option Addr} {n c m d : Nat} {l st : List Int} {w : World} (hI : Ints w a n c l) (hS : Ints w s m d st) (hn : n ≤ 1048576) (hm : m ≤ 1048576) :
    Calls Tryz.prog 25 #[.agg #[.int .i64 b, .slice a n c], .slice s m d] w (TrafRetC 2 w (trB b l st) (trL b l st) (rideCode b l st)) := by
  have HI := Lib.hid hI
  have HS := Lib.hid hS
  have h1 := fun (wx : World) (hb : Below w.heap.size w wx) => impl_rideStateCode (b := b) (hI.keep hb) (hS.keep hb) hn hm
  have HBv := Lib.hid (show trB b l st = if rideCode b l st = 0 then b else 0 from rfl)
  have HL := Lib.hid (show trL b l st = if rideCode b l st = 0 then st.take n else [] by rw [trL, hI.len])
  have hok := rideCode_ok (b := b) (l := l) (st := st)
  have hll := hI.len
  have hsl := hS.len
  rw [hll] at hok
  have hnm : rideCode b l st = 0 → n ≤ m := fun h => by
    have h2 := rideB_len (hok h).2
    have h3 := trafB_split (hok h).1
    omega
  clear hI hS hok hll hsl
  generalize rideCode b l st = code at *
  have H1 := Lib.hid h1
  have Hnm := Lib.hid hnm
  clear h1 hnm
  by_cases hv : code = 0
  · have HBv' := Lib.hid (HBv.out.trans (if_pos hv))
    have HL' := Lib.hid (HL.out.trans (if_pos hv))
    have hle := Hnm.out hv
    clear HBv HL Hnm
    subst hv
    go_enter Tryz.func25, Tryz.ntmps25
    go_wp2_with fail
    refine Calls.mono (H1.out _ (by repeat (first | exact Below.refl _ _ | assumption | refine below_allocS ?_ _ | refine below_callS ?_ (by assumption) | (refine Below.alloc ?_ (by first | omega | (simp; done) | (simp; omega)) _) | (refine Below.setCell ?_ (by first | omega | (simp; done) | (simp; omega)) _) | refine Below.drew ?_ | refine below_drewN ?_ _ | (refine below_call ?_ (by assumption) (by first | omega | (simp; done) | (simp; omega))) | (refine Below.trans ?_ (by assumption))))) ?_
    rintro e w1 ⟨rfl, hb_w1⟩
    obtain ⟨hc_w1, hf_w1⟩ := bcell hb_w1
    have hs_w1 := hb_w1.size
    simp at hs_w1
    have hz1 : w.heap.size < w1.heap.size := by omega
    have hz2 : w.heap.size + 1 < w1.heap.size := by omega
    go_wp2_with fail
    refine Calls.mono (impl_trafficIn (HS.out.keep (by repeat (first | exact Below.refl _ _ | assumption | refine below_allocS ?_ _ | refine below_callS ?_ (by assumption) | (refine Below.alloc ?_ (by first | omega | (simp; done) | (simp; omega)) _) | (refine Below.setCell ?_ (by first | omega | (simp; done) | (simp; omega)) _) | refine Below.drew ?_ | refine below_drewN ?_ _ | (refine below_call ?_ (by assumption) (by first | omega | (simp; done) | (simp; omega))) | (refine Below.trans ?_ (by assumption))))) hle hm) ?_
    rintro e w2 ⟨n2, a2, c2, rfl, hb_w2, ho2⟩
    obtain ⟨hc_w2, hf_w2⟩ := bcell hb_w2
    have hs_w2 := hb_w2.size
    have HO2 := Lib.hid ho2
    clear ho2
    have hz3 : w.heap.size + 1 < w2.heap.size := by omega
    go_wp2
    refine bodyPost_ret (v := .tuple #[.agg #[.int .i64 b, .slice a2 n2 c2], .int .i64 0]) (by simp [results, Tryz.results25, go_sem, *]) rfl ⟨n2, a2, c2, by rw [HBv'.out], by repeat (first | exact Below.refl _ _ | assumption | refine below_allocS ?_ _ | refine below_callS ?_ (by assumption) | (refine Below.alloc ?_ (by first | omega | (simp; done) | (simp; omega)) _) | (refine Below.setCell ?_ (by first | omega | (simp; done) | (simp; omega)) _) | refine Below.drew ?_ | refine below_drewN ?_ _ | (refine below_call ?_ (by assumption) (by first | omega | (simp; done) | (simp; omega))) | (refine Below.trans ?_ (by assumption))), ?_⟩
    rw [HL'.out]
    have hblk := HO2.out.blk
    refine OwnI.le (base := w1.heap.size) ?_ (by omega)
    repeat (first | exact HO2.out | refine OwnI.keepG ?_ (set_grown _ _ _) (by intro g hg; have := hblk g hg; simp; omega))
  · have Hv := Lib.hid hv
    have hv' : (code != 0) = true := by simpa using hv
    clear hv
    go_enter Tryz.func25, Tryz.ntmps25
    go_wp2_with fail
    refine Calls.mono (H1.out _ (by repeat (first | exact Below.refl _ _ | assumption | refine below_allocS ?_ _ | refine below_callS ?_ (by assumption) | (refine Below.alloc ?_ (by first | omega | (simp; done) | (simp; omega)) _) | (refine Below.setCell ?_ (by first | omega | (simp; done) | (simp; omega)) _) | refine Below.drew ?_ | refine below_drewN ?_ _ | (refine below_call ?_ (by assumption) (by first | omega | (simp; done) | (simp; omega))) | (refine Below.trans ?_ (by assumption))))) ?_
    rintro e w1 ⟨rfl, hb_w1⟩
    obtain ⟨hc_w1, hf_w1⟩ := bcell hb_w1
    have hs_w1 := hb_w1.size
    simp at hs_w1
    have hz1 : w.heap.size < w1.heap.size := by omega
    have hz2 : w.heap.size + 1 < w1.heap.size := by omega
    go_wp2
    refine bodyPost_ret (v := .tuple #[.agg #[.int .i64 0, .slice none 0 0], .int .i64 code]) (by simp [results, Tryz.results25, go_sem, *]) rfl ⟨0, none, 0, by rw [HBv.out, if_neg Hv.out], by repeat (first | exact Below.refl _ _ | assumption | refine below_allocS ?_ _ | refine below_callS ?_ (by assumption) | (refine Below.alloc ?_ (by first | omega | (simp; done) | (simp; omega)) _) | (refine Below.setCell ?_ (by first | omega | (simp; done) | (simp; omega)) _) | refine Below.drew ?_ | refine below_drewN ?_ _ | (refine below_call ?_ (by assumption) (by first | omega | (simp; done) | (simp; omega))) | (refine Below.trans ?_ (by assumption))), ?_⟩
    rw [HL.out, if_neg Hv.out]
    exact OwnI.nil _ _ _
end Go.Proofs.YtfnamjkmkoldeaaGreatDoor
