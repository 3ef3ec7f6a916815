/- The laws on commands. -/
import Derived.Test.YtijdcacplibmhaaDoorL27b
namespace Go.Proofs.YtijdcacplibmhaaDoor
open Go.RowKit
set_option linter.unusedVariables false
set_option linter.unusedSimpArgs false
def cmdCode (m k r : Int) : Int := if commandB k r = false then 1 else if inB m 0 5 = false then 2 else 0
theorem F2b.one {w : World} {E : TypeId} {x : I2b} (hw : x.ok) {g : Nat} (hg : g = w.heap.size) : F2b (w.alloc (.cells #[.int .i64 x.a, .int .i64 x.b, .bool x.c] E)) (some ⟨g, 0, none⟩) 1 1 [x] := by
  subst hg
  refine ⟨rfl, Nat.le_refl _, .inr ⟨w.heap.size, 0, rfl, by simp, fun i y hy j v hv => ?_⟩, fun y hy => by simp at hy; subst hy; exact hw, fun h => by cases h⟩
  cases i with
  | succ i => simp at hy
  | zero =>
    simp at hy
    subst hy
    have hb : Blk (w.alloc (.cells #[.int .i64 x.a, .int .i64 x.b, .bool x.c] E)) w.heap.size #[.int .i64 x.a, .int .i64 x.b, .bool x.c] E := Blk.made _ _ _
    have := hb.cell j
    simp only [Nat.zero_mul, Nat.zero_add]
    rw [this, ← hv]
    match j with
    | 0 => rfl
    | 1 => rfl
    | 2 => rfl
    | j + 3 => simp [I2b.enc]
theorem impl_commandCode_1 {x : I2b} {w : World} : Calls Tryd.prog 23 #[.agg #[.int .i64 x.a, .int .i64 x.b, .bool x.c]] w fun e w' => e = .returned (.bool (!commandB x.a x.b)) ∧ Below w.heap.size w w' := by
  go_enter Tryd.func23, Tryd.ntmps23
  go_wp2_with fail
  refine Calls.mono (impl_IsCommand) ?_
  rintro e w1 ⟨rfl, hb_w1⟩
  obtain ⟨hc_w1, hf_w1⟩ := bcell hb_w1
  have hs_w1 := hb_w1.size
  go_wp2
  go_ret
  exact ⟨rfl, by repeat (first | exact Below.refl _ _ | assumption | refine below_allocS ?_ _ | refine below_callS ?_ (by assumption) | (refine Below.alloc ?_ (by first | omega | (simp; done) | (simp; omega)) _) | (refine Below.setCell ?_ (by first | omega | (simp; done) | (simp; omega)) _) | refine Below.drew ?_ | refine below_drewN ?_ _ | (refine below_call ?_ (by assumption) (by first | omega | (simp; done) | (simp; omega))) | (refine Below.trans ?_ (by assumption)))⟩
set_option maxHeartbeats 1000000 in
theorem impl_commandCode {m : Int} {x : I2b} {a : Option Addr} {w : World} (hI : F2b w a 1 1 [x]) :
    Calls Tryd.prog 12 #[.int .i64 m, .slice a 1 1] w fun e w' => e = .returned (.int .i64 (cmdCode m x.a x.b)) ∧ Below w.heap.size w w' := by
  have hcf := fun (wx : World) (hb : Below w.heap.size w wx) => slices_ContainsFunc_Command (g := 23) (lb := #[]) (p := fun x => !commandB x.a x.b) (enters_of Tryd.func23 (by kernel_rfl) rfl) (fun W x hx hb => Calls.mono (impl_commandCode_1 (x := x) (w := W)) (fun e w' h => h)) (hI.keep hb) (by omega)
  have Hcf := Lib.hid hcf
  have HC := Lib.hid (show cmdCode m x.a x.b = if commandB x.a x.b = false then 1 else if inB m 0 5 = false then 2 else 0 from rfl)
  have hany : ([x].any fun x => !commandB x.a x.b) = !commandB x.a x.b := by simp
  have Hany := Lib.hid hany
  clear hcf hI hany
  go_enter Tryd.func12, Tryd.ntmps12
  go_wp2_with fail
  refine Calls.mono (Hcf.out _ (by repeat (first | exact Below.refl _ _ | assumption | refine below_allocS ?_ _ | refine below_callS ?_ (by assumption) | (refine Below.alloc ?_ (by first | omega | (simp; done) | (simp; omega)) _) | (refine Below.setCell ?_ (by first | omega | (simp; done) | (simp; omega)) _) | refine Below.drew ?_ | refine below_drewN ?_ _ | (refine below_call ?_ (by assumption) (by first | omega | (simp; done) | (simp; omega))) | (refine Below.trans ?_ (by assumption))))) ?_
  rintro e w1 ⟨rfl, hb_w1⟩
  obtain ⟨hc_w1, hf_w1⟩ := bcell hb_w1
  have hs_w1 := hb_w1.size
  rw [Hany.out]
  cases hc : commandB x.a x.b
  · have Hc := Lib.hid hc
    clear hc
    go_wp2
    go_ret
    exact ⟨ret_int (by rw [HC.out, Hc.out]; rfl), by repeat (first | exact Below.refl _ _ | assumption | refine below_allocS ?_ _ | refine below_callS ?_ (by assumption) | (refine Below.alloc ?_ (by first | omega | (simp; done) | (simp; omega)) _) | (refine Below.setCell ?_ (by first | omega | (simp; done) | (simp; omega)) _) | refine Below.drew ?_ | refine below_drewN ?_ _ | (refine below_call ?_ (by assumption) (by first | omega | (simp; done) | (simp; omega))) | (refine Below.trans ?_ (by assumption)))⟩
  · have Hc := Lib.hid hc
    clear hc
    go_wp2_with fail
    refine Calls.mono (impl_isMode) ?_
    rintro e _ ⟨rfl, rfl⟩
    cases hm : inB m 0 5
    all_goals
      have Hm := Lib.hid hm
      clear hm
      go_wp2
      go_ret
      exact ⟨ret_int (by rw [HC.out, Hc.out, Hm.out]; rfl), by repeat (first | exact Below.refl _ _ | assumption | refine below_allocS ?_ _ | refine below_callS ?_ (by assumption) | (refine Below.alloc ?_ (by first | omega | (simp; done) | (simp; omega)) _) | (refine Below.setCell ?_ (by first | omega | (simp; done) | (simp; omega)) _) | refine Below.drew ?_ | refine below_drewN ?_ _ | (refine below_call ?_ (by assumption) (by first | omega | (simp; done) | (simp; omega))) | (refine Below.trans ?_ (by assumption)))⟩
theorem spec_l27Code {m k r : Int} {key : Bool} {w : World} : Calls Tryd.prog 10 #[.int .i64 m, .agg #[.int .i64 k, .int .i64 r, .bool key]] w fun e w' => e = .returned (.int .i64 (cmdCode m k r)) ∧ Below w.heap.size w w' := by
  have HC := Lib.hid (show cmdCode m k r = if commandB k r = false then 1 else if inB m 0 5 = false then 2 else 0 from rfl)
  go_enter Tryd.func10, Tryd.ntmps10
  go_wp2_with fail
  refine Calls.mono (spec_IsCommand) ?_
  rintro e w1 ⟨rfl, hb_w1⟩
  obtain ⟨hc_w1, hf_w1⟩ := bcell hb_w1
  have hs_w1 := hb_w1.size
  cases hc : commandB k r
  · have Hc := Lib.hid hc
    clear hc
    go_wp2
    go_ret
    exact ⟨ret_int (by rw [HC.out, Hc.out]; rfl), by repeat (first | exact Below.refl _ _ | assumption | refine below_allocS ?_ _ | refine below_callS ?_ (by assumption) | (refine Below.alloc ?_ (by first | omega | (simp; done) | (simp; omega)) _) | (refine Below.setCell ?_ (by first | omega | (simp; done) | (simp; omega)) _) | refine Below.drew ?_ | refine below_drewN ?_ _ | (refine below_call ?_ (by assumption) (by first | omega | (simp; done) | (simp; omega))) | (refine Below.trans ?_ (by assumption)))⟩
  · have Hc := Lib.hid hc
    clear hc
    go_wp2_with fail
    refine Calls.mono (spec_l27Mode) ?_
    rintro e _ ⟨rfl, rfl⟩
    cases hm : inB m 0 5
    all_goals
      have Hm := Lib.hid hm
      clear hm
      go_wp2
      go_ret
      exact ⟨ret_int (by rw [HC.out, Hc.out, Hm.out]; rfl), by repeat (first | exact Below.refl _ _ | assumption | refine below_allocS ?_ _ | refine below_callS ?_ (by assumption) | (refine Below.alloc ?_ (by first | omega | (simp; done) | (simp; omega)) _) | (refine Below.setCell ?_ (by first | omega | (simp; done) | (simp; omega)) _) | refine Below.drew ?_ | refine below_drewN ?_ _ | (refine below_call ?_ (by assumption) (by first | omega | (simp; done) | (simp; omega))) | (refine Below.trans ?_ (by assumption)))⟩
theorem cmdCode_ok {m k r : Int} (h : cmdCode m k r = 0) : inB k 0 9 = true ∧ inB m 0 5 = true := by
  unfold cmdCode at h
  split at h
  · cases h
  · split at h
    · cases h
    · simp_all [commandB]
def cmdV (m k r : Int) (key : Bool) : Int := if cmdCode m k r = 0 then cVerd m k r key else 0
def cmdN (m k r : Int) (key : Bool) : Int := if cmdCode m k r = 0 then cNext m k r key else 0
theorem ret_jj {a b c d : Int} (h : a = b) (h' : c = d) : Ending.returned (.tuple #[.int .i64 a, .int .i64 c]) = .returned (.tuple #[.int .i64 b, .int .i64 d]) := by rw [h, h']
set_option maxHeartbeats 1000000 in
theorem spec_l27Next {m k r : Int} {key : Bool} {w : World} (hk : inB k 0 9 = true) :
    Calls Tryd.prog 14 #[.int .i64 m, .agg #[.int .i64 k, .int .i64 r, .bool key]] w fun e w' => e = .returned (.int .i64 (cNext m k r key)) ∧ Below w.heap.size w w' := by
  have h1 := fun (wx : World) => spec_l27Verdict (m := m) (k := k) (r := r) (key := key) (w := wx) hk
  have HN := Lib.hid (show cNext m k r key = if cVerd m k r key = 0 then toR k else m from rfl)
  generalize cVerd m k r key = v at *
  have H1 := Lib.hid h1
  clear h1
  by_cases hv : v = 0
  · have HN' := Lib.hid (HN.out.trans (if_pos hv))
    clear HN
    subst hv
    go_enter Tryd.func14, Tryd.ntmps14
    go_wp2_with fail
    refine Calls.mono (H1.out _) ?_
    rintro e w1 ⟨rfl, hb_w1⟩
    obtain ⟨hc_w1, hf_w1⟩ := bcell hb_w1
    have hs_w1 := hb_w1.size
    go_wp2_with fail
    refine Calls.mono (spec_l27To hk) ?_
    rintro e w2 ⟨rfl, hb_w2⟩
    obtain ⟨hc_w2, hf_w2⟩ := bcell hb_w2
    have hs_w2 := hb_w2.size
    go_wp2
    go_ret
    exact ⟨ret_int HN'.out.symm, by repeat (first | exact Below.refl _ _ | assumption | refine below_allocS ?_ _ | refine below_callS ?_ (by assumption) | (refine Below.alloc ?_ (by first | omega | (simp; done) | (simp; omega)) _) | (refine Below.setCell ?_ (by first | omega | (simp; done) | (simp; omega)) _) | refine Below.drew ?_ | refine below_drewN ?_ _ | (refine below_call ?_ (by assumption) (by first | omega | (simp; done) | (simp; omega))) | (refine Below.trans ?_ (by assumption)))⟩
  · have Hv := Lib.hid hv
    have hv' : (v == 0) = false := by simpa using hv
    clear hv
    go_enter Tryd.func14, Tryd.ntmps14
    go_wp2_with fail
    refine Calls.mono (H1.out _) ?_
    rintro e w1 ⟨rfl, hb_w1⟩
    obtain ⟨hc_w1, hf_w1⟩ := bcell hb_w1
    have hs_w1 := hb_w1.size
    go_wp2
    go_ret
    exact ⟨ret_int (by rw [HN.out, if_neg Hv.out]), by repeat (first | exact Below.refl _ _ | assumption | refine below_allocS ?_ _ | refine below_callS ?_ (by assumption) | (refine Below.alloc ?_ (by first | omega | (simp; done) | (simp; omega)) _) | (refine Below.setCell ?_ (by first | omega | (simp; done) | (simp; omega)) _) | refine Below.drew ?_ | refine below_drewN ?_ _ | (refine below_call ?_ (by assumption) (by first | omega | (simp; done) | (simp; omega))) | (refine Below.trans ?_ (by assumption)))⟩
set_option maxHeartbeats 1000000 in
theorem spec_CommandVerdict {m k r : Int} {key : Bool} {w : World} : Calls Tryd.prog 5 #[.int .i64 m, .agg #[.int .i64 k, .int .i64 r, .bool key]] w fun e w' => e = .returned (.tuple #[.int .i64 (cmdV m k r key), .int .i64 (cmdCode m k r)]) ∧ Below w.heap.size w w' := by
  have h1 := fun (wx : World) => spec_l27Code (m := m) (k := k) (r := r) (key := key) (w := wx)
  have HV := Lib.hid (show cmdV m k r key = if cmdCode m k r = 0 then cVerd m k r key else 0 from rfl)
  have hok := cmdCode_ok (m := m) (k := k) (r := r)
  generalize cmdCode m k r = code at *
  have H1 := Lib.hid h1
  have Hok := Lib.hid hok
  clear h1 hok
  by_cases hv : code = 0
  · have HV' := Lib.hid (HV.out.trans (if_pos hv))
    obtain ⟨hk, hm⟩ := Hok.out hv
    clear HV Hok
    subst hv
    go_enter Tryd.func5, Tryd.ntmps5
    go_wp2_with fail
    refine Calls.mono (H1.out _) ?_
    rintro e w1 ⟨rfl, hb_w1⟩
    obtain ⟨hc_w1, hf_w1⟩ := bcell hb_w1
    have hs_w1 := hb_w1.size
    go_wp2_with fail
    refine Calls.mono (spec_l27Verdict hk) ?_
    rintro e w2 ⟨rfl, hb_w2⟩
    obtain ⟨hc_w2, hf_w2⟩ := bcell hb_w2
    have hs_w2 := hb_w2.size
    go_wp2
    go_ret2
    exact ⟨ret_jj HV'.out.symm rfl, by repeat (first | exact Below.refl _ _ | assumption | refine below_allocS ?_ _ | refine below_callS ?_ (by assumption) | (refine Below.alloc ?_ (by first | omega | (simp; done) | (simp; omega)) _) | (refine Below.setCell ?_ (by first | omega | (simp; done) | (simp; omega)) _) | refine Below.drew ?_ | refine below_drewN ?_ _ | (refine below_call ?_ (by assumption) (by first | omega | (simp; done) | (simp; omega))) | (refine Below.trans ?_ (by assumption)))⟩
  · have Hv := Lib.hid hv
    have hv' : (code != 0) = true := by simpa using hv
    clear hv
    go_enter Tryd.func5, Tryd.ntmps5
    go_wp2_with fail
    refine Calls.mono (H1.out _) ?_
    rintro e w1 ⟨rfl, hb_w1⟩
    obtain ⟨hc_w1, hf_w1⟩ := bcell hb_w1
    have hs_w1 := hb_w1.size
    go_wp2
    go_ret2
    exact ⟨ret_jj (by rw [HV.out, if_neg Hv.out]) rfl, by repeat (first | exact Below.refl _ _ | assumption | refine below_allocS ?_ _ | refine below_callS ?_ (by assumption) | (refine Below.alloc ?_ (by first | omega | (simp; done) | (simp; omega)) _) | (refine Below.setCell ?_ (by first | omega | (simp; done) | (simp; omega)) _) | refine Below.drew ?_ | refine below_drewN ?_ _ | (refine below_call ?_ (by assumption) (by first | omega | (simp; done) | (simp; omega))) | (refine Below.trans ?_ (by assumption)))⟩
set_option maxHeartbeats 1000000 in
theorem spec_NextMode {m k r : Int} {key : Bool} {w : World} : Calls Tryd.prog 8 #[.int .i64 m, .agg #[.int .i64 k, .int .i64 r, .bool key]] w fun e w' => e = .returned (.tuple #[.int .i64 (cmdN m k r key), .int .i64 (cmdCode m k r)]) ∧ Below w.heap.size w w' := by
  have h1 := fun (wx : World) => spec_l27Code (m := m) (k := k) (r := r) (key := key) (w := wx)
  have HV := Lib.hid (show cmdN m k r key = if cmdCode m k r = 0 then cNext m k r key else 0 from rfl)
  have hok := cmdCode_ok (m := m) (k := k) (r := r)
  generalize cmdCode m k r = code at *
  have H1 := Lib.hid h1
  have Hok := Lib.hid hok
  clear h1 hok
  by_cases hv : code = 0
  · have HV' := Lib.hid (HV.out.trans (if_pos hv))
    obtain ⟨hk, hm⟩ := Hok.out hv
    clear HV Hok
    subst hv
    go_enter Tryd.func8, Tryd.ntmps8
    go_wp2_with fail
    refine Calls.mono (H1.out _) ?_
    rintro e w1 ⟨rfl, hb_w1⟩
    obtain ⟨hc_w1, hf_w1⟩ := bcell hb_w1
    have hs_w1 := hb_w1.size
    go_wp2_with fail
    refine Calls.mono (spec_l27Next hk) ?_
    rintro e w2 ⟨rfl, hb_w2⟩
    obtain ⟨hc_w2, hf_w2⟩ := bcell hb_w2
    have hs_w2 := hb_w2.size
    go_wp2
    go_ret2
    exact ⟨ret_jj HV'.out.symm rfl, by repeat (first | exact Below.refl _ _ | assumption | refine below_allocS ?_ _ | refine below_callS ?_ (by assumption) | (refine Below.alloc ?_ (by first | omega | (simp; done) | (simp; omega)) _) | (refine Below.setCell ?_ (by first | omega | (simp; done) | (simp; omega)) _) | refine Below.drew ?_ | refine below_drewN ?_ _ | (refine below_call ?_ (by assumption) (by first | omega | (simp; done) | (simp; omega))) | (refine Below.trans ?_ (by assumption)))⟩
  · have Hv := Lib.hid hv
    have hv' : (code != 0) = true := by simpa using hv
    clear hv
    go_enter Tryd.func8, Tryd.ntmps8
    go_wp2_with fail
    refine Calls.mono (H1.out _) ?_
    rintro e w1 ⟨rfl, hb_w1⟩
    obtain ⟨hc_w1, hf_w1⟩ := bcell hb_w1
    have hs_w1 := hb_w1.size
    go_wp2
    go_ret2
    exact ⟨ret_jj (by rw [HV.out, if_neg Hv.out]) rfl, by repeat (first | exact Below.refl _ _ | assumption | refine below_allocS ?_ _ | refine below_callS ?_ (by assumption) | (refine Below.alloc ?_ (by first | omega | (simp; done) | (simp; omega)) _) | (refine Below.setCell ?_ (by first | omega | (simp; done) | (simp; omega)) _) | refine Below.drew ?_ | refine below_drewN ?_ _ | (refine below_call ?_ (by assumption) (by first | omega | (simp; done) | (simp; omega))) | (refine Below.trans ?_ (by assumption)))⟩
set_option maxHeartbeats 1000000 in
theorem impl_CommandVerdict {m k r : Int} {key : Bool} {w : World} (hT : Tab w 0 (cmdRows.flatMap CRow.enc)) (h1 : I64 k) (h2 : I64 r) : Calls Tryd.prog 7 #[.int .i64 m, .agg #[.int .i64 k, .int .i64 r, .bool key]] w fun e w' => e = .returned (.tuple #[.int .i64 (cmdV m k r key), .int .i64 (cmdCode m k r)]) ∧ Below w.heap.size w w' := by
  have HT := Lib.hid hT
  have HV := Lib.hid (show cmdV m k r key = if cmdCode m k r = 0 then cVerd m k r key else 0 from rfl)
  have hok := cmdCode_ok (m := m) (k := k) (r := r)
  have h3 := fun (wx : World) (a : Option Addr) (hI : F2b wx a 1 1 [⟨k, r, key⟩]) => impl_commandCode (m := m) hI
  simp only at h3
  generalize cmdCode m k r = code at *
  have H3 := Lib.hid h3
  have Hok := Lib.hid hok
  clear h3 hok hT
  by_cases hv : code = 0
  · have HV' := Lib.hid (HV.out.trans (if_pos hv))
    obtain ⟨hk, hm⟩ := Hok.out hv
    clear HV Hok
    subst hv
    go_enter Tryd.func7, Tryd.ntmps7
    go_wp2_with fail
    refine Calls.mono (H3.out _ _ (F2b.one (x := ⟨k, r, key⟩) ⟨h1, h2⟩ (by simp))) ?_
    rintro e w1 ⟨rfl, hb_w1⟩
    obtain ⟨hc_w1, hf_w1⟩ := bcell hb_w1
    have hs_w1 := hb_w1.size
    simp at hs_w1
    go_wp2_with fail
    refine Calls.mono (impl_verdict_cmd (HT.out.keep (by repeat (first | exact Below.refl _ _ | assumption | refine below_allocS ?_ _ | refine below_callS ?_ (by assumption) | (refine Below.alloc ?_ (by first | omega | (simp; done) | (simp; omega)) _) | (refine Below.setCell ?_ (by first | omega | (simp; done) | (simp; omega)) _) | refine Below.drew ?_ | refine below_drewN ?_ _ | (refine below_call ?_ (by assumption) (by first | omega | (simp; done) | (simp; omega))) | (refine Below.trans ?_ (by assumption))))) hk hm) ?_
    rintro e w2 ⟨rfl, hb_w2⟩
    obtain ⟨hc_w2, hf_w2⟩ := bcell hb_w2
    have hs_w2 := hb_w2.size
    go_wp2
    go_ret2
    exact ⟨ret_jj HV'.out.symm rfl, by repeat (first | exact Below.refl _ _ | assumption | refine below_allocS ?_ _ | refine below_callS ?_ (by assumption) | (refine Below.alloc ?_ (by first | omega | (simp; done) | (simp; omega)) _) | (refine Below.setCell ?_ (by first | omega | (simp; done) | (simp; omega)) _) | refine Below.drew ?_ | refine below_drewN ?_ _ | (refine below_call ?_ (by assumption) (by first | omega | (simp; done) | (simp; omega))) | (refine Below.trans ?_ (by assumption)))⟩
  · have Hv := Lib.hid hv
    have hv' : (code != 0) = true := by simpa using hv
    clear hv
    go_enter Tryd.func7, Tryd.ntmps7
    go_wp2_with fail
    refine Calls.mono (H3.out _ _ (F2b.one (x := ⟨k, r, key⟩) ⟨h1, h2⟩ (by simp))) ?_
    rintro e w1 ⟨rfl, hb_w1⟩
    obtain ⟨hc_w1, hf_w1⟩ := bcell hb_w1
    have hs_w1 := hb_w1.size
    simp at hs_w1
    go_wp2
    go_ret2
    exact ⟨ret_jj (by rw [HV.out, if_neg Hv.out]) rfl, by repeat (first | exact Below.refl _ _ | assumption | refine below_allocS ?_ _ | refine below_callS ?_ (by assumption) | (refine Below.alloc ?_ (by first | omega | (simp; done) | (simp; omega)) _) | (refine Below.setCell ?_ (by first | omega | (simp; done) | (simp; omega)) _) | refine Below.drew ?_ | refine below_drewN ?_ _ | (refine below_call ?_ (by assumption) (by first | omega | (simp; done) | (simp; omega))) | (refine Below.trans ?_ (by assumption)))⟩
set_option maxHeartbeats 1000000 in
theorem impl_NextMode {m k r : Int} {key : Bool} {w : World} (hT : Tab w 0 (cmdRows.flatMap CRow.enc)) (h1 : I64 k) (h2 : I64 r) : Calls Tryd.prog 9 #[.int .i64 m, .agg #[.int .i64 k, .int .i64 r, .bool key]] w fun e w' => e = .returned (.tuple #[.int .i64 (cmdN m k r key), .int .i64 (cmdCode m k r)]) ∧ Below w.heap.size w w' := by
  have HT := Lib.hid hT
  have HV := Lib.hid (show cmdN m k r key = if cmdCode m k r = 0 then cNext m k r key else 0 from rfl)
  have hok := cmdCode_ok (m := m) (k := k) (r := r)
  have h3 := fun (wx : World) (a : Option Addr) (hI : F2b wx a 1 1 [⟨k, r, key⟩]) => impl_commandCode (m := m) hI
  simp only at h3
  generalize cmdCode m k r = code at *
  have H3 := Lib.hid h3
  have Hok := Lib.hid hok
  clear h3 hok hT
  by_cases hv : code = 0
  · have HV' := Lib.hid (HV.out.trans (if_pos hv))
    obtain ⟨hk, hm⟩ := Hok.out hv
    clear HV Hok
    subst hv
    go_enter Tryd.func9, Tryd.ntmps9
    go_wp2_with fail
    refine Calls.mono (H3.out _ _ (F2b.one (x := ⟨k, r, key⟩) ⟨h1, h2⟩ (by simp))) ?_
    rintro e w1 ⟨rfl, hb_w1⟩
    obtain ⟨hc_w1, hf_w1⟩ := bcell hb_w1
    have hs_w1 := hb_w1.size
    simp at hs_w1
    go_wp2_with fail
    refine Calls.mono (impl_next_cmd (HT.out.keep (by repeat (first | exact Below.refl _ _ | assumption | refine below_allocS ?_ _ | refine below_callS ?_ (by assumption) | (refine Below.alloc ?_ (by first | omega | (simp; done) | (simp; omega)) _) | (refine Below.setCell ?_ (by first | omega | (simp; done) | (simp; omega)) _) | refine Below.drew ?_ | refine below_drewN ?_ _ | (refine below_call ?_ (by assumption) (by first | omega | (simp; done) | (simp; omega))) | (refine Below.trans ?_ (by assumption))))) hk hm) ?_
    rintro e w2 ⟨rfl, hb_w2⟩
    obtain ⟨hc_w2, hf_w2⟩ := bcell hb_w2
    have hs_w2 := hb_w2.size
    go_wp2
    go_ret2
    exact ⟨ret_jj HV'.out.symm rfl, by repeat (first | exact Below.refl _ _ | assumption | refine below_allocS ?_ _ | refine below_callS ?_ (by assumption) | (refine Below.alloc ?_ (by first | omega | (simp; done) | (simp; omega)) _) | (refine Below.setCell ?_ (by first | omega | (simp; done) | (simp; omega)) _) | refine Below.drew ?_ | refine below_drewN ?_ _ | (refine below_call ?_ (by assumption) (by first | omega | (simp; done) | (simp; omega))) | (refine Below.trans ?_ (by assumption)))⟩
  · have Hv := Lib.hid hv
    have hv' : (code != 0) = true := by simpa using hv
    clear hv
    go_enter Tryd.func9, Tryd.ntmps9
    go_wp2_with fail
    refine Calls.mono (H3.out _ _ (F2b.one (x := ⟨k, r, key⟩) ⟨h1, h2⟩ (by simp))) ?_
    rintro e w1 ⟨rfl, hb_w1⟩
    obtain ⟨hc_w1, hf_w1⟩ := bcell hb_w1
    have hs_w1 := hb_w1.size
    simp at hs_w1
    go_wp2
    go_ret2
    exact ⟨ret_jj (by rw [HV.out, if_neg Hv.out]) rfl, by repeat (first | exact Below.refl _ _ | assumption | refine below_allocS ?_ _ | refine below_callS ?_ (by assumption) | (refine Below.alloc ?_ (by first | omega | (simp; done) | (simp; omega)) _) | (refine Below.setCell ?_ (by first | omega | (simp; done) | (simp; omega)) _) | refine Below.drew ?_ | refine below_drewN ?_ _ | (refine below_call ?_ (by assumption) (by first | omega | (simp; done) | (simp; omega))) | (refine Below.trans ?_ (by assumption)))⟩
theorem law_CommandVerdict {m k r : Int} {key : Bool} {w : World} (hT : Tab w 0 (cmdRows.flatMap CRow.enc)) (_ : I64 m) (h1 : I64 k) (h2 : I64 r) : Calls Tryd.prog 3 #[.int .i64 m, .agg #[.int .i64 k, .int .i64 r, .bool key]] w fun e w' => e = .returned (.bool true) ∧ Below w.heap.size w w' := by
  have h3 := fun (wx : World) => spec_CommandVerdict (m := m) (k := k) (r := r) (key := key) (w := wx)
  have h4 := fun (wx : World) (hb : Below w.heap.size w wx) => impl_CommandVerdict (m := m) (k := k) (r := r) (key := key) (hT.keep hb) h1 h2
  generalize cmdV m k r key = v at *
  generalize cmdCode m k r = c at *
  have H3 := Lib.hid h3
  have H4 := Lib.hid h4
  have hv : (v != v) = false := by simp
  have hc : (c != c) = false := by simp
  clear h3 h4 hT
  go_enter Tryd.func3, Tryd.ntmps3
  go_wp2_with fail
  refine Calls.mono (laws_toCommand) ?_
  rintro e w1 ⟨rfl, hb_w1⟩
  obtain ⟨hc_w1, hf_w1⟩ := bcell hb_w1
  have hs_w1 := hb_w1.size
  have hz1 : w.heap.size < w1.heap.size := by simp at hs_w1; omega
  go_wp2_with fail
  refine Calls.mono (H3.out _) ?_
  rintro e w2 ⟨rfl, hb_w2⟩
  obtain ⟨hc_w2, hf_w2⟩ := bcell hb_w2
  have hs_w2 := hb_w2.size
  have hz2 : w.heap.size < w2.heap.size := by omega
  go_wp2_with fail
  refine Calls.mono (laws_toCommand) ?_
  rintro e w3 ⟨rfl, hb_w3⟩
  obtain ⟨hc_w3, hf_w3⟩ := bcell hb_w3
  have hs_w3 := hb_w3.size
  simp at hs_w1
  go_wp2_with fail
  refine Calls.mono (H4.out _ (by repeat (first | exact Below.refl _ _ | assumption | refine below_allocS ?_ _ | refine below_callS ?_ (by assumption) | (refine Below.alloc ?_ (by first | omega | (simp; done) | (simp; omega)) _) | (refine Below.setCell ?_ (by first | omega | (simp; done) | (simp; omega)) _) | refine Below.drew ?_ | refine below_drewN ?_ _ | (refine below_call ?_ (by assumption) (by first | omega | (simp; done) | (simp; omega))) | (refine Below.trans ?_ (by assumption))))) ?_
  rintro e w4 ⟨rfl, hb_w4⟩
  obtain ⟨hc_w4, hf_w4⟩ := bcell hb_w4
  have hs_w4 := hb_w4.size
  go_wp2
  go_ret
  exact ⟨rfl, by repeat (first | exact Below.refl _ _ | assumption | refine below_allocS ?_ _ | refine below_callS ?_ (by assumption) | (refine Below.alloc ?_ (by first | omega | (simp; done) | (simp; omega)) _) | (refine Below.setCell ?_ (by first | omega | (simp; done) | (simp; omega)) _) | refine Below.drew ?_ | refine below_drewN ?_ _ | (refine below_call ?_ (by assumption) (by first | omega | (simp; done) | (simp; omega))) | (refine Below.trans ?_ (by assumption)))⟩
theorem law_NextMode {m k r : Int} {key : Bool} {w : World} (hT : Tab w 0 (cmdRows.flatMap CRow.enc)) (_ : I64 m) (h1 : I64 k) (h2 : I64 r) : Calls Tryd.prog 4 #[.int .i64 m, .agg #[.int .i64 k, .int .i64 r, .bool key]] w fun e w' => e = .returned (.bool true) ∧ Below w.heap.size w w' := by
  have h3 := fun (wx : World) => spec_NextMode (m := m) (k := k) (r := r) (key := key) (w := wx)
  have h4 := fun (wx : World) (hb : Below w.heap.size w wx) => impl_NextMode (m := m) (k := k) (r := r) (key := key) (hT.keep hb) h1 h2
  generalize cmdN m k r key = v at *
  generalize cmdCode m k r = c at *
  have H3 := Lib.hid h3
  have H4 := Lib.hid h4
  have hv : (v != v) = false := by simp
  have hc : (c != c) = false := by simp
  clear h3 h4 hT
  go_enter Tryd.func4, Tryd.ntmps4
  go_wp2_with fail
  refine Calls.mono (laws_toCommand) ?_
  rintro e w1 ⟨rfl, hb_w1⟩
  obtain ⟨hc_w1, hf_w1⟩ := bcell hb_w1
  have hs_w1 := hb_w1.size
  have hz1 : w.heap.size < w1.heap.size := by simp at hs_w1; omega
  go_wp2_with fail
  refine Calls.mono (H3.out _) ?_
  rintro e w2 ⟨rfl, hb_w2⟩
  obtain ⟨hc_w2, hf_w2⟩ := bcell hb_w2
  have hs_w2 := hb_w2.size
  have hz2 : w.heap.size < w2.heap.size := by omega
  go_wp2_with fail
  refine Calls.mono (laws_toCommand) ?_
  rintro e w3 ⟨rfl, hb_w3⟩
  obtain ⟨hc_w3, hf_w3⟩ := bcell hb_w3
  have hs_w3 := hb_w3.size
  simp at hs_w1
  go_wp2_with fail
  refine Calls.mono (H4.out _ (by repeat (first | exact Below.refl _ _ | assumption | refine below_allocS ?_ _ | refine below_callS ?_ (by assumption) | (refine Below.alloc ?_ (by first | omega | (simp; done) | (simp; omega)) _) | (refine Below.setCell ?_ (by first | omega | (simp; done) | (simp; omega)) _) | refine Below.drew ?_ | refine below_drewN ?_ _ | (refine below_call ?_ (by assumption) (by first | omega | (simp; done) | (simp; omega))) | (refine Below.trans ?_ (by assumption))))) ?_
  rintro e w4 ⟨rfl, hb_w4⟩
  obtain ⟨hc_w4, hf_w4⟩ := bcell hb_w4
  have hs_w4 := hb_w4.size
  go_wp2
  go_ret
  exact ⟨rfl, by repeat (first | exact Below.refl _ _ | assumption | refine below_allocS ?_ _ | refine below_callS ?_ (by assumption) | (refine Below.alloc ?_ (by first | omega | (simp; done) | (simp; omega)) _) | (refine Below.setCell ?_ (by first | omega | (simp; done) | (simp; omega)) _) | refine Below.drew ?_ | refine below_drewN ?_ _ | (refine below_call ?_ (by assumption) (by first | omega | (simp; done) | (simp; omega))) | (refine Below.trans ?_ (by assumption)))⟩
end Go.Proofs.YtijdcacplibmhaaDoor
