/- The text of a model: the program, walked.; The text of a model: the reference, walked.; The text of tests: the reference, walked.; The text of a model: the reference, walked to its end. -/
import Derived.Test.YtfnamjkmkoldeaaGreatDoorQv
import Derived.Test.YtfnamjkmkoldeaaGreatDoorQj
import Derived.Test.YtfnamjkmkoldeaaGreatDoorRs
import Derived.Test.YtfnamjkmkoldeaaGreatDoorL20j
namespace Go.Proofs.YtfnamjkmkoldeaaGreatDoor
open Go.RowKit
set_option linter.unusedVariables false
set_option linter.unusedSimpArgs false
theorem hasB_num {sz : List Int} {v x : Int} (h : hasB sz v x = true) (hsz : ∀ z ∈ sz, z ≤ 32) (hl : sz.length ≤ 16) : 0 ≤ v ∧ v < 33 ∧ 0 ≤ x ∧ x < 33 := by
  simp only [hasB, inB, Bool.and_eq_true, decide_eq_true_eq] at h
  have hz : sz.getD v.toNat 0 ≤ 32 := by
    rw [List.getD_eq_getElem?_getD]
    cases hg : sz[v.toNat]? with
    | none => simp
    | some z => simpa using hsz z (List.mem_of_getElem? hg)
  omega
theorem ruS_of {sz : List Int} {r : RuD} (h : ruleB sz r = true) (hsz : ∀ z ∈ sz, z ≤ 32) (hl : sz.length ≤ 16) : RuS r := by
  simp only [ruleB, Bool.and_eq_true, testsB, nameB, inB, decide_eq_true_eq, List.all_eq_true] at h
  obtain ⟨he, ⟨⟨_, hn⟩, _⟩, ⟨hg1, hg⟩, he4⟩ := h
  refine ⟨by omega, by omega, by omega, fun t ht => hasB_num (hg t ht) hsz hl, fun a ha => ?_⟩
  obtain ⟨k, hk⟩ := List.getElem?_of_mem ha
  rw [effB, upB, List.all_eq_true] at he
  have h1 := he k (List.mem_range.2 (List.getElem?_eq_some_iff.1 hk).1)
  rw [effAt, Bool.and_eq_true, getD2_of hk] at h1
  exact hasB_num h1.1 hsz hl
/-- what a valid model gives its text -/
theorem model_text {sz st : List Int} {l : List (RM × RuD)} (h : modelB sz st l = true) : (∀ z ∈ sz, 0 ≤ z ∧ z < 33) ∧ (∀ z ∈ st, 0 ≤ z ∧ z < 33) ∧ (∀ r ∈ l.map (·.2), RuS r) ∧ sz.length ≤ 16 ∧ st.length ≤ 16 ∧ l.length ≤ 200 := by
  obtain ⟨g1, g2, g3, g4, g5, g6⟩ := model_gives h
  have h32 : ∀ z ∈ sz, 1 ≤ z ∧ z ≤ 32 := fun z hz => by
    rw [allIn, List.all_eq_true] at g6
    have := g6 z hz
    simpa [inB] using this
  refine ⟨fun z hz => by have := h32 z hz; omega, fun z hz => ?_, fun r hr => ?_, g4, by rw [g2.1]; exact g4, g5⟩
  · obtain ⟨k, hk⟩ := List.getElem?_of_mem hz
    have hkl := (List.getElem?_eq_some_iff.1 hk).1
    have hs := List.getElem?_eq_getElem (show k < sz.length by rw [← g2.1]; exact hkl)
    have h1 := g2.2 k z _ hk hs
    have h2 := h32 _ (List.getElem_mem (show k < sz.length by rw [← g2.1]; exact hkl))
    omega
  · obtain ⟨x, hx, rfl⟩ := List.mem_map.1 hr
    simp only [modelB, Bool.and_eq_true, decide_eq_true_eq] at h
    obtain ⟨_, _, _, _, h5⟩ := h
    rw [rulesB, List.all_eq_true] at h5
    exact ruS_of (h5 x hx) (fun z hz => (h32 z hz).2) g4
/-- the text of a model, empty if it is none -/
def mtT (sz st : List Int) (l : List (RM × RuD)) : List UInt8 := if modelB sz st l = true then mdT sz st (l.map (·.2)) else []
set_option maxRecDepth 100000 in
set_option maxHeartbeats 4000000 in
theorem impl_modelText {sa ta ra : Option Addr} {sn sc tn tc rn rc : Nat} {sz st : List Int} {lr : List (RM × RuD)} {w : World} (hS : Ints w sa sn sc sz) (hT : Ints w ta tn tc st) (hR : FR w w ra rn rc lr) (hm : modelB sz st lr = true) :
    Calls Tryz.prog 87 #[.agg #[.slice sa sn sc, .slice ta tn tc, .slice ra rn rc]] w fun e w' => e = .returned (.string (mkS (mdT sz st (lr.map (·.2))))) ∧ Below w.heap.size w w' := by
  obtain ⟨g1, g2, g3, g4, g5, g6⟩ := model_text hm
  have hsn : sn ≤ 16 := by rw [← hS.len]; exact g4
  have htn : tn ≤ 16 := by rw [← hT.len]; exact g5
  have hrn : rn ≤ 200 := by rw [← hR.len]; exact g6
  have KS := Lib.hid (fun (wx : World) (hb : Below w.heap.size w wx) => impl_join (hS.keep hb) (by omega) g1)
  have KT := Lib.hid (fun (wx : World) (hb : Below w.heap.size w wx) => impl_join (hT.keep hb) (by omega) g2)
  have hs1 : (mkS (nT sz)).size ≤ 48 := by have := nT_len (l := sz) (fun x hx => (g1 x hx).2); rw [mkS_size]; omega
  have hs2 : (mkS (nT st)).size ≤ 48 := by have := nT_len (l := st) (fun x hx => (g2 x hx).2); rw [mkS_size]; omega
  have HR := Lib.hid hR
  have HRU := Lib.hid g3
  have hrl : (lr.map (·.2)).length = rn := by rw [List.length_map]; exact hR.len
  have HRL := Lib.hid hrl
  have HEV := Lib.hid (show mkS (nT sz) ++ mkS [32] ++ mkS (nT st) ++ mkS [10] = mkS (nT sz ++ [32] ++ nT st ++ [10]) by rw [mkS_app, mkS_app, mkS_app])
  have HMD := Lib.hid (show mdT sz st (lr.map (·.2)) = nT sz ++ [32] ++ nT st ++ [10] ++ rsT (lr.map (·.2)) from rfl)
  obtain ⟨wA, hwA⟩ : ∃ wA : World, wA = w.alloc (.cells #[.slice sa sn sc, .slice ta tn tc, .slice ra rn rc] 44) := ⟨_, rfl⟩
  have hsA : wA.heap.size = w.heap.size + 1 := by rw [hwA]; simp
  have hbA : Below w.heap.size w wA := by rw [hwA]; repeat (first | exact Below.refl _ _ | assumption | refine below_allocS ?_ _ | refine below_callS ?_ (by assumption) | (refine Below.alloc ?_ (by first | omega | (simp; done) | (simp; omega)) _) | (refine Below.setCell ?_ (by first | omega | (simp; done) | (simp; omega)) _) | refine Below.drew ?_ | refine below_drewN ?_ _ | (refine below_call ?_ (by assumption) (by first | omega | (simp; done) | (simp; omega))) | (refine Below.trans ?_ (by assumption)))
  have X := Lib.hid (show Blk wA w.heap.size #[.slice sa sn sc, .slice ta tn tc, .slice ra rn rc] 44 by rw [hwA]; exact Blk.made _ _ _)
  have x0 := X.out.cell 0
  have x1 := X.out.cell 1
  have xl := X.out.lt
  simp at x0 x1
  generalize nT sz ++ [32] ++ nT st ++ [10] = hd at *
  generalize mkS (nT sz) = t1 at *
  generalize mkS (nT st) = t2 at *
  have f1 : ¬ 9223372036854775807 < t1.size + 1 := by omega
  have f2 : ¬ 9223372036854775807 < t1.size + 1 + t2.size := by omega
  have f3 : ¬ 9223372036854775807 < t1.size + 1 + t2.size + 1 := by omega
  have hhd : (mkS hd).size ≤ 98 := by
    have h := congrArg ByteArray.size HEV.out
    rw [← h]
    have e1 : (t1 ++ mkS [32] ++ t2 ++ mkS [10]).size = t1.size + 1 + t2.size + 1 := by simp [mkS, ByteArray.size_append]; rfl
    rw [e1]; omega
  clear hS hT hR hm g1 g2 g3 g4 g5 g6 hrl
  go_enter Tryz.func87, Tryz.ntmps87
  go_wp2_with fail
  rw [← hwA]
  clear hwA
  go_wp2_with fail
  refine wp_region_noPanic ?_
  refine wp_region_M (L := 9) (S := fun wx => Below wA.heap.size wA wx) (by kernel_rfl) ?_ (fun hHeld => ?_)
  · exact (Below.refl _ _).drew
  refine wpAnyM_take (i := 0) (v := ?_) (by simp only [List.getElem?_toArray, List.getElem?_cons_succ, List.getElem?_cons_zero] <;> rfl) (by kernel_rfl) (by kernel_rfl) (by kernel_rfl) (by kernel_rfl) (by kernel_rfl) (fun _ _ _ h => h) (Or.inl ⟨by rfl, ?_⟩) (by assumption) ?_
  rotate_left
  · (intro wv hSw; (try dsimp only at hSw); obtain ⟨hcq, _⟩ := bcell hSw; have hsq := Below.size hSw; go_simp; try with_reducible rfl)
  try simp only [Act.put, List.setIfInBounds_toArray, List.set_cons_zero, List.set_cons_succ]
  refine wpAnyM_take (i := 1) (v := ?_) (by simp only [List.getElem?_toArray, List.getElem?_cons_succ, List.getElem?_cons_zero] <;> rfl) (by kernel_rfl) (by kernel_rfl) (by kernel_rfl) (by kernel_rfl) (by kernel_rfl) (fun _ _ _ h => h) (Or.inl ⟨by rfl, ?_⟩) (by assumption) ?_
  rotate_left
  · (intro wv hSw; (try dsimp only at hSw); obtain ⟨hcq, _⟩ := bcell hSw; have hsq := Below.size hSw; have p0 := (hcq _ _ xl).trans x0; have pl := Nat.lt_of_lt_of_le xl hsq; go_simp; try with_reducible rfl)
  try simp only [Act.put, List.setIfInBounds_toArray, List.set_cons_zero, List.set_cons_succ]
  refine wpAnyM_take (i := 4) (v := ?_) (by simp only [List.getElem?_toArray, List.getElem?_cons_succ, List.getElem?_cons_zero] <;> rfl) (by kernel_rfl) (by kernel_rfl) (by kernel_rfl) (by kernel_rfl) (by kernel_rfl) (fun _ _ _ h => h) (Or.inl ⟨by rfl, ?_⟩) (by assumption) ?_
  rotate_left
  · (intro wv hSw; (try dsimp only at hSw); obtain ⟨hcq, _⟩ := bcell hSw; have hsq := Below.size hSw; go_simp; try with_reducible rfl)
  try simp only [Act.put, List.setIfInBounds_toArray, List.set_cons_zero, List.set_cons_succ]
  refine wpAnyM_take (i := 5) (v := ?_) (by simp only [List.getElem?_toArray, List.getElem?_cons_succ, List.getElem?_cons_zero] <;> rfl) (by kernel_rfl) (by kernel_rfl) (by kernel_rfl) (by kernel_rfl) (by kernel_rfl) (fun _ _ _ h => h) (Or.inl ⟨by rfl, ?_⟩) (by assumption) ?_
  rotate_left
  · (intro wv hSw; (try dsimp only at hSw); obtain ⟨hcq, _⟩ := bcell hSw; have hsq := Below.size hSw; have p0 := (hcq _ _ xl).trans x1; have pl := Nat.lt_of_lt_of_le xl hsq; go_simp; try with_reducible rfl)
  try simp only [Act.put, List.setIfInBounds_toArray, List.set_cons_zero, List.set_cons_succ]
  refine wpAnyM_ready (rs := [2]) (by kernel_rfl) (by simp) ?_
  refine AllReadyM.cons rfl (fun K hK => ?_) AllReadyM.nil
  go_simp
  refine Calls.mono (KS.out _ (below_callS hbA hHeld)) ?_
  rintro e w2 ⟨rfl, hb2⟩
  have hb3 := below_callS hHeld hb2
  go_wp2_with fail
  refine hK.out _ _ hb3 (fun hHeld => ?_)
  clear hK K
  try simp only [Act.put, List.setIfInBounds_toArray, List.set_cons_zero, List.set_cons_succ]
  refine wpAnyM_take (i := 3) (v := ?_) (by simp only [List.getElem?_toArray, List.getElem?_cons_succ, List.getElem?_cons_zero] <;> rfl) (by kernel_rfl) (by kernel_rfl) (by kernel_rfl) (by kernel_rfl) (by kernel_rfl) (fun _ _ _ h => h) (Or.inl ⟨by rfl, ?_⟩) (by assumption) ?_
  rotate_left
  · (intro wv hSw; (try dsimp only at hSw); obtain ⟨hcq, _⟩ := bcell hSw; have hsq := Below.size hSw; go_simp; try with_reducible rfl)
  try simp only [Act.put, List.setIfInBounds_toArray, List.set_cons_zero, List.set_cons_succ]
  refine wpAnyM_ready (rs := [6]) (by kernel_rfl) (by simp) ?_
  refine AllReadyM.cons rfl (fun K hK => ?_) AllReadyM.nil
  go_simp
  refine Calls.mono (KT.out _ (below_callS hbA hHeld)) ?_
  rintro e w3 ⟨rfl, hb4⟩
  have hb5 := below_callS hHeld hb4
  go_wp2_with fail
  refine hK.out _ _ hb5 (fun hHeld => ?_)
  clear hK K
  try simp only [Act.put, List.setIfInBounds_toArray, List.set_cons_zero, List.set_cons_succ]
  refine wpAnyM_take (i := 7) (v := ?_) (by simp only [List.getElem?_toArray, List.getElem?_cons_succ, List.getElem?_cons_zero] <;> rfl) (by kernel_rfl) (by kernel_rfl) (by kernel_rfl) (by kernel_rfl) (by kernel_rfl) (fun _ _ _ h => h) (Or.inl ⟨by rfl, ?_⟩) (by assumption) ?_
  rotate_left
  · (intro wv hSw; (try dsimp only at hSw); obtain ⟨hcq, _⟩ := bcell hSw; have hsq := Below.size hSw; go_simp; try with_reducible rfl)
  try simp only [Act.put, List.setIfInBounds_toArray, List.set_cons_zero, List.set_cons_succ]
  refine wpAnyM_take (i := 8) (v := ?_) (by simp only [List.getElem?_toArray, List.getElem?_cons_succ, List.getElem?_cons_zero] <;> rfl) (by kernel_rfl) (by kernel_rfl) (by kernel_rfl) (by kernel_rfl) (by kernel_rfl) (fun _ _ _ h => h) (Or.inl ⟨by rfl, ?_⟩) (by assumption) ?_
  rotate_left
  · (intro wv hSw; (try dsimp only at hSw); obtain ⟨hcq, _⟩ := bcell hSw; have hsq := Below.size hSw; go_simp; try with_reducible rfl)
  try simp only [Act.put, List.setIfInBounds_toArray, List.set_cons_zero, List.set_cons_succ]
  refine wpAnyM_ready (rs := [9]) (by kernel_rfl) (by simp) ?_
  refine AllReadyM.last rfl (fun K hK => ?_)
  go_simp
  refine hK.out _ _ ?_
  clear hK K
  try simp only [Act.put, List.setIfInBounds_toArray, List.set_cons_zero, List.set_cons_succ]
  refine wpAnyM_done (by kernel_rfl) ?_ _
  refine NoPanic.normal ?_
  have hq : t1 ++ ⟨#[32]⟩ ++ t2 ++ ⟨#[10]⟩ = mkS hd := HEV.out
  rw [hq]
  have X3 := Lib.hid (X.out.keep hb5)
  have HB3 := Lib.hid (below_callS hbA hb5)
  have hs3 := hb5.size
  clear x0 x1 xl hHeld hb2 hb3 hb4 hb5 hq KS KT X f1 f2 f3 hbA
  have x2 := X3.out.cell 2
  have xl := X3.out.lt
  simp at x2
  go_wp2_with fail
  clear x2 xl
  go_loopw [3, 18] (fun s3 s18 wr => ∃ (j : Nat) (t : ByteArray), s3 = .string t ∧ s18 = .int .i64 j ∧ j ≤ rn ∧ t.size ≤ 98 + 2001 * j ∧ Hid (Below w.heap.size w wr) ∧ Hid (t = mkS (hd ++ rsT ((lr.map (·.2)).take j)))) (fun _ s18 _ => rn - (intOf s18).toNat)
  case atStart => exact ⟨0, mkS hd, rfl, rfl, by omega, by omega, HB3, Lib.hid (by simp [rsT])⟩
  case round =>
    clear HB3
    obtain ⟨j, t, rfl, rfl, hj, htz, HB, HT⟩ := hrel
    by_cases hlt : j < rn
    · have hlt' : (j : Int) < (rn : Int) := by omega
      have hj0 : (0 : Int) ≤ (j : Int) := by omega
      obtain ⟨br, or', R2, r2, rfl, hbr2, hxr, hru2, d0, d1, d2⟩ := FR.get (w0 := w) (Flats.keep HR.out HB.out) hlt
      have hrq : (lr.map (·.2))[j]? = some r2 := by rw [List.getElem?_map, hxr]; rfl
      have hrs := HRU.out r2 (List.mem_of_getElem? hrq)
      obtain ⟨hru_a, hru_b, hru_c, hru_d, hru_e, hru_f⟩ := hru2
      simp only at hru_a
      have hrl := hrs.len
      have KR := Lib.hid (fun (wx : World) (hx : Below wr.heap.size wr wx) => impl_ruleText (nm := r2.nm) (g := r2.g) (e := r2.e) ((hru_c.keep HB.out).keep hx) ((hru_e.keep HB.out).keep hx) hrs)
      have HT2 := Lib.hid (show t ++ (mkS (rT r2) ++ mkS [10]) = mkS (hd ++ rsT ((lr.map (·.2)).take (j + 1))) by
        rw [rsT_take hrq, HT.out, mkS_app, mkS_app, List.append_assoc])
      have htr : (mkS (rT r2)).size ≤ 2000 := hrl
      have hts : (t ++ (mkS (rT r2) ++ mkS [10])).size = t.size + ((mkS (rT r2)).size + 1) := by
        rw [ByteArray.size_append, ByteArray.size_append]; rfl
      rw [hru_a] at d0
      generalize mkS (rT r2) = tr at *
      have f1 : ¬ 9223372036854775807 < tr.size + 1 := by omega
      have f2 : ¬ 9223372036854775807 < t.size + (tr.size + 1) := by omega
      clear hxr hrq hrs hru_a hru_b hru_c hru_d hru_e hru_f hrl
      go_wp2_with fail
      refine Calls.mono (KR.out _ (by repeat (first | exact Below.refl _ _ | assumption | refine below_allocS ?_ _ | refine below_callS ?_ (by assumption) | (refine Below.alloc ?_ (by first | omega | (simp; done) | (simp; omega)) _) | (refine Below.setCell ?_ (by first | omega | (simp; done) | (simp; omega)) _) | refine Below.drew ?_ | refine below_drewN ?_ _ | (refine below_call ?_ (by assumption) (by first | omega | (simp; done) | (simp; omega))) | (refine Below.trans ?_ (by assumption))))) ?_
      rintro e w4 ⟨rfl, hb4⟩
      have HB4 := Lib.hid (below_call HB.out (show Below wr.heap.size wr w4 by repeat (first | exact Below.refl _ _ | assumption | refine below_allocS ?_ _ | refine below_callS ?_ (by assumption) | (refine Below.alloc ?_ (by first | omega | (simp; done) | (simp; omega)) _) | (refine Below.setCell ?_ (by first | omega | (simp; done) | (simp; omega)) _) | refine Below.drew ?_ | refine below_drewN ?_ _ | (refine below_call ?_ (by assumption) (by first | omega | (simp; done) | (simp; omega))) | (refine Below.trans ?_ (by assumption)))) HB.out.size)
      clear hb4 KR d0 d1 d2
      go_wp2
      go_roundw
      case rel => exact ⟨j + 1, t ++ (tr ++ mkS [10]), by rfl, by go_num, by omega, by rw [hts]; omega, HB4, HT2⟩
      case measure => simp [intOf]; omega
    · obtain rfl : rn = j := by omega
      have hlt' : ¬ (rn : Int) < (rn : Int) := by omega
      have hfin : t = mkS (mdT sz st (lr.map (·.2))) := by
        have h := HT.out
        rw [List.take_of_length_le (by rw [HRL.out]; exact Nat.le_refl _)] at h
        rw [h, HMD.out]
      have HF := Lib.hid hfin
      clear hfin
      go_wp2
      go_ret
      exact ⟨by rw [← HF.out]; rfl, HB.out⟩
set_option maxHeartbeats 1000000 in
theorem impl_ModelText {sa ta ra : Option Addr} {sn sc tn tc rn rc : Nat} {sz st : List Int} {lr : List (RM × RuD)} {w : World} (hS : Ints w sa sn sc sz) (hT : Ints w ta tn tc st) (hR : FR w w ra rn rc lr) (hsn : sn ≤ 1048576) (htn : tn ≤ 1048576) (hrn : rn ≤ 1048576) :
    Calls Tryz.prog 36 #[.agg #[.slice sa sn sc, .slice ta tn tc, .slice ra rn rc]] w fun e w' => e = .returned (.string (mkS (mtT sz st lr))) ∧ Below w.heap.size w w' := by
  have K1 := Lib.hid (fun (wx : World) (hb : Below w.heap.size w wx) => impl_IsModel (hS.keep hb) hsn (hT.keep hb) htn (FR.keep hR hb hb) hrn)
  have X := Lib.hid (Blk.made w #[.slice sa sn sc, .slice ta tn tc, .slice ra rn rc] 44)
  have hbA : Below w.heap.size w (w.alloc (.cells #[.slice sa sn sc, .slice ta tn tc, .slice ra rn rc] 44)) := by repeat (first | exact Below.refl _ _ | assumption | refine below_allocS ?_ _ | refine below_callS ?_ (by assumption) | (refine Below.alloc ?_ (by first | omega | (simp; done) | (simp; omega)) _) | (refine Below.setCell ?_ (by first | omega | (simp; done) | (simp; omega)) _) | refine Below.drew ?_ | refine below_drewN ?_ _ | (refine below_call ?_ (by assumption) (by first | omega | (simp; done) | (simp; omega))) | (refine Below.trans ?_ (by assumption)))
  cases hm : modelB sz st lr with
  | false =>
    have HT := Lib.hid (show mtT sz st lr = [] by rw [mtT, if_neg (by rw [hm]; decide)])
    rw [hm] at K1
    clear hS hT hR hm
    go_enter Tryz.func36, Tryz.ntmps36
    go_wp2_with fail
    refine Calls.mono (K1.out _ hbA) ?_
    rintro e w1 ⟨rfl, hb1⟩
    have hb2 := below_callS hbA hb1
    go_wp2
    go_ret
    exact ⟨by rw [HT.out]; rfl, hb2⟩
  | true =>
    have HT := Lib.hid (show mtT sz st lr = mdT sz st (lr.map (·.2)) by rw [mtT, if_pos hm])
    have K2 := Lib.hid (fun (wx : World) (hb : Below w.heap.size w wx) => impl_modelText (hS.keep hb) (hT.keep hb) (FR.keep hR hb hb) hm)
    rw [hm] at K1
    clear hS hT hR hm
    go_enter Tryz.func36, Tryz.ntmps36
    go_wp2_with fail
    refine Calls.mono (K1.out _ hbA) ?_
    rintro e w1 ⟨rfl, hb1⟩
    have hb2 := below_callS hbA hb1
    have X1 := X.out.keep hb1
    have x0 := X1.cell 0
    have x1 := X1.cell 1
    have x2 := X1.cell 2
    have xl := X1.lt
    simp at x0 x1 x2
    go_wp2_with fail
    refine Calls.mono (K2.out _ hb2) ?_
    rintro e w3 ⟨rfl, hb3⟩
    have hb4 := below_callS hb2 hb3
    go_wp2
    go_ret
    exact ⟨by rw [HT.out]; rfl, hb4⟩
end Go.Proofs.YtfnamjkmkoldeaaGreatDoor
namespace Go.Proofs.YtfnamjkmkoldeaaGreatDoor
open Go.RowKit
set_option linter.unusedVariables false
set_option linter.unusedSimpArgs false
def jnT (sep : UInt8) (ws : List (List UInt8)) (k : Nat) : List UInt8 := Lib.join (ws.take k) [sep]
theorem jn_zero (sep : UInt8) (ws : List (List UInt8)) : jnT sep ws 0 = [] := by rw [jnT, List.take_zero]; exact Lib.join_nil _
theorem jn_one {sep : UInt8} {ws : List (List UInt8)} {x : List UInt8} (h : ws[0]? = some x) : jnT sep ws 1 = x := by
  rw [jnT, show (1 : Nat) = 0 + 1 from rfl, take_at h, List.take_zero, List.nil_append]; exact Lib.join_one _ _
theorem jn_succ {sep : UInt8} {ws : List (List UInt8)} {k : Nat} {x : List UInt8} (h : ws[k + 1]? = some x) : jnT sep ws (k + 2) = jnT sep ws (k + 1) ++ [sep] ++ x := by
  rw [jnT, take_at h, join_snoc, if_neg]
  · rfl
  · intro e
    have h1 := (List.getElem?_eq_some_iff.1 h).1
    have h2 : (ws.take (k + 1)).length = 0 := by rw [e]; rfl
    rw [List.length_take] at h2
    omega
theorem jn_all {sep : UInt8} {ws : List (List UInt8)} {k : Nat} (h : ws.length = k) : jnT sep ws k = Lib.join ws [sep] := by rw [jnT, List.take_of_length_le (by omega)]
set_option maxHeartbeats 2000000 in
theorem spec_l20List {a : Option Addr} {n c : Nat} {l : List Int} {w : World} (hI : Ints w a n c l) (hn : n ≤ 1000) (hv : ∀ x ∈ l, 0 ≤ x ∧ x < 33) :
    Calls Tryz.prog 88 #[.slice a n c] w fun e w' => e = .returned (.string (mkS (nT l))) ∧ Below w.heap.size w w' := by
  have HI := Lib.hid hI
  have HV := Lib.hid hv
  have HL := Lib.hid hI.len
  clear hI hv
  go_enter Tryz.func88, Tryz.ntmps88
  go_wp2_with fail
  go_loopw [3, 4] (fun s3 s4 wr => ∃ (j : Nat) (t : ByteArray), s3 = .string t ∧ s4 = .int .i64 j ∧ j ≤ n ∧ t.size ≤ 3 * j ∧ Hid (Below w.heap.size w wr) ∧ Hid (t = mkS (jnT 44 (l.map dd) j))) (fun _ s4 _ => n - (intOf s4).toNat)
  case atStart => exact ⟨0, ⟨#[]⟩, rfl, rfl, by omega, by decide, Lib.hid (Below.refl _ _), Lib.hid (by rw [jn_zero]; rfl)⟩
  case round =>
    obtain ⟨j, t, rfl, rfl, hj, htz, HB, HT⟩ := hrel
    by_cases hlt : j < n
    · have hlt' : (j : Int) < (n : Int) := by omega
      have hj0 : (0 : Int) ≤ (j : Int) := by omega
      obtain ⟨b, off, x, rfl, hb, hx, hcell, _⟩ := (HI.out.keep HB.out).at hlt
      have hxv := HV.out x (List.mem_of_getElem? hx)
      obtain ⟨q, rfl⟩ := Int.eq_ofNat_of_zero_le hxv.1
      have hq : q ≤ 999999999999 := by omega
      have hd1 : (mkS (Lib.decDigits q)).size ≤ 2 := by have := dd_len (x := (q : Int)) (by omega); rw [dd, Int.toNat_natCast] at this; exact this
      have hw : (l.map dd)[j]? = some (Lib.decDigits q) := by rw [List.getElem?_map, hx]; rfl
      have KD := Lib.hid (fun (wx : World) => spec_l01Dec (w := wx) hq)
      by_cases h0 : j = 0
      · subst h0
        rw [Nat.add_zero] at hcell
        have HT2 := Lib.hid (show mkS (Lib.decDigits q) = mkS (jnT 44 (l.map dd) (0 + 1)) by rw [jn_one hw])
        have ht0 : t = ⟨#[]⟩ := by have h := HT.out; rw [jn_zero] at h; exact h
        subst ht0
        have HE := Lib.hid (show (⟨#[]⟩ : ByteArray) ++ mkS (Lib.decDigits q) = mkS (Lib.decDigits q) by rw [show (⟨#[]⟩ : ByteArray) = mkS [] from rfl, mkS_app]; rfl)
        have f1 : ¬ 9223372036854775807 < (⟨#[]⟩ : ByteArray).size + (mkS (Lib.decDigits q)).size := by have : (⟨#[]⟩ : ByteArray).size = 0 := rfl; omega
        clear hx hxv hw HT
        go_wp2_with fail
        refine Calls.mono (KD.out _) ?_
        rintro e w1 ⟨rfl, hb1⟩
        have HB1 := Lib.hid (below_call HB.out hb1 HB.out.size)
        clear hb1 KD hcell
        rw [show decS q = mkS (Lib.decDigits q) from rfl]
        generalize mkS (Lib.decDigits q) = d1 at *
        go_wp2
        go_roundw
        case rel => exact ⟨1, _, by rfl, by go_num, by omega, by rw [HE.out]; omega, HB1, Lib.hid (by rw [HE.out]; exact HT2.out)⟩
        case measure => simp [intOf]; omega
      · obtain ⟨k, rfl⟩ : ∃ k, j = k + 1 := ⟨j - 1, by omega⟩
        have hk1 : (0 : Int) < (k : Int) + 1 := by omega
        have HT2 := Lib.hid (show t ++ mkS [44] ++ mkS (Lib.decDigits q) = mkS (jnT 44 (l.map dd) (k + 1 + 1)) by
          rw [HT.out, jn_succ hw, mkS_app, mkS_app])
        have hs : (t ++ mkS [44]).size = t.size + 1 := by rw [ByteArray.size_append]; rfl
        have hs2 : (t ++ mkS [44] ++ mkS (Lib.decDigits q)).size = t.size + 1 + (mkS (Lib.decDigits q)).size := by rw [ByteArray.size_append, hs]
        have f0 : ¬ 9223372036854775807 < t.size + 1 := by omega
        have f1 : ¬ 9223372036854775807 < t.size + 1 + (mkS (Lib.decDigits q)).size := by omega
        clear hx hxv hw HT
        go_wp2_with fail
        refine Calls.mono (KD.out _) ?_
        rintro e w1 ⟨rfl, hb1⟩
        have HB1 := Lib.hid (below_call HB.out hb1 HB.out.size)
        clear hb1 KD hcell
        rw [show decS q = mkS (Lib.decDigits q) from rfl]
        generalize mkS (Lib.decDigits q) = d1 at *
        go_wp2
        go_roundw
        case rel => exact ⟨k + 2, t ++ mkS [44] ++ d1, by rfl, by go_num, by omega, by rw [hs2]; omega, HB1, HT2⟩
        case measure => simp [intOf]; omega
    · obtain rfl : n = j := by omega
      have hlt' : ¬ (n : Int) < (n : Int) := by omega
      have HF := Lib.hid (show t = mkS (nT l) by rw [HT.out, jn_all (by rw [List.length_map]; exact HL.out)]; rfl)
      go_wp2
      go_ret
      exact ⟨by rw [← HF.out]; rfl, HB.out⟩
end Go.Proofs.YtfnamjkmkoldeaaGreatDoor
namespace Go.Proofs.YtfnamjkmkoldeaaGreatDoor
open Go.RowKit
set_option linter.unusedVariables false
set_option linter.unusedSimpArgs false
theorem tT_pos (t : I2b) : 1 ≤ (tT t).length := by simp [tT]; omega
theorem lT_cons {ws : List (List UInt8)} (h : ws ≠ []) : lT ws = Lib.join ws [38] := by rw [lT, if_neg h]
theorem jn_pos {sep : UInt8} {ws : List (List UInt8)} {k : Nat} (h : ∀ x ∈ ws, 1 ≤ x.length) (hk : 0 < k) (hl : k ≤ ws.length) : 1 ≤ (jnT sep ws k).length := by
  obtain ⟨q, rfl⟩ : ∃ q, k = q + 1 := ⟨k - 1, by omega⟩
  have hx := List.getElem?_eq_getElem (show q < ws.length by omega)
  have h1 := h _ (List.getElem_mem (show q < ws.length by omega))
  rw [jnT, take_at hx, join_snoc, List.length_append]
  omega
set_option maxRecDepth 100000 in
set_option maxHeartbeats 4000000 in
theorem spec_l20TestsText {a : Option Addr} {n c : Nat} {l : List I2b} {w : World} (hI : F2b w a n c l) (hn : n ≤ 100) (hv : ∀ t ∈ l, 0 ≤ t.a ∧ t.a < 33 ∧ 0 ≤ t.b ∧ t.b < 33) :
    Calls Tryz.prog 90 #[.slice a n c] w fun e w' => e = .returned (.string (mkS (lT (l.map tT)))) ∧ Below w.heap.size w w' := by
  have HI := Lib.hid hI
  have HV := Lib.hid hv
  have HL := Lib.hid hI.len
  clear hI hv
  go_enter Tryz.func90, Tryz.ntmps90
  go_wp2_with fail
  go_loopw [3, 4] (fun s3 s4 wr => ∃ (j : Nat) (t : ByteArray), s3 = .string t ∧ s4 = .int .i64 j ∧ j ≤ n ∧ t.size ≤ 6 * j ∧ Hid (Below w.heap.size w wr) ∧ Hid (t = mkS (jnT 38 (l.map tT) j))) (fun _ s4 _ => n - (intOf s4).toNat)
  case atStart => exact ⟨0, ⟨#[]⟩, rfl, rfl, by omega, by decide, Lib.hid (Below.refl _ _), Lib.hid (by rw [jn_zero]; rfl)⟩
  case round =>
    obtain ⟨j, t, rfl, rfl, hj, htz, HB, HT⟩ := hrel
    by_cases hlt : j < n
    · have hlt' : (j : Int) < (n : Int) := by omega
      have hj0 : (0 : Int) ≤ (j : Int) := by omega
      obtain ⟨b, off, x, rfl, hb, hx, hwf, c0, c1, c2⟩ := F2b.get (HI.out.keep HB.out) hlt
      have hxv := HV.out x (List.mem_of_getElem? hx)
      obtain ⟨xa, xb, xc⟩ := x
      simp only at hxv c0 c1 c2
      obtain ⟨q1, rfl⟩ := Int.eq_ofNat_of_zero_le hxv.1
      obtain ⟨q2, rfl⟩ := Int.eq_ofNat_of_zero_le hxv.2.2.1
      have hd1 : (mkS (Lib.decDigits q1)).size ≤ 2 := by have := dd_len (x := (q1 : Int)) (by omega); rw [dd, Int.toNat_natCast] at this; exact this
      have hd2 : (mkS (Lib.decDigits q2)).size ≤ 2 := by have := dd_len (x := (q2 : Int)) (by omega); rw [dd, Int.toNat_natCast] at this; exact this
      have hw : (l.map tT)[j]? = some (tT ⟨(q1 : Int), (q2 : Int), xc⟩) := by rw [List.getElem?_map, hx]; rfl
      have htt : mkS (Lib.decDigits q1) ++ mkS [if xc then 61 else 33] ++ mkS (Lib.decDigits q2) = mkS (tT ⟨(q1 : Int), (q2 : Int), xc⟩) := by
        rw [mkS_app, mkS_app, tT, dd, dd, Int.toNat_natCast, Int.toNat_natCast]
      have HTT := Lib.hid htt
      have K1 := Lib.hid (fun (wx : World) => spec_l01Dec (n := q1) (w := wx) (by omega))
      have K2 := Lib.hid (fun (wx : World) => spec_l01Dec (n := q2) (w := wx) (by omega))
      obtain ⟨d1, hd1e⟩ : ∃ d1, decS q1 = d1 := ⟨_, rfl⟩
      obtain ⟨d2, hd2e⟩ : ∃ d2, decS q2 = d2 := ⟨_, rfl⟩
      have D1 := Lib.hid hd1e
      have D2 := Lib.hid hd2e
      rw [show mkS (Lib.decDigits q1) = d1 from hd1e] at hd1 HTT
      rw [show mkS (Lib.decDigits q2) = d2 from hd2e] at hd2 HTT
      by_cases h0 : j = 0
      · subst h0
        simp only [Nat.zero_mul, Nat.add_zero] at c0 c1 c2
        have ht0 : t = ⟨#[]⟩ := by have h := HT.out; rw [jn_zero] at h; exact h
        subst ht0
        have hz : (⟨#[]⟩ : ByteArray).size = 0 := rfl
        have hs : ((⟨#[]⟩ : ByteArray) ++ d1).size = d1.size := by rw [ByteArray.size_append, hz, Nat.zero_add]
        have hap : ∀ s : ByteArray, (⟨#[]⟩ : ByteArray) ++ s = s := fun s => by apply ByteArray.ext; simp
        have f0 : ¬ 9223372036854775807 < (⟨#[]⟩ : ByteArray).size + d1.size := by omega
        have f1 : ¬ 9223372036854775807 < (⟨#[]⟩ : ByteArray).size + d1.size + 1 := by omega
        have f2 : ¬ 9223372036854775807 < (⟨#[]⟩ : ByteArray).size + d1.size + 1 + d2.size := by omega
        have e0 : ¬ 9223372036854775807 < d1.size := by omega
        have e1 : ¬ 9223372036854775807 < d1.size + 1 := by omega
        have e2 : ¬ 9223372036854775807 < d1.size + 1 + d2.size := by omega
        clear hx hwf hxv htt hd1e hd2e
        cases xc
        · have HT2 := Lib.hid (show (⟨#[]⟩ : ByteArray) ++ d1 ++ ⟨#[33]⟩ ++ d2 = mkS (jnT 38 (l.map tT) (0 + 1)) by
            rw [jn_one hw, hap]; exact HTT.out)
          have hs2 : ((⟨#[]⟩ : ByteArray) ++ d1 ++ ⟨#[33]⟩ ++ d2).size = d1.size + 1 + d2.size := by rw [hap, ByteArray.size_append, ByteArray.size_append]; rfl
          clear hw HT
          go_wp2_with fail
          refine wp_region_noPanic ?_
          refine wp_region_M (L := 17) (S := fun wx => Below wr.heap.size wr wx) (by kernel_rfl) ?_ (fun hHeld => ?_)
          · exact (Below.refl _ _).drew
          refine wpAnyM_take (i := 0) (v := ?_) (by simp only [List.getElem?_toArray, List.getElem?_cons_succ, List.getElem?_cons_zero] <;> rfl) (by kernel_rfl) (by kernel_rfl) (by kernel_rfl) (by kernel_rfl) (by kernel_rfl) (fun _ _ _ h => h) (Or.inl ⟨by rfl, ?_⟩) (by assumption) ?_
          rotate_left
          · (intro wv hSw; (try dsimp only at hSw); obtain ⟨hcq, _⟩ := bcell hSw; have hsq := Below.size hSw; go_simp; try with_reducible rfl)
          try simp only [Act.put, List.setIfInBounds_toArray, List.set_cons_zero, List.set_cons_succ]
          refine wpAnyM_take (i := 1) (v := ?_) (by simp only [List.getElem?_toArray, List.getElem?_cons_succ, List.getElem?_cons_zero] <;> rfl) (by kernel_rfl) (by kernel_rfl) (by kernel_rfl) (by kernel_rfl) (by kernel_rfl) (fun _ _ _ h => h) (Or.inl ⟨by rfl, ?_⟩) (by assumption) ?_
          rotate_left
          · (intro wv hSw; (try dsimp only at hSw); obtain ⟨hcq, _⟩ := bcell hSw; have hsq := Below.size hSw; go_simp; try with_reducible rfl)
          try simp only [Act.put, List.setIfInBounds_toArray, List.set_cons_zero, List.set_cons_succ]
          refine wpAnyM_take (i := 2) (v := ?_) (by simp only [List.getElem?_toArray, List.getElem?_cons_succ, List.getElem?_cons_zero] <;> rfl) (by kernel_rfl) (by kernel_rfl) (by kernel_rfl) (by kernel_rfl) (by kernel_rfl) (fun _ _ _ h => h) (Or.inl ⟨by rfl, ?_⟩) (by assumption) ?_
          rotate_left
          · (intro wv hSw; (try dsimp only at hSw); obtain ⟨hcq, _⟩ := bcell hSw; have hsq := Below.size hSw; go_simp; try with_reducible rfl)
          try simp only [Act.put, List.setIfInBounds_toArray, List.set_cons_zero, List.set_cons_succ]
          refine wpAnyM_take (i := 3) (v := ?_) (by simp only [List.getElem?_toArray, List.getElem?_cons_succ, List.getElem?_cons_zero] <;> rfl) (by kernel_rfl) (by kernel_rfl) (by kernel_rfl) (by kernel_rfl) (by kernel_rfl) (fun _ _ _ h => h) (Or.inl ⟨by rfl, ?_⟩) (by assumption) ?_
          rotate_left
          · (intro wv hSw; (try dsimp only at hSw); obtain ⟨hcq, _⟩ := bcell hSw; have hsq := Below.size hSw; go_simp; try with_reducible rfl)
          try simp only [Act.put, List.setIfInBounds_toArray, List.set_cons_zero, List.set_cons_succ]
          refine wpAnyM_take (i := 4) (v := ?_) (by simp only [List.getElem?_toArray, List.getElem?_cons_succ, List.getElem?_cons_zero] <;> rfl) (by kernel_rfl) (by kernel_rfl) (by kernel_rfl) (by kernel_rfl) (by kernel_rfl) (fun _ _ _ h => h) (Or.inl ⟨by rfl, ?_⟩) (by assumption) ?_
          rotate_left
          · (intro wv hSw; (try dsimp only at hSw); obtain ⟨hcq, _⟩ := bcell hSw; have hsq := Below.size hSw; go_simp; try with_reducible rfl)
          try simp only [Act.put, List.setIfInBounds_toArray, List.set_cons_zero, List.set_cons_succ]
          refine wpAnyM_take (i := 5) (v := ?_) (by simp only [List.getElem?_toArray, List.getElem?_cons_succ, List.getElem?_cons_zero] <;> rfl) (by kernel_rfl) (by kernel_rfl) (by kernel_rfl) (by kernel_rfl) (by kernel_rfl) (fun _ _ _ h => h) (Or.inl ⟨by rfl, ?_⟩) (by assumption) ?_
          rotate_left
          · (intro wv hSw; (try dsimp only at hSw); obtain ⟨hcq, _⟩ := bcell hSw; have hsq := Below.size hSw; have p0 := (hcq _ _ hb).trans c0; have pl := Nat.lt_of_lt_of_le hb hsq; go_simp; try with_reducible rfl)
          try simp only [Act.put, List.setIfInBounds_toArray, List.set_cons_zero, List.set_cons_succ]
          refine wpAnyM_take (i := 8) (v := ?_) (by simp only [List.getElem?_toArray, List.getElem?_cons_succ, List.getElem?_cons_zero] <;> rfl) (by kernel_rfl) (by kernel_rfl) (by kernel_rfl) (by kernel_rfl) (by kernel_rfl) (fun _ _ _ h => h) (Or.inl ⟨by rfl, ?_⟩) (by assumption) ?_
          rotate_left
          · (intro wv hSw; (try dsimp only at hSw); obtain ⟨hcq, _⟩ := bcell hSw; have hsq := Below.size hSw; go_simp; try with_reducible rfl)
          try simp only [Act.put, List.setIfInBounds_toArray, List.set_cons_zero, List.set_cons_succ]
          refine wpAnyM_take (i := 10) (v := ?_) (by simp only [List.getElem?_toArray, List.getElem?_cons_succ, List.getElem?_cons_zero] <;> rfl) (by kernel_rfl) (by kernel_rfl) (by kernel_rfl) (by kernel_rfl) (by kernel_rfl) (fun _ _ _ h => h) (Or.inl ⟨by rfl, ?_⟩) (by assumption) ?_
          rotate_left
          · (intro wv hSw; (try dsimp only at hSw); obtain ⟨hcq, _⟩ := bcell hSw; have hsq := Below.size hSw; go_simp; try with_reducible rfl)
          try simp only [Act.put, List.setIfInBounds_toArray, List.set_cons_zero, List.set_cons_succ]
          refine wpAnyM_take (i := 11) (v := ?_) (by simp only [List.getElem?_toArray, List.getElem?_cons_succ, List.getElem?_cons_zero] <;> rfl) (by kernel_rfl) (by kernel_rfl) (by kernel_rfl) (by kernel_rfl) (by kernel_rfl) (fun _ _ _ h => h) (Or.inl ⟨by rfl, ?_⟩) (by assumption) ?_
          rotate_left
          · (intro wv hSw; (try dsimp only at hSw); obtain ⟨hcq, _⟩ := bcell hSw; have hsq := Below.size hSw; go_simp; try with_reducible rfl)
          try simp only [Act.put, List.setIfInBounds_toArray, List.set_cons_zero, List.set_cons_succ]
          refine wpAnyM_take (i := 12) (v := ?_) (by simp only [List.getElem?_toArray, List.getElem?_cons_succ, List.getElem?_cons_zero] <;> rfl) (by kernel_rfl) (by kernel_rfl) (by kernel_rfl) (by kernel_rfl) (by kernel_rfl) (fun _ _ _ h => h) (Or.inl ⟨by rfl, ?_⟩) (by assumption) ?_
          rotate_left
          · (intro wv hSw; (try dsimp only at hSw); obtain ⟨hcq, _⟩ := bcell hSw; have hsq := Below.size hSw; go_simp; try with_reducible rfl)
          try simp only [Act.put, List.setIfInBounds_toArray, List.set_cons_zero, List.set_cons_succ]
          refine wpAnyM_take (i := 13) (v := ?_) (by simp only [List.getElem?_toArray, List.getElem?_cons_succ, List.getElem?_cons_zero] <;> rfl) (by kernel_rfl) (by kernel_rfl) (by kernel_rfl) (by kernel_rfl) (by kernel_rfl) (fun _ _ _ h => h) (Or.inl ⟨by rfl, ?_⟩) (by assumption) ?_
          rotate_left
          · (intro wv hSw; (try dsimp only at hSw); obtain ⟨hcq, _⟩ := bcell hSw; have hsq := Below.size hSw; go_simp; try with_reducible rfl)
          try simp only [Act.put, List.setIfInBounds_toArray, List.set_cons_zero, List.set_cons_succ]
          refine wpAnyM_take (i := 14) (v := ?_) (by simp only [List.getElem?_toArray, List.getElem?_cons_succ, List.getElem?_cons_zero] <;> rfl) (by kernel_rfl) (by kernel_rfl) (by kernel_rfl) (by kernel_rfl) (by kernel_rfl) (fun _ _ _ h => h) (Or.inl ⟨by rfl, ?_⟩) (by assumption) ?_
          rotate_left
          · (intro wv hSw; (try dsimp only at hSw); obtain ⟨hcq, _⟩ := bcell hSw; have hsq := Below.size hSw; have p0 := (hcq _ _ hb).trans c1; have pl := Nat.lt_of_lt_of_le hb hsq; go_simp; try with_reducible rfl)
          try simp only [Act.put, List.setIfInBounds_toArray, List.set_cons_zero, List.set_cons_succ]
          refine wpAnyM_ready (rs := [6]) (by kernel_rfl) (by simp) ?_
          refine AllReadyM.cons rfl (fun K hK => ?_) AllReadyM.nil
          go_simp
          refine Calls.mono (K1.out _) ?_
          rintro e w1 ⟨rfl, hb1⟩
          have hb2 := below_callS hHeld hb1
          go_wp2_with fail
          refine hK.out _ _ hb2 (fun hHeld => ?_)
          clear hK K
          try simp only [Act.put, List.setIfInBounds_toArray, List.set_cons_zero, List.set_cons_succ]
          rw [D1.out]
          refine wpAnyM_take (i := 7) (v := ?_) (by simp only [List.getElem?_toArray, List.getElem?_cons_succ, List.getElem?_cons_zero] <;> rfl) (by kernel_rfl) (by kernel_rfl) (by kernel_rfl) (by kernel_rfl) (by kernel_rfl) (fun _ _ _ h => h) (Or.inl ⟨by rfl, ?_⟩) (by assumption) ?_
          rotate_left
          · (intro wv hSw; (try dsimp only at hSw); obtain ⟨hcq, _⟩ := bcell hSw; have hsq := Below.size hSw; go_simp; try with_reducible rfl)
          try simp only [Act.put, List.setIfInBounds_toArray, List.set_cons_zero, List.set_cons_succ]
          refine wpAnyM_take (i := 9) (v := ?_) (by simp only [List.getElem?_toArray, List.getElem?_cons_succ, List.getElem?_cons_zero] <;> rfl) (by kernel_rfl) (by kernel_rfl) (by kernel_rfl) (by kernel_rfl) (by kernel_rfl) (fun _ _ _ h => h) (Or.inl ⟨by rfl, ?_⟩) (by assumption) ?_
          rotate_left
          · (intro wv hSw; (try dsimp only at hSw); obtain ⟨hcq, _⟩ := bcell hSw; have hsq := Below.size hSw; go_simp; try with_reducible rfl)
          try simp only [Act.put, List.setIfInBounds_toArray, List.set_cons_zero, List.set_cons_succ]
          refine wpAnyM_ready (rs := [15]) (by kernel_rfl) (by simp) ?_
          refine AllReadyM.cons rfl (fun K hK => ?_) AllReadyM.nil
          go_simp
          refine Calls.mono (K2.out _) ?_
          rintro e w2 ⟨rfl, hb3⟩
          have hb4 := below_callS hHeld hb3
          go_wp2_with fail
          refine hK.out _ _ hb4 (fun hHeld => ?_)
          clear hK K
          try simp only [Act.put, List.setIfInBounds_toArray, List.set_cons_zero, List.set_cons_succ]
          rw [D2.out]
          refine wpAnyM_take (i := 16) (v := ?_) (by simp only [List.getElem?_toArray, List.getElem?_cons_succ, List.getElem?_cons_zero] <;> rfl) (by kernel_rfl) (by kernel_rfl) (by kernel_rfl) (by kernel_rfl) (by kernel_rfl) (fun _ _ _ h => h) (Or.inl ⟨by rfl, ?_⟩) (by assumption) ?_
          rotate_left
          · (intro wv hSw; (try dsimp only at hSw); obtain ⟨hcq, _⟩ := bcell hSw; have hsq := Below.size hSw; go_simp; try with_reducible rfl)
          try simp only [Act.put, List.setIfInBounds_toArray, List.set_cons_zero, List.set_cons_succ]
          refine wpAnyM_ready (rs := [17]) (by kernel_rfl) (by simp) ?_
          refine AllReadyM.last rfl (fun K hK => ?_)
          go_simp
          refine hK.out _ _ ?_
          clear hK K
          try simp only [Act.put, List.setIfInBounds_toArray, List.set_cons_zero, List.set_cons_succ]
          refine wpAnyM_done (by kernel_rfl) ?_ _
          refine NoPanic.normal ?_
          have HB2 := Lib.hid (below_call HB.out hb4 HB.out.size)
          clear hHeld hb1 hb2 hb3 hb4 K1 K2 c0 c1 c2
          go_wp2
          go_roundw
          case rel => exact ⟨1, ⟨#[]⟩ ++ d1 ++ ⟨#[33]⟩ ++ d2, by rfl, by go_num, by omega, by rw [hs2]; omega, HB2, HT2⟩
          case measure => simp [intOf]; omega
        · have HT2 := Lib.hid (show (⟨#[]⟩ : ByteArray) ++ d1 ++ ⟨#[61]⟩ ++ d2 = mkS (jnT 38 (l.map tT) (0 + 1)) by
            rw [jn_one hw, hap]; exact HTT.out)
          have hs2 : ((⟨#[]⟩ : ByteArray) ++ d1 ++ ⟨#[61]⟩ ++ d2).size = d1.size + 1 + d2.size := by rw [hap, ByteArray.size_append, ByteArray.size_append]; rfl
          clear hw HT
          go_wp2_with fail
          refine wp_region_noPanic ?_
          refine wp_region_M (L := 17) (S := fun wx => Below wr.heap.size wr wx) (by kernel_rfl) ?_ (fun hHeld => ?_)
          · exact (Below.refl _ _).drew
          refine wpAnyM_take (i := 0) (v := ?_) (by simp only [List.getElem?_toArray, List.getElem?_cons_succ, List.getElem?_cons_zero] <;> rfl) (by kernel_rfl) (by kernel_rfl) (by kernel_rfl) (by kernel_rfl) (by kernel_rfl) (fun _ _ _ h => h) (Or.inl ⟨by rfl, ?_⟩) (by assumption) ?_
          rotate_left
          · (intro wv hSw; (try dsimp only at hSw); obtain ⟨hcq, _⟩ := bcell hSw; have hsq := Below.size hSw; go_simp; try with_reducible rfl)
          try simp only [Act.put, List.setIfInBounds_toArray, List.set_cons_zero, List.set_cons_succ]
          refine wpAnyM_take (i := 1) (v := ?_) (by simp only [List.getElem?_toArray, List.getElem?_cons_succ, List.getElem?_cons_zero] <;> rfl) (by kernel_rfl) (by kernel_rfl) (by kernel_rfl) (by kernel_rfl) (by kernel_rfl) (fun _ _ _ h => h) (Or.inl ⟨by rfl, ?_⟩) (by assumption) ?_
          rotate_left
          · (intro wv hSw; (try dsimp only at hSw); obtain ⟨hcq, _⟩ := bcell hSw; have hsq := Below.size hSw; go_simp; try with_reducible rfl)
          try simp only [Act.put, List.setIfInBounds_toArray, List.set_cons_zero, List.set_cons_succ]
          refine wpAnyM_take (i := 2) (v := ?_) (by simp only [List.getElem?_toArray, List.getElem?_cons_succ, List.getElem?_cons_zero] <;> rfl) (by kernel_rfl) (by kernel_rfl) (by kernel_rfl) (by kernel_rfl) (by kernel_rfl) (fun _ _ _ h => h) (Or.inl ⟨by rfl, ?_⟩) (by assumption) ?_
          rotate_left
          · (intro wv hSw; (try dsimp only at hSw); obtain ⟨hcq, _⟩ := bcell hSw; have hsq := Below.size hSw; go_simp; try with_reducible rfl)
          try simp only [Act.put, List.setIfInBounds_toArray, List.set_cons_zero, List.set_cons_succ]
          refine wpAnyM_take (i := 3) (v := ?_) (by simp only [List.getElem?_toArray, List.getElem?_cons_succ, List.getElem?_cons_zero] <;> rfl) (by kernel_rfl) (by kernel_rfl) (by kernel_rfl) (by kernel_rfl) (by kernel_rfl) (fun _ _ _ h => h) (Or.inl ⟨by rfl, ?_⟩) (by assumption) ?_
          rotate_left
          · (intro wv hSw; (try dsimp only at hSw); obtain ⟨hcq, _⟩ := bcell hSw; have hsq := Below.size hSw; go_simp; try with_reducible rfl)
          try simp only [Act.put, List.setIfInBounds_toArray, List.set_cons_zero, List.set_cons_succ]
          refine wpAnyM_take (i := 4) (v := ?_) (by simp only [List.getElem?_toArray, List.getElem?_cons_succ, List.getElem?_cons_zero] <;> rfl) (by kernel_rfl) (by kernel_rfl) (by kernel_rfl) (by kernel_rfl) (by kernel_rfl) (fun _ _ _ h => h) (Or.inl ⟨by rfl, ?_⟩) (by assumption) ?_
          rotate_left
          · (intro wv hSw; (try dsimp only at hSw); obtain ⟨hcq, _⟩ := bcell hSw; have hsq := Below.size hSw; go_simp; try with_reducible rfl)
          try simp only [Act.put, List.setIfInBounds_toArray, List.set_cons_zero, List.set_cons_succ]
          refine wpAnyM_take (i := 5) (v := ?_) (by simp only [List.getElem?_toArray, List.getElem?_cons_succ, List.getElem?_cons_zero] <;> rfl) (by kernel_rfl) (by kernel_rfl) (by kernel_rfl) (by kernel_rfl) (by kernel_rfl) (fun _ _ _ h => h) (Or.inl ⟨by rfl, ?_⟩) (by assumption) ?_
          rotate_left
          · (intro wv hSw; (try dsimp only at hSw); obtain ⟨hcq, _⟩ := bcell hSw; have hsq := Below.size hSw; have p0 := (hcq _ _ hb).trans c0; have pl := Nat.lt_of_lt_of_le hb hsq; go_simp; try with_reducible rfl)
          try simp only [Act.put, List.setIfInBounds_toArray, List.set_cons_zero, List.set_cons_succ]
          refine wpAnyM_take (i := 8) (v := ?_) (by simp only [List.getElem?_toArray, List.getElem?_cons_succ, List.getElem?_cons_zero] <;> rfl) (by kernel_rfl) (by kernel_rfl) (by kernel_rfl) (by kernel_rfl) (by kernel_rfl) (fun _ _ _ h => h) (Or.inl ⟨by rfl, ?_⟩) (by assumption) ?_
          rotate_left
          · (intro wv hSw; (try dsimp only at hSw); obtain ⟨hcq, _⟩ := bcell hSw; have hsq := Below.size hSw; go_simp; try with_reducible rfl)
          try simp only [Act.put, List.setIfInBounds_toArray, List.set_cons_zero, List.set_cons_succ]
          refine wpAnyM_take (i := 10) (v := ?_) (by simp only [List.getElem?_toArray, List.getElem?_cons_succ, List.getElem?_cons_zero] <;> rfl) (by kernel_rfl) (by kernel_rfl) (by kernel_rfl) (by kernel_rfl) (by kernel_rfl) (fun _ _ _ h => h) (Or.inl ⟨by rfl, ?_⟩) (by assumption) ?_
          rotate_left
          · (intro wv hSw; (try dsimp only at hSw); obtain ⟨hcq, _⟩ := bcell hSw; have hsq := Below.size hSw; go_simp; try with_reducible rfl)
          try simp only [Act.put, List.setIfInBounds_toArray, List.set_cons_zero, List.set_cons_succ]
          refine wpAnyM_take (i := 11) (v := ?_) (by simp only [List.getElem?_toArray, List.getElem?_cons_succ, List.getElem?_cons_zero] <;> rfl) (by kernel_rfl) (by kernel_rfl) (by kernel_rfl) (by kernel_rfl) (by kernel_rfl) (fun _ _ _ h => h) (Or.inl ⟨by rfl, ?_⟩) (by assumption) ?_
          rotate_left
          · (intro wv hSw; (try dsimp only at hSw); obtain ⟨hcq, _⟩ := bcell hSw; have hsq := Below.size hSw; go_simp; try with_reducible rfl)
          try simp only [Act.put, List.setIfInBounds_toArray, List.set_cons_zero, List.set_cons_succ]
          refine wpAnyM_take (i := 12) (v := ?_) (by simp only [List.getElem?_toArray, List.getElem?_cons_succ, List.getElem?_cons_zero] <;> rfl) (by kernel_rfl) (by kernel_rfl) (by kernel_rfl) (by kernel_rfl) (by kernel_rfl) (fun _ _ _ h => h) (Or.inl ⟨by rfl, ?_⟩) (by assumption) ?_
          rotate_left
          · (intro wv hSw; (try dsimp only at hSw); obtain ⟨hcq, _⟩ := bcell hSw; have hsq := Below.size hSw; go_simp; try with_reducible rfl)
          try simp only [Act.put, List.setIfInBounds_toArray, List.set_cons_zero, List.set_cons_succ]
          refine wpAnyM_take (i := 13) (v := ?_) (by simp only [List.getElem?_toArray, List.getElem?_cons_succ, List.getElem?_cons_zero] <;> rfl) (by kernel_rfl) (by kernel_rfl) (by kernel_rfl) (by kernel_rfl) (by kernel_rfl) (fun _ _ _ h => h) (Or.inl ⟨by rfl, ?_⟩) (by assumption) ?_
          rotate_left
          · (intro wv hSw; (try dsimp only at hSw); obtain ⟨hcq, _⟩ := bcell hSw; have hsq := Below.size hSw; go_simp; try with_reducible rfl)
          try simp only [Act.put, List.setIfInBounds_toArray, List.set_cons_zero, List.set_cons_succ]
          refine wpAnyM_take (i := 14) (v := ?_) (by simp only [List.getElem?_toArray, List.getElem?_cons_succ, List.getElem?_cons_zero] <;> rfl) (by kernel_rfl) (by kernel_rfl) (by kernel_rfl) (by kernel_rfl) (by kernel_rfl) (fun _ _ _ h => h) (Or.inl ⟨by rfl, ?_⟩) (by assumption) ?_
          rotate_left
          · (intro wv hSw; (try dsimp only at hSw); obtain ⟨hcq, _⟩ := bcell hSw; have hsq := Below.size hSw; have p0 := (hcq _ _ hb).trans c1; have pl := Nat.lt_of_lt_of_le hb hsq; go_simp; try with_reducible rfl)
          try simp only [Act.put, List.setIfInBounds_toArray, List.set_cons_zero, List.set_cons_succ]
          refine wpAnyM_ready (rs := [6]) (by kernel_rfl) (by simp) ?_
          refine AllReadyM.cons rfl (fun K hK => ?_) AllReadyM.nil
          go_simp
          refine Calls.mono (K1.out _) ?_
          rintro e w1 ⟨rfl, hb1⟩
          have hb2 := below_callS hHeld hb1
          go_wp2_with fail
          refine hK.out _ _ hb2 (fun hHeld => ?_)
          clear hK K
          try simp only [Act.put, List.setIfInBounds_toArray, List.set_cons_zero, List.set_cons_succ]
          rw [D1.out]
          refine wpAnyM_take (i := 7) (v := ?_) (by simp only [List.getElem?_toArray, List.getElem?_cons_succ, List.getElem?_cons_zero] <;> rfl) (by kernel_rfl) (by kernel_rfl) (by kernel_rfl) (by kernel_rfl) (by kernel_rfl) (fun _ _ _ h => h) (Or.inl ⟨by rfl, ?_⟩) (by assumption) ?_
          rotate_left
          · (intro wv hSw; (try dsimp only at hSw); obtain ⟨hcq, _⟩ := bcell hSw; have hsq := Below.size hSw; go_simp; try with_reducible rfl)
          try simp only [Act.put, List.setIfInBounds_toArray, List.set_cons_zero, List.set_cons_succ]
          refine wpAnyM_take (i := 9) (v := ?_) (by simp only [List.getElem?_toArray, List.getElem?_cons_succ, List.getElem?_cons_zero] <;> rfl) (by kernel_rfl) (by kernel_rfl) (by kernel_rfl) (by kernel_rfl) (by kernel_rfl) (fun _ _ _ h => h) (Or.inl ⟨by rfl, ?_⟩) (by assumption) ?_
          rotate_left
          · (intro wv hSw; (try dsimp only at hSw); obtain ⟨hcq, _⟩ := bcell hSw; have hsq := Below.size hSw; go_simp; try with_reducible rfl)
          try simp only [Act.put, List.setIfInBounds_toArray, List.set_cons_zero, List.set_cons_succ]
          refine wpAnyM_ready (rs := [15]) (by kernel_rfl) (by simp) ?_
          refine AllReadyM.cons rfl (fun K hK => ?_) AllReadyM.nil
          go_simp
          refine Calls.mono (K2.out _) ?_
          rintro e w2 ⟨rfl, hb3⟩
          have hb4 := below_callS hHeld hb3
          go_wp2_with fail
          refine hK.out _ _ hb4 (fun hHeld => ?_)
          clear hK K
          try simp only [Act.put, List.setIfInBounds_toArray, List.set_cons_zero, List.set_cons_succ]
          rw [D2.out]
          refine wpAnyM_take (i := 16) (v := ?_) (by simp only [List.getElem?_toArray, List.getElem?_cons_succ, List.getElem?_cons_zero] <;> rfl) (by kernel_rfl) (by kernel_rfl) (by kernel_rfl) (by kernel_rfl) (by kernel_rfl) (fun _ _ _ h => h) (Or.inl ⟨by rfl, ?_⟩) (by assumption) ?_
          rotate_left
          · (intro wv hSw; (try dsimp only at hSw); obtain ⟨hcq, _⟩ := bcell hSw; have hsq := Below.size hSw; go_simp; try with_reducible rfl)
          try simp only [Act.put, List.setIfInBounds_toArray, List.set_cons_zero, List.set_cons_succ]
          refine wpAnyM_ready (rs := [17]) (by kernel_rfl) (by simp) ?_
          refine AllReadyM.last rfl (fun K hK => ?_)
          go_simp
          refine hK.out _ _ ?_
          clear hK K
          try simp only [Act.put, List.setIfInBounds_toArray, List.set_cons_zero, List.set_cons_succ]
          refine wpAnyM_done (by kernel_rfl) ?_ _
          refine NoPanic.normal ?_
          have HB2 := Lib.hid (below_call HB.out hb4 HB.out.size)
          clear hHeld hb1 hb2 hb3 hb4 K1 K2 c0 c1 c2
          go_wp2
          go_roundw
          case rel => exact ⟨1, ⟨#[]⟩ ++ d1 ++ ⟨#[61]⟩ ++ d2, by rfl, by go_num, by omega, by rw [hs2]; omega, HB2, HT2⟩
          case measure => simp [intOf]; omega
      · obtain ⟨k, rfl⟩ : ∃ k, j = k + 1 := ⟨j - 1, by omega⟩
        have hk1 : (0 : Int) < (k : Int) + 1 := by omega
        have hk0 : (0 : Int) ≤ (k : Int) + 1 := by omega
        have f0 : ¬ 9223372036854775807 < t.size + 1 := by omega
        have f1 : ¬ 9223372036854775807 < t.size + 1 + d1.size := by omega
        have f2 : ¬ 9223372036854775807 < t.size + 1 + d1.size + 1 := by omega
        have f3 : ¬ 9223372036854775807 < t.size + 1 + d1.size + 1 + d2.size := by omega
        clear hx hwf hxv htt hd1e hd2e
        cases xc
        · have HT2 := Lib.hid (show (t ++ ⟨#[38]⟩) ++ d1 ++ ⟨#[33]⟩ ++ d2 = mkS (jnT 38 (l.map tT) (k + 1 + 1)) by
            rw [jn_succ hw, ← mkS_app, ← mkS_app, ← HTT.out, ← HT.out, ← ByteArray.append_assoc, ← ByteArray.append_assoc]; rfl)
          have hs2 : ((t ++ ⟨#[38]⟩) ++ d1 ++ ⟨#[33]⟩ ++ d2).size = t.size + 1 + d1.size + 1 + d2.size := by rw [ByteArray.size_append, ByteArray.size_append, ByteArray.size_append, ByteArray.size_append]; rfl
          clear hw HT
          go_wp2_with fail
          refine wp_region_noPanic ?_
          refine wp_region_M (L := 17) (S := fun wx => Below wr.heap.size wr wx) (by kernel_rfl) ?_ (fun hHeld => ?_)
          · exact (Below.refl _ _).drew
          refine wpAnyM_take (i := 0) (v := ?_) (by simp only [List.getElem?_toArray, List.getElem?_cons_succ, List.getElem?_cons_zero] <;> rfl) (by kernel_rfl) (by kernel_rfl) (by kernel_rfl) (by kernel_rfl) (by kernel_rfl) (fun _ _ _ h => h) (Or.inl ⟨by rfl, ?_⟩) (by assumption) ?_
          rotate_left
          · (intro wv hSw; (try dsimp only at hSw); obtain ⟨hcq, _⟩ := bcell hSw; have hsq := Below.size hSw; go_simp; try with_reducible rfl)
          try simp only [Act.put, List.setIfInBounds_toArray, List.set_cons_zero, List.set_cons_succ]
          refine wpAnyM_take (i := 1) (v := ?_) (by simp only [List.getElem?_toArray, List.getElem?_cons_succ, List.getElem?_cons_zero] <;> rfl) (by kernel_rfl) (by kernel_rfl) (by kernel_rfl) (by kernel_rfl) (by kernel_rfl) (fun _ _ _ h => h) (Or.inl ⟨by rfl, ?_⟩) (by assumption) ?_
          rotate_left
          · (intro wv hSw; (try dsimp only at hSw); obtain ⟨hcq, _⟩ := bcell hSw; have hsq := Below.size hSw; go_simp; try with_reducible rfl)
          try simp only [Act.put, List.setIfInBounds_toArray, List.set_cons_zero, List.set_cons_succ]
          refine wpAnyM_take (i := 2) (v := ?_) (by simp only [List.getElem?_toArray, List.getElem?_cons_succ, List.getElem?_cons_zero] <;> rfl) (by kernel_rfl) (by kernel_rfl) (by kernel_rfl) (by kernel_rfl) (by kernel_rfl) (fun _ _ _ h => h) (Or.inl ⟨by rfl, ?_⟩) (by assumption) ?_
          rotate_left
          · (intro wv hSw; (try dsimp only at hSw); obtain ⟨hcq, _⟩ := bcell hSw; have hsq := Below.size hSw; go_simp; try with_reducible rfl)
          try simp only [Act.put, List.setIfInBounds_toArray, List.set_cons_zero, List.set_cons_succ]
          refine wpAnyM_take (i := 3) (v := ?_) (by simp only [List.getElem?_toArray, List.getElem?_cons_succ, List.getElem?_cons_zero] <;> rfl) (by kernel_rfl) (by kernel_rfl) (by kernel_rfl) (by kernel_rfl) (by kernel_rfl) (fun _ _ _ h => h) (Or.inl ⟨by rfl, ?_⟩) (by assumption) ?_
          rotate_left
          · (intro wv hSw; (try dsimp only at hSw); obtain ⟨hcq, _⟩ := bcell hSw; have hsq := Below.size hSw; go_simp; try with_reducible rfl)
          try simp only [Act.put, List.setIfInBounds_toArray, List.set_cons_zero, List.set_cons_succ]
          refine wpAnyM_take (i := 4) (v := ?_) (by simp only [List.getElem?_toArray, List.getElem?_cons_succ, List.getElem?_cons_zero] <;> rfl) (by kernel_rfl) (by kernel_rfl) (by kernel_rfl) (by kernel_rfl) (by kernel_rfl) (fun _ _ _ h => h) (Or.inl ⟨by rfl, ?_⟩) (by assumption) ?_
          rotate_left
          · (intro wv hSw; (try dsimp only at hSw); obtain ⟨hcq, _⟩ := bcell hSw; have hsq := Below.size hSw; go_simp; try with_reducible rfl)
          try simp only [Act.put, List.setIfInBounds_toArray, List.set_cons_zero, List.set_cons_succ]
          refine wpAnyM_take (i := 5) (v := ?_) (by simp only [List.getElem?_toArray, List.getElem?_cons_succ, List.getElem?_cons_zero] <;> rfl) (by kernel_rfl) (by kernel_rfl) (by kernel_rfl) (by kernel_rfl) (by kernel_rfl) (fun _ _ _ h => h) (Or.inl ⟨by rfl, ?_⟩) (by assumption) ?_
          rotate_left
          · (intro wv hSw; (try dsimp only at hSw); obtain ⟨hcq, _⟩ := bcell hSw; have hsq := Below.size hSw; have p0 := (hcq _ _ hb).trans c0; have pl := Nat.lt_of_lt_of_le hb hsq; go_simp; try with_reducible rfl)
          try simp only [Act.put, List.setIfInBounds_toArray, List.set_cons_zero, List.set_cons_succ]
          refine wpAnyM_take (i := 8) (v := ?_) (by simp only [List.getElem?_toArray, List.getElem?_cons_succ, List.getElem?_cons_zero] <;> rfl) (by kernel_rfl) (by kernel_rfl) (by kernel_rfl) (by kernel_rfl) (by kernel_rfl) (fun _ _ _ h => h) (Or.inl ⟨by rfl, ?_⟩) (by assumption) ?_
          rotate_left
          · (intro wv hSw; (try dsimp only at hSw); obtain ⟨hcq, _⟩ := bcell hSw; have hsq := Below.size hSw; go_simp; try with_reducible rfl)
          try simp only [Act.put, List.setIfInBounds_toArray, List.set_cons_zero, List.set_cons_succ]
          refine wpAnyM_take (i := 10) (v := ?_) (by simp only [List.getElem?_toArray, List.getElem?_cons_succ, List.getElem?_cons_zero] <;> rfl) (by kernel_rfl) (by kernel_rfl) (by kernel_rfl) (by kernel_rfl) (by kernel_rfl) (fun _ _ _ h => h) (Or.inl ⟨by rfl, ?_⟩) (by assumption) ?_
          rotate_left
          · (intro wv hSw; (try dsimp only at hSw); obtain ⟨hcq, _⟩ := bcell hSw; have hsq := Below.size hSw; go_simp; try with_reducible rfl)
          try simp only [Act.put, List.setIfInBounds_toArray, List.set_cons_zero, List.set_cons_succ]
          refine wpAnyM_take (i := 11) (v := ?_) (by simp only [List.getElem?_toArray, List.getElem?_cons_succ, List.getElem?_cons_zero] <;> rfl) (by kernel_rfl) (by kernel_rfl) (by kernel_rfl) (by kernel_rfl) (by kernel_rfl) (fun _ _ _ h => h) (Or.inl ⟨by rfl, ?_⟩) (by assumption) ?_
          rotate_left
          · (intro wv hSw; (try dsimp only at hSw); obtain ⟨hcq, _⟩ := bcell hSw; have hsq := Below.size hSw; go_simp; try with_reducible rfl)
          try simp only [Act.put, List.setIfInBounds_toArray, List.set_cons_zero, List.set_cons_succ]
          refine wpAnyM_take (i := 12) (v := ?_) (by simp only [List.getElem?_toArray, List.getElem?_cons_succ, List.getElem?_cons_zero] <;> rfl) (by kernel_rfl) (by kernel_rfl) (by kernel_rfl) (by kernel_rfl) (by kernel_rfl) (fun _ _ _ h => h) (Or.inl ⟨by rfl, ?_⟩) (by assumption) ?_
          rotate_left
          · (intro wv hSw; (try dsimp only at hSw); obtain ⟨hcq, _⟩ := bcell hSw; have hsq := Below.size hSw; go_simp; try with_reducible rfl)
          try simp only [Act.put, List.setIfInBounds_toArray, List.set_cons_zero, List.set_cons_succ]
          refine wpAnyM_take (i := 13) (v := ?_) (by simp only [List.getElem?_toArray, List.getElem?_cons_succ, List.getElem?_cons_zero] <;> rfl) (by kernel_rfl) (by kernel_rfl) (by kernel_rfl) (by kernel_rfl) (by kernel_rfl) (fun _ _ _ h => h) (Or.inl ⟨by rfl, ?_⟩) (by assumption) ?_
          rotate_left
          · (intro wv hSw; (try dsimp only at hSw); obtain ⟨hcq, _⟩ := bcell hSw; have hsq := Below.size hSw; go_simp; try with_reducible rfl)
          try simp only [Act.put, List.setIfInBounds_toArray, List.set_cons_zero, List.set_cons_succ]
          refine wpAnyM_take (i := 14) (v := ?_) (by simp only [List.getElem?_toArray, List.getElem?_cons_succ, List.getElem?_cons_zero] <;> rfl) (by kernel_rfl) (by kernel_rfl) (by kernel_rfl) (by kernel_rfl) (by kernel_rfl) (fun _ _ _ h => h) (Or.inl ⟨by rfl, ?_⟩) (by assumption) ?_
          rotate_left
          · (intro wv hSw; (try dsimp only at hSw); obtain ⟨hcq, _⟩ := bcell hSw; have hsq := Below.size hSw; have p0 := (hcq _ _ hb).trans c1; have pl := Nat.lt_of_lt_of_le hb hsq; go_simp; try with_reducible rfl)
          try simp only [Act.put, List.setIfInBounds_toArray, List.set_cons_zero, List.set_cons_succ]
          refine wpAnyM_ready (rs := [6]) (by kernel_rfl) (by simp) ?_
          refine AllReadyM.cons rfl (fun K hK => ?_) AllReadyM.nil
          go_simp
          refine Calls.mono (K1.out _) ?_
          rintro e w1 ⟨rfl, hb1⟩
          have hb2 := below_callS hHeld hb1
          go_wp2_with fail
          refine hK.out _ _ hb2 (fun hHeld => ?_)
          clear hK K
          try simp only [Act.put, List.setIfInBounds_toArray, List.set_cons_zero, List.set_cons_succ]
          rw [D1.out]
          refine wpAnyM_take (i := 7) (v := ?_) (by simp only [List.getElem?_toArray, List.getElem?_cons_succ, List.getElem?_cons_zero] <;> rfl) (by kernel_rfl) (by kernel_rfl) (by kernel_rfl) (by kernel_rfl) (by kernel_rfl) (fun _ _ _ h => h) (Or.inl ⟨by rfl, ?_⟩) (by assumption) ?_
          rotate_left
          · (intro wv hSw; (try dsimp only at hSw); obtain ⟨hcq, _⟩ := bcell hSw; have hsq := Below.size hSw; go_simp; try with_reducible rfl)
          try simp only [Act.put, List.setIfInBounds_toArray, List.set_cons_zero, List.set_cons_succ]
          refine wpAnyM_take (i := 9) (v := ?_) (by simp only [List.getElem?_toArray, List.getElem?_cons_succ, List.getElem?_cons_zero] <;> rfl) (by kernel_rfl) (by kernel_rfl) (by kernel_rfl) (by kernel_rfl) (by kernel_rfl) (fun _ _ _ h => h) (Or.inl ⟨by rfl, ?_⟩) (by assumption) ?_
          rotate_left
          · (intro wv hSw; (try dsimp only at hSw); obtain ⟨hcq, _⟩ := bcell hSw; have hsq := Below.size hSw; go_simp; try with_reducible rfl)
          try simp only [Act.put, List.setIfInBounds_toArray, List.set_cons_zero, List.set_cons_succ]
          refine wpAnyM_ready (rs := [15]) (by kernel_rfl) (by simp) ?_
          refine AllReadyM.cons rfl (fun K hK => ?_) AllReadyM.nil
          go_simp
          refine Calls.mono (K2.out _) ?_
          rintro e w2 ⟨rfl, hb3⟩
          have hb4 := below_callS hHeld hb3
          go_wp2_with fail
          refine hK.out _ _ hb4 (fun hHeld => ?_)
          clear hK K
          try simp only [Act.put, List.setIfInBounds_toArray, List.set_cons_zero, List.set_cons_succ]
          rw [D2.out]
          refine wpAnyM_take (i := 16) (v := ?_) (by simp only [List.getElem?_toArray, List.getElem?_cons_succ, List.getElem?_cons_zero] <;> rfl) (by kernel_rfl) (by kernel_rfl) (by kernel_rfl) (by kernel_rfl) (by kernel_rfl) (fun _ _ _ h => h) (Or.inl ⟨by rfl, ?_⟩) (by assumption) ?_
          rotate_left
          · (intro wv hSw; (try dsimp only at hSw); obtain ⟨hcq, _⟩ := bcell hSw; have hsq := Below.size hSw; go_simp; try with_reducible rfl)
          try simp only [Act.put, List.setIfInBounds_toArray, List.set_cons_zero, List.set_cons_succ]
          refine wpAnyM_ready (rs := [17]) (by kernel_rfl) (by simp) ?_
          refine AllReadyM.last rfl (fun K hK => ?_)
          go_simp
          refine hK.out _ _ ?_
          clear hK K
          try simp only [Act.put, List.setIfInBounds_toArray, List.set_cons_zero, List.set_cons_succ]
          refine wpAnyM_done (by kernel_rfl) ?_ _
          refine NoPanic.normal ?_
          have HB2 := Lib.hid (below_call HB.out hb4 HB.out.size)
          clear hHeld hb1 hb2 hb3 hb4 K1 K2 c0 c1 c2
          go_wp2
          go_roundw
          case rel => exact ⟨k + 2, (t ++ ⟨#[38]⟩) ++ d1 ++ ⟨#[33]⟩ ++ d2, by rfl, by go_num, by omega, by rw [hs2]; omega, HB2, HT2⟩
          case measure => simp [intOf]; omega
        · have HT2 := Lib.hid (show (t ++ ⟨#[38]⟩) ++ d1 ++ ⟨#[61]⟩ ++ d2 = mkS (jnT 38 (l.map tT) (k + 1 + 1)) by
            rw [jn_succ hw, ← mkS_app, ← mkS_app, ← HTT.out, ← HT.out, ← ByteArray.append_assoc, ← ByteArray.append_assoc]; rfl)
          have hs2 : ((t ++ ⟨#[38]⟩) ++ d1 ++ ⟨#[61]⟩ ++ d2).size = t.size + 1 + d1.size + 1 + d2.size := by rw [ByteArray.size_append, ByteArray.size_append, ByteArray.size_append, ByteArray.size_append]; rfl
          clear hw HT
          go_wp2_with fail
          refine wp_region_noPanic ?_
          refine wp_region_M (L := 17) (S := fun wx => Below wr.heap.size wr wx) (by kernel_rfl) ?_ (fun hHeld => ?_)
          · exact (Below.refl _ _).drew
          refine wpAnyM_take (i := 0) (v := ?_) (by simp only [List.getElem?_toArray, List.getElem?_cons_succ, List.getElem?_cons_zero] <;> rfl) (by kernel_rfl) (by kernel_rfl) (by kernel_rfl) (by kernel_rfl) (by kernel_rfl) (fun _ _ _ h => h) (Or.inl ⟨by rfl, ?_⟩) (by assumption) ?_
          rotate_left
          · (intro wv hSw; (try dsimp only at hSw); obtain ⟨hcq, _⟩ := bcell hSw; have hsq := Below.size hSw; go_simp; try with_reducible rfl)
          try simp only [Act.put, List.setIfInBounds_toArray, List.set_cons_zero, List.set_cons_succ]
          refine wpAnyM_take (i := 1) (v := ?_) (by simp only [List.getElem?_toArray, List.getElem?_cons_succ, List.getElem?_cons_zero] <;> rfl) (by kernel_rfl) (by kernel_rfl) (by kernel_rfl) (by kernel_rfl) (by kernel_rfl) (fun _ _ _ h => h) (Or.inl ⟨by rfl, ?_⟩) (by assumption) ?_
          rotate_left
          · (intro wv hSw; (try dsimp only at hSw); obtain ⟨hcq, _⟩ := bcell hSw; have hsq := Below.size hSw; go_simp; try with_reducible rfl)
          try simp only [Act.put, List.setIfInBounds_toArray, List.set_cons_zero, List.set_cons_succ]
          refine wpAnyM_take (i := 2) (v := ?_) (by simp only [List.getElem?_toArray, List.getElem?_cons_succ, List.getElem?_cons_zero] <;> rfl) (by kernel_rfl) (by kernel_rfl) (by kernel_rfl) (by kernel_rfl) (by kernel_rfl) (fun _ _ _ h => h) (Or.inl ⟨by rfl, ?_⟩) (by assumption) ?_
          rotate_left
          · (intro wv hSw; (try dsimp only at hSw); obtain ⟨hcq, _⟩ := bcell hSw; have hsq := Below.size hSw; go_simp; try with_reducible rfl)
          try simp only [Act.put, List.setIfInBounds_toArray, List.set_cons_zero, List.set_cons_succ]
          refine wpAnyM_take (i := 3) (v := ?_) (by simp only [List.getElem?_toArray, List.getElem?_cons_succ, List.getElem?_cons_zero] <;> rfl) (by kernel_rfl) (by kernel_rfl) (by kernel_rfl) (by kernel_rfl) (by kernel_rfl) (fun _ _ _ h => h) (Or.inl ⟨by rfl, ?_⟩) (by assumption) ?_
          rotate_left
          · (intro wv hSw; (try dsimp only at hSw); obtain ⟨hcq, _⟩ := bcell hSw; have hsq := Below.size hSw; go_simp; try with_reducible rfl)
          try simp only [Act.put, List.setIfInBounds_toArray, List.set_cons_zero, List.set_cons_succ]
          refine wpAnyM_take (i := 4) (v := ?_) (by simp only [List.getElem?_toArray, List.getElem?_cons_succ, List.getElem?_cons_zero] <;> rfl) (by kernel_rfl) (by kernel_rfl) (by kernel_rfl) (by kernel_rfl) (by kernel_rfl) (fun _ _ _ h => h) (Or.inl ⟨by rfl, ?_⟩) (by assumption) ?_
          rotate_left
          · (intro wv hSw; (try dsimp only at hSw); obtain ⟨hcq, _⟩ := bcell hSw; have hsq := Below.size hSw; go_simp; try with_reducible rfl)
          try simp only [Act.put, List.setIfInBounds_toArray, List.set_cons_zero, List.set_cons_succ]
          refine wpAnyM_take (i := 5) (v := ?_) (by simp only [List.getElem?_toArray, List.getElem?_cons_succ, List.getElem?_cons_zero] <;> rfl) (by kernel_rfl) (by kernel_rfl) (by kernel_rfl) (by kernel_rfl) (by kernel_rfl) (fun _ _ _ h => h) (Or.inl ⟨by rfl, ?_⟩) (by assumption) ?_
          rotate_left
          · (intro wv hSw; (try dsimp only at hSw); obtain ⟨hcq, _⟩ := bcell hSw; have hsq := Below.size hSw; have p0 := (hcq _ _ hb).trans c0; have pl := Nat.lt_of_lt_of_le hb hsq; go_simp; try with_reducible rfl)
          try simp only [Act.put, List.setIfInBounds_toArray, List.set_cons_zero, List.set_cons_succ]
          refine wpAnyM_take (i := 8) (v := ?_) (by simp only [List.getElem?_toArray, List.getElem?_cons_succ, List.getElem?_cons_zero] <;> rfl) (by kernel_rfl) (by kernel_rfl) (by kernel_rfl) (by kernel_rfl) (by kernel_rfl) (fun _ _ _ h => h) (Or.inl ⟨by rfl, ?_⟩) (by assumption) ?_
          rotate_left
          · (intro wv hSw; (try dsimp only at hSw); obtain ⟨hcq, _⟩ := bcell hSw; have hsq := Below.size hSw; go_simp; try with_reducible rfl)
          try simp only [Act.put, List.setIfInBounds_toArray, List.set_cons_zero, List.set_cons_succ]
          refine wpAnyM_take (i := 10) (v := ?_) (by simp only [List.getElem?_toArray, List.getElem?_cons_succ, List.getElem?_cons_zero] <;> rfl) (by kernel_rfl) (by kernel_rfl) (by kernel_rfl) (by kernel_rfl) (by kernel_rfl) (fun _ _ _ h => h) (Or.inl ⟨by rfl, ?_⟩) (by assumption) ?_
          rotate_left
          · (intro wv hSw; (try dsimp only at hSw); obtain ⟨hcq, _⟩ := bcell hSw; have hsq := Below.size hSw; go_simp; try with_reducible rfl)
          try simp only [Act.put, List.setIfInBounds_toArray, List.set_cons_zero, List.set_cons_succ]
          refine wpAnyM_take (i := 11) (v := ?_) (by simp only [List.getElem?_toArray, List.getElem?_cons_succ, List.getElem?_cons_zero] <;> rfl) (by kernel_rfl) (by kernel_rfl) (by kernel_rfl) (by kernel_rfl) (by kernel_rfl) (fun _ _ _ h => h) (Or.inl ⟨by rfl, ?_⟩) (by assumption) ?_
          rotate_left
          · (intro wv hSw; (try dsimp only at hSw); obtain ⟨hcq, _⟩ := bcell hSw; have hsq := Below.size hSw; go_simp; try with_reducible rfl)
          try simp only [Act.put, List.setIfInBounds_toArray, List.set_cons_zero, List.set_cons_succ]
          refine wpAnyM_take (i := 12) (v := ?_) (by simp only [List.getElem?_toArray, List.getElem?_cons_succ, List.getElem?_cons_zero] <;> rfl) (by kernel_rfl) (by kernel_rfl) (by kernel_rfl) (by kernel_rfl) (by kernel_rfl) (fun _ _ _ h => h) (Or.inl ⟨by rfl, ?_⟩) (by assumption) ?_
          rotate_left
          · (intro wv hSw; (try dsimp only at hSw); obtain ⟨hcq, _⟩ := bcell hSw; have hsq := Below.size hSw; go_simp; try with_reducible rfl)
          try simp only [Act.put, List.setIfInBounds_toArray, List.set_cons_zero, List.set_cons_succ]
          refine wpAnyM_take (i := 13) (v := ?_) (by simp only [List.getElem?_toArray, List.getElem?_cons_succ, List.getElem?_cons_zero] <;> rfl) (by kernel_rfl) (by kernel_rfl) (by kernel_rfl) (by kernel_rfl) (by kernel_rfl) (fun _ _ _ h => h) (Or.inl ⟨by rfl, ?_⟩) (by assumption) ?_
          rotate_left
          · (intro wv hSw; (try dsimp only at hSw); obtain ⟨hcq, _⟩ := bcell hSw; have hsq := Below.size hSw; go_simp; try with_reducible rfl)
          try simp only [Act.put, List.setIfInBounds_toArray, List.set_cons_zero, List.set_cons_succ]
          refine wpAnyM_take (i := 14) (v := ?_) (by simp only [List.getElem?_toArray, List.getElem?_cons_succ, List.getElem?_cons_zero] <;> rfl) (by kernel_rfl) (by kernel_rfl) (by kernel_rfl) (by kernel_rfl) (by kernel_rfl) (fun _ _ _ h => h) (Or.inl ⟨by rfl, ?_⟩) (by assumption) ?_
          rotate_left
          · (intro wv hSw; (try dsimp only at hSw); obtain ⟨hcq, _⟩ := bcell hSw; have hsq := Below.size hSw; have p0 := (hcq _ _ hb).trans c1; have pl := Nat.lt_of_lt_of_le hb hsq; go_simp; try with_reducible rfl)
          try simp only [Act.put, List.setIfInBounds_toArray, List.set_cons_zero, List.set_cons_succ]
          refine wpAnyM_ready (rs := [6]) (by kernel_rfl) (by simp) ?_
          refine AllReadyM.cons rfl (fun K hK => ?_) AllReadyM.nil
          go_simp
          refine Calls.mono (K1.out _) ?_
          rintro e w1 ⟨rfl, hb1⟩
          have hb2 := below_callS hHeld hb1
          go_wp2_with fail
          refine hK.out _ _ hb2 (fun hHeld => ?_)
          clear hK K
          try simp only [Act.put, List.setIfInBounds_toArray, List.set_cons_zero, List.set_cons_succ]
          rw [D1.out]
          refine wpAnyM_take (i := 7) (v := ?_) (by simp only [List.getElem?_toArray, List.getElem?_cons_succ, List.getElem?_cons_zero] <;> rfl) (by kernel_rfl) (by kernel_rfl) (by kernel_rfl) (by kernel_rfl) (by kernel_rfl) (fun _ _ _ h => h) (Or.inl ⟨by rfl, ?_⟩) (by assumption) ?_
          rotate_left
          · (intro wv hSw; (try dsimp only at hSw); obtain ⟨hcq, _⟩ := bcell hSw; have hsq := Below.size hSw; go_simp; try with_reducible rfl)
          try simp only [Act.put, List.setIfInBounds_toArray, List.set_cons_zero, List.set_cons_succ]
          refine wpAnyM_take (i := 9) (v := ?_) (by simp only [List.getElem?_toArray, List.getElem?_cons_succ, List.getElem?_cons_zero] <;> rfl) (by kernel_rfl) (by kernel_rfl) (by kernel_rfl) (by kernel_rfl) (by kernel_rfl) (fun _ _ _ h => h) (Or.inl ⟨by rfl, ?_⟩) (by assumption) ?_
          rotate_left
          · (intro wv hSw; (try dsimp only at hSw); obtain ⟨hcq, _⟩ := bcell hSw; have hsq := Below.size hSw; go_simp; try with_reducible rfl)
          try simp only [Act.put, List.setIfInBounds_toArray, List.set_cons_zero, List.set_cons_succ]
          refine wpAnyM_ready (rs := [15]) (by kernel_rfl) (by simp) ?_
          refine AllReadyM.cons rfl (fun K hK => ?_) AllReadyM.nil
          go_simp
          refine Calls.mono (K2.out _) ?_
          rintro e w2 ⟨rfl, hb3⟩
          have hb4 := below_callS hHeld hb3
          go_wp2_with fail
          refine hK.out _ _ hb4 (fun hHeld => ?_)
          clear hK K
          try simp only [Act.put, List.setIfInBounds_toArray, List.set_cons_zero, List.set_cons_succ]
          rw [D2.out]
          refine wpAnyM_take (i := 16) (v := ?_) (by simp only [List.getElem?_toArray, List.getElem?_cons_succ, List.getElem?_cons_zero] <;> rfl) (by kernel_rfl) (by kernel_rfl) (by kernel_rfl) (by kernel_rfl) (by kernel_rfl) (fun _ _ _ h => h) (Or.inl ⟨by rfl, ?_⟩) (by assumption) ?_
          rotate_left
          · (intro wv hSw; (try dsimp only at hSw); obtain ⟨hcq, _⟩ := bcell hSw; have hsq := Below.size hSw; go_simp; try with_reducible rfl)
          try simp only [Act.put, List.setIfInBounds_toArray, List.set_cons_zero, List.set_cons_succ]
          refine wpAnyM_ready (rs := [17]) (by kernel_rfl) (by simp) ?_
          refine AllReadyM.last rfl (fun K hK => ?_)
          go_simp
          refine hK.out _ _ ?_
          clear hK K
          try simp only [Act.put, List.setIfInBounds_toArray, List.set_cons_zero, List.set_cons_succ]
          refine wpAnyM_done (by kernel_rfl) ?_ _
          refine NoPanic.normal ?_
          have HB2 := Lib.hid (below_call HB.out hb4 HB.out.size)
          clear hHeld hb1 hb2 hb3 hb4 K1 K2 c0 c1 c2
          go_wp2
          go_roundw
          case rel => exact ⟨k + 2, (t ++ ⟨#[38]⟩) ++ d1 ++ ⟨#[61]⟩ ++ d2, by rfl, by go_num, by omega, by rw [hs2]; omega, HB2, HT2⟩
          case measure => simp [intOf]; omega
    · obtain rfl : n = j := by omega
      have hlt' : ¬ (n : Int) < (n : Int) := by omega
      have hwl : (l.map tT).length = n := by rw [List.length_map]; exact HL.out
      by_cases h0 : n = 0
      · subst h0
        have ht0 : t = ⟨#[]⟩ := by have h := HT.out; rw [jn_zero] at h; exact h
        subst ht0
        have hws : l.map tT = [] := List.length_eq_zero_iff.1 hwl
        have HF := Lib.hid (show mkS (lT (l.map tT)) = ⟨#[45]⟩ by rw [hws]; rfl)
        clear HT hws hwl
        go_wp2
        go_ret
        exact ⟨by rw [HF.out]; rfl, HB.out⟩
      · have hne : l.map tT ≠ [] := fun e => by rw [e] at hwl; exact h0 hwl.symm
        have hps := jn_pos (sep := 38) (k := n) (ws := l.map tT) (fun x hx => by obtain ⟨y, _, rfl⟩ := List.mem_map.1 hx; exact tT_pos y) (by omega) (by omega)
        have HF := Lib.hid (show t = mkS (lT (l.map tT)) by rw [HT.out, jn_all hwl, lT_cons hne])
        have heq : (t.toList == (⟨#[]⟩ : ByteArray).toList) = false := by
          rw [str_eq, decide_eq_false_iff_not]
          intro e
          rw [HT.out, mkS_list] at e
          rw [e] at hps
          simp at hps
        have hie : t.toList.isEmpty = false := by simpa using heq
        clear HT hne hps hwl heq
        go_wp2
        go_ret
        exact ⟨by rw [← HF.out]; rfl, HB.out⟩
end Go.Proofs.YtfnamjkmkoldeaaGreatDoor
namespace Go.Proofs.YtfnamjkmkoldeaaGreatDoor
open Go.RowKit
set_option linter.unusedVariables false
set_option linter.unusedSimpArgs false
theorem aT_pos (t : I2) : 1 ≤ (aT t).length := by simp [aT]; omega
set_option maxRecDepth 100000 in
set_option maxHeartbeats 8000000 in
theorem spec_ModelText {sa ta ra : Option Addr} {sn sc tn tc rn rc : Nat} {sz st : List Int} {lr : List (RM × RuD)} {w : World} (hS : Ints w sa sn sc sz) (hT : Ints w ta tn tc st) (hR : FR w w ra rn rc lr) (hsn : sn ≤ 1048576) (htn : tn ≤ 1048576) (hrn : rn ≤ 1048576) :
    Calls Tryz.prog 37 #[.agg #[.slice sa sn sc, .slice ta tn tc, .slice ra rn rc]] w fun e w' => e = .returned (.string (mkS (mtT sz st lr))) ∧ Below w.heap.size w w' := by
  have K1 := Lib.hid (fun (wx : World) (hb : Below w.heap.size w wx) => spec_IsModel (hS.keep hb) hsn (hT.keep hb) htn (FR.keep hR hb hb) hrn)
  obtain ⟨wA, hwA⟩ : ∃ wA : World, wA = w.alloc (.cells #[.slice sa sn sc, .slice ta tn tc, .slice ra rn rc] 44) := ⟨_, rfl⟩
  have hsA : wA.heap.size = w.heap.size + 1 := by rw [hwA]; simp
  have hbA : Below w.heap.size w wA := by rw [hwA]; repeat (first | exact Below.refl _ _ | assumption | refine below_allocS ?_ _ | refine below_callS ?_ (by assumption) | (refine Below.alloc ?_ (by first | omega | (simp; done) | (simp; omega)) _) | (refine Below.setCell ?_ (by first | omega | (simp; done) | (simp; omega)) _) | refine Below.drew ?_ | refine below_drewN ?_ _ | (refine below_call ?_ (by assumption) (by first | omega | (simp; done) | (simp; omega))) | (refine Below.trans ?_ (by assumption)))
  have X := Lib.hid (show Blk wA w.heap.size #[.slice sa sn sc, .slice ta tn tc, .slice ra rn rc] 44 by rw [hwA]; exact Blk.made _ _ _)
  have x0 := X.out.cell 0
  have x1 := X.out.cell 1
  have x2 := X.out.cell 2
  have xl := X.out.lt
  simp at x0 x1 x2
  cases hm : modelB sz st lr with
  | false =>
    have HT := Lib.hid (show mtT sz st lr = [] by rw [mtT, if_neg (by rw [hm]; decide)])
    rw [hm] at K1
    clear hS hT hR hm
    go_enter Tryz.func37, Tryz.ntmps37
    go_wp2_with fail
    rw [← hwA]
    clear hwA
    go_wp2_with fail
    refine Calls.mono (K1.out _ hbA) ?_
    rintro e w1 ⟨rfl, hb1⟩
    have hb2 := below_callS hbA hb1
    go_wp2
    go_ret
    exact ⟨by rw [HT.out]; rfl, hb2⟩
  | true =>
    have HMT := Lib.hid (show mtT sz st lr = mdT sz st (lr.map (·.2)) by rw [mtT, if_pos hm])
    rw [hm] at K1
    obtain ⟨g1, g2, g3, g4, g5, g6⟩ := model_text hm
    have hsn' : sn ≤ 16 := by rw [← hS.len]; exact g4
    have htn' : tn ≤ 16 := by rw [← hT.len]; exact g5
    have hrn' : rn ≤ 200 := by rw [← hR.len]; exact g6
    have KS := Lib.hid (fun (wx : World) (hb : Below w.heap.size w wx) => spec_l20List (hS.keep hb) (by omega) g1)
    have KT := Lib.hid (fun (wx : World) (hb : Below w.heap.size w wx) => spec_l20List (hT.keep hb) (by omega) g2)
    have hs1 : (mkS (nT sz)).size ≤ 48 := by have := nT_len (l := sz) (fun x hx => (g1 x hx).2); rw [mkS_size]; omega
    have hs2 : (mkS (nT st)).size ≤ 48 := by have := nT_len (l := st) (fun x hx => (g2 x hx).2); rw [mkS_size]; omega
    have HR := Lib.hid hR
    have HRU := Lib.hid g3
    have hrl : (lr.map (·.2)).length = rn := by rw [List.length_map]; exact hR.len
    have HRL := Lib.hid hrl
    have HEV := Lib.hid (show mkS (nT sz) ++ mkS [32] ++ mkS (nT st) ++ mkS [10] = mkS (nT sz ++ [32] ++ nT st ++ [10]) by rw [mkS_app, mkS_app, mkS_app])
    have HMD := Lib.hid (show mdT sz st (lr.map (·.2)) = nT sz ++ [32] ++ nT st ++ [10] ++ rsT (lr.map (·.2)) from rfl)
    generalize nT sz ++ [32] ++ nT st ++ [10] = hd at *
    generalize mkS (nT sz) = t1 at *
    generalize mkS (nT st) = t2 at *
    have f1 : ¬ 9223372036854775807 < t1.size + 1 := by omega
    have f2 : ¬ 9223372036854775807 < t1.size + 1 + t2.size := by omega
    have f3 : ¬ 9223372036854775807 < t1.size + 1 + t2.size + 1 := by omega
    have hhd : (mkS hd).size ≤ 98 := by
      have h := congrArg ByteArray.size HEV.out
      rw [← h]
      have e1 : (t1 ++ mkS [32] ++ t2 ++ mkS [10]).size = t1.size + 1 + t2.size + 1 := by simp [mkS, ByteArray.size_append]; rfl
      rw [e1]; omega
    clear hS hT hR hm g1 g2 g3 g4 g5 g6 hrl hsn htn hrn
    go_enter Tryz.func37, Tryz.ntmps37
    go_wp2_with fail
    rw [← hwA]
    clear hwA
    go_wp2_with fail
    refine Calls.mono (K1.out _ hbA) ?_
    rintro e w1 ⟨rfl, hb1⟩
    have hbB := below_callS hbA hb1
    have X1 := Lib.hid (X.out.keep hb1)
    clear x0 x1 x2 xl X K1
    have x0 := X1.out.cell 0
    have x1 := X1.out.cell 1
    have xl := X1.out.lt
    have hs1' := hb1.size
    simp at x0 x1
    go_wp2_with fail
    refine wp_region_noPanic ?_
    refine wp_region_M (L := 9) (S := fun wx => Below w1.heap.size w1 wx) (by kernel_rfl) ?_ (fun hHeld => ?_)
    · exact (Below.refl _ _).drew
    refine wpAnyM_take (i := 0) (v := ?_) (by simp only [List.getElem?_toArray, List.getElem?_cons_succ, List.getElem?_cons_zero] <;> rfl) (by kernel_rfl) (by kernel_rfl) (by kernel_rfl) (by kernel_rfl) (by kernel_rfl) (fun _ _ _ h => h) (Or.inl ⟨by rfl, ?_⟩) (by assumption) ?_
    rotate_left
    · (intro wv hSw; (try dsimp only at hSw); obtain ⟨hcq, _⟩ := bcell hSw; have hsq := Below.size hSw; go_simp; try with_reducible rfl)
    try simp only [Act.put, List.setIfInBounds_toArray, List.set_cons_zero, List.set_cons_succ]
    refine wpAnyM_take (i := 1) (v := ?_) (by simp only [List.getElem?_toArray, List.getElem?_cons_succ, List.getElem?_cons_zero] <;> rfl) (by kernel_rfl) (by kernel_rfl) (by kernel_rfl) (by kernel_rfl) (by kernel_rfl) (fun _ _ _ h => h) (Or.inl ⟨by rfl, ?_⟩) (by assumption) ?_
    rotate_left
    · (intro wv hSw; (try dsimp only at hSw); obtain ⟨hcq, _⟩ := bcell hSw; have hsq := Below.size hSw; have p0 := (hcq _ _ xl).trans x0; have pl := Nat.lt_of_lt_of_le xl hsq; go_simp; try with_reducible rfl)
    try simp only [Act.put, List.setIfInBounds_toArray, List.set_cons_zero, List.set_cons_succ]
    refine wpAnyM_take (i := 4) (v := ?_) (by simp only [List.getElem?_toArray, List.getElem?_cons_succ, List.getElem?_cons_zero] <;> rfl) (by kernel_rfl) (by kernel_rfl) (by kernel_rfl) (by kernel_rfl) (by kernel_rfl) (fun _ _ _ h => h) (Or.inl ⟨by rfl, ?_⟩) (by assumption) ?_
    rotate_left
    · (intro wv hSw; (try dsimp only at hSw); obtain ⟨hcq, _⟩ := bcell hSw; have hsq := Below.size hSw; go_simp; try with_reducible rfl)
    try simp only [Act.put, List.setIfInBounds_toArray, List.set_cons_zero, List.set_cons_succ]
    refine wpAnyM_take (i := 5) (v := ?_) (by simp only [List.getElem?_toArray, List.getElem?_cons_succ, List.getElem?_cons_zero] <;> rfl) (by kernel_rfl) (by kernel_rfl) (by kernel_rfl) (by kernel_rfl) (by kernel_rfl) (fun _ _ _ h => h) (Or.inl ⟨by rfl, ?_⟩) (by assumption) ?_
    rotate_left
    · (intro wv hSw; (try dsimp only at hSw); obtain ⟨hcq, _⟩ := bcell hSw; have hsq := Below.size hSw; have p0 := (hcq _ _ xl).trans x1; have pl := Nat.lt_of_lt_of_le xl hsq; go_simp; try with_reducible rfl)
    try simp only [Act.put, List.setIfInBounds_toArray, List.set_cons_zero, List.set_cons_succ]
    refine wpAnyM_ready (rs := [2]) (by kernel_rfl) (by simp) ?_
    refine AllReadyM.cons rfl (fun K hK => ?_) AllReadyM.nil
    go_simp
    refine Calls.mono (KS.out _ (below_callS hbB hHeld)) ?_
    rintro e w2 ⟨rfl, hb2⟩
    have hb3 := below_callS hHeld hb2
    go_wp2_with fail
    refine hK.out _ _ hb3 (fun hHeld => ?_)
    clear hK K
    try simp only [Act.put, List.setIfInBounds_toArray, List.set_cons_zero, List.set_cons_succ]
    refine wpAnyM_take (i := 3) (v := ?_) (by simp only [List.getElem?_toArray, List.getElem?_cons_succ, List.getElem?_cons_zero] <;> rfl) (by kernel_rfl) (by kernel_rfl) (by kernel_rfl) (by kernel_rfl) (by kernel_rfl) (fun _ _ _ h => h) (Or.inl ⟨by rfl, ?_⟩) (by assumption) ?_
    rotate_left
    · (intro wv hSw; (try dsimp only at hSw); obtain ⟨hcq, _⟩ := bcell hSw; have hsq := Below.size hSw; go_simp; try with_reducible rfl)
    try simp only [Act.put, List.setIfInBounds_toArray, List.set_cons_zero, List.set_cons_succ]
    refine wpAnyM_ready (rs := [6]) (by kernel_rfl) (by simp) ?_
    refine AllReadyM.cons rfl (fun K hK => ?_) AllReadyM.nil
    go_simp
    refine Calls.mono (KT.out _ (below_callS hbB hHeld)) ?_
    rintro e w3 ⟨rfl, hb4⟩
    have hb5 := below_callS hHeld hb4
    go_wp2_with fail
    refine hK.out _ _ hb5 (fun hHeld => ?_)
    clear hK K
    try simp only [Act.put, List.setIfInBounds_toArray, List.set_cons_zero, List.set_cons_succ]
    refine wpAnyM_take (i := 7) (v := ?_) (by simp only [List.getElem?_toArray, List.getElem?_cons_succ, List.getElem?_cons_zero] <;> rfl) (by kernel_rfl) (by kernel_rfl) (by kernel_rfl) (by kernel_rfl) (by kernel_rfl) (fun _ _ _ h => h) (Or.inl ⟨by rfl, ?_⟩) (by assumption) ?_
    rotate_left
    · (intro wv hSw; (try dsimp only at hSw); obtain ⟨hcq, _⟩ := bcell hSw; have hsq := Below.size hSw; go_simp; try with_reducible rfl)
    try simp only [Act.put, List.setIfInBounds_toArray, List.set_cons_zero, List.set_cons_succ]
    refine wpAnyM_take (i := 8) (v := ?_) (by simp only [List.getElem?_toArray, List.getElem?_cons_succ, List.getElem?_cons_zero] <;> rfl) (by kernel_rfl) (by kernel_rfl) (by kernel_rfl) (by kernel_rfl) (by kernel_rfl) (fun _ _ _ h => h) (Or.inl ⟨by rfl, ?_⟩) (by assumption) ?_
    rotate_left
    · (intro wv hSw; (try dsimp only at hSw); obtain ⟨hcq, _⟩ := bcell hSw; have hsq := Below.size hSw; go_simp; try with_reducible rfl)
    try simp only [Act.put, List.setIfInBounds_toArray, List.set_cons_zero, List.set_cons_succ]
    refine wpAnyM_ready (rs := [9]) (by kernel_rfl) (by simp) ?_
    refine AllReadyM.last rfl (fun K hK => ?_)
    go_simp
    refine hK.out _ _ ?_
    clear hK K
    try simp only [Act.put, List.setIfInBounds_toArray, List.set_cons_zero, List.set_cons_succ]
    refine wpAnyM_done (by kernel_rfl) ?_ _
    refine NoPanic.normal ?_
    have hq : t1 ++ ⟨#[32]⟩ ++ t2 ++ ⟨#[10]⟩ = mkS hd := HEV.out
    rw [hq]
    have X3 := Lib.hid (X1.out.keep hb5)
    have HB3 := Lib.hid (below_callS hbB hb5)
    have hs3 := hb5.size
    clear x0 x1 xl hHeld hb1 hb2 hb3 hb4 hb5 hq KS KT X1 f1 f2 f3 hbA hbB
    go_wp2_with fail
    go_loopw [3, 4] (fun s3 s4 wr => ∃ (j : Nat) (t : ByteArray), s3 = .string t ∧ s4 = .int .i64 j ∧ j ≤ rn ∧ t.size ≤ 98 + 2001 * j ∧ Hid (Below w3.heap.size w3 wr) ∧ Hid (t = mkS (hd ++ rsT ((lr.map (·.2)).take j)))) (fun _ s4 _ => rn - (intOf s4).toNat)
    case atStart => exact ⟨0, mkS hd, rfl, rfl, by omega, by omega, Lib.hid (Below.refl _ _), Lib.hid (by simp [rsT])⟩
    case round =>
      obtain ⟨j, t, rfl, rfl, hj, htz, HB, HT⟩ := hrel
      have X := X3.out.keep HB.out
      have x2 := X.cell 2
      have xl := X.lt
      simp at x2
      clear X
      by_cases hlt : j < rn
      · have hlt' : (j : Int) < (rn : Int) := by omega
        have hj0 : (0 : Int) ≤ (j : Int) := by omega
        have hbw := below_call HB3.out HB.out HB3.out.size
        have HBW := Lib.hid hbw
        obtain ⟨br, or', R2, r2, rfl, hbr2, hxr, hru2, d0, d1, d2⟩ := FR.get (w0 := w) (Flats.keep HR.out hbw) hlt
        have hrq : (lr.map (·.2))[j]? = some r2 := by rw [List.getElem?_map, hxr]; rfl
        have hrs := HRU.out r2 (List.mem_of_getElem? hrq)
        obtain ⟨hru_a, hru_b, hru_c, hru_d, hru_e, hru_f⟩ := hru2
        simp only at hru_a
        rw [hru_a] at d0
        have HRS := Lib.hid hrs
        have HE := Lib.hid (hru_e.keep hbw)
        have hen : R2.en ≤ 100 := by rw [← hru_e.len]; exact hrs.el
        have hgn : R2.gn ≤ 100 := by rw [← hru_c.len]; exact hrs.gl
        have KG := Lib.hid (fun (wx : World) (hx : Below wr.heap.size wr wx) => spec_l20TestsText ((hru_c.keep hbw).keep hx) hgn hrs.g)
        have hg1 : (mkS (lT (r2.g.map tT))).size ≤ 601 := hrs.gT
        have he1 : (mkS (lT (r2.e.map aT))).size ≤ 601 := hrs.eT
        have hnm : r2.nm.size ≤ 100 := hrs.nm
        have htx := hrs.len
        have HT2 := Lib.hid (show t ++ r2.nm ++ ⟨#[32]⟩ ++ mkS (lT (r2.g.map tT)) ++ ⟨#[32]⟩ ++ mkS (lT (r2.e.map aT)) ++ ⟨#[10]⟩ = mkS (hd ++ rsT ((lr.map (·.2)).take (j + 1))) by
          rw [rsT_take hrq, HT.out, rT, show (⟨#[32]⟩ : ByteArray) = mkS [32] from rfl, show (⟨#[10]⟩ : ByteArray) = mkS [10] from rfl, show r2.nm = mkS r2.nm.data.toList from rfl]
          simp only [mkS_app, List.append_assoc, mkS_list])
        have hsz : (t ++ r2.nm ++ ⟨#[32]⟩ ++ mkS (lT (r2.g.map tT)) ++ ⟨#[32]⟩ ++ mkS (lT (r2.e.map aT)) ++ ⟨#[10]⟩).size = t.size + r2.nm.size + 1 + (mkS (lT (r2.g.map tT))).size + 1 + (mkS (lT (r2.e.map aT))).size + 1 := by
          simp only [ByteArray.size_append]; rfl
        have HEW := Lib.hid (show (r2.e.map aT).length = R2.en by rw [List.length_map]; exact hru_e.len)
        have HLE := Lib.hid (show ∀ u : List UInt8, (r2.e.map aT) ≠ [] → u = jnT 38 (r2.e.map aT) R2.en → u = lT (r2.e.map aT) from fun u hne hu => by rw [hu, lT_cons hne, jn_all (by rw [List.length_map]; exact hru_e.len)])
        have HLN := Lib.hid (show R2.en = 0 → mkS (lT (r2.e.map aT)) = ⟨#[45]⟩ from fun h0 => by
          have : r2.e.map aT = [] := List.length_eq_zero_iff.1 (by rw [List.length_map, hru_e.len, h0])
          rw [this]; rfl)
        have HSZ := Lib.hid (show (t ++ r2.nm ++ ⟨#[32]⟩ ++ mkS (lT (r2.g.map tT)) ++ ⟨#[32]⟩ ++ mkS (lT (r2.e.map aT)) ++ ⟨#[10]⟩).size ≤ 98 + 2001 * (j + 1) by omega)
        obtain ⟨gt, hgt⟩ : ∃ gt, mkS (lT (r2.g.map tT)) = gt := ⟨_, rfl⟩
        rw [hgt] at HT2 HSZ hg1 hsz KG
        clear hgt
        clear hxr hrq hrs hru_a hru_b hru_c hru_d hru_e hru_f htx hsz hbw
        go_wp2_with fail
        go_loopw [5, 6] (fun s5 s6 wq => ∃ (k : Nat) (u : ByteArray), s5 = .string u ∧ s6 = .int .i64 k ∧ k ≤ R2.en ∧ u.size ≤ 6 * k ∧ Hid (Below wr.heap.size wr wq) ∧ Hid (u = mkS (jnT 38 (r2.e.map aT) k))) (fun _ s6 _ => R2.en - (intOf s6).toNat)
        case atStart => exact ⟨0, ⟨#[]⟩, rfl, rfl, by omega, by decide, Lib.hid (Below.refl _ _), Lib.hid (by rw [jn_zero]; rfl)⟩
        case round =>
          obtain ⟨k, u, rfl, rfl, hk, huz, HQ, HU⟩ := hrel
          have hcq0 := (bcell HQ.out).1
          have y2 := (hcq0 _ _ xl).trans x2
          have yl := Nat.lt_of_lt_of_le xl HQ.out.size
          have ybr := Nat.lt_of_lt_of_le hbr2 HQ.out.size
          have yd0 := (hcq0 _ _ hbr2).trans d0
          have yd1 := (hcq0 _ _ hbr2).trans d1
          have yd2 := (hcq0 _ _ hbr2).trans d2
          clear hcq0
          by_cases hkl : k < R2.en
          · have hkl' : (k : Int) < (R2.en : Int) := by omega
            have hk0 : (0 : Int) ≤ (k : Int) := by omega
            obtain ⟨be, oe, x, hea, hbe, hx, hwf, c0, c1⟩ := F2.get (HE.out.keep HQ.out) hkl
            rw [hea] at yd2
            have hxv := HRS.out.e x (List.mem_of_getElem? hx)
            obtain ⟨xa, xb⟩ := x
            simp only at hxv c0 c1
            obtain ⟨q1, rfl⟩ := Int.eq_ofNat_of_zero_le hxv.1
            obtain ⟨q2, rfl⟩ := Int.eq_ofNat_of_zero_le hxv.2.2.1
            have hd1 : (mkS (Lib.decDigits q1)).size ≤ 2 := by have := dd_len (x := (q1 : Int)) (by omega); rw [dd, Int.toNat_natCast] at this; exact this
            have hd2 : (mkS (Lib.decDigits q2)).size ≤ 2 := by have := dd_len (x := (q2 : Int)) (by omega); rw [dd, Int.toNat_natCast] at this; exact this
            have hw : (r2.e.map aT)[k]? = some (aT ⟨(q1 : Int), (q2 : Int)⟩) := by rw [List.getElem?_map, hx]; rfl
            have HTT := Lib.hid (show mkS (Lib.decDigits q1) ++ mkS [58] ++ mkS (Lib.decDigits q2) = mkS (aT ⟨(q1 : Int), (q2 : Int)⟩) by
              rw [mkS_app, mkS_app, aT, dd, dd, Int.toNat_natCast, Int.toNat_natCast])
            have K1 := Lib.hid (fun (wx : World) => spec_l01Dec (n := q1) (w := wx) (by omega))
            have K2 := Lib.hid (fun (wx : World) => spec_l01Dec (n := q2) (w := wx) (by omega))
            obtain ⟨d1, hd1e⟩ : ∃ d1, decS q1 = d1 := ⟨_, rfl⟩
            obtain ⟨d2, hd2e⟩ : ∃ d2, decS q2 = d2 := ⟨_, rfl⟩
            have D1 := Lib.hid hd1e
            have D2 := Lib.hid hd2e
            rw [show mkS (Lib.decDigits q1) = d1 from hd1e] at hd1 HTT
            rw [show mkS (Lib.decDigits q2) = d2 from hd2e] at hd2 HTT
            by_cases h0 : k = 0
            · subst h0
              simp only [Nat.zero_mul, Nat.add_zero] at c0 c1
              have ht0 : u = ⟨#[]⟩ := by have h := HU.out; rw [jn_zero] at h; exact h
              subst ht0
              have hz : (⟨#[]⟩ : ByteArray).size = 0 := rfl
              have hap : ∀ s : ByteArray, (⟨#[]⟩ : ByteArray) ++ s = s := fun s => by apply ByteArray.ext; simp
              have e0 : ¬ 9223372036854775807 < d1.size := by omega
              have e1 : ¬ 9223372036854775807 < d1.size + 1 := by omega
              have e2 : ¬ 9223372036854775807 < d1.size + 1 + d2.size := by omega
              have f0 : ¬ 9223372036854775807 < (⟨#[]⟩ : ByteArray).size + d1.size := by omega
              have f1 : ¬ 9223372036854775807 < (⟨#[]⟩ : ByteArray).size + d1.size + 1 := by omega
              have f2 : ¬ 9223372036854775807 < (⟨#[]⟩ : ByteArray).size + d1.size + 1 + d2.size := by omega
              have HU2 := Lib.hid (show (⟨#[]⟩ : ByteArray) ++ d1 ++ ⟨#[58]⟩ ++ d2 = mkS (jnT 38 (r2.e.map aT) (0 + 1)) by
                rw [jn_one hw, hap]; exact HTT.out)
              have hs2 : ((⟨#[]⟩ : ByteArray) ++ d1 ++ ⟨#[58]⟩ ++ d2).size = d1.size + 1 + d2.size := by rw [hap, ByteArray.size_append, ByteArray.size_append]; rfl
              clear hx hwf hxv hd1e hd2e hw HU hea yd0 yd1
              go_wp2_with fail
              refine wp_region_noPanic ?_
              refine wp_region_M (L := 26) (S := fun wx => Below wr.heap.size wr wx) (by kernel_rfl) ?_ (fun hHeld => ?_)
              · exact (Below.refl _ _).drew
              refine wpAnyM_take (i := 0) (v := ?_) (by simp only [List.getElem?_toArray, List.getElem?_cons_succ, List.getElem?_cons_zero] <;> rfl) (by kernel_rfl) (by kernel_rfl) (by kernel_rfl) (by kernel_rfl) (by kernel_rfl) (fun _ _ _ h => h) (Or.inl ⟨by rfl, ?_⟩) (by assumption) ?_
              rotate_left
              · (intro wv hSw; (try dsimp only at hSw); obtain ⟨hcq, _⟩ := bcell hSw; have hsq := Below.size hSw; go_simp; try with_reducible rfl)
              try simp only [Act.put, List.setIfInBounds_toArray, List.set_cons_zero, List.set_cons_succ]
              refine wpAnyM_take (i := 1) (v := ?_) (by simp only [List.getElem?_toArray, List.getElem?_cons_succ, List.getElem?_cons_zero] <;> rfl) (by kernel_rfl) (by kernel_rfl) (by kernel_rfl) (by kernel_rfl) (by kernel_rfl) (fun _ _ _ h => h) (Or.inl ⟨by rfl, ?_⟩) (by assumption) ?_
              rotate_left
              · (intro wv hSw; (try dsimp only at hSw); obtain ⟨hcq, _⟩ := bcell hSw; have hsq := Below.size hSw; go_simp; try with_reducible rfl)
              try simp only [Act.put, List.setIfInBounds_toArray, List.set_cons_zero, List.set_cons_succ]
              refine wpAnyM_take (i := 2) (v := ?_) (by simp only [List.getElem?_toArray, List.getElem?_cons_succ, List.getElem?_cons_zero] <;> rfl) (by kernel_rfl) (by kernel_rfl) (by kernel_rfl) (by kernel_rfl) (by kernel_rfl) (fun _ _ _ h => h) (Or.inl ⟨by rfl, ?_⟩) (by assumption) ?_
              rotate_left
              · (intro wv hSw; (try dsimp only at hSw); obtain ⟨hcq, _⟩ := bcell hSw; have hsq := Below.size hSw; have p0 := (hcq _ _ yl).trans y2; have pl := Nat.lt_of_lt_of_le yl hsq; go_simp; try with_reducible rfl)
              try simp only [Act.put, List.setIfInBounds_toArray, List.set_cons_zero, List.set_cons_succ]
              refine wpAnyM_take (i := 3) (v := ?_) (by simp only [List.getElem?_toArray, List.getElem?_cons_succ, List.getElem?_cons_zero] <;> rfl) (by kernel_rfl) (by kernel_rfl) (by kernel_rfl) (by kernel_rfl) (by kernel_rfl) (fun _ _ _ h => h) (Or.inl ⟨by rfl, ?_⟩) (by assumption) ?_
              rotate_left
              · (intro wv hSw; (try dsimp only at hSw); obtain ⟨hcq, _⟩ := bcell hSw; have hsq := Below.size hSw; go_simp; try with_reducible rfl)
              try simp only [Act.put, List.setIfInBounds_toArray, List.set_cons_zero, List.set_cons_succ]
              refine wpAnyM_take (i := 4) (v := ?_) (by simp only [List.getElem?_toArray, List.getElem?_cons_succ, List.getElem?_cons_zero] <;> rfl) (by kernel_rfl) (by kernel_rfl) (by kernel_rfl) (by kernel_rfl) (by kernel_rfl) (fun _ _ _ h => h) (Or.inl ⟨by rfl, ?_⟩) (by assumption) ?_
              rotate_left
              · (intro wv hSw; (try dsimp only at hSw); obtain ⟨hcq, _⟩ := bcell hSw; have hsq := Below.size hSw; go_simp; try with_reducible rfl)
              try simp only [Act.put, List.setIfInBounds_toArray, List.set_cons_zero, List.set_cons_succ]
              refine wpAnyM_take (i := 5) (v := ?_) (by simp only [List.getElem?_toArray, List.getElem?_cons_succ, List.getElem?_cons_zero] <;> rfl) (by kernel_rfl) (by kernel_rfl) (by kernel_rfl) (by kernel_rfl) (by kernel_rfl) (fun _ _ _ h => h) (Or.inl ⟨by rfl, ?_⟩) (by assumption) ?_
              rotate_left
              · (intro wv hSw; (try dsimp only at hSw); obtain ⟨hcq, _⟩ := bcell hSw; have hsq := Below.size hSw; go_simp; try with_reducible rfl)
              try simp only [Act.put, List.setIfInBounds_toArray, List.set_cons_zero, List.set_cons_succ]
              refine wpAnyM_take (i := 6) (v := ?_) (by simp only [List.getElem?_toArray, List.getElem?_cons_succ, List.getElem?_cons_zero] <;> rfl) (by kernel_rfl) (by kernel_rfl) (by kernel_rfl) (by kernel_rfl) (by kernel_rfl) (fun _ _ _ h => h) (Or.inl ⟨by rfl, ?_⟩) (by assumption) ?_
              rotate_left
              · (intro wv hSw; (try dsimp only at hSw); obtain ⟨hcq, _⟩ := bcell hSw; have hsq := Below.size hSw; have p0 := (hcq _ _ ybr).trans yd2; have pl := Nat.lt_of_lt_of_le ybr hsq; go_simp; try with_reducible rfl)
              try simp only [Act.put, List.setIfInBounds_toArray, List.set_cons_zero, List.set_cons_succ]
              refine wpAnyM_take (i := 7) (v := ?_) (by simp only [List.getElem?_toArray, List.getElem?_cons_succ, List.getElem?_cons_zero] <;> rfl) (by kernel_rfl) (by kernel_rfl) (by kernel_rfl) (by kernel_rfl) (by kernel_rfl) (fun _ _ _ h => h) (Or.inl ⟨by rfl, ?_⟩) (by assumption) ?_
              rotate_left
              · (intro wv hSw; (try dsimp only at hSw); obtain ⟨hcq, _⟩ := bcell hSw; have hsq := Below.size hSw; go_simp; try with_reducible rfl)
              try simp only [Act.put, List.setIfInBounds_toArray, List.set_cons_zero, List.set_cons_succ]
              refine wpAnyM_take (i := 8) (v := ?_) (by simp only [List.getElem?_toArray, List.getElem?_cons_succ, List.getElem?_cons_zero] <;> rfl) (by kernel_rfl) (by kernel_rfl) (by kernel_rfl) (by kernel_rfl) (by kernel_rfl) (fun _ _ _ h => h) (Or.inl ⟨by rfl, ?_⟩) (by assumption) ?_
              rotate_left
              · (intro wv hSw; (try dsimp only at hSw); obtain ⟨hcq, _⟩ := bcell hSw; have hsq := Below.size hSw; go_simp; try with_reducible rfl)
              try simp only [Act.put, List.setIfInBounds_toArray, List.set_cons_zero, List.set_cons_succ]
              refine wpAnyM_take (i := 9) (v := ?_) (by simp only [List.getElem?_toArray, List.getElem?_cons_succ, List.getElem?_cons_zero] <;> rfl) (by kernel_rfl) (by kernel_rfl) (by kernel_rfl) (by kernel_rfl) (by kernel_rfl) (fun _ _ _ h => h) (Or.inl ⟨by rfl, ?_⟩) (by assumption) ?_
              rotate_left
              · (intro wv hSw; (try dsimp only at hSw); obtain ⟨hcq, _⟩ := bcell hSw; have hsq := Below.size hSw; go_simp; try with_reducible rfl)
              try simp only [Act.put, List.setIfInBounds_toArray, List.set_cons_zero, List.set_cons_succ]
              refine wpAnyM_take (i := 10) (v := ?_) (by simp only [List.getElem?_toArray, List.getElem?_cons_succ, List.getElem?_cons_zero] <;> rfl) (by kernel_rfl) (by kernel_rfl) (by kernel_rfl) (by kernel_rfl) (by kernel_rfl) (fun _ _ _ h => h) (Or.inl ⟨by rfl, ?_⟩) (by assumption) ?_
              rotate_left
              · (intro wv hSw; (try dsimp only at hSw); obtain ⟨hcq, _⟩ := bcell hSw; have hsq := Below.size hSw; have p0 := (hcq _ _ hbe).trans c0; have pl := Nat.lt_of_lt_of_le hbe hsq; go_simp; try with_reducible rfl)
              try simp only [Act.put, List.setIfInBounds_toArray, List.set_cons_zero, List.set_cons_succ]
              refine wpAnyM_take (i := 14) (v := ?_) (by simp only [List.getElem?_toArray, List.getElem?_cons_succ, List.getElem?_cons_zero] <;> rfl) (by kernel_rfl) (by kernel_rfl) (by kernel_rfl) (by kernel_rfl) (by kernel_rfl) (fun _ _ _ h => h) (Or.inl ⟨by rfl, ?_⟩) (by assumption) ?_
              rotate_left
              · (intro wv hSw; (try dsimp only at hSw); obtain ⟨hcq, _⟩ := bcell hSw; have hsq := Below.size hSw; go_simp; try with_reducible rfl)
              try simp only [Act.put, List.setIfInBounds_toArray, List.set_cons_zero, List.set_cons_succ]
              refine wpAnyM_take (i := 15) (v := ?_) (by simp only [List.getElem?_toArray, List.getElem?_cons_succ, List.getElem?_cons_zero] <;> rfl) (by kernel_rfl) (by kernel_rfl) (by kernel_rfl) (by kernel_rfl) (by kernel_rfl) (fun _ _ _ h => h) (Or.inl ⟨by rfl, ?_⟩) (by assumption) ?_
              rotate_left
              · (intro wv hSw; (try dsimp only at hSw); obtain ⟨hcq, _⟩ := bcell hSw; have hsq := Below.size hSw; have p0 := (hcq _ _ yl).trans y2; have pl := Nat.lt_of_lt_of_le yl hsq; go_simp; try with_reducible rfl)
              try simp only [Act.put, List.setIfInBounds_toArray, List.set_cons_zero, List.set_cons_succ]
              refine wpAnyM_take (i := 16) (v := ?_) (by simp only [List.getElem?_toArray, List.getElem?_cons_succ, List.getElem?_cons_zero] <;> rfl) (by kernel_rfl) (by kernel_rfl) (by kernel_rfl) (by kernel_rfl) (by kernel_rfl) (fun _ _ _ h => h) (Or.inl ⟨by rfl, ?_⟩) (by assumption) ?_
              rotate_left
              · (intro wv hSw; (try dsimp only at hSw); obtain ⟨hcq, _⟩ := bcell hSw; have hsq := Below.size hSw; go_simp; try with_reducible rfl)
              try simp only [Act.put, List.setIfInBounds_toArray, List.set_cons_zero, List.set_cons_succ]
              refine wpAnyM_take (i := 17) (v := ?_) (by simp only [List.getElem?_toArray, List.getElem?_cons_succ, List.getElem?_cons_zero] <;> rfl) (by kernel_rfl) (by kernel_rfl) (by kernel_rfl) (by kernel_rfl) (by kernel_rfl) (fun _ _ _ h => h) (Or.inl ⟨by rfl, ?_⟩) (by assumption) ?_
              rotate_left
              · (intro wv hSw; (try dsimp only at hSw); obtain ⟨hcq, _⟩ := bcell hSw; have hsq := Below.size hSw; go_simp; try with_reducible rfl)
              try simp only [Act.put, List.setIfInBounds_toArray, List.set_cons_zero, List.set_cons_succ]
              refine wpAnyM_take (i := 18) (v := ?_) (by simp only [List.getElem?_toArray, List.getElem?_cons_succ, List.getElem?_cons_zero] <;> rfl) (by kernel_rfl) (by kernel_rfl) (by kernel_rfl) (by kernel_rfl) (by kernel_rfl) (fun _ _ _ h => h) (Or.inl ⟨by rfl, ?_⟩) (by assumption) ?_
              rotate_left
              · (intro wv hSw; (try dsimp only at hSw); obtain ⟨hcq, _⟩ := bcell hSw; have hsq := Below.size hSw; go_simp; try with_reducible rfl)
              try simp only [Act.put, List.setIfInBounds_toArray, List.set_cons_zero, List.set_cons_succ]
              refine wpAnyM_take (i := 19) (v := ?_) (by simp only [List.getElem?_toArray, List.getElem?_cons_succ, List.getElem?_cons_zero] <;> rfl) (by kernel_rfl) (by kernel_rfl) (by kernel_rfl) (by kernel_rfl) (by kernel_rfl) (fun _ _ _ h => h) (Or.inl ⟨by rfl, ?_⟩) (by assumption) ?_
              rotate_left
              · (intro wv hSw; (try dsimp only at hSw); obtain ⟨hcq, _⟩ := bcell hSw; have hsq := Below.size hSw; have p0 := (hcq _ _ ybr).trans yd2; have pl := Nat.lt_of_lt_of_le ybr hsq; go_simp; try with_reducible rfl)
              try simp only [Act.put, List.setIfInBounds_toArray, List.set_cons_zero, List.set_cons_succ]
              refine wpAnyM_take (i := 20) (v := ?_) (by simp only [List.getElem?_toArray, List.getElem?_cons_succ, List.getElem?_cons_zero] <;> rfl) (by kernel_rfl) (by kernel_rfl) (by kernel_rfl) (by kernel_rfl) (by kernel_rfl) (fun _ _ _ h => h) (Or.inl ⟨by rfl, ?_⟩) (by assumption) ?_
              rotate_left
              · (intro wv hSw; (try dsimp only at hSw); obtain ⟨hcq, _⟩ := bcell hSw; have hsq := Below.size hSw; go_simp; try with_reducible rfl)
              try simp only [Act.put, List.setIfInBounds_toArray, List.set_cons_zero, List.set_cons_succ]
              refine wpAnyM_take (i := 21) (v := ?_) (by simp only [List.getElem?_toArray, List.getElem?_cons_succ, List.getElem?_cons_zero] <;> rfl) (by kernel_rfl) (by kernel_rfl) (by kernel_rfl) (by kernel_rfl) (by kernel_rfl) (fun _ _ _ h => h) (Or.inl ⟨by rfl, ?_⟩) (by assumption) ?_
              rotate_left
              · (intro wv hSw; (try dsimp only at hSw); obtain ⟨hcq, _⟩ := bcell hSw; have hsq := Below.size hSw; go_simp; try with_reducible rfl)
              try simp only [Act.put, List.setIfInBounds_toArray, List.set_cons_zero, List.set_cons_succ]
              refine wpAnyM_take (i := 22) (v := ?_) (by simp only [List.getElem?_toArray, List.getElem?_cons_succ, List.getElem?_cons_zero] <;> rfl) (by kernel_rfl) (by kernel_rfl) (by kernel_rfl) (by kernel_rfl) (by kernel_rfl) (fun _ _ _ h => h) (Or.inl ⟨by rfl, ?_⟩) (by assumption) ?_
              rotate_left
              · (intro wv hSw; (try dsimp only at hSw); obtain ⟨hcq, _⟩ := bcell hSw; have hsq := Below.size hSw; go_simp; try with_reducible rfl)
              try simp only [Act.put, List.setIfInBounds_toArray, List.set_cons_zero, List.set_cons_succ]
              refine wpAnyM_take (i := 23) (v := ?_) (by simp only [List.getElem?_toArray, List.getElem?_cons_succ, List.getElem?_cons_zero] <;> rfl) (by kernel_rfl) (by kernel_rfl) (by kernel_rfl) (by kernel_rfl) (by kernel_rfl) (fun _ _ _ h => h) (Or.inl ⟨by rfl, ?_⟩) (by assumption) ?_
              rotate_left
              · (intro wv hSw; (try dsimp only at hSw); obtain ⟨hcq, _⟩ := bcell hSw; have hsq := Below.size hSw; have p0 := (hcq _ _ hbe).trans c1; have pl := Nat.lt_of_lt_of_le hbe hsq; go_simp; try with_reducible rfl)
              try simp only [Act.put, List.setIfInBounds_toArray, List.set_cons_zero, List.set_cons_succ]
              refine wpAnyM_ready (rs := [11]) (by kernel_rfl) (by simp) ?_
              refine AllReadyM.cons rfl (fun K hK => ?_) AllReadyM.nil
              go_simp
              refine Calls.mono (K1.out _) ?_
              rintro e w1 ⟨rfl, hb1⟩
              have hb2 := below_callS hHeld hb1
              go_wp2_with fail
              refine hK.out _ _ hb2 (fun hHeld => ?_)
              clear hK K
              try simp only [Act.put, List.setIfInBounds_toArray, List.set_cons_zero, List.set_cons_succ]
              rw [D1.out]
              refine wpAnyM_take (i := 12) (v := ?_) (by simp only [List.getElem?_toArray, List.getElem?_cons_succ, List.getElem?_cons_zero] <;> rfl) (by kernel_rfl) (by kernel_rfl) (by kernel_rfl) (by kernel_rfl) (by kernel_rfl) (fun _ _ _ h => h) (Or.inl ⟨by rfl, ?_⟩) (by assumption) ?_
              rotate_left
              · (intro wv hSw; (try dsimp only at hSw); obtain ⟨hcq, _⟩ := bcell hSw; have hsq := Below.size hSw; go_simp; try with_reducible rfl)
              try simp only [Act.put, List.setIfInBounds_toArray, List.set_cons_zero, List.set_cons_succ]
              refine wpAnyM_take (i := 13) (v := ?_) (by simp only [List.getElem?_toArray, List.getElem?_cons_succ, List.getElem?_cons_zero] <;> rfl) (by kernel_rfl) (by kernel_rfl) (by kernel_rfl) (by kernel_rfl) (by kernel_rfl) (fun _ _ _ h => h) (Or.inl ⟨by rfl, ?_⟩) (by assumption) ?_
              rotate_left
              · (intro wv hSw; (try dsimp only at hSw); obtain ⟨hcq, _⟩ := bcell hSw; have hsq := Below.size hSw; go_simp; try with_reducible rfl)
              try simp only [Act.put, List.setIfInBounds_toArray, List.set_cons_zero, List.set_cons_succ]
              refine wpAnyM_ready (rs := [24]) (by kernel_rfl) (by simp) ?_
              refine AllReadyM.cons rfl (fun K hK => ?_) AllReadyM.nil
              go_simp
              refine Calls.mono (K2.out _) ?_
              rintro e w2 ⟨rfl, hb3⟩
              have hb4 := below_callS hHeld hb3
              go_wp2_with fail
              refine hK.out _ _ hb4 (fun hHeld => ?_)
              clear hK K
              try simp only [Act.put, List.setIfInBounds_toArray, List.set_cons_zero, List.set_cons_succ]
              rw [D2.out]
              refine wpAnyM_take (i := 25) (v := ?_) (by simp only [List.getElem?_toArray, List.getElem?_cons_succ, List.getElem?_cons_zero] <;> rfl) (by kernel_rfl) (by kernel_rfl) (by kernel_rfl) (by kernel_rfl) (by kernel_rfl) (fun _ _ _ h => h) (Or.inl ⟨by rfl, ?_⟩) (by assumption) ?_
              rotate_left
              · (intro wv hSw; (try dsimp only at hSw); obtain ⟨hcq, _⟩ := bcell hSw; have hsq := Below.size hSw; go_simp; try with_reducible rfl)
              try simp only [Act.put, List.setIfInBounds_toArray, List.set_cons_zero, List.set_cons_succ]
              refine wpAnyM_ready (rs := [26]) (by kernel_rfl) (by simp) ?_
              refine AllReadyM.last rfl (fun K hK => ?_)
              go_simp
              refine hK.out _ _ ?_
              clear hK K
              try simp only [Act.put, List.setIfInBounds_toArray, List.set_cons_zero, List.set_cons_succ]
              refine wpAnyM_done (by kernel_rfl) ?_ _
              refine NoPanic.normal ?_
              have HQ2 := Lib.hid (below_call HQ.out hb4 HQ.out.size)
              clear hHeld hb1 hb2 hb3 hb4 K1 K2 c0 c1 y2 yl ybr yd2 hbe
              go_wp2
              go_roundw
              case rel => exact ⟨1, ⟨#[]⟩ ++ d1 ++ ⟨#[58]⟩ ++ d2, by rfl, by go_num, by omega, by rw [hs2]; omega, HQ2, HU2⟩
              case measure => simp [intOf]; omega
            · obtain ⟨k, rfl⟩ : ∃ q, k = q + 1 := ⟨k - 1, by omega⟩
              have hk1 : (0 : Int) < (k : Int) + 1 := by omega
              have hk9 : (0 : Int) ≤ (k : Int) + 1 := by omega
              have f0 : ¬ 9223372036854775807 < u.size + 1 := by omega
              have f1 : ¬ 9223372036854775807 < u.size + 1 + d1.size := by omega
              have f2 : ¬ 9223372036854775807 < u.size + 1 + d1.size + 1 := by omega
              have f3 : ¬ 9223372036854775807 < u.size + 1 + d1.size + 1 + d2.size := by omega
              have HU2 := Lib.hid (show (u ++ ⟨#[38]⟩) ++ d1 ++ ⟨#[58]⟩ ++ d2 = mkS (jnT 38 (r2.e.map aT) (k + 1 + 1)) by
                rw [jn_succ hw, ← mkS_app, ← mkS_app, ← HTT.out, ← HU.out, ← ByteArray.append_assoc, ← ByteArray.append_assoc]; rfl)
              have hs2 : ((u ++ ⟨#[38]⟩) ++ d1 ++ ⟨#[58]⟩ ++ d2).size = u.size + 1 + d1.size + 1 + d2.size := by rw [ByteArray.size_append, ByteArray.size_append, ByteArray.size_append, ByteArray.size_append]; rfl
              clear hx hwf hxv hd1e hd2e hw HU hea yd0 yd1
              go_wp2_with fail
              refine wp_region_noPanic ?_
              refine wp_region_M (L := 26) (S := fun wx => Below wr.heap.size wr wx) (by kernel_rfl) ?_ (fun hHeld => ?_)
              · exact (Below.refl _ _).drew
              refine wpAnyM_take (i := 0) (v := ?_) (by simp only [List.getElem?_toArray, List.getElem?_cons_succ, List.getElem?_cons_zero] <;> rfl) (by kernel_rfl) (by kernel_rfl) (by kernel_rfl) (by kernel_rfl) (by kernel_rfl) (fun _ _ _ h => h) (Or.inl ⟨by rfl, ?_⟩) (by assumption) ?_
              rotate_left
              · (intro wv hSw; (try dsimp only at hSw); obtain ⟨hcq, _⟩ := bcell hSw; have hsq := Below.size hSw; go_simp; try with_reducible rfl)
              try simp only [Act.put, List.setIfInBounds_toArray, List.set_cons_zero, List.set_cons_succ]
              refine wpAnyM_take (i := 1) (v := ?_) (by simp only [List.getElem?_toArray, List.getElem?_cons_succ, List.getElem?_cons_zero] <;> rfl) (by kernel_rfl) (by kernel_rfl) (by kernel_rfl) (by kernel_rfl) (by kernel_rfl) (fun _ _ _ h => h) (Or.inl ⟨by rfl, ?_⟩) (by assumption) ?_
              rotate_left
              · (intro wv hSw; (try dsimp only at hSw); obtain ⟨hcq, _⟩ := bcell hSw; have hsq := Below.size hSw; go_simp; try with_reducible rfl)
              try simp only [Act.put, List.setIfInBounds_toArray, List.set_cons_zero, List.set_cons_succ]
              refine wpAnyM_take (i := 2) (v := ?_) (by simp only [List.getElem?_toArray, List.getElem?_cons_succ, List.getElem?_cons_zero] <;> rfl) (by kernel_rfl) (by kernel_rfl) (by kernel_rfl) (by kernel_rfl) (by kernel_rfl) (fun _ _ _ h => h) (Or.inl ⟨by rfl, ?_⟩) (by assumption) ?_
              rotate_left
              · (intro wv hSw; (try dsimp only at hSw); obtain ⟨hcq, _⟩ := bcell hSw; have hsq := Below.size hSw; have p0 := (hcq _ _ yl).trans y2; have pl := Nat.lt_of_lt_of_le yl hsq; go_simp; try with_reducible rfl)
              try simp only [Act.put, List.setIfInBounds_toArray, List.set_cons_zero, List.set_cons_succ]
              refine wpAnyM_take (i := 3) (v := ?_) (by simp only [List.getElem?_toArray, List.getElem?_cons_succ, List.getElem?_cons_zero] <;> rfl) (by kernel_rfl) (by kernel_rfl) (by kernel_rfl) (by kernel_rfl) (by kernel_rfl) (fun _ _ _ h => h) (Or.inl ⟨by rfl, ?_⟩) (by assumption) ?_
              rotate_left
              · (intro wv hSw; (try dsimp only at hSw); obtain ⟨hcq, _⟩ := bcell hSw; have hsq := Below.size hSw; go_simp; try with_reducible rfl)
              try simp only [Act.put, List.setIfInBounds_toArray, List.set_cons_zero, List.set_cons_succ]
              refine wpAnyM_take (i := 4) (v := ?_) (by simp only [List.getElem?_toArray, List.getElem?_cons_succ, List.getElem?_cons_zero] <;> rfl) (by kernel_rfl) (by kernel_rfl) (by kernel_rfl) (by kernel_rfl) (by kernel_rfl) (fun _ _ _ h => h) (Or.inl ⟨by rfl, ?_⟩) (by assumption) ?_
              rotate_left
              · (intro wv hSw; (try dsimp only at hSw); obtain ⟨hcq, _⟩ := bcell hSw; have hsq := Below.size hSw; go_simp; try with_reducible rfl)
              try simp only [Act.put, List.setIfInBounds_toArray, List.set_cons_zero, List.set_cons_succ]
              refine wpAnyM_take (i := 5) (v := ?_) (by simp only [List.getElem?_toArray, List.getElem?_cons_succ, List.getElem?_cons_zero] <;> rfl) (by kernel_rfl) (by kernel_rfl) (by kernel_rfl) (by kernel_rfl) (by kernel_rfl) (fun _ _ _ h => h) (Or.inl ⟨by rfl, ?_⟩) (by assumption) ?_
              rotate_left
              · (intro wv hSw; (try dsimp only at hSw); obtain ⟨hcq, _⟩ := bcell hSw; have hsq := Below.size hSw; go_simp; try with_reducible rfl)
              try simp only [Act.put, List.setIfInBounds_toArray, List.set_cons_zero, List.set_cons_succ]
              refine wpAnyM_take (i := 6) (v := ?_) (by simp only [List.getElem?_toArray, List.getElem?_cons_succ, List.getElem?_cons_zero] <;> rfl) (by kernel_rfl) (by kernel_rfl) (by kernel_rfl) (by kernel_rfl) (by kernel_rfl) (fun _ _ _ h => h) (Or.inl ⟨by rfl, ?_⟩) (by assumption) ?_
              rotate_left
              · (intro wv hSw; (try dsimp only at hSw); obtain ⟨hcq, _⟩ := bcell hSw; have hsq := Below.size hSw; have p0 := (hcq _ _ ybr).trans yd2; have pl := Nat.lt_of_lt_of_le ybr hsq; go_simp; try with_reducible rfl)
              try simp only [Act.put, List.setIfInBounds_toArray, List.set_cons_zero, List.set_cons_succ]
              refine wpAnyM_take (i := 7) (v := ?_) (by simp only [List.getElem?_toArray, List.getElem?_cons_succ, List.getElem?_cons_zero] <;> rfl) (by kernel_rfl) (by kernel_rfl) (by kernel_rfl) (by kernel_rfl) (by kernel_rfl) (fun _ _ _ h => h) (Or.inl ⟨by rfl, ?_⟩) (by assumption) ?_
              rotate_left
              · (intro wv hSw; (try dsimp only at hSw); obtain ⟨hcq, _⟩ := bcell hSw; have hsq := Below.size hSw; go_simp; try with_reducible rfl)
              try simp only [Act.put, List.setIfInBounds_toArray, List.set_cons_zero, List.set_cons_succ]
              refine wpAnyM_take (i := 8) (v := ?_) (by simp only [List.getElem?_toArray, List.getElem?_cons_succ, List.getElem?_cons_zero] <;> rfl) (by kernel_rfl) (by kernel_rfl) (by kernel_rfl) (by kernel_rfl) (by kernel_rfl) (fun _ _ _ h => h) (Or.inl ⟨by rfl, ?_⟩) (by assumption) ?_
              rotate_left
              · (intro wv hSw; (try dsimp only at hSw); obtain ⟨hcq, _⟩ := bcell hSw; have hsq := Below.size hSw; go_simp; try with_reducible rfl)
              try simp only [Act.put, List.setIfInBounds_toArray, List.set_cons_zero, List.set_cons_succ]
              refine wpAnyM_take (i := 9) (v := ?_) (by simp only [List.getElem?_toArray, List.getElem?_cons_succ, List.getElem?_cons_zero] <;> rfl) (by kernel_rfl) (by kernel_rfl) (by kernel_rfl) (by kernel_rfl) (by kernel_rfl) (fun _ _ _ h => h) (Or.inl ⟨by rfl, ?_⟩) (by assumption) ?_
              rotate_left
              · (intro wv hSw; (try dsimp only at hSw); obtain ⟨hcq, _⟩ := bcell hSw; have hsq := Below.size hSw; go_simp; try with_reducible rfl)
              try simp only [Act.put, List.setIfInBounds_toArray, List.set_cons_zero, List.set_cons_succ]
              refine wpAnyM_take (i := 10) (v := ?_) (by simp only [List.getElem?_toArray, List.getElem?_cons_succ, List.getElem?_cons_zero] <;> rfl) (by kernel_rfl) (by kernel_rfl) (by kernel_rfl) (by kernel_rfl) (by kernel_rfl) (fun _ _ _ h => h) (Or.inl ⟨by rfl, ?_⟩) (by assumption) ?_
              rotate_left
              · (intro wv hSw; (try dsimp only at hSw); obtain ⟨hcq, _⟩ := bcell hSw; have hsq := Below.size hSw; have p0 := (hcq _ _ hbe).trans c0; have pl := Nat.lt_of_lt_of_le hbe hsq; go_simp; try with_reducible rfl)
              try simp only [Act.put, List.setIfInBounds_toArray, List.set_cons_zero, List.set_cons_succ]
              refine wpAnyM_take (i := 14) (v := ?_) (by simp only [List.getElem?_toArray, List.getElem?_cons_succ, List.getElem?_cons_zero] <;> rfl) (by kernel_rfl) (by kernel_rfl) (by kernel_rfl) (by kernel_rfl) (by kernel_rfl) (fun _ _ _ h => h) (Or.inl ⟨by rfl, ?_⟩) (by assumption) ?_
              rotate_left
              · (intro wv hSw; (try dsimp only at hSw); obtain ⟨hcq, _⟩ := bcell hSw; have hsq := Below.size hSw; go_simp; try with_reducible rfl)
              try simp only [Act.put, List.setIfInBounds_toArray, List.set_cons_zero, List.set_cons_succ]
              refine wpAnyM_take (i := 15) (v := ?_) (by simp only [List.getElem?_toArray, List.getElem?_cons_succ, List.getElem?_cons_zero] <;> rfl) (by kernel_rfl) (by kernel_rfl) (by kernel_rfl) (by kernel_rfl) (by kernel_rfl) (fun _ _ _ h => h) (Or.inl ⟨by rfl, ?_⟩) (by assumption) ?_
              rotate_left
              · (intro wv hSw; (try dsimp only at hSw); obtain ⟨hcq, _⟩ := bcell hSw; have hsq := Below.size hSw; have p0 := (hcq _ _ yl).trans y2; have pl := Nat.lt_of_lt_of_le yl hsq; go_simp; try with_reducible rfl)
              try simp only [Act.put, List.setIfInBounds_toArray, List.set_cons_zero, List.set_cons_succ]
              refine wpAnyM_take (i := 16) (v := ?_) (by simp only [List.getElem?_toArray, List.getElem?_cons_succ, List.getElem?_cons_zero] <;> rfl) (by kernel_rfl) (by kernel_rfl) (by kernel_rfl) (by kernel_rfl) (by kernel_rfl) (fun _ _ _ h => h) (Or.inl ⟨by rfl, ?_⟩) (by assumption) ?_
              rotate_left
              · (intro wv hSw; (try dsimp only at hSw); obtain ⟨hcq, _⟩ := bcell hSw; have hsq := Below.size hSw; go_simp; try with_reducible rfl)
              try simp only [Act.put, List.setIfInBounds_toArray, List.set_cons_zero, List.set_cons_succ]
              refine wpAnyM_take (i := 17) (v := ?_) (by simp only [List.getElem?_toArray, List.getElem?_cons_succ, List.getElem?_cons_zero] <;> rfl) (by kernel_rfl) (by kernel_rfl) (by kernel_rfl) (by kernel_rfl) (by kernel_rfl) (fun _ _ _ h => h) (Or.inl ⟨by rfl, ?_⟩) (by assumption) ?_
              rotate_left
              · (intro wv hSw; (try dsimp only at hSw); obtain ⟨hcq, _⟩ := bcell hSw; have hsq := Below.size hSw; go_simp; try with_reducible rfl)
              try simp only [Act.put, List.setIfInBounds_toArray, List.set_cons_zero, List.set_cons_succ]
              refine wpAnyM_take (i := 18) (v := ?_) (by simp only [List.getElem?_toArray, List.getElem?_cons_succ, List.getElem?_cons_zero] <;> rfl) (by kernel_rfl) (by kernel_rfl) (by kernel_rfl) (by kernel_rfl) (by kernel_rfl) (fun _ _ _ h => h) (Or.inl ⟨by rfl, ?_⟩) (by assumption) ?_
              rotate_left
              · (intro wv hSw; (try dsimp only at hSw); obtain ⟨hcq, _⟩ := bcell hSw; have hsq := Below.size hSw; go_simp; try with_reducible rfl)
              try simp only [Act.put, List.setIfInBounds_toArray, List.set_cons_zero, List.set_cons_succ]
              refine wpAnyM_take (i := 19) (v := ?_) (by simp only [List.getElem?_toArray, List.getElem?_cons_succ, List.getElem?_cons_zero] <;> rfl) (by kernel_rfl) (by kernel_rfl) (by kernel_rfl) (by kernel_rfl) (by kernel_rfl) (fun _ _ _ h => h) (Or.inl ⟨by rfl, ?_⟩) (by assumption) ?_
              rotate_left
              · (intro wv hSw; (try dsimp only at hSw); obtain ⟨hcq, _⟩ := bcell hSw; have hsq := Below.size hSw; have p0 := (hcq _ _ ybr).trans yd2; have pl := Nat.lt_of_lt_of_le ybr hsq; go_simp; try with_reducible rfl)
              try simp only [Act.put, List.setIfInBounds_toArray, List.set_cons_zero, List.set_cons_succ]
              refine wpAnyM_take (i := 20) (v := ?_) (by simp only [List.getElem?_toArray, List.getElem?_cons_succ, List.getElem?_cons_zero] <;> rfl) (by kernel_rfl) (by kernel_rfl) (by kernel_rfl) (by kernel_rfl) (by kernel_rfl) (fun _ _ _ h => h) (Or.inl ⟨by rfl, ?_⟩) (by assumption) ?_
              rotate_left
              · (intro wv hSw; (try dsimp only at hSw); obtain ⟨hcq, _⟩ := bcell hSw; have hsq := Below.size hSw; go_simp; try with_reducible rfl)
              try simp only [Act.put, List.setIfInBounds_toArray, List.set_cons_zero, List.set_cons_succ]
              refine wpAnyM_take (i := 21) (v := ?_) (by simp only [List.getElem?_toArray, List.getElem?_cons_succ, List.getElem?_cons_zero] <;> rfl) (by kernel_rfl) (by kernel_rfl) (by kernel_rfl) (by kernel_rfl) (by kernel_rfl) (fun _ _ _ h => h) (Or.inl ⟨by rfl, ?_⟩) (by assumption) ?_
              rotate_left
              · (intro wv hSw; (try dsimp only at hSw); obtain ⟨hcq, _⟩ := bcell hSw; have hsq := Below.size hSw; go_simp; try with_reducible rfl)
              try simp only [Act.put, List.setIfInBounds_toArray, List.set_cons_zero, List.set_cons_succ]
              refine wpAnyM_take (i := 22) (v := ?_) (by simp only [List.getElem?_toArray, List.getElem?_cons_succ, List.getElem?_cons_zero] <;> rfl) (by kernel_rfl) (by kernel_rfl) (by kernel_rfl) (by kernel_rfl) (by kernel_rfl) (fun _ _ _ h => h) (Or.inl ⟨by rfl, ?_⟩) (by assumption) ?_
              rotate_left
              · (intro wv hSw; (try dsimp only at hSw); obtain ⟨hcq, _⟩ := bcell hSw; have hsq := Below.size hSw; go_simp; try with_reducible rfl)
              try simp only [Act.put, List.setIfInBounds_toArray, List.set_cons_zero, List.set_cons_succ]
              refine wpAnyM_take (i := 23) (v := ?_) (by simp only [List.getElem?_toArray, List.getElem?_cons_succ, List.getElem?_cons_zero] <;> rfl) (by kernel_rfl) (by kernel_rfl) (by kernel_rfl) (by kernel_rfl) (by kernel_rfl) (fun _ _ _ h => h) (Or.inl ⟨by rfl, ?_⟩) (by assumption) ?_
              rotate_left
              · (intro wv hSw; (try dsimp only at hSw); obtain ⟨hcq, _⟩ := bcell hSw; have hsq := Below.size hSw; have p0 := (hcq _ _ hbe).trans c1; have pl := Nat.lt_of_lt_of_le hbe hsq; go_simp; try with_reducible rfl)
              try simp only [Act.put, List.setIfInBounds_toArray, List.set_cons_zero, List.set_cons_succ]
              refine wpAnyM_ready (rs := [11]) (by kernel_rfl) (by simp) ?_
              refine AllReadyM.cons rfl (fun K hK => ?_) AllReadyM.nil
              go_simp
              refine Calls.mono (K1.out _) ?_
              rintro e w1 ⟨rfl, hb1⟩
              have hb2 := below_callS hHeld hb1
              go_wp2_with fail
              refine hK.out _ _ hb2 (fun hHeld => ?_)
              clear hK K
              try simp only [Act.put, List.setIfInBounds_toArray, List.set_cons_zero, List.set_cons_succ]
              rw [D1.out]
              refine wpAnyM_take (i := 12) (v := ?_) (by simp only [List.getElem?_toArray, List.getElem?_cons_succ, List.getElem?_cons_zero] <;> rfl) (by kernel_rfl) (by kernel_rfl) (by kernel_rfl) (by kernel_rfl) (by kernel_rfl) (fun _ _ _ h => h) (Or.inl ⟨by rfl, ?_⟩) (by assumption) ?_
              rotate_left
              · (intro wv hSw; (try dsimp only at hSw); obtain ⟨hcq, _⟩ := bcell hSw; have hsq := Below.size hSw; go_simp; try with_reducible rfl)
              try simp only [Act.put, List.setIfInBounds_toArray, List.set_cons_zero, List.set_cons_succ]
              refine wpAnyM_take (i := 13) (v := ?_) (by simp only [List.getElem?_toArray, List.getElem?_cons_succ, List.getElem?_cons_zero] <;> rfl) (by kernel_rfl) (by kernel_rfl) (by kernel_rfl) (by kernel_rfl) (by kernel_rfl) (fun _ _ _ h => h) (Or.inl ⟨by rfl, ?_⟩) (by assumption) ?_
              rotate_left
              · (intro wv hSw; (try dsimp only at hSw); obtain ⟨hcq, _⟩ := bcell hSw; have hsq := Below.size hSw; go_simp; try with_reducible rfl)
              try simp only [Act.put, List.setIfInBounds_toArray, List.set_cons_zero, List.set_cons_succ]
              refine wpAnyM_ready (rs := [24]) (by kernel_rfl) (by simp) ?_
              refine AllReadyM.cons rfl (fun K hK => ?_) AllReadyM.nil
              go_simp
              refine Calls.mono (K2.out _) ?_
              rintro e w2 ⟨rfl, hb3⟩
              have hb4 := below_callS hHeld hb3
              go_wp2_with fail
              refine hK.out _ _ hb4 (fun hHeld => ?_)
              clear hK K
              try simp only [Act.put, List.setIfInBounds_toArray, List.set_cons_zero, List.set_cons_succ]
              rw [D2.out]
              refine wpAnyM_take (i := 25) (v := ?_) (by simp only [List.getElem?_toArray, List.getElem?_cons_succ, List.getElem?_cons_zero] <;> rfl) (by kernel_rfl) (by kernel_rfl) (by kernel_rfl) (by kernel_rfl) (by kernel_rfl) (fun _ _ _ h => h) (Or.inl ⟨by rfl, ?_⟩) (by assumption) ?_
              rotate_left
              · (intro wv hSw; (try dsimp only at hSw); obtain ⟨hcq, _⟩ := bcell hSw; have hsq := Below.size hSw; go_simp; try with_reducible rfl)
              try simp only [Act.put, List.setIfInBounds_toArray, List.set_cons_zero, List.set_cons_succ]
              refine wpAnyM_ready (rs := [26]) (by kernel_rfl) (by simp) ?_
              refine AllReadyM.last rfl (fun K hK => ?_)
              go_simp
              refine hK.out _ _ ?_
              clear hK K
              try simp only [Act.put, List.setIfInBounds_toArray, List.set_cons_zero, List.set_cons_succ]
              refine wpAnyM_done (by kernel_rfl) ?_ _
              refine NoPanic.normal ?_
              have HQ2 := Lib.hid (below_call HQ.out hb4 HQ.out.size)
              clear hHeld hb1 hb2 hb3 hb4 K1 K2 c0 c1 y2 yl ybr yd2 hbe
              go_wp2
              go_roundw
              case rel => exact ⟨k + 2, (u ++ ⟨#[38]⟩) ++ d1 ++ ⟨#[58]⟩ ++ d2, by rfl, by go_num, by omega, by rw [hs2]; omega, HQ2, HU2⟩
              case measure => simp [intOf]; omega
          · obtain hke : R2.en = k := by omega
            have hkl' : ¬ (k : Int) < (R2.en : Int) := by omega
            by_cases h0 : k = 0
            · have ht0 : u = ⟨#[]⟩ := by have h := HU.out; rw [h0, jn_zero] at h; exact h
              subst ht0
              have hef := HLN.out (by omega)
              rw [hef] at HT2 HSZ
              have z1 : (⟨#[45]⟩ : ByteArray).size = 1 := rfl
              have f0 : ¬ 9223372036854775807 < t.size + r2.nm.size := by omega
              have f1 : ¬ 9223372036854775807 < t.size + r2.nm.size + 1 := by omega
              have f2 : ¬ 9223372036854775807 < t.size + r2.nm.size + 1 + gt.size := by omega
              have f3 : ¬ 9223372036854775807 < t.size + r2.nm.size + 1 + gt.size + 1 := by omega
              have f4 : ¬ 9223372036854775807 < t.size + r2.nm.size + 1 + gt.size + 1 + 1 := by omega
              have f5 : ¬ 9223372036854775807 < t.size + r2.nm.size + 1 + gt.size + 1 + 1 + 1 := by omega
              clear hef HU hke he1
              go_wp2_with fail
              clear yd2
              refine wp_region_noPanic ?_
              refine wp_region_M (L := 21) (S := fun wx => Below wr.heap.size wr wx) (by kernel_rfl) ?_ (fun hHeld => ?_)
              · exact (Below.refl _ _).drew
              refine wpAnyM_take (i := 0) (v := ?_) (by simp only [List.getElem?_toArray, List.getElem?_cons_succ, List.getElem?_cons_zero] <;> rfl) (by kernel_rfl) (by kernel_rfl) (by kernel_rfl) (by kernel_rfl) (by kernel_rfl) (fun _ _ _ h => h) (Or.inl ⟨by rfl, ?_⟩) (by assumption) ?_
              rotate_left
              · (intro wv hSw; (try dsimp only at hSw); obtain ⟨hcq, _⟩ := bcell hSw; have hsq := Below.size hSw; go_simp; try with_reducible rfl)
              try simp only [Act.put, List.setIfInBounds_toArray, List.set_cons_zero, List.set_cons_succ]
              refine wpAnyM_take (i := 1) (v := ?_) (by simp only [List.getElem?_toArray, List.getElem?_cons_succ, List.getElem?_cons_zero] <;> rfl) (by kernel_rfl) (by kernel_rfl) (by kernel_rfl) (by kernel_rfl) (by kernel_rfl) (fun _ _ _ h => h) (Or.inl ⟨by rfl, ?_⟩) (by assumption) ?_
              rotate_left
              · (intro wv hSw; (try dsimp only at hSw); obtain ⟨hcq, _⟩ := bcell hSw; have hsq := Below.size hSw; go_simp; try with_reducible rfl)
              try simp only [Act.put, List.setIfInBounds_toArray, List.set_cons_zero, List.set_cons_succ]
              refine wpAnyM_take (i := 2) (v := ?_) (by simp only [List.getElem?_toArray, List.getElem?_cons_succ, List.getElem?_cons_zero] <;> rfl) (by kernel_rfl) (by kernel_rfl) (by kernel_rfl) (by kernel_rfl) (by kernel_rfl) (fun _ _ _ h => h) (Or.inl ⟨by rfl, ?_⟩) (by assumption) ?_
              rotate_left
              · (intro wv hSw; (try dsimp only at hSw); obtain ⟨hcq, _⟩ := bcell hSw; have hsq := Below.size hSw; have p0 := (hcq _ _ yl).trans y2; have pl := Nat.lt_of_lt_of_le yl hsq; go_simp; try with_reducible rfl)
              try simp only [Act.put, List.setIfInBounds_toArray, List.set_cons_zero, List.set_cons_succ]
              refine wpAnyM_take (i := 3) (v := ?_) (by simp only [List.getElem?_toArray, List.getElem?_cons_succ, List.getElem?_cons_zero] <;> rfl) (by kernel_rfl) (by kernel_rfl) (by kernel_rfl) (by kernel_rfl) (by kernel_rfl) (fun _ _ _ h => h) (Or.inl ⟨by rfl, ?_⟩) (by assumption) ?_
              rotate_left
              · (intro wv hSw; (try dsimp only at hSw); obtain ⟨hcq, _⟩ := bcell hSw; have hsq := Below.size hSw; go_simp; try with_reducible rfl)
              try simp only [Act.put, List.setIfInBounds_toArray, List.set_cons_zero, List.set_cons_succ]
              refine wpAnyM_take (i := 4) (v := ?_) (by simp only [List.getElem?_toArray, List.getElem?_cons_succ, List.getElem?_cons_zero] <;> rfl) (by kernel_rfl) (by kernel_rfl) (by kernel_rfl) (by kernel_rfl) (by kernel_rfl) (fun _ _ _ h => h) (Or.inl ⟨by rfl, ?_⟩) (by assumption) ?_
              rotate_left
              · (intro wv hSw; (try dsimp only at hSw); obtain ⟨hcq, _⟩ := bcell hSw; have hsq := Below.size hSw; go_simp; try with_reducible rfl)
              try simp only [Act.put, List.setIfInBounds_toArray, List.set_cons_zero, List.set_cons_succ]
              refine wpAnyM_take (i := 5) (v := ?_) (by simp only [List.getElem?_toArray, List.getElem?_cons_succ, List.getElem?_cons_zero] <;> rfl) (by kernel_rfl) (by kernel_rfl) (by kernel_rfl) (by kernel_rfl) (by kernel_rfl) (fun _ _ _ h => h) (Or.inl ⟨by rfl, ?_⟩) (by assumption) ?_
              rotate_left
              · (intro wv hSw; (try dsimp only at hSw); obtain ⟨hcq, _⟩ := bcell hSw; have hsq := Below.size hSw; go_simp; try with_reducible rfl)
              try simp only [Act.put, List.setIfInBounds_toArray, List.set_cons_zero, List.set_cons_succ]
              refine wpAnyM_take (i := 6) (v := ?_) (by simp only [List.getElem?_toArray, List.getElem?_cons_succ, List.getElem?_cons_zero] <;> rfl) (by kernel_rfl) (by kernel_rfl) (by kernel_rfl) (by kernel_rfl) (by kernel_rfl) (fun _ _ _ h => h) (Or.inl ⟨by rfl, ?_⟩) (by assumption) ?_
              rotate_left
              · (intro wv hSw; (try dsimp only at hSw); obtain ⟨hcq, _⟩ := bcell hSw; have hsq := Below.size hSw; have p0 := (hcq _ _ ybr).trans yd0; have pl := Nat.lt_of_lt_of_le ybr hsq; go_simp; try with_reducible rfl)
              try simp only [Act.put, List.setIfInBounds_toArray, List.set_cons_zero, List.set_cons_succ]
              refine wpAnyM_take (i := 7) (v := ?_) (by simp only [List.getElem?_toArray, List.getElem?_cons_succ, List.getElem?_cons_zero] <;> rfl) (by kernel_rfl) (by kernel_rfl) (by kernel_rfl) (by kernel_rfl) (by kernel_rfl) (fun _ _ _ h => h) (Or.inl ⟨by rfl, ?_⟩) (by assumption) ?_
              rotate_left
              · (intro wv hSw; (try dsimp only at hSw); obtain ⟨hcq, _⟩ := bcell hSw; have hsq := Below.size hSw; go_simp; try with_reducible rfl)
              try simp only [Act.put, List.setIfInBounds_toArray, List.set_cons_zero, List.set_cons_succ]
              refine wpAnyM_take (i := 8) (v := ?_) (by simp only [List.getElem?_toArray, List.getElem?_cons_succ, List.getElem?_cons_zero] <;> rfl) (by kernel_rfl) (by kernel_rfl) (by kernel_rfl) (by kernel_rfl) (by kernel_rfl) (fun _ _ _ h => h) (Or.inl ⟨by rfl, ?_⟩) (by assumption) ?_
              rotate_left
              · (intro wv hSw; (try dsimp only at hSw); obtain ⟨hcq, _⟩ := bcell hSw; have hsq := Below.size hSw; go_simp; try with_reducible rfl)
              try simp only [Act.put, List.setIfInBounds_toArray, List.set_cons_zero, List.set_cons_succ]
              refine wpAnyM_take (i := 9) (v := ?_) (by simp only [List.getElem?_toArray, List.getElem?_cons_succ, List.getElem?_cons_zero] <;> rfl) (by kernel_rfl) (by kernel_rfl) (by kernel_rfl) (by kernel_rfl) (by kernel_rfl) (fun _ _ _ h => h) (Or.inl ⟨by rfl, ?_⟩) (by assumption) ?_
              rotate_left
              · (intro wv hSw; (try dsimp only at hSw); obtain ⟨hcq, _⟩ := bcell hSw; have hsq := Below.size hSw; go_simp; try with_reducible rfl)
              try simp only [Act.put, List.setIfInBounds_toArray, List.set_cons_zero, List.set_cons_succ]
              refine wpAnyM_take (i := 10) (v := ?_) (by simp only [List.getElem?_toArray, List.getElem?_cons_succ, List.getElem?_cons_zero] <;> rfl) (by kernel_rfl) (by kernel_rfl) (by kernel_rfl) (by kernel_rfl) (by kernel_rfl) (fun _ _ _ h => h) (Or.inl ⟨by rfl, ?_⟩) (by assumption) ?_
              rotate_left
              · (intro wv hSw; (try dsimp only at hSw); obtain ⟨hcq, _⟩ := bcell hSw; have hsq := Below.size hSw; have p0 := (hcq _ _ yl).trans y2; have pl := Nat.lt_of_lt_of_le yl hsq; go_simp; try with_reducible rfl)
              try simp only [Act.put, List.setIfInBounds_toArray, List.set_cons_zero, List.set_cons_succ]
              refine wpAnyM_take (i := 11) (v := ?_) (by simp only [List.getElem?_toArray, List.getElem?_cons_succ, List.getElem?_cons_zero] <;> rfl) (by kernel_rfl) (by kernel_rfl) (by kernel_rfl) (by kernel_rfl) (by kernel_rfl) (fun _ _ _ h => h) (Or.inl ⟨by rfl, ?_⟩) (by assumption) ?_
              rotate_left
              · (intro wv hSw; (try dsimp only at hSw); obtain ⟨hcq, _⟩ := bcell hSw; have hsq := Below.size hSw; go_simp; try with_reducible rfl)
              try simp only [Act.put, List.setIfInBounds_toArray, List.set_cons_zero, List.set_cons_succ]
              refine wpAnyM_take (i := 12) (v := ?_) (by simp only [List.getElem?_toArray, List.getElem?_cons_succ, List.getElem?_cons_zero] <;> rfl) (by kernel_rfl) (by kernel_rfl) (by kernel_rfl) (by kernel_rfl) (by kernel_rfl) (fun _ _ _ h => h) (Or.inl ⟨by rfl, ?_⟩) (by assumption) ?_
              rotate_left
              · (intro wv hSw; (try dsimp only at hSw); obtain ⟨hcq, _⟩ := bcell hSw; have hsq := Below.size hSw; go_simp; try with_reducible rfl)
              try simp only [Act.put, List.setIfInBounds_toArray, List.set_cons_zero, List.set_cons_succ]
              refine wpAnyM_take (i := 13) (v := ?_) (by simp only [List.getElem?_toArray, List.getElem?_cons_succ, List.getElem?_cons_zero] <;> rfl) (by kernel_rfl) (by kernel_rfl) (by kernel_rfl) (by kernel_rfl) (by kernel_rfl) (fun _ _ _ h => h) (Or.inl ⟨by rfl, ?_⟩) (by assumption) ?_
              rotate_left
              · (intro wv hSw; (try dsimp only at hSw); obtain ⟨hcq, _⟩ := bcell hSw; have hsq := Below.size hSw; go_simp; try with_reducible rfl)
              try simp only [Act.put, List.setIfInBounds_toArray, List.set_cons_zero, List.set_cons_succ]
              refine wpAnyM_take (i := 14) (v := ?_) (by simp only [List.getElem?_toArray, List.getElem?_cons_succ, List.getElem?_cons_zero] <;> rfl) (by kernel_rfl) (by kernel_rfl) (by kernel_rfl) (by kernel_rfl) (by kernel_rfl) (fun _ _ _ h => h) (Or.inl ⟨by rfl, ?_⟩) (by assumption) ?_
              rotate_left
              · (intro wv hSw; (try dsimp only at hSw); obtain ⟨hcq, _⟩ := bcell hSw; have hsq := Below.size hSw; have p0 := (hcq _ _ ybr).trans yd1; have pl := Nat.lt_of_lt_of_le ybr hsq; go_simp; try with_reducible rfl)
              try simp only [Act.put, List.setIfInBounds_toArray, List.set_cons_zero, List.set_cons_succ]
              refine wpAnyM_take (i := 18) (v := ?_) (by simp only [List.getElem?_toArray, List.getElem?_cons_succ, List.getElem?_cons_zero] <;> rfl) (by kernel_rfl) (by kernel_rfl) (by kernel_rfl) (by kernel_rfl) (by kernel_rfl) (fun _ _ _ h => h) (Or.inl ⟨by rfl, ?_⟩) (by assumption) ?_
              rotate_left
              · (intro wv hSw; (try dsimp only at hSw); obtain ⟨hcq, _⟩ := bcell hSw; have hsq := Below.size hSw; go_simp; try with_reducible rfl)
              try simp only [Act.put, List.setIfInBounds_toArray, List.set_cons_zero, List.set_cons_succ]
              refine wpAnyM_ready (rs := [15]) (by kernel_rfl) (by simp) ?_
              refine AllReadyM.cons rfl (fun K hK => ?_) AllReadyM.nil
              go_simp
              refine Calls.mono (KG.out _ (below_callS HQ.out hHeld)) ?_
              rintro e w1 ⟨rfl, hb1⟩
              have hb2 := below_callS hHeld hb1
              go_wp2_with fail
              refine hK.out _ _ hb2 (fun hHeld => ?_)
              clear hK K
              try simp only [Act.put, List.setIfInBounds_toArray, List.set_cons_zero, List.set_cons_succ]
              refine wpAnyM_take (i := 16) (v := ?_) (by simp only [List.getElem?_toArray, List.getElem?_cons_succ, List.getElem?_cons_zero] <;> rfl) (by kernel_rfl) (by kernel_rfl) (by kernel_rfl) (by kernel_rfl) (by kernel_rfl) (fun _ _ _ h => h) (Or.inl ⟨by rfl, ?_⟩) (by assumption) ?_
              rotate_left
              · (intro wv hSw; (try dsimp only at hSw); obtain ⟨hcq, _⟩ := bcell hSw; have hsq := Below.size hSw; go_simp; try with_reducible rfl)
              try simp only [Act.put, List.setIfInBounds_toArray, List.set_cons_zero, List.set_cons_succ]
              refine wpAnyM_take (i := 17) (v := ?_) (by simp only [List.getElem?_toArray, List.getElem?_cons_succ, List.getElem?_cons_zero] <;> rfl) (by kernel_rfl) (by kernel_rfl) (by kernel_rfl) (by kernel_rfl) (by kernel_rfl) (fun _ _ _ h => h) (Or.inl ⟨by rfl, ?_⟩) (by assumption) ?_
              rotate_left
              · (intro wv hSw; (try dsimp only at hSw); obtain ⟨hcq, _⟩ := bcell hSw; have hsq := Below.size hSw; go_simp; try with_reducible rfl)
              try simp only [Act.put, List.setIfInBounds_toArray, List.set_cons_zero, List.set_cons_succ]
              refine wpAnyM_take (i := 19) (v := ?_) (by simp only [List.getElem?_toArray, List.getElem?_cons_succ, List.getElem?_cons_zero] <;> rfl) (by kernel_rfl) (by kernel_rfl) (by kernel_rfl) (by kernel_rfl) (by kernel_rfl) (fun _ _ _ h => h) (Or.inl ⟨by rfl, ?_⟩) (by assumption) ?_
              rotate_left
              · (intro wv hSw; (try dsimp only at hSw); obtain ⟨hcq, _⟩ := bcell hSw; have hsq := Below.size hSw; go_simp; try with_reducible rfl)
              try simp only [Act.put, List.setIfInBounds_toArray, List.set_cons_zero, List.set_cons_succ]
              refine wpAnyM_take (i := 20) (v := ?_) (by simp only [List.getElem?_toArray, List.getElem?_cons_succ, List.getElem?_cons_zero] <;> rfl) (by kernel_rfl) (by kernel_rfl) (by kernel_rfl) (by kernel_rfl) (by kernel_rfl) (fun _ _ _ h => h) (Or.inl ⟨by rfl, ?_⟩) (by assumption) ?_
              rotate_left
              · (intro wv hSw; (try dsimp only at hSw); obtain ⟨hcq, _⟩ := bcell hSw; have hsq := Below.size hSw; go_simp; try with_reducible rfl)
              try simp only [Act.put, List.setIfInBounds_toArray, List.set_cons_zero, List.set_cons_succ]
              refine wpAnyM_ready (rs := [21]) (by kernel_rfl) (by simp) ?_
              refine AllReadyM.last rfl (fun K hK => ?_)
              go_simp
              refine hK.out _ _ ?_
              clear hK K
              try simp only [Act.put, List.setIfInBounds_toArray, List.set_cons_zero, List.set_cons_succ]
              refine wpAnyM_done (by kernel_rfl) ?_ _
              refine NoPanic.normal ?_
              have HB2 := Lib.hid (below_call HB.out (below_callS HQ.out hb2) HB.out.size)
              clear hHeld hb1 hb2 KG y2 yl ybr yd0 yd1
              go_wp2
              go_roundw
              case rel => exact ⟨j + 1, _, by rfl, by go_num, by omega, HSZ.out, HB2, HT2⟩
              case measure => simp [intOf]; omega
            · have hwne : r2.e.map aT ≠ [] := fun e => by have := HEW.out; rw [e] at this; simp at this; omega
              have huL : u = mkS (lT (r2.e.map aT)) := by
                have h := HU.out
                rw [← hke] at h
                rw [h, HLE.out _ hwne rfl]
              have hps := jn_pos (sep := 38) (k := k) (ws := r2.e.map aT) (fun x hx => by obtain ⟨y, _, rfl⟩ := List.mem_map.1 hx; exact aT_pos y) (by omega) (by rw [HEW.out]; omega)
              have hie : u.toList.isEmpty = false := by
                have heq : (u.toList == (⟨#[]⟩ : ByteArray).toList) = false := by
                  rw [str_eq, decide_eq_false_iff_not]
                  intro e
                  rw [HU.out, mkS_list] at e
                  rw [e] at hps
                  simp at hps
                simpa using heq
              rw [← huL] at HT2 HSZ he1
              have f0 : ¬ 9223372036854775807 < t.size + r2.nm.size := by omega
              have f1 : ¬ 9223372036854775807 < t.size + r2.nm.size + 1 := by omega
              have f2 : ¬ 9223372036854775807 < t.size + r2.nm.size + 1 + gt.size := by omega
              have f3 : ¬ 9223372036854775807 < t.size + r2.nm.size + 1 + gt.size + 1 := by omega
              have f4 : ¬ 9223372036854775807 < t.size + r2.nm.size + 1 + gt.size + 1 + u.size := by omega
              have f5 : ¬ 9223372036854775807 < t.size + r2.nm.size + 1 + gt.size + 1 + u.size + 1 := by omega
              clear HU hke hwne huL hps
              go_wp2_with fail
              clear yd2
              refine wp_region_noPanic ?_
              refine wp_region_M (L := 21) (S := fun wx => Below wr.heap.size wr wx) (by kernel_rfl) ?_ (fun hHeld => ?_)
              · exact (Below.refl _ _).drew
              refine wpAnyM_take (i := 0) (v := ?_) (by simp only [List.getElem?_toArray, List.getElem?_cons_succ, List.getElem?_cons_zero] <;> rfl) (by kernel_rfl) (by kernel_rfl) (by kernel_rfl) (by kernel_rfl) (by kernel_rfl) (fun _ _ _ h => h) (Or.inl ⟨by rfl, ?_⟩) (by assumption) ?_
              rotate_left
              · (intro wv hSw; (try dsimp only at hSw); obtain ⟨hcq, _⟩ := bcell hSw; have hsq := Below.size hSw; go_simp; try with_reducible rfl)
              try simp only [Act.put, List.setIfInBounds_toArray, List.set_cons_zero, List.set_cons_succ]
              refine wpAnyM_take (i := 1) (v := ?_) (by simp only [List.getElem?_toArray, List.getElem?_cons_succ, List.getElem?_cons_zero] <;> rfl) (by kernel_rfl) (by kernel_rfl) (by kernel_rfl) (by kernel_rfl) (by kernel_rfl) (fun _ _ _ h => h) (Or.inl ⟨by rfl, ?_⟩) (by assumption) ?_
              rotate_left
              · (intro wv hSw; (try dsimp only at hSw); obtain ⟨hcq, _⟩ := bcell hSw; have hsq := Below.size hSw; go_simp; try with_reducible rfl)
              try simp only [Act.put, List.setIfInBounds_toArray, List.set_cons_zero, List.set_cons_succ]
              refine wpAnyM_take (i := 2) (v := ?_) (by simp only [List.getElem?_toArray, List.getElem?_cons_succ, List.getElem?_cons_zero] <;> rfl) (by kernel_rfl) (by kernel_rfl) (by kernel_rfl) (by kernel_rfl) (by kernel_rfl) (fun _ _ _ h => h) (Or.inl ⟨by rfl, ?_⟩) (by assumption) ?_
              rotate_left
              · (intro wv hSw; (try dsimp only at hSw); obtain ⟨hcq, _⟩ := bcell hSw; have hsq := Below.size hSw; have p0 := (hcq _ _ yl).trans y2; have pl := Nat.lt_of_lt_of_le yl hsq; go_simp; try with_reducible rfl)
              try simp only [Act.put, List.setIfInBounds_toArray, List.set_cons_zero, List.set_cons_succ]
              refine wpAnyM_take (i := 3) (v := ?_) (by simp only [List.getElem?_toArray, List.getElem?_cons_succ, List.getElem?_cons_zero] <;> rfl) (by kernel_rfl) (by kernel_rfl) (by kernel_rfl) (by kernel_rfl) (by kernel_rfl) (fun _ _ _ h => h) (Or.inl ⟨by rfl, ?_⟩) (by assumption) ?_
              rotate_left
              · (intro wv hSw; (try dsimp only at hSw); obtain ⟨hcq, _⟩ := bcell hSw; have hsq := Below.size hSw; go_simp; try with_reducible rfl)
              try simp only [Act.put, List.setIfInBounds_toArray, List.set_cons_zero, List.set_cons_succ]
              refine wpAnyM_take (i := 4) (v := ?_) (by simp only [List.getElem?_toArray, List.getElem?_cons_succ, List.getElem?_cons_zero] <;> rfl) (by kernel_rfl) (by kernel_rfl) (by kernel_rfl) (by kernel_rfl) (by kernel_rfl) (fun _ _ _ h => h) (Or.inl ⟨by rfl, ?_⟩) (by assumption) ?_
              rotate_left
              · (intro wv hSw; (try dsimp only at hSw); obtain ⟨hcq, _⟩ := bcell hSw; have hsq := Below.size hSw; go_simp; try with_reducible rfl)
              try simp only [Act.put, List.setIfInBounds_toArray, List.set_cons_zero, List.set_cons_succ]
              refine wpAnyM_take (i := 5) (v := ?_) (by simp only [List.getElem?_toArray, List.getElem?_cons_succ, List.getElem?_cons_zero] <;> rfl) (by kernel_rfl) (by kernel_rfl) (by kernel_rfl) (by kernel_rfl) (by kernel_rfl) (fun _ _ _ h => h) (Or.inl ⟨by rfl, ?_⟩) (by assumption) ?_
              rotate_left
              · (intro wv hSw; (try dsimp only at hSw); obtain ⟨hcq, _⟩ := bcell hSw; have hsq := Below.size hSw; go_simp; try with_reducible rfl)
              try simp only [Act.put, List.setIfInBounds_toArray, List.set_cons_zero, List.set_cons_succ]
              refine wpAnyM_take (i := 6) (v := ?_) (by simp only [List.getElem?_toArray, List.getElem?_cons_succ, List.getElem?_cons_zero] <;> rfl) (by kernel_rfl) (by kernel_rfl) (by kernel_rfl) (by kernel_rfl) (by kernel_rfl) (fun _ _ _ h => h) (Or.inl ⟨by rfl, ?_⟩) (by assumption) ?_
              rotate_left
              · (intro wv hSw; (try dsimp only at hSw); obtain ⟨hcq, _⟩ := bcell hSw; have hsq := Below.size hSw; have p0 := (hcq _ _ ybr).trans yd0; have pl := Nat.lt_of_lt_of_le ybr hsq; go_simp; try with_reducible rfl)
              try simp only [Act.put, List.setIfInBounds_toArray, List.set_cons_zero, List.set_cons_succ]
              refine wpAnyM_take (i := 7) (v := ?_) (by simp only [List.getElem?_toArray, List.getElem?_cons_succ, List.getElem?_cons_zero] <;> rfl) (by kernel_rfl) (by kernel_rfl) (by kernel_rfl) (by kernel_rfl) (by kernel_rfl) (fun _ _ _ h => h) (Or.inl ⟨by rfl, ?_⟩) (by assumption) ?_
              rotate_left
              · (intro wv hSw; (try dsimp only at hSw); obtain ⟨hcq, _⟩ := bcell hSw; have hsq := Below.size hSw; go_simp; try with_reducible rfl)
              try simp only [Act.put, List.setIfInBounds_toArray, List.set_cons_zero, List.set_cons_succ]
              refine wpAnyM_take (i := 8) (v := ?_) (by simp only [List.getElem?_toArray, List.getElem?_cons_succ, List.getElem?_cons_zero] <;> rfl) (by kernel_rfl) (by kernel_rfl) (by kernel_rfl) (by kernel_rfl) (by kernel_rfl) (fun _ _ _ h => h) (Or.inl ⟨by rfl, ?_⟩) (by assumption) ?_
              rotate_left
              · (intro wv hSw; (try dsimp only at hSw); obtain ⟨hcq, _⟩ := bcell hSw; have hsq := Below.size hSw; go_simp; try with_reducible rfl)
              try simp only [Act.put, List.setIfInBounds_toArray, List.set_cons_zero, List.set_cons_succ]
              refine wpAnyM_take (i := 9) (v := ?_) (by simp only [List.getElem?_toArray, List.getElem?_cons_succ, List.getElem?_cons_zero] <;> rfl) (by kernel_rfl) (by kernel_rfl) (by kernel_rfl) (by kernel_rfl) (by kernel_rfl) (fun _ _ _ h => h) (Or.inl ⟨by rfl, ?_⟩) (by assumption) ?_
              rotate_left
              · (intro wv hSw; (try dsimp only at hSw); obtain ⟨hcq, _⟩ := bcell hSw; have hsq := Below.size hSw; go_simp; try with_reducible rfl)
              try simp only [Act.put, List.setIfInBounds_toArray, List.set_cons_zero, List.set_cons_succ]
              refine wpAnyM_take (i := 10) (v := ?_) (by simp only [List.getElem?_toArray, List.getElem?_cons_succ, List.getElem?_cons_zero] <;> rfl) (by kernel_rfl) (by kernel_rfl) (by kernel_rfl) (by kernel_rfl) (by kernel_rfl) (fun _ _ _ h => h) (Or.inl ⟨by rfl, ?_⟩) (by assumption) ?_
              rotate_left
              · (intro wv hSw; (try dsimp only at hSw); obtain ⟨hcq, _⟩ := bcell hSw; have hsq := Below.size hSw; have p0 := (hcq _ _ yl).trans y2; have pl := Nat.lt_of_lt_of_le yl hsq; go_simp; try with_reducible rfl)
              try simp only [Act.put, List.setIfInBounds_toArray, List.set_cons_zero, List.set_cons_succ]
              refine wpAnyM_take (i := 11) (v := ?_) (by simp only [List.getElem?_toArray, List.getElem?_cons_succ, List.getElem?_cons_zero] <;> rfl) (by kernel_rfl) (by kernel_rfl) (by kernel_rfl) (by kernel_rfl) (by kernel_rfl) (fun _ _ _ h => h) (Or.inl ⟨by rfl, ?_⟩) (by assumption) ?_
              rotate_left
              · (intro wv hSw; (try dsimp only at hSw); obtain ⟨hcq, _⟩ := bcell hSw; have hsq := Below.size hSw; go_simp; try with_reducible rfl)
              try simp only [Act.put, List.setIfInBounds_toArray, List.set_cons_zero, List.set_cons_succ]
              refine wpAnyM_take (i := 12) (v := ?_) (by simp only [List.getElem?_toArray, List.getElem?_cons_succ, List.getElem?_cons_zero] <;> rfl) (by kernel_rfl) (by kernel_rfl) (by kernel_rfl) (by kernel_rfl) (by kernel_rfl) (fun _ _ _ h => h) (Or.inl ⟨by rfl, ?_⟩) (by assumption) ?_
              rotate_left
              · (intro wv hSw; (try dsimp only at hSw); obtain ⟨hcq, _⟩ := bcell hSw; have hsq := Below.size hSw; go_simp; try with_reducible rfl)
              try simp only [Act.put, List.setIfInBounds_toArray, List.set_cons_zero, List.set_cons_succ]
              refine wpAnyM_take (i := 13) (v := ?_) (by simp only [List.getElem?_toArray, List.getElem?_cons_succ, List.getElem?_cons_zero] <;> rfl) (by kernel_rfl) (by kernel_rfl) (by kernel_rfl) (by kernel_rfl) (by kernel_rfl) (fun _ _ _ h => h) (Or.inl ⟨by rfl, ?_⟩) (by assumption) ?_
              rotate_left
              · (intro wv hSw; (try dsimp only at hSw); obtain ⟨hcq, _⟩ := bcell hSw; have hsq := Below.size hSw; go_simp; try with_reducible rfl)
              try simp only [Act.put, List.setIfInBounds_toArray, List.set_cons_zero, List.set_cons_succ]
              refine wpAnyM_take (i := 14) (v := ?_) (by simp only [List.getElem?_toArray, List.getElem?_cons_succ, List.getElem?_cons_zero] <;> rfl) (by kernel_rfl) (by kernel_rfl) (by kernel_rfl) (by kernel_rfl) (by kernel_rfl) (fun _ _ _ h => h) (Or.inl ⟨by rfl, ?_⟩) (by assumption) ?_
              rotate_left
              · (intro wv hSw; (try dsimp only at hSw); obtain ⟨hcq, _⟩ := bcell hSw; have hsq := Below.size hSw; have p0 := (hcq _ _ ybr).trans yd1; have pl := Nat.lt_of_lt_of_le ybr hsq; go_simp; try with_reducible rfl)
              try simp only [Act.put, List.setIfInBounds_toArray, List.set_cons_zero, List.set_cons_succ]
              refine wpAnyM_take (i := 18) (v := ?_) (by simp only [List.getElem?_toArray, List.getElem?_cons_succ, List.getElem?_cons_zero] <;> rfl) (by kernel_rfl) (by kernel_rfl) (by kernel_rfl) (by kernel_rfl) (by kernel_rfl) (fun _ _ _ h => h) (Or.inl ⟨by rfl, ?_⟩) (by assumption) ?_
              rotate_left
              · (intro wv hSw; (try dsimp only at hSw); obtain ⟨hcq, _⟩ := bcell hSw; have hsq := Below.size hSw; go_simp; try with_reducible rfl)
              try simp only [Act.put, List.setIfInBounds_toArray, List.set_cons_zero, List.set_cons_succ]
              refine wpAnyM_ready (rs := [15]) (by kernel_rfl) (by simp) ?_
              refine AllReadyM.cons rfl (fun K hK => ?_) AllReadyM.nil
              go_simp
              refine Calls.mono (KG.out _ (below_callS HQ.out hHeld)) ?_
              rintro e w1 ⟨rfl, hb1⟩
              have hb2 := below_callS hHeld hb1
              go_wp2_with fail
              refine hK.out _ _ hb2 (fun hHeld => ?_)
              clear hK K
              try simp only [Act.put, List.setIfInBounds_toArray, List.set_cons_zero, List.set_cons_succ]
              refine wpAnyM_take (i := 16) (v := ?_) (by simp only [List.getElem?_toArray, List.getElem?_cons_succ, List.getElem?_cons_zero] <;> rfl) (by kernel_rfl) (by kernel_rfl) (by kernel_rfl) (by kernel_rfl) (by kernel_rfl) (fun _ _ _ h => h) (Or.inl ⟨by rfl, ?_⟩) (by assumption) ?_
              rotate_left
              · (intro wv hSw; (try dsimp only at hSw); obtain ⟨hcq, _⟩ := bcell hSw; have hsq := Below.size hSw; go_simp; try with_reducible rfl)
              try simp only [Act.put, List.setIfInBounds_toArray, List.set_cons_zero, List.set_cons_succ]
              refine wpAnyM_take (i := 17) (v := ?_) (by simp only [List.getElem?_toArray, List.getElem?_cons_succ, List.getElem?_cons_zero] <;> rfl) (by kernel_rfl) (by kernel_rfl) (by kernel_rfl) (by kernel_rfl) (by kernel_rfl) (fun _ _ _ h => h) (Or.inl ⟨by rfl, ?_⟩) (by assumption) ?_
              rotate_left
              · (intro wv hSw; (try dsimp only at hSw); obtain ⟨hcq, _⟩ := bcell hSw; have hsq := Below.size hSw; go_simp; try with_reducible rfl)
              try simp only [Act.put, List.setIfInBounds_toArray, List.set_cons_zero, List.set_cons_succ]
              refine wpAnyM_take (i := 19) (v := ?_) (by simp only [List.getElem?_toArray, List.getElem?_cons_succ, List.getElem?_cons_zero] <;> rfl) (by kernel_rfl) (by kernel_rfl) (by kernel_rfl) (by kernel_rfl) (by kernel_rfl) (fun _ _ _ h => h) (Or.inl ⟨by rfl, ?_⟩) (by assumption) ?_
              rotate_left
              · (intro wv hSw; (try dsimp only at hSw); obtain ⟨hcq, _⟩ := bcell hSw; have hsq := Below.size hSw; go_simp; try with_reducible rfl)
              try simp only [Act.put, List.setIfInBounds_toArray, List.set_cons_zero, List.set_cons_succ]
              refine wpAnyM_take (i := 20) (v := ?_) (by simp only [List.getElem?_toArray, List.getElem?_cons_succ, List.getElem?_cons_zero] <;> rfl) (by kernel_rfl) (by kernel_rfl) (by kernel_rfl) (by kernel_rfl) (by kernel_rfl) (fun _ _ _ h => h) (Or.inl ⟨by rfl, ?_⟩) (by assumption) ?_
              rotate_left
              · (intro wv hSw; (try dsimp only at hSw); obtain ⟨hcq, _⟩ := bcell hSw; have hsq := Below.size hSw; go_simp; try with_reducible rfl)
              try simp only [Act.put, List.setIfInBounds_toArray, List.set_cons_zero, List.set_cons_succ]
              refine wpAnyM_ready (rs := [21]) (by kernel_rfl) (by simp) ?_
              refine AllReadyM.last rfl (fun K hK => ?_)
              go_simp
              refine hK.out _ _ ?_
              clear hK K
              try simp only [Act.put, List.setIfInBounds_toArray, List.set_cons_zero, List.set_cons_succ]
              refine wpAnyM_done (by kernel_rfl) ?_ _
              refine NoPanic.normal ?_
              have HB2 := Lib.hid (below_call HB.out (below_callS HQ.out hb2) HB.out.size)
              clear hHeld hb1 hb2 KG y2 yl ybr yd0 yd1
              go_wp2
              go_roundw
              case rel => exact ⟨j + 1, _, by rfl, by go_num, by omega, HSZ.out, HB2, HT2⟩
              case measure => simp [intOf]; omega
      · obtain hre : rn = j := by omega
        have hlt' : ¬ (j : Int) < (rn : Int) := by omega
        have HF := Lib.hid (show t = mkS (mtT sz st lr) by
          have h := HT.out
          rw [List.take_of_length_le (by rw [HRL.out]; omega)] at h
          rw [h, HMT.out, HMD.out])
        have hbw := below_call HB3.out HB.out HB3.out.size
        clear hre
        go_wp2
        go_ret
        exact ⟨by rw [← HF.out]; rfl, hbw⟩
end Go.Proofs.YtfnamjkmkoldeaaGreatDoor
