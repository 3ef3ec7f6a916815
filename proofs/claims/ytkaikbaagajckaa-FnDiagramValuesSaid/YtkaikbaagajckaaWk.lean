/- The other diagram: the program, walked. -/
import Derived.Test.YtkaikbaagajckaaWi
import Derived.Test.YtkaikbaagajckaaVi
import Derived.Test.YtkaikbaagajckaaDf
namespace Go.Proofs.Ytkaikbaagajckaa
open Go.RowKit
set_option linter.unusedVariables false
set_option linter.unusedSimpArgs false
attribute [local go_sem ↓] Go.wp_at_zero Go.wp_at_succ
theorem OwnF.cellB {E : TypeId} {w : World} {base g n c i : Nat} {l : List I3} {x : I3} {v : Int} (h : OwnF 3 I3.enc I3.ok E w base (some ⟨g, 0, none⟩) n c l) (hx : l[i]? = some x) (hv : I64 v) : OwnF 3 I3.enc I3.ok E (w.setCell ⟨g, i * 3 + 1, none⟩ (.int .i64 v)) base (some ⟨g, 0, none⟩) n c (l.set i ⟨x.a, v, x.c⟩) := by
  obtain ⟨h1, h2, h3, h4⟩ := h
  have hok := h2 _ (List.mem_of_getElem? hx)
  obtain ⟨f0, f1, f2⟩ := flat_one hx v
  have hs := (h1.stored (i * 3 + 1) (.int .i64 v)).1
  refine ⟨by rw [f1] at hs; exact hs, fun z hz => ?_, by simpa using h3, h4⟩
  rcases List.mem_or_eq_of_mem_set hz with h | h
  · exact h2 z h
  · rw [h]; exact ⟨hok.1, hv, hok.2.2⟩
theorem OwnF.cellC {E : TypeId} {w : World} {base g n c i : Nat} {l : List I3} {x : I3} {v : Int} (h : OwnF 3 I3.enc I3.ok E w base (some ⟨g, 0, none⟩) n c l) (hx : l[i]? = some x) (hv : I64 v) : OwnF 3 I3.enc I3.ok E (w.setCell ⟨g, i * 3 + 2, none⟩ (.int .i64 v)) base (some ⟨g, 0, none⟩) n c (l.set i ⟨x.a, x.b, v⟩) := by
  obtain ⟨h1, h2, h3, h4⟩ := h
  have hok := h2 _ (List.mem_of_getElem? hx)
  obtain ⟨f0, f1, f2⟩ := flat_one hx v
  have hs := (h1.stored (i * 3 + 2) (.int .i64 v)).1
  refine ⟨by rw [f2] at hs; exact hs, fun z hz => ?_, by simpa using h3, h4⟩
  rcases List.mem_or_eq_of_mem_set hz with h | h
  · exact h2 z h
  · rw [h]; exact ⟨hok.1, hok.2.1, hv⟩
set_option maxHeartbeats 1000000 in
theorem slices_CloneN {a : Option Addr} {n c : Nat} {l : List I3} {w : World} (hI : F3 w a n c l) (hn : n ≤ 1048576) :
    Calls Try.prog 76 #[.slice a n c] w fun e w' => ∃ a' c', e = .returned (.slice a' n c') ∧ Below w.heap.size w w' ∧ OwnF 3 I3.enc I3.ok 76 w' w.heap.size a' n c' l := by
  have hnl := fun (wx : World) => Lib.run_eql_slice_nil (P := Try.prog) wx 24 76 a n c 0 0 Try.underlying24
  cases a with
  | none =>
    obtain ⟨rfl, rfl⟩ := hI.nil rfl
    have hl : l = [] := List.length_eq_zero_iff.1 hI.len
    subst hl
    clear hI
    go_enter Try.func76, Try.ntmps76
    go_wp2
    go_ret
    exact ⟨none, 0, rfl, Below.refl _ _, ⟨World.ownsRow_nil _ _ _ 3, (fun _ h => by cases h), rfl, fun _ => rfl⟩⟩
  | some ad =>
    have HI := Lib.hid hI
    clear hI
    go_enter Try.func76, Try.ntmps76
    go_wp2_with (at_builtin; refine appendL_F (k := 3) (enc := I3.enc) (ok := I3.ok) rfl _ _ 24 76 rfl Try.underlying24 Try.infoNode rfl (by decide) (by decide) I3.one9 w.heap.size _ _ _ _ (OwnF.emp w (Nat.le_refl _) (fun _ => rfl)) rfl _ _ _ _ rfl (HI.out.keep ((Below.refl _ _).alloc (Nat.le_refl _) _)) (by omega) (by omega) (by simp) ?_; intro a1 c1 w1 hown1 hb1 hg1 hnil1)
    have Hown := Lib.hid hown1
    clear hown1
    go_ret
    exact ⟨_, _, rfl, by repeat (first | exact Below.refl _ _ | assumption | refine below_allocS ?_ _ | refine below_callS ?_ (by assumption) | (refine Below.alloc ?_ (by first | omega | (simp; done) | (simp; omega)) _) | (refine Below.setCell ?_ (by first | omega | (simp; done) | (simp; omega)) _) | refine Below.drew ?_ | refine below_drewN ?_ _ | (refine below_call ?_ (by assumption) (by first | omega | (simp; done) | (simp; omega))) | (refine Below.trans ?_ (by assumption))), by simpa using Hown.out⟩
theorem impl_flipped {r : Int} {w : World} (h0 : 0 ≤ r) (h1 : r ≤ 1048576) : Calls Try.prog 77 #[.int .i64 r] w fun e w' => e = .returned (.int .i64 (flpR r)) ∧ w = w' := by
  by_cases h : r < 2
  · have HF := Lib.hid (flp_low h)
    have e1 : IntKind.i64.wrap (1 - r) = 1 - r := IntWalk.i64_in _ (by omega)
    go_enter Try.func77, Try.ntmps77
    go_wp2
    go_ret
    exact ⟨ret_int HF.out.symm, rfl⟩
  · have HF := Lib.hid (flp_high h)
    go_enter Try.func77, Try.ntmps77
    go_wp2
    go_ret
    exact ⟨ret_int HF.out.symm, rfl⟩
def notC (n : Int) (L : List I3) (root : Int) : Int × List I3 × Int × Int := if diaB n L root = false then (0, [], 0, 1) else (n, L.map flpN, flpR root, 0)
theorem notC_1 {n : Int} {L : List I3} {root : Int} (h : diaB n L root = false) : notC n L root = (0, [], 0, 1) := if_pos h
theorem notC_2 {n : Int} {L : List I3} {root : Int} (h : diaB n L root = true) : notC n L root = (n, L.map flpN, flpR root, 0) := by rw [notC, if_neg (by simp [h])]
theorem flp_mix {L : List I3} {j : Nat} {x : I3} (hx : L[j]? = some x) : ((L.take j).map flpN ++ L.drop j)[j]? = some x ∧ ((L.take j).map flpN ++ L.drop j).set j (flpN x) = (L.take (j + 1)).map flpN ++ L.drop (j + 1) := by
  have hj := (List.getElem?_eq_some_iff.1 hx).1
  have hl : ((L.take j).map flpN).length = j := by simp; omega
  constructor
  · rw [List.getElem?_append_right (by omega), hl, Nat.sub_self, List.getElem?_drop, Nat.add_zero]; exact hx
  · rw [List.set_append_right _ _ (by omega), hl, Nat.sub_self, take_at hx, List.map_append, List.append_assoc]
    congr 1
    rw [List.drop_eq_getElem_cons hj, List.set_cons_zero]
    rfl
set_option maxRecDepth 100000 in
set_option maxHeartbeats 8000000 in
theorem impl_NotDiagram {a : Option Addr} {n c : Nat} {L : List I3} {inp root : Int} {w : World} (hI : F3 w a n c L) (hi : I64 inp) (hr : I64 root) (hn : n ≤ maxLen) :
    Calls Try.prog 28 #[.agg #[.int .i64 inp, .slice a n c, .int .i64 root]] w fun e w' => ∃ da dc, e = .returned (.tuple #[.agg #[.int .i64 (notC inp L root).1, .slice da (notC inp L root).2.1.length dc, .int .i64 (notC inp L root).2.2.1], .int .i64 (notC inp L root).2.2.2]) ∧ OwnF 3 I3.enc I3.ok 76 w' w.heap.size da (notC inp L root).2.1.length dc (notC inp L root).2.1 ∧ Below w.heap.size w w' := by
  have HI := Lib.hid hI
  obtain rfl : L.length = n := hI.len
  have hb0 : Below w.heap.size w ((w.alloc (.cells #[.int .i64 inp, .slice a L.length c, .int .i64 root] 26)).alloc (.cells #[.int .i64 0, .slice none 0 0, .int .i64 0] 26)) := by repeat (first | exact Below.refl _ _ | assumption | refine below_allocS ?_ _ | refine below_callS ?_ (by assumption) | (refine Below.alloc ?_ (by first | omega | (simp; done) | (simp; omega)) _) | (refine Below.setCell ?_ (by first | omega | (simp; done) | (simp; omega)) _) | refine Below.drew ?_ | refine below_drewN ?_ _ | (refine below_call ?_ (by assumption) (by first | omega | (simp; done) | (simp; omega))) | (refine Below.trans ?_ (by assumption)))
  have X := Lib.hid ((Blk.made w #[.int .i64 inp, .slice a L.length c, .int .i64 root] 26).keep (below_alloc1 (Below.refl _ _) (.cells #[.int .i64 0, .slice none 0 0, .int .i64 0] 26)))
  have R := Lib.hid (Blk.made1 w (.cells #[.int .i64 inp, .slice a L.length c, .int .i64 root] 26) #[.int .i64 0, .slice none 0 0, .int .i64 0] 26)
  have hcd := impl_IsDiagram (w := (w.alloc (.cells #[.int .i64 inp, .slice a L.length c, .int .i64 root] 26)).alloc (.cells #[.int .i64 0, .slice none 0 0, .int .i64 0] 26)) (hI.keep hb0) hi hr hn
  clear hI
  cases hd : diaB inp L root
  · rw [hd] at hcd
    have HCD := Lib.hid hcd
    have HF := Lib.hid (notC_1 hd)
    clear hcd hd
    go_enter Try.func28, Try.ntmps28
    go_wp2_with fail
    refine Calls.mono HCD.out ?_
    rintro e w1 ⟨rfl, hb1⟩
    have R1 := Lib.hid (R.out.keep hb1)
    have r0 := R1.out.cell 0
    have r1 := R1.out.cell 1
    have r2 := R1.out.cell 2
    have rl := R1.out.lt
    have rf := R1.out.free
    simp only [List.getElem?_toArray, List.getElem?_cons_zero, List.getElem?_cons_succ] at r0 r1 r2
    have hb01 := below_callS hb0 hb1
    go_wp2
    refine bodyPost_ret (v := .tuple #[.agg #[.int .i64 0, .slice none 0 0, .int .i64 0], .int .i64 1]) (by simp [results, Try.results28, go_sem, *]) rfl ⟨none, 0, by rw [HF.out]; rfl, by rw [HF.out]; exact ⟨World.ownsRow_nil _ _ _ 3, (fun _ h => by cases h), rfl, fun _ => rfl⟩, by repeat (first | exact Below.refl _ _ | assumption | refine below_allocS ?_ _ | refine below_callS ?_ (by assumption) | (refine Below.alloc ?_ (by first | omega | (simp; done) | (simp; omega)) _) | (refine Below.setCell ?_ (by first | omega | (simp; done) | (simp; omega)) _) | refine Below.drew ?_ | refine below_drewN ?_ _ | (refine below_call ?_ (by assumption) (by first | omega | (simp; done) | (simp; omega))) | (refine Below.trans ?_ (by assumption)))⟩
  rw [hd] at hcd
  have HCD := Lib.hid hcd
  have HF := Lib.hid (notC_2 hd)
  obtain ⟨hR, hrr, h0, h20, hll, _, _⟩ := dia_redu hd
  have HFR := Lib.hid hR.frst
  have hr0 := hrr.1
  have hr1 := hrr.2
  clear hcd hd hR hrr
  go_enter Try.func28, Try.ntmps28
  go_wp2_with fail
  refine Calls.mono HCD.out ?_
  rintro e w1 ⟨rfl, hb1⟩
  have X1 := Lib.hid (X.out.keep hb1)
  have R1 := Lib.hid (R.out.keep hb1)
  have HB1 := Lib.hid (below_callS hb0 hb1)
  clear X R hb0 hb1 HCD
  have x0 := X1.out.cell 0
  have x1 := X1.out.cell 1
  have x2 := X1.out.cell 2
  have xl := X1.out.lt
  simp only [List.getElem?_toArray, List.getElem?_cons_zero, List.getElem?_cons_succ] at x0 x1 x2
  go_wp2_with fail
  refine wp_region_noPanic ?_
  refine wp_region_M (L := 10) (S := fun wx => Below w1.heap.size w1 wx) (by kernel_rfl) ?_ (fun hHeld => ?_)
  · exact (Below.refl _ _).drew
  refine wpAnyM_take (i := 0) (v := ?_) (by simp only [List.getElem?_toArray, List.getElem?_cons_succ, List.getElem?_cons_zero] <;> rfl) (by kernel_rfl) (by kernel_rfl) (by kernel_rfl) (by kernel_rfl) (by kernel_rfl) (fun _ _ _ h => h) (Or.inl ⟨by rfl, ?_⟩) (by assumption) ?_
  rotate_left
  · (intro wv hSw; (try dsimp only at hSw); obtain ⟨hcq, _⟩ := bcell hSw; have hsq := Below.size hSw; have q0 := (hcq _ _ xl).trans x0; have q1 := (hcq _ _ xl).trans x1; have q2 := (hcq _ _ xl).trans x2; have ql := Nat.lt_of_lt_of_le xl hsq; go_simp; try with_reducible rfl)
  try simp only [Act.put, List.setIfInBounds_toArray, List.set_cons_zero, List.set_cons_succ]
  refine wpAnyM_take (i := 1) (v := ?_) (by simp only [List.getElem?_toArray, List.getElem?_cons_succ, List.getElem?_cons_zero] <;> rfl) (by kernel_rfl) (by kernel_rfl) (by kernel_rfl) (by kernel_rfl) (by kernel_rfl) (fun _ _ _ h => h) (Or.inl ⟨by rfl, ?_⟩) (by assumption) ?_
  rotate_left
  · (intro wv hSw; (try dsimp only at hSw); obtain ⟨hcq, _⟩ := bcell hSw; have hsq := Below.size hSw; have q0 := (hcq _ _ xl).trans x0; have q1 := (hcq _ _ xl).trans x1; have q2 := (hcq _ _ xl).trans x2; have ql := Nat.lt_of_lt_of_le xl hsq; go_simp; try with_reducible rfl)
  try simp only [Act.put, List.setIfInBounds_toArray, List.set_cons_zero, List.set_cons_succ]
  refine wpAnyM_take (i := 2) (v := ?_) (by simp only [List.getElem?_toArray, List.getElem?_cons_succ, List.getElem?_cons_zero] <;> rfl) (by kernel_rfl) (by kernel_rfl) (by kernel_rfl) (by kernel_rfl) (by kernel_rfl) (fun _ _ _ h => h) (Or.inl ⟨by rfl, ?_⟩) (by assumption) ?_
  rotate_left
  · (intro wv hSw; (try dsimp only at hSw); obtain ⟨hcq, _⟩ := bcell hSw; have hsq := Below.size hSw; have q0 := (hcq _ _ xl).trans x0; have q1 := (hcq _ _ xl).trans x1; have q2 := (hcq _ _ xl).trans x2; have ql := Nat.lt_of_lt_of_le xl hsq; go_simp; try with_reducible rfl)
  try simp only [Act.put, List.setIfInBounds_toArray, List.set_cons_zero, List.set_cons_succ]
  refine wpAnyM_take (i := 3) (v := ?_) (by simp only [List.getElem?_toArray, List.getElem?_cons_succ, List.getElem?_cons_zero] <;> rfl) (by kernel_rfl) (by kernel_rfl) (by kernel_rfl) (by kernel_rfl) (by kernel_rfl) (fun _ _ _ h => h) (Or.inl ⟨by rfl, ?_⟩) (by assumption) ?_
  rotate_left
  · (intro wv hSw; (try dsimp only at hSw); obtain ⟨hcq, _⟩ := bcell hSw; have hsq := Below.size hSw; have q0 := (hcq _ _ xl).trans x0; have q1 := (hcq _ _ xl).trans x1; have q2 := (hcq _ _ xl).trans x2; have ql := Nat.lt_of_lt_of_le xl hsq; go_simp; try with_reducible rfl)
  try simp only [Act.put, List.setIfInBounds_toArray, List.set_cons_zero, List.set_cons_succ]
  refine wpAnyM_take (i := 5) (v := ?_) (by simp only [List.getElem?_toArray, List.getElem?_cons_succ, List.getElem?_cons_zero] <;> rfl) (by kernel_rfl) (by kernel_rfl) (by kernel_rfl) (by kernel_rfl) (by kernel_rfl) (fun _ _ _ h => h) (Or.inl ⟨by rfl, ?_⟩) (by assumption) ?_
  rotate_left
  · (intro wv hSw; (try dsimp only at hSw); obtain ⟨hcq, _⟩ := bcell hSw; have hsq := Below.size hSw; have q0 := (hcq _ _ xl).trans x0; have q1 := (hcq _ _ xl).trans x1; have q2 := (hcq _ _ xl).trans x2; have ql := Nat.lt_of_lt_of_le xl hsq; go_simp; try with_reducible rfl)
  try simp only [Act.put, List.setIfInBounds_toArray, List.set_cons_zero, List.set_cons_succ]
  refine wpAnyM_take (i := 6) (v := ?_) (by simp only [List.getElem?_toArray, List.getElem?_cons_succ, List.getElem?_cons_zero] <;> rfl) (by kernel_rfl) (by kernel_rfl) (by kernel_rfl) (by kernel_rfl) (by kernel_rfl) (fun _ _ _ h => h) (Or.inl ⟨by rfl, ?_⟩) (by assumption) ?_
  rotate_left
  · (intro wv hSw; (try dsimp only at hSw); obtain ⟨hcq, _⟩ := bcell hSw; have hsq := Below.size hSw; have q0 := (hcq _ _ xl).trans x0; have q1 := (hcq _ _ xl).trans x1; have q2 := (hcq _ _ xl).trans x2; have ql := Nat.lt_of_lt_of_le xl hsq; go_simp; try with_reducible rfl)
  try simp only [Act.put, List.setIfInBounds_toArray, List.set_cons_zero, List.set_cons_succ]
  have HCL := Lib.hid (fun (wx : World) (hb : Below w1.heap.size w1 wx) => slices_CloneN (HI.out.keep (below_callS HB1.out hb)) (by omega))
  have hwl := HB1.out.size
  have hxl := R1.out.lt
  clear x0 x1 x2 xl
  refine wpAnyM_ready (rs := [4, 9]) (by kernel_rfl) (by simp) ?_
  refine AllReadyM.cons rfl (fun K hK => ?A) (AllReadyM.cons rfl (fun K hK => ?B) AllReadyM.nil)
  case' A =>
    go_simp
    refine Calls.mono (HCL.out _ hHeld) ?_
    rintro e w4 ⟨da, dc, rfl, hb4, hO4⟩
    have hbA := below_callS hHeld hb4
    go_wp2_with fail
    refine hK.out _ _ hbA (fun hHeld => ?_)
    clear hK K
    try simp only [Act.put, List.setIfInBounds_toArray, List.set_cons_zero, List.set_cons_succ]
    refine wpAnyM_ready (rs := [7, 9]) (by kernel_rfl) (by simp) ?_
    refine AllReadyM.cons rfl (fun K hK => ?C) (AllReadyM.cons rfl (fun K hK => ?D) AllReadyM.nil)
    case' C =>
      go_simp
      refine Calls.mono (impl_flipped hr0 (by omega)) ?_
      rintro e _ ⟨rfl, rfl⟩
      go_wp2_with fail
      refine hK.out _ _ hHeld (fun hHeld => ?_)
      clear hK K
      try simp only [Act.put, List.setIfInBounds_toArray, List.set_cons_zero, List.set_cons_succ]
      refine wpAnyM_take (i := 8) (v := ?_) (by simp only [List.getElem?_toArray, List.getElem?_cons_succ, List.getElem?_cons_zero] <;> rfl) (by kernel_rfl) (by kernel_rfl) (by kernel_rfl) (by kernel_rfl) (by kernel_rfl) (fun _ _ _ h => h) (Or.inl ⟨by rfl, ?_⟩) (by assumption) ?_
      rotate_left
      · (intro wv hSw; (try dsimp only at hSw); obtain ⟨hcq, _⟩ := bcell hSw; have hsq := Below.size hSw; go_simp; try with_reducible rfl)
      try simp only [Act.put, List.setIfInBounds_toArray, List.set_cons_zero, List.set_cons_succ]
      refine wpAnyM_ready (rs := [9]) (by kernel_rfl) (by simp) ?_
      refine AllReadyM.cons rfl (fun K hK => ?_) AllReadyM.nil
      go_simp
      have hbZ : Below w4.heap.size w4 (w4.alloc (.cells #[.int .i64 0, .slice none 0 0, .int .i64 0] 26)) := below_alloc1 (Below.refl _ _) _
      refine hK.out _ _ (below_callS hHeld hbZ) (fun hHeld => ?_)
      clear hK K
      try simp only [Act.put, List.setIfInBounds_toArray, List.set_cons_zero, List.set_cons_succ]
      refine wpAnyM_ready (rs := [10]) (by kernel_rfl) (by simp) ?_
      refine AllReadyM.last rfl (fun K hK => ?_)
      go_simp
      refine hK.out _ _ ?_
      clear hK K
      try simp only [Act.put, List.setIfInBounds_toArray, List.set_cons_zero, List.set_cons_succ]
      refine wpAnyM_done (by kernel_rfl) ?_ _
      refine NoPanic.normal ?_
      obtain ⟨bX, hbX⟩ : ∃ bX, bX = w4.heap.size := ⟨_, rfl⟩
      obtain ⟨wE, hwE⟩ : ∃ wE, wE = w4.alloc (.cells #[.int .i64 inp, .slice da L.length dc, .int .i64 (flpR root)] 26) := ⟨_, rfl⟩
      have U := Lib.hid (show Blk wE bX #[.int .i64 inp, .slice da L.length dc, .int .i64 (flpR root)] 26 from by
        rw [hwE, hbX]
        exact Blk.made _ _ _)
      have hgb : ∀ q : Nat, ∀ g, da = some ⟨g, 0, none⟩ → (some w4.heap.size : Option Nat) ≠ some g := fun _ g e e' => by
        have := (hO4.blk g e).2
        simp at e'
        omega
      have O := Lib.hid (show OwnF 3 I3.enc I3.ok 76 wE w1.heap.size da L.length dc L from by
        rw [hwE]
        exact (hO4.keep (below_alloc1 (Below.refl _ _) _)).le (Nat.le_refl _))
      have hs4 := hb4.size
      have hbw : Below w1.heap.size w1 wE := by
        rw [hwE]
        exact below_allocS hbA _
      have hbX2 : w1.heap.size ≤ bX := by rw [hbX]; exact hs4
      rw [← hwE]
      try rw [← hbX]
      have R := Lib.hid (R1.out.keep hbw)
      have HB := Lib.hid (below_callS HB1.out hbw)
      clear hwE hbX hgb hb4 hO4 hbA hbZ hHeld hbw
    case' D =>
      go_simp
      have hbZ : Below w4.heap.size w4 (w4.alloc (.cells #[.int .i64 0, .slice none 0 0, .int .i64 0] 26)) := below_alloc1 (Below.refl _ _) _
      refine hK.out _ _ (below_callS hHeld hbZ) (fun hHeld => ?_)
      clear hK K
      try simp only [Act.put, List.setIfInBounds_toArray, List.set_cons_zero, List.set_cons_succ]
      refine wpAnyM_ready (rs := [7]) (by kernel_rfl) (by simp) ?_
      refine AllReadyM.cons rfl (fun K hK => ?_) AllReadyM.nil
      go_simp
      refine Calls.mono (impl_flipped hr0 (by omega)) ?_
      rintro e _ ⟨rfl, rfl⟩
      go_wp2_with fail
      refine hK.out _ _ hHeld (fun hHeld => ?_)
      clear hK K
      try simp only [Act.put, List.setIfInBounds_toArray, List.set_cons_zero, List.set_cons_succ]
      refine wpAnyM_take (i := 8) (v := ?_) (by simp only [List.getElem?_toArray, List.getElem?_cons_succ, List.getElem?_cons_zero] <;> rfl) (by kernel_rfl) (by kernel_rfl) (by kernel_rfl) (by kernel_rfl) (by kernel_rfl) (fun _ _ _ h => h) (Or.inl ⟨by rfl, ?_⟩) (by assumption) ?_
      rotate_left
      · (intro wv hSw; (try dsimp only at hSw); obtain ⟨hcq, _⟩ := bcell hSw; have hsq := Below.size hSw; go_simp; try with_reducible rfl)
      try simp only [Act.put, List.setIfInBounds_toArray, List.set_cons_zero, List.set_cons_succ]
      refine wpAnyM_ready (rs := [10]) (by kernel_rfl) (by simp) ?_
      refine AllReadyM.last rfl (fun K hK => ?_)
      go_simp
      refine hK.out _ _ ?_
      clear hK K
      try simp only [Act.put, List.setIfInBounds_toArray, List.set_cons_zero, List.set_cons_succ]
      refine wpAnyM_done (by kernel_rfl) ?_ _
      refine NoPanic.normal ?_
      obtain ⟨bX, hbX⟩ : ∃ bX, bX = w4.heap.size := ⟨_, rfl⟩
      obtain ⟨wE, hwE⟩ : ∃ wE, wE = w4.alloc (.cells #[.int .i64 inp, .slice da L.length dc, .int .i64 (flpR root)] 26) := ⟨_, rfl⟩
      have U := Lib.hid (show Blk wE bX #[.int .i64 inp, .slice da L.length dc, .int .i64 (flpR root)] 26 from by
        rw [hwE, hbX]
        exact Blk.made _ _ _)
      have hgb : ∀ q : Nat, ∀ g, da = some ⟨g, 0, none⟩ → (some w4.heap.size : Option Nat) ≠ some g := fun _ g e e' => by
        have := (hO4.blk g e).2
        simp at e'
        omega
      have O := Lib.hid (show OwnF 3 I3.enc I3.ok 76 wE w1.heap.size da L.length dc L from by
        rw [hwE]
        exact (hO4.keep (below_alloc1 (Below.refl _ _) _)).le (Nat.le_refl _))
      have hs4 := hb4.size
      have hbw : Below w1.heap.size w1 wE := by
        rw [hwE]
        exact below_allocS hbA _
      have hbX2 : w1.heap.size ≤ bX := by rw [hbX]; exact hs4
      rw [← hwE]
      try rw [← hbX]
      have R := Lib.hid (R1.out.keep hbw)
      have HB := Lib.hid (below_callS HB1.out hbw)
      clear hwE hbX hgb hb4 hO4 hbA hbZ hHeld hbw
  case' B =>
    go_simp
    have hbZ : Below w1.drew.heap.size w1.drew (w1.drew.alloc (.cells #[.int .i64 0, .slice none 0 0, .int .i64 0] 26)) := below_alloc1 (Below.refl _ _) _
    refine hK.out _ _ (below_callS hHeld hbZ) (fun hHeld => ?_)
    clear hK K
    try simp only [Act.put, List.setIfInBounds_toArray, List.set_cons_zero, List.set_cons_succ]
    refine wpAnyM_ready (rs := [4]) (by kernel_rfl) (by simp) ?_
    refine AllReadyM.cons rfl (fun K hK => ?_) AllReadyM.nil
    go_simp
    refine Calls.mono (HCL.out _ hHeld) ?_
    rintro e w4 ⟨da, dc, rfl, hb4, hO4⟩
    have hbA := below_callS hHeld hb4
    go_wp2_with fail
    refine hK.out _ _ hbA (fun hHeld => ?_)
    clear hK K
    try simp only [Act.put, List.setIfInBounds_toArray, List.set_cons_zero, List.set_cons_succ]
    refine wpAnyM_ready (rs := [7]) (by kernel_rfl) (by simp) ?_
    refine AllReadyM.cons rfl (fun K hK => ?_) AllReadyM.nil
    go_simp
    refine Calls.mono (impl_flipped hr0 (by omega)) ?_
    rintro e _ ⟨rfl, rfl⟩
    go_wp2_with fail
    refine hK.out _ _ hHeld (fun hHeld => ?_)
    clear hK K
    try simp only [Act.put, List.setIfInBounds_toArray, List.set_cons_zero, List.set_cons_succ]
    refine wpAnyM_take (i := 8) (v := ?_) (by simp only [List.getElem?_toArray, List.getElem?_cons_succ, List.getElem?_cons_zero] <;> rfl) (by kernel_rfl) (by kernel_rfl) (by kernel_rfl) (by kernel_rfl) (by kernel_rfl) (fun _ _ _ h => h) (Or.inl ⟨by rfl, ?_⟩) (by assumption) ?_
    rotate_left
    · (intro wv hSw; (try dsimp only at hSw); obtain ⟨hcq, _⟩ := bcell hSw; have hsq := Below.size hSw; go_simp; try with_reducible rfl)
    try simp only [Act.put, List.setIfInBounds_toArray, List.set_cons_zero, List.set_cons_succ]
    have ZB := ((Blk.made w1.drew #[.int .i64 0, .slice none 0 0, .int .i64 0] 26).keep hb4)
    have z0 := ZB.cell 0
    have z1 := ZB.cell 1
    have z2 := ZB.cell 2
    have zl := ZB.lt
    have zf := ZB.free
    simp at z0 z1 z2 zl zf
    refine wpAnyM_ready (rs := [10]) (by kernel_rfl) (by simp) ?_
    refine AllReadyM.last rfl (fun K hK => ?_)
    go_simp
    refine hK.out _ _ ?_
    clear hK K
    try simp only [Act.put, List.setIfInBounds_toArray, List.set_cons_zero, List.set_cons_succ]
    refine wpAnyM_done (by kernel_rfl) ?_ _
    refine NoPanic.normal ?_
    obtain ⟨bX, hbX⟩ : ∃ bX, bX = w1.heap.size := ⟨_, rfl⟩
    obtain ⟨wE, hwE⟩ : ∃ wE, wE = (((w4).setCell ⟨w1.heap.size, 0, none⟩ (.int .i64 inp)).setCell ⟨w1.heap.size, 1, none⟩ (.slice da L.length dc)).setCell ⟨w1.heap.size, 2, none⟩ (.int .i64 (flpR root)) := ⟨_, rfl⟩
    have U := Lib.hid (show Blk wE bX #[.int .i64 inp, .slice da L.length dc, .int .i64 (flpR root)] 26 from by
      rw [hwE, hbX]
      have h := ((((Blk.made w1.drew #[.int .i64 0, .slice none 0 0, .int .i64 0] 26).keep hb4).set 0 (.int .i64 inp)).set 1 (.slice da L.length dc)).set 2 (.int .i64 (flpR root))
      simpa using h)
    have hgb : ∀ q : Nat, ∀ g, da = some ⟨g, 0, none⟩ → (some w1.heap.size : Option Nat) ≠ some g := fun _ g e e' => by
      have := (hO4.blk g e).1
      simp at e' this
      omega
    have O := Lib.hid (show OwnF 3 I3.enc I3.ok 76 wE w1.heap.size da L.length dc L from by
      rw [hwE]
      exact (((hO4.keepG (set_grown _ _ _) (hgb 0)).keepG (set_grown _ _ _) (hgb 0)).keepG (set_grown _ _ _) (hgb 0)).le (by simp))
    have hbw : Below w1.heap.size w1 wE := by
      rw [hwE]
      exact ((hHeld.setCell (Nat.le_refl _) _).setCell (Nat.le_refl _) _).setCell (Nat.le_refl _) _
    have hbX2 : w1.heap.size ≤ bX := by rw [hbX]; exact Nat.le_refl _
    rw [← hwE]
    try rw [← hbX]
    have R := Lib.hid (R1.out.keep hbw)
    have HB := Lib.hid (below_callS HB1.out hbw)
    clear hwE hbX hgb hb4 hO4 hbA hbZ hHeld hbw ZB z0 z1 z2 zl zf
  all_goals (
    have u1 := U.out.cell 1
    have ul := U.out.lt
    simp only [List.getElem?_toArray, List.getElem?_cons_succ, List.getElem?_cons_zero] at u1
    have hsE : w1.heap.size ≤ wE.heap.size := by have := U.out.lt; omega
    go_wp2_with fail
    clear u1 ul
    go_loopw [23] (fun s23 wr => ∃ j : Nat, s23 = .int .i64 j ∧ j ≤ L.length ∧ w1.heap.size ≤ wr.heap.size ∧ Hid (Below w.heap.size w wr) ∧ Hid (Blk wr (w.heap.size + 1) #[.int .i64 0, .slice none 0 0, .int .i64 0] 26) ∧ Hid (Blk wr bX #[.int .i64 inp, .slice da L.length dc, .int .i64 (flpR root)] 26) ∧ Hid (OwnF 3 I3.enc I3.ok 76 wr w1.heap.size da L.length dc ((L.take j).map flpN ++ L.drop j))) (fun s23 _ => L.length - (intOf s23).toNat)
    case atStart => exact ⟨0, rfl, by omega, hsE, HB, R, U, Lib.hid (by simpa using O.out)⟩
    case round =>
      clear R U O HB
      obtain ⟨j, rfl, hj, hsr, HB, R, U, O⟩ := hrel
      by_cases hlt : j < L.length
      · have hlt' : (j : Int) < (L.length : Int) := by omega
        have hj0 : (0 : Int) ≤ (j : Int) := by omega
        obtain ⟨x, hx⟩ : ∃ x, L[j]? = some x := ⟨_, List.getElem?_eq_getElem hlt⟩
        have hmx := flp_mix hx
        obtain ⟨g, hda⟩ := O.out.shape (by omega)
        subst hda
        obtain ⟨b1, o1, y, hby, hb1, hy, hwf, c0, c1, c2⟩ := F3.get O.out.flats hlt
        cases hby
        have hyx : y = x := by have h := hmx.1; rw [hy] at h; exact Option.some.inj h
        subst hyx
        have f1 := HFR.out.low _ _ hx
        have f2 := HFR.out.high _ _ hx
        unfold RefB at f1 f2
        have hbR : Below wr.heap.size wr (wr.alloc (.cells #[.int .i64 y.a, .int .i64 y.b, .int .i64 y.c] 76)) := below_alloc1 (Below.refl _ _) _
        simp only [Nat.zero_add] at c0 c1 c2
        have RA := Lib.hid (R.out.keep hbR)
        have UA := Lib.hid (U.out.keep hbR)
        have OA := Lib.hid (O.out.keep hbR)
        have HBA := Lib.hid (below_callS HB.out hbR)
        have ZA := Lib.hid (Blk.made wr #[.int .i64 y.a, .int .i64 y.b, .int .i64 y.c] 76)
        have d1 := cell_of_keep hbR c1
        have d2 := cell_of_keep hbR c2
        obtain ⟨wA, hwA⟩ : ∃ wA, wA = wr.alloc (.cells #[.int .i64 y.a, .int .i64 y.b, .int .i64 y.c] 76) := ⟨_, rfl⟩
        rw [← hwA] at RA UA OA HBA ZA d1 d2
        have u1 := UA.out.cell 1
        have ul := UA.out.lt
        have n1 := ZA.out.cell 1
        have n2 := ZA.out.cell 2
        have nl := ZA.out.lt
        simp only [List.getElem?_toArray, List.getElem?_cons_succ, List.getElem?_cons_zero] at u1 n1 n2
        have hsA : w1.heap.size ≤ wA.heap.size := by omega
        have HMX := Lib.hid hmx
        clear hx hmx hy R U HB
        go_wp2_with fail
        rw [← hwA]
        clear hwA c0 c1 c2 hbR hb1
        refine wp_region_noPanic ?_
        refine wp_region_M (L := 17) (S := (fun wx => wx.cell? ⟨bX, 1, none⟩ = some (.slice (some ⟨g, 0, none⟩) L.length dc) ∧ wx.cell? ⟨wr.heap.size, 1, none⟩ = some (.int .i64 y.b) ∧ wx.cell? ⟨wr.heap.size, 2, none⟩ = some (.int .i64 y.c) ∧ bX < wx.heap.size ∧ wr.heap.size < wx.heap.size)) (by kernel_rfl) ?_ (fun hHeld => ?_)
        · exact ⟨u1, n1, n2, ul, nl⟩
        refine wpAnyM_take (i := 0) (v := ?_) (by simp only [List.getElem?_toArray, List.getElem?_cons_succ, List.getElem?_cons_zero] <;> rfl) (by kernel_rfl) (by kernel_rfl) (by kernel_rfl) (by kernel_rfl) (by kernel_rfl) (fun _ _ _ h => h) (Or.inl ⟨by rfl, ?_⟩) (by assumption) ?_
        rotate_left
        · (intro wv hSw; (try dsimp only at hSw); obtain ⟨h1, h2, h3, h4, h5⟩ := hSw; go_simp; try with_reducible rfl)
        try simp only [Act.put, List.setIfInBounds_toArray, List.set_cons_zero, List.set_cons_succ]
        refine wpAnyM_take (i := 1) (v := ?_) (by simp only [List.getElem?_toArray, List.getElem?_cons_succ, List.getElem?_cons_zero] <;> rfl) (by kernel_rfl) (by kernel_rfl) (by kernel_rfl) (by kernel_rfl) (by kernel_rfl) (fun _ _ _ h => h) (Or.inl ⟨by rfl, ?_⟩) (by assumption) ?_
        rotate_left
        · (intro wv hSw; (try dsimp only at hSw); obtain ⟨h1, h2, h3, h4, h5⟩ := hSw; go_simp; try with_reducible rfl)
        try simp only [Act.put, List.setIfInBounds_toArray, List.set_cons_zero, List.set_cons_succ]
        refine wpAnyM_take (i := 2) (v := ?_) (by simp only [List.getElem?_toArray, List.getElem?_cons_succ, List.getElem?_cons_zero] <;> rfl) (by kernel_rfl) (by kernel_rfl) (by kernel_rfl) (by kernel_rfl) (by kernel_rfl) (fun _ _ _ h => h) (Or.inl ⟨by rfl, ?_⟩) (by assumption) ?_
        rotate_left
        · (intro wv hSw; (try dsimp only at hSw); obtain ⟨h1, h2, h3, h4, h5⟩ := hSw; go_simp; try with_reducible rfl)
        try simp only [Act.put, List.setIfInBounds_toArray, List.set_cons_zero, List.set_cons_succ]
        refine wpAnyM_take (i := 3) (v := ?_) (by simp only [List.getElem?_toArray, List.getElem?_cons_succ, List.getElem?_cons_zero] <;> rfl) (by kernel_rfl) (by kernel_rfl) (by kernel_rfl) (by kernel_rfl) (by kernel_rfl) (fun _ _ _ h => h) (Or.inl ⟨by rfl, ?_⟩) (by assumption) ?_
        rotate_left
        · (intro wv hSw; (try dsimp only at hSw); obtain ⟨h1, h2, h3, h4, h5⟩ := hSw; go_simp; try with_reducible rfl)
        try simp only [Act.put, List.setIfInBounds_toArray, List.set_cons_zero, List.set_cons_succ]
        refine wpAnyM_take (i := 4) (v := ?_) (by simp only [List.getElem?_toArray, List.getElem?_cons_succ, List.getElem?_cons_zero] <;> rfl) (by kernel_rfl) (by kernel_rfl) (by kernel_rfl) (by kernel_rfl) (by kernel_rfl) (fun _ _ _ h => h) (Or.inl ⟨by rfl, ?_⟩) (by assumption) ?_
        rotate_left
        · (intro wv hSw; (try dsimp only at hSw); obtain ⟨h1, h2, h3, h4, h5⟩ := hSw; go_simp; try with_reducible rfl)
        try simp only [Act.put, List.setIfInBounds_toArray, List.set_cons_zero, List.set_cons_succ]
        refine wpAnyM_take (i := 5) (v := ?_) (by simp only [List.getElem?_toArray, List.getElem?_cons_succ, List.getElem?_cons_zero] <;> rfl) (by kernel_rfl) (by kernel_rfl) (by kernel_rfl) (by kernel_rfl) (by kernel_rfl) (fun _ _ _ h => h) (Or.inl ⟨by rfl, ?_⟩) (by assumption) ?_
        rotate_left
        · (intro wv hSw; (try dsimp only at hSw); obtain ⟨h1, h2, h3, h4, h5⟩ := hSw; go_simp; try with_reducible rfl)
        try simp only [Act.put, List.setIfInBounds_toArray, List.set_cons_zero, List.set_cons_succ]
        refine wpAnyM_take (i := 6) (v := ?_) (by simp only [List.getElem?_toArray, List.getElem?_cons_succ, List.getElem?_cons_zero] <;> rfl) (by kernel_rfl) (by kernel_rfl) (by kernel_rfl) (by kernel_rfl) (by kernel_rfl) (fun _ _ _ h => h) (Or.inl ⟨by rfl, ?_⟩) (by assumption) ?_
        rotate_left
        · (intro wv hSw; (try dsimp only at hSw); obtain ⟨h1, h2, h3, h4, h5⟩ := hSw; go_simp; try with_reducible rfl)
        try simp only [Act.put, List.setIfInBounds_toArray, List.set_cons_zero, List.set_cons_succ]
        refine wpAnyM_take (i := 7) (v := ?_) (by simp only [List.getElem?_toArray, List.getElem?_cons_succ, List.getElem?_cons_zero] <;> rfl) (by kernel_rfl) (by kernel_rfl) (by kernel_rfl) (by kernel_rfl) (by kernel_rfl) (fun _ _ _ h => h) (Or.inl ⟨by rfl, ?_⟩) (by assumption) ?_
        rotate_left
        · (intro wv hSw; (try dsimp only at hSw); obtain ⟨h1, h2, h3, h4, h5⟩ := hSw; go_simp; try with_reducible rfl)
        try simp only [Act.put, List.setIfInBounds_toArray, List.set_cons_zero, List.set_cons_succ]
        refine wpAnyM_take (i := 9) (v := ?_) (by simp only [List.getElem?_toArray, List.getElem?_cons_succ, List.getElem?_cons_zero] <;> rfl) (by kernel_rfl) (by kernel_rfl) (by kernel_rfl) (by kernel_rfl) (by kernel_rfl) (fun _ _ _ h => h) (Or.inl ⟨by rfl, ?_⟩) (by assumption) ?_
        rotate_left
        · (intro wv hSw; (try dsimp only at hSw); obtain ⟨h1, h2, h3, h4, h5⟩ := hSw; go_simp; try with_reducible rfl)
        try simp only [Act.put, List.setIfInBounds_toArray, List.set_cons_zero, List.set_cons_succ]
        refine wpAnyM_take (i := 10) (v := ?_) (by simp only [List.getElem?_toArray, List.getElem?_cons_succ, List.getElem?_cons_zero] <;> rfl) (by kernel_rfl) (by kernel_rfl) (by kernel_rfl) (by kernel_rfl) (by kernel_rfl) (fun _ _ _ h => h) (Or.inl ⟨by rfl, ?_⟩) (by assumption) ?_
        rotate_left
        · (intro wv hSw; (try dsimp only at hSw); obtain ⟨h1, h2, h3, h4, h5⟩ := hSw; go_simp; try with_reducible rfl)
        try simp only [Act.put, List.setIfInBounds_toArray, List.set_cons_zero, List.set_cons_succ]
        refine wpAnyM_ready (rs := [8]) (by kernel_rfl) (by simp) ?_
        refine AllReadyM.cons rfl (fun K hK => ?_) AllReadyM.nil
        go_simp
        refine Calls.mono (impl_flipped f1.1 (by omega)) ?_
        rintro e _ ⟨rfl, rfl⟩
        go_wp2_with fail
        refine hK.out _ _ hHeld (fun hHeld => ?_)
        clear hK K
        try simp only [Act.put, List.setIfInBounds_toArray, List.set_cons_zero, List.set_cons_succ]
        refine wpAnyM_ready (rs := [11]) (by kernel_rfl) (by simp) ?_
        refine AllReadyM.cons rfl (fun K hK => ?_) AllReadyM.nil
        go_simp
        refine Calls.mono (impl_flipped f2.1 (by omega)) ?_
        rintro e _ ⟨rfl, rfl⟩
        go_wp2_with fail
        refine hK.out _ _ hHeld (fun hHeld => ?_)
        clear hK K
        try simp only [Act.put, List.setIfInBounds_toArray, List.set_cons_zero, List.set_cons_succ]
        refine wpAnyM_take (i := 12) (v := ?_) (by simp only [List.getElem?_toArray, List.getElem?_cons_succ, List.getElem?_cons_zero] <;> rfl) (by kernel_rfl) (by kernel_rfl) (by kernel_rfl) (by kernel_rfl) (by kernel_rfl) (fun _ _ _ h => h) (Or.inl ⟨by rfl, ?_⟩) (by assumption) ?_
        rotate_left
        · (intro wv hSw; (try dsimp only at hSw); obtain ⟨h1, h2, h3, h4, h5⟩ := hSw; go_simp; try with_reducible rfl)
        try simp only [Act.put, List.setIfInBounds_toArray, List.set_cons_zero, List.set_cons_succ]
        refine wpAnyM_take (i := 13) (v := ?_) (by simp only [List.getElem?_toArray, List.getElem?_cons_succ, List.getElem?_cons_zero] <;> rfl) (by kernel_rfl) (by kernel_rfl) (by kernel_rfl) (by kernel_rfl) (by kernel_rfl) (fun _ _ _ h => h) (Or.inl ⟨by rfl, ?_⟩) (by assumption) ?_
        rotate_left
        · (intro wv hSw; (try dsimp only at hSw); obtain ⟨h1, h2, h3, h4, h5⟩ := hSw; go_simp; try with_reducible rfl)
        try simp only [Act.put, List.setIfInBounds_toArray, List.set_cons_zero, List.set_cons_succ]
        have gf := OA.out.free
        have gl := (OA.out.blk g rfl).2
        have hgx := OA.out.blk g rfl
        have hgb : g ≠ bX := fun e => blk_ne UA.out OA.out.typN (by decide) (by rw [e])
        have hgw : g ≠ wr.heap.size := fun e => by
          have h1 := OA.out.flats
          have h2 := (O.out.blk g rfl).2
          omega
        refine wpAnyM_ready (rs := [14]) (by kernel_rfl) (by simp) ?_
        refine AllReadyM.cons rfl (fun K hK => ?_) AllReadyM.nil
        go_simp
        refine hK.out _ _ ⟨cell_set u1 hgb, cell_set n1 hgw, cell_set n2 hgw, lt_set ul, lt_set nl⟩ (fun hHeld => ?_)
        clear hK K
        try simp only [Act.put, List.setIfInBounds_toArray, List.set_cons_zero, List.set_cons_succ]
        refine wpAnyM_take (i := 15) (v := ?_) (by simp only [List.getElem?_toArray, List.getElem?_cons_succ, List.getElem?_cons_zero] <;> rfl) (by kernel_rfl) (by kernel_rfl) (by kernel_rfl) (by kernel_rfl) (by kernel_rfl) (fun _ _ _ h => h) (Or.inl ⟨by rfl, ?_⟩) (by assumption) ?_
        rotate_left
        · (intro wv hSw; (try dsimp only at hSw); obtain ⟨h1, h2, h3, h4, h5⟩ := hSw; go_simp; try with_reducible rfl)
        try simp only [Act.put, List.setIfInBounds_toArray, List.set_cons_zero, List.set_cons_succ]
        refine wpAnyM_take (i := 16) (v := ?_) (by simp only [List.getElem?_toArray, List.getElem?_cons_succ, List.getElem?_cons_zero] <;> rfl) (by kernel_rfl) (by kernel_rfl) (by kernel_rfl) (by kernel_rfl) (by kernel_rfl) (fun _ _ _ h => h) (Or.inl ⟨by rfl, ?_⟩) (by assumption) ?_
        rotate_left
        · (intro wv hSw; (try dsimp only at hSw); obtain ⟨h1, h2, h3, h4, h5⟩ := hSw; go_simp; try with_reducible rfl)
        try simp only [Act.put, List.setIfInBounds_toArray, List.set_cons_zero, List.set_cons_succ]
        refine wpAnyM_ready (rs := [17]) (by kernel_rfl) (by simp) ?_
        refine AllReadyM.last rfl (fun K hK => ?_)
        go_simp
        refine hK.out _ _ ?_
        clear hK K
        try simp only [Act.put, List.setIfInBounds_toArray, List.set_cons_zero, List.set_cons_succ]
        refine wpAnyM_done (by kernel_rfl) ?_ _
        refine NoPanic.normal ?_
        obtain ⟨wN, hwN⟩ : ∃ wN : World, wN = ((wA.setCell ⟨g, j * 3 + 1, none⟩ (.int .i64 (flpR y.b))).setCell ⟨g, j * 3 + 2, none⟩ (.int .i64 (flpR y.c))).drew := ⟨_, rfl⟩
        have i1 : I64 (flpR y.b) := by have := flp_ref (n := j) (show RefB y.b j from f1); unfold RefB at this; unfold I64; omega
        have i2 : I64 (flpR y.c) := by have := flp_ref (n := j) (show RefB y.c j from f2); unfold RefB at this; unfold I64; omega
        have hM := (List.getElem?_eq_some_iff.1 HMX.out.1).1
        have ON := Lib.hid (show OwnF 3 I3.enc I3.ok 76 wN w1.heap.size (some ⟨g, 0, none⟩) L.length dc ((L.take (j + 1)).map flpN ++ L.drop (j + 1)) from by
          rw [hwN]
          have h := ((OA.out.cellB HMX.out.1 i1).cellC (i := j) (x := ⟨y.a, flpR y.b, y.c⟩) (v := flpR y.c) (by rw [List.getElem?_set_self hM]) i2).keep (Below.refl _ _).drew
          rw [List.set_set] at h
          have e := HMX.out.2
          rw [flpN] at e
          rw [e] at h
          exact h)
        have RN := Lib.hid (show Blk wN (w.heap.size + 1) #[.int .i64 0, .slice none 0 0, .int .i64 0] 26 by rw [hwN]; exact ((RA.out.keepG (set_grown _ _ _) (by simp; omega)).keepG (set_grown _ _ _) (by simp; omega)).drew)
        have UN := Lib.hid (show Blk wN bX #[.int .i64 inp, .slice (some ⟨g, 0, none⟩) L.length dc, .int .i64 (flpR root)] 26 by rw [hwN]; exact ((UA.out.keepG (set_grown _ _ _) (by simpa using hgb)).keepG (set_grown _ _ _) (by simpa using hgb)).drew)
        have HBN := Lib.hid (show Below w.heap.size w wN by rw [hwN]; exact ((HBA.out.setCell (by show _ ≤ g; omega) _).setCell (by show _ ≤ g; omega) _).drew)
        have hsN : w1.heap.size ≤ wN.heap.size := by rw [hwN]; simp [World.setCell]; exact hsA
        rw [← hwN]
        clear hwN hHeld O OA RA UA ZA HBA u1 ul n1 n2 nl d1 d2 gf gl
        go_wp2_with fail
        go_roundw
        case rel => exact ⟨j + 1, by go_num, by omega, hsN, HBN, RN, UN, ON⟩
        case measure => simp [intOf]; omega
      · have hjn : j = L.length := by omega
        subst hjn
        have hlt' : ¬ (L.length : Int) < (L.length : Int) := by omega
        have r0 := R.out.cell 0
        have r1 := R.out.cell 1
        have r2 := R.out.cell 2
        have rl := R.out.lt
        have rf := R.out.free
        have u0 := U.out.cell 0
        have u1 := U.out.cell 1
        have u2 := U.out.cell 2
        have ul := U.out.lt
        simp only [List.getElem?_toArray, List.getElem?_cons_succ, List.getElem?_cons_zero] at r0 r1 r2 u0 u1 u2
        have OE := Lib.hid (show OwnF 3 I3.enc I3.ok 76 wr w1.heap.size da L.length dc (L.map flpN) from by simpa using O.out)
        clear O
        go_wp2
        have hne : ∀ z, da = some ⟨z, 0, none⟩ → (some (w.heap.size + 1) : Option Nat) ≠ some z := fun z e e' => by
          have := (OE.out.blk z e).1
          simp at e'
          omega
        have hbz : Below w.heap.size w wr := HB.out
        have hlm : (L.map flpN).length = L.length := by simp
        refine bodyPost_ret (v := .tuple #[.agg #[.int .i64 inp, .slice da L.length dc, .int .i64 (flpR root)], .int .i64 0]) (by simp [results, Try.results28, go_sem, *]) rfl ⟨da, dc, ?_, ?_, ?_⟩
        · rw [HF.out]; simp only [hlm]
        · rw [HF.out]
          simp only [hlm]
          exact ((((OE.out.keepG (set_grown _ _ _) hne).keepG (set_grown _ _ _) hne).keepG (set_grown _ _ _) hne)).le (by omega)
        · repeat (first | exact Below.refl _ _ | assumption | refine below_allocS ?_ _ | refine below_callS ?_ (by assumption) | (refine Below.alloc ?_ (by first | omega | (simp; done) | (simp; omega)) _) | (refine Below.setCell ?_ (by first | omega | (simp; done) | (simp; omega)) _) | refine Below.drew ?_ | refine below_drewN ?_ _ | (refine below_call ?_ (by assumption) (by first | omega | (simp; done) | (simp; omega))) | (refine Below.trans ?_ (by assumption)))
  )
end Go.Proofs.Ytkaikbaagajckaa
