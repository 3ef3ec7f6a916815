/- Draws of diagrams and what is asked of them, walked. -/
import Derived.Test.YtkaikbaagajckaaDg
import Derived.Test.YtkaikbaagajckaaWi
namespace Go.Proofs.Ytkaikbaagajckaa
open Go.RowKit
set_option linter.unusedVariables false
set_option linter.unusedSimpArgs false
attribute [local go_sem ↓] Go.wp_at_zero Go.wp_at_succ
set_option maxRecDepth 100000 in
set_option maxHeartbeats 4000000 in
theorem spec_DrawFixInput {a : Option Addr} {n c : Nat} {w : World} (hB : Byts w a n c) (hn : n ≤ 4096) :
    Calls Try.prog 25 #[.slice a n c] w fun e w' => ∃ n' da dc D rt fi bit, e = .returned (.tuple #[.agg #[.int .i64 n', .slice da (D : List I3).length dc, .int .i64 rt], .int .i64 fi, .int .i64 bit]) ∧ I64 n' ∧ D.length ≤ 200 ∧ I64 rt ∧ I64 fi ∧ I64 bit ∧ OwnF 3 I3.enc I3.ok 76 w' w.heap.size da D.length dc D ∧ Below w.heap.size w w' := by
  have HB := Lib.hid hB
  clear hB
  go_enter Try.func25, Try.ntmps25
  go_wp2_with fail
  have hb0 := below_alloc1 (Below.refl w.heap.size w) (.cells #[.int .i64 0, .slice none 0 0, .int .i64 0] 26)
  refine Calls.mono (dw_l01From HB.out hb0 hn) ?_
  rintro e w1 ⟨b, rfl, hb1, hlb, hd⟩
  simp at hlb
  have X := Lib.hid ((Blk.made w #[.int .i64 0, .slice none 0 0, .int .i64 0] 26).keep hb1)
  have HBW := Lib.hid (below_callS hb0 hb1)
  have HD := Lib.hid hd
  clear hd hb1 hb0
  go_wp2_with fail
  refine Calls.mono (dw_next (b := b) (lo := w.heap.size) (n := 6) HD.out.src (by unfold I64; omega)) ?_
  rintro e w2 ⟨m, rfl, hm0, hm1, hd⟩
  replace hm1 : m < 6 := by omega
  replace X := Lib.hid (X.out.dw hd (by omega))
  replace HD := Lib.hid (HD.out.trans hd)
  clear hd
  have hx2 := X.out.lt
  have hbs := HD.out.src.lt.2
  go_wp2_with fail
  refine Calls.mono (spec_l22Draw HD.out hm0 (by omega)) ?_
  rintro e w3 ⟨n', da, dc, D, rt, rfl, hi, hl, hr, hO, hd⟩
  replace X := Lib.hid (X.out.dw hd (by omega))
  replace HD := Lib.hid (HD.out.trans hd)
  have hs2 := HD.out.size
  have hs3 := hd.size
  have O := Lib.hid hO
  clear hd hO
  go_wp2_with fail
  have hbZ : Below w3.heap.size w3 (w3.alloc (.cells #[.int .i64 n', .slice da D.length dc, .int .i64 rt] 26)) := below_alloc1 (Below.refl _ _) _
  replace X := Lib.hid (X.out.keep hbZ)
  replace O := Lib.hid (O.out.keep hbZ)
  replace HD := Lib.hid (HD.out.below hbZ)
  have Z := Lib.hid (Blk.made w3 #[.int .i64 n', .slice da D.length dc, .int .i64 rt] 26)
  obtain ⟨w4, hw4⟩ : ∃ w4, w4 = w3.alloc (.cells #[.int .i64 n', .slice da D.length dc, .int .i64 rt] 26) := ⟨_, rfl⟩
  rw [← hw4] at X O HD Z ⊢
  have hs4 : w4.heap.size = w3.heap.size + 1 := by rw [hw4]; simp
  clear hw4 hbZ
  have e1 : IntKind.i64.wrap (m + 1) = m + 1 := IntWalk.i64_in _ (by omega)
  refine wp_region_noPanic ?_
  refine wp_region_M (L := 15) (S := (fun wx => wx.cell? ⟨w3.heap.size, 0, none⟩ = some (.int .i64 n') ∧ wx.cell? ⟨w3.heap.size, 1, none⟩ = some (.slice da D.length dc) ∧ wx.cell? ⟨w3.heap.size, 2, none⟩ = some (.int .i64 rt) ∧ w3.heap.size < wx.heap.size)) (by kernel_rfl) ?_ (fun hHeld => ?_)
  · exact ⟨Z.out.cell 0, Z.out.cell 1, Z.out.cell 2, Z.out.lt⟩
  refine wpAnyM_take (i := 0) (v := ?_) (by simp only [List.getElem?_toArray, List.getElem?_cons_succ, List.getElem?_cons_zero] <;> rfl) (by kernel_rfl) (by kernel_rfl) (by kernel_rfl) (by kernel_rfl) (by kernel_rfl) (fun _ _ _ h => h) (Or.inl ⟨by rfl, ?_⟩) (by assumption) ?_
  rotate_left
  · (intro wv hSw; (try dsimp only at hSw); obtain ⟨h1, h2, h3, h4⟩ := hSw; go_simp; try with_reducible rfl)
  try simp only [Act.put, List.setIfInBounds_toArray, List.set_cons_zero, List.set_cons_succ]
  refine wpAnyM_take (i := 1) (v := ?_) (by simp only [List.getElem?_toArray, List.getElem?_cons_succ, List.getElem?_cons_zero] <;> rfl) (by kernel_rfl) (by kernel_rfl) (by kernel_rfl) (by kernel_rfl) (by kernel_rfl) (fun _ _ _ h => h) (Or.inl ⟨by rfl, ?_⟩) (by assumption) ?_
  rotate_left
  · (intro wv hSw; (try dsimp only at hSw); go_simp; try with_reducible rfl)
  try simp only [Act.put, List.setIfInBounds_toArray, List.set_cons_zero, List.set_cons_succ]
  refine wpAnyM_take (i := 2) (v := ?_) (by simp only [List.getElem?_toArray, List.getElem?_cons_succ, List.getElem?_cons_zero] <;> rfl) (by kernel_rfl) (by kernel_rfl) (by kernel_rfl) (by kernel_rfl) (by kernel_rfl) (fun _ _ _ h => h) (Or.inl ⟨by rfl, ?_⟩) (by assumption) ?_
  rotate_left
  · (intro wv hSw; (try dsimp only at hSw); go_simp; try with_reducible rfl)
  try simp only [Act.put, List.setIfInBounds_toArray, List.set_cons_zero, List.set_cons_succ]
  refine wpAnyM_take (i := 3) (v := ?_) (by simp only [List.getElem?_toArray, List.getElem?_cons_succ, List.getElem?_cons_zero] <;> rfl) (by kernel_rfl) (by kernel_rfl) (by kernel_rfl) (by kernel_rfl) (by kernel_rfl) (fun _ _ _ h => h) (Or.inl ⟨by rfl, ?_⟩) (by assumption) ?_
  rotate_left
  · (intro wv hSw; (try dsimp only at hSw); go_simp; try with_reducible rfl)
  try simp only [Act.put, List.setIfInBounds_toArray, List.set_cons_zero, List.set_cons_succ]
  refine wpAnyM_take (i := 5) (v := ?_) (by simp only [List.getElem?_toArray, List.getElem?_cons_succ, List.getElem?_cons_zero] <;> rfl) (by kernel_rfl) (by kernel_rfl) (by kernel_rfl) (by kernel_rfl) (by kernel_rfl) (fun _ _ _ h => h) (Or.inl ⟨by rfl, ?_⟩) (by assumption) ?_
  rotate_left
  · (intro wv hSw; (try dsimp only at hSw); go_simp; try with_reducible rfl)
  try simp only [Act.put, List.setIfInBounds_toArray, List.set_cons_zero, List.set_cons_succ]
  refine wpAnyM_take (i := 9) (v := ?_) (by simp only [List.getElem?_toArray, List.getElem?_cons_succ, List.getElem?_cons_zero] <;> rfl) (by kernel_rfl) (by kernel_rfl) (by kernel_rfl) (by kernel_rfl) (by kernel_rfl) (fun _ _ _ h => h) (Or.inl ⟨by rfl, ?_⟩) (by assumption) ?_
  rotate_left
  · (intro wv hSw; (try dsimp only at hSw); go_simp; try with_reducible rfl)
  try simp only [Act.put, List.setIfInBounds_toArray, List.set_cons_zero, List.set_cons_succ]
  refine wpAnyM_take (i := 11) (v := ?_) (by simp only [List.getElem?_toArray, List.getElem?_cons_succ, List.getElem?_cons_zero] <;> rfl) (by kernel_rfl) (by kernel_rfl) (by kernel_rfl) (by kernel_rfl) (by kernel_rfl) (fun _ _ _ h => h) (Or.inl ⟨by rfl, ?_⟩) (by assumption) ?_
  rotate_left
  · (intro wv hSw; (try dsimp only at hSw); go_simp; try with_reducible rfl)
  try simp only [Act.put, List.setIfInBounds_toArray, List.set_cons_zero, List.set_cons_succ]
  replace X := Lib.hid X.out.drew
  replace O := Lib.hid (O.out.keep (Below.refl _ _).drew)
  replace HD := Lib.hid HD.out.drew
  replace Z := Lib.hid Z.out.drew
  refine wpAnyM_ready (rs := [4]) (by kernel_rfl) (by simp) ?_
  refine AllReadyM.cons rfl (fun K hK => ?_) AllReadyM.nil
  go_simp
  refine Calls.mono (dw_next (b := b) (lo := w.heap.size) (n := m + 1) HD.out.src (by unfold I64; omega)) ?_
  rintro e wa ⟨r1, rfl, q0, q1, hd⟩
  have hsa := hd.size
  have hr1 : 0 ≤ r1 ∧ r1 ≤ 10 := by omega
  replace X := Lib.hid (X.out.dw hd (by omega))
  replace O := Lib.hid (O.out.dw hd hbs)
  replace Z := Lib.hid (Z.out.dw hd (by omega))
  replace HD := Lib.hid (HD.out.trans hd)
  clear hd q0 q1
  go_wp2_with fail
  refine hK.out _ _ ⟨Z.out.cell 0, Z.out.cell 1, Z.out.cell 2, Z.out.lt⟩ (fun hHeld => ?_)
  clear hK K
  try simp only [Act.put, List.setIfInBounds_toArray, List.set_cons_zero, List.set_cons_succ]
  refine wpAnyM_ready (rs := [6]) (by kernel_rfl) (by simp) ?_
  refine AllReadyM.cons rfl (fun K hK => ?_) AllReadyM.nil
  go_simp
  refine Calls.mono (dw_next (b := b) (lo := w.heap.size) (n := 16) HD.out.src (by unfold I64; omega)) ?_
  rintro e wb ⟨r2, rfl, q0, q1, hd⟩
  have hsb := hd.size
  have hr2 : 0 ≤ r2 ∧ r2 < 16 := by omega
  replace X := Lib.hid (X.out.dw hd (by omega))
  replace O := Lib.hid (O.out.dw hd hbs)
  replace Z := Lib.hid (Z.out.dw hd (by omega))
  replace HD := Lib.hid (HD.out.trans hd)
  clear hd q0 q1
  have e2 : IntKind.i64.wrap (r2.tdiv 15) = r2 / 15 := IntWalk.i64_quo _ _ ⟨by omega, by omega, by omega⟩
  have e3 : IntKind.i64.wrap (r1 - r2 / 15) = r1 - r2 / 15 := IntWalk.i64_in _ (by omega)
  go_wp2_with fail
  refine hK.out _ _ ⟨Z.out.cell 0, Z.out.cell 1, Z.out.cell 2, Z.out.lt⟩ (fun hHeld => ?_)
  clear hK K
  try simp only [Act.put, List.setIfInBounds_toArray, List.set_cons_zero, List.set_cons_succ]
  refine wpAnyM_takeP (i := 7) (v := ?_) (by simp only [List.getElem?_toArray, List.getElem?_cons_succ, List.getElem?_cons_zero] <;> rfl) (by decide) (by kernel_rfl) (by kernel_rfl) (by kernel_rfl) (by kernel_rfl) (fun _ _ _ h => h) (Or.inl ⟨by rfl, ?_⟩) (by first | exact (fun _ => by assumption) | exact (fun h => by cases h)) ?_
  rotate_left
  · (intro wv hSw; clear hSw; go_simp; try with_reducible rfl)
  try simp only [Act.put, List.setIfInBounds_toArray, List.set_cons_zero, List.set_cons_succ]
  refine wpAnyM_takeP (i := 8) (v := ?_) (by simp only [List.getElem?_toArray, List.getElem?_cons_succ, List.getElem?_cons_zero] <;> rfl) (by decide) (by kernel_rfl) (by kernel_rfl) (by kernel_rfl) (by kernel_rfl) (fun _ _ _ h => h) (Or.inl ⟨by rfl, ?_⟩) (by first | exact (fun _ => by assumption) | exact (fun h => by cases h)) ?_
  rotate_left
  · (intro wv hSw; clear hSw; go_simp; try with_reducible rfl)
  try simp only [Act.put, List.setIfInBounds_toArray, List.set_cons_zero, List.set_cons_succ]
  refine wpAnyM_ready (rs := [10]) (by kernel_rfl) (by simp) ?_
  refine AllReadyM.cons rfl (fun K hK => ?_) AllReadyM.nil
  go_simp
  refine Calls.mono (dw_next (b := b) (lo := w.heap.size) (n := 2) HD.out.src (by unfold I64; omega)) ?_
  rintro e wc ⟨r3, rfl, q0, q1, hd⟩
  have hsc := hd.size
  have hr3 : 0 ≤ r3 ∧ r3 < 2 := by omega
  replace X := Lib.hid (X.out.dw hd (by omega))
  replace O := Lib.hid (O.out.dw hd hbs)
  replace Z := Lib.hid (Z.out.dw hd (by omega))
  replace HD := Lib.hid (HD.out.trans hd)
  clear hd q0 q1
  go_wp2_with fail
  refine hK.out _ _ ⟨Z.out.cell 0, Z.out.cell 1, Z.out.cell 2, Z.out.lt⟩ (fun hHeld => ?_)
  clear hK K
  try simp only [Act.put, List.setIfInBounds_toArray, List.set_cons_zero, List.set_cons_succ]
  refine wpAnyM_ready (rs := [12]) (by kernel_rfl) (by simp) ?_
  refine AllReadyM.cons rfl (fun K hK => ?_) AllReadyM.nil
  go_simp
  refine Calls.mono (dw_next (b := b) (lo := w.heap.size) (n := 16) HD.out.src (by unfold I64; omega)) ?_
  rintro e wd ⟨r4, rfl, q0, q1, hd⟩
  have hsd := hd.size
  have hr4 : 0 ≤ r4 ∧ r4 < 16 := by omega
  replace X := Lib.hid (X.out.dw hd (by omega))
  replace O := Lib.hid (O.out.dw hd hbs)
  replace Z := Lib.hid (Z.out.dw hd (by omega))
  replace HD := Lib.hid (HD.out.trans hd)
  clear hd q0 q1
  have e4 : IntKind.i64.wrap (r4.tdiv 15) = r4 / 15 := IntWalk.i64_quo _ _ ⟨by omega, by omega, by omega⟩
  have e5 : IntKind.i64.wrap (r3 + r4 / 15) = r3 + r4 / 15 := IntWalk.i64_in _ (by omega)
  go_wp2_with fail
  refine hK.out _ _ ⟨Z.out.cell 0, Z.out.cell 1, Z.out.cell 2, Z.out.lt⟩ (fun hHeld => ?_)
  clear hK K
  try simp only [Act.put, List.setIfInBounds_toArray, List.set_cons_zero, List.set_cons_succ]
  refine wpAnyM_takeP (i := 13) (v := ?_) (by simp only [List.getElem?_toArray, List.getElem?_cons_succ, List.getElem?_cons_zero] <;> rfl) (by decide) (by kernel_rfl) (by kernel_rfl) (by kernel_rfl) (by kernel_rfl) (fun _ _ _ h => h) (Or.inl ⟨by rfl, ?_⟩) (by first | exact (fun _ => by assumption) | exact (fun h => by cases h)) ?_
  rotate_left
  · (intro wv hSw; clear hSw; go_simp; try with_reducible rfl)
  try simp only [Act.put, List.setIfInBounds_toArray, List.set_cons_zero, List.set_cons_succ]
  refine wpAnyM_takeP (i := 14) (v := ?_) (by simp only [List.getElem?_toArray, List.getElem?_cons_succ, List.getElem?_cons_zero] <;> rfl) (by decide) (by kernel_rfl) (by kernel_rfl) (by kernel_rfl) (by kernel_rfl) (fun _ _ _ h => h) (Or.inl ⟨by rfl, ?_⟩) (by first | exact (fun _ => by assumption) | exact (fun h => by cases h)) ?_
  rotate_left
  · (intro wv hSw; clear hSw; go_simp; try with_reducible rfl)
  try simp only [Act.put, List.setIfInBounds_toArray, List.set_cons_zero, List.set_cons_succ]
  have x0 := X.out.cell 0
  have x1 := X.out.cell 1
  have x2 := X.out.cell 2
  have xl := X.out.lt
  have xf := X.out.free
  simp only [List.getElem?_toArray, List.getElem?_cons_succ, List.getElem?_cons_zero] at x0 x1 x2
  refine wpAnyM_ready (rs := [15]) (by kernel_rfl) (by simp) ?_
  refine AllReadyM.last rfl (fun K hK => ?_)
  go_simp
  refine hK.out _ _ ?_
  clear hK K
  try simp only [Act.put, List.setIfInBounds_toArray, List.set_cons_zero, List.set_cons_succ]
  refine wpAnyM_ready (rs := [16]) (by kernel_rfl) (by simp) ?_
  refine AllReadyM.then (by kernel_rfl) rfl (fun K hK => ?_)
  go_simp
  refine hK.out _ _ ?_
  clear hK K
  try simp only [Act.put, List.setIfInBounds_toArray, List.set_cons_zero, List.set_cons_succ]
  refine wpAnyM_ready (rs := [17]) (by kernel_rfl) (by simp) ?_
  refine AllReadyM.then (by kernel_rfl) rfl (fun K hK => ?_)
  go_simp
  refine hK.out _ _ ?_
  clear hK K
  try simp only [Act.put, List.setIfInBounds_toArray, List.set_cons_zero, List.set_cons_succ]
  refine wpAnyM_done (by kernel_rfl) ?_ _
  refine NoPanic.normal ?_
  clear hHeld
  go_wp2
  have hne : ∀ q, da = some ⟨q, 0, none⟩ → (some w.heap.size : Option Nat) ≠ some q := fun q e e' => by
    have := (O.out.blk q e).1
    simp at e'
    omega
  have hfin := HD.out.fin HBW.out (by omega)
  refine bodyPost_ret (v := .tuple #[.agg #[.int .i64 n', .slice da D.length dc, .int .i64 rt], .int .i64 (r1 - r2 / 15), .int .i64 (r3 + r4 / 15)]) (by simp [results, Try.results25, go_sem, *]) rfl ⟨n', da, dc, D, rt, _, _, rfl, hi, hl, hr, by unfold I64; omega, by unfold I64; omega, ?_, ?_⟩
  · exact (((O.out.keepG (set_grown _ _ _) hne).keepG (set_grown _ _ _) hne).keepG (set_grown _ _ _) hne).le (by omega)
  · repeat (first | exact Below.refl _ _ | assumption | refine below_allocS ?_ _ | refine below_callS ?_ (by assumption) | (refine Below.alloc ?_ (by first | omega | (simp; done) | (simp; omega)) _) | (refine Below.setCell ?_ (by first | omega | (simp; done) | (simp; omega)) _) | refine Below.drew ?_ | refine below_drewN ?_ _ | (refine below_call ?_ (by assumption) (by first | omega | (simp; done) | (simp; omega))) | (refine Below.trans ?_ (by assumption)))
set_option maxRecDepth 100000 in
set_option maxHeartbeats 4000000 in
theorem spec_DrawValueOf {a : Option Addr} {n c : Nat} {w : World} (hB : Byts w a n c) (hn : n ≤ 4096) :
    Calls Try.prog 23 #[.slice a n c] w fun e w' => ∃ n' da dc D rt va vn vc V, e = .returned (.tuple #[.agg #[.int .i64 n', .slice da (D : List I3).length dc, .int .i64 rt], .slice va vn vc]) ∧ I64 n' ∧ D.length ≤ 200 ∧ I64 rt ∧ vn ≤ 10 ∧ OwnF 3 I3.enc I3.ok 76 w' w.heap.size da D.length dc D ∧ OwnI 2 w' w.heap.size va vn vc V ∧ Below w.heap.size w w' := by
  have HB := Lib.hid hB
  clear hB
  go_enter Try.func23, Try.ntmps23
  go_wp2_with fail
  have hb0 := below_alloc1 (Below.refl w.heap.size w) (.cells #[.int .i64 0, .slice none 0 0, .int .i64 0] 26)
  refine Calls.mono (dw_l01From HB.out hb0 hn) ?_
  rintro e w1 ⟨b, rfl, hb1, hlb, hd⟩
  simp at hlb
  have X := Lib.hid ((Blk.made w #[.int .i64 0, .slice none 0 0, .int .i64 0] 26).keep hb1)
  have HBW := Lib.hid (below_callS hb0 hb1)
  have HD := Lib.hid hd
  clear hd hb1 hb0
  go_wp2_with fail
  refine Calls.mono (dw_next (b := b) (lo := w.heap.size) (n := 6) HD.out.src (by unfold I64; omega)) ?_
  rintro e w2 ⟨m, rfl, hm0, hm1, hd⟩
  replace hm1 : m < 6 := by omega
  have hs1 := hd.size
  replace X := Lib.hid (X.out.dw hd (by omega))
  replace HD := Lib.hid (HD.out.trans hd)
  clear hd
  have hx2 := X.out.lt
  have hbs := HD.out.src.lt.2
  go_wp2_with fail
  refine Calls.mono (spec_l22Draw HD.out hm0 (by omega)) ?_
  rintro e w3 ⟨n', da, dc, D, rt, rfl, hi, hl, hr, hO, hd⟩
  replace X := Lib.hid (X.out.dw hd (by omega))
  replace HD := Lib.hid (HD.out.trans hd)
  have hs2 := HD.out.size
  have hs3 := hd.size
  have O := Lib.hid hO
  clear hd hO
  go_wp2_with fail
  have hbZ : Below w3.heap.size w3 ((w3.alloc (.cells #[.int .i64 n', .slice da D.length dc, .int .i64 rt] 26)).alloc (.cells #[] 2)) := below_alloc1 (below_alloc1 (Below.refl _ _) _) _
  replace X := Lib.hid (X.out.keep hbZ)
  replace O := Lib.hid (O.out.keep hbZ)
  replace HD := Lib.hid (HD.out.below hbZ)
  have Z := Lib.hid ((Blk.made w3 #[.int .i64 n', .slice da D.length dc, .int .i64 rt] 26).keep (below_alloc1 (Below.refl _ _) (.cells #[] 2)))
  have V := Lib.hid (show OwnI 2 ((w3.alloc (.cells #[.int .i64 n', .slice da D.length dc, .int .i64 rt] 26)).alloc (.cells #[] 2)) w2.heap.size (some ⟨w3.heap.size + 1, 0, none⟩) 0 0 [] from by
    have h := OwnI.empty (E := 2) (base := w2.heap.size) (w3.alloc (.cells #[.int .i64 n', .slice da D.length dc, .int .i64 rt] 26)) (by simp; omega)
    simpa using h)
  obtain ⟨w4, hw4⟩ : ∃ w4, w4 = (w3.alloc (.cells #[.int .i64 n', .slice da D.length dc, .int .i64 rt] 26)).alloc (.cells #[] 2) := ⟨_, rfl⟩
  rw [← hw4] at X O HD Z V ⊢
  have hs4 : w3.heap.size + 1 < w4.heap.size := by rw [hw4]; simp
  clear hw4 hbZ
  go_loopw [7, 8] (fun s7 s8 wr => ∃ (j va vc : Nat) (l : List Int), s7 = .slice (some ⟨va, 0, none⟩) j vc ∧ s8 = .int .i64 j ∧ (j : Int) ≤ m ∧ w3.heap.size + 1 < wr.heap.size ∧ Hid (Blk wr w.heap.size #[.int .i64 0, .slice none 0 0, .int .i64 0] 26) ∧ Hid (Blk wr w3.heap.size #[.int .i64 n', .slice da D.length dc, .int .i64 rt] 26) ∧ Hid (OwnF 3 I3.enc I3.ok 76 wr w2.heap.size da D.length dc D) ∧ Hid (OwnI 2 wr w2.heap.size (some ⟨va, 0, none⟩) j vc l) ∧ Hid (Dw 136 w.heap.size b w1 wr)) (fun _ s8 _ => (m - intOf s8).toNat)
  case atStart => exact ⟨0, _, 0, [], rfl, rfl, by omega, by omega, X, Z, O, V, HD⟩
  case round =>
    clear X Z O V HD
    obtain ⟨j, va, vc, l, rfl, rfl, hj, hsr, X, Z, O, V, HD⟩ := hrel
    by_cases hlt : (j : Int) < m
    · go_wp2_with fail
      refine Calls.mono (dw_next (b := b) (lo := w.heap.size) (n := 2) HD.out.src (by unfold I64; omega)) ?_
      rintro e wa ⟨r1, rfl, q0, q1, hd⟩
      have hsa := hd.size
      have hri : I64 r1 := by unfold I64; omega
      replace X := Lib.hid (X.out.dw hd (by omega))
      replace O := Lib.hid (O.out.dw hd hbs)
      replace V := Lib.hid (V.out.dw hd hbs)
      replace Z := Lib.hid (Z.out.dw hd (by omega))
      replace HD := Lib.hid (HD.out.trans hd)
      have hsz := HD.out.size
      clear hd q0 q1
      go_wp2_with (at_builtin; refine appI1 (z := r1) rfl _ _ rfl Try.underlying28 Try.infoi64 w2.heap.size _ _ _ _ V.out rfl _ rfl rfl hri (by omega) (by omega) ?_; intro g' c' wn ho hb ht hat hsz; have VN := Lib.hid ho; have XN := Lib.hid (X.out.keepA ht (blk_ne X.out V.out.typN (by decide))); have ZN := Lib.hid (Z.out.keepA ht (blk_ne Z.out V.out.typN (by decide))); have ON := Lib.hid (O.out.keepT ht (fun q e e' => by (obtain ⟨c1, e1⟩ := O.out.typN e; obtain ⟨c2, e2⟩ := V.out.typN e'; rw [e2] at e1; simp at e1))); have HDN := Lib.hid (HD.out.belowG hb (by omega)); clear ho hb ht hat)
      go_roundw
      case rel => exact ⟨j + 1, g', c', _, rfl, by go_num, by omega, by omega, XN, ZN, ON, VN, HDN⟩
      case measure => simp [intOf]; omega
    · have hjm : (j : Int) = m := by omega
      go_wp2_with fail
      refine Calls.mono (dw_next (b := b) (lo := w.heap.size) (n := 16) HD.out.src (by unfold I64; omega)) ?_
      rintro e wa ⟨v, rfl, q0, q1, hd⟩
      have hsa := hd.size
      have hv : 0 ≤ v ∧ v < 16 := by omega
      replace X := Lib.hid (X.out.dw hd (by omega))
      replace O := Lib.hid (O.out.dw hd hbs)
      replace V := Lib.hid (V.out.dw hd hbs)
      replace Z := Lib.hid (Z.out.dw hd (by omega))
      replace HD := Lib.hid (HD.out.trans hd)
      have hsz := HD.out.size
      clear hd q0 q1
      by_cases h0 : v = 0
      · subst h0
        go_wp2_with (at_builtin; refine appI1 (z := 0) rfl _ _ rfl Try.underlying28 Try.infoi64 w2.heap.size _ _ _ _ V.out rfl _ rfl rfl (by unfold I64; omega) (by omega) (by omega) ?_; intro g' c' wn ho hb ht hat hsz; have VN := Lib.hid ho; have XN := Lib.hid (X.out.keepA ht (blk_ne X.out V.out.typN (by decide))); have ZN := Lib.hid (Z.out.keepA ht (blk_ne Z.out V.out.typN (by decide))); have ON := Lib.hid (O.out.keepT ht (fun q e e' => by (obtain ⟨c1, e1⟩ := O.out.typN e; obtain ⟨c2, e2⟩ := V.out.typN e'; rw [e2] at e1; simp at e1))); have HDN := Lib.hid (HD.out.belowG hb (by omega)); clear ho hb ht hat; have x0 := XN.out.cell 0; have x1 := XN.out.cell 1; have x2 := XN.out.cell 2; have xl := XN.out.lt; have xf := XN.out.free; have z0 := ZN.out.cell 0; have z1 := ZN.out.cell 1; have z2 := ZN.out.cell 2; have zl := ZN.out.lt; simp only [List.getElem?_toArray, List.getElem?_cons_succ, List.getElem?_cons_zero] at x0 x1 x2 z0 z1 z2)
        have hne : ∀ q, da = some ⟨q, 0, none⟩ → (some w.heap.size : Option Nat) ≠ some q := fun q e e' => by
          have := (ON.out.blk q e).1
          simp at e'
          omega
        have hneV : ∀ q, (some ⟨g', 0, none⟩ : Option Addr) = some ⟨q, 0, none⟩ → (some w.heap.size : Option Nat) ≠ some q := fun q e e' => by
          have := (VN.out.blk q e).1
          simp at e'
          omega
        have hfin := HDN.out.fin HBW.out (by omega)
        refine bodyPost_ret (v := .tuple #[.agg #[.int .i64 n', .slice da D.length dc, .int .i64 rt], .slice (some ⟨g', 0, none⟩) (j + 1) c']) (by simp [results, Try.results23, go_sem, *]) rfl ⟨n', da, dc, D, rt, some ⟨g', 0, none⟩, j + 1, c', l ++ [0], rfl, hi, hl, hr, by omega, ?_, ?_, ?_⟩
        · exact (((ON.out.keepG (set_grown _ _ _) hne).keepG (set_grown _ _ _) hne).keepG (set_grown _ _ _) hne).le (by omega)
        · exact (((VN.out.keepG (set_grown _ _ _) hneV).keepG (set_grown _ _ _) hneV).keepG (set_grown _ _ _) hneV).le (by omega)
        · repeat (first | exact Below.refl _ _ | assumption | refine below_allocS ?_ _ | refine below_callS ?_ (by assumption) | (refine Below.alloc ?_ (by first | omega | (simp; done) | (simp; omega)) _) | (refine Below.setCell ?_ (by first | omega | (simp; done) | (simp; omega)) _) | refine Below.drew ?_ | refine below_drewN ?_ _ | (refine below_call ?_ (by assumption) (by first | omega | (simp; done) | (simp; omega))) | (refine Below.trans ?_ (by assumption)))
      · have e0 : (v == 0) = false := by simpa using h0
        have x0 := X.out.cell 0
        have x1 := X.out.cell 1
        have x2 := X.out.cell 2
        have xl := X.out.lt
        have xf := X.out.free
        have z0 := Z.out.cell 0
        have z1 := Z.out.cell 1
        have z2 := Z.out.cell 2
        have zl := Z.out.lt
        simp only [List.getElem?_toArray, List.getElem?_cons_succ, List.getElem?_cons_zero] at x0 x1 x2 z0 z1 z2
        have hne : ∀ q, da = some ⟨q, 0, none⟩ → (some w.heap.size : Option Nat) ≠ some q := fun q e e' => by
          have := (O.out.blk q e).1
          simp at e'
          omega
        have hneV : ∀ q, (some ⟨va, 0, none⟩ : Option Addr) = some ⟨q, 0, none⟩ → (some w.heap.size : Option Nat) ≠ some q := fun q e e' => by
          have := (V.out.blk q e).1
          simp at e'
          omega
        have hfin := HD.out.fin HBW.out (by omega)
        by_cases h1 : v = 1
        · subst h1
          by_cases hm : 0 < m
          · obtain ⟨x, hx, hxi, xcell⟩ := V.out.cell (k := 0) (by omega)
            have gl := V.out.lt.2
            have gf := V.out.free
            have hj1 : (0 : Int) < (j : Int) := by omega
            have hvz : va ≠ w3.heap.size := fun e => blk_ne Z.out V.out.typN (by decide) (by rw [e])
            have hvz' : w3.heap.size ≠ va := fun e => hvz e.symm
            have hvx : va ≠ w.heap.size := by have := (V.out.blk va rfl).1; omega
            have hvx' : w.heap.size ≠ va := fun e => hvx e.symm
            go_wp2
            have V2 := V.out.set 0 (x := 2) (by unfold I64; omega)
            have O2 := O.out.keepG (set_grown va 0 (.int .i64 2)) (fun q e e' => by
              simp only [Option.some.injEq] at e'
              obtain ⟨c1, e1⟩ := O.out.typN e
              obtain ⟨c2, e2⟩ := V.out.typN rfl
              rw [← e', e2] at e1
              simp at e1)
            refine bodyPost_ret (v := .tuple #[.agg #[.int .i64 n', .slice da D.length dc, .int .i64 rt], .slice (some ⟨va, 0, none⟩) j vc]) (by simp [results, Try.results23, go_sem, *]) rfl ⟨n', da, dc, D, rt, some ⟨va, 0, none⟩, j, vc, l.set 0 2, rfl, hi, hl, hr, by omega, ?_, ?_, ?_⟩
            · exact (((O2.keepG (set_grown _ _ _) hne).keepG (set_grown _ _ _) hne).keepG (set_grown _ _ _) hne).le (by omega)
            · exact (((V2.keepG (set_grown _ _ _) hneV).keepG (set_grown _ _ _) hneV).keepG (set_grown _ _ _) hneV).le (by omega)
            · have hgv := (V.out.blk va rfl).1
              have hsw : w.heap.size ≤ w2.heap.size := by omega
              repeat (first | exact Below.refl _ _ | assumption | refine below_allocS ?_ _ | refine below_callS ?_ (by assumption) | (refine Below.alloc ?_ (by first | omega | (simp; done) | (simp; omega)) _) | (refine Below.setCell ?_ (by first | omega | (simp; done) | (simp; omega)) _) | refine Below.drew ?_ | refine below_drewN ?_ _ | (refine below_call ?_ (by assumption) (by first | omega | (simp; done) | (simp; omega))) | (refine Below.trans ?_ (by assumption)))
          · go_wp2
            refine bodyPost_ret (v := .tuple #[.agg #[.int .i64 n', .slice da D.length dc, .int .i64 rt], .slice (some ⟨va, 0, none⟩) j vc]) (by simp [results, Try.results23, go_sem, *]) rfl ⟨n', da, dc, D, rt, some ⟨va, 0, none⟩, j, vc, l, rfl, hi, hl, hr, by omega, ?_, ?_, ?_⟩
            · exact (((O.out.keepG (set_grown _ _ _) hne).keepG (set_grown _ _ _) hne).keepG (set_grown _ _ _) hne).le (by omega)
            · exact (((V.out.keepG (set_grown _ _ _) hneV).keepG (set_grown _ _ _) hneV).keepG (set_grown _ _ _) hneV).le (by omega)
            · repeat (first | exact Below.refl _ _ | assumption | refine below_allocS ?_ _ | refine below_callS ?_ (by assumption) | (refine Below.alloc ?_ (by first | omega | (simp; done) | (simp; omega)) _) | (refine Below.setCell ?_ (by first | omega | (simp; done) | (simp; omega)) _) | refine Below.drew ?_ | refine below_drewN ?_ _ | (refine below_call ?_ (by assumption) (by first | omega | (simp; done) | (simp; omega))) | (refine Below.trans ?_ (by assumption)))
        · have e1 : (v == 1) = false := by simpa using h1
          go_wp2
          refine bodyPost_ret (v := .tuple #[.agg #[.int .i64 n', .slice da D.length dc, .int .i64 rt], .slice (some ⟨va, 0, none⟩) j vc]) (by simp [results, Try.results23, go_sem, *]) rfl ⟨n', da, dc, D, rt, some ⟨va, 0, none⟩, j, vc, l, rfl, hi, hl, hr, by omega, ?_, ?_, ?_⟩
          · exact (((O.out.keepG (set_grown _ _ _) hne).keepG (set_grown _ _ _) hne).keepG (set_grown _ _ _) hne).le (by omega)
          · exact (((V.out.keepG (set_grown _ _ _) hneV).keepG (set_grown _ _ _) hneV).keepG (set_grown _ _ _) hneV).le (by omega)
          · repeat (first | exact Below.refl _ _ | assumption | refine below_allocS ?_ _ | refine below_callS ?_ (by assumption) | (refine Below.alloc ?_ (by first | omega | (simp; done) | (simp; omega)) _) | (refine Below.setCell ?_ (by first | omega | (simp; done) | (simp; omega)) _) | refine Below.drew ?_ | refine below_drewN ?_ _ | (refine below_call ?_ (by assumption) (by first | omega | (simp; done) | (simp; omega))) | (refine Below.trans ?_ (by assumption)))
end Go.Proofs.Ytkaikbaagajckaa
