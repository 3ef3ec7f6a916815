/- Draws of layer 24, walked: from the code. -/
import Derived.Test.YtoaccicfmfiemaaD24
namespace Go.Proofs.Ytoaccicfmfiemaa
open Go.RowKit
set_option linter.unusedVariables false
set_option linter.unusedSimpArgs false
theorem OwnI.from {E : TypeId} {w : World} {base : Nat} {a : Option Addr} {n c : Nat} {l : List Int} (h : OwnI E w base a n c l) {B : Nat} (hB : B ≤ base) : ∀ g off, a = some ⟨g, off, none⟩ → B ≤ g := fun g off e => by
  rcases h.form with ⟨h1, _⟩ | ⟨q, h1⟩
  · rw [h1] at e; cases e
  · have := (h.blk q h1).1
    rw [h1] at e; simp only [Option.some.injEq, Addr.mk.injEq] at e; omega
def TrafDraw (w : World) (e : Ending) (w' : World) : Prop := ∃ B a n c l a2 n2 c2 l2, e = .returned (.tuple #[.agg #[.int .i64 B, .slice a n c], .slice a2 n2 c2]) ∧ Ints w' a n c l ∧ n ≤ 5 ∧ 1 ≤ B ∧ B ≤ 9 ∧ Ints w' a2 n2 c2 l2 ∧ n2 ≤ 20 ∧ (∀ g off, a = some ⟨g, off, none⟩ → w.heap.size ≤ g) ∧ (∀ g off, a2 = some ⟨g, off, none⟩ → w.heap.size ≤ g) ∧ Below w.heap.size w w'
set_option maxRecDepth 100000 in
set_option maxHeartbeats 1000000 in
theorem spec_DrawTrafficIn {a : Option Addr} {n c : Nat} {w : World} (hB : Byts w a n c) (hn : n ≤ 4096) :
    Calls Try.prog 116 #[.slice a n c] w (TrafDraw w) := by
  have HB := Lib.hid hB
  clear hB
  go_enter Try.func116, Try.ntmps116
  go_wp2_with fail
  refine Calls.mono (dw_l01From HB.out (show Below w.heap.size w (w.alloc (.cells #[.int .i64 0, .slice none 0 0] 66)) by repeat (first | exact Below.refl _ _ | assumption | refine below_allocS ?_ _ | refine below_callS ?_ (by assumption) | (refine Below.alloc ?_ (by first | omega | (simp; done) | (simp; omega)) _) | (refine Below.setCell ?_ (by first | omega | (simp; done) | (simp; omega)) _) | refine Below.drew ?_ | refine below_drewN ?_ _ | (refine below_call ?_ (by assumption) (by first | omega | (simp; done) | (simp; omega))) | (refine Below.trans ?_ (by assumption)))) hn) ?_
  rintro e w1 ⟨b, rfl, hb1, hlo, hd⟩
  simp at hlo
  have R := Lib.hid ((Blk.made w #[.int .i64 0, .slice none 0 0] 66).keep hb1)
  have hbl : Below w.heap.size w w1 := below_callS (show Below w.heap.size w (w.alloc (.cells #[.int .i64 0, .slice none 0 0] 66)) by repeat (first | exact Below.refl _ _ | assumption | refine below_allocS ?_ _ | refine below_callS ?_ (by assumption) | (refine Below.alloc ?_ (by first | omega | (simp; done) | (simp; omega)) _) | (refine Below.setCell ?_ (by first | omega | (simp; done) | (simp; omega)) _) | refine Below.drew ?_ | refine below_drewN ?_ _ | (refine below_call ?_ (by assumption) (by first | omega | (simp; done) | (simp; omega))) | (refine Below.trans ?_ (by assumption)))) hb1
  have hbw := hd.lt
  have hs1 := hb1.size
  simp at hs1
  have HD := Lib.hid hd
  clear hd hb1
  go_wp2_with fail
  refine Calls.mono (spec_l10Draw HD.out) ?_
  rintro e w2 ⟨B, a1, n1, c1, l1, rfl, ho, hn1, hB1, hB9, hd⟩
  have O := Lib.hid ho
  have hs2 := hd.size
  replace R := Lib.hid (R.out.dw hd (by omega))
  replace HD := Lib.hid (HD.out.trans hd)
  clear ho hd
  go_wp2_with fail
  have hE := Blk.made w2 #[.int .i64 B, .slice a1 n1 c1] 66
  have x0 := hE.cell 0
  have x1 := hE.cell 1
  have xl := hE.lt
  simp only [List.getElem?_toArray, List.getElem?_cons_succ, List.getElem?_cons_zero] at x0 x1
  refine wp_region_noPanic ?_
  refine wp_region_held_drew (S := fun wx => wx.cell? ⟨w2.heap.size, 0, none⟩ = some (.int .i64 B) ∧ wx.cell? ⟨w2.heap.size, 1, none⟩ = some (.slice a1 n1 c1)) (by kernel_rfl) ⟨cell_drew x0, cell_drew x1⟩ (fun hHeld => ?_)
  clear x0 x1
  refine wpAnyH_take (i := 0) (v := ?_) (by simp only [List.getElem?_toArray, List.getElem?_cons_succ, List.getElem?_cons_zero] <;> rfl) (by kernel_rfl) (by kernel_rfl) (by kernel_rfl) (fun _ _ _ h => h) (Or.inl ⟨by rfl, ?_⟩) (by assumption) ?_
  rotate_left
  · intro wq hSw
    have hq0 := hSw.1
    have hq1 := hSw.2
    go_simp
    try with_reducible rfl
  try simp only [Act.put, List.setIfInBounds_toArray, List.set_cons_zero, List.set_cons_succ]
  refine wpAnyH_take (i := 1) (v := ?_) (by simp only [List.getElem?_toArray, List.getElem?_cons_succ, List.getElem?_cons_zero] <;> rfl) (by kernel_rfl) (by kernel_rfl) (by kernel_rfl) (fun _ _ _ h => h) (Or.inl ⟨by rfl, ?_⟩) (by assumption) ?_
  rotate_left
  · (intro wq hSw; (try dsimp only at hSw); go_simp; try with_reducible rfl)
  try simp only [Act.put, List.setIfInBounds_toArray, List.set_cons_zero, List.set_cons_succ]
  refine wpAnyH_take (i := 2) (v := ?_) (by simp only [List.getElem?_toArray, List.getElem?_cons_succ, List.getElem?_cons_zero] <;> rfl) (by kernel_rfl) (by kernel_rfl) (by kernel_rfl) (fun _ _ _ h => h) (Or.inl ⟨by rfl, ?_⟩) (by assumption) ?_
  rotate_left
  · intro wq hSw
    have hq0 := hSw.1
    have hq1 := hSw.2
    go_simp
    try with_reducible rfl
  try simp only [Act.put, List.setIfInBounds_toArray, List.set_cons_zero, List.set_cons_succ]
  refine wpAnyH_ready (rs := [3]) (by kernel_rfl) (by simp) ?_
  refine AllReadyH.cons rfl (fun K hK => ?_) AllReadyH.nil
  go_simp
  have hDa := (HD.out.alloc (.cells #[.int .i64 B, .slice a1 n1 c1] 66)).drew
  refine Calls.mono (spec_l24DrawState hDa hB1 hB9 hn1) ?_
  rintro e w3 ⟨a3, n3, c3, l3, rfl, ho3, hn3, hdx⟩
  have hbE : Below w2.heap.size w2 (w2.alloc (.cells #[.int .i64 B, .slice a1 n1 c1] 66)).drew := Below.drew ((Below.refl _ _).alloc (Nat.le_refl _) _)
  replace O := Lib.hid ((O.out.keep hbE).dw hdx hbw)
  replace R := Lib.hid ((R.out.keep hbE).dw hdx (by omega))
  have O3 := Lib.hid ho3
  have hs3 := hdx.size
  simp at hs3
  have HD3 := Lib.hid (hDa.trans hdx)
  have hc0 := (ocell hdx.only _ 0 (lt_drew xl) (by omega)).trans hHeld.1
  have hc1 := (ocell hdx.only _ 1 (lt_drew xl) (by omega)).trans hHeld.2
  clear ho3 hdx hDa HD hE
  go_wp2_with fail
  refine hK.out _ _ ⟨hc0, hc1⟩ (fun hHeld => ?_)
  clear hK K
  try simp only [Act.put, List.setIfInBounds_toArray, List.set_cons_zero, List.set_cons_succ]
  have r0 := R.out.cell 0
  have r1 := R.out.cell 1
  have rf := R.out.free
  have rl := R.out.lt
  simp at r0 r1
  refine wpAnyH_ready (rs := [4]) (by kernel_rfl) (by simp) ?_
  refine AllReadyH.cons rfl (fun K hK => ?_) AllReadyH.nil
  go_simp
  refine hK.out _ _ ⟨cell_set (cell_set hHeld.1 (by omega)) (by omega), cell_set (cell_set hHeld.2 (by omega)) (by omega)⟩ (fun hHeld => ?_)
  clear hK K
  try simp only [Act.put, List.setIfInBounds_toArray, List.set_cons_zero, List.set_cons_succ]
  refine wpAnyH_take (i := 5) (v := ?_) (by simp only [List.getElem?_toArray, List.getElem?_cons_succ, List.getElem?_cons_zero] <;> rfl) (by kernel_rfl) (by kernel_rfl) (by kernel_rfl) (fun _ _ _ h => h) (Or.inl ⟨by rfl, ?_⟩) (by assumption) ?_
  rotate_left
  · (intro wq hSw; (try dsimp only at hSw); go_simp; try with_reducible rfl)
  try simp only [Act.put, List.setIfInBounds_toArray, List.set_cons_zero, List.set_cons_succ]
  refine wpAnyH_done (by kernel_rfl) ?_ _
  refine NoPanic.normal ?_
  have hfin := HD3.out.fin hbl (by omega)
  have hob := O.out.blk
  have hob3 := O3.out.blk
  have hq1 := O.out.from (B := w.heap.size) (by omega)
  have hq3 := O3.out.from (B := w.heap.size) (by (try simp); omega)
  clear hHeld
  go_wp2_with fail
  refine bodyPost_ret (v := .tuple #[.agg #[.int .i64 B, .slice a1 n1 c1], .slice a3 n3 c3]) (by simp [results, Try.results116, go_sem, r0, r1, rf, rl]) rfl ⟨B, a1, n1, c1, l1, a3, n3, c3, l3, rfl, ?_, hn1, hB1, hB9, ?_, hn3, hq1, hq3, by repeat (first | exact Below.refl _ _ | assumption | refine below_allocS ?_ _ | refine below_callS ?_ (by assumption) | (refine Below.alloc ?_ (by first | omega | (simp; done) | (simp; omega)) _) | (refine Below.setCell ?_ (by first | omega | (simp; done) | (simp; omega)) _) | refine Below.drew ?_ | refine below_drewN ?_ _ | (refine below_call ?_ (by assumption) (by first | omega | (simp; done) | (simp; omega))) | (refine Below.trans ?_ (by assumption)))⟩
  · exact (O.out.only (((Only.refl w.heap.size (w.heap.size + 1) _).set ⟨Nat.le_refl _, Nat.lt_succ_self _⟩ 0 _).set ⟨Nat.le_refl _, Nat.lt_succ_self _⟩ 1 _) (fun g hg => .inr (by have := (hob g hg).1; omega))).ints
  · exact (O3.out.only (((Only.refl w.heap.size (w.heap.size + 1) _).set ⟨Nat.le_refl _, Nat.lt_succ_self _⟩ 0 _).set ⟨Nat.le_refl _, Nat.lt_succ_self _⟩ 1 _) (fun g hg => .inr (by have h := (hob3 g hg).1; simp at h; omega))).ints
set_option maxHeartbeats 1000000 in
theorem spec_DrawFaultsIn {a : Option Addr} {n c : Nat} {w : World} (hB : Byts w a n c) (hn : n ≤ 4096) :
    Calls Try.prog 59 #[.slice a n c] w (TrafDraw w) := by
  have HB := Lib.hid hB
  clear hB
  go_enter Try.func59, Try.ntmps59
  go_wp2_with fail
  refine Calls.mono (spec_DrawTrafficIn (HB.out.keep (by repeat (first | exact Below.refl _ _ | assumption | refine below_allocS ?_ _ | refine below_callS ?_ (by assumption) | (refine Below.alloc ?_ (by first | omega | (simp; done) | (simp; omega)) _) | (refine Below.setCell ?_ (by first | omega | (simp; done) | (simp; omega)) _) | refine Below.drew ?_ | refine below_drewN ?_ _ | (refine below_call ?_ (by assumption) (by first | omega | (simp; done) | (simp; omega))) | (refine Below.trans ?_ (by assumption))))) hn) ?_
  rintro e w1 ⟨B, a1, n1, c1, l1, a2, n2, c2, l2, rfl, h1, h2, h3, h4, h5, h6, h8, h9, h7⟩
  have R := (Blk.made w #[.int .i64 0, .slice none 0 0] 66).keep h7
  have r0 := R.cell 0
  have r1 := R.cell 1
  have rf := R.free
  have rl := R.lt
  simp at r0 r1
  simp at h8 h9
  have H1 := Lib.hid h1
  have H5 := Lib.hid h5
  have H8 := Lib.hid (show ∀ g off, a1 = some ⟨g, off, none⟩ → w.heap.size + 1 ≤ g from fun g off e => by have := h8 g off e; omega)
  have H9 := Lib.hid (show ∀ g off, a2 = some ⟨g, off, none⟩ → w.heap.size + 1 ≤ g from fun g off e => by have := h9 g off e; omega)
  clear h8 h9
  have hfin : Below w.heap.size w w1 := below_callS (show Below w.heap.size w (w.alloc (.cells #[.int .i64 0, .slice none 0 0] 66)) by repeat (first | exact Below.refl _ _ | assumption | refine below_allocS ?_ _ | refine below_callS ?_ (by assumption) | (refine Below.alloc ?_ (by first | omega | (simp; done) | (simp; omega)) _) | (refine Below.setCell ?_ (by first | omega | (simp; done) | (simp; omega)) _) | refine Below.drew ?_ | refine below_drewN ?_ _ | (refine below_call ?_ (by assumption) (by first | omega | (simp; done) | (simp; omega))) | (refine Below.trans ?_ (by assumption)))) h7
  clear h1 h5 R h7
  go_wp2
  refine bodyPost_ret (v := .tuple #[.agg #[.int .i64 B, .slice a1 n1 c1], .slice a2 n2 c2]) (by simp [results, Try.results59, go_sem, r0, r1, rf, rl]) rfl ⟨B, a1, n1, c1, l1, a2, n2, c2, l2, rfl, ?_, h2, h3, h4, ?_, h6, fun g off e => by have := H8.out g off e; omega, fun g off e => by have := H9.out g off e; omega, by repeat (first | exact Below.refl _ _ | assumption | refine below_allocS ?_ _ | refine below_callS ?_ (by assumption) | (refine Below.alloc ?_ (by first | omega | (simp; done) | (simp; omega)) _) | (refine Below.setCell ?_ (by first | omega | (simp; done) | (simp; omega)) _) | refine Below.drew ?_ | refine below_drewN ?_ _ | (refine below_call ?_ (by assumption) (by first | omega | (simp; done) | (simp; omega))) | (refine Below.trans ?_ (by assumption)))⟩
  · exact H1.out.only (((Only.refl w.heap.size (w.heap.size + 1) _).set ⟨Nat.le_refl _, Nat.lt_succ_self _⟩ 0 _).set ⟨Nat.le_refl _, Nat.lt_succ_self _⟩ 1 _) (fun g off e => .inr (H8.out g off e))
  · exact H5.out.only (((Only.refl w.heap.size (w.heap.size + 1) _).set ⟨Nat.le_refl _, Nat.lt_succ_self _⟩ 0 _).set ⟨Nat.le_refl _, Nat.lt_succ_self _⟩ 1 _) (fun g off e => .inr (H9.out g off e))
end Go.Proofs.Ytoaccicfmfiemaa
