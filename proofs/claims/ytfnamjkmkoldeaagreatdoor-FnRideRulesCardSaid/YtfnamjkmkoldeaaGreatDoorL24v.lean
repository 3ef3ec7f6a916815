/- The rules of a block with so many faults that may still come: the closure that makes one, walked. -/
import Derived.Test.YtfnamjkmkoldeaaGreatDoorQk
namespace Go.Proofs.YtfnamjkmkoldeaaGreatDoor
open Go.RowKit
set_option linter.unusedVariables false
set_option linter.unusedSimpArgs false
attribute [local go_sem ↓] Go.wp_at_zero Go.wp_at_succ
theorem below_undrew {B : Nat} {w w' : World} (h : Below B w.drew w') : Below B w w' := ⟨h.os, h.tape, h.output, h.size, h.block⟩
def FrRet (w : World) (nm : ByteArray) (K : Int) (b q : Nat) (g : List I2b) (l : List I2) (e : Ending) (w' : World) : Prop := ∃ g1 g2, e = .returned (.agg #[.string nm, .slice (some ⟨g1, 0, none⟩) 2 2, .slice (some ⟨g2, 0, none⟩) 2 2, .int .i64 K, .int .i64 (b : Int), .int .i64 (q : Int)]) ∧ OwnF 3 I2b.enc I2b.ok 142 w' w.heap.size (some ⟨g1, 0, none⟩) 2 2 g ∧ OwnF 2 I2.enc I2.ok 123 w' w.heap.size (some ⟨g2, 0, none⟩) 2 2 l ∧ g1 ≠ g2 ∧ Below w.heap.size w w'
set_option maxRecDepth 100000 in
set_option maxHeartbeats 4000000 in
theorem impl_faultFrom {k b q : Nat} {K0 x y s u : Int} {pb pq ps pu : Nat} {w : World} (hT : Tab w 0 (strsCells ruleNm)) (hK9 : K0 = (k : Int)) (hk : k < 7) (hb9 : b < 10) (hq9 : q < 10) (hx : I64 x) (hy : I64 y) (hs : I64 s) (hu : I64 u)
    (lb : pb < w.heap.size) (cb : w.cell? ⟨pb, 0, none⟩ = some (.int .i64 (b : Int))) (lq : pq < w.heap.size) (cq : w.cell? ⟨pq, 0, none⟩ = some (.int .i64 (q : Int))) (ls : ps < w.heap.size) (cs : w.cell? ⟨ps, 0, none⟩ = some (.int .i64 s)) (lu : pu < w.heap.size) (cu : w.cell? ⟨pu, 0, none⟩ = some (.int .i64 u)) :
    Calls Tryz.prog 150 #[.int .i64 K0, .int .i64 x, .int .i64 y, .pointer (some ⟨pb, 0, none⟩), .pointer (some ⟨pq, 0, none⟩), .pointer (some ⟨ps, 0, none⟩), .pointer (some ⟨pu, 0, none⟩)] w (FrRet w (rnm k b q) K0 b q [⟨s, x, true⟩, ⟨u, q, true⟩] [⟨s, y⟩, ⟨u, (q : Int) - 1⟩]) := by
  have HT := Lib.hid hT
  have OKG : Hid (∀ z ∈ ([⟨s, x, true⟩, ⟨u, q, true⟩] : List I2b), I2b.ok z) := Lib.hid (by intro z hz; simp at hz; rcases hz with rfl | rfl; exact ⟨hs, hx⟩; exact ⟨hu, (by unfold I64; simp; omega)⟩)
  have OKE : Hid (∀ z ∈ ([⟨s, y⟩, ⟨u, (q : Int) - 1⟩] : List I2), I2.ok z) := Lib.hid (by intro z hz; simp at hz; rcases hz with rfl | rfl; exact ⟨hs, hy⟩; exact ⟨hu, (by unfold I64; simp; omega)⟩)
  have e1 : IntKind.i64.wrap ((q : Int) - 1) = (q : Int) - 1 := IntWalk.i64_in _ (by omega)
  obtain ⟨w0, hw0⟩ : ∃ w0 : World, w0 = w.alloc (.cells #[.string ⟨#[]⟩, .slice none 0 0, .slice none 0 0, .int .i64 0, .int .i64 0, .int .i64 0] 117) := ⟨_, rfl⟩
  have HW0 := Lib.hid hw0
  have hs0 : w.heap.size + 1 = w0.heap.size := by rw [hw0]; simp
  have hB0 : Below w.heap.size w w0 := by rw [hw0]; repeat (first | exact Below.refl _ _ | assumption | refine below_allocS ?_ _ | refine below_callS ?_ (by assumption) | (refine Below.alloc ?_ (by first | omega | (simp; done) | (simp; omega)) _) | (refine Below.setCell ?_ (by first | omega | (simp; done) | (simp; omega)) _) | refine Below.drew ?_ | refine below_drewN ?_ _ | (refine below_call ?_ (by assumption) (by first | omega | (simp; done) | (simp; omega))) | (refine Below.trans ?_ (by assumption)))
  have X := Lib.hid (show Blk w0 w.heap.size #[.string ⟨#[]⟩, .slice none 0 0, .slice none 0 0, .int .i64 0, .int .i64 0, .int .i64 0] 117 by rw [hw0]; exact Blk.made _ _ _)
  have HK9 := Lib.hid hK9
  clear hw0 hx hy hs hu hT
  clear hK9
  go_enter Tryz.func150, Tryz.ntmps150
  go_wp2_with fail
  rw [← HW0.out]
  refine wp_region_noPanic ?_
  refine wp_region_held_drew (S := fun wx => Below w.heap.size w wx) (by kernel_rfl) (by exact hB0.drew) (fun hHeld => ?_)
  have hwd : Below w0.heap.size w0 w0.drew := Below.drew (Below.refl _ _)
  refine wpAnyH_take (i := 0) (v := ?_) (by simp only [List.getElem?_toArray, List.getElem?_cons_succ, List.getElem?_cons_zero] <;> rfl) (by kernel_rfl) (by kernel_rfl) (by kernel_rfl) (fun _ _ _ h => h) (Or.inl ⟨by rfl, ?_⟩) (by assumption) ?_
  rotate_left
  · (intro wq hSw; (try dsimp only at hSw); go_simp; try with_reducible rfl)
  try simp only [Act.put, List.setIfInBounds_toArray, List.set_cons_zero, List.set_cons_succ]
  refine wpAnyH_take (i := 4) (v := ?_) (by simp only [List.getElem?_toArray, List.getElem?_cons_succ, List.getElem?_cons_zero] <;> rfl) (by kernel_rfl) (by kernel_rfl) (by kernel_rfl) (fun _ _ _ h => h) (Or.inl ⟨by rfl, ?_⟩) (by assumption) ?_
  rotate_left
  · (intro wq hSw; (try dsimp only at hSw); go_simp; try with_reducible rfl)
  try simp only [Act.put, List.setIfInBounds_toArray, List.set_cons_zero, List.set_cons_succ]
  refine wpAnyH_take (i := 11) (v := ?_) (by simp only [List.getElem?_toArray, List.getElem?_cons_succ, List.getElem?_cons_zero] <;> rfl) (by kernel_rfl) (by kernel_rfl) (by kernel_rfl) (fun _ _ _ h => h) (Or.inl ⟨by rfl, ?_⟩) (by assumption) ?_
  rotate_left
  · (intro wq hSw; (try dsimp only at hSw); go_simp; try with_reducible rfl)
  try simp only [Act.put, List.setIfInBounds_toArray, List.set_cons_zero, List.set_cons_succ]
  refine wpAnyH_take (i := 1) (v := ?_) (by simp only [List.getElem?_toArray, List.getElem?_cons_succ, List.getElem?_cons_zero] <;> rfl) (by kernel_rfl) (by kernel_rfl) (by kernel_rfl) (fun _ _ _ h => h) (Or.inl ⟨by rfl, ?_⟩) (by assumption) ?_
  rotate_left
  · intro wq hSw
    have hq0 := (Below.cell (p := ⟨pb, 0, none⟩) hSw lb).trans cb
    go_simp
    try with_reducible rfl
  try simp only [Act.put, List.setIfInBounds_toArray, List.set_cons_zero, List.set_cons_succ]
  refine wpAnyH_take (i := 2) (v := ?_) (by simp only [List.getElem?_toArray, List.getElem?_cons_succ, List.getElem?_cons_zero] <;> rfl) (by kernel_rfl) (by kernel_rfl) (by kernel_rfl) (fun _ _ _ h => h) (Or.inl ⟨by rfl, ?_⟩) (by assumption) ?_
  rotate_left
  · intro wq hSw
    have hq0 := (Below.cell (p := ⟨pq, 0, none⟩) hSw lq).trans cq
    go_simp
    try with_reducible rfl
  try simp only [Act.put, List.setIfInBounds_toArray, List.set_cons_zero, List.set_cons_succ]
  refine wpAnyH_take (i := 3) (v := ?_) (by simp only [List.getElem?_toArray, List.getElem?_cons_succ, List.getElem?_cons_zero] <;> rfl) (by kernel_rfl) (by kernel_rfl) (by kernel_rfl) (fun _ _ _ h => h) (Or.inl ⟨by rfl, ?_⟩) (by assumption) ?_
  rotate_left
  · intro wq hSw
    have hq0 := (Below.cell (p := ⟨ps, 0, none⟩) hSw ls).trans cs
    go_simp
    try with_reducible rfl
  try simp only [Act.put, List.setIfInBounds_toArray, List.set_cons_zero, List.set_cons_succ]
  refine wpAnyH_take (i := 6) (v := ?_) (by simp only [List.getElem?_toArray, List.getElem?_cons_succ, List.getElem?_cons_zero] <;> rfl) (by kernel_rfl) (by kernel_rfl) (by kernel_rfl) (fun _ _ _ h => h) (Or.inl ⟨by rfl, ?_⟩) (by assumption) ?_
  rotate_left
  · intro wq hSw
    have hq0 := (Below.cell (p := ⟨pu, 0, none⟩) hSw lu).trans cu
    go_simp
    try with_reducible rfl
  try simp only [Act.put, List.setIfInBounds_toArray, List.set_cons_zero, List.set_cons_succ]
  refine wpAnyH_take (i := 7) (v := ?_) (by simp only [List.getElem?_toArray, List.getElem?_cons_succ, List.getElem?_cons_zero] <;> rfl) (by kernel_rfl) (by kernel_rfl) (by kernel_rfl) (fun _ _ _ h => h) (Or.inl ⟨by rfl, ?_⟩) (by assumption) ?_
  rotate_left
  · intro wq hSw
    have hq0 := (Below.cell (p := ⟨pq, 0, none⟩) hSw lq).trans cq
    go_simp
    try with_reducible rfl
  try simp only [Act.put, List.setIfInBounds_toArray, List.set_cons_zero, List.set_cons_succ]
  refine wpAnyH_take (i := 10) (v := ?_) (by simp only [List.getElem?_toArray, List.getElem?_cons_succ, List.getElem?_cons_zero] <;> rfl) (by kernel_rfl) (by kernel_rfl) (by kernel_rfl) (fun _ _ _ h => h) (Or.inl ⟨by rfl, ?_⟩) (by assumption) ?_
  rotate_left
  · intro wq hSw
    have hq0 := (Below.cell (p := ⟨ps, 0, none⟩) hSw ls).trans cs
    go_simp
    try with_reducible rfl
  try simp only [Act.put, List.setIfInBounds_toArray, List.set_cons_zero, List.set_cons_succ]
  refine wpAnyH_take (i := 12) (v := ?_) (by simp only [List.getElem?_toArray, List.getElem?_cons_succ, List.getElem?_cons_zero] <;> rfl) (by kernel_rfl) (by kernel_rfl) (by kernel_rfl) (fun _ _ _ h => h) (Or.inl ⟨by rfl, ?_⟩) (by assumption) ?_
  rotate_left
  · (intro wq hSw; (try dsimp only at hSw); go_simp; try with_reducible rfl)
  try simp only [Act.put, List.setIfInBounds_toArray, List.set_cons_zero, List.set_cons_succ]
  refine wpAnyH_take (i := 13) (v := ?_) (by simp only [List.getElem?_toArray, List.getElem?_cons_succ, List.getElem?_cons_zero] <;> rfl) (by kernel_rfl) (by kernel_rfl) (by kernel_rfl) (fun _ _ _ h => h) (Or.inl ⟨by rfl, ?_⟩) (by assumption) ?_
  rotate_left
  · intro wq hSw
    have hq0 := (Below.cell (p := ⟨pu, 0, none⟩) hSw lu).trans cu
    go_simp
    try with_reducible rfl
  try simp only [Act.put, List.setIfInBounds_toArray, List.set_cons_zero, List.set_cons_succ]
  refine wpAnyH_take (i := 14) (v := ?_) (by simp only [List.getElem?_toArray, List.getElem?_cons_succ, List.getElem?_cons_zero] <;> rfl) (by kernel_rfl) (by kernel_rfl) (by kernel_rfl) (fun _ _ _ h => h) (Or.inl ⟨by rfl, ?_⟩) (by assumption) ?_
  rotate_left
  · intro wq hSw
    have hq0 := (Below.cell (p := ⟨pq, 0, none⟩) hSw lq).trans cq
    go_simp
    try with_reducible rfl
  try simp only [Act.put, List.setIfInBounds_toArray, List.set_cons_zero, List.set_cons_succ]
  refine wpAnyH_take (i := 15) (v := ?_) (by simp only [List.getElem?_toArray, List.getElem?_cons_succ, List.getElem?_cons_zero] <;> rfl) (by kernel_rfl) (by kernel_rfl) (by kernel_rfl) (fun _ _ _ h => h) (Or.inl ⟨by rfl, ?_⟩) (by assumption) ?_
  rotate_left
  · (intro wq hSw; (try dsimp only at hSw); go_simp; try with_reducible rfl)
  try simp only [Act.put, List.setIfInBounds_toArray, List.set_cons_zero, List.set_cons_succ]
  refine wpAnyH_take (i := 16) (v := ?_) (by simp only [List.getElem?_toArray, List.getElem?_cons_succ, List.getElem?_cons_zero] <;> rfl) (by kernel_rfl) (by kernel_rfl) (by kernel_rfl) (fun _ _ _ h => h) (Or.inl ⟨by rfl, ?_⟩) (by assumption) ?_
  rotate_left
  · (intro wq hSw; (try dsimp only at hSw); go_simp; try with_reducible rfl)
  try simp only [Act.put, List.setIfInBounds_toArray, List.set_cons_zero, List.set_cons_succ]
  refine wpAnyH_ready (rs := [5, 17]) (by kernel_rfl) (by simp) ?_
  refine AllReadyH.cons rfl (fun K hK => ?_) (AllReadyH.cons rfl (fun K hK => ?_) AllReadyH.nil)
  · skip
    go_simp
    refine Calls.mono impl_is ?_
    rintro e v5 ⟨rfl, hb_v5⟩
    have hs_v5 := hb_v5.size
    (try simp at hs_v5)
    replace X := Lib.hid (X.out.keep (show Below _ _ v5 by repeat (first | exact Below.refl _ _ | assumption | refine below_allocS ?_ _ | refine below_callS ?_ (by assumption) | (refine Below.alloc ?_ (by first | omega | (simp; done) | (simp; omega)) _) | (refine Below.setCell ?_ (by first | omega | (simp; done) | (simp; omega)) _) | refine Below.drew ?_ | refine below_drewN ?_ _ | (refine below_call ?_ (by assumption) (by first | omega | (simp; done) | (simp; omega))) | (refine Below.trans ?_ (by assumption)))))
    replace hHeld : Below w.heap.size w v5 := by repeat (first | exact Below.refl _ _ | assumption | refine below_allocS ?_ _ | refine below_callS ?_ (by assumption) | (refine Below.alloc ?_ (by first | omega | (simp; done) | (simp; omega)) _) | (refine Below.setCell ?_ (by first | omega | (simp; done) | (simp; omega)) _) | refine Below.drew ?_ | refine below_drewN ?_ _ | (refine below_call ?_ (by assumption) (by first | omega | (simp; done) | (simp; omega))) | (refine Below.trans ?_ (by assumption)))
    clear hb_v5
    go_wp2_with fail
    refine hK.out _ _ hHeld (fun hHeld => ?_)
    clear hK K
    try simp only [Act.put, List.setIfInBounds_toArray, List.set_cons_zero, List.set_cons_succ]
    refine wpAnyH_ready (rs := [8, 17]) (by kernel_rfl) (by simp) ?_
    refine AllReadyH.cons rfl (fun K hK => ?_) (AllReadyH.cons rfl (fun K hK => ?_) AllReadyH.nil)
    · skip
      go_simp
      refine Calls.mono impl_is ?_
      rintro e v8 ⟨rfl, hb_v8⟩
      have hs_v8 := hb_v8.size
      (try simp at hs_v8)
      replace X := Lib.hid (X.out.keep (show Below _ _ v8 by repeat (first | exact Below.refl _ _ | assumption | refine below_allocS ?_ _ | refine below_callS ?_ (by assumption) | (refine Below.alloc ?_ (by first | omega | (simp; done) | (simp; omega)) _) | (refine Below.setCell ?_ (by first | omega | (simp; done) | (simp; omega)) _) | refine Below.drew ?_ | refine below_drewN ?_ _ | (refine below_call ?_ (by assumption) (by first | omega | (simp; done) | (simp; omega))) | (refine Below.trans ?_ (by assumption)))))
      replace hHeld : Below w.heap.size w v8 := by repeat (first | exact Below.refl _ _ | assumption | refine below_allocS ?_ _ | refine below_callS ?_ (by assumption) | (refine Below.alloc ?_ (by first | omega | (simp; done) | (simp; omega)) _) | (refine Below.setCell ?_ (by first | omega | (simp; done) | (simp; omega)) _) | refine Below.drew ?_ | refine below_drewN ?_ _ | (refine below_call ?_ (by assumption) (by first | omega | (simp; done) | (simp; omega))) | (refine Below.trans ?_ (by assumption)))
      clear hb_v8
      go_wp2_with fail
      refine hK.out _ _ hHeld (fun hHeld => ?_)
      clear hK K
      try simp only [Act.put, List.setIfInBounds_toArray, List.set_cons_zero, List.set_cons_succ]
      refine wpAnyH_ready (rs := [9, 17]) (by kernel_rfl) (by simp) ?_
      refine AllReadyH.cons rfl (fun K hK => ?_) (AllReadyH.cons rfl (fun K hK => ?_) AllReadyH.nil)
      · skip
        go_simp
        refine hK.out _ _ (by first | exact below_allocS hHeld _ | exact (below_allocS hHeld _).drew) (fun hHeld => ?_)
        clear hK K
        try simp only [Act.put, List.setIfInBounds_toArray, List.set_cons_zero, List.set_cons_succ]
        refine wpAnyH_ready (rs := [17]) (by kernel_rfl) (by simp) ?_
        refine AllReadyH.cons rfl (fun K hK => ?_) AllReadyH.nil
        go_simp
        refine hK.out _ _ (by first | exact below_allocS hHeld _ | exact (below_allocS hHeld _).drew) (fun hHeld => ?_)
        clear hK K
        try simp only [Act.put, List.setIfInBounds_toArray, List.set_cons_zero, List.set_cons_succ]
        refine wpAnyH_ready (rs := [18]) (by kernel_rfl) (by simp) ?_
        refine AllReadyH.cons rfl (fun K hK => ?_) AllReadyH.nil
        go_simp
        refine Calls.mono (impl_newRR (k := k) (HT.out.keep (by first | exact hHeld | exact hHeld.drew)) HK9.out hk hb9 hq9) ?_
        rintro e v18 ⟨rfl, hb_v18⟩
        have hs_v18 := hb_v18.size
        (try simp at hs_v18)
        have G := Lib.hid (OwnF.litB2 (E := 142) (k := 3) (enc := I2b.enc) (ok := I2b.ok) (base := w.heap.size) (g := v8.heap.size) [⟨s, x, true⟩, ⟨u, q, true⟩] hb_v18 (by simp) (by (try simp); omega) rfl (by simp) (fun _ => rfl) OKG.out rfl)
        have E := Lib.hid (OwnF.litB (E := 123) (k := 2) (enc := I2.enc) (ok := I2.ok) (base := w.heap.size) (g := v8.heap.size + 1) [⟨s, y⟩, ⟨u, (q : Int) - 1⟩] hb_v18 (by simp) (by (try simp); omega) rfl (by simp) (fun _ => rfl) OKE.out rfl)
        replace X := Lib.hid (X.out.keep (show Below _ _ v18 by repeat (first | exact Below.refl _ _ | assumption | refine below_allocS ?_ _ | refine below_callS ?_ (by assumption) | (refine Below.alloc ?_ (by first | omega | (simp; done) | (simp; omega)) _) | (refine Below.setCell ?_ (by first | omega | (simp; done) | (simp; omega)) _) | refine Below.drew ?_ | refine below_drewN ?_ _ | (refine below_call ?_ (by assumption) (by first | omega | (simp; done) | (simp; omega))) | (refine Below.trans ?_ (by assumption)))))
        replace hHeld : Below w.heap.size w v18 := by repeat (first | exact Below.refl _ _ | assumption | refine below_allocS ?_ _ | refine below_callS ?_ (by assumption) | (refine Below.alloc ?_ (by first | omega | (simp; done) | (simp; omega)) _) | (refine Below.setCell ?_ (by first | omega | (simp; done) | (simp; omega)) _) | refine Below.drew ?_ | refine below_drewN ?_ _ | (refine below_call ?_ (by assumption) (by first | omega | (simp; done) | (simp; omega))) | (refine Below.trans ?_ (by assumption)))
        clear hb_v18
        go_wp2_with fail
        refine hK.out _ _ hHeld (fun hHeld => ?_)
        clear hK K
        try simp only [Act.put, List.setIfInBounds_toArray, List.set_cons_zero, List.set_cons_succ]
        refine wpAnyH_ready (rs := [19]) (by kernel_rfl) (by simp) ?_
        refine AllReadyH.cons rfl (fun K hK => ?_) AllReadyH.nil
        refine wp_store_blk (vs := #[.string (rnm k b q), .slice (some ⟨v8.heap.size, 0, none⟩) 2 2, .slice (some ⟨v8.heap.size + 1, 0, none⟩) 2 2, .int .i64 K0, .int .i64 (b : Int), .int .i64 (q : Int)]) 117 (.tmp 10) (.tmp 29) (by rfl) (by rfl) (by rfl) X.out (by rfl) (by kernel_rfl) (by simp [Value.oneCell']) ?_
        intro V hV hgV hsV
        replace hHeld := hHeld.grown hgV hHeld.size (fun q0 hq0 => by cases hq0; exact Nat.le_refl _)
        have xl := X.out.lt
        refine hK.out _ _ hHeld (fun hHeld => ?_)
        clear hK K
        try simp only [Act.put, List.setIfInBounds_toArray, List.set_cons_zero, List.set_cons_succ]
        refine wpAnyH_done (by kernel_rfl) ?_ _
        refine NoPanic.normal ?_
        go_wp2_with fail
        have hgG := G.out.blk _ rfl
        have hgE := E.out.blk _ rfl
        have y0 := hV.cell 0
        have y1 := hV.cell 1
        have y2 := hV.cell 2
        have y3 := hV.cell 3
        have y4 := hV.cell 4
        have y5 := hV.cell 5
        simp at y0 y1 y2 y3 y4 y5
        exact bodyPost_ret (v := .agg #[.string (rnm k b q), .slice (some ⟨v8.heap.size, 0, none⟩) 2 2, .slice (some ⟨v8.heap.size + 1, 0, none⟩) 2 2, .int .i64 K0, .int .i64 (b : Int), .int .i64 (q : Int)]) (by simp [results, Tryz.results150, go_sem, *]) rfl ⟨_, _, rfl, G.out.keepG hgV (by intro q0 hq0; simp at hq0 ⊢; omega), E.out.keepG hgV (by intro q0 hq0; simp at hq0 ⊢; omega), by omega, hHeld⟩
      · skip
        go_simp
        refine hK.out _ _ (by first | exact below_allocS hHeld _ | exact (below_allocS hHeld _).drew) (fun hHeld => ?_)
        clear hK K
        try simp only [Act.put, List.setIfInBounds_toArray, List.set_cons_zero, List.set_cons_succ]
        refine wpAnyH_ready (rs := [9]) (by kernel_rfl) (by simp) ?_
        refine AllReadyH.cons rfl (fun K hK => ?_) AllReadyH.nil
        go_simp
        refine hK.out _ _ (by first | exact below_allocS hHeld _ | exact (below_allocS hHeld _).drew) (fun hHeld => ?_)
        clear hK K
        try simp only [Act.put, List.setIfInBounds_toArray, List.set_cons_zero, List.set_cons_succ]
        refine wpAnyH_ready (rs := [18]) (by kernel_rfl) (by simp) ?_
        refine AllReadyH.cons rfl (fun K hK => ?_) AllReadyH.nil
        go_simp
        refine Calls.mono (impl_newRR (k := k) (HT.out.keep (by first | exact hHeld | exact hHeld.drew)) HK9.out hk hb9 hq9) ?_
        rintro e v18 ⟨rfl, hb_v18⟩
        have hs_v18 := hb_v18.size
        (try simp at hs_v18)
        have E := Lib.hid (OwnF.litB2 (E := 123) (k := 2) (enc := I2.enc) (ok := I2.ok) (base := w.heap.size) (g := v8.heap.size) [⟨s, y⟩, ⟨u, (q : Int) - 1⟩] hb_v18 (by simp) (by (try simp); omega) rfl (by simp) (fun _ => rfl) OKE.out rfl)
        have G := Lib.hid (OwnF.litB (E := 142) (k := 3) (enc := I2b.enc) (ok := I2b.ok) (base := w.heap.size) (g := v8.heap.size + 1) [⟨s, x, true⟩, ⟨u, q, true⟩] hb_v18 (by simp) (by (try simp); omega) rfl (by simp) (fun _ => rfl) OKG.out rfl)
        replace X := Lib.hid (X.out.keep (show Below _ _ v18 by repeat (first | exact Below.refl _ _ | assumption | refine below_allocS ?_ _ | refine below_callS ?_ (by assumption) | (refine Below.alloc ?_ (by first | omega | (simp; done) | (simp; omega)) _) | (refine Below.setCell ?_ (by first | omega | (simp; done) | (simp; omega)) _) | refine Below.drew ?_ | refine below_drewN ?_ _ | (refine below_call ?_ (by assumption) (by first | omega | (simp; done) | (simp; omega))) | (refine Below.trans ?_ (by assumption)))))
        replace hHeld : Below w.heap.size w v18 := by repeat (first | exact Below.refl _ _ | assumption | refine below_allocS ?_ _ | refine below_callS ?_ (by assumption) | (refine Below.alloc ?_ (by first | omega | (simp; done) | (simp; omega)) _) | (refine Below.setCell ?_ (by first | omega | (simp; done) | (simp; omega)) _) | refine Below.drew ?_ | refine below_drewN ?_ _ | (refine below_call ?_ (by assumption) (by first | omega | (simp; done) | (simp; omega))) | (refine Below.trans ?_ (by assumption)))
        clear hb_v18
        go_wp2_with fail
        refine hK.out _ _ hHeld (fun hHeld => ?_)
        clear hK K
        try simp only [Act.put, List.setIfInBounds_toArray, List.set_cons_zero, List.set_cons_succ]
        refine wpAnyH_ready (rs := [19]) (by kernel_rfl) (by simp) ?_
        refine AllReadyH.cons rfl (fun K hK => ?_) AllReadyH.nil
        refine wp_store_blk (vs := #[.string (rnm k b q), .slice (some ⟨v8.heap.size + 1, 0, none⟩) 2 2, .slice (some ⟨v8.heap.size, 0, none⟩) 2 2, .int .i64 K0, .int .i64 (b : Int), .int .i64 (q : Int)]) 117 (.tmp 10) (.tmp 29) (by rfl) (by rfl) (by rfl) X.out (by rfl) (by kernel_rfl) (by simp [Value.oneCell']) ?_
        intro V hV hgV hsV
        replace hHeld := hHeld.grown hgV hHeld.size (fun q0 hq0 => by cases hq0; exact Nat.le_refl _)
        have xl := X.out.lt
        refine hK.out _ _ hHeld (fun hHeld => ?_)
        clear hK K
        try simp only [Act.put, List.setIfInBounds_toArray, List.set_cons_zero, List.set_cons_succ]
        refine wpAnyH_done (by kernel_rfl) ?_ _
        refine NoPanic.normal ?_
        go_wp2_with fail
        have hgG := G.out.blk _ rfl
        have hgE := E.out.blk _ rfl
        have y0 := hV.cell 0
        have y1 := hV.cell 1
        have y2 := hV.cell 2
        have y3 := hV.cell 3
        have y4 := hV.cell 4
        have y5 := hV.cell 5
        simp at y0 y1 y2 y3 y4 y5
        exact bodyPost_ret (v := .agg #[.string (rnm k b q), .slice (some ⟨v8.heap.size + 1, 0, none⟩) 2 2, .slice (some ⟨v8.heap.size, 0, none⟩) 2 2, .int .i64 K0, .int .i64 (b : Int), .int .i64 (q : Int)]) (by simp [results, Tryz.results150, go_sem, *]) rfl ⟨_, _, rfl, G.out.keepG hgV (by intro q0 hq0; simp at hq0 ⊢; omega), E.out.keepG hgV (by intro q0 hq0; simp at hq0 ⊢; omega), by omega, hHeld⟩
    · skip
      go_simp
      refine hK.out _ _ (by first | exact below_allocS hHeld _ | exact (below_allocS hHeld _).drew) (fun hHeld => ?_)
      clear hK K
      try simp only [Act.put, List.setIfInBounds_toArray, List.set_cons_zero, List.set_cons_succ]
      refine wpAnyH_ready (rs := [8]) (by kernel_rfl) (by simp) ?_
      refine AllReadyH.cons rfl (fun K hK => ?_) AllReadyH.nil
      go_simp
      refine Calls.mono impl_is ?_
      rintro e v8 ⟨rfl, hb_v8⟩
      have hs_v8 := hb_v8.size
      (try simp at hs_v8)
      have E := Lib.hid (OwnF.litB (E := 123) (k := 2) (enc := I2.enc) (ok := I2.ok) (base := w.heap.size) (g := v5.heap.size) [⟨s, y⟩, ⟨u, (q : Int) - 1⟩] hb_v8 (by simp) (by (try simp); omega) rfl (by simp) (fun _ => rfl) OKE.out rfl)
      replace X := Lib.hid (X.out.keep (show Below _ _ v8 by repeat (first | exact Below.refl _ _ | assumption | refine below_allocS ?_ _ | refine below_callS ?_ (by assumption) | (refine Below.alloc ?_ (by first | omega | (simp; done) | (simp; omega)) _) | (refine Below.setCell ?_ (by first | omega | (simp; done) | (simp; omega)) _) | refine Below.drew ?_ | refine below_drewN ?_ _ | (refine below_call ?_ (by assumption) (by first | omega | (simp; done) | (simp; omega))) | (refine Below.trans ?_ (by assumption)))))
      replace hHeld : Below w.heap.size w v8 := by repeat (first | exact Below.refl _ _ | assumption | refine below_allocS ?_ _ | refine below_callS ?_ (by assumption) | (refine Below.alloc ?_ (by first | omega | (simp; done) | (simp; omega)) _) | (refine Below.setCell ?_ (by first | omega | (simp; done) | (simp; omega)) _) | refine Below.drew ?_ | refine below_drewN ?_ _ | (refine below_call ?_ (by assumption) (by first | omega | (simp; done) | (simp; omega))) | (refine Below.trans ?_ (by assumption)))
      clear hb_v8
      go_wp2_with fail
      refine hK.out _ _ hHeld (fun hHeld => ?_)
      clear hK K
      try simp only [Act.put, List.setIfInBounds_toArray, List.set_cons_zero, List.set_cons_succ]
      refine wpAnyH_ready (rs := [9]) (by kernel_rfl) (by simp) ?_
      refine AllReadyH.cons rfl (fun K hK => ?_) AllReadyH.nil
      go_simp
      refine hK.out _ _ (by first | exact below_allocS hHeld _ | exact (below_allocS hHeld _).drew) (fun hHeld => ?_)
      clear hK K
      try simp only [Act.put, List.setIfInBounds_toArray, List.set_cons_zero, List.set_cons_succ]
      refine wpAnyH_ready (rs := [18]) (by kernel_rfl) (by simp) ?_
      refine AllReadyH.cons rfl (fun K hK => ?_) AllReadyH.nil
      go_simp
      refine Calls.mono (impl_newRR (k := k) (HT.out.keep (by first | exact hHeld | exact hHeld.drew)) HK9.out hk hb9 hq9) ?_
      rintro e v18 ⟨rfl, hb_v18⟩
      have hs_v18 := hb_v18.size
      (try simp at hs_v18)
      have G := Lib.hid (OwnF.litB (E := 142) (k := 3) (enc := I2b.enc) (ok := I2b.ok) (base := w.heap.size) (g := v8.heap.size) [⟨s, x, true⟩, ⟨u, q, true⟩] hb_v18 (by simp) (by (try simp); omega) rfl (by simp) (fun _ => rfl) OKG.out rfl)
      replace E := Lib.hid (E.out.keep (show Below _ _ v18 by repeat (first | exact Below.refl _ _ | assumption | refine below_allocS ?_ _ | refine below_callS ?_ (by assumption) | (refine Below.alloc ?_ (by first | omega | (simp; done) | (simp; omega)) _) | (refine Below.setCell ?_ (by first | omega | (simp; done) | (simp; omega)) _) | refine Below.drew ?_ | refine below_drewN ?_ _ | (refine below_call ?_ (by assumption) (by first | omega | (simp; done) | (simp; omega))) | (refine Below.trans ?_ (by assumption)))))
      replace X := Lib.hid (X.out.keep (show Below _ _ v18 by repeat (first | exact Below.refl _ _ | assumption | refine below_allocS ?_ _ | refine below_callS ?_ (by assumption) | (refine Below.alloc ?_ (by first | omega | (simp; done) | (simp; omega)) _) | (refine Below.setCell ?_ (by first | omega | (simp; done) | (simp; omega)) _) | refine Below.drew ?_ | refine below_drewN ?_ _ | (refine below_call ?_ (by assumption) (by first | omega | (simp; done) | (simp; omega))) | (refine Below.trans ?_ (by assumption)))))
      replace hHeld : Below w.heap.size w v18 := by repeat (first | exact Below.refl _ _ | assumption | refine below_allocS ?_ _ | refine below_callS ?_ (by assumption) | (refine Below.alloc ?_ (by first | omega | (simp; done) | (simp; omega)) _) | (refine Below.setCell ?_ (by first | omega | (simp; done) | (simp; omega)) _) | refine Below.drew ?_ | refine below_drewN ?_ _ | (refine below_call ?_ (by assumption) (by first | omega | (simp; done) | (simp; omega))) | (refine Below.trans ?_ (by assumption)))
      clear hb_v18
      go_wp2_with fail
      refine hK.out _ _ hHeld (fun hHeld => ?_)
      clear hK K
      try simp only [Act.put, List.setIfInBounds_toArray, List.set_cons_zero, List.set_cons_succ]
      refine wpAnyH_ready (rs := [19]) (by kernel_rfl) (by simp) ?_
      refine AllReadyH.cons rfl (fun K hK => ?_) AllReadyH.nil
      refine wp_store_blk (vs := #[.string (rnm k b q), .slice (some ⟨v8.heap.size, 0, none⟩) 2 2, .slice (some ⟨v5.heap.size, 0, none⟩) 2 2, .int .i64 K0, .int .i64 (b : Int), .int .i64 (q : Int)]) 117 (.tmp 10) (.tmp 29) (by rfl) (by rfl) (by rfl) X.out (by rfl) (by kernel_rfl) (by simp [Value.oneCell']) ?_
      intro V hV hgV hsV
      replace hHeld := hHeld.grown hgV hHeld.size (fun q0 hq0 => by cases hq0; exact Nat.le_refl _)
      have xl := X.out.lt
      refine hK.out _ _ hHeld (fun hHeld => ?_)
      clear hK K
      try simp only [Act.put, List.setIfInBounds_toArray, List.set_cons_zero, List.set_cons_succ]
      refine wpAnyH_done (by kernel_rfl) ?_ _
      refine NoPanic.normal ?_
      go_wp2_with fail
      have hgG := G.out.blk _ rfl
      have hgE := E.out.blk _ rfl
      have y0 := hV.cell 0
      have y1 := hV.cell 1
      have y2 := hV.cell 2
      have y3 := hV.cell 3
      have y4 := hV.cell 4
      have y5 := hV.cell 5
      simp at y0 y1 y2 y3 y4 y5
      exact bodyPost_ret (v := .agg #[.string (rnm k b q), .slice (some ⟨v8.heap.size, 0, none⟩) 2 2, .slice (some ⟨v5.heap.size, 0, none⟩) 2 2, .int .i64 K0, .int .i64 (b : Int), .int .i64 (q : Int)]) (by simp [results, Tryz.results150, go_sem, *]) rfl ⟨_, _, rfl, G.out.keepG hgV (by intro q0 hq0; simp at hq0 ⊢; omega), E.out.keepG hgV (by intro q0 hq0; simp at hq0 ⊢; omega), by omega, hHeld⟩
  · skip
    go_simp
    refine hK.out _ _ (by first | exact below_allocS hHeld _ | exact (below_allocS hHeld _).drew) (fun hHeld => ?_)
    clear hK K
    try simp only [Act.put, List.setIfInBounds_toArray, List.set_cons_zero, List.set_cons_succ]
    refine wpAnyH_ready (rs := [5]) (by kernel_rfl) (by simp) ?_
    refine AllReadyH.cons rfl (fun K hK => ?_) AllReadyH.nil
    go_simp
    refine Calls.mono impl_is ?_
    rintro e v5 ⟨rfl, hb_v5⟩
    have hs_v5 := hb_v5.size
    (try simp at hs_v5)
    replace hb_v5 := below_undrew hb_v5
    have hq5 : Below w0.heap.size w0 v5 := below_callS ((Below.refl _ _).alloc (Nat.le_refl _) _) hb_v5
    have E := Lib.hid (OwnF.litB (E := 123) (k := 2) (enc := I2.enc) (ok := I2.ok) (base := w.heap.size) (g := w0.heap.size) [⟨s, y⟩, ⟨u, (q : Int) - 1⟩] hb_v5 (by simp) (by (try simp); omega) rfl (by simp) (fun _ => rfl) OKE.out rfl)
    replace X := Lib.hid (X.out.keep (show Below _ _ v5 by repeat (first | exact Below.refl _ _ | assumption | refine below_allocS ?_ _ | refine below_callS ?_ (by assumption) | (refine Below.alloc ?_ (by first | omega | (simp; done) | (simp; omega)) _) | (refine Below.setCell ?_ (by first | omega | (simp; done) | (simp; omega)) _) | refine Below.drew ?_ | refine below_drewN ?_ _ | (refine below_call ?_ (by assumption) (by first | omega | (simp; done) | (simp; omega))) | (refine Below.trans ?_ (by assumption)))))
    replace hHeld : Below w.heap.size w v5 := below_callS hB0 hq5
    clear hb_v5
    go_wp2_with fail
    refine hK.out _ _ hHeld (fun hHeld => ?_)
    clear hK K
    try simp only [Act.put, List.setIfInBounds_toArray, List.set_cons_zero, List.set_cons_succ]
    refine wpAnyH_ready (rs := [8]) (by kernel_rfl) (by simp) ?_
    refine AllReadyH.cons rfl (fun K hK => ?_) AllReadyH.nil
    go_simp
    refine Calls.mono impl_is ?_
    rintro e v8 ⟨rfl, hb_v8⟩
    have hs_v8 := hb_v8.size
    (try simp at hs_v8)
    replace E := Lib.hid (E.out.keep (show Below _ _ v8 by repeat (first | exact Below.refl _ _ | assumption | refine below_allocS ?_ _ | refine below_callS ?_ (by assumption) | (refine Below.alloc ?_ (by first | omega | (simp; done) | (simp; omega)) _) | (refine Below.setCell ?_ (by first | omega | (simp; done) | (simp; omega)) _) | refine Below.drew ?_ | refine below_drewN ?_ _ | (refine below_call ?_ (by assumption) (by first | omega | (simp; done) | (simp; omega))) | (refine Below.trans ?_ (by assumption)))))
    replace X := Lib.hid (X.out.keep (show Below _ _ v8 by repeat (first | exact Below.refl _ _ | assumption | refine below_allocS ?_ _ | refine below_callS ?_ (by assumption) | (refine Below.alloc ?_ (by first | omega | (simp; done) | (simp; omega)) _) | (refine Below.setCell ?_ (by first | omega | (simp; done) | (simp; omega)) _) | refine Below.drew ?_ | refine below_drewN ?_ _ | (refine below_call ?_ (by assumption) (by first | omega | (simp; done) | (simp; omega))) | (refine Below.trans ?_ (by assumption)))))
    replace hHeld : Below w.heap.size w v8 := by repeat (first | exact Below.refl _ _ | assumption | refine below_allocS ?_ _ | refine below_callS ?_ (by assumption) | (refine Below.alloc ?_ (by first | omega | (simp; done) | (simp; omega)) _) | (refine Below.setCell ?_ (by first | omega | (simp; done) | (simp; omega)) _) | refine Below.drew ?_ | refine below_drewN ?_ _ | (refine below_call ?_ (by assumption) (by first | omega | (simp; done) | (simp; omega))) | (refine Below.trans ?_ (by assumption)))
    clear hb_v8
    go_wp2_with fail
    refine hK.out _ _ hHeld (fun hHeld => ?_)
    clear hK K
    try simp only [Act.put, List.setIfInBounds_toArray, List.set_cons_zero, List.set_cons_succ]
    refine wpAnyH_ready (rs := [9]) (by kernel_rfl) (by simp) ?_
    refine AllReadyH.cons rfl (fun K hK => ?_) AllReadyH.nil
    go_simp
    refine hK.out _ _ (by first | exact below_allocS hHeld _ | exact (below_allocS hHeld _).drew) (fun hHeld => ?_)
    clear hK K
    try simp only [Act.put, List.setIfInBounds_toArray, List.set_cons_zero, List.set_cons_succ]
    refine wpAnyH_ready (rs := [18]) (by kernel_rfl) (by simp) ?_
    refine AllReadyH.cons rfl (fun K hK => ?_) AllReadyH.nil
    go_simp
    refine Calls.mono (impl_newRR (k := k) (HT.out.keep (by first | exact hHeld | exact hHeld.drew)) HK9.out hk hb9 hq9) ?_
    rintro e v18 ⟨rfl, hb_v18⟩
    have hs_v18 := hb_v18.size
    (try simp at hs_v18)
    have G := Lib.hid (OwnF.litB (E := 142) (k := 3) (enc := I2b.enc) (ok := I2b.ok) (base := w.heap.size) (g := v8.heap.size) [⟨s, x, true⟩, ⟨u, q, true⟩] hb_v18 (by simp) (by (try simp); omega) rfl (by simp) (fun _ => rfl) OKG.out rfl)
    replace E := Lib.hid (E.out.keep (show Below _ _ v18 by repeat (first | exact Below.refl _ _ | assumption | refine below_allocS ?_ _ | refine below_callS ?_ (by assumption) | (refine Below.alloc ?_ (by first | omega | (simp; done) | (simp; omega)) _) | (refine Below.setCell ?_ (by first | omega | (simp; done) | (simp; omega)) _) | refine Below.drew ?_ | refine below_drewN ?_ _ | (refine below_call ?_ (by assumption) (by first | omega | (simp; done) | (simp; omega))) | (refine Below.trans ?_ (by assumption)))))
    replace X := Lib.hid (X.out.keep (show Below _ _ v18 by repeat (first | exact Below.refl _ _ | assumption | refine below_allocS ?_ _ | refine below_callS ?_ (by assumption) | (refine Below.alloc ?_ (by first | omega | (simp; done) | (simp; omega)) _) | (refine Below.setCell ?_ (by first | omega | (simp; done) | (simp; omega)) _) | refine Below.drew ?_ | refine below_drewN ?_ _ | (refine below_call ?_ (by assumption) (by first | omega | (simp; done) | (simp; omega))) | (refine Below.trans ?_ (by assumption)))))
    replace hHeld : Below w.heap.size w v18 := by repeat (first | exact Below.refl _ _ | assumption | refine below_allocS ?_ _ | refine below_callS ?_ (by assumption) | (refine Below.alloc ?_ (by first | omega | (simp; done) | (simp; omega)) _) | (refine Below.setCell ?_ (by first | omega | (simp; done) | (simp; omega)) _) | refine Below.drew ?_ | refine below_drewN ?_ _ | (refine below_call ?_ (by assumption) (by first | omega | (simp; done) | (simp; omega))) | (refine Below.trans ?_ (by assumption)))
    clear hb_v18
    go_wp2_with fail
    refine hK.out _ _ hHeld (fun hHeld => ?_)
    clear hK K
    try simp only [Act.put, List.setIfInBounds_toArray, List.set_cons_zero, List.set_cons_succ]
    refine wpAnyH_ready (rs := [19]) (by kernel_rfl) (by simp) ?_
    refine AllReadyH.cons rfl (fun K hK => ?_) AllReadyH.nil
    refine wp_store_blk (vs := #[.string (rnm k b q), .slice (some ⟨v8.heap.size, 0, none⟩) 2 2, .slice (some ⟨w0.heap.size, 0, none⟩) 2 2, .int .i64 K0, .int .i64 (b : Int), .int .i64 (q : Int)]) 117 (.tmp 10) (.tmp 29) (by rfl) (by rfl) (by rfl) X.out (by rfl) (by kernel_rfl) (by simp [Value.oneCell']) ?_
    intro V hV hgV hsV
    replace hHeld := hHeld.grown hgV hHeld.size (fun q0 hq0 => by cases hq0; exact Nat.le_refl _)
    have xl := X.out.lt
    refine hK.out _ _ hHeld (fun hHeld => ?_)
    clear hK K
    try simp only [Act.put, List.setIfInBounds_toArray, List.set_cons_zero, List.set_cons_succ]
    refine wpAnyH_done (by kernel_rfl) ?_ _
    refine NoPanic.normal ?_
    go_wp2_with fail
    have hgG := G.out.blk _ rfl
    have hgE := E.out.blk _ rfl
    have y0 := hV.cell 0
    have y1 := hV.cell 1
    have y2 := hV.cell 2
    have y3 := hV.cell 3
    have y4 := hV.cell 4
    have y5 := hV.cell 5
    simp at y0 y1 y2 y3 y4 y5
    exact bodyPost_ret (v := .agg #[.string (rnm k b q), .slice (some ⟨v8.heap.size, 0, none⟩) 2 2, .slice (some ⟨w0.heap.size, 0, none⟩) 2 2, .int .i64 K0, .int .i64 (b : Int), .int .i64 (q : Int)]) (by simp [results, Tryz.results150, go_sem, *]) rfl ⟨_, _, rfl, G.out.keepG hgV (by intro q0 hq0; simp at hq0 ⊢; omega), E.out.keepG hgV (by intro q0 hq0; simp at hq0 ⊢; omega), by omega, hHeld⟩
end Go.Proofs.YtfnamjkmkoldeaaGreatDoor
