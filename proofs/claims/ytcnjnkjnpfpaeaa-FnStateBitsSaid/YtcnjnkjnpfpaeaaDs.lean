/- Draws of the laws on bits of states, walked. -/
import Derived.Test.YtcnjnkjnpfpaeaaDp
import Derived.Test.YtcnjnkjnpfpaeaaMo
import Derived.Test.YtcnjnkjnpfpaeaaL23g
namespace Go.Proofs.Ytcnjnkjnpfpaeaa
open Go.RowKit
set_option linter.unusedVariables false
set_option linter.unusedSimpArgs false
attribute [local go_sem ↓] Go.wp_at_zero Go.wp_at_succ
/-- a drawn model -/
structure DM (w : World) (B : Nat) (sa : Option Addr) (sn sc : Nat) (ta : Option Addr) (tn tc : Nat) (ra : Option Addr) (rn rc : Nat) (sz st : List Int) (l : List (RM × RuD)) : Prop where
  s : OwnI 2 w B sa sn sc sz
  t : OwnI 2 w B ta tn tc st
  r : RRow w B ra rn rc l
  h1 : 1 ≤ sn
  h5 : sn ≤ 5
  ht : tn ≤ 5
  hr : rn ≤ 300
section
variable {w w' : World} {B lo b sn sc tn tc rn rc : Nat} {sa ta ra : Option Addr} {sz st : List Int} {l : List (RM × RuD)} {T : TypeId}
theorem DM.keep (h : DM w B sa sn sc ta tn tc ra rn rc sz st l) (hb : Below w.heap.size w w') : DM w' B sa sn sc ta tn tc ra rn rc sz st l := ⟨h.s.keep hb, h.t.keep hb, h.r.keep hb, h.h1, h.h5, h.ht, h.hr⟩
theorem DM.dw (h : DM w B sa sn sc ta tn tc ra rn rc sz st l) (hd : Dw T lo b w w') (hb : b < B) : DM w' B sa sn sc ta tn tc ra rn rc sz st l := ⟨h.s.dw hd hb, h.t.dw hd hb, h.r.dw hd hb, h.h1, h.h5, h.ht, h.hr⟩
theorem DM.le {B' : Nat} (h : DM w B sa sn sc ta tn tc ra rn rc sz st l) (hb : B' ≤ B) : DM w B' sa sn sc ta tn tc ra rn rc sz st l := ⟨h.s.le hb, h.t.le hb, h.r.le hb, h.h1, h.h5, h.ht, h.hr⟩
theorem DM.only {lo hi : Nat} (h : DM w B sa sn sc ta tn tc ra rn rc sz st l) (ho : Only lo hi w w') (hb : hi ≤ B) : DM w' B sa sn sc ta tn tc ra rn rc sz st l :=
  ⟨h.s.only ho fun g e => .inr (Nat.le_trans hb (h.s.blk g e).1), h.t.only ho fun g e => .inr (Nat.le_trans hb (h.t.blk g e).1), h.r.only ho hb, h.h1, h.h5, h.ht, h.hr⟩
theorem DM.rd (h : DM w B sa sn sc ta tn tc ra rn rc sz st l) : MRd w sa sn sc ta tn tc ra rn rc sz st (l.map (·.2)) :=
  ⟨h.s.ints, h.t.ints, ⟨l, h.r.fr, rfl⟩, by have := h.h5; omega, by have := h.ht; omega, by have := h.hr; omega⟩
end
/-- the blocks of a drawn model lie below C -/
structure DMB (C : Nat) (sa ta ra : Option Addr) (l : List (RM × RuD)) : Prop where
  s : ∀ g, sa = some ⟨g, 0, none⟩ → g < C
  t : ∀ g, ta = some ⟨g, 0, none⟩ → g < C
  r : RBl C ra l
theorem DM.bl {w : World} {B sn sc tn tc rn rc : Nat} {sa ta ra : Option Addr} {sz st : List Int} {l : List (RM × RuD)} (h : DM w B sa sn sc ta tn tc ra rn rc sz st l) : DMB w.heap.size sa ta ra l := ⟨fun g e => (h.s.blk g e).2, fun g e => (h.t.blk g e).2, h.r.bl⟩
theorem DM.keepB {w w' : World} {B C sn sc tn tc rn rc : Nat} {sa ta ra : Option Addr} {sz st : List Int} {l : List (RM × RuD)} (h : DM w B sa sn sc ta tn tc ra rn rc sz st l) (hC : DMB C sa ta ra l) (hb : Below C w w') : DM w' B sa sn sc ta tn tc ra rn rc sz st l :=
  ⟨OwnI.keepB h.s hb hC.s, OwnI.keepB h.t hb hC.t, h.r.keepB hb hC.r, h.h1, h.h5, h.ht, h.hr⟩
theorem only3 {r : Nat} {w : World} (v0 v1 v2 : Value) : Only r (r + 1) w (((w.setCell ⟨r, 0, none⟩ v0).setCell ⟨r, 1, none⟩ v1).setCell ⟨r, 2, none⟩ v2) := (((Only.refl r (r + 1) w).set ⟨Nat.le_refl _, Nat.lt_succ_self _⟩ 0 _).set ⟨Nat.le_refl _, Nat.lt_succ_self _⟩ 1 _).set ⟨Nat.le_refl _, Nat.lt_succ_self _⟩ 2 _
def MDraw (w : World) (e : Ending) (w' : World) : Prop := ∃ (sa ta ra : Option Addr) (sn sc tn tc rn rc : Nat) (sz st : List Int) (l : List (RM × RuD)), e = .returned (.agg #[.slice sa sn sc, .slice ta tn tc, .slice ra rn rc]) ∧ DM w' w.heap.size sa sn sc ta tn tc ra rn rc sz st l ∧ Below w.heap.size w w'
def MVDraw (w : World) (e : Ending) (w' : World) : Prop := ∃ (sa ta ra va : Option Addr) (sn sc tn tc rn rc vn vc : Nat) (sz st vs : List Int) (l : List (RM × RuD)), e = .returned (.tuple #[.agg #[.slice sa sn sc, .slice ta tn tc, .slice ra rn rc], .slice va vn vc]) ∧ DM w' w.heap.size sa sn sc ta tn tc ra rn rc sz st l ∧ OwnI 2 w' w.heap.size va vn vc vs ∧ vn ≤ 100 ∧ Below w.heap.size w w'
set_option maxRecDepth 100000 in
set_option maxHeartbeats 4000000 in
theorem spec_DrawBitsOfModel {a : Option Addr} {n c : Nat} {w : World} (hB : Byts w a n c) (hn : n ≤ 4096) :
    Calls Try.prog 11 #[.slice a n c] w (MDraw w) := by
  have HB := Lib.hid hB
  clear hB
  go_enter Try.func11, Try.ntmps11
  go_wp2_with fail
  have hbA : Below w.heap.size w (w.alloc (.cells #[.slice none 0 0, .slice none 0 0, .slice none 0 0] 27)) := below_alloc1 (Below.refl _ _) _
  refine Calls.mono (dw_l01From HB.out hbA hn) ?_
  rintro e w1 ⟨b, rfl, hb1, hlo, hd⟩
  simp at hlo
  have X1 := Lib.hid ((Blk.made w #[.slice none 0 0, .slice none 0 0, .slice none 0 0] 27).keep hb1)
  have hbl := below_callS hbA hb1
  have hbw := hd.lt
  have hs1 := hb1.size
  simp at hs1
  have HD := Lib.hid hd
  clear hd hb1 hbA
  go_wp2_with fail
  refine Calls.mono (spec_l23Draw HD.out) ?_
  rintro e w2 ⟨sa, ta, ra, sn, sc, tn, tc, rn, rc, sz, st, l, rfl, hS, hT, hR, h1, h5, ht5, hr3, hd⟩
  have M := Lib.hid (show DM w2 w1.heap.size sa sn sc ta tn tc ra rn rc sz st l from ⟨hS, hT, hR, h1, h5, ht5, hr3⟩)
  have X2 := Lib.hid (X1.out.dw hd (by omega))
  have hbl2 := Lib.hid ((HD.out.trans hd).fin hbl (by omega))
  clear hS hT hR hd HD X1
  have x0 := X2.out.cell 0
  have x1 := X2.out.cell 1
  have x2 := X2.out.cell 2
  have xl := X2.out.lt
  have xf := X2.out.free
  simp only [List.getElem?_toArray, List.getElem?_cons_zero, List.getElem?_cons_succ] at x0 x1 x2
  go_wp2
  exact bodyPost_ret (v := .agg #[.slice sa sn sc, .slice ta tn tc, .slice ra rn rc]) (by simp [results, Try.results11, go_sem, *]) rfl ⟨sa, ta, ra, sn, sc, tn, tc, rn, rc, sz, st, l, rfl, (M.out.only (only3 _ _ _) (by omega)).le (by omega), ((hbl2.out.setCell (Nat.le_refl _) _).setCell (Nat.le_refl _) _).setCell (Nat.le_refl _) _⟩
set_option maxRecDepth 100000 in
set_option maxHeartbeats 4000000 in
theorem spec_DrawBitsOfState {a : Option Addr} {n c : Nat} {w : World} (hB : Byts w a n c) (hn : n ≤ 4096) :
    Calls Try.prog 5 #[.slice a n c] w (MVDraw w) := by
  have HB := Lib.hid hB
  clear hB
  go_enter Try.func5, Try.ntmps5
  go_wp2_with fail
  have hbA : Below w.heap.size w (w.alloc (.cells #[.slice none 0 0, .slice none 0 0, .slice none 0 0] 27)) := below_alloc1 (Below.refl _ _) _
  refine Calls.mono (dw_l01From HB.out hbA hn) ?_
  rintro e w1 ⟨b, rfl, hb1, hlo, hd⟩
  simp at hlo
  have X1 := Lib.hid ((Blk.made w #[.slice none 0 0, .slice none 0 0, .slice none 0 0] 27).keep hb1)
  have hbl := below_callS hbA hb1
  have hbw := hd.lt
  have hs1 := hb1.size
  simp at hs1
  have HD := Lib.hid hd
  clear hd hb1 hbA
  go_wp2_with fail
  refine Calls.mono (spec_l23Draw HD.out) ?_
  rintro e w2 ⟨sa, ta, ra, sn, sc, tn, tc, rn, rc, sz, st, l, rfl, hS, hT, hR, h1, h5, ht5, hr3, hd⟩
  have M := Lib.hid (show DM w2 w1.heap.size sa sn sc ta tn tc ra rn rc sz st l from ⟨hS, hT, hR, h1, h5, ht5, hr3⟩)
  have X2 := Lib.hid (X1.out.dw hd (by omega))
  have HD2 := Lib.hid (HD.out.trans hd)
  have hs2 := hd.size
  clear hS hT hR hd HD X1
  go_wp2_with fail
  have hbE : Below w2.heap.size w2 (w2.alloc (.cells #[.slice sa sn sc, .slice ta tn tc, .slice ra rn rc] 27)).drew := (below_alloc1 (Below.refl _ _) _).drew
  have P := Lib.hid ((Blk.made w2 #[.slice sa sn sc, .slice ta tn tc, .slice ra rn rc] 27))
  refine wp_region_noPanic ?_
  refine wp_region_held_drew (S := fun wx => Blk wx w2.heap.size #[.slice sa sn sc, .slice ta tn tc, .slice ra rn rc] 27) (by kernel_rfl) P.out.drew (fun hHeld => ?_)
  refine tkH0 0 (v := ?_) ?_ ?_
  rotate_left
  · (intro wv hSw; have q0 := Blk.cell hSw 0; have q1 := Blk.cell hSw 1; have q2 := Blk.cell hSw 2; have ql := Blk.lt hSw; simp only [List.getElem?_toArray, List.getElem?_cons_zero, List.getElem?_cons_succ] at q0 q1 q2; clear hSw; go_simp; try with_reducible rfl)
  try simp only [Act.put, s1, s2, s3]
  refine tkH 1 ?_
  try simp only [Act.put, s1, s2, s3]
  refine tkH0 2 (v := ?_) ?_ ?_
  rotate_left
  · (intro wv hSw; have q0 := Blk.cell hSw 0; have q1 := Blk.cell hSw 1; have q2 := Blk.cell hSw 2; have ql := Blk.lt hSw; simp only [List.getElem?_toArray, List.getElem?_cons_zero, List.getElem?_cons_succ] at q0 q1 q2; clear hSw; go_simp; try with_reducible rfl)
  try simp only [Act.put, s1, s2, s3]
  refine wpAnyH_ready (rs := [3]) (by kernel_rfl) (by simp) ?_
  refine AllReadyH.cons rfl (fun K hK => ?_) AllReadyH.nil
  go_simp
  have M3 := Lib.hid (M.out.keep hbE)
  have D3 := Lib.hid (HD2.out.below hbE)
  have X3 := Lib.hid (X2.out.keep hbE)
  have P3 := Lib.hid (P.out.drew)
  have hs3 := hbE.size
  have hn5 := M.out.h5
  clear M HD2 X2 P hHeld hbE
  refine Calls.mono (spec_l20DrawState D3.out M3.out.s.ints (fun g off e => by
    rcases M3.out.s.form with h | ⟨q, e'⟩
    · rw [h.1] at e; cases e
    · have h1 := (M3.out.s.blk q e').1
      rw [e'] at e
      simp only [Option.some.injEq, Addr.mk.injEq] at e
      omega) (by omega)) ?_
  rintro e w4 ⟨va, vn, vc, vl, rfl, hv, hvn, hd⟩
  have hs4 := hd.size
  have M4 := Lib.hid (M3.out.dw hd hbw)
  have X4 := Lib.hid (X3.out.dw hd (by omega))
  have P4 := Lib.hid (P3.out.dw hd (by omega))
  have D4 := Lib.hid (D3.out.trans hd)
  have V4 := Lib.hid (hv.le (show w.heap.size + 1 ≤ _ by omega))
  clear hd hv M3 X3 P3 D3
  go_wp2_with fail
  refine hK.out _ _ P4.out (fun hHeld => ?_)
  clear hK K
  try simp only [Act.put, s1, s2, s3]
  have x0 := X4.out.cell 0
  have x1 := X4.out.cell 1
  have x2 := X4.out.cell 2
  have xl := X4.out.lt
  have xf := X4.out.free
  simp only [List.getElem?_toArray, List.getElem?_cons_zero, List.getElem?_cons_succ] at x0 x1 x2
  refine wpAnyH_ready (rs := [4]) (by kernel_rfl) (by simp) ?_
  refine AllReadyH.cons rfl (fun K hK => ?_) AllReadyH.nil
  go_simp
  refine hK.out _ _ (P4.out.apart (only3 _ _ _) (.inr (by omega))) (fun hHeld => ?_)
  clear hK K
  try simp only [Act.put, s1, s2, s3]
  refine tkH 5 ?_
  try simp only [Act.put, s1, s2, s3]
  refine wpAnyH_done (by kernel_rfl) ?_ _
  refine NoPanic.normal ?_
  have hbl4 := Lib.hid (D4.out.fin hbl (by omega))
  clear hHeld
  go_wp2_with fail
  exact bodyPost_ret (v := .tuple #[.agg #[.slice sa sn sc, .slice ta tn tc, .slice ra rn rc], .slice va vn vc]) (by simp [results, Try.results5, go_sem, *]) rfl ⟨sa, ta, ra, va, sn, sc, tn, tc, rn, rc, vn, vc, sz, st, vl, l, rfl, (M4.out.only (only3 _ _ _) (by omega)).le (by omega), (V4.out.only (only3 _ _ _) (fun g e => .inr (V4.out.blk g e).1)).le (Nat.le_succ _), by omega, ((hbl4.out.setCell (Nat.le_refl _) _).setCell (Nat.le_refl _) _).setCell (Nat.le_refl _) _⟩
end Go.Proofs.Ytcnjnkjnpfpaeaa
