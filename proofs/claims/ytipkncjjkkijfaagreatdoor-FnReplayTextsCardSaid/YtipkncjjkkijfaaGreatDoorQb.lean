/- The report, its permission and a move: the reference, walked. -/
import Derived.Test.YtipkncjjkkijfaaGreatDoorQa
namespace Go.Proofs.YtipkncjjkkijfaaGreatDoor
open Go.RowKit
set_option linter.unusedVariables false
set_option linter.unusedSimpArgs false
attribute [local go_sem ↓] Go.wp_at_zero Go.wp_at_succ
set_option maxHeartbeats 2000000 in
theorem spec_l11Report {B : Nat} {a a2 : Option Addr} {n c n2 c2 : Nat} {l : List Int} {L : List I3} {w : World} (hI : Ints w a n c l) (hF : F3 w a2 n2 c2 L) (ht : trafB (B : Int) l = true) (hn2 : n2 ≤ 16) (hL : ∀ x ∈ L, 0 ≤ x.a ∧ x.a < B) :
    Calls Tryz.prog 67 #[.agg #[.int .i64 (B : Int), .slice a n c], .slice a2 n2 c2] w fun e w' => ∃ (u1 u2 : Option Addr) (d1 d2 : Nat) (l1 l2 : List Int), e = .returned (.agg #[.slice u1 B d1, .slice u2 B d2]) ∧ Ints w' u1 B d1 l1 ∧ Ints w' u2 B d2 l2 ∧ Below w.heap.size w w' := by
  obtain ⟨wA, hwA⟩ : ∃ v, v = w.alloc (.cells #[.int .i64 (B : Int), .slice a n c] 26) := ⟨_, rfl⟩
  have hbA : Below w.heap.size w wA := by rw [hwA]; exact below_alloc1 (Below.refl _ _) _
  have hsA : wA.heap.size = w.heap.size + 1 := by rw [hwA]; exact Array.size_push _
  obtain ⟨wB, hwB⟩ : ∃ v, v = wA.alloc (.cells #[.slice none 0 0, .slice none 0 0] 98) := ⟨_, rfl⟩
  have hbB : Below wA.heap.size wA wB := by rw [hwB]; exact below_alloc1 (Below.refl _ _) _
  have hsB : wB.heap.size = w.heap.size + 2 := by rw [hwB]; show (Array.push _ _).size = _; rw [Array.size_push]; omega
  have hbw := below_callS hbA hbB
  have XB := Lib.hid (show Blk wB w.heap.size #[.int .i64 (B : Int), .slice a n c] 26 by rw [hwA] at hbB; exact (Blk.made w _ _).keep hbB)
  have RB := Lib.hid (show Blk wB (w.heap.size + 1) #[.slice none 0 0, .slice none 0 0] 98 by rw [hwB, ← hsA]; exact Blk.made wA _ _)
  have KC := Lib.hid (fun (ch : Int) (wx : World) (hw : Below wB.heap.size wB wx) => spec_l11Channel (B := B) (ch := ch) (hI.keep (below_callS hbw hw)) (hF.keep (below_callS hbw hw)) ht hn2 hL)
  clear hI hF ht hL
  go_enter Tryz.func67, Tryz.ntmps67
  go_upto_region 1 with fail
  rw [← hwA, ← hwB]
  clear hwA hwB
  refine wp_region_noPanic ?_
  refine wp_region_held_drew (S := fun wx => Blk wx w.heap.size #[.int .i64 (B : Int), .slice a n c] 26 ∧ Below w.heap.size w wx) (by kernel_rfl) ?_ (fun hHeld => ?_)
  · exact ⟨XB.out.keep (Below.refl _ _).drew, hbw.drew⟩
  have hx : Below wB.heap.size wB wB.drew := (Below.refl _ _).drew
  refine tkH0 1 (v := ?_) ?_ ?_
  rotate_left
  · (intro wv hSw; clear hSw; go_simp; try with_reducible rfl)
  try simp only [Act.put, s1, s2, s3]
  refine tkH0 4 (v := ?_) ?_ ?_
  rotate_left
  · (intro wv hSw; clear hSw; go_simp; try with_reducible rfl)
  try simp only [Act.put, s1, s2, s3]
  refine tkH0 0 (v := ?_) ?_ ?_
  rotate_left
  · (intro wv hSw; obtain ⟨hq, hq9⟩ := hSw; have q0 := hq.cell 0; have q1 := hq.cell 1; have zl := hq.lt; simp only [List.getElem?_toArray, List.getElem?_cons_zero, List.getElem?_cons_succ] at q0 q1; go_simp; try with_reducible rfl)
  try simp only [Act.put, s1, s2, s3]
  refine tkH0 3 (v := ?_) ?_ ?_
  rotate_left
  · (intro wv hSw; obtain ⟨hq, hq9⟩ := hSw; have q0 := hq.cell 0; have q1 := hq.cell 1; have zl := hq.lt; simp only [List.getElem?_toArray, List.getElem?_cons_zero, List.getElem?_cons_succ] at q0 q1; go_simp; try with_reducible rfl)
  try simp only [Act.put, s1, s2, s3]
  refine wpAnyH_ready (rs := [2]) (by kernel_rfl) (by simp) ?_
  refine AllReadyH.cons rfl (fun K hK => ?_) AllReadyH.nil
  go_simp
  refine Calls.mono (KC.out _ _ hx) ?_
  rintro e w1 ⟨u1, d1, l1, rfl, ho, hbn⟩
  have I1 := Lib.hid (ho.le (show w.heap.size + 2 ≤ _ from by have := hx.size; omega))
  replace hx := below_callS hx hbn
  clear ho hbn hHeld
  go_wp2_with fail
  refine hK.out _ _ ⟨XB.out.keep hx, below_callS hbw hx⟩ (fun hHeld => ?_)
  clear hK K
  try simp only [Act.put, s1, s2, s3]
  refine wpAnyH_ready (rs := [5]) (by kernel_rfl) (by simp) ?_
  refine AllReadyH.cons rfl (fun K hK => ?_) AllReadyH.nil
  go_simp
  refine Calls.mono (KC.out _ _ hx) ?_
  rintro e w2 ⟨u2, d2, l2, rfl, ho, hbn⟩
  have I2' := Lib.hid (ho.le (show w.heap.size + 2 ≤ _ from by have := hx.size; omega))
  replace I1 := Lib.hid (I1.out.keep hbn)
  replace hx := below_callS hx hbn
  clear ho hbn hHeld
  go_wp2_with fail
  refine hK.out _ _ ⟨XB.out.keep hx, below_callS hbw hx⟩ (fun hHeld => ?_)
  clear hK K
  try simp only [Act.put, s1, s2, s3]
  refine tkH0 6 (v := ?_) ?_ ?_
  rotate_left
  · (intro wv hSw; clear hSw; go_simp; try with_reducible rfl)
  try simp only [Act.put, s1, s2, s3]
  have R2 := Lib.hid (RB.out.keep hx)
  have r0 := R2.out.cell 0
  have r1 := R2.out.cell 1
  have rl := R2.out.lt
  have rf := R2.out.free
  simp only [List.getElem?_toArray, List.getElem?_cons_zero, List.getElem?_cons_succ] at r0 r1
  refine wpAnyH_ready (rs := [7]) (by kernel_rfl) (by simp) ?_
  refine AllReadyH.cons rfl (fun K hK => ?_) AllReadyH.nil
  go_simp
  have hon : Only (w.heap.size + 1) (w.heap.size + 2) w2 ((w2.setCell ⟨w.heap.size + 1, 0, none⟩ (.slice u1 B d1)).setCell ⟨w.heap.size + 1, 1, none⟩ (.slice u2 B d2)) := ((Only.refl _ _ w2).set ⟨Nat.le_refl _, by omega⟩ 0 _).set ⟨Nat.le_refl _, by omega⟩ 1 _
  have R3 := Lib.hid ((R2.out.set 0 (.slice u1 B d1)).set 1 (.slice u2 B d2))
  have X3 := Lib.hid ((XB.out.keep hx).apart hon (by omega))
  have hw3 := hon.below (below_callS hbw hx) (by omega) (by have := (below_callS hbw hx).size; omega)
  have O1 := Lib.hid (I1.out.only hon (fun g e => by subst e; have := (I1.out.lt).1; omega))
  have O2 := Lib.hid (I2'.out.only hon (fun g e => by subst e; have := (I2'.out.lt).1; omega))
  clear hx r0 r1 rl rf hHeld R2 RB XB I1 I2' KC
  refine hK.out _ _ ⟨X3.out, hw3⟩ (fun hHeld => ?_)
  clear hK K
  try simp only [Act.put, s1, s2, s3]
  refine wpAnyH_done (by kernel_rfl) ?_ _
  refine NoPanic.normal ?_
  clear hHeld
  generalize (w2.setCell ⟨w.heap.size + 1, 0, none⟩ (.slice u1 B d1)).setCell ⟨w.heap.size + 1, 1, none⟩ (.slice u2 B d2) = w3 at *
  go_wp2_with fail
  exact bodyPost_ret (v := .agg #[.slice u1 B d1, .slice u2 B d2]) (results_cell_row Tryz.results67 _ _ (w.heap.size + 1) 98 #[.slice u1 B d1, .slice u2 B d2] _ _ rfl (show Blk _ _ #[.slice u1 B d1, .slice u2 B d2] 98 from R3.out) Tryz.underlying98 rfl (by kernel_rfl)) rfl ⟨u1, u2, d1, d2, l1, l2, rfl, O1.out.ints, O2.out.ints, hw3⟩
end Go.Proofs.YtipkncjjkkijfaaGreatDoor
