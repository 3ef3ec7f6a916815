/- The permission and a move: the reference, walked. -/
import Derived.Test.YtipkncjjkkijfaaGreatDoorQb
import Derived.BigQuiet
import Derived.RegionTactic
import Derived.BigRegion
namespace Go.Proofs.YtipkncjjkkijfaaGreatDoor
open Go.RowKit
set_option linter.unusedVariables false
set_option linter.unusedSimpArgs false
theorem per_m1 {yn : Nat} (h : yn % 3 = 1) : ((yn : Int) % 3 != 1) = false := by simp; omega
theorem per_m2 {yn : Nat} (h : ¬ yn % 3 = 1) : ((yn : Int) % 3 != 1) = true := by simp; omega
theorem per_x {z : Int} (h : 0 ≤ z) (h2 : z ≤ 1000) : IntKind.i64.wrap z = z := IntWalk.i64_in _ (by omega)
theorem per_f3 {yn : Nat} : IntKind.i64.wrap ((yn : Int) % 3) = (yn : Int) % 3 := per_x (by omega) (by omega)
theorem per_n1 {yn : Nat} (h : yn % 3 = 1) : (yn : Int) % 3 = 1 := by omega
theorem per_n2 {yn : Nat} (h : ¬ yn % 3 = 1) : ¬ (yn : Int) % 3 = 1 := by omega
theorem per_w {z : Int} (h : 0 ≤ z) (h2 : z ≤ 1000) : wrap64 z = z := IntWalk.wrap64_in _ ⟨by omega, by omega⟩
theorem per_facts {yn B nx : Nat} (h : yn ≤ 100) (hn : (yn / 3 + 1) % B = nx) : wrap64 ((yn : Int) / 3) = (yn : Int) / 3 ∧ wrap64 ((yn : Int) / 3 + 1) = (yn : Int) / 3 + 1 ∧ ((yn : Int) / 3 + 1).tmod (B : Int) = (nx : Int) ∧ wrap64 ((yn : Int) % 3) = (yn : Int) % 3 := by
  have h0 : (0 : Int) ≤ (yn : Int) / 3 + 1 := by omega
  refine ⟨per_w (by omega) (by omega), per_w (by omega) (by omega), ?_, per_w (by omega) (by omega)⟩
  rw [Int.tmod_eq_emod_of_nonneg h0, ← hn, Int.natCast_emod]
  rfl
set_option maxHeartbeats 2000000 in
theorem spec_l11Permits {B t : Nat} {a u1 u2 : Option Addr} {n c d1 d2 : Nat} {l l1 l2 : List Int} {w : World} (hI : Ints w a n c l) (ht : trafB (B : Int) l = true) (htn : t < n) (h1 : Ints w u1 B d1 l1) (h2 : Ints w u2 B d2 l2) :
    Calls Tryz.prog 66 #[.agg #[.int .i64 (B : Int), .slice a n c], .agg #[.slice u1 B d1, .slice u2 B d2], .int .i64 (t : Int)] w fun e w' => (∃ q, e = .returned (.bool q)) ∧ Below w.heap.size w w' := by
  obtain ⟨hB2, hB8, hl1, hl4, hpl⟩ := trafB_split ht
  obtain ⟨wA, hwA⟩ : ∃ v, v = (w.alloc (.cells #[.int .i64 (B : Int), .slice a n c] 26)).alloc (.cells #[.slice u1 B d1, .slice u2 B d2] 98) := ⟨_, rfl⟩
  have hb0 : Below w.heap.size w (w.alloc (.cells #[.int .i64 (B : Int), .slice a n c] 26)) := below_alloc1 (Below.refl _ _) _
  have hs0 : (w.alloc (.cells #[.int .i64 (B : Int), .slice a n c] 26)).heap.size = w.heap.size + 1 := Array.size_push _
  have hbA : Below w.heap.size w wA := by rw [hwA]; exact below_callS hb0 (below_alloc1 (Below.refl _ _) _)
  have XA := show Blk wA w.heap.size #[.int .i64 (B : Int), .slice a n c] 26 by rw [hwA]; exact (Blk.made w _ _).keep (below_alloc1 (Below.refl _ _) _)
  have RA := show Blk wA (w.heap.size + 1) #[.slice u1 B d1, .slice u2 B d2] 98 by rw [hwA, ← hs0]; exact Blk.made _ _ _
  obtain ⟨b, off, y, rfl, hb, hy, c0, hyw⟩ := (hI.keep hbA).at htn
  have hyp := hpl y (List.mem_of_getElem? hy)
  obtain ⟨yn, rfl⟩ := Int.eq_ofNat_of_zero_le hyp.1
  have hnx : (yn / 3 + 1) % B < B := Nat.mod_lt _ (by omega)
  obtain ⟨nx, hnx'⟩ : ∃ nx : Nat, (yn / 3 + 1) % B = nx := ⟨_, rfl⟩
  rw [hnx'] at hnx
  have w1 : IntKind.i64.wrap 1 = 1 := rfl
  obtain ⟨e0, e1, e2, e3⟩ := per_facts (yn := yn) (B := B) (nx := nx) (by omega) hnx'
  obtain ⟨g1, o1, y1, rfl, hg1, _, k1, _⟩ := (h1.keep hbA).at hnx
  obtain ⟨g2, o2, y2, rfl, hg2, _, k2, _⟩ := (h2.keep hbA).at hnx
  have x0 := XA.cell 0
  have x1 := XA.cell 1
  have xl := XA.lt
  have r0 := RA.cell 0
  have r1 := RA.cell 1
  have rl := RA.lt
  simp only [List.getElem?_toArray, List.getElem?_cons_zero, List.getElem?_cons_succ] at x0 x1 r0 r1
  have hB0 : ¬ (B : Int) = 0 := by omega
  have ht0 : (0 : Int) ≤ (t : Int) := by omega
  have ht1 : (t : Int) < (n : Int) := by omega
  have hn0 : (0 : Int) ≤ (nx : Int) := by omega
  have hn1 : (nx : Int) < (B : Int) := by omega
  clear hI ht h1 h2 hpl hy hyw XA RA hnx' hb0 hs0 hyp
  go_enter Tryz.func66, Tryz.ntmps66
  go_upto_region 1 with fail
  rw [← hwA]
  clear hwA
  go_quiet (fail)
  go_wp2_with fail
  have hbB : Below w.heap.size w (wA.drewN nq) := below_drewN hbA _
  obtain ⟨wB, hwB⟩ : ∃ v, v = wA.drewN nq := ⟨_, rfl⟩
  rw [← hwB] at hbB ⊢
  replace x0 : wB.cell? ⟨w.heap.size, 0, none⟩ = some (.int .i64 (B : Int)) := by rw [hwB]; exact x0
  replace x1 : wB.cell? ⟨w.heap.size, 1, none⟩ = some (.slice (some ⟨b, off, none⟩) n c) := by rw [hwB]; exact x1
  replace r0 : wB.cell? ⟨w.heap.size + 1, 0, none⟩ = some (.slice (some ⟨g1, o1, none⟩) B d1) := by rw [hwB]; exact r0
  replace r1 : wB.cell? ⟨w.heap.size + 1, 1, none⟩ = some (.slice (some ⟨g2, o2, none⟩) B d2) := by rw [hwB]; exact r1
  replace c0 : wB.cell? ⟨b, off + t, none⟩ = some (.int .i64 (yn : Int)) := by rw [hwB]; exact c0
  replace k1 : wB.cell? ⟨g1, o1 + nx, none⟩ = some (.int .i64 y1) := by rw [hwB]; exact k1
  replace k2 : wB.cell? ⟨g2, o2 + nx, none⟩ = some (.int .i64 y2) := by rw [hwB]; exact k2
  replace xl : w.heap.size < wB.heap.size := by rw [hwB]; exact xl
  replace rl : w.heap.size + 1 < wB.heap.size := by rw [hwB]; exact rl
  replace hb : b < wB.heap.size := by rw [hwB]; exact hb
  replace hg1 : g1 < wB.heap.size := by rw [hwB]; exact hg1
  replace hg2 : g2 < wB.heap.size := by rw [hwB]; exact hg2
  clear hwB
  have f3 : IntKind.i64.wrap ((yn : Int) % 3) = (yn : Int) % 3 := per_f3
  by_cases hm : yn % 3 = 1
  · have hm1 : (yn : Int) % 3 = 1 := per_n1 hm
    clear e0 e1 e2 e3
    go_quiet (fail)
    go_wp2
    go_ret
    first | exact ⟨⟨_, rfl⟩, below_drewN hbB _⟩ | exact ⟨_, below_drewN hbB _⟩ | exact below_drewN hbB _
  · have hm1 : ¬ (yn : Int) % 3 = 1 := per_n2 hm
    have hm2 := per_m2 hm
    clear e0 e1 e2 e3
    go_quiet (fail)
    go_wp2
    go_ret
    first | exact ⟨⟨_, rfl⟩, below_drewN hbB _⟩ | exact ⟨_, below_drewN hbB _⟩ | exact below_drewN hbB _
set_option maxHeartbeats 2000000 in
theorem spec_l10Move {B t : Nat} {a : Option Addr} {n c : Nat} {l : List Int} {w : World} (hI : Ints w a n c l) (ht : trafB (B : Int) l = true) (htn : t < n) :
    Calls Tryz.prog 69 #[.agg #[.int .i64 (B : Int), .slice a n c], .int .i64 (t : Int)] w fun e w' => ∃ (a' : Option Addr) (c' : Nat) (l' : List Int), e = .returned (.agg #[.int .i64 (B : Int), .slice a' n c']) ∧ OwnI 2 w' w.heap.size a' n c' l' ∧ trafB (B : Int) l' = true ∧ Below w.heap.size w w' := by
  obtain ⟨hB2, hB8, hl1, hl4, hpl⟩ := trafB_split ht
  have hln := hI.len
  obtain ⟨wA, hwA⟩ : ∃ v, v = (w.alloc (.cells #[.int .i64 (B : Int), .slice a n c] 26)).alloc (.cells #[.int .i64 0, .slice none 0 0] 26) := ⟨_, rfl⟩
  have hb0 : Below w.heap.size w (w.alloc (.cells #[.int .i64 (B : Int), .slice a n c] 26)) := below_alloc1 (Below.refl _ _) _
  have hs0 : (w.alloc (.cells #[.int .i64 (B : Int), .slice a n c] 26)).heap.size = w.heap.size + 1 := Array.size_push _
  have hbA : Below w.heap.size w wA := by rw [hwA]; exact below_callS hb0 (below_alloc1 (Below.refl _ _) _)
  have hsA : wA.heap.size = w.heap.size + 2 := by rw [hwA]; show (Array.push _ _).size = _; rw [Array.size_push]; omega
  have XA := Lib.hid (show Blk wA w.heap.size #[.int .i64 (B : Int), .slice a n c] 26 by rw [hwA]; exact (Blk.made w _ _).keep (below_alloc1 (Below.refl _ _) _))
  have RA := Lib.hid (show Blk wA (w.heap.size + 1) #[.int .i64 0, .slice none 0 0] 26 by rw [hwA, ← hs0]; exact Blk.made _ _ _)
  have KO := Lib.hid (spec_l01Own0 (hI.keep hbA) (by omega))
  have HP := Lib.hid hpl
  have x0 := XA.out.cell 0
  have x1 := XA.out.cell 1
  have xl := XA.out.lt
  simp only [List.getElem?_toArray, List.getElem?_cons_zero, List.getElem?_cons_succ] at x0 x1
  clear hI ht hpl hb0 hs0
  go_enter Tryz.func69, Tryz.ntmps69
  go_upto_region 1 with fail
  rw [← hwA]
  clear hwA
  go_wp2_with fail
  refine Calls.mono KO.out ?_
  rintro e w1 ⟨a1, c1, rfl, hb1, ho⟩
  have B1 := below_callS hbA hb1
  have X1 := Lib.hid (XA.out.keep hb1)
  have R1 := Lib.hid (RA.out.keep hb1)
  obtain ⟨g, rfl⟩ : ∃ g, a1 = some ⟨g, 0, none⟩ := by
    rcases ho.1.2 with ⟨_, h0⟩ | ⟨g, cap, cur, he, _⟩
    · omega
    · simp only [Value.slice.injEq] at he; exact ⟨g, he.1⟩
  obtain ⟨y, hy, hyw, hcy⟩ := ho.cell htn
  have hyp := HP.out y (List.mem_of_getElem? hy)
  obtain ⟨yn, rfl⟩ := Int.eq_ofNat_of_zero_le hyp.1
  obtain ⟨v, hv⟩ : ∃ v : Nat, (yn + 1) % (3 * B) = v := ⟨_, rfl⟩
  have hv2 : v < 3 * B := by rw [← hv]; exact Nat.mod_lt _ (by omega)
  have e1 : wrap64 ((yn : Int) + 1) = (yn : Int) + 1 := IntWalk.wrap64_in _ ⟨by omega, by omega⟩
  have e2 : wrap64 (3 * (B : Int)) = 3 * (B : Int) := IntWalk.wrap64_in _ ⟨by omega, by omega⟩
  have e3 : ((yn : Int) + 1).tmod (3 * (B : Int)) = (v : Int) := by
    rw [Int.tmod_eq_emod_of_nonneg (by omega), ← hv]; push_cast; rfl
  have f1 : IntKind.i64.wrap ((yn : Int) + 1) = (yn : Int) + 1 := per_x (by omega) (by omega)
  have f2 : IntKind.i64.wrap (3 * (B : Int)) = 3 * (B : Int) := per_x (by omega) (by omega)
  have h30 : ¬ 3 * (B : Int) = 0 := by omega
  have hB0 : ¬ (B : Int) = 0 := by omega
  have hB1 : ¬ B = 0 := by omega
  have hgl := (ho.lt).2
  have hgb := (ho.lt).1
  have hfz := ho.free t
  have O1 := Lib.hid ho
  have ht0 : (0 : Int) ≤ (t : Int) := by omega
  have ht1 : (t : Int) < (n : Int) := by omega
  have HT := Lib.hid (show trafB (B : Int) (l.set t (v : Int)) = true by
    have h2 : allIn 0 (3 * (B : Int) - 1) (l.set t (v : Int)) = true := by
      rw [allIn, List.all_eq_true]
      intro z hz
      rcases List.mem_or_eq_of_mem_set hz with h | h
      · have := HP.out z h
        simp only [inB, Bool.and_eq_true, decide_eq_true_eq]; omega
      · rw [h]; simp only [inB, Bool.and_eq_true, decide_eq_true_eq]; omega
    simp only [trafB, h2, List.length_set, inB, Bool.and_eq_true, decide_eq_true_eq, Bool.and_true]
    omega)
  have hvi : I64 (v : Int) := by unfold I64; omega
  replace x0 := X1.out.cell 0
  replace x1 := X1.out.cell 1
  replace xl := X1.out.lt
  simp only [List.getElem?_toArray, List.getElem?_cons_zero, List.getElem?_cons_succ] at x0 x1
  clear hb1 hy hyw hyp ho hv XA RA KO HP
  go_upto_region 2 with fail
  refine wp_region_noPanic ?_
  refine wp_region_held_drew (S := fun wx => Blk wx w.heap.size #[.int .i64 (B : Int), .slice a n c] 26 ∧ Below w.heap.size w wx) (by kernel_rfl) ?_ (fun hHeld => ?_)
  · exact ⟨X1.out.keep (Below.refl _ _).drew, B1.drew⟩
  have hx : Below w1.heap.size w1 w1.drew := (Below.refl _ _).drew
  replace hcy : w1.drew.cell? ⟨g, t, none⟩ = some (.int .i64 (yn : Int)) := hcy
  replace hgl : g < w1.drew.heap.size := hgl
  replace hfz : w1.drew.frozen? ⟨g, t, none⟩ = false := hfz
  clear x0 x1 xl
  refine tkH0 0 (v := ?_) ?_ ?_
  rotate_left
  · (intro wv hSw; clear hSw; go_simp; try with_reducible rfl)
  try simp only [Act.put, s1, s2, s3]
  refine tkH0 1 (v := ?_) ?_ ?_
  rotate_left
  · (intro wv hSw; clear hSw; go_simp; try with_reducible rfl)
  try simp only [Act.put, s1, s2, s3]
  refine tkH0 2 (v := ?_) ?_ ?_
  rotate_left
  · (intro wv hSw; clear hSw; go_simp; try with_reducible rfl)
  try simp only [Act.put, s1, s2, s3]
  refine tkH0 3 (v := ?_) ?_ ?_
  rotate_left
  · (intro wv hSw; clear hSw; go_simp; try with_reducible rfl)
  try simp only [Act.put, s1, s2, s3]
  refine tkH0 4 (v := ?_) ?_ ?_
  rotate_left
  · (intro wv hSw; clear hSw; go_simp; try with_reducible rfl)
  try simp only [Act.put, s1, s2, s3]
  refine tkH0 7 (v := ?_) ?_ ?_
  rotate_left
  · (intro wv hSw; clear hSw; go_simp; try with_reducible rfl)
  try simp only [Act.put, s1, s2, s3]
  refine tkH0 8 (v := ?_) ?_ ?_
  rotate_left
  · (intro wv hSw; obtain ⟨hq, hq9⟩ := hSw; have q0 := hq.cell 0; have q1 := hq.cell 1; have zl := hq.lt; simp only [List.getElem?_toArray, List.getElem?_cons_zero, List.getElem?_cons_succ] at q0 q1; go_simp; try with_reducible rfl)
  try simp only [Act.put, s1, s2, s3]
  refine tkH0 9 (v := ?_) ?_ ?_
  rotate_left
  · (intro wv hSw; clear hSw; go_simp; try with_reducible rfl)
  try simp only [Act.put, s1, s2, s3]
  refine wpAnyH_ready (rs := [5]) (by kernel_rfl) (by simp) ?_
  refine AllReadyH.cons rfl (fun K hK => ?_) AllReadyH.nil
  go_simp
  go_wp2_with fail
  refine hK.out _ _ ⟨X1.out.keep hx, B1.drew⟩ (fun hHeld => ?_)
  clear hK K
  try simp only [Act.put, s1, s2, s3]
  refine tkH0 6 (v := ?_) ?_ ?_
  rotate_left
  · (intro wv hSw; clear hSw; go_simp; try with_reducible rfl)
  try simp only [Act.put, s1, s2, s3]
  refine tkH0 10 (v := ?_) ?_ ?_
  rotate_left
  · (intro wv hSw; clear hSw; go_simp; try with_reducible rfl)
  try simp only [Act.put, s1, s2, s3]
  refine tkH0 11 (v := ?_) ?_ ?_
  rotate_left
  · (intro wv hSw; clear hSw; go_simp; try with_reducible rfl)
  try simp only [Act.put, s1, s2, s3]
  refine wpAnyH_ready (rs := [12]) (by kernel_rfl) (by simp) ?_
  refine AllReadyH.cons rfl (fun K hK => ?_) AllReadyH.nil
  go_simp
  have hon : Only g (g + 1) w1 (w1.setCell ⟨g, t, none⟩ (.int .i64 (v : Int))) := (Only.refl _ _ w1).set ⟨Nat.le_refl _, Nat.lt_succ_self _⟩ t _
  obtain ⟨w2, hw2⟩ : ∃ z, z = (w1.setCell ⟨g, t, none⟩ (.int .i64 (v : Int))).drew := ⟨_, rfl⟩
  have ho2 : Only g (g + 1) w1 w2 := by rw [hw2]; exact hon.drew
  have O2 := Lib.hid (show OwnI 2 w2 wA.heap.size (some ⟨g, 0, none⟩) n c1 (l.set t (v : Int)) by rw [hw2]; exact (O1.out.set t hvi).keep (Below.drew (Below.refl _ _)))
  have X2 := Lib.hid (X1.out.apart ho2 (by omega))
  have R2 := Lib.hid (R1.out.apart ho2 (by omega))
  have B2 := ho2.below B1 (by omega) (by have := B1.size; omega)
  rw [← hw2]
  refine hK.out _ _ ⟨X2.out, B2⟩ (fun hHeld => ?_)
  clear hK K hw2 hon ho2 hcy hgl hfz hx X1 R1 B1 O1
  try simp only [Act.put, s1, s2, s3]
  refine wpAnyH_done (by kernel_rfl) ?_ _
  refine NoPanic.normal ?_
  clear hHeld
  have x0 := X2.out.cell 0
  have xl := X2.out.lt
  have r0 := R2.out.cell 0
  have r1 := R2.out.cell 1
  have rl := R2.out.lt
  have rf := R2.out.free
  simp only [List.getElem?_toArray, List.getElem?_cons_zero, List.getElem?_cons_succ] at x0 r0 r1
  have hon : Only (w.heap.size + 1) (w.heap.size + 2) w2 ((w2.setCell ⟨w.heap.size + 1, 0, none⟩ (.int .i64 (B : Int))).setCell ⟨w.heap.size + 1, 1, none⟩ (.slice (some ⟨g, 0, none⟩) n c1)) := ((Only.refl _ _ w2).set ⟨Nat.le_refl _, by omega⟩ 0 _).set ⟨Nat.le_refl _, by omega⟩ 1 _
  have R3 := Lib.hid ((R2.out.set 0 (.int .i64 (B : Int))).set 1 (.slice (some ⟨g, 0, none⟩) n c1))
  have B3 := hon.below B2 (by omega) (by have := B2.size; omega)
  have O3 := Lib.hid (O2.out.only hon (fun g' e => by cases e; omega))
  clear hon B2
  go_wp2_with fail
  exact bodyPost_ret (v := .agg #[.int .i64 (B : Int), .slice (some ⟨g, 0, none⟩) n c1]) (results_cell_row Tryz.results69 _ _ (w.heap.size + 1) 26 #[.int .i64 (B : Int), .slice (some ⟨g, 0, none⟩) n c1] _ _ rfl (show Blk _ _ #[.int .i64 (B : Int), .slice (some ⟨g, 0, none⟩) n c1] 26 from R3.out) Tryz.underlying26 rfl (by kernel_rfl)) rfl ⟨_, c1, _, rfl, O3.out.le (by omega), HT.out, B3⟩
end Go.Proofs.YtipkncjjkkijfaaGreatDoor
