/- The ride model of the reference: rules of faults, walked. -/
import Derived.Test.YtfnamjkmkoldeaaGreatDoorRo
namespace Go.Proofs.YtfnamjkmkoldeaaGreatDoor
open Go.RowKit
set_option linter.unusedVariables false
set_option linter.unusedSimpArgs false
theorem ru_fin2 {w4 : World} {lo p n3 c3 m ce : Nat} {a3 ae : Option Addr} {g : List I2b} {e : List I2} {N : ByteArray} {v0 v1 v2 : Value} (hG : OwnT w4 (p + 1) a3 n3 c3 g) (hn : n3 ≤ 1048576) (hN : N.size ≤ maxLen) (hE : OwnA w4 (p + 1) ae m ce e) (h9 : m ≤ 1048576) (hlo : lo ≤ p) :
    RO (((w4.setCell ⟨p, 0, none⟩ v0).setCell ⟨p, 1, none⟩ v1).setCell ⟨p, 2, none⟩ v2) lo (⟨N, a3, n3, c3, ae, m, ce⟩, ⟨N, g, e⟩) := by
  have d1 : a3 = some ⟨p, 0, none⟩ → False := fun q => by have := (hG.blk _ q).1; omega
  have d2 : ae = some ⟨p, 0, none⟩ → False := fun q => by have := (hE.blk _ q).1; omega
  exact ⟨rfl, hN, (((hG.set1 (i := 0) (v := v0) d1).set1 (i := 1) (v := v1) d1).set1 (i := 2) (v := v2) d1).le (by omega), hn, (((hE.set1 (i := 0) (v := v0) d2).set1 (i := 1) (v := v1) d2).set1 (i := 2) (v := v2) d2).le (by omega), h9⟩
set_option maxRecDepth 100000 in
set_option maxHeartbeats 4000000 in
theorem spec_l24Fault {B n c i b k : Nat} {K : Int} {a : Option Addr} {w : World} (hK : K = (k : Int)) (hk : 4 ≤ k) (hk6 : k ≤ 6) (hB : 2 ≤ B) (hB8 : B ≤ 8) (hn : n ≤ 4) (hi : i < B) (hb : b ≤ 2) :
    Calls Tryz.prog 116 #[.agg #[.int .i64 (B : Int), .slice a n c], .int .i64 K, .int .i64 (i : Int), .int .i64 (b : Int)] w (RuRd w (ruleOf n B k i b)) := by
  subst hK
  have hnm := fun (wx : World) => spec_l24Name (k := k) (i := i) (b := b) (w := wx) rfl (by omega) (by omega) (by omega)
  have hns := rnm_size k i b
  have hnl : (ruleNm.getD k []).length ≤ 20 := by
    have : k = 4 ∨ k = 5 ∨ k = 6 := by omega
    rcases this with rfl | rfl | rfl <;> decide
  have HNM := Lib.hid hnm
  have HNS := Lib.hid (show (rnm k i b).size ≤ maxLen by unfold maxLen; omega)
  have e1 : IntKind.i64.wrap ((n : Int) + (i : Int)) = (n : Int) + i := IntWalk.i64_in _ (by omega)
  have e2 : IntKind.i64.wrap ((n : Int) + (B : Int)) = (n : Int) + B := IntWalk.i64_in _ (by omega)
  have e3 : IntKind.i64.wrap ((b : Int) - 1) = (b : Int) - 1 := IntWalk.i64_in _ (by omega)
  clear hnm hns hnl
  have : k = 4 ∨ k = 5 ∨ k = 6 := by omega
  rcases this with rfl | rfl | rfl
  · have HRu := Lib.hid (show ruleOf n B 4 i b = ⟨rnm 4 i b, faG n B i b 0, faE n B i b 1⟩ by simp [ruleOf])
    clear hk hk6
    generalize rnm 4 i b = N at *
    go_enter Tryz.func116, Tryz.ntmps116
    go_wp2_with fail
    obtain ⟨wQ, hwQ⟩ : ∃ wQ : World, wQ = ((w.alloc (.cells #[.int .i64 (B : Int), .slice a n c] 28)).alloc (.cells #[.string ⟨#[]⟩, .slice none 0 0, .slice none 0 0] 98)).alloc (.cells #[.int .i64 ((n : Int) + (i : Int)), .int .i64 0, .bool true, .int .i64 ((n : Int) + (B : Int)), .int .i64 (b : Int), .bool true] 142) := ⟨_, rfl⟩
    have XQ := Lib.hid (show Blk wQ w.heap.size #[.int .i64 (B : Int), .slice a n c] 28 by rw [hwQ]; exact (Blk.made w _ _).keep (by repeat (first | exact Below.refl _ _ | assumption | refine below_allocS ?_ _ | refine below_callS ?_ (by assumption) | (refine Below.alloc ?_ (by first | omega | (simp; done) | (simp; omega)) _) | (refine Below.setCell ?_ (by first | omega | (simp; done) | (simp; omega)) _) | refine Below.drew ?_ | refine below_drewN ?_ _ | (refine below_call ?_ (by assumption) (by first | omega | (simp; done) | (simp; omega))) | (refine Below.trans ?_ (by assumption)))))
    have hRQ := (Blk.made (w.alloc (.cells #[.int .i64 (B : Int), .slice a n c] 28)) #[.string ⟨#[]⟩, .slice none 0 0, .slice none 0 0] 98).keep (show Below _ ((w.alloc (.cells #[.int .i64 (B : Int), .slice a n c] 28)).alloc (.cells #[.string ⟨#[]⟩, .slice none 0 0, .slice none 0 0] 98)) (((w.alloc (.cells #[.int .i64 (B : Int), .slice a n c] 28)).alloc (.cells #[.string ⟨#[]⟩, .slice none 0 0, .slice none 0 0] 98)).alloc (.cells #[.int .i64 ((n : Int) + (i : Int)), .int .i64 0, .bool true, .int .i64 ((n : Int) + (B : Int)), .int .i64 (b : Int), .bool true] 142)) by repeat (first | exact Below.refl _ _ | assumption | refine below_allocS ?_ _ | refine below_callS ?_ (by assumption) | (refine Below.alloc ?_ (by first | omega | (simp; done) | (simp; omega)) _) | (refine Below.setCell ?_ (by first | omega | (simp; done) | (simp; omega)) _) | refine Below.drew ?_ | refine below_drewN ?_ _ | (refine below_call ?_ (by assumption) (by first | omega | (simp; done) | (simp; omega))) | (refine Below.trans ?_ (by assumption))))
    rw [← hwQ] at hRQ
    have RQ := Lib.hid (show Blk wQ (w.heap.size + 1) #[.string ⟨#[]⟩, .slice none 0 0, .slice none 0 0] 98 by simpa using hRQ)
    have GQ := Lib.hid (show OwnT wQ (w.heap.size + 1 + 1) (some ⟨w.heap.size + 1 + 1, 0, none⟩) 2 2 (faG n B i b 0) by rw [hwQ]; exact OwnF.litB (g := w.heap.size + 1 + 1) (m := 2) (faG n B i b 0) (Below.refl _ _) (by simp) (by simp) rfl (by decide) (fun _ => rfl) (by intro y hy; simp [faG] at hy; rcases hy with rfl | rfl <;> (refine ⟨?_, ?_⟩ <;> (unfold I64; simp only; omega))) (by simp [faG, I2b.enc]))
    have HQ : Below w.heap.size w wQ := by rw [hwQ]; repeat (first | exact Below.refl _ _ | assumption | refine below_allocS ?_ _ | refine below_callS ?_ (by assumption) | (refine Below.alloc ?_ (by first | omega | (simp; done) | (simp; omega)) _) | (refine Below.setCell ?_ (by first | omega | (simp; done) | (simp; omega)) _) | refine Below.drew ?_ | refine below_drewN ?_ _ | (refine below_call ?_ (by assumption) (by first | omega | (simp; done) | (simp; omega))) | (refine Below.trans ?_ (by assumption)))
    have hsQ : w.heap.size + 2 ≤ wQ.heap.size := by rw [hwQ]; simp
    rw [← hwQ]
    clear hwQ hRQ
    have x0 := XQ.out.cell 0
    have xl := XQ.out.lt
    simp at x0
    refine wp_region_noPanic ?_
    refine wp_region_held_drew (S := fun wx => wx.cell? ⟨w.heap.size, 0, none⟩ = some (.int .i64 (B : Int)) ∧ w.heap.size < wx.heap.size) (by kernel_rfl) ⟨x0, xl⟩ (fun hHeld => ?_)
    refine wpAnyH_take (i := 0) (v := ?_) (by simp only [List.getElem?_toArray, List.getElem?_cons_succ, List.getElem?_cons_zero] <;> rfl) (by kernel_rfl) (by kernel_rfl) (by kernel_rfl) (fun _ _ _ h => h) (Or.inl ⟨by rfl, ?_⟩) (by assumption) ?_
    rotate_left
    · (intro wq hSw; (try dsimp only at hSw); go_simp; try with_reducible rfl)
    try simp only [Act.put, List.setIfInBounds_toArray, List.set_cons_zero, List.set_cons_succ]
    refine wpAnyH_take (i := 1) (v := ?_) (by simp only [List.getElem?_toArray, List.getElem?_cons_succ, List.getElem?_cons_zero] <;> rfl) (by kernel_rfl) (by kernel_rfl) (by kernel_rfl) (fun _ _ _ h => h) (Or.inl ⟨by rfl, ?_⟩) (by assumption) ?_
    rotate_left
    · (intro wq hSw; (try dsimp only at hSw); go_simp; try with_reducible rfl)
    try simp only [Act.put, List.setIfInBounds_toArray, List.set_cons_zero, List.set_cons_succ]
    refine wpAnyH_take (i := 2) (v := ?_) (by simp only [List.getElem?_toArray, List.getElem?_cons_succ, List.getElem?_cons_zero] <;> rfl) (by kernel_rfl) (by kernel_rfl) (by kernel_rfl) (fun _ _ _ h => h) (Or.inl ⟨by rfl, ?_⟩) (by assumption) ?_
    rotate_left
    · (intro wq hSw; (try dsimp only at hSw); go_simp; try with_reducible rfl)
    try simp only [Act.put, List.setIfInBounds_toArray, List.set_cons_zero, List.set_cons_succ]
    refine wpAnyH_take (i := 4) (v := ?_) (by simp only [List.getElem?_toArray, List.getElem?_cons_succ, List.getElem?_cons_zero] <;> rfl) (by kernel_rfl) (by kernel_rfl) (by kernel_rfl) (fun _ _ _ h => h) (Or.inl ⟨by rfl, ?_⟩) (by assumption) ?_
    rotate_left
    · (intro wq hSw; (try dsimp only at hSw); go_simp; try with_reducible rfl)
    try simp only [Act.put, List.setIfInBounds_toArray, List.set_cons_zero, List.set_cons_succ]
    refine wpAnyH_take (i := 5) (v := ?_) (by simp only [List.getElem?_toArray, List.getElem?_cons_succ, List.getElem?_cons_zero] <;> rfl) (by kernel_rfl) (by kernel_rfl) (by kernel_rfl) (fun _ _ _ h => h) (Or.inl ⟨by rfl, ?_⟩) (by assumption) ?_
    rotate_left
    · (intro wq hSw; (try dsimp only at hSw); go_simp; try with_reducible rfl)
    try simp only [Act.put, List.setIfInBounds_toArray, List.set_cons_zero, List.set_cons_succ]
    refine wpAnyH_take (i := 6) (v := ?_) (by simp only [List.getElem?_toArray, List.getElem?_cons_succ, List.getElem?_cons_zero] <;> rfl) (by kernel_rfl) (by kernel_rfl) (by kernel_rfl) (fun _ _ _ h => h) (Or.inl ⟨by rfl, ?_⟩) (by assumption) ?_
    rotate_left
    · (intro wq hSw; (try dsimp only at hSw); go_simp; try with_reducible rfl)
    try simp only [Act.put, List.setIfInBounds_toArray, List.set_cons_zero, List.set_cons_succ]
    refine wpAnyH_take (i := 7) (v := ?_) (by simp only [List.getElem?_toArray, List.getElem?_cons_succ, List.getElem?_cons_zero] <;> rfl) (by kernel_rfl) (by kernel_rfl) (by kernel_rfl) (fun _ _ _ h => h) (Or.inl ⟨by rfl, ?_⟩) (by assumption) ?_
    rotate_left
    · (intro wq hSw; (try dsimp only at hSw); go_simp; try with_reducible rfl)
    try simp only [Act.put, List.setIfInBounds_toArray, List.set_cons_zero, List.set_cons_succ]
    refine wpAnyH_take (i := 8) (v := ?_) (by simp only [List.getElem?_toArray, List.getElem?_cons_succ, List.getElem?_cons_zero] <;> rfl) (by kernel_rfl) (by kernel_rfl) (by kernel_rfl) (fun _ _ _ h => h) (Or.inl ⟨by rfl, ?_⟩) (by assumption) ?_
    rotate_left
    · (intro wq hSw; (try dsimp only at hSw); go_simp; try with_reducible rfl)
    try simp only [Act.put, List.setIfInBounds_toArray, List.set_cons_zero, List.set_cons_succ]
    refine wpAnyH_take (i := 9) (v := ?_) (by simp only [List.getElem?_toArray, List.getElem?_cons_succ, List.getElem?_cons_zero] <;> rfl) (by kernel_rfl) (by kernel_rfl) (by kernel_rfl) (fun _ _ _ h => h) (Or.inl ⟨by rfl, ?_⟩) (by assumption) ?_
    rotate_left
    · (intro wq hSw; (try dsimp only at hSw); go_simp; try with_reducible rfl)
    try simp only [Act.put, List.setIfInBounds_toArray, List.set_cons_zero, List.set_cons_succ]
    refine wpAnyH_take (i := 10) (v := ?_) (by simp only [List.getElem?_toArray, List.getElem?_cons_succ, List.getElem?_cons_zero] <;> rfl) (by kernel_rfl) (by kernel_rfl) (by kernel_rfl) (fun _ _ _ h => h) (Or.inl ⟨by rfl, ?_⟩) (by assumption) ?_
    rotate_left
    · (intro wq hSw; (try dsimp only at hSw); go_simp; try with_reducible rfl)
    try simp only [Act.put, List.setIfInBounds_toArray, List.set_cons_zero, List.set_cons_succ]
    refine wpAnyH_take (i := 11) (v := ?_) (by simp only [List.getElem?_toArray, List.getElem?_cons_succ, List.getElem?_cons_zero] <;> rfl) (by kernel_rfl) (by kernel_rfl) (by kernel_rfl) (fun _ _ _ h => h) (Or.inl ⟨by rfl, ?_⟩) (by assumption) ?_
    rotate_left
    · (intro wq hSw; (try dsimp only at hSw); go_simp; try with_reducible rfl)
    try simp only [Act.put, List.setIfInBounds_toArray, List.set_cons_zero, List.set_cons_succ]
    refine wpAnyH_take (i := 12) (v := ?_) (by simp only [List.getElem?_toArray, List.getElem?_cons_succ, List.getElem?_cons_zero] <;> rfl) (by kernel_rfl) (by kernel_rfl) (by kernel_rfl) (fun _ _ _ h => h) (Or.inl ⟨by rfl, ?_⟩) (by assumption) ?_
    rotate_left
    · (intro wq hSw; (try dsimp only at hSw); go_simp; try with_reducible rfl)
    try simp only [Act.put, List.setIfInBounds_toArray, List.set_cons_zero, List.set_cons_succ]
    refine wpAnyH_take (i := 13) (v := ?_) (by simp only [List.getElem?_toArray, List.getElem?_cons_succ, List.getElem?_cons_zero] <;> rfl) (by kernel_rfl) (by kernel_rfl) (by kernel_rfl) (fun _ _ _ h => h) (Or.inl ⟨by rfl, ?_⟩) (by assumption) ?_
    rotate_left
    · (intro wq hSw; (try dsimp only at hSw); go_simp; try with_reducible rfl)
    try simp only [Act.put, List.setIfInBounds_toArray, List.set_cons_zero, List.set_cons_succ]
    refine wpAnyH_take (i := 14) (v := ?_) (by simp only [List.getElem?_toArray, List.getElem?_cons_succ, List.getElem?_cons_zero] <;> rfl) (by kernel_rfl) (by kernel_rfl) (by kernel_rfl) (fun _ _ _ h => h) (Or.inl ⟨by rfl, ?_⟩) (by assumption) ?_
    rotate_left
    · (intro wq hSw; (try dsimp only at hSw); go_simp; try with_reducible rfl)
    try simp only [Act.put, List.setIfInBounds_toArray, List.set_cons_zero, List.set_cons_succ]
    refine wpAnyH_take (i := 15) (v := ?_) (by simp only [List.getElem?_toArray, List.getElem?_cons_succ, List.getElem?_cons_zero] <;> rfl) (by kernel_rfl) (by kernel_rfl) (by kernel_rfl) (fun _ _ _ h => h) (Or.inl ⟨by rfl, ?_⟩) (by assumption) ?_
    rotate_left
    · (intro wq hSw; (try dsimp only at hSw); go_simp; try with_reducible rfl)
    try simp only [Act.put, List.setIfInBounds_toArray, List.set_cons_zero, List.set_cons_succ]
    refine wpAnyH_take (i := 16) (v := ?_) (by simp only [List.getElem?_toArray, List.getElem?_cons_succ, List.getElem?_cons_zero] <;> rfl) (by kernel_rfl) (by kernel_rfl) (by kernel_rfl) (fun _ _ _ h => h) (Or.inl ⟨by rfl, ?_⟩) (by assumption) ?_
    rotate_left
    · (intro wq hSw; (try dsimp only at hSw); go_simp; try with_reducible rfl)
    try simp only [Act.put, List.setIfInBounds_toArray, List.set_cons_zero, List.set_cons_succ]
    (try simp only [e1, e2, e3])
    refine wpAnyH_ready (rs := [3, 17]) (by kernel_rfl) (by simp) ?_
    refine (AllReadyH.cons rfl (fun K hK => ?_) (AllReadyH.cons rfl (fun K hK => ?_) AllReadyH.nil))
    · go_simp
      refine Calls.mono (HNM.out _) ?_
      rintro e w4 ⟨rfl, hb4'⟩
      have hb4 : Below wQ.heap.size wQ w4 := (Below.drew (Below.refl _ _)).trans hb4'
      obtain ⟨hc4, hf4⟩ := bcell hb4
      have hs4 := hb4.size
      go_wp2_with fail
      refine hK.out _ _ ⟨(hc4 _ _ xl).trans x0, by omega⟩ (fun hHeld => ?_)
      have hH4 := hHeld
      clear hK K
      try simp only [Act.put, List.setIfInBounds_toArray, List.set_cons_zero, List.set_cons_succ]
      refine wpAnyH_ready (rs := [17]) (by kernel_rfl) (by simp) ?_
      refine AllReadyH.cons rfl (fun K hK => ?_) AllReadyH.nil
      go_simp
      refine hK.out _ _ ⟨cell_alloc hHeld.1, lt_alloc hHeld.2⟩ (fun hHeld => ?_)
      clear hK K
      try simp only [Act.put, List.setIfInBounds_toArray, List.set_cons_zero, List.set_cons_succ]
      refine wpAnyH_take (i := 18) (v := ?_) (by simp only [List.getElem?_toArray, List.getElem?_cons_succ, List.getElem?_cons_zero] <;> rfl) (by kernel_rfl) (by kernel_rfl) (by kernel_rfl) (fun _ _ _ h => h) (Or.inl ⟨by rfl, ?_⟩) (by assumption) ?_
      rotate_left
      · (intro wq hSw; (try dsimp only at hSw); go_simp; try with_reducible rfl)
      try simp only [Act.put, List.setIfInBounds_toArray, List.set_cons_zero, List.set_cons_succ]
      have hR4 := RQ.out.keep hb4
      have r0 := hR4.cell 0
      have r1 := hR4.cell 1
      have r2 := hR4.cell 2
      have rl := hR4.lt
      have rf := hR4.free
      simp at r0 r1 r2
      clear hR4
      have r9 : wQ.heap.size = wQ.heap.size := rfl
      refine wpAnyH_ready (rs := [19]) (by kernel_rfl) (by simp) ?_
      refine AllReadyH.cons rfl (fun K hK => ?_) AllReadyH.nil
      go_simp
      refine hK.out _ _ ?_ (fun hHeld => ?_)
      · refine ⟨cell_alloc ?_, by simp; omega⟩
        repeat refine cell_set ?_ (by first | omega | (simp; omega))
        exact hH4.1
      clear hK K
      try simp only [Act.put, List.setIfInBounds_toArray, List.set_cons_zero, List.set_cons_succ]
      refine wpAnyH_done (by kernel_rfl) ?_ _
      refine NoPanic.normal ?_
      have HF := Lib.hid (ru_fin (m := 2) (n3 := 2) (g := faG n B i b 0) (e := faE n B i b 1) (cs := #[.int .i64 ((n : Int) + (i : Int)), .int .i64 1, .int .i64 ((n : Int) + (B : Int)), .int .i64 ((b : Int) - 1)]) (v0 := .string N) (v1 := .slice (some ⟨w.heap.size + 1 + 1, 0, none⟩) 2 2) (v2 := .slice (some ⟨w4.heap.size, 0, none⟩) 2 2) (p := w.heap.size + 1) (GQ.out.keep hb4) (by decide) HNS.out (by omega) (by simp [faE, I2.enc]) (by intro y hy; simp [faE] at hy; rcases hy with rfl | rfl <;> (refine ⟨?_, ?_⟩ <;> (unfold I64; simp only; omega))) rfl (by decide) (Nat.le_succ w.heap.size))
      have H4 : Below w.heap.size w w4 := below_callS HQ hb4
      clear hb4 hb4' hH4 hHeld
      go_wp2
      exact bodyPost_ret (v := .agg #[.string N, .slice (some ⟨w.heap.size + 1 + 1, 0, none⟩) 2 2, .slice (some ⟨w4.heap.size, 0, none⟩) 2 2]) (by simp [results, Tryz.results116, go_sem, *]) rfl ⟨⟨N, some ⟨w.heap.size + 1 + 1, 0, none⟩, 2, 2, some ⟨w4.heap.size, 0, none⟩, 2, 2⟩, rfl, by rw [HRu.out]; exact HF.out, by repeat (first | exact Below.refl _ _ | assumption | refine below_allocS ?_ _ | refine below_callS ?_ (by assumption) | (refine Below.alloc ?_ (by first | omega | (simp; done) | (simp; omega)) _) | (refine Below.setCell ?_ (by first | omega | (simp; done) | (simp; omega)) _) | refine Below.drew ?_ | refine below_drewN ?_ _ | (refine below_call ?_ (by assumption) (by first | omega | (simp; done) | (simp; omega))) | (refine Below.trans ?_ (by assumption)))⟩
    · go_simp
      refine hK.out _ _ ⟨cell_alloc x0, lt_alloc xl⟩ (fun hHeld => ?_)
      clear hK K
      try simp only [Act.put, List.setIfInBounds_toArray, List.set_cons_zero, List.set_cons_succ]
      obtain ⟨wE, hwE⟩ : ∃ wE : World, wE = wQ.alloc (.cells #[.int .i64 ((n : Int) + (i : Int)), .int .i64 1, .int .i64 ((n : Int) + (B : Int)), .int .i64 ((b : Int) - 1)] 123) := ⟨_, rfl⟩
      have hEQ : OwnA wE (w.heap.size + 1 + 1) (some ⟨wQ.heap.size, 0, none⟩) 2 2 (faE n B i b 1) := by rw [hwE]; exact OwnF.lit wQ (faE n B i b 1) (by omega) rfl (by decide) (fun _ => rfl) (by intro y hy; simp [faE] at hy; rcases hy with rfl | rfl <;> (refine ⟨?_, ?_⟩ <;> (unfold I64; simp only; omega))) (by simp [faE, I2.enc])
      have hQE : Below wQ.heap.size wQ wE := by rw [hwE]; repeat (first | exact Below.refl _ _ | assumption | refine below_allocS ?_ _ | refine below_callS ?_ (by assumption) | (refine Below.alloc ?_ (by first | omega | (simp; done) | (simp; omega)) _) | (refine Below.setCell ?_ (by first | omega | (simp; done) | (simp; omega)) _) | refine Below.drew ?_ | refine below_drewN ?_ _ | (refine below_call ?_ (by assumption) (by first | omega | (simp; done) | (simp; omega))) | (refine Below.trans ?_ (by assumption)))
      have EQ := Lib.hid hEQ
      replace XQ := Lib.hid (XQ.out.keep hQE)
      replace RQ := Lib.hid (RQ.out.keep hQE)
      replace GQ := Lib.hid (GQ.out.keep hQE)
      replace HQ := below_callS HQ hQE
      have hsE := hQE.size
      rw [← hwE] at hHeld ⊢
      clear hwE hEQ hQE
      refine wpAnyH_ready (rs := [3]) (by kernel_rfl) (by simp) ?_
      refine AllReadyH.cons rfl (fun K hK => ?_) AllReadyH.nil
      go_simp
      refine Calls.mono (HNM.out _) ?_
      rintro e w4 ⟨rfl, hb4'⟩
      have hb4 : Below wE.heap.size wE w4 := (Below.drew (Below.refl _ _)).trans hb4'
      obtain ⟨hc4, hf4⟩ := bcell hb4
      have hs4 := hb4.size
      have hH3 : wE.cell? ⟨w.heap.size, 0, none⟩ = some (.int .i64 (B : Int)) := hHeld.1
      go_wp2_with fail
      refine hK.out _ _ ⟨(hc4 _ _ (by omega)).trans hH3, by omega⟩ (fun hHeld => ?_)
      have hH4 := hHeld
      clear hK K
      try simp only [Act.put, List.setIfInBounds_toArray, List.set_cons_zero, List.set_cons_succ]
      refine wpAnyH_take (i := 18) (v := ?_) (by simp only [List.getElem?_toArray, List.getElem?_cons_succ, List.getElem?_cons_zero] <;> rfl) (by kernel_rfl) (by kernel_rfl) (by kernel_rfl) (fun _ _ _ h => h) (Or.inl ⟨by rfl, ?_⟩) (by assumption) ?_
      rotate_left
      · (intro wq hSw; (try dsimp only at hSw); go_simp; try with_reducible rfl)
      try simp only [Act.put, List.setIfInBounds_toArray, List.set_cons_zero, List.set_cons_succ]
      have hR4 := RQ.out.keep hb4
      have r0 := hR4.cell 0
      have r1 := hR4.cell 1
      have r2 := hR4.cell 2
      have rl := hR4.lt
      have rf := hR4.free
      simp at r0 r1 r2
      clear hR4
      refine wpAnyH_ready (rs := [19]) (by kernel_rfl) (by simp) ?_
      refine AllReadyH.cons rfl (fun K hK => ?_) AllReadyH.nil
      go_simp
      refine hK.out _ _ ?_ (fun hHeld => ?_)
      · refine ⟨?_, by simp; omega⟩
        repeat refine cell_set ?_ (by first | omega | (simp; omega))
        exact hH4.1
      clear hK K
      try simp only [Act.put, List.setIfInBounds_toArray, List.set_cons_zero, List.set_cons_succ]
      refine wpAnyH_done (by kernel_rfl) ?_ _
      refine NoPanic.normal ?_
      have HF := Lib.hid (ru_fin2 (v0 := .string N) (v1 := .slice (some ⟨w.heap.size + 1 + 1, 0, none⟩) 2 2) (v2 := .slice (some ⟨wQ.heap.size, 0, none⟩) 2 2) (p := w.heap.size + 1) (GQ.out.keep hb4) (by decide) HNS.out (EQ.out.keep hb4) (by decide) (Nat.le_succ w.heap.size))
      have H4 : Below w.heap.size w w4 := below_callS HQ hb4
      clear hb4 hb4' hH4 hHeld hH3
      go_wp2
      exact bodyPost_ret (v := .agg #[.string N, .slice (some ⟨w.heap.size + 1 + 1, 0, none⟩) 2 2, .slice (some ⟨wQ.heap.size, 0, none⟩) 2 2]) (by simp [results, Tryz.results116, go_sem, *]) rfl ⟨⟨N, some ⟨w.heap.size + 1 + 1, 0, none⟩, 2, 2, some ⟨wQ.heap.size, 0, none⟩, 2, 2⟩, rfl, by rw [HRu.out]; exact HF.out, by repeat (first | exact Below.refl _ _ | assumption | refine below_allocS ?_ _ | refine below_callS ?_ (by assumption) | (refine Below.alloc ?_ (by first | omega | (simp; done) | (simp; omega)) _) | (refine Below.setCell ?_ (by first | omega | (simp; done) | (simp; omega)) _) | refine Below.drew ?_ | refine below_drewN ?_ _ | (refine below_call ?_ (by assumption) (by first | omega | (simp; done) | (simp; omega))) | (refine Below.trans ?_ (by assumption)))⟩
  · have HRu := Lib.hid (show ruleOf n B 5 i b = ⟨rnm 5 i b, faG n B i b 0, faE n B i b 2⟩ by simp [ruleOf])
    clear hk hk6
    generalize rnm 5 i b = N at *
    go_enter Tryz.func116, Tryz.ntmps116
    go_wp2_with fail
    obtain ⟨wQ, hwQ⟩ : ∃ wQ : World, wQ = ((w.alloc (.cells #[.int .i64 (B : Int), .slice a n c] 28)).alloc (.cells #[.string ⟨#[]⟩, .slice none 0 0, .slice none 0 0] 98)).alloc (.cells #[.int .i64 ((n : Int) + (i : Int)), .int .i64 0, .bool true, .int .i64 ((n : Int) + (B : Int)), .int .i64 (b : Int), .bool true] 142) := ⟨_, rfl⟩
    have XQ := Lib.hid (show Blk wQ w.heap.size #[.int .i64 (B : Int), .slice a n c] 28 by rw [hwQ]; exact (Blk.made w _ _).keep (by repeat (first | exact Below.refl _ _ | assumption | refine below_allocS ?_ _ | refine below_callS ?_ (by assumption) | (refine Below.alloc ?_ (by first | omega | (simp; done) | (simp; omega)) _) | (refine Below.setCell ?_ (by first | omega | (simp; done) | (simp; omega)) _) | refine Below.drew ?_ | refine below_drewN ?_ _ | (refine below_call ?_ (by assumption) (by first | omega | (simp; done) | (simp; omega))) | (refine Below.trans ?_ (by assumption)))))
    have hRQ := (Blk.made (w.alloc (.cells #[.int .i64 (B : Int), .slice a n c] 28)) #[.string ⟨#[]⟩, .slice none 0 0, .slice none 0 0] 98).keep (show Below _ ((w.alloc (.cells #[.int .i64 (B : Int), .slice a n c] 28)).alloc (.cells #[.string ⟨#[]⟩, .slice none 0 0, .slice none 0 0] 98)) (((w.alloc (.cells #[.int .i64 (B : Int), .slice a n c] 28)).alloc (.cells #[.string ⟨#[]⟩, .slice none 0 0, .slice none 0 0] 98)).alloc (.cells #[.int .i64 ((n : Int) + (i : Int)), .int .i64 0, .bool true, .int .i64 ((n : Int) + (B : Int)), .int .i64 (b : Int), .bool true] 142)) by repeat (first | exact Below.refl _ _ | assumption | refine below_allocS ?_ _ | refine below_callS ?_ (by assumption) | (refine Below.alloc ?_ (by first | omega | (simp; done) | (simp; omega)) _) | (refine Below.setCell ?_ (by first | omega | (simp; done) | (simp; omega)) _) | refine Below.drew ?_ | refine below_drewN ?_ _ | (refine below_call ?_ (by assumption) (by first | omega | (simp; done) | (simp; omega))) | (refine Below.trans ?_ (by assumption))))
    rw [← hwQ] at hRQ
    have RQ := Lib.hid (show Blk wQ (w.heap.size + 1) #[.string ⟨#[]⟩, .slice none 0 0, .slice none 0 0] 98 by simpa using hRQ)
    have GQ := Lib.hid (show OwnT wQ (w.heap.size + 1 + 1) (some ⟨w.heap.size + 1 + 1, 0, none⟩) 2 2 (faG n B i b 0) by rw [hwQ]; exact OwnF.litB (g := w.heap.size + 1 + 1) (m := 2) (faG n B i b 0) (Below.refl _ _) (by simp) (by simp) rfl (by decide) (fun _ => rfl) (by intro y hy; simp [faG] at hy; rcases hy with rfl | rfl <;> (refine ⟨?_, ?_⟩ <;> (unfold I64; simp only; omega))) (by simp [faG, I2b.enc]))
    have HQ : Below w.heap.size w wQ := by rw [hwQ]; repeat (first | exact Below.refl _ _ | assumption | refine below_allocS ?_ _ | refine below_callS ?_ (by assumption) | (refine Below.alloc ?_ (by first | omega | (simp; done) | (simp; omega)) _) | (refine Below.setCell ?_ (by first | omega | (simp; done) | (simp; omega)) _) | refine Below.drew ?_ | refine below_drewN ?_ _ | (refine below_call ?_ (by assumption) (by first | omega | (simp; done) | (simp; omega))) | (refine Below.trans ?_ (by assumption)))
    have hsQ : w.heap.size + 2 ≤ wQ.heap.size := by rw [hwQ]; simp
    rw [← hwQ]
    clear hwQ hRQ
    have x0 := XQ.out.cell 0
    have xl := XQ.out.lt
    simp at x0
    refine wp_region_noPanic ?_
    refine wp_region_held_drew (S := fun wx => wx.cell? ⟨w.heap.size, 0, none⟩ = some (.int .i64 (B : Int)) ∧ w.heap.size < wx.heap.size) (by kernel_rfl) ⟨x0, xl⟩ (fun hHeld => ?_)
    refine wpAnyH_take (i := 0) (v := ?_) (by simp only [List.getElem?_toArray, List.getElem?_cons_succ, List.getElem?_cons_zero] <;> rfl) (by kernel_rfl) (by kernel_rfl) (by kernel_rfl) (fun _ _ _ h => h) (Or.inl ⟨by rfl, ?_⟩) (by assumption) ?_
    rotate_left
    · (intro wq hSw; (try dsimp only at hSw); go_simp; try with_reducible rfl)
    try simp only [Act.put, List.setIfInBounds_toArray, List.set_cons_zero, List.set_cons_succ]
    refine wpAnyH_take (i := 1) (v := ?_) (by simp only [List.getElem?_toArray, List.getElem?_cons_succ, List.getElem?_cons_zero] <;> rfl) (by kernel_rfl) (by kernel_rfl) (by kernel_rfl) (fun _ _ _ h => h) (Or.inl ⟨by rfl, ?_⟩) (by assumption) ?_
    rotate_left
    · (intro wq hSw; (try dsimp only at hSw); go_simp; try with_reducible rfl)
    try simp only [Act.put, List.setIfInBounds_toArray, List.set_cons_zero, List.set_cons_succ]
    refine wpAnyH_take (i := 2) (v := ?_) (by simp only [List.getElem?_toArray, List.getElem?_cons_succ, List.getElem?_cons_zero] <;> rfl) (by kernel_rfl) (by kernel_rfl) (by kernel_rfl) (fun _ _ _ h => h) (Or.inl ⟨by rfl, ?_⟩) (by assumption) ?_
    rotate_left
    · (intro wq hSw; (try dsimp only at hSw); go_simp; try with_reducible rfl)
    try simp only [Act.put, List.setIfInBounds_toArray, List.set_cons_zero, List.set_cons_succ]
    refine wpAnyH_take (i := 4) (v := ?_) (by simp only [List.getElem?_toArray, List.getElem?_cons_succ, List.getElem?_cons_zero] <;> rfl) (by kernel_rfl) (by kernel_rfl) (by kernel_rfl) (fun _ _ _ h => h) (Or.inl ⟨by rfl, ?_⟩) (by assumption) ?_
    rotate_left
    · (intro wq hSw; (try dsimp only at hSw); go_simp; try with_reducible rfl)
    try simp only [Act.put, List.setIfInBounds_toArray, List.set_cons_zero, List.set_cons_succ]
    refine wpAnyH_take (i := 5) (v := ?_) (by simp only [List.getElem?_toArray, List.getElem?_cons_succ, List.getElem?_cons_zero] <;> rfl) (by kernel_rfl) (by kernel_rfl) (by kernel_rfl) (fun _ _ _ h => h) (Or.inl ⟨by rfl, ?_⟩) (by assumption) ?_
    rotate_left
    · (intro wq hSw; (try dsimp only at hSw); go_simp; try with_reducible rfl)
    try simp only [Act.put, List.setIfInBounds_toArray, List.set_cons_zero, List.set_cons_succ]
    refine wpAnyH_take (i := 6) (v := ?_) (by simp only [List.getElem?_toArray, List.getElem?_cons_succ, List.getElem?_cons_zero] <;> rfl) (by kernel_rfl) (by kernel_rfl) (by kernel_rfl) (fun _ _ _ h => h) (Or.inl ⟨by rfl, ?_⟩) (by assumption) ?_
    rotate_left
    · (intro wq hSw; (try dsimp only at hSw); go_simp; try with_reducible rfl)
    try simp only [Act.put, List.setIfInBounds_toArray, List.set_cons_zero, List.set_cons_succ]
    refine wpAnyH_take (i := 7) (v := ?_) (by simp only [List.getElem?_toArray, List.getElem?_cons_succ, List.getElem?_cons_zero] <;> rfl) (by kernel_rfl) (by kernel_rfl) (by kernel_rfl) (fun _ _ _ h => h) (Or.inl ⟨by rfl, ?_⟩) (by assumption) ?_
    rotate_left
    · (intro wq hSw; (try dsimp only at hSw); go_simp; try with_reducible rfl)
    try simp only [Act.put, List.setIfInBounds_toArray, List.set_cons_zero, List.set_cons_succ]
    refine wpAnyH_take (i := 8) (v := ?_) (by simp only [List.getElem?_toArray, List.getElem?_cons_succ, List.getElem?_cons_zero] <;> rfl) (by kernel_rfl) (by kernel_rfl) (by kernel_rfl) (fun _ _ _ h => h) (Or.inl ⟨by rfl, ?_⟩) (by assumption) ?_
    rotate_left
    · (intro wq hSw; (try dsimp only at hSw); go_simp; try with_reducible rfl)
    try simp only [Act.put, List.setIfInBounds_toArray, List.set_cons_zero, List.set_cons_succ]
    refine wpAnyH_take (i := 9) (v := ?_) (by simp only [List.getElem?_toArray, List.getElem?_cons_succ, List.getElem?_cons_zero] <;> rfl) (by kernel_rfl) (by kernel_rfl) (by kernel_rfl) (fun _ _ _ h => h) (Or.inl ⟨by rfl, ?_⟩) (by assumption) ?_
    rotate_left
    · (intro wq hSw; (try dsimp only at hSw); go_simp; try with_reducible rfl)
    try simp only [Act.put, List.setIfInBounds_toArray, List.set_cons_zero, List.set_cons_succ]
    refine wpAnyH_take (i := 10) (v := ?_) (by simp only [List.getElem?_toArray, List.getElem?_cons_succ, List.getElem?_cons_zero] <;> rfl) (by kernel_rfl) (by kernel_rfl) (by kernel_rfl) (fun _ _ _ h => h) (Or.inl ⟨by rfl, ?_⟩) (by assumption) ?_
    rotate_left
    · (intro wq hSw; (try dsimp only at hSw); go_simp; try with_reducible rfl)
    try simp only [Act.put, List.setIfInBounds_toArray, List.set_cons_zero, List.set_cons_succ]
    refine wpAnyH_take (i := 11) (v := ?_) (by simp only [List.getElem?_toArray, List.getElem?_cons_succ, List.getElem?_cons_zero] <;> rfl) (by kernel_rfl) (by kernel_rfl) (by kernel_rfl) (fun _ _ _ h => h) (Or.inl ⟨by rfl, ?_⟩) (by assumption) ?_
    rotate_left
    · (intro wq hSw; (try dsimp only at hSw); go_simp; try with_reducible rfl)
    try simp only [Act.put, List.setIfInBounds_toArray, List.set_cons_zero, List.set_cons_succ]
    refine wpAnyH_take (i := 12) (v := ?_) (by simp only [List.getElem?_toArray, List.getElem?_cons_succ, List.getElem?_cons_zero] <;> rfl) (by kernel_rfl) (by kernel_rfl) (by kernel_rfl) (fun _ _ _ h => h) (Or.inl ⟨by rfl, ?_⟩) (by assumption) ?_
    rotate_left
    · (intro wq hSw; (try dsimp only at hSw); go_simp; try with_reducible rfl)
    try simp only [Act.put, List.setIfInBounds_toArray, List.set_cons_zero, List.set_cons_succ]
    refine wpAnyH_take (i := 13) (v := ?_) (by simp only [List.getElem?_toArray, List.getElem?_cons_succ, List.getElem?_cons_zero] <;> rfl) (by kernel_rfl) (by kernel_rfl) (by kernel_rfl) (fun _ _ _ h => h) (Or.inl ⟨by rfl, ?_⟩) (by assumption) ?_
    rotate_left
    · (intro wq hSw; (try dsimp only at hSw); go_simp; try with_reducible rfl)
    try simp only [Act.put, List.setIfInBounds_toArray, List.set_cons_zero, List.set_cons_succ]
    refine wpAnyH_take (i := 14) (v := ?_) (by simp only [List.getElem?_toArray, List.getElem?_cons_succ, List.getElem?_cons_zero] <;> rfl) (by kernel_rfl) (by kernel_rfl) (by kernel_rfl) (fun _ _ _ h => h) (Or.inl ⟨by rfl, ?_⟩) (by assumption) ?_
    rotate_left
    · (intro wq hSw; (try dsimp only at hSw); go_simp; try with_reducible rfl)
    try simp only [Act.put, List.setIfInBounds_toArray, List.set_cons_zero, List.set_cons_succ]
    refine wpAnyH_take (i := 15) (v := ?_) (by simp only [List.getElem?_toArray, List.getElem?_cons_succ, List.getElem?_cons_zero] <;> rfl) (by kernel_rfl) (by kernel_rfl) (by kernel_rfl) (fun _ _ _ h => h) (Or.inl ⟨by rfl, ?_⟩) (by assumption) ?_
    rotate_left
    · (intro wq hSw; (try dsimp only at hSw); go_simp; try with_reducible rfl)
    try simp only [Act.put, List.setIfInBounds_toArray, List.set_cons_zero, List.set_cons_succ]
    refine wpAnyH_take (i := 16) (v := ?_) (by simp only [List.getElem?_toArray, List.getElem?_cons_succ, List.getElem?_cons_zero] <;> rfl) (by kernel_rfl) (by kernel_rfl) (by kernel_rfl) (fun _ _ _ h => h) (Or.inl ⟨by rfl, ?_⟩) (by assumption) ?_
    rotate_left
    · (intro wq hSw; (try dsimp only at hSw); go_simp; try with_reducible rfl)
    try simp only [Act.put, List.setIfInBounds_toArray, List.set_cons_zero, List.set_cons_succ]
    (try simp only [e1, e2, e3])
    refine wpAnyH_ready (rs := [3, 17]) (by kernel_rfl) (by simp) ?_
    refine (AllReadyH.cons rfl (fun K hK => ?_) (AllReadyH.cons rfl (fun K hK => ?_) AllReadyH.nil))
    · go_simp
      refine Calls.mono (HNM.out _) ?_
      rintro e w4 ⟨rfl, hb4'⟩
      have hb4 : Below wQ.heap.size wQ w4 := (Below.drew (Below.refl _ _)).trans hb4'
      obtain ⟨hc4, hf4⟩ := bcell hb4
      have hs4 := hb4.size
      go_wp2_with fail
      refine hK.out _ _ ⟨(hc4 _ _ xl).trans x0, by omega⟩ (fun hHeld => ?_)
      have hH4 := hHeld
      clear hK K
      try simp only [Act.put, List.setIfInBounds_toArray, List.set_cons_zero, List.set_cons_succ]
      refine wpAnyH_ready (rs := [17]) (by kernel_rfl) (by simp) ?_
      refine AllReadyH.cons rfl (fun K hK => ?_) AllReadyH.nil
      go_simp
      refine hK.out _ _ ⟨cell_alloc hHeld.1, lt_alloc hHeld.2⟩ (fun hHeld => ?_)
      clear hK K
      try simp only [Act.put, List.setIfInBounds_toArray, List.set_cons_zero, List.set_cons_succ]
      refine wpAnyH_take (i := 18) (v := ?_) (by simp only [List.getElem?_toArray, List.getElem?_cons_succ, List.getElem?_cons_zero] <;> rfl) (by kernel_rfl) (by kernel_rfl) (by kernel_rfl) (fun _ _ _ h => h) (Or.inl ⟨by rfl, ?_⟩) (by assumption) ?_
      rotate_left
      · (intro wq hSw; (try dsimp only at hSw); go_simp; try with_reducible rfl)
      try simp only [Act.put, List.setIfInBounds_toArray, List.set_cons_zero, List.set_cons_succ]
      have hR4 := RQ.out.keep hb4
      have r0 := hR4.cell 0
      have r1 := hR4.cell 1
      have r2 := hR4.cell 2
      have rl := hR4.lt
      have rf := hR4.free
      simp at r0 r1 r2
      clear hR4
      have r9 : wQ.heap.size = wQ.heap.size := rfl
      refine wpAnyH_ready (rs := [19]) (by kernel_rfl) (by simp) ?_
      refine AllReadyH.cons rfl (fun K hK => ?_) AllReadyH.nil
      go_simp
      refine hK.out _ _ ?_ (fun hHeld => ?_)
      · refine ⟨cell_alloc ?_, by simp; omega⟩
        repeat refine cell_set ?_ (by first | omega | (simp; omega))
        exact hH4.1
      clear hK K
      try simp only [Act.put, List.setIfInBounds_toArray, List.set_cons_zero, List.set_cons_succ]
      refine wpAnyH_done (by kernel_rfl) ?_ _
      refine NoPanic.normal ?_
      have HF := Lib.hid (ru_fin (m := 2) (n3 := 2) (g := faG n B i b 0) (e := faE n B i b 2) (cs := #[.int .i64 ((n : Int) + (i : Int)), .int .i64 2, .int .i64 ((n : Int) + (B : Int)), .int .i64 ((b : Int) - 1)]) (v0 := .string N) (v1 := .slice (some ⟨w.heap.size + 1 + 1, 0, none⟩) 2 2) (v2 := .slice (some ⟨w4.heap.size, 0, none⟩) 2 2) (p := w.heap.size + 1) (GQ.out.keep hb4) (by decide) HNS.out (by omega) (by simp [faE, I2.enc]) (by intro y hy; simp [faE] at hy; rcases hy with rfl | rfl <;> (refine ⟨?_, ?_⟩ <;> (unfold I64; simp only; omega))) rfl (by decide) (Nat.le_succ w.heap.size))
      have H4 : Below w.heap.size w w4 := below_callS HQ hb4
      clear hb4 hb4' hH4 hHeld
      go_wp2
      exact bodyPost_ret (v := .agg #[.string N, .slice (some ⟨w.heap.size + 1 + 1, 0, none⟩) 2 2, .slice (some ⟨w4.heap.size, 0, none⟩) 2 2]) (by simp [results, Tryz.results116, go_sem, *]) rfl ⟨⟨N, some ⟨w.heap.size + 1 + 1, 0, none⟩, 2, 2, some ⟨w4.heap.size, 0, none⟩, 2, 2⟩, rfl, by rw [HRu.out]; exact HF.out, by repeat (first | exact Below.refl _ _ | assumption | refine below_allocS ?_ _ | refine below_callS ?_ (by assumption) | (refine Below.alloc ?_ (by first | omega | (simp; done) | (simp; omega)) _) | (refine Below.setCell ?_ (by first | omega | (simp; done) | (simp; omega)) _) | refine Below.drew ?_ | refine below_drewN ?_ _ | (refine below_call ?_ (by assumption) (by first | omega | (simp; done) | (simp; omega))) | (refine Below.trans ?_ (by assumption)))⟩
    · go_simp
      refine hK.out _ _ ⟨cell_alloc x0, lt_alloc xl⟩ (fun hHeld => ?_)
      clear hK K
      try simp only [Act.put, List.setIfInBounds_toArray, List.set_cons_zero, List.set_cons_succ]
      obtain ⟨wE, hwE⟩ : ∃ wE : World, wE = wQ.alloc (.cells #[.int .i64 ((n : Int) + (i : Int)), .int .i64 2, .int .i64 ((n : Int) + (B : Int)), .int .i64 ((b : Int) - 1)] 123) := ⟨_, rfl⟩
      have hEQ : OwnA wE (w.heap.size + 1 + 1) (some ⟨wQ.heap.size, 0, none⟩) 2 2 (faE n B i b 2) := by rw [hwE]; exact OwnF.lit wQ (faE n B i b 2) (by omega) rfl (by decide) (fun _ => rfl) (by intro y hy; simp [faE] at hy; rcases hy with rfl | rfl <;> (refine ⟨?_, ?_⟩ <;> (unfold I64; simp only; omega))) (by simp [faE, I2.enc])
      have hQE : Below wQ.heap.size wQ wE := by rw [hwE]; repeat (first | exact Below.refl _ _ | assumption | refine below_allocS ?_ _ | refine below_callS ?_ (by assumption) | (refine Below.alloc ?_ (by first | omega | (simp; done) | (simp; omega)) _) | (refine Below.setCell ?_ (by first | omega | (simp; done) | (simp; omega)) _) | refine Below.drew ?_ | refine below_drewN ?_ _ | (refine below_call ?_ (by assumption) (by first | omega | (simp; done) | (simp; omega))) | (refine Below.trans ?_ (by assumption)))
      have EQ := Lib.hid hEQ
      replace XQ := Lib.hid (XQ.out.keep hQE)
      replace RQ := Lib.hid (RQ.out.keep hQE)
      replace GQ := Lib.hid (GQ.out.keep hQE)
      replace HQ := below_callS HQ hQE
      have hsE := hQE.size
      rw [← hwE] at hHeld ⊢
      clear hwE hEQ hQE
      refine wpAnyH_ready (rs := [3]) (by kernel_rfl) (by simp) ?_
      refine AllReadyH.cons rfl (fun K hK => ?_) AllReadyH.nil
      go_simp
      refine Calls.mono (HNM.out _) ?_
      rintro e w4 ⟨rfl, hb4'⟩
      have hb4 : Below wE.heap.size wE w4 := (Below.drew (Below.refl _ _)).trans hb4'
      obtain ⟨hc4, hf4⟩ := bcell hb4
      have hs4 := hb4.size
      have hH3 : wE.cell? ⟨w.heap.size, 0, none⟩ = some (.int .i64 (B : Int)) := hHeld.1
      go_wp2_with fail
      refine hK.out _ _ ⟨(hc4 _ _ (by omega)).trans hH3, by omega⟩ (fun hHeld => ?_)
      have hH4 := hHeld
      clear hK K
      try simp only [Act.put, List.setIfInBounds_toArray, List.set_cons_zero, List.set_cons_succ]
      refine wpAnyH_take (i := 18) (v := ?_) (by simp only [List.getElem?_toArray, List.getElem?_cons_succ, List.getElem?_cons_zero] <;> rfl) (by kernel_rfl) (by kernel_rfl) (by kernel_rfl) (fun _ _ _ h => h) (Or.inl ⟨by rfl, ?_⟩) (by assumption) ?_
      rotate_left
      · (intro wq hSw; (try dsimp only at hSw); go_simp; try with_reducible rfl)
      try simp only [Act.put, List.setIfInBounds_toArray, List.set_cons_zero, List.set_cons_succ]
      have hR4 := RQ.out.keep hb4
      have r0 := hR4.cell 0
      have r1 := hR4.cell 1
      have r2 := hR4.cell 2
      have rl := hR4.lt
      have rf := hR4.free
      simp at r0 r1 r2
      clear hR4
      refine wpAnyH_ready (rs := [19]) (by kernel_rfl) (by simp) ?_
      refine AllReadyH.cons rfl (fun K hK => ?_) AllReadyH.nil
      go_simp
      refine hK.out _ _ ?_ (fun hHeld => ?_)
      · refine ⟨?_, by simp; omega⟩
        repeat refine cell_set ?_ (by first | omega | (simp; omega))
        exact hH4.1
      clear hK K
      try simp only [Act.put, List.setIfInBounds_toArray, List.set_cons_zero, List.set_cons_succ]
      refine wpAnyH_done (by kernel_rfl) ?_ _
      refine NoPanic.normal ?_
      have HF := Lib.hid (ru_fin2 (v0 := .string N) (v1 := .slice (some ⟨w.heap.size + 1 + 1, 0, none⟩) 2 2) (v2 := .slice (some ⟨wQ.heap.size, 0, none⟩) 2 2) (p := w.heap.size + 1) (GQ.out.keep hb4) (by decide) HNS.out (EQ.out.keep hb4) (by decide) (Nat.le_succ w.heap.size))
      have H4 : Below w.heap.size w w4 := below_callS HQ hb4
      clear hb4 hb4' hH4 hHeld hH3
      go_wp2
      exact bodyPost_ret (v := .agg #[.string N, .slice (some ⟨w.heap.size + 1 + 1, 0, none⟩) 2 2, .slice (some ⟨wQ.heap.size, 0, none⟩) 2 2]) (by simp [results, Tryz.results116, go_sem, *]) rfl ⟨⟨N, some ⟨w.heap.size + 1 + 1, 0, none⟩, 2, 2, some ⟨wQ.heap.size, 0, none⟩, 2, 2⟩, rfl, by rw [HRu.out]; exact HF.out, by repeat (first | exact Below.refl _ _ | assumption | refine below_allocS ?_ _ | refine below_callS ?_ (by assumption) | (refine Below.alloc ?_ (by first | omega | (simp; done) | (simp; omega)) _) | (refine Below.setCell ?_ (by first | omega | (simp; done) | (simp; omega)) _) | refine Below.drew ?_ | refine below_drewN ?_ _ | (refine below_call ?_ (by assumption) (by first | omega | (simp; done) | (simp; omega))) | (refine Below.trans ?_ (by assumption)))⟩
  · have HRu := Lib.hid (show ruleOf n B 6 i b = ⟨rnm 6 i b, faG n B i b 1, faE n B i b 3⟩ by simp [ruleOf])
    clear hk hk6
    generalize rnm 6 i b = N at *
    go_enter Tryz.func116, Tryz.ntmps116
    go_wp2_with fail
    obtain ⟨wQ, hwQ⟩ : ∃ wQ : World, wQ = ((w.alloc (.cells #[.int .i64 (B : Int), .slice a n c] 28)).alloc (.cells #[.string ⟨#[]⟩, .slice none 0 0, .slice none 0 0] 98)).alloc (.cells #[.int .i64 ((n : Int) + (i : Int)), .int .i64 1, .bool true, .int .i64 ((n : Int) + (B : Int)), .int .i64 (b : Int), .bool true] 142) := ⟨_, rfl⟩
    have XQ := Lib.hid (show Blk wQ w.heap.size #[.int .i64 (B : Int), .slice a n c] 28 by rw [hwQ]; exact (Blk.made w _ _).keep (by repeat (first | exact Below.refl _ _ | assumption | refine below_allocS ?_ _ | refine below_callS ?_ (by assumption) | (refine Below.alloc ?_ (by first | omega | (simp; done) | (simp; omega)) _) | (refine Below.setCell ?_ (by first | omega | (simp; done) | (simp; omega)) _) | refine Below.drew ?_ | refine below_drewN ?_ _ | (refine below_call ?_ (by assumption) (by first | omega | (simp; done) | (simp; omega))) | (refine Below.trans ?_ (by assumption)))))
    have hRQ := (Blk.made (w.alloc (.cells #[.int .i64 (B : Int), .slice a n c] 28)) #[.string ⟨#[]⟩, .slice none 0 0, .slice none 0 0] 98).keep (show Below _ ((w.alloc (.cells #[.int .i64 (B : Int), .slice a n c] 28)).alloc (.cells #[.string ⟨#[]⟩, .slice none 0 0, .slice none 0 0] 98)) (((w.alloc (.cells #[.int .i64 (B : Int), .slice a n c] 28)).alloc (.cells #[.string ⟨#[]⟩, .slice none 0 0, .slice none 0 0] 98)).alloc (.cells #[.int .i64 ((n : Int) + (i : Int)), .int .i64 1, .bool true, .int .i64 ((n : Int) + (B : Int)), .int .i64 (b : Int), .bool true] 142)) by repeat (first | exact Below.refl _ _ | assumption | refine below_allocS ?_ _ | refine below_callS ?_ (by assumption) | (refine Below.alloc ?_ (by first | omega | (simp; done) | (simp; omega)) _) | (refine Below.setCell ?_ (by first | omega | (simp; done) | (simp; omega)) _) | refine Below.drew ?_ | refine below_drewN ?_ _ | (refine below_call ?_ (by assumption) (by first | omega | (simp; done) | (simp; omega))) | (refine Below.trans ?_ (by assumption))))
    rw [← hwQ] at hRQ
    have RQ := Lib.hid (show Blk wQ (w.heap.size + 1) #[.string ⟨#[]⟩, .slice none 0 0, .slice none 0 0] 98 by simpa using hRQ)
    have GQ := Lib.hid (show OwnT wQ (w.heap.size + 1 + 1) (some ⟨w.heap.size + 1 + 1, 0, none⟩) 2 2 (faG n B i b 1) by rw [hwQ]; exact OwnF.litB (g := w.heap.size + 1 + 1) (m := 2) (faG n B i b 1) (Below.refl _ _) (by simp) (by simp) rfl (by decide) (fun _ => rfl) (by intro y hy; simp [faG] at hy; rcases hy with rfl | rfl <;> (refine ⟨?_, ?_⟩ <;> (unfold I64; simp only; omega))) (by simp [faG, I2b.enc]))
    have HQ : Below w.heap.size w wQ := by rw [hwQ]; repeat (first | exact Below.refl _ _ | assumption | refine below_allocS ?_ _ | refine below_callS ?_ (by assumption) | (refine Below.alloc ?_ (by first | omega | (simp; done) | (simp; omega)) _) | (refine Below.setCell ?_ (by first | omega | (simp; done) | (simp; omega)) _) | refine Below.drew ?_ | refine below_drewN ?_ _ | (refine below_call ?_ (by assumption) (by first | omega | (simp; done) | (simp; omega))) | (refine Below.trans ?_ (by assumption)))
    have hsQ : w.heap.size + 2 ≤ wQ.heap.size := by rw [hwQ]; simp
    rw [← hwQ]
    clear hwQ hRQ
    have x0 := XQ.out.cell 0
    have xl := XQ.out.lt
    simp at x0
    refine wp_region_noPanic ?_
    refine wp_region_held_drew (S := fun wx => wx.cell? ⟨w.heap.size, 0, none⟩ = some (.int .i64 (B : Int)) ∧ w.heap.size < wx.heap.size) (by kernel_rfl) ⟨x0, xl⟩ (fun hHeld => ?_)
    refine wpAnyH_take (i := 0) (v := ?_) (by simp only [List.getElem?_toArray, List.getElem?_cons_succ, List.getElem?_cons_zero] <;> rfl) (by kernel_rfl) (by kernel_rfl) (by kernel_rfl) (fun _ _ _ h => h) (Or.inl ⟨by rfl, ?_⟩) (by assumption) ?_
    rotate_left
    · (intro wq hSw; (try dsimp only at hSw); go_simp; try with_reducible rfl)
    try simp only [Act.put, List.setIfInBounds_toArray, List.set_cons_zero, List.set_cons_succ]
    refine wpAnyH_take (i := 1) (v := ?_) (by simp only [List.getElem?_toArray, List.getElem?_cons_succ, List.getElem?_cons_zero] <;> rfl) (by kernel_rfl) (by kernel_rfl) (by kernel_rfl) (fun _ _ _ h => h) (Or.inl ⟨by rfl, ?_⟩) (by assumption) ?_
    rotate_left
    · (intro wq hSw; (try dsimp only at hSw); go_simp; try with_reducible rfl)
    try simp only [Act.put, List.setIfInBounds_toArray, List.set_cons_zero, List.set_cons_succ]
    refine wpAnyH_take (i := 2) (v := ?_) (by simp only [List.getElem?_toArray, List.getElem?_cons_succ, List.getElem?_cons_zero] <;> rfl) (by kernel_rfl) (by kernel_rfl) (by kernel_rfl) (fun _ _ _ h => h) (Or.inl ⟨by rfl, ?_⟩) (by assumption) ?_
    rotate_left
    · (intro wq hSw; (try dsimp only at hSw); go_simp; try with_reducible rfl)
    try simp only [Act.put, List.setIfInBounds_toArray, List.set_cons_zero, List.set_cons_succ]
    refine wpAnyH_take (i := 4) (v := ?_) (by simp only [List.getElem?_toArray, List.getElem?_cons_succ, List.getElem?_cons_zero] <;> rfl) (by kernel_rfl) (by kernel_rfl) (by kernel_rfl) (fun _ _ _ h => h) (Or.inl ⟨by rfl, ?_⟩) (by assumption) ?_
    rotate_left
    · (intro wq hSw; (try dsimp only at hSw); go_simp; try with_reducible rfl)
    try simp only [Act.put, List.setIfInBounds_toArray, List.set_cons_zero, List.set_cons_succ]
    refine wpAnyH_take (i := 5) (v := ?_) (by simp only [List.getElem?_toArray, List.getElem?_cons_succ, List.getElem?_cons_zero] <;> rfl) (by kernel_rfl) (by kernel_rfl) (by kernel_rfl) (fun _ _ _ h => h) (Or.inl ⟨by rfl, ?_⟩) (by assumption) ?_
    rotate_left
    · (intro wq hSw; (try dsimp only at hSw); go_simp; try with_reducible rfl)
    try simp only [Act.put, List.setIfInBounds_toArray, List.set_cons_zero, List.set_cons_succ]
    refine wpAnyH_take (i := 6) (v := ?_) (by simp only [List.getElem?_toArray, List.getElem?_cons_succ, List.getElem?_cons_zero] <;> rfl) (by kernel_rfl) (by kernel_rfl) (by kernel_rfl) (fun _ _ _ h => h) (Or.inl ⟨by rfl, ?_⟩) (by assumption) ?_
    rotate_left
    · (intro wq hSw; (try dsimp only at hSw); go_simp; try with_reducible rfl)
    try simp only [Act.put, List.setIfInBounds_toArray, List.set_cons_zero, List.set_cons_succ]
    refine wpAnyH_take (i := 7) (v := ?_) (by simp only [List.getElem?_toArray, List.getElem?_cons_succ, List.getElem?_cons_zero] <;> rfl) (by kernel_rfl) (by kernel_rfl) (by kernel_rfl) (fun _ _ _ h => h) (Or.inl ⟨by rfl, ?_⟩) (by assumption) ?_
    rotate_left
    · (intro wq hSw; (try dsimp only at hSw); go_simp; try with_reducible rfl)
    try simp only [Act.put, List.setIfInBounds_toArray, List.set_cons_zero, List.set_cons_succ]
    refine wpAnyH_take (i := 8) (v := ?_) (by simp only [List.getElem?_toArray, List.getElem?_cons_succ, List.getElem?_cons_zero] <;> rfl) (by kernel_rfl) (by kernel_rfl) (by kernel_rfl) (fun _ _ _ h => h) (Or.inl ⟨by rfl, ?_⟩) (by assumption) ?_
    rotate_left
    · (intro wq hSw; (try dsimp only at hSw); go_simp; try with_reducible rfl)
    try simp only [Act.put, List.setIfInBounds_toArray, List.set_cons_zero, List.set_cons_succ]
    refine wpAnyH_take (i := 9) (v := ?_) (by simp only [List.getElem?_toArray, List.getElem?_cons_succ, List.getElem?_cons_zero] <;> rfl) (by kernel_rfl) (by kernel_rfl) (by kernel_rfl) (fun _ _ _ h => h) (Or.inl ⟨by rfl, ?_⟩) (by assumption) ?_
    rotate_left
    · (intro wq hSw; (try dsimp only at hSw); go_simp; try with_reducible rfl)
    try simp only [Act.put, List.setIfInBounds_toArray, List.set_cons_zero, List.set_cons_succ]
    refine wpAnyH_take (i := 10) (v := ?_) (by simp only [List.getElem?_toArray, List.getElem?_cons_succ, List.getElem?_cons_zero] <;> rfl) (by kernel_rfl) (by kernel_rfl) (by kernel_rfl) (fun _ _ _ h => h) (Or.inl ⟨by rfl, ?_⟩) (by assumption) ?_
    rotate_left
    · (intro wq hSw; (try dsimp only at hSw); go_simp; try with_reducible rfl)
    try simp only [Act.put, List.setIfInBounds_toArray, List.set_cons_zero, List.set_cons_succ]
    refine wpAnyH_take (i := 11) (v := ?_) (by simp only [List.getElem?_toArray, List.getElem?_cons_succ, List.getElem?_cons_zero] <;> rfl) (by kernel_rfl) (by kernel_rfl) (by kernel_rfl) (fun _ _ _ h => h) (Or.inl ⟨by rfl, ?_⟩) (by assumption) ?_
    rotate_left
    · (intro wq hSw; (try dsimp only at hSw); go_simp; try with_reducible rfl)
    try simp only [Act.put, List.setIfInBounds_toArray, List.set_cons_zero, List.set_cons_succ]
    refine wpAnyH_take (i := 12) (v := ?_) (by simp only [List.getElem?_toArray, List.getElem?_cons_succ, List.getElem?_cons_zero] <;> rfl) (by kernel_rfl) (by kernel_rfl) (by kernel_rfl) (fun _ _ _ h => h) (Or.inl ⟨by rfl, ?_⟩) (by assumption) ?_
    rotate_left
    · (intro wq hSw; (try dsimp only at hSw); go_simp; try with_reducible rfl)
    try simp only [Act.put, List.setIfInBounds_toArray, List.set_cons_zero, List.set_cons_succ]
    refine wpAnyH_take (i := 13) (v := ?_) (by simp only [List.getElem?_toArray, List.getElem?_cons_succ, List.getElem?_cons_zero] <;> rfl) (by kernel_rfl) (by kernel_rfl) (by kernel_rfl) (fun _ _ _ h => h) (Or.inl ⟨by rfl, ?_⟩) (by assumption) ?_
    rotate_left
    · (intro wq hSw; (try dsimp only at hSw); go_simp; try with_reducible rfl)
    try simp only [Act.put, List.setIfInBounds_toArray, List.set_cons_zero, List.set_cons_succ]
    refine wpAnyH_take (i := 14) (v := ?_) (by simp only [List.getElem?_toArray, List.getElem?_cons_succ, List.getElem?_cons_zero] <;> rfl) (by kernel_rfl) (by kernel_rfl) (by kernel_rfl) (fun _ _ _ h => h) (Or.inl ⟨by rfl, ?_⟩) (by assumption) ?_
    rotate_left
    · (intro wq hSw; (try dsimp only at hSw); go_simp; try with_reducible rfl)
    try simp only [Act.put, List.setIfInBounds_toArray, List.set_cons_zero, List.set_cons_succ]
    refine wpAnyH_take (i := 15) (v := ?_) (by simp only [List.getElem?_toArray, List.getElem?_cons_succ, List.getElem?_cons_zero] <;> rfl) (by kernel_rfl) (by kernel_rfl) (by kernel_rfl) (fun _ _ _ h => h) (Or.inl ⟨by rfl, ?_⟩) (by assumption) ?_
    rotate_left
    · (intro wq hSw; (try dsimp only at hSw); go_simp; try with_reducible rfl)
    try simp only [Act.put, List.setIfInBounds_toArray, List.set_cons_zero, List.set_cons_succ]
    refine wpAnyH_take (i := 16) (v := ?_) (by simp only [List.getElem?_toArray, List.getElem?_cons_succ, List.getElem?_cons_zero] <;> rfl) (by kernel_rfl) (by kernel_rfl) (by kernel_rfl) (fun _ _ _ h => h) (Or.inl ⟨by rfl, ?_⟩) (by assumption) ?_
    rotate_left
    · (intro wq hSw; (try dsimp only at hSw); go_simp; try with_reducible rfl)
    try simp only [Act.put, List.setIfInBounds_toArray, List.set_cons_zero, List.set_cons_succ]
    (try simp only [e1, e2, e3])
    refine wpAnyH_ready (rs := [3, 17]) (by kernel_rfl) (by simp) ?_
    refine (AllReadyH.cons rfl (fun K hK => ?_) (AllReadyH.cons rfl (fun K hK => ?_) AllReadyH.nil))
    · go_simp
      refine Calls.mono (HNM.out _) ?_
      rintro e w4 ⟨rfl, hb4'⟩
      have hb4 : Below wQ.heap.size wQ w4 := (Below.drew (Below.refl _ _)).trans hb4'
      obtain ⟨hc4, hf4⟩ := bcell hb4
      have hs4 := hb4.size
      go_wp2_with fail
      refine hK.out _ _ ⟨(hc4 _ _ xl).trans x0, by omega⟩ (fun hHeld => ?_)
      have hH4 := hHeld
      clear hK K
      try simp only [Act.put, List.setIfInBounds_toArray, List.set_cons_zero, List.set_cons_succ]
      refine wpAnyH_ready (rs := [17]) (by kernel_rfl) (by simp) ?_
      refine AllReadyH.cons rfl (fun K hK => ?_) AllReadyH.nil
      go_simp
      refine hK.out _ _ ⟨cell_alloc hHeld.1, lt_alloc hHeld.2⟩ (fun hHeld => ?_)
      clear hK K
      try simp only [Act.put, List.setIfInBounds_toArray, List.set_cons_zero, List.set_cons_succ]
      refine wpAnyH_take (i := 18) (v := ?_) (by simp only [List.getElem?_toArray, List.getElem?_cons_succ, List.getElem?_cons_zero] <;> rfl) (by kernel_rfl) (by kernel_rfl) (by kernel_rfl) (fun _ _ _ h => h) (Or.inl ⟨by rfl, ?_⟩) (by assumption) ?_
      rotate_left
      · (intro wq hSw; (try dsimp only at hSw); go_simp; try with_reducible rfl)
      try simp only [Act.put, List.setIfInBounds_toArray, List.set_cons_zero, List.set_cons_succ]
      have hR4 := RQ.out.keep hb4
      have r0 := hR4.cell 0
      have r1 := hR4.cell 1
      have r2 := hR4.cell 2
      have rl := hR4.lt
      have rf := hR4.free
      simp at r0 r1 r2
      clear hR4
      have r9 : wQ.heap.size = wQ.heap.size := rfl
      refine wpAnyH_ready (rs := [19]) (by kernel_rfl) (by simp) ?_
      refine AllReadyH.cons rfl (fun K hK => ?_) AllReadyH.nil
      go_simp
      refine hK.out _ _ ?_ (fun hHeld => ?_)
      · refine ⟨cell_alloc ?_, by simp; omega⟩
        repeat refine cell_set ?_ (by first | omega | (simp; omega))
        exact hH4.1
      clear hK K
      try simp only [Act.put, List.setIfInBounds_toArray, List.set_cons_zero, List.set_cons_succ]
      refine wpAnyH_done (by kernel_rfl) ?_ _
      refine NoPanic.normal ?_
      have HF := Lib.hid (ru_fin (m := 2) (n3 := 2) (g := faG n B i b 1) (e := faE n B i b 3) (cs := #[.int .i64 ((n : Int) + (i : Int)), .int .i64 3, .int .i64 ((n : Int) + (B : Int)), .int .i64 ((b : Int) - 1)]) (v0 := .string N) (v1 := .slice (some ⟨w.heap.size + 1 + 1, 0, none⟩) 2 2) (v2 := .slice (some ⟨w4.heap.size, 0, none⟩) 2 2) (p := w.heap.size + 1) (GQ.out.keep hb4) (by decide) HNS.out (by omega) (by simp [faE, I2.enc]) (by intro y hy; simp [faE] at hy; rcases hy with rfl | rfl <;> (refine ⟨?_, ?_⟩ <;> (unfold I64; simp only; omega))) rfl (by decide) (Nat.le_succ w.heap.size))
      have H4 : Below w.heap.size w w4 := below_callS HQ hb4
      clear hb4 hb4' hH4 hHeld
      go_wp2
      exact bodyPost_ret (v := .agg #[.string N, .slice (some ⟨w.heap.size + 1 + 1, 0, none⟩) 2 2, .slice (some ⟨w4.heap.size, 0, none⟩) 2 2]) (by simp [results, Tryz.results116, go_sem, *]) rfl ⟨⟨N, some ⟨w.heap.size + 1 + 1, 0, none⟩, 2, 2, some ⟨w4.heap.size, 0, none⟩, 2, 2⟩, rfl, by rw [HRu.out]; exact HF.out, by repeat (first | exact Below.refl _ _ | assumption | refine below_allocS ?_ _ | refine below_callS ?_ (by assumption) | (refine Below.alloc ?_ (by first | omega | (simp; done) | (simp; omega)) _) | (refine Below.setCell ?_ (by first | omega | (simp; done) | (simp; omega)) _) | refine Below.drew ?_ | refine below_drewN ?_ _ | (refine below_call ?_ (by assumption) (by first | omega | (simp; done) | (simp; omega))) | (refine Below.trans ?_ (by assumption)))⟩
    · go_simp
      refine hK.out _ _ ⟨cell_alloc x0, lt_alloc xl⟩ (fun hHeld => ?_)
      clear hK K
      try simp only [Act.put, List.setIfInBounds_toArray, List.set_cons_zero, List.set_cons_succ]
      obtain ⟨wE, hwE⟩ : ∃ wE : World, wE = wQ.alloc (.cells #[.int .i64 ((n : Int) + (i : Int)), .int .i64 3, .int .i64 ((n : Int) + (B : Int)), .int .i64 ((b : Int) - 1)] 123) := ⟨_, rfl⟩
      have hEQ : OwnA wE (w.heap.size + 1 + 1) (some ⟨wQ.heap.size, 0, none⟩) 2 2 (faE n B i b 3) := by rw [hwE]; exact OwnF.lit wQ (faE n B i b 3) (by omega) rfl (by decide) (fun _ => rfl) (by intro y hy; simp [faE] at hy; rcases hy with rfl | rfl <;> (refine ⟨?_, ?_⟩ <;> (unfold I64; simp only; omega))) (by simp [faE, I2.enc])
      have hQE : Below wQ.heap.size wQ wE := by rw [hwE]; repeat (first | exact Below.refl _ _ | assumption | refine below_allocS ?_ _ | refine below_callS ?_ (by assumption) | (refine Below.alloc ?_ (by first | omega | (simp; done) | (simp; omega)) _) | (refine Below.setCell ?_ (by first | omega | (simp; done) | (simp; omega)) _) | refine Below.drew ?_ | refine below_drewN ?_ _ | (refine below_call ?_ (by assumption) (by first | omega | (simp; done) | (simp; omega))) | (refine Below.trans ?_ (by assumption)))
      have EQ := Lib.hid hEQ
      replace XQ := Lib.hid (XQ.out.keep hQE)
      replace RQ := Lib.hid (RQ.out.keep hQE)
      replace GQ := Lib.hid (GQ.out.keep hQE)
      replace HQ := below_callS HQ hQE
      have hsE := hQE.size
      rw [← hwE] at hHeld ⊢
      clear hwE hEQ hQE
      refine wpAnyH_ready (rs := [3]) (by kernel_rfl) (by simp) ?_
      refine AllReadyH.cons rfl (fun K hK => ?_) AllReadyH.nil
      go_simp
      refine Calls.mono (HNM.out _) ?_
      rintro e w4 ⟨rfl, hb4'⟩
      have hb4 : Below wE.heap.size wE w4 := (Below.drew (Below.refl _ _)).trans hb4'
      obtain ⟨hc4, hf4⟩ := bcell hb4
      have hs4 := hb4.size
      have hH3 : wE.cell? ⟨w.heap.size, 0, none⟩ = some (.int .i64 (B : Int)) := hHeld.1
      go_wp2_with fail
      refine hK.out _ _ ⟨(hc4 _ _ (by omega)).trans hH3, by omega⟩ (fun hHeld => ?_)
      have hH4 := hHeld
      clear hK K
      try simp only [Act.put, List.setIfInBounds_toArray, List.set_cons_zero, List.set_cons_succ]
      refine wpAnyH_take (i := 18) (v := ?_) (by simp only [List.getElem?_toArray, List.getElem?_cons_succ, List.getElem?_cons_zero] <;> rfl) (by kernel_rfl) (by kernel_rfl) (by kernel_rfl) (fun _ _ _ h => h) (Or.inl ⟨by rfl, ?_⟩) (by assumption) ?_
      rotate_left
      · (intro wq hSw; (try dsimp only at hSw); go_simp; try with_reducible rfl)
      try simp only [Act.put, List.setIfInBounds_toArray, List.set_cons_zero, List.set_cons_succ]
      have hR4 := RQ.out.keep hb4
      have r0 := hR4.cell 0
      have r1 := hR4.cell 1
      have r2 := hR4.cell 2
      have rl := hR4.lt
      have rf := hR4.free
      simp at r0 r1 r2
      clear hR4
      refine wpAnyH_ready (rs := [19]) (by kernel_rfl) (by simp) ?_
      refine AllReadyH.cons rfl (fun K hK => ?_) AllReadyH.nil
      go_simp
      refine hK.out _ _ ?_ (fun hHeld => ?_)
      · refine ⟨?_, by simp; omega⟩
        repeat refine cell_set ?_ (by first | omega | (simp; omega))
        exact hH4.1
      clear hK K
      try simp only [Act.put, List.setIfInBounds_toArray, List.set_cons_zero, List.set_cons_succ]
      refine wpAnyH_done (by kernel_rfl) ?_ _
      refine NoPanic.normal ?_
      have HF := Lib.hid (ru_fin2 (v0 := .string N) (v1 := .slice (some ⟨w.heap.size + 1 + 1, 0, none⟩) 2 2) (v2 := .slice (some ⟨wQ.heap.size, 0, none⟩) 2 2) (p := w.heap.size + 1) (GQ.out.keep hb4) (by decide) HNS.out (EQ.out.keep hb4) (by decide) (Nat.le_succ w.heap.size))
      have H4 : Below w.heap.size w w4 := below_callS HQ hb4
      clear hb4 hb4' hH4 hHeld hH3
      go_wp2
      exact bodyPost_ret (v := .agg #[.string N, .slice (some ⟨w.heap.size + 1 + 1, 0, none⟩) 2 2, .slice (some ⟨wQ.heap.size, 0, none⟩) 2 2]) (by simp [results, Tryz.results116, go_sem, *]) rfl ⟨⟨N, some ⟨w.heap.size + 1 + 1, 0, none⟩, 2, 2, some ⟨wQ.heap.size, 0, none⟩, 2, 2⟩, rfl, by rw [HRu.out]; exact HF.out, by repeat (first | exact Below.refl _ _ | assumption | refine below_allocS ?_ _ | refine below_callS ?_ (by assumption) | (refine Below.alloc ?_ (by first | omega | (simp; done) | (simp; omega)) _) | (refine Below.setCell ?_ (by first | omega | (simp; done) | (simp; omega)) _) | refine Below.drew ?_ | refine below_drewN ?_ _ | (refine below_call ?_ (by assumption) (by first | omega | (simp; done) | (simp; omega))) | (refine Below.trans ?_ (by assumption)))⟩
end Go.Proofs.YtfnamjkmkoldeaaGreatDoor
