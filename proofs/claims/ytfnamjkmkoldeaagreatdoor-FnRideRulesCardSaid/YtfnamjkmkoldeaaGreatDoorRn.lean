/- The ride model of the reference: names, tests and single rules, walked. -/
import Derived.Test.YtfnamjkmkoldeaaGreatDoorQc
import Derived.Test.YtfnamjkmkoldeaaGreatDoorRm
import Derived.Test.YtfnamjkmkoldeaaGreatDoorQn
namespace Go.Proofs.YtfnamjkmkoldeaaGreatDoor
open Go.RowKit
set_option linter.unusedVariables false
set_option linter.unusedSimpArgs false
theorem decS_dig {n : Nat} (h : n < 10) : decS n = digStr n := by
  rw [decS, Lib.decDigits_one h]; rfl
/-- what a rule is, from its kind and numbers -/
def ruleOf (n B : Nat) (k i b : Nat) : RuD :=
  if k = 0 then ⟨rnm 0 i b, [⟨i, 3 * (b : Int), true⟩], [⟨i, 3 * (b : Int) + 1⟩]⟩
  else if k = 1 then ⟨rnm 1 i b, freeL n i b ((b + 1) % B) n, [⟨i, 3 * (b : Int) + 2⟩]⟩
  else if k = 2 then ⟨rnm 2 i b, [⟨i, 3 * (b : Int) + 1, true⟩, ⟨(n : Int) + ((b + 1) % B : Nat), 3, true⟩], [⟨i, 3 * (b : Int) + 2⟩]⟩
  else if k = 3 then ⟨rnm 3 i b, [⟨i, 3 * (b : Int) + 2, true⟩], [⟨i, 3 * (((b + 1) % B : Nat) : Int)⟩]⟩
  else if k = 4 then ⟨rnm 4 i b, faG n B i b 0, faE n B i b 1⟩
  else if k = 5 then ⟨rnm 5 i b, faG n B i b 0, faE n B i b 2⟩
  else ⟨rnm 6 i b, faG n B i b 1, faE n B i b 3⟩
def ruleX (n B : Nat) (x : I3) : RuD := ruleOf n B x.a.toNat x.b.toNat x.c.toNat
theorem trS_rule {n B i b : Nat} {sec : Bool} : ∀ s ∈ trS n B i b sec, ruD s = ruleX n B s.x := by
  intro s hs
  cases sec <;> simp [trS] at hs
  · rcases hs with rfl | rfl | rfl <;> simp [ruD, ruleX, ruleOf]
  · rcases hs with rfl | rfl | rfl | rfl <;> simp [ruD, ruleX, ruleOf]
theorem faS_rule {n B b q : Nat} {sec : Bool} : ∀ s ∈ faS n B b q sec, ruD s = ruleX n B s.x := by
  intro s hs
  cases sec <;> simp [faS] at hs
  · rcases hs with rfl | rfl <;> simp [ruD, ruleX, ruleOf]
  · rcases hs with rfl | rfl | rfl <;> simp [ruD, ruleX, ruleOf]
theorem rideRs_eq (n B bud : Nat) (sec : Bool) : rideRs n B bud sec = (kindsL n B bud sec).map (ruleX n B) := by
  rw [rideRs, ← rulesS_x, List.map_map]
  refine List.map_congr_left fun s hs => ?_
  rw [rulesS, List.mem_append] at hs
  rcases hs with hs | hs
  · rw [trSI] at hs
    obtain ⟨i, _, hs⟩ := List.mem_flatMap.1 hs
    rw [trSB] at hs
    obtain ⟨b, _, hs⟩ := List.mem_flatMap.1 hs
    exact trS_rule s hs
  · rw [faSI] at hs
    obtain ⟨b, _, hs⟩ := List.mem_flatMap.1 hs
    rw [faSJ] at hs
    obtain ⟨j, _, hs⟩ := List.mem_flatMap.1 hs
    exact faS_rule s hs
/-- where the kinds lie -/
theorem kinds_at {n B bud : Nat} {sec : Bool} {x : I3} (hx : x ∈ kindsL n B bud sec) (hbud : bud ≤ 2) : ∃ k i b : Nat, x = ⟨k, i, b⟩ ∧ ((k ≤ 3 ∧ i < n ∧ b < B) ∨ (4 ≤ k ∧ k ≤ 6 ∧ i < B ∧ b ≤ 2)) := by
  rw [kindsL, List.mem_append] at hx
  rcases hx with hx | hx
  · rw [trI] at hx
    obtain ⟨i, hi, hx⟩ := List.mem_flatMap.1 hx
    rw [trB'] at hx
    obtain ⟨b, hb, hx⟩ := List.mem_flatMap.1 hx
    rw [trK, List.mem_map] at hx
    obtain ⟨j, hj, rfl⟩ := hx
    have := List.mem_range.1 hi
    have := List.mem_range.1 hb
    have := List.mem_range.1 ((List.mem_filter.1 hj).1)
    exact ⟨j, i, b, rfl, .inl (by omega)⟩
  · rw [faI] at hx
    obtain ⟨b, hb, hx⟩ := List.mem_flatMap.1 hx
    rw [faB] at hx
    obtain ⟨q, hq, hx⟩ := List.mem_flatMap.1 hx
    rw [faK, List.mem_map] at hx
    obtain ⟨j, hj, rfl⟩ := hx
    have := List.mem_range.1 hb
    have := List.mem_range.1 hq
    have := List.mem_range.1 ((List.mem_filter.1 hj).1)
    exact ⟨4 + j, b, bud - q, by simp, .inr (by omega)⟩
set_option maxRecDepth 100000 in
set_option maxHeartbeats 4000000 in
theorem spec_l24Name {k i b : Nat} {K : Int} {w : World} (hK : K = (k : Int)) (hk : k < 7) (hi : i < 10) (hb : b < 10) :
    Calls Tryz.prog 142 #[.int .i64 K, .int .i64 (i : Int), .int .i64 (b : Int)] w fun e w' => e = .returned (.string (rnm k i b)) ∧ Below w.heap.size w w' := by
  subst hK
  have hk0 : (0 : Int) ≤ (k : Int) := by omega
  have hk7 : (k : Int) < 7 := by omega
  have kI := fun (wx : World) => spec_l01Dec (n := i) (w := wx) (by omega)
  have kB := fun (wx : World) => spec_l01Dec (n := b) (w := wx) (by omega)
  rw [decS_dig hi] at kI
  rw [decS_dig hb] at kB
  have z1 := digStr_size i
  have z2 := digStr_size b
  obtain ⟨s, hs⟩ : ∃ s, ruleNm[k]? = some s := ⟨_, List.getElem?_eq_getElem (show k < ruleNm.length from hk)⟩
  have hsz : s.length ≤ 100 := by
    have h1 : ∀ t ∈ ruleNm, t.length ≤ 100 := by decide
    exact h1 s (List.mem_of_getElem? hs)
  have hR : rnm k i b = (⟨s.toArray⟩ : ByteArray) ++ ⟨#[95]⟩ ++ digStr i ++ ⟨#[95]⟩ ++ digStr b := by rw [rnm, List.getD_eq_getElem?_getD, hs]; rfl
  have hcell : ∀ {W : World} {g : Nat}, Blk W g (strsCells ruleNm).toArray 9 → W.cell? ⟨g, k, none⟩ = some (.string ⟨s.toArray⟩) := fun h => by
    rw [h.cell k]
    have := strs_at hs
    simpa using this
  obtain ⟨S, hS⟩ : ∃ S : ByteArray, S = ⟨s.toArray⟩ := ⟨_, rfl⟩
  have hSz : S.size ≤ 100 := by rw [hS]; simpa [ByteArray.size] using hsz
  rw [← hS] at hR
  simp only [← hS] at hcell
  have f1 : ¬ 9223372036854775807 < S.size + 1 := by omega
  have f2 : ¬ 9223372036854775807 < S.size + 1 + 1 := by omega
  have f3 : ¬ 9223372036854775807 < S.size + 1 + 1 + 1 := by omega
  have f4 : ¬ 9223372036854775807 < S.size + 1 + 1 + 1 + 1 := by omega
  have HR := Lib.hid hR
  have KI := Lib.hid kI
  have KB := Lib.hid kB
  clear hR hs hsz hS kI kB
  generalize digStr i = si at *
  generalize digStr b = sb at *
  go_enter Tryz.func142, Tryz.ntmps142
  go_wp2_with fail
  refine wp_region_noPanic ?_
  refine wp_region_held_drew (S := fun wx => Below w.heap.size w wx) (by kernel_rfl) (Below.drew (Below.refl _ _)) (fun hHeld => ?_)
  refine wpAnyH_take (i := 1) (v := ?_) (by simp only [List.getElem?_toArray, List.getElem?_cons_succ, List.getElem?_cons_zero] <;> rfl) (by kernel_rfl) (by kernel_rfl) (by kernel_rfl) (fun _ _ _ h => h) (Or.inl ⟨by rfl, ?_⟩) (by assumption) ?_
  rotate_left
  · (intro wq hSw; (try dsimp only at hSw); go_simp; try with_reducible rfl)
  try simp only [Act.put, List.setIfInBounds_toArray, List.set_cons_zero, List.set_cons_succ]
  refine wpAnyH_take (i := 5) (v := ?_) (by simp only [List.getElem?_toArray, List.getElem?_cons_succ, List.getElem?_cons_zero] <;> rfl) (by kernel_rfl) (by kernel_rfl) (by kernel_rfl) (fun _ _ _ h => h) (Or.inl ⟨by rfl, ?_⟩) (by assumption) ?_
  rotate_left
  · (intro wq hSw; (try dsimp only at hSw); go_simp; try with_reducible rfl)
  try simp only [Act.put, List.setIfInBounds_toArray, List.set_cons_zero, List.set_cons_succ]
  refine wpAnyH_take (i := 9) (v := ?_) (by simp only [List.getElem?_toArray, List.getElem?_cons_succ, List.getElem?_cons_zero] <;> rfl) (by kernel_rfl) (by kernel_rfl) (by kernel_rfl) (fun _ _ _ h => h) (Or.inl ⟨by rfl, ?_⟩) (by assumption) ?_
  rotate_left
  · (intro wq hSw; (try dsimp only at hSw); go_simp; try with_reducible rfl)
  try simp only [Act.put, List.setIfInBounds_toArray, List.set_cons_zero, List.set_cons_succ]
  refine wpAnyH_ready (rs := [0, 6]) (by kernel_rfl) (by simp) ?_
  refine (AllReadyH.cons rfl (fun K hK => ?_) (AllReadyH.cons rfl (fun K hK => ?_) AllReadyH.nil))
  · go_simp
    refine hK.out _ _ (hHeld.alloc hHeld.size _) (fun hHeld => ?_)
    clear hK K
    try simp only [Act.put, List.setIfInBounds_toArray, List.set_cons_zero, List.set_cons_succ]
    have hX : Blk ((w.alloc (.cells #[.string ⟨#[97, 114, 114, 105, 118, 101]⟩, .string ⟨#[114, 101, 108, 101, 97, 115, 101]⟩, .string ⟨#[98, 108, 105, 110, 100]⟩, .string ⟨#[101, 110, 116, 101, 114]⟩, .string ⟨#[99, 108, 101, 97, 114]⟩, .string ⟨#[111, 99, 99, 117, 112, 105, 101, 100]⟩, .string ⟨#[115, 101, 99, 111, 110, 100]⟩] 9)).drew) w.heap.size #[.string ⟨#[97, 114, 114, 105, 118, 101]⟩, .string ⟨#[114, 101, 108, 101, 97, 115, 101]⟩, .string ⟨#[98, 108, 105, 110, 100]⟩, .string ⟨#[101, 110, 116, 101, 114]⟩, .string ⟨#[99, 108, 101, 97, 114]⟩, .string ⟨#[111, 99, 99, 117, 112, 105, 101, 100]⟩, .string ⟨#[115, 101, 99, 111, 110, 100]⟩] 9 := Blk.made _ _ _
    obtain ⟨wN, hwN⟩ : ∃ wN : World, wN = ((w.alloc (.cells #[.string ⟨#[97, 114, 114, 105, 118, 101]⟩, .string ⟨#[114, 101, 108, 101, 97, 115, 101]⟩, .string ⟨#[98, 108, 105, 110, 100]⟩, .string ⟨#[101, 110, 116, 101, 114]⟩, .string ⟨#[99, 108, 101, 97, 114]⟩, .string ⟨#[111, 99, 99, 117, 112, 105, 101, 100]⟩, .string ⟨#[115, 101, 99, 111, 110, 100]⟩] 9)).drew) := ⟨_, rfl⟩
    rw [← hwN] at hHeld hX ⊢
    clear hwN
    refine wpAnyH_take (i := 2) (v := ?_) (by simp only [List.getElem?_toArray, List.getElem?_cons_succ, List.getElem?_cons_zero] <;> rfl) (by kernel_rfl) (by kernel_rfl) (by kernel_rfl) (fun _ _ _ h => h) (Or.inl ⟨by rfl, ?_⟩) (by assumption) ?_
    rotate_left
    · (intro wq hSw; (try dsimp only at hSw); go_simp; try with_reducible rfl)
    try simp only [Act.put, List.setIfInBounds_toArray, List.set_cons_zero, List.set_cons_succ]
    refine wpAnyH_ready (rs := [3, 6]) (by kernel_rfl) (by simp) ?_
    refine (AllReadyH.cons rfl (fun K hK => ?_) (AllReadyH.cons rfl (fun K hK => ?_) AllReadyH.nil))
    · have q1 := hcell (show Blk _ _ (strsCells ruleNm).toArray _ from hX)
      go_simp
      refine hK.out _ _ hHeld (fun hHeld => ?_)
      clear hK K
      try simp only [Act.put, List.setIfInBounds_toArray, List.set_cons_zero, List.set_cons_succ]
      refine wpAnyH_take (i := 4) (v := ?_) (by simp only [List.getElem?_toArray, List.getElem?_cons_succ, List.getElem?_cons_zero] <;> rfl) (by kernel_rfl) (by kernel_rfl) (by kernel_rfl) (fun _ _ _ h => h) (Or.inl ⟨by rfl, ?_⟩) (by assumption) ?_
      rotate_left
      · (intro wq hSw; (try dsimp only at hSw); go_simp; try with_reducible rfl)
      try simp only [Act.put, List.setIfInBounds_toArray, List.set_cons_zero, List.set_cons_succ]
      refine wpAnyH_ready (rs := [6]) (by kernel_rfl) (by simp) ?_
      refine (AllReadyH.cons rfl (fun K hK => ?_) AllReadyH.nil)
      go_simp
      refine Calls.mono (KI.out _) ?_
      rintro e wC1 ⟨rfl, hbC1⟩
      have hzC1 := hHeld.size
      have hqC1 := below_callS hHeld hbC1
      have hX := hX.keep hbC1
      go_wp2_with fail
      refine hK.out _ _ hqC1 (fun hHeld => ?_)
      clear hK K
      try simp only [Act.put, List.setIfInBounds_toArray, List.set_cons_zero, List.set_cons_succ]
      refine wpAnyH_take (i := 7) (v := ?_) (by simp only [List.getElem?_toArray, List.getElem?_cons_succ, List.getElem?_cons_zero] <;> rfl) (by kernel_rfl) (by kernel_rfl) (by kernel_rfl) (fun _ _ _ h => h) (Or.inl ⟨by rfl, ?_⟩) (by assumption) ?_
      rotate_left
      · (intro wq hSw; (try dsimp only at hSw); go_simp; try with_reducible rfl)
      try simp only [Act.put, List.setIfInBounds_toArray, List.set_cons_zero, List.set_cons_succ]
      refine wpAnyH_take (i := 8) (v := ?_) (by simp only [List.getElem?_toArray, List.getElem?_cons_succ, List.getElem?_cons_zero] <;> rfl) (by kernel_rfl) (by kernel_rfl) (by kernel_rfl) (fun _ _ _ h => h) (Or.inl ⟨by rfl, ?_⟩) (by assumption) ?_
      rotate_left
      · (intro wq hSw; (try dsimp only at hSw); go_simp; try with_reducible rfl)
      try simp only [Act.put, List.setIfInBounds_toArray, List.set_cons_zero, List.set_cons_succ]
      refine wpAnyH_ready (rs := [10]) (by kernel_rfl) (by simp) ?_
      refine (AllReadyH.cons rfl (fun K hK => ?_) AllReadyH.nil)
      go_simp
      refine Calls.mono (KB.out _) ?_
      rintro e wC2 ⟨rfl, hbC2⟩
      have hzC2 := hHeld.size
      have hqC2 := below_callS hHeld hbC2
      have hX := hX.keep hbC2
      go_wp2_with fail
      refine hK.out _ _ hqC2 (fun hHeld => ?_)
      clear hK K
      try simp only [Act.put, List.setIfInBounds_toArray, List.set_cons_zero, List.set_cons_succ]
      refine wpAnyH_take (i := 11) (v := ?_) (by simp only [List.getElem?_toArray, List.getElem?_cons_succ, List.getElem?_cons_zero] <;> rfl) (by kernel_rfl) (by kernel_rfl) (by kernel_rfl) (fun _ _ _ h => h) (Or.inl ⟨by rfl, ?_⟩) (by assumption) ?_
      rotate_left
      · (intro wq hSw; (try dsimp only at hSw); go_simp; try with_reducible rfl)
      try simp only [Act.put, List.setIfInBounds_toArray, List.set_cons_zero, List.set_cons_succ]
      refine wpAnyH_take (i := 12) (v := ?_) (by simp only [List.getElem?_toArray, List.getElem?_cons_succ, List.getElem?_cons_zero] <;> rfl) (by kernel_rfl) (by kernel_rfl) (by kernel_rfl) (fun _ _ _ h => h) (Or.inl ⟨by rfl, ?_⟩) (by assumption) ?_
      rotate_left
      · (intro wq hSw; (try dsimp only at hSw); go_simp; try with_reducible rfl)
      try simp only [Act.put, List.setIfInBounds_toArray, List.set_cons_zero, List.set_cons_succ]
      refine wpAnyH_done (by kernel_rfl) ?_ _
      refine NoPanic.normal ?_
      go_wp2
      go_ret
      exact ⟨by rw [HR.out]; rfl, hHeld⟩
    · go_simp
      refine Calls.mono (KI.out _) ?_
      rintro e wC1 ⟨rfl, hbC1⟩
      have hzC1 := hHeld.size
      have hqC1 := below_callS hHeld hbC1
      have hX := hX.keep hbC1
      go_wp2_with fail
      refine hK.out _ _ hqC1 (fun hHeld => ?_)
      clear hK K
      try simp only [Act.put, List.setIfInBounds_toArray, List.set_cons_zero, List.set_cons_succ]
      refine wpAnyH_ready (rs := [3, 10]) (by kernel_rfl) (by simp) ?_
      refine (AllReadyH.cons rfl (fun K hK => ?_) (AllReadyH.cons rfl (fun K hK => ?_) AllReadyH.nil))
      · have q2 := hcell (show Blk _ _ (strsCells ruleNm).toArray _ from hX)
        go_simp
        refine hK.out _ _ hHeld (fun hHeld => ?_)
        clear hK K
        try simp only [Act.put, List.setIfInBounds_toArray, List.set_cons_zero, List.set_cons_succ]
        refine wpAnyH_take (i := 4) (v := ?_) (by simp only [List.getElem?_toArray, List.getElem?_cons_succ, List.getElem?_cons_zero] <;> rfl) (by kernel_rfl) (by kernel_rfl) (by kernel_rfl) (fun _ _ _ h => h) (Or.inl ⟨by rfl, ?_⟩) (by assumption) ?_
        rotate_left
        · (intro wq hSw; (try dsimp only at hSw); go_simp; try with_reducible rfl)
        try simp only [Act.put, List.setIfInBounds_toArray, List.set_cons_zero, List.set_cons_succ]
        refine wpAnyH_take (i := 7) (v := ?_) (by simp only [List.getElem?_toArray, List.getElem?_cons_succ, List.getElem?_cons_zero] <;> rfl) (by kernel_rfl) (by kernel_rfl) (by kernel_rfl) (fun _ _ _ h => h) (Or.inl ⟨by rfl, ?_⟩) (by assumption) ?_
        rotate_left
        · (intro wq hSw; (try dsimp only at hSw); go_simp; try with_reducible rfl)
        try simp only [Act.put, List.setIfInBounds_toArray, List.set_cons_zero, List.set_cons_succ]
        refine wpAnyH_take (i := 8) (v := ?_) (by simp only [List.getElem?_toArray, List.getElem?_cons_succ, List.getElem?_cons_zero] <;> rfl) (by kernel_rfl) (by kernel_rfl) (by kernel_rfl) (fun _ _ _ h => h) (Or.inl ⟨by rfl, ?_⟩) (by assumption) ?_
        rotate_left
        · (intro wq hSw; (try dsimp only at hSw); go_simp; try with_reducible rfl)
        try simp only [Act.put, List.setIfInBounds_toArray, List.set_cons_zero, List.set_cons_succ]
        refine wpAnyH_ready (rs := [10]) (by kernel_rfl) (by simp) ?_
        refine (AllReadyH.cons rfl (fun K hK => ?_) AllReadyH.nil)
        go_simp
        refine Calls.mono (KB.out _) ?_
        rintro e wC2 ⟨rfl, hbC2⟩
        have hzC2 := hHeld.size
        have hqC2 := below_callS hHeld hbC2
        have hX := hX.keep hbC2
        go_wp2_with fail
        refine hK.out _ _ hqC2 (fun hHeld => ?_)
        clear hK K
        try simp only [Act.put, List.setIfInBounds_toArray, List.set_cons_zero, List.set_cons_succ]
        refine wpAnyH_take (i := 11) (v := ?_) (by simp only [List.getElem?_toArray, List.getElem?_cons_succ, List.getElem?_cons_zero] <;> rfl) (by kernel_rfl) (by kernel_rfl) (by kernel_rfl) (fun _ _ _ h => h) (Or.inl ⟨by rfl, ?_⟩) (by assumption) ?_
        rotate_left
        · (intro wq hSw; (try dsimp only at hSw); go_simp; try with_reducible rfl)
        try simp only [Act.put, List.setIfInBounds_toArray, List.set_cons_zero, List.set_cons_succ]
        refine wpAnyH_take (i := 12) (v := ?_) (by simp only [List.getElem?_toArray, List.getElem?_cons_succ, List.getElem?_cons_zero] <;> rfl) (by kernel_rfl) (by kernel_rfl) (by kernel_rfl) (fun _ _ _ h => h) (Or.inl ⟨by rfl, ?_⟩) (by assumption) ?_
        rotate_left
        · (intro wq hSw; (try dsimp only at hSw); go_simp; try with_reducible rfl)
        try simp only [Act.put, List.setIfInBounds_toArray, List.set_cons_zero, List.set_cons_succ]
        refine wpAnyH_done (by kernel_rfl) ?_ _
        refine NoPanic.normal ?_
        go_wp2
        go_ret
        exact ⟨by rw [HR.out]; rfl, hHeld⟩
      · go_simp
        refine Calls.mono (KB.out _) ?_
        rintro e wC2 ⟨rfl, hbC2⟩
        have hzC2 := hHeld.size
        have hqC2 := below_callS hHeld hbC2
        have hX := hX.keep hbC2
        go_wp2_with fail
        refine hK.out _ _ hqC2 (fun hHeld => ?_)
        clear hK K
        try simp only [Act.put, List.setIfInBounds_toArray, List.set_cons_zero, List.set_cons_succ]
        refine wpAnyH_ready (rs := [3]) (by kernel_rfl) (by simp) ?_
        refine (AllReadyH.cons rfl (fun K hK => ?_) AllReadyH.nil)
        have q3 := hcell (show Blk _ _ (strsCells ruleNm).toArray _ from hX)
        go_simp
        refine hK.out _ _ hHeld (fun hHeld => ?_)
        clear hK K
        try simp only [Act.put, List.setIfInBounds_toArray, List.set_cons_zero, List.set_cons_succ]
        refine wpAnyH_take (i := 4) (v := ?_) (by simp only [List.getElem?_toArray, List.getElem?_cons_succ, List.getElem?_cons_zero] <;> rfl) (by kernel_rfl) (by kernel_rfl) (by kernel_rfl) (fun _ _ _ h => h) (Or.inl ⟨by rfl, ?_⟩) (by assumption) ?_
        rotate_left
        · (intro wq hSw; (try dsimp only at hSw); go_simp; try with_reducible rfl)
        try simp only [Act.put, List.setIfInBounds_toArray, List.set_cons_zero, List.set_cons_succ]
        refine wpAnyH_take (i := 7) (v := ?_) (by simp only [List.getElem?_toArray, List.getElem?_cons_succ, List.getElem?_cons_zero] <;> rfl) (by kernel_rfl) (by kernel_rfl) (by kernel_rfl) (fun _ _ _ h => h) (Or.inl ⟨by rfl, ?_⟩) (by assumption) ?_
        rotate_left
        · (intro wq hSw; (try dsimp only at hSw); go_simp; try with_reducible rfl)
        try simp only [Act.put, List.setIfInBounds_toArray, List.set_cons_zero, List.set_cons_succ]
        refine wpAnyH_take (i := 8) (v := ?_) (by simp only [List.getElem?_toArray, List.getElem?_cons_succ, List.getElem?_cons_zero] <;> rfl) (by kernel_rfl) (by kernel_rfl) (by kernel_rfl) (fun _ _ _ h => h) (Or.inl ⟨by rfl, ?_⟩) (by assumption) ?_
        rotate_left
        · (intro wq hSw; (try dsimp only at hSw); go_simp; try with_reducible rfl)
        try simp only [Act.put, List.setIfInBounds_toArray, List.set_cons_zero, List.set_cons_succ]
        refine wpAnyH_take (i := 11) (v := ?_) (by simp only [List.getElem?_toArray, List.getElem?_cons_succ, List.getElem?_cons_zero] <;> rfl) (by kernel_rfl) (by kernel_rfl) (by kernel_rfl) (fun _ _ _ h => h) (Or.inl ⟨by rfl, ?_⟩) (by assumption) ?_
        rotate_left
        · (intro wq hSw; (try dsimp only at hSw); go_simp; try with_reducible rfl)
        try simp only [Act.put, List.setIfInBounds_toArray, List.set_cons_zero, List.set_cons_succ]
        refine wpAnyH_take (i := 12) (v := ?_) (by simp only [List.getElem?_toArray, List.getElem?_cons_succ, List.getElem?_cons_zero] <;> rfl) (by kernel_rfl) (by kernel_rfl) (by kernel_rfl) (fun _ _ _ h => h) (Or.inl ⟨by rfl, ?_⟩) (by assumption) ?_
        rotate_left
        · (intro wq hSw; (try dsimp only at hSw); go_simp; try with_reducible rfl)
        try simp only [Act.put, List.setIfInBounds_toArray, List.set_cons_zero, List.set_cons_succ]
        refine wpAnyH_done (by kernel_rfl) ?_ _
        refine NoPanic.normal ?_
        go_wp2
        go_ret
        exact ⟨by rw [HR.out]; rfl, hHeld⟩
  · go_simp
    refine Calls.mono (KI.out _) ?_
    rintro e wC1 ⟨rfl, hbC1⟩
    have hzC1 := hHeld.size
    have hqC1 := below_callS hHeld hbC1
    go_wp2_with fail
    refine hK.out _ _ hqC1 (fun hHeld => ?_)
    clear hK K
    try simp only [Act.put, List.setIfInBounds_toArray, List.set_cons_zero, List.set_cons_succ]
    refine wpAnyH_ready (rs := [0, 10]) (by kernel_rfl) (by simp) ?_
    refine (AllReadyH.cons rfl (fun K hK => ?_) (AllReadyH.cons rfl (fun K hK => ?_) AllReadyH.nil))
    · go_simp
      refine hK.out _ _ (hHeld.alloc hHeld.size _) (fun hHeld => ?_)
      clear hK K
      try simp only [Act.put, List.setIfInBounds_toArray, List.set_cons_zero, List.set_cons_succ]
      have hX : Blk (wC1.alloc (.cells #[.string ⟨#[97, 114, 114, 105, 118, 101]⟩, .string ⟨#[114, 101, 108, 101, 97, 115, 101]⟩, .string ⟨#[98, 108, 105, 110, 100]⟩, .string ⟨#[101, 110, 116, 101, 114]⟩, .string ⟨#[99, 108, 101, 97, 114]⟩, .string ⟨#[111, 99, 99, 117, 112, 105, 101, 100]⟩, .string ⟨#[115, 101, 99, 111, 110, 100]⟩] 9)) wC1.heap.size #[.string ⟨#[97, 114, 114, 105, 118, 101]⟩, .string ⟨#[114, 101, 108, 101, 97, 115, 101]⟩, .string ⟨#[98, 108, 105, 110, 100]⟩, .string ⟨#[101, 110, 116, 101, 114]⟩, .string ⟨#[99, 108, 101, 97, 114]⟩, .string ⟨#[111, 99, 99, 117, 112, 105, 101, 100]⟩, .string ⟨#[115, 101, 99, 111, 110, 100]⟩] 9 := Blk.made _ _ _
      obtain ⟨wN, hwN⟩ : ∃ wN : World, wN = (wC1.alloc (.cells #[.string ⟨#[97, 114, 114, 105, 118, 101]⟩, .string ⟨#[114, 101, 108, 101, 97, 115, 101]⟩, .string ⟨#[98, 108, 105, 110, 100]⟩, .string ⟨#[101, 110, 116, 101, 114]⟩, .string ⟨#[99, 108, 101, 97, 114]⟩, .string ⟨#[111, 99, 99, 117, 112, 105, 101, 100]⟩, .string ⟨#[115, 101, 99, 111, 110, 100]⟩] 9)) := ⟨_, rfl⟩
      rw [← hwN] at hHeld hX ⊢
      clear hwN
      refine wpAnyH_take (i := 2) (v := ?_) (by simp only [List.getElem?_toArray, List.getElem?_cons_succ, List.getElem?_cons_zero] <;> rfl) (by kernel_rfl) (by kernel_rfl) (by kernel_rfl) (fun _ _ _ h => h) (Or.inl ⟨by rfl, ?_⟩) (by assumption) ?_
      rotate_left
      · (intro wq hSw; (try dsimp only at hSw); go_simp; try with_reducible rfl)
      try simp only [Act.put, List.setIfInBounds_toArray, List.set_cons_zero, List.set_cons_succ]
      refine wpAnyH_ready (rs := [3, 10]) (by kernel_rfl) (by simp) ?_
      refine (AllReadyH.cons rfl (fun K hK => ?_) (AllReadyH.cons rfl (fun K hK => ?_) AllReadyH.nil))
      · have q2 := hcell (show Blk _ _ (strsCells ruleNm).toArray _ from hX)
        go_simp
        refine hK.out _ _ hHeld (fun hHeld => ?_)
        clear hK K
        try simp only [Act.put, List.setIfInBounds_toArray, List.set_cons_zero, List.set_cons_succ]
        refine wpAnyH_take (i := 4) (v := ?_) (by simp only [List.getElem?_toArray, List.getElem?_cons_succ, List.getElem?_cons_zero] <;> rfl) (by kernel_rfl) (by kernel_rfl) (by kernel_rfl) (fun _ _ _ h => h) (Or.inl ⟨by rfl, ?_⟩) (by assumption) ?_
        rotate_left
        · (intro wq hSw; (try dsimp only at hSw); go_simp; try with_reducible rfl)
        try simp only [Act.put, List.setIfInBounds_toArray, List.set_cons_zero, List.set_cons_succ]
        refine wpAnyH_take (i := 7) (v := ?_) (by simp only [List.getElem?_toArray, List.getElem?_cons_succ, List.getElem?_cons_zero] <;> rfl) (by kernel_rfl) (by kernel_rfl) (by kernel_rfl) (fun _ _ _ h => h) (Or.inl ⟨by rfl, ?_⟩) (by assumption) ?_
        rotate_left
        · (intro wq hSw; (try dsimp only at hSw); go_simp; try with_reducible rfl)
        try simp only [Act.put, List.setIfInBounds_toArray, List.set_cons_zero, List.set_cons_succ]
        refine wpAnyH_take (i := 8) (v := ?_) (by simp only [List.getElem?_toArray, List.getElem?_cons_succ, List.getElem?_cons_zero] <;> rfl) (by kernel_rfl) (by kernel_rfl) (by kernel_rfl) (fun _ _ _ h => h) (Or.inl ⟨by rfl, ?_⟩) (by assumption) ?_
        rotate_left
        · (intro wq hSw; (try dsimp only at hSw); go_simp; try with_reducible rfl)
        try simp only [Act.put, List.setIfInBounds_toArray, List.set_cons_zero, List.set_cons_succ]
        refine wpAnyH_ready (rs := [10]) (by kernel_rfl) (by simp) ?_
        refine (AllReadyH.cons rfl (fun K hK => ?_) AllReadyH.nil)
        go_simp
        refine Calls.mono (KB.out _) ?_
        rintro e wC2 ⟨rfl, hbC2⟩
        have hzC2 := hHeld.size
        have hqC2 := below_callS hHeld hbC2
        have hX := hX.keep hbC2
        go_wp2_with fail
        refine hK.out _ _ hqC2 (fun hHeld => ?_)
        clear hK K
        try simp only [Act.put, List.setIfInBounds_toArray, List.set_cons_zero, List.set_cons_succ]
        refine wpAnyH_take (i := 11) (v := ?_) (by simp only [List.getElem?_toArray, List.getElem?_cons_succ, List.getElem?_cons_zero] <;> rfl) (by kernel_rfl) (by kernel_rfl) (by kernel_rfl) (fun _ _ _ h => h) (Or.inl ⟨by rfl, ?_⟩) (by assumption) ?_
        rotate_left
        · (intro wq hSw; (try dsimp only at hSw); go_simp; try with_reducible rfl)
        try simp only [Act.put, List.setIfInBounds_toArray, List.set_cons_zero, List.set_cons_succ]
        refine wpAnyH_take (i := 12) (v := ?_) (by simp only [List.getElem?_toArray, List.getElem?_cons_succ, List.getElem?_cons_zero] <;> rfl) (by kernel_rfl) (by kernel_rfl) (by kernel_rfl) (fun _ _ _ h => h) (Or.inl ⟨by rfl, ?_⟩) (by assumption) ?_
        rotate_left
        · (intro wq hSw; (try dsimp only at hSw); go_simp; try with_reducible rfl)
        try simp only [Act.put, List.setIfInBounds_toArray, List.set_cons_zero, List.set_cons_succ]
        refine wpAnyH_done (by kernel_rfl) ?_ _
        refine NoPanic.normal ?_
        go_wp2
        go_ret
        exact ⟨by rw [HR.out]; rfl, hHeld⟩
      · go_simp
        refine Calls.mono (KB.out _) ?_
        rintro e wC2 ⟨rfl, hbC2⟩
        have hzC2 := hHeld.size
        have hqC2 := below_callS hHeld hbC2
        have hX := hX.keep hbC2
        go_wp2_with fail
        refine hK.out _ _ hqC2 (fun hHeld => ?_)
        clear hK K
        try simp only [Act.put, List.setIfInBounds_toArray, List.set_cons_zero, List.set_cons_succ]
        refine wpAnyH_ready (rs := [3]) (by kernel_rfl) (by simp) ?_
        refine (AllReadyH.cons rfl (fun K hK => ?_) AllReadyH.nil)
        have q3 := hcell (show Blk _ _ (strsCells ruleNm).toArray _ from hX)
        go_simp
        refine hK.out _ _ hHeld (fun hHeld => ?_)
        clear hK K
        try simp only [Act.put, List.setIfInBounds_toArray, List.set_cons_zero, List.set_cons_succ]
        refine wpAnyH_take (i := 4) (v := ?_) (by simp only [List.getElem?_toArray, List.getElem?_cons_succ, List.getElem?_cons_zero] <;> rfl) (by kernel_rfl) (by kernel_rfl) (by kernel_rfl) (fun _ _ _ h => h) (Or.inl ⟨by rfl, ?_⟩) (by assumption) ?_
        rotate_left
        · (intro wq hSw; (try dsimp only at hSw); go_simp; try with_reducible rfl)
        try simp only [Act.put, List.setIfInBounds_toArray, List.set_cons_zero, List.set_cons_succ]
        refine wpAnyH_take (i := 7) (v := ?_) (by simp only [List.getElem?_toArray, List.getElem?_cons_succ, List.getElem?_cons_zero] <;> rfl) (by kernel_rfl) (by kernel_rfl) (by kernel_rfl) (fun _ _ _ h => h) (Or.inl ⟨by rfl, ?_⟩) (by assumption) ?_
        rotate_left
        · (intro wq hSw; (try dsimp only at hSw); go_simp; try with_reducible rfl)
        try simp only [Act.put, List.setIfInBounds_toArray, List.set_cons_zero, List.set_cons_succ]
        refine wpAnyH_take (i := 8) (v := ?_) (by simp only [List.getElem?_toArray, List.getElem?_cons_succ, List.getElem?_cons_zero] <;> rfl) (by kernel_rfl) (by kernel_rfl) (by kernel_rfl) (fun _ _ _ h => h) (Or.inl ⟨by rfl, ?_⟩) (by assumption) ?_
        rotate_left
        · (intro wq hSw; (try dsimp only at hSw); go_simp; try with_reducible rfl)
        try simp only [Act.put, List.setIfInBounds_toArray, List.set_cons_zero, List.set_cons_succ]
        refine wpAnyH_take (i := 11) (v := ?_) (by simp only [List.getElem?_toArray, List.getElem?_cons_succ, List.getElem?_cons_zero] <;> rfl) (by kernel_rfl) (by kernel_rfl) (by kernel_rfl) (fun _ _ _ h => h) (Or.inl ⟨by rfl, ?_⟩) (by assumption) ?_
        rotate_left
        · (intro wq hSw; (try dsimp only at hSw); go_simp; try with_reducible rfl)
        try simp only [Act.put, List.setIfInBounds_toArray, List.set_cons_zero, List.set_cons_succ]
        refine wpAnyH_take (i := 12) (v := ?_) (by simp only [List.getElem?_toArray, List.getElem?_cons_succ, List.getElem?_cons_zero] <;> rfl) (by kernel_rfl) (by kernel_rfl) (by kernel_rfl) (fun _ _ _ h => h) (Or.inl ⟨by rfl, ?_⟩) (by assumption) ?_
        rotate_left
        · (intro wq hSw; (try dsimp only at hSw); go_simp; try with_reducible rfl)
        try simp only [Act.put, List.setIfInBounds_toArray, List.set_cons_zero, List.set_cons_succ]
        refine wpAnyH_done (by kernel_rfl) ?_ _
        refine NoPanic.normal ?_
        go_wp2
        go_ret
        exact ⟨by rw [HR.out]; rfl, hHeld⟩
    · go_simp
      refine Calls.mono (KB.out _) ?_
      rintro e wC2 ⟨rfl, hbC2⟩
      have hzC2 := hHeld.size
      have hqC2 := below_callS hHeld hbC2
      go_wp2_with fail
      refine hK.out _ _ hqC2 (fun hHeld => ?_)
      clear hK K
      try simp only [Act.put, List.setIfInBounds_toArray, List.set_cons_zero, List.set_cons_succ]
      refine wpAnyH_ready (rs := [0]) (by kernel_rfl) (by simp) ?_
      refine (AllReadyH.cons rfl (fun K hK => ?_) AllReadyH.nil)
      go_simp
      refine hK.out _ _ (hHeld.alloc hHeld.size _) (fun hHeld => ?_)
      clear hK K
      try simp only [Act.put, List.setIfInBounds_toArray, List.set_cons_zero, List.set_cons_succ]
      have hX : Blk (wC2.alloc (.cells #[.string ⟨#[97, 114, 114, 105, 118, 101]⟩, .string ⟨#[114, 101, 108, 101, 97, 115, 101]⟩, .string ⟨#[98, 108, 105, 110, 100]⟩, .string ⟨#[101, 110, 116, 101, 114]⟩, .string ⟨#[99, 108, 101, 97, 114]⟩, .string ⟨#[111, 99, 99, 117, 112, 105, 101, 100]⟩, .string ⟨#[115, 101, 99, 111, 110, 100]⟩] 9)) wC2.heap.size #[.string ⟨#[97, 114, 114, 105, 118, 101]⟩, .string ⟨#[114, 101, 108, 101, 97, 115, 101]⟩, .string ⟨#[98, 108, 105, 110, 100]⟩, .string ⟨#[101, 110, 116, 101, 114]⟩, .string ⟨#[99, 108, 101, 97, 114]⟩, .string ⟨#[111, 99, 99, 117, 112, 105, 101, 100]⟩, .string ⟨#[115, 101, 99, 111, 110, 100]⟩] 9 := Blk.made _ _ _
      obtain ⟨wN, hwN⟩ : ∃ wN : World, wN = (wC2.alloc (.cells #[.string ⟨#[97, 114, 114, 105, 118, 101]⟩, .string ⟨#[114, 101, 108, 101, 97, 115, 101]⟩, .string ⟨#[98, 108, 105, 110, 100]⟩, .string ⟨#[101, 110, 116, 101, 114]⟩, .string ⟨#[99, 108, 101, 97, 114]⟩, .string ⟨#[111, 99, 99, 117, 112, 105, 101, 100]⟩, .string ⟨#[115, 101, 99, 111, 110, 100]⟩] 9)) := ⟨_, rfl⟩
      rw [← hwN] at hHeld hX ⊢
      clear hwN
      refine wpAnyH_take (i := 2) (v := ?_) (by simp only [List.getElem?_toArray, List.getElem?_cons_succ, List.getElem?_cons_zero] <;> rfl) (by kernel_rfl) (by kernel_rfl) (by kernel_rfl) (fun _ _ _ h => h) (Or.inl ⟨by rfl, ?_⟩) (by assumption) ?_
      rotate_left
      · (intro wq hSw; (try dsimp only at hSw); go_simp; try with_reducible rfl)
      try simp only [Act.put, List.setIfInBounds_toArray, List.set_cons_zero, List.set_cons_succ]
      refine wpAnyH_ready (rs := [3]) (by kernel_rfl) (by simp) ?_
      refine (AllReadyH.cons rfl (fun K hK => ?_) AllReadyH.nil)
      have q3 := hcell (show Blk _ _ (strsCells ruleNm).toArray _ from hX)
      go_simp
      refine hK.out _ _ hHeld (fun hHeld => ?_)
      clear hK K
      try simp only [Act.put, List.setIfInBounds_toArray, List.set_cons_zero, List.set_cons_succ]
      refine wpAnyH_take (i := 4) (v := ?_) (by simp only [List.getElem?_toArray, List.getElem?_cons_succ, List.getElem?_cons_zero] <;> rfl) (by kernel_rfl) (by kernel_rfl) (by kernel_rfl) (fun _ _ _ h => h) (Or.inl ⟨by rfl, ?_⟩) (by assumption) ?_
      rotate_left
      · (intro wq hSw; (try dsimp only at hSw); go_simp; try with_reducible rfl)
      try simp only [Act.put, List.setIfInBounds_toArray, List.set_cons_zero, List.set_cons_succ]
      refine wpAnyH_take (i := 7) (v := ?_) (by simp only [List.getElem?_toArray, List.getElem?_cons_succ, List.getElem?_cons_zero] <;> rfl) (by kernel_rfl) (by kernel_rfl) (by kernel_rfl) (fun _ _ _ h => h) (Or.inl ⟨by rfl, ?_⟩) (by assumption) ?_
      rotate_left
      · (intro wq hSw; (try dsimp only at hSw); go_simp; try with_reducible rfl)
      try simp only [Act.put, List.setIfInBounds_toArray, List.set_cons_zero, List.set_cons_succ]
      refine wpAnyH_take (i := 8) (v := ?_) (by simp only [List.getElem?_toArray, List.getElem?_cons_succ, List.getElem?_cons_zero] <;> rfl) (by kernel_rfl) (by kernel_rfl) (by kernel_rfl) (fun _ _ _ h => h) (Or.inl ⟨by rfl, ?_⟩) (by assumption) ?_
      rotate_left
      · (intro wq hSw; (try dsimp only at hSw); go_simp; try with_reducible rfl)
      try simp only [Act.put, List.setIfInBounds_toArray, List.set_cons_zero, List.set_cons_succ]
      refine wpAnyH_take (i := 11) (v := ?_) (by simp only [List.getElem?_toArray, List.getElem?_cons_succ, List.getElem?_cons_zero] <;> rfl) (by kernel_rfl) (by kernel_rfl) (by kernel_rfl) (fun _ _ _ h => h) (Or.inl ⟨by rfl, ?_⟩) (by assumption) ?_
      rotate_left
      · (intro wq hSw; (try dsimp only at hSw); go_simp; try with_reducible rfl)
      try simp only [Act.put, List.setIfInBounds_toArray, List.set_cons_zero, List.set_cons_succ]
      refine wpAnyH_take (i := 12) (v := ?_) (by simp only [List.getElem?_toArray, List.getElem?_cons_succ, List.getElem?_cons_zero] <;> rfl) (by kernel_rfl) (by kernel_rfl) (by kernel_rfl) (fun _ _ _ h => h) (Or.inl ⟨by rfl, ?_⟩) (by assumption) ?_
      rotate_left
      · (intro wq hSw; (try dsimp only at hSw); go_simp; try with_reducible rfl)
      try simp only [Act.put, List.setIfInBounds_toArray, List.set_cons_zero, List.set_cons_succ]
      refine wpAnyH_done (by kernel_rfl) ?_ _
      refine NoPanic.normal ?_
      go_wp2
      go_ret
      exact ⟨by rw [HR.out]; rfl, hHeld⟩
end Go.Proofs.YtfnamjkmkoldeaaGreatDoor
