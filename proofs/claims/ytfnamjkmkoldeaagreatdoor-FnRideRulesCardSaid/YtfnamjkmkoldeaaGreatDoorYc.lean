/- The states along a trace of a ride model: their faults are few, and no block is blind without a second fault: plain laws.; A train that holds is released by an enabled rule exactly if the report permits its move: plain laws. -/
import Derived.Test.YtfnamjkmkoldeaaGreatDoorYb
import Derived.Test.YtfnamjkmkoldeaaGreatDoorRs
import Derived.Test.YtfnamjkmkoldeaaGreatDoorYa
namespace Go.Proofs.YtfnamjkmkoldeaaGreatDoor
open Go.RowKit
set_option linter.unusedVariables false
set_option linter.unusedSimpArgs false
/-- how many faults a status stands for -/
def wtF (x : Int) : Nat := if x = 1 then 1 else if x = 2 then 1 else if x = 3 then 2 else 0
def wtS (l : List Int) : Nat := (l.map wtF).sum
theorem wtS_set : ∀ {l : List Int} {i : Nat} {x : Int} (y : Int), l[i]? = some x → wtS (l.set i y) + wtF x = wtS l + wtF y
  | [], i, x, y, h => by simp at h
  | z :: r, 0, x, y, h => by
    simp at h; subst h
    simp only [wtS, List.set_cons_zero, List.map_cons, List.sum_cons]; omega
  | z :: r, i + 1, x, y, h => by
    have ih := wtS_set (l := r) (i := i) y (by simpa using h)
    simp only [wtS, List.set_cons_succ, List.map_cons, List.sum_cons] at ih ⊢; omega
theorem flAt_wt (i : Nat) (x : Int) : (flAt i x).length = wtF x := by
  rw [flAt, wtF]
  split
  · rfl
  · split
    · rfl
    · split <;> rfl
theorem fls_wt (l : List Int) : (flsOf l).length = wtS l := by
  have h : ∀ k, k ≤ l.length → (flsOf (l.take k)).length = wtS (l.take k) := by
    intro k
    induction k with
    | zero => intro _; simp [flsOf, wtS]
    | succ k ih =>
      intro hk
      have hx := List.getElem?_eq_getElem (show k < l.length by omega)
      rw [flsOf_step hx, List.length_append, ih (by omega), flAt_wt, take_at hx, wtS, wtS, List.map_append, List.sum_append]
      simp
  have := h l.length (Nat.le_refl _)
  rwa [List.take_length] at this
def midN (n B : Nat) (v : List Int) : List Int := (v.drop n).take B
theorem mid_get {n B c : Nat} {v : List Int} (hc : c < B) : (midN n B v)[c]? = v[n + c]? := by
  rw [midN, List.getElem?_take, if_pos hc, List.getElem?_drop]
theorem mid_low {n B i : Nat} {v : List Int} (y : Int) (hi : i < n) : midN n B (v.set i y) = midN n B v := by
  rw [midN, List.drop_set, if_pos hi]; rfl
theorem mid_set {n B i : Nat} {v : List Int} (y : Int) : midN n B (v.set (n + i) y) = (midN n B v).set i y := by
  rw [midN, List.drop_set, if_neg (by omega), Nat.add_sub_cancel_left, List.take_set]; rfl
theorem mid_high {n B : Nat} {v : List Int} (y : Int) : midN n B (v.set (n + B) y) = midN n B v := by
  rw [mid_set, List.set_eq_of_length_le]
  rw [midN, List.length_take]; omega
/-- what holds of every state along a trace -/
structure RideI (n B bud : Nat) (sec : Bool) (v : List Int) : Prop where
  sv : SV (rideSz n B bud) v
  blind : sec = false → ∀ c, c < B → v[n + c]? ≠ some 3
  few : ∃ q : Nat, v[n + B]? = some (q : Int) ∧ wtS (midN n B v) + q = bud
theorem RideI.len {n B bud : Nat} {sec : Bool} {v : List Int} (h : RideI n B bud sec v) : v.length = n + B + 1 := by rw [h.sv.1, sz_len]
theorem RideI.start {n B bud : Nat} {sec : Bool} {l : List Int} (hl : l.length = n) (h : ∀ x ∈ l, 0 ≤ x ∧ x ≤ 3 * (B : Int) - 1) : RideI n B bud sec (rideSt l B bud) := by
  have hz : ∀ c, c < B → (rideSt l B bud)[n + c]? = some 0 := fun c hc => by
    rw [rideSt, List.getElem?_append_right (by omega), hl, Nat.add_sub_cancel_left, List.getElem?_append_left (by simpa using hc)]
    simp [hc]
  refine ⟨st_sv hl h, fun _ c hc e => (by rw [hz c hc] at e; cases e), bud, ?_, ?_⟩
  · rw [rideSt, List.getElem?_append_right (by omega), hl, Nat.add_sub_cancel_left, List.getElem?_append_right (by simp)]; simp
  · have hm : midN n B (rideSt l B bud) = List.replicate B 0 := by
      rw [midN, rideSt, List.drop_left' hl, List.take_left' (by simp)]
    have hw : ∀ k, wtS (List.replicate k 0) = 0 := fun k => by
      induction k with
      | zero => rfl
      | succ k ih => rw [List.replicate_succ, wtS, List.map_cons, List.sum_cons]; simp [wtF]
    rw [hm, hw, Nat.zero_add]
theorem RideI.low {n B bud : Nat} {sec : Bool} {v : List Int} (h : RideI n B bud sec v) {i : Nat} {y : Int} (hi : i < n) (hsv : SV (rideSz n B bud) (v.set i y)) : RideI n B bud sec (v.set i y) := by
  have e : ∀ c, (v.set i y)[n + c]? = v[n + c]? := fun c => by rw [List.getElem?_set, if_neg (by omega)]
  obtain ⟨q, h1, h2⟩ := h.few
  exact ⟨hsv, fun hs c hc => by rw [e]; exact h.blind hs c hc, q, by rw [e]; exact h1, by rw [mid_low y hi]; exact h2⟩
theorem RideI.fault {n B bud : Nat} {sec : Bool} {v : List Int} (h : RideI n B bud sec v) {i q : Nat} {x y : Int} (hi : i < B) (hx : v[n + i]? = some x) (hq : v[n + B]? = some (q : Int)) (hq1 : 1 ≤ q) (hw : wtF y = wtF x + 1) (hy : sec = false → y ≠ 3) (hsv : SV (rideSz n B bud) (applyP v [⟨(n : Int) + i, y⟩, ⟨(n : Int) + B, (q : Int) - 1⟩])) : RideI n B bud sec (applyP v [⟨(n : Int) + i, y⟩, ⟨(n : Int) + B, (q : Int) - 1⟩]) := by
  have hlen := h.len
  have e1 : ((n : Int) + (i : Int)).toNat = n + i := by omega
  have e2 : ((n : Int) + (B : Int)).toNat = n + B := by omega
  simp only [applyP, List.foldl_cons, List.foldl_nil, e1, e2] at hsv ⊢
  obtain ⟨q', h1, h2⟩ := h.few
  rw [hq] at h1
  have hqq : q' = q := by simp only [Option.some.injEq] at h1; omega
  subst hqq
  refine ⟨hsv, fun hs c hc hv => ?_, q' - 1, ?_, ?_⟩
  · rw [List.getElem?_set, if_neg (by omega), List.getElem?_set] at hv
    split at hv
    · split at hv
      · simp only [Option.some.injEq] at hv; exact hy hs hv
      · cases hv
    · exact h.blind hs c hc hv
  · rw [List.getElem?_set, if_pos rfl, if_pos (by simp; omega)]
    congr 1; omega
  · rw [mid_high, mid_set]
    have := wtS_set (l := midN n B v) (i := i) y (by rw [mid_get hi]; exact hx)
    omega
/-- the second fault comes only if it may -/
theorem kind6_sec {n B bud i b : Nat} {sec : Bool} (hx2 : (⟨((6 : Nat) : Int), (i : Int), (b : Int)⟩ : I3) ∈ kindsL n B bud sec) : sec = true := by
  rw [kindsL, List.mem_append] at hx2
  rcases hx2 with hx2 | hx2
  · rw [trI] at hx2
    obtain ⟨i', _, hx2⟩ := List.mem_flatMap.1 hx2
    rw [trB'] at hx2
    obtain ⟨b', _, hx2⟩ := List.mem_flatMap.1 hx2
    rw [trK, List.mem_map] at hx2
    obtain ⟨j, hj, e⟩ := hx2
    have := List.mem_range.1 (List.mem_filter.1 hj).1
    simp only [I3.mk.injEq] at e
    omega
  · rw [faI] at hx2
    obtain ⟨b', _, hx2⟩ := List.mem_flatMap.1 hx2
    rw [faB] at hx2
    obtain ⟨q, _, hx2⟩ := List.mem_flatMap.1 hx2
    rw [faK, List.mem_map] at hx2
    obtain ⟨j, hj, e⟩ := hx2
    simp only [I3.mk.injEq] at e
    have hj2 : j = 2 := by omega
    subst hj2
    have := (List.mem_filter.1 hj).2
    simpa using this
theorem RideI.step {n B bud : Nat} {sec : Bool} {v : List Int} (hn : n ≤ 4) (hB : 2 ≤ B) (hB8 : B ≤ 8) (hbud : bud ≤ 2) (h : RideI n B bud sec v) {r : RuD} (hr : r ∈ rideRs n B bud sec) (hg : holdsP v r.g = true) : RideI n B bud sec (applyP v r.e) := by
  have hlen := h.len
  have hru := ruV_of (rideRs_ok hn hB hB8 hbud r hr)
  have hsv : SV (rideSz n B bud) (applyP v r.e) := sv_apply h.sv fun a ha z hz => (hru.2 a ha).2.2 z hz
  rw [rideRs_eq] at hr
  obtain ⟨x, hx, rfl⟩ := List.mem_map.1 hr
  have hx2 := hx
  obtain ⟨k, i, b, rfl, hkib⟩ := kinds_at2 hx
  simp only [ruleX, Int.toNat_natCast] at hg hsv ⊢
  rcases hkib with ⟨hk, hi, hb⟩ | ⟨hk, hk6, hi, hb1, hb⟩
  · have hk4 : k = 0 ∨ k = 1 ∨ k = 2 ∨ k = 3 := by omega
    rcases hk4 with rfl | rfl | rfl | rfl
    · rw [ruleOf_0] at hsv ⊢
      show RideI n B bud sec (v.set ((i : Int)).toNat _)
      rw [Int.toNat_natCast]
      exact h.low hi (by have h9 := hsv; simp only [applyP, List.foldl_cons, List.foldl_nil, Int.toNat_natCast] at h9; exact h9)
    · rw [ruleOf_1] at hsv ⊢
      show RideI n B bud sec (v.set ((i : Int)).toNat _)
      rw [Int.toNat_natCast]
      exact h.low hi (by have h9 := hsv; simp only [applyP, List.foldl_cons, List.foldl_nil, Int.toNat_natCast] at h9; exact h9)
    · rw [ruleOf_2] at hsv ⊢
      show RideI n B bud sec (v.set ((i : Int)).toNat _)
      rw [Int.toNat_natCast]
      exact h.low hi (by have h9 := hsv; simp only [applyP, List.foldl_cons, List.foldl_nil, Int.toNat_natCast] at h9; exact h9)
    · rw [ruleOf_3] at hsv ⊢
      show RideI n B bud sec (v.set ((i : Int)).toNat _)
      rw [Int.toNat_natCast]
      exact h.low hi (by have h9 := hsv; simp only [applyP, List.foldl_cons, List.foldl_nil, Int.toNat_natCast] at h9; exact h9)
  · have hk4 : k = 4 ∨ k = 5 ∨ k = 6 := by omega
    have G := fun (y : Int) (g : List I2b) (hgg : holdsP v g = true) (hm : g = [⟨(n : Int) + i, y, true⟩, ⟨(n : Int) + B, (b : Int), true⟩]) => (show v[n + i]? = some y ∧ v[n + B]? = some (b : Int) by
      subst hm
      refine ⟨holds_eq hgg (k := n + i) ?_ (by omega), holds_eq hgg (k := n + B) ?_ (by omega)⟩
      · push_cast; exact List.mem_cons_self ..
      · push_cast; exact List.mem_cons_of_mem _ (List.mem_cons_self ..))
    rcases hk4 with rfl | rfl | rfl
    · rw [ruleOf_4] at hg hsv ⊢
      obtain ⟨h1, h2⟩ := G _ _ hg rfl
      exact h.fault hi h1 h2 hb1 (by decide) (fun _ => by decide) hsv
    · rw [ruleOf_5] at hg hsv ⊢
      obtain ⟨h1, h2⟩ := G _ _ hg rfl
      exact h.fault hi h1 h2 hb1 (by decide) (fun _ => by decide) hsv
    · rw [ruleOf_6] at hg hsv ⊢
      obtain ⟨h1, h2⟩ := G _ _ hg rfl
      refine h.fault hi h1 h2 hb1 (by decide) (fun hs => ?_) hsv
      exact absurd (kind6_sec hx2) (by rw [hs]; decide)
/-- every state along a trace is such a state -/
theorem RideI.fol {n B bud : Nat} {sec : Bool} (hn : n ≤ 4) (hB : 2 ≤ B) (hB8 : B ≤ 8) (hbud : bud ≤ 2) : ∀ {tr v : List Int} {S : List (List Int)}, RideI n B bud sec v → (∀ r ∈ tr, 0 ≤ r ∧ r ≤ ((rideRs n B bud sec).length : Int) - 1) → folP (rideRs n B bud sec) v tr = some S → ∀ s ∈ S, RideI n B bud sec s
  | [], v, S, h, _, hf => by
    rw [folP] at hf; cases hf
    intro s hs; simp at hs; subst hs; exact h
  | r :: tr, v, S, h, hr, hf => by
    rw [folP] at hf
    split at hf
    · rename_i hh
      cases hf2 : folP (rideRs n B bud sec) (applyP v ((rideRs n B bud sec).getD r.toNat zRu).e) tr with
      | none => rw [hf2] at hf; cases hf
      | some S' =>
        rw [hf2] at hf
        simp only [Option.map_some, Option.some.injEq] at hf
        subst hf
        have hr0 := hr r (List.mem_cons_self ..)
        have hm : (rideRs n B bud sec).getD r.toNat zRu ∈ rideRs n B bud sec := by
          have hl : r.toNat < (rideRs n B bud sec).length := by omega
          rw [List.getD_eq_getElem?_getD, List.getElem?_eq_getElem hl]; exact List.getElem_mem hl
        have h2 := h.step hn hB hB8 hbud hm hh
        intro s hs
        rcases List.mem_cons.1 hs with rfl | hs
        · exact h
        · exact RideI.fol hn hB hB8 hbud h2 (fun q hq => hr q (List.mem_cons_of_mem _ hq)) hf2 s hs
    · cases hf
end Go.Proofs.YtfnamjkmkoldeaaGreatDoor
namespace Go.Proofs.YtfnamjkmkoldeaaGreatDoor
open Go.RowKit
set_option linter.unusedVariables false
set_option linter.unusedSimpArgs false
/-- what the channels report -/
def repM (B : Nat) (ps : List Int) : List Int := (cntL B ps).map fun x => if x < 1 then x else 1
def repF (p : List Int × List Int) (f : I3) : List Int × List Int := if f.b = 0 then (p.1.set f.a.toNat f.c, p.2) else (p.1, p.2.set f.a.toNat f.c)
def repL (m : List Int) (F : List I3) : List Int × List Int := F.foldl repF (m, m)
def fstA (x y : Int) : Int := if x = 1 ∨ x = 3 then 0 else y
def sndA (x y : Int) : Int := if x = 2 then 1 else if x = 3 then 0 else y
theorem repF_at (p : List Int × List Int) (k : Nat) (x : Int) : (flAt k x).foldl repF p = (if x = 1 ∨ x = 3 then p.1.set k 0 else p.1, if x = 2 then p.2.set k 1 else if x = 3 then p.2.set k 0 else p.2) := by
  rw [flAt]
  by_cases h1 : x = 1
  · subst h1; simp [repF]
  · rw [if_neg h1]
    by_cases h2 : x = 2
    · subst h2; simp [repF]
    · rw [if_neg h2]
      by_cases h3 : x = 3
      · subst h3; simp [repF]
      · rw [if_neg h3]; simp [h1, h2, h3]
theorem rep_take {m mid : List Int} (hl : m.length = mid.length) : ∀ k, k ≤ mid.length → (repL m (flsOf (mid.take k))).1.length = mid.length ∧ (repL m (flsOf (mid.take k))).2.length = mid.length ∧
    ∀ (c : Nat) (x y : Int), mid[c]? = some x → m[c]? = some y → (repL m (flsOf (mid.take k))).1[c]? = some (if c < k then fstA x y else y) ∧ (repL m (flsOf (mid.take k))).2[c]? = some (if c < k then sndA x y else y) := by
  intro k
  induction k with
  | zero =>
    intro _
    refine ⟨hl, hl, fun c x y hx hy => ?_⟩
    simp only [List.take_zero, flsOf, List.zipIdx_nil, List.flatMap_nil, repL, List.foldl_nil, Nat.not_lt_zero, if_false]
    exact ⟨hy, hy⟩
  | succ k ih =>
    intro hk
    obtain ⟨l1, l2, h⟩ := ih (by omega)
    obtain ⟨z, hz⟩ : ∃ z, mid[k]? = some z := ⟨_, List.getElem?_eq_getElem (show k < mid.length by omega)⟩
    rw [flsOf_step hz]
    have e : repL m (flsOf (mid.take k) ++ flAt k z) = (flAt k z).foldl repF (repL m (flsOf (mid.take k))) := by rw [repL, List.foldl_append]; rfl
    rw [e, repF_at]
    clear ih e
    generalize repL m (flsOf (mid.take k)) = P at l1 l2 h ⊢
    dsimp only
    refine ⟨by split <;> simp [l1], by split <;> (try split) <;> simp [l2], fun c x y hx hy => ?_⟩
    obtain ⟨h1, h2⟩ := h c x y hx hy
    by_cases hc : c = k
    · subst hc
      rw [hz] at hx
      cases hx
      rw [if_neg (Nat.lt_irrefl _)] at h1 h2
      rw [if_pos (Nat.lt_succ_self _), if_pos (Nat.lt_succ_self _), fstA, sndA]
      constructor
      · split
        · rw [List.getElem?_set, if_pos rfl, if_pos (by omega)]
        · exact h1
      · split
        · rw [List.getElem?_set, if_pos rfl, if_pos (by omega)]
        · split
          · rw [List.getElem?_set, if_pos rfl, if_pos (by omega)]
          · exact h2
    · have hck : (c < k + 1) = (c < k) := by rw [eq_iff_iff]; omega
      simp only [hck]
      constructor
      · split
        · rw [List.getElem?_set, if_neg (by omega)]; exact h1
        · exact h1
      · split
        · rw [List.getElem?_set, if_neg (by omega)]; exact h2
        · split
          · rw [List.getElem?_set, if_neg (by omega)]; exact h2
          · exact h2
theorem rep_at {m mid : List Int} (hl : m.length = mid.length) {c : Nat} {x y : Int} (hx : mid[c]? = some x) (hy : m[c]? = some y) : (repL m (flsOf mid)).1[c]? = some (fstA x y) ∧ (repL m (flsOf mid)).2[c]? = some (sndA x y) := by
  obtain ⟨_, _, h⟩ := rep_take hl mid.length (Nat.le_refl _)
  have h1 := h c x y hx hy
  rw [List.take_length, if_pos (List.getElem?_eq_some_iff.1 hx).1] at h1
  rw [if_pos (List.getElem?_eq_some_iff.1 hx).1] at h1
  exact h1
theorem rep_len {m mid : List Int} (hl : m.length = mid.length) : (repL m (flsOf mid)).1.length = mid.length ∧ (repL m (flsOf mid)).2.length = mid.length := by
  obtain ⟨h1, h2, _⟩ := rep_take hl mid.length (Nat.le_refl _)
  rw [List.take_length] at h1 h2
  exact ⟨h1, h2⟩
/-- a block is clear by the report exactly if it is blind, or no train uses it and it does not seem occupied -/
theorem clear_iff {x y : Int} (hx : 0 ≤ x ∧ x < 4) (hy : y = 0 ∨ y = 1) : (fstA x y = 0 ∧ sndA x y = 0) ↔ (x = 3 ∨ (x ≠ 2 ∧ y = 0)) := by
  rw [fstA, sndA]
  have : x = 0 ∨ x = 1 ∨ x = 2 ∨ x = 3 := by omega
  rcases this with rfl | rfl | rfl | rfl <;> simp
theorem repM_at {B c : Nat} {ps : List Int} (hc : c < B) : (repM B ps)[c]? = some (if cntN B ps c = 0 then 0 else 1) := by
  rw [repM, List.getElem?_map, cntL_at hc, Option.map_some]
  congr 1
  split <;> split <;> omega
/-- the guard of a rule that releases -/
theorem free_iff {n B b c t : Nat} {v : List Int} (hl : n + c < v.length) (ht : t < n) : holdsP v (freeL n t b c n) = true ↔ (v[t]? = some (3 * (b : Int) + 1) ∧ v[n + c]? ≠ some 2 ∧ v[n + c]? ≠ some 3 ∧ ∀ o, o < n → o ≠ t → ∀ z, v[o]? = some z → z ≠ 3 * (b : Int) + 2 ∧ z ≠ 3 * (c : Int) ∧ z ≠ 3 * (c : Int) + 1 ∧ z ≠ 3 * (c : Int) + 2) := by
  have hg : ∀ {k : Nat} {x : Int}, k < v.length → v.getD k 0 = x → v[k]? = some x := fun {k x} hk e => by
    rw [List.getD_eq_getElem?_getD, List.getElem?_eq_getElem hk] at e
    rw [List.getElem?_eq_getElem hk, ← e]; rfl
  constructor
  · intro h
    have m1 : (⟨(t : Int), 3 * (b : Int) + 1, true⟩ : I2b) ∈ freeL n t b c n := by rw [freeL]; simp
    refine ⟨holds_eq h m1 (by omega), fun e => ?_, fun e => ?_, fun o ho hne z hz => ?_⟩
    · exact holds_ne (k := n + c) h (by rw [freeL]; push_cast; simp) e rfl
    · exact holds_ne (k := n + c) h (by rw [freeL]; push_cast; simp) e rfl
    · have hmem : ∀ q ∈ freeO t b c o, q ∈ freeL n t b c n := fun q hq => by
        rw [freeL]; exact List.mem_append_right _ (List.mem_flatMap.2 ⟨o, List.mem_range.2 ho, hq⟩)
      rw [freeO, if_neg hne] at hmem
      exact ⟨holds_ne h (hmem ⟨(o : Int), 3 * (b : Int) + 2, false⟩ (by simp)) hz, holds_ne h (hmem ⟨(o : Int), 3 * (c : Int), false⟩ (by simp)) hz, holds_ne h (hmem ⟨(o : Int), 3 * (c : Int) + 1, false⟩ (by simp)) hz, holds_ne h (hmem ⟨(o : Int), 3 * (c : Int) + 2, false⟩ (by simp)) hz⟩
  · rintro ⟨h1, h2, h3, h4⟩
    have gv : ∀ {k : Nat} {x : Int}, v[k]? = some x → v.getD k 0 = x := fun {k x} e => by rw [List.getD_eq_getElem?_getD, e]; rfl
    obtain ⟨z, hz⟩ : ∃ z, v[n + c]? = some z := ⟨_, List.getElem?_eq_getElem hl⟩
    have hz2 : z ≠ 2 := fun e => h2 (by rw [hz, e])
    have hz3 : z ≠ 3 := fun e => h3 (by rw [hz, e])
    have ec : ((n : Int) + (c : Int)).toNat = n + c := by omega
    rw [holdsP, List.all_eq_true]
    intro q hq
    rw [freeL, List.mem_append] at hq
    rcases hq with hq | hq
    · simp only [List.mem_cons, List.not_mem_nil, or_false] at hq
      rcases hq with rfl | rfl | rfl
      · simp only [Int.toNat_natCast, gv h1]; simp
      · simp only [ec, gv hz]; simpa using hz2
      · simp only [ec, gv hz]; simpa using hz3
    · obtain ⟨o, ho, hq⟩ := List.mem_flatMap.1 hq
      have ho' := List.mem_range.1 ho
      rw [freeO] at hq
      split at hq
      · cases hq
      · rename_i hne
        obtain ⟨y, hy⟩ : ∃ y, v[o]? = some y := ⟨_, List.getElem?_eq_getElem (by omega)⟩
        obtain ⟨n1, n2, n3, n4⟩ := h4 o ho' hne y hy
        simp only [List.mem_cons, List.not_mem_nil, or_false] at hq
        rcases hq with rfl | rfl | rfl | rfl
        · simp only [Int.toNat_natCast, gv hy]; simpa using n1
        · simp only [Int.toNat_natCast, gv hy]; simpa using n2
        · simp only [Int.toNat_natCast, gv hy]; simpa using n3
        · simp only [Int.toNat_natCast, gv hy]; simpa using n4
/-- no train uses the block in front of one that holds -/
theorem unused_iff {n B b t : Nat} {v : List Int} (hB : 2 ≤ B) (hb : b < B) (hn : n ≤ v.length) (ht : t < n) (hv : v[t]? = some (3 * (b : Int) + 1)) (hr : ∀ o z, o < n → v[o]? = some z → 0 ≤ z ∧ z < 3 * (B : Int)) : cntN B (v.take n) ((b + 1) % B) = 0 ↔ ∀ o, o < n → o ≠ t → ∀ z, v[o]? = some z → z ≠ 3 * (b : Int) + 2 ∧ z ≠ 3 * (((b + 1) % B : Nat) : Int) ∧ z ≠ 3 * (((b + 1) % B : Nat) : Int) + 1 ∧ z ≠ 3 * (((b + 1) % B : Nat) : Int) + 2 := by
  have hC : (b + 1) % B < B := Nat.mod_lt _ (by omega)
  have hne := next_ne hB hb
  rw [cntN, List.countP_eq_zero]
  have hT : ∀ o, o < n → (v.take n)[o]? = v[o]? := fun o ho => by rw [List.getElem?_take, if_pos ho]
  constructor
  · intro h o ho hot z hz
    have hz2 := hr o z ho hz
    have h1 := h z (List.mem_of_getElem? ((hT o ho).trans hz))
    obtain ⟨q, rfl⟩ := Int.eq_ofNat_of_zero_le hz2.1
    rw [Int.toNat_natCast] at h1
    refine ⟨fun e => ?_, fun e => ?_, fun e => ?_, fun e => ?_⟩
    · obtain rfl : q = 3 * b + 2 := by omega
      rw [usesN_cross (by omega), show (3 * b + 2) / 3 = b by omega] at h1
      simp at h1
    · obtain rfl : q = 3 * ((b + 1) % B) := by omega
      rw [usesN_run (by omega), show 3 * ((b + 1) % B) / 3 = (b + 1) % B by omega] at h1
      simp at h1
    · obtain rfl : q = 3 * ((b + 1) % B) + 1 := by omega
      rw [usesN_run (by omega), show (3 * ((b + 1) % B) + 1) / 3 = (b + 1) % B by omega] at h1
      simp at h1
    · obtain rfl : q = 3 * ((b + 1) % B) + 2 := by omega
      rw [usesN_cross (by omega), show (3 * ((b + 1) % B) + 2) / 3 = (b + 1) % B by omega] at h1
      simp at h1
  · intro h z hz
    obtain ⟨o, ho⟩ := List.getElem?_of_mem hz
    have hon : o < n := by
      have := (List.getElem?_eq_some_iff.1 ho).1
      rw [List.length_take] at this; omega
    rw [hT o hon] at ho
    have hz2 := hr o z hon ho
    obtain ⟨q, rfl⟩ := Int.eq_ofNat_of_zero_le hz2.1
    rw [Int.toNat_natCast]
    have hfalse : usesN B q ((b + 1) % B) = false := by
      by_cases e : o = t
      · subst e
        rw [hv] at ho
        have : q = 3 * b + 1 := by simp only [Option.some.injEq] at ho; omega
        subst this
        rw [usesN_run (by omega), show (3 * b + 1) / 3 = b by omega, beq_eq_false_iff_ne]; omega
      · obtain ⟨n1, n2, n3, n4⟩ := h o hon e _ ho
        have hq3 : q / 3 < B := by omega
        have hqc : q / 3 ≠ (b + 1) % B := by omega
        by_cases hm : q % 3 = 2
        · rw [usesN_cross hm, Bool.or_eq_false_iff]
          refine ⟨by simpa using hqc, ?_⟩
          rw [beq_eq_false_iff_ne]
          intro heq
          have hqb : q / 3 = b := by
            by_cases g1 : q / 3 + 1 < B
            · rw [Nat.mod_eq_of_lt g1] at heq
              by_cases g2 : b + 1 < B
              · rw [Nat.mod_eq_of_lt g2] at heq; omega
              · rw [show b + 1 = B by omega, Nat.mod_self] at heq; omega
            · rw [show q / 3 + 1 = B by omega, Nat.mod_self] at heq
              by_cases g2 : b + 1 < B
              · rw [Nat.mod_eq_of_lt g2] at heq; omega
              · omega
          omega
        · rw [usesN_run hm]; simpa using hqc
    rw [hfalse]; decide
/-- the kinds that release are there -/
theorem kind_rel {n B bud t b : Nat} {sec : Bool} (ht : t < n) (hb : b < B) : (⟨1, (t : Int), (b : Int)⟩ : I3) ∈ kindsL n B bud sec ∧ (sec = true → (⟨2, (t : Int), (b : Int)⟩ : I3) ∈ kindsL n B bud sec) := by
  have hm : ∀ j : Nat, j < 4 → (j != 2 || sec) = true → (⟨(j : Int), (t : Int), (b : Int)⟩ : I3) ∈ kindsL n B bud sec := fun j hj hs => by
    rw [kindsL, List.mem_append, trI]
    refine .inl (List.mem_flatMap.2 ⟨t, List.mem_range.2 ht, ?_⟩)
    rw [trB']
    refine List.mem_flatMap.2 ⟨b, List.mem_range.2 hb, ?_⟩
    rw [trK]
    exact List.mem_map.2 ⟨j, List.mem_filter.2 ⟨List.mem_range.2 hj, hs⟩, rfl⟩
  exact ⟨hm 1 (by omega) rfl, fun hs => hm 2 (by omega) (by rw [hs]; rfl)⟩
theorem kind_blind {n B bud : Nat} {sec : Bool} {t b : Int} (h : (⟨2, t, b⟩ : I3) ∈ kindsL n B bud sec) : sec = true := by
  rw [kindsL, List.mem_append] at h
  rcases h with h | h
  · rw [trI] at h
    obtain ⟨i', _, h⟩ := List.mem_flatMap.1 h
    rw [trB'] at h
    obtain ⟨b', _, h⟩ := List.mem_flatMap.1 h
    rw [trK, List.mem_map] at h
    obtain ⟨j, hj, e⟩ := h
    simp only [I3.mk.injEq] at e
    have hj2 : j = 2 := by omega
    subst hj2
    simpa using (List.mem_filter.1 hj).2
  · rw [faI] at h
    obtain ⟨b', _, h⟩ := List.mem_flatMap.1 h
    rw [faB] at h
    obtain ⟨q, _, h⟩ := List.mem_flatMap.1 h
    rw [faK, List.mem_map] at h
    obtain ⟨j, hj, e⟩ := h
    simp only [I3.mk.injEq] at e
    omega
/-- a train that holds is released by an enabled rule exactly if the block in front of it is clear by the report -/
theorem rel_iff {n B bud t b : Nat} {sec : Bool} {v : List Int} (hB : 2 ≤ B) (h : RideI n B bud sec v) (ht : t < n) (hb : b < B) (hv : v[t]? = some (3 * (b : Int) + 1)) {f g : Int} (hf : (repL (repM B (v.take n)) (flsOf (midN n B v))).1[(b + 1) % B]? = some f) (hg : (repL (repM B (v.take n)) (flsOf (midN n B v))).2[(b + 1) % B]? = some g) :
    (∃ (k i j : Nat), (⟨(k : Int), (i : Int), (j : Int)⟩ : I3) ∈ kindsL n B bud sec ∧ i = t ∧ (k = 1 ∨ k = 2) ∧ holdsP v (ruleOf n B k i j).g = true) ↔ (f = 0 ∧ g = 0) := by
  have hC : (b + 1) % B < B := Nat.mod_lt _ (by omega)
  have hlen := h.len
  have hml : (midN n B v).length = B := by rw [midN, List.length_take, List.length_drop]; omega
  obtain ⟨x, hx⟩ : ∃ x, v[n + (b + 1) % B]? = some x := ⟨_, List.getElem?_eq_getElem (by omega)⟩
  have hx4 := h.sv.2 _ x 4 hx (sz_mid hC)
  have hy := repM_at (ps := v.take n) hC
  obtain ⟨r1, r2⟩ := rep_at (by rw [hml, repM, List.length_map, cntL_len]) (by rw [mid_get hC]; exact hx) hy
  rw [hf] at r1
  rw [hg] at r2
  simp only [Option.some.injEq] at r1 r2
  rw [r1, r2, clear_iff hx4 (by split <;> simp)]
  have hun := unused_iff hB hb (by omega) ht hv (fun o z ho hz => h.sv.2 o z _ hz (sz_lo ho))
  have hvb : ∀ j : Nat, v[t]? = some (3 * (j : Int) + 1) → j = b := fun j hj => by rw [hv] at hj; simp only [Option.some.injEq] at hj; omega
  constructor
  · rintro ⟨k, i, j, hm, rfl, hk, hh⟩
    rcases hk with rfl | rfl
    · rw [ruleOf_1] at hh
      have hj : j < B := by
        obtain ⟨k', i', b', e, hr⟩ := kinds_at2 hm
        simp only [I3.mk.injEq] at e
        omega
      obtain ⟨f1, f2, f3, f4⟩ := (free_iff (B := B) (by have := Nat.mod_lt (j + 1) (show 0 < B by omega); omega) ht).1 hh
      obtain rfl := hvb j f1
      refine .inr ⟨fun e => f2 (by rw [hx, e]), ?_⟩
      rw [if_pos (hun.2 f4)]
    · rw [ruleOf_2] at hh
      have g1 : v[i]? = some (3 * (j : Int) + 1) := holds_eq hh (List.mem_cons_self ..) (by omega)
      obtain rfl := hvb j g1
      have g2 : v[n + (j + 1) % B]? = some 3 := by
        refine holds_eq hh (k := n + (j + 1) % B) ?_ (by omega)
        push_cast
        exact List.mem_cons_of_mem _ (List.mem_cons_self ..)
      rw [hx] at g2
      exact .inl (by simpa using g2)
  · intro hcl
    rcases hcl with h3 | ⟨h2, h0⟩
    · have hsec : sec = true := by
        cases sec with
        | true => rfl
        | false => exact absurd (by rw [hx, h3]) (h.blind rfl _ hC)
      refine ⟨2, t, b, (kind_rel ht hb).2 hsec, rfl, .inr rfl, ?_⟩
      rw [ruleOf_2, holdsP, List.all_eq_true]
      intro q hq
      simp only [List.mem_cons, List.not_mem_nil, or_false] at hq
      rcases hq with rfl | rfl
      · simp only [Int.toNat_natCast, List.getD_eq_getElem?_getD, hv]; simp
      · have ec : ((n : Int) + (((b + 1) % B : Nat) : Int)).toNat = n + (b + 1) % B := by omega
        simp only [ec, List.getD_eq_getElem?_getD, hx, h3]; simp
    · by_cases h3 : x = 3
      · have hsec : sec = true := by
          cases sec with
          | true => rfl
          | false => exact absurd (by rw [hx, h3]) (h.blind rfl _ hC)
        refine ⟨2, t, b, (kind_rel ht hb).2 hsec, rfl, .inr rfl, ?_⟩
        rw [ruleOf_2, holdsP, List.all_eq_true]
        intro q hq
        simp only [List.mem_cons, List.not_mem_nil, or_false] at hq
        rcases hq with rfl | rfl
        · simp only [Int.toNat_natCast, List.getD_eq_getElem?_getD, hv]; simp
        · have ec : ((n : Int) + (((b + 1) % B : Nat) : Int)).toNat = n + (b + 1) % B := by omega
          simp only [ec, List.getD_eq_getElem?_getD, hx, h3]; simp
      · refine ⟨1, t, b, (kind_rel ht hb).1, rfl, .inl rfl, ?_⟩
        rw [ruleOf_1, free_iff (B := B) (by omega) ht]
        refine ⟨hv, by rw [hx]; simpa using h2, by rw [hx]; simpa using h3, hun.1 ?_⟩
        by_cases e : cntN B (v.take n) ((b + 1) % B) = 0
        · exact e
        · rw [if_neg e] at h0; cases h0
end Go.Proofs.YtfnamjkmkoldeaaGreatDoor
