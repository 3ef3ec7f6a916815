/- No reachable state of a ride model that begins safe is unsafe, if no block can be blind: plain laws. -/
import Derived.Test.YtfnamjkmkoldeaaGreatDoorQp
namespace Go.Proofs.YtfnamjkmkoldeaaGreatDoor
open Go.RowKit
set_option linter.unusedVariables false
set_option linter.unusedSimpArgs false
theorem countP_set9 {α : Type} (p : α → Bool) : ∀ {l : List α} {i : Nat} {x : α} (a : α), l[i]? = some x → (l.set i a).countP p + (if p x = true then 1 else 0) = l.countP p + if p a = true then 1 else 0
  | [], i, x, a, h => by simp at h
  | y :: r, 0, x, a, h => by
    simp at h; subst h
    rw [List.set_cons_zero, List.countP_cons, List.countP_cons]; omega
  | y :: r, i + 1, x, a, h => by
    have ih := countP_set9 p (l := r) (i := i) a (by simpa using h)
    rw [List.set_cons_succ, List.countP_cons, List.countP_cons]; omega
theorem safeN_iff {B : Nat} {ps : List Int} : safeN B ps = true ↔ ∀ b, b < B → cntN B ps b ≤ 1 := by
  rw [safeN, List.all_eq_true]
  constructor
  · intro h b hb; exact of_decide_eq_true (h b (List.mem_range.2 hb))
  · intro h b hb; exact decide_eq_true (h b (List.mem_range.1 hb))
/-- a train's place changes to one that uses no more -/
theorem safe_less {B i : Nat} {ps : List Int} {x y : Int} (h : safeN B ps = true) (hx : ps[i]? = some x) (hu : ∀ b, b < B → usesN B y.toNat b = true → usesN B x.toNat b = true) : safeN B (ps.set i y) = true := by
  rw [safeN_iff] at h ⊢
  intro b hb
  have h1 := h b hb
  have h2 := countP_set9 (fun p : Int => usesN B p.toNat b) y hx
  have h3 := hu b hb
  rw [cntN] at h1 ⊢
  revert h2
  cases hy : usesN B y.toNat b with
  | true => rw [h3 hy]; intro h2; simp at h2; omega
  | false => intro h2; simp at h2; omega
/-- a train comes to use a block that no train uses -/
theorem safe_more {B i c : Nat} {ps : List Int} {x y : Int} (h : safeN B ps = true) (hx : ps[i]? = some x) (hc : ∀ z ∈ ps, usesN B z.toNat c = false) (hu : ∀ b, b < B → b ≠ c → usesN B y.toNat b = true → usesN B x.toNat b = true) : safeN B (ps.set i y) = true := by
  rw [safeN_iff] at h ⊢
  intro b hb
  have h1 := h b hb
  have h2 := countP_set9 (fun p : Int => usesN B p.toNat b) y hx
  rw [cntN] at h1 ⊢
  by_cases e : b = c
  · subst e
    have h0 : ps.countP (fun p : Int => usesN B p.toNat b) = 0 := List.countP_eq_zero.2 fun z hz => by rw [hc z hz]; decide
    rw [h0] at h2
    revert h2
    cases usesN B y.toNat b <;> cases usesN B x.toNat b <;> intro h2 <;> simp only [Bool.false_eq_true, if_true, if_false] at h2 <;> omega
  · have h3 := hu b hb e
    revert h2
    cases hy : usesN B y.toNat b with
    | true => rw [h3 hy]; intro h2; simp at h2; omega
    | false => intro h2; simp at h2; omega
/-- what stays of a ride state: its traffic is safe, no block is blind, and a second fault cannot come -/
structure SafeI (n B : Nat) (sec : Bool) (v : List Int) : Prop where
  safe : safeN B (v.take n) = true
  blind : ∀ c, c < B → v[n + c]? ≠ some 3
  one : sec = true → v[n + B]? = some 0 ∨ ∀ c, c < B → v[n + c]? = some 0
theorem holds_mem {v : List Int} {g : List I2b} (h : holdsP v g = true) {t : I2b} (ht : t ∈ g) : (v.getD t.a.toNat 0 == t.b) = t.c := by
  rw [holdsP, List.all_eq_true] at h
  have := h t ht
  simpa using this
theorem holds_eq {v : List Int} {g : List I2b} (h : holdsP v g = true) {k : Nat} {x : Int} (ht : (⟨(k : Int), x, true⟩ : I2b) ∈ g) (hk : k < v.length) : v[k]? = some x := by
  have h1 := holds_mem h ht
  simp only [Int.toNat_natCast, beq_iff_eq] at h1
  rw [List.getD_eq_getElem?_getD, List.getElem?_eq_getElem hk] at h1
  rw [List.getElem?_eq_getElem hk, ← h1]; rfl
theorem holds_ne {v : List Int} {g : List I2b} (h : holdsP v g = true) {k : Nat} {x y : Int} (ht : (⟨(k : Int), x, false⟩ : I2b) ∈ g) (hy : v[k]? = some y) : y ≠ x := by
  have h1 := holds_mem h ht
  simp only [Int.toNat_natCast, beq_eq_false_iff_ne, ne_eq] at h1
  rw [List.getD_eq_getElem?_getD, hy] at h1
  exact h1
theorem SafeI.train {n B : Nat} {sec : Bool} {v : List Int} (h : SafeI n B sec v) {i : Nat} {y : Int} (hi : i < n) (hs : safeN B ((v.take n).set i y) = true) : SafeI n B sec (v.set i y) := by
  have e : ∀ c, (v.set i y)[n + c]? = v[n + c]? := fun c => by rw [List.getElem?_set, if_neg (by omega)]
  refine ⟨by rw [List.take_set]; exact hs, fun c hc => by rw [e]; exact h.blind c hc, fun hsec => ?_⟩
  rcases h.one hsec with h1 | h1
  · exact .inl (by rw [e]; exact h1)
  · exact .inr fun c hc => by rw [e]; exact h1 c hc
theorem SafeI.fault {n B : Nat} {sec : Bool} {v : List Int} (h : SafeI n B sec v) {i q : Nat} {y : Int} (hi : i < B) (hlen : v.length = n + B + 1) (hy : y ≠ 3) (hq : sec = true → q = 1) : SafeI n B sec (applyP v [⟨(n : Int) + i, y⟩, ⟨(n : Int) + B, (q : Int) - 1⟩]) := by
  have e1 : ((n : Int) + (i : Int)).toNat = n + i := by omega
  have e2 : ((n : Int) + (B : Int)).toNat = n + B := by omega
  simp only [applyP, List.foldl_cons, List.foldl_nil, e1, e2]
  refine ⟨?_, fun c hc hv => ?_, fun hsec => .inl ?_⟩
  · rw [List.take_set, List.take_set, List.set_eq_of_length_le (by rw [List.length_set, List.length_take]; omega), List.set_eq_of_length_le (by rw [List.length_take]; omega)]
    exact h.safe
  · rw [List.getElem?_set, if_neg (by omega), List.getElem?_set] at hv
    split at hv
    · split at hv
      · simp only [Option.some.injEq] at hv; exact hy hv
      · cases hv
    · exact h.blind c hc hv
  · rw [List.getElem?_set, if_pos rfl, if_pos (by simp; omega), hq hsec]; simp
theorem SafeI.step {n B bud : Nat} {sec : Bool} {v : List Int} (hB : 2 ≤ B) (hok : sec = true → bud ≤ 1) (h : SafeI n B sec v) (hv : SV (rideSz n B bud) v) {r : RuD} (hr : r ∈ rideRs n B bud sec) (hg : holdsP v r.g = true) : SafeI n B sec (applyP v r.e) := by
  have hlen : v.length = n + B + 1 := by rw [hv.1, sz_len]
  have hT : ∀ i, i < n → (v.take n)[i]? = v[i]? := fun i hi => by rw [List.getElem?_take, if_pos hi]
  rw [rideRs_eq] at hr
  obtain ⟨x, hx, rfl⟩ := List.mem_map.1 hr
  have hx2 := hx
  obtain ⟨k, i, b, rfl, hkib⟩ := kinds_at2 hx
  simp only [ruleX, Int.toNat_natCast] at hg ⊢
  rcases hkib with ⟨hk, hi, hb⟩ | ⟨hk, hk6, hi, hb1, hb⟩
  · have hC : (b + 1) % B < B := Nat.mod_lt _ (by omega)
    have hne := next_ne hB hb
    have hk4 : k = 0 ∨ k = 1 ∨ k = 2 ∨ k = 3 := by omega
    rcases hk4 with rfl | rfl | rfl | rfl
    · rw [ruleOf_0] at hg ⊢
      have h1 : v[i]? = some (3 * (b : Int)) := holds_eq hg (List.mem_cons_self ..) (by omega)
      show SafeI n B sec (v.set ((i : Int)).toNat _)
      rw [Int.toNat_natCast]
      refine h.train hi (safe_less h.safe ((hT i hi).trans h1) fun b' _ hu => ?_)
      have e1 : (3 * (b : Int)).toNat = 3 * b := by omega
      have e2 : (3 * (b : Int) + 1).toNat = 3 * b + 1 := by omega
      rw [e2, usesN_run (by omega)] at hu
      rw [e1, usesN_run (by omega)]
      rw [show (3 * b + 1) / 3 = b by omega] at hu
      rw [show 3 * b / 3 = b by omega]; exact hu
    · rw [ruleOf_1] at hg ⊢
      have h1 : v[i]? = some (3 * (b : Int) + 1) := holds_eq hg (by rw [freeL]; simp) (by omega)
      show SafeI n B sec (v.set ((i : Int)).toNat _)
      rw [Int.toNat_natCast]
      have e1 : (3 * (b : Int) + 1).toNat = 3 * b + 1 := by omega
      have e2 : (3 * (b : Int) + 2).toNat = 3 * b + 2 := by omega
      refine h.train hi (safe_more (c := (b + 1) % B) h.safe ((hT i hi).trans h1) (fun z hz => ?_) fun b' _ hne' hu => ?_)
      · obtain ⟨j, hj⟩ := List.getElem?_of_mem hz
        have hjn : j < n := by
          have := (List.getElem?_eq_some_iff.1 hj).1
          rw [List.length_take] at this; omega
        rw [hT j hjn] at hj
        by_cases e : j = i
        · subst e
          rw [h1] at hj
          cases hj
          rw [e1, usesN_run (by omega), show (3 * b + 1) / 3 = b by omega]
          simp; omega
        · have hmem : ∀ t ∈ freeO i b ((b + 1) % B) j, t ∈ freeL n i b ((b + 1) % B) n := fun t ht => by
            rw [freeL]
            exact List.mem_append_right _ (List.mem_flatMap.2 ⟨j, List.mem_range.2 hjn, ht⟩)
          rw [freeO, if_neg e] at hmem
          have n1 := holds_ne hg (hmem ⟨(j : Int), 3 * (b : Int) + 2, false⟩ (by simp)) hj
          have n2 := holds_ne hg (hmem ⟨(j : Int), 3 * (((b + 1) % B : Nat) : Int), false⟩ (by simp)) hj
          have n3 := holds_ne hg (hmem ⟨(j : Int), 3 * (((b + 1) % B : Nat) : Int) + 1, false⟩ (by simp)) hj
          have n4 := holds_ne hg (hmem ⟨(j : Int), 3 * (((b + 1) % B : Nat) : Int) + 2, false⟩ (by simp)) hj
          have hz2 := hv.2 j z _ hj (sz_lo hjn)
          obtain ⟨q, rfl⟩ := Int.eq_ofNat_of_zero_le hz2.1
          rw [Int.toNat_natCast]
          have hq3 : q / 3 < B := by omega
          have hqc : q / 3 ≠ (b + 1) % B := by omega
          by_cases hm : q % 3 = 2
          · rw [usesN_cross hm, Bool.or_eq_false_iff]
            refine ⟨by simpa using hqc, ?_⟩
            rw [beq_eq_false_iff_ne]
            intro heq
            have hqb : q / 3 = b := by
              by_cases g1 : q / 3 + 1 < B
              · rw [Nat.mod_eq_of_lt g1] at heq
                by_cases g2 : b + 1 < B
                · rw [Nat.mod_eq_of_lt g2] at heq; omega
                · rw [show b + 1 = B by omega, Nat.mod_self] at heq; omega
              · rw [show q / 3 + 1 = B by omega, Nat.mod_self] at heq
                by_cases g2 : b + 1 < B
                · rw [Nat.mod_eq_of_lt g2] at heq; omega
                · omega
            omega
          · rw [usesN_run hm]; simpa using hqc
      · rw [e2, usesN_cross (by omega), show (3 * b + 2) / 3 = b by omega] at hu
        rw [e1, usesN_run (by omega), show (3 * b + 1) / 3 = b by omega]
        simp only [Bool.or_eq_true, beq_iff_eq] at hu ⊢
        rcases hu with hu | hu
        · exact hu
        · exact absurd hu.symm hne'
    · rw [ruleOf_2] at hg
      have h3 : v[n + (b + 1) % B]? = some 3 := by
        refine holds_eq hg (k := n + (b + 1) % B) ?_ (by omega)
        push_cast
        exact List.mem_cons_of_mem _ (List.mem_cons_self ..)
      exact absurd h3 (h.blind _ hC)
    · rw [ruleOf_3] at hg ⊢
      have h1 : v[i]? = some (3 * (b : Int) + 2) := holds_eq hg (List.mem_cons_self ..) (by omega)
      show SafeI n B sec (v.set ((i : Int)).toNat _)
      rw [Int.toNat_natCast]
      refine h.train hi (safe_less h.safe ((hT i hi).trans h1) fun b' _ hu => ?_)
      have e1 : (3 * (b : Int) + 2).toNat = 3 * b + 2 := by omega
      have e2 : (3 * (((b + 1) % B : Nat) : Int)).toNat = 3 * ((b + 1) % B) := by omega
      rw [e2, usesN_run (by omega), show 3 * ((b + 1) % B) / 3 = (b + 1) % B by omega] at hu
      rw [e1, usesN_cross (by omega), show (3 * b + 2) / 3 = b by omega, hu, Bool.or_true]
  · have hq : sec = true → b = 1 := fun hs => by have := hok hs; omega
    have hk4 : k = 4 ∨ k = 5 ∨ k = 6 := by omega
    rcases hk4 with rfl | rfl | rfl
    · rw [ruleOf_4]; exact h.fault hi hlen (by decide) hq
    · rw [ruleOf_5]; exact h.fault hi hlen (by decide) hq
    · rw [ruleOf_6] at hg
      have g1 : v[n + i]? = some 1 := by
        refine holds_eq hg (k := n + i) ?_ (by omega)
        push_cast
        exact List.mem_cons_self ..
      have g2 : v[n + B]? = some (b : Int) := by
        refine holds_eq hg (k := n + B) ?_ (by omega)
        push_cast
        exact List.mem_cons_of_mem _ (List.mem_cons_self ..)
      have hsec : sec = true := by
        rw [kindsL, List.mem_append] at hx2
        rcases hx2 with hx2 | hx2
        · rw [trI] at hx2
          obtain ⟨i', _, hx2⟩ := List.mem_flatMap.1 hx2
          rw [trB'] at hx2
          obtain ⟨b', _, hx2⟩ := List.mem_flatMap.1 hx2
          rw [trK, List.mem_map] at hx2
          obtain ⟨j, hj, e⟩ := hx2
          have := List.mem_range.1 (List.mem_filter.1 hj).1
          simp only [I3.mk.injEq] at e
          omega
        · rw [faI] at hx2
          obtain ⟨b', _, hx2⟩ := List.mem_flatMap.1 hx2
          rw [faB] at hx2
          obtain ⟨q, _, hx2⟩ := List.mem_flatMap.1 hx2
          rw [faK, List.mem_map] at hx2
          obtain ⟨j, hj, e⟩ := hx2
          simp only [I3.mk.injEq] at e
          have hj2 : j = 2 := by omega
          subst hj2
          have := (List.mem_filter.1 hj).2
          simpa using this
      rcases h.one hsec with o1 | o1
      · rw [g2] at o1; simp at o1; omega
      · rw [o1 i hi] at g1; simp at g1
theorem safe_add {n B : Nat} {sec : Bool} {i : Nat} {x : SN} {L : List SN} {r : Nat × List Int} (h : ∀ y ∈ L, SafeI n B sec y.v) (hr : SafeI n B sec r.2) : ∀ y ∈ addN i x L r, SafeI n B sec y.v := by
  intro y hy
  rw [addN] at hy
  split at hy
  · exact h y hy
  · rcases List.mem_append.1 hy with hy | hy
    · exact h y hy
    · simp at hy; subst hy; exact hr
theorem safe_fold {n B : Nat} {sec : Bool} {i : Nat} {x : SN} : ∀ {l : List (Nat × List Int)} {L : List SN}, (∀ y ∈ L, SafeI n B sec y.v) → (∀ r ∈ l, SafeI n B sec r.2) → ∀ y ∈ l.foldl (addN i x) L, SafeI n B sec y.v
  | [], L, h, _ => h
  | r :: l, L, h, hl => by
    rw [List.foldl_cons]
    exact safe_fold (safe_add h (hl r (List.mem_cons_self ..))) fun q hq => hl q (List.mem_cons_of_mem _ hq)
theorem safe_run {n B bud : Nat} {sec : Bool} (hB : 2 ≤ B) (hok : sec = true → bud ≤ 1) (hru : ∀ r ∈ rideRs n B bud sec, RuV (rideSz n B bud) r) : ∀ (f i : Nat) {L M : List SN}, SNs (rideSz n B bud) L → (∀ y ∈ L, SafeI n B sec y.v) → runN9 (rideRs n B bud sec) f i L = some M → ∀ y ∈ M, SafeI n B sec y.v
  | 0, _, _, _, _, _, h => by cases h
  | f + 1, i, L, M, hS, hL, h => by
    rw [runN9] at h
    split at h
    · cases h; exact hL
    · rename_i x hx
      split at h
      · cases h
      · have hxm := List.mem_of_getElem? hx
        refine safe_run hB hok hru f (i + 1) (hS.exp hru hx) (safe_fold hL fun r hr => ?_) h
        rw [nextP] at hr
        obtain ⟨q, hq, rfl⟩ := List.mem_map.1 hr
        rw [enabP, List.mem_filter, List.mem_range] at hq
        have hm : (rideRs n B bud sec).getD q zRu ∈ rideRs n B bud sec := by
          rw [List.getD_eq_getElem?_getD, List.getElem?_eq_getElem hq.1]; exact List.getElem_mem hq.1
        exact (hL x hxm).step hB hok (hS.sv x hxm) hm hq.2
/-- the number of reachable states whose traffic is not safe -/
def cuN (b : Int) (l : List Int) (bud : Int) (sec : Bool) : Int := if rsC b l bud sec = 0 then ((((rsR b l bud sec).getD []).countP fun x => unsN b.toNat l.length x.v : Nat) : Int) else 0
theorem cu_bad {b : Int} {l : List Int} {bud : Int} {sec : Bool} (h : rsC b l bud sec ≠ 0) : cuN b l bud sec = 0 := by rw [cuN, if_neg h]
theorem cu_of {b : Int} {l : List Int} {bud : Int} {sec : Bool} {L : List SN} (h : rsC b l bud sec = 0) (hL : rsR b l bud sec = some L) : cuN b l bud sec = ((L.countP fun x => unsN b.toNat l.length x.v : Nat) : Int) := by rw [cuN, if_pos h, hL]; rfl
theorem rsR_some {b : Int} {l : List Int} {bud : Int} {sec : Bool} (h : rsC b l bud sec = 0) : ∃ L, rsR b l bud sec = some L := by
  have h0 := rsC_zero h
  rw [rsC, if_pos h0] at h
  cases hr : rsR b l bud sec with
  | none => rw [hr] at h; cases h
  | some L => exact ⟨L, rfl⟩
theorem rsC_traf {b : Int} {l : List Int} {bud : Int} {sec : Bool} (h : rsC b l bud sec = 0) : trafB b l = true := by
  have h0 := rsC_zero h
  rw [rdC] at h0
  split at h0
  · cases h0
  · rename_i ht; simpa using ht
/-- from a safe traffic, if no block can be blind, only safe ones are reached -/
theorem cu_zero {b : Int} {l : List Int} {bud : Int} {sec : Bool} (h : rsC b l bud sec = 0) (hs : safeN b.toNat l = true) (hok : sec = true → bud ≠ 2) : cuN b l bud sec = 0 := by
  obtain ⟨L, hL⟩ := rsR_some h
  have h0 := rsC_zero h
  rw [cu_of h hL]
  obtain ⟨e1, e2, e3⟩ := ride_gives (sec := sec) h0
  obtain ⟨g1, g2, g3, g4, g5, g6⟩ := rdC_ok h0
  have ht : trafB b l = true := by
    rw [rdC] at h0
    split at h0
    · cases h0
    · rename_i ht; simpa using ht
  obtain ⟨_, _, _, _, h5⟩ := trafB_split ht
  have hst : SV (rideSz l.length b.toNat bud.toNat) (rideSt l b.toNat bud.toNat) := st_sv rfl fun x hx => by have := h5 x hx; omega
  have hru : ∀ r ∈ rideRs l.length b.toNat bud.toNat sec, RuV (rideSz l.length b.toNat bud.toNat) r :=
    fun r hr => ruV_of (rideRs_ok (by omega) (by omega) (by omega) (by omega) r hr)
  have hi : SafeI l.length b.toNat sec (rideSt l b.toNat bud.toNat) := by
    have hz : ∀ c, c < b.toNat → (rideSt l b.toNat bud.toNat)[l.length + c]? = some 0 := fun c hc => by
      rw [rideSt, List.getElem?_append_right (by omega), Nat.add_sub_cancel_left, List.getElem?_append_left (by simpa using hc)]
      simp [hc]
    refine ⟨by rw [rideSt, List.take_left']; exact hs; rfl, fun c hc e => ?_, fun _ => .inr hz⟩
    rw [hz c hc] at e; cases e
  rw [rsR, bfsP, e2, e3] at hL
  have hall := safe_run (by omega) (fun hs => by have := hok hs; omega) hru _ _ (SNs.start hst) (fun y hy => by simp at hy; subst hy; exact hi) hL
  have : L.countP (fun x => unsN b.toNat l.length x.v) = 0 := List.countP_eq_zero.2 fun x hx => by
    rw [unsN, (hall x hx).safe]; decide
  rw [this]; rfl
end Go.Proofs.YtfnamjkmkoldeaaGreatDoor
