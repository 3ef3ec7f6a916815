/- A ride model is a valid model: plain laws.; What a valid model, and a valid ride model, gives: plain laws.; A state of a ride model is a ride state: plain law. -/
import Derived.Test.YtfnamjkmkoldeaaGreatDoorQo
import Derived.Test.YtfnamjkmkoldeaaGreatDoorQe
import Derived.Test.YtfnamjkmkoldeaaGreatDoorQb
import Derived.Test.YtfnamjkmkoldeaaGreatDoorQj
import Derived.Test.YtfnamjkmkoldeaaGreatDoorL24b
namespace Go.Proofs.YtfnamjkmkoldeaaGreatDoor
open Go.RowKit
set_option linter.unusedVariables false
set_option linter.unusedSimpArgs false
theorem sz_len (n B bud : Nat) : (rideSz n B bud).length = n + B + 1 := by simp [rideSz]; omega
theorem sz_lo {n B bud i : Nat} (h : i < n) : (rideSz n B bud)[i]? = some (3 * (B : Int)) := by
  rw [rideSz, List.getElem?_append_left (by simpa using h)]; simp [h]
theorem sz_mid {n B bud i : Nat} (h : i < B) : (rideSz n B bud)[n + i]? = some 4 := by
  rw [rideSz, List.getElem?_append_right (by simp), List.length_replicate, Nat.add_sub_cancel_left, List.getElem?_append_left (by simpa using h)]; simp [h]
theorem sz_hi (n B bud : Nat) : (rideSz n B bud)[n + B]? = some ((bud : Int) + 1) := by
  rw [rideSz, List.getElem?_append_right (by simp), List.length_replicate, Nat.add_sub_cancel_left, List.getElem?_append_right (by simp)]; simp
theorem has_at {sz : List Int} {v : Int} {k : Nat} {x z : Int} (hv : v = (k : Int)) (hz : sz[k]? = some z) (h0 : 0 ≤ x) (h1 : x < z) : hasB sz v x = true := by
  subst hv
  rw [hasB_yes hz, inB]; simp; omega
theorem has_lo {n B bud i : Nat} {x : Int} (h : i < n) (h0 : 0 ≤ x) (h1 : x < 3 * (B : Int)) : hasB (rideSz n B bud) (i : Int) x = true := has_at rfl (sz_lo h) h0 h1
theorem has_mid {n B bud i : Nat} {x : Int} (h : i < B) (h0 : 0 ≤ x) (h1 : x < 4) : hasB (rideSz n B bud) ((n : Int) + (i : Int)) x = true := has_at (by omega) (sz_mid h) h0 h1
theorem has_hi {n B bud : Nat} {x : Int} (h0 : 0 ≤ x) (h1 : x < (bud : Int) + 1) : hasB (rideSz n B bud) ((n : Int) + (B : Int)) x = true := has_at (by omega) (sz_hi n B bud) h0 h1
theorem rnm_ok {k i b : Nat} (hk : k < 7) (hi : i < 10) (hb : b < 10) : nameB (rnm k i b) = true := by
  have h : ∀ k : Fin 7, ∀ i : Fin 10, ∀ b : Fin 10, nameB (rnm k.val i.val b.val) = true := by decide +kernel
  exact h ⟨k, hk⟩ ⟨i, hi⟩ ⟨b, hb⟩
theorem eff1 {sz : List Int} {a : I2} (h : hasB sz a.a a.b = true) : effB sz [a] = true := by
  rw [effB, upB]; simp [effAt, h, List.range, List.range.loop]
theorem eff2 {sz : List Int} {a b : I2} (h : hasB sz a.a a.b = true) (h' : hasB sz b.a b.b = true) (hl : a.a < b.a) : effB sz [a, b] = true := by
  rw [effB, upB]; simp [effAt, h, h', hl, List.range, List.range.loop]
theorem ruleOf_0 (n B i b : Nat) : ruleOf n B 0 i b = ⟨rnm 0 i b, [⟨i, 3 * (b : Int), true⟩], [⟨i, 3 * (b : Int) + 1⟩]⟩ := rfl
theorem ruleOf_1 (n B i b : Nat) : ruleOf n B 1 i b = ⟨rnm 1 i b, freeL n i b ((b + 1) % B) n, [⟨i, 3 * (b : Int) + 2⟩]⟩ := rfl
theorem ruleOf_2 (n B i b : Nat) : ruleOf n B 2 i b = ⟨rnm 2 i b, [⟨i, 3 * (b : Int) + 1, true⟩, ⟨(n : Int) + ((b + 1) % B : Nat), 3, true⟩], [⟨i, 3 * (b : Int) + 2⟩]⟩ := rfl
theorem ruleOf_3 (n B i b : Nat) : ruleOf n B 3 i b = ⟨rnm 3 i b, [⟨i, 3 * (b : Int) + 2, true⟩], [⟨i, 3 * (((b + 1) % B : Nat) : Int)⟩]⟩ := rfl
theorem ruleOf_4 (n B i b : Nat) : ruleOf n B 4 i b = ⟨rnm 4 i b, [⟨(n : Int) + i, 0, true⟩, ⟨(n : Int) + B, b, true⟩], [⟨(n : Int) + i, 1⟩, ⟨(n : Int) + B, (b : Int) - 1⟩]⟩ := rfl
theorem ruleOf_5 (n B i b : Nat) : ruleOf n B 5 i b = ⟨rnm 5 i b, [⟨(n : Int) + i, 0, true⟩, ⟨(n : Int) + B, b, true⟩], [⟨(n : Int) + i, 2⟩, ⟨(n : Int) + B, (b : Int) - 1⟩]⟩ := rfl
theorem ruleOf_6 (n B i b : Nat) : ruleOf n B 6 i b = ⟨rnm 6 i b, [⟨(n : Int) + i, 1, true⟩, ⟨(n : Int) + B, b, true⟩], [⟨(n : Int) + i, 3⟩, ⟨(n : Int) + B, (b : Int) - 1⟩]⟩ := rfl
theorem ruleB_of {sz : List Int} {nm : ByteArray} {g : List I2b} {e : List I2} (h1 : effB sz e = true) (h2 : nameB nm = true) (h3 : g.length ≤ 24) (h4 : ∀ t ∈ g, hasB sz t.a t.b = true) (h5 : e.length ≤ 4) : ruleB sz ⟨nm, g, e⟩ = true := by
  simp only [ruleB, testsB, h1, h2, decide_eq_true h3, decide_eq_true h5, Bool.true_and, Bool.and_true, List.all_eq_true]
  exact h4
theorem ruleOf_ok {n B bud k i b : Nat} (hn : n ≤ 4) (hB : 2 ≤ B) (hB8 : B ≤ 8) (hbud : bud ≤ 2) (h : (k ≤ 3 ∧ i < n ∧ b < B) ∨ (4 ≤ k ∧ k ≤ 6 ∧ i < B ∧ 1 ≤ b ∧ b ≤ bud)) : ruleB (rideSz n B bud) (ruleOf n B k i b) = true := by
  rcases h with ⟨hk, hi, hb⟩ | ⟨hk, hk6, hi, hb1, hb⟩
  · have hC : (b + 1) % B < B := Nat.mod_lt _ (by omega)
    have hnm := fun (k : Nat) (h : k < 7) => rnm_ok (k := k) (i := i) (b := b) h (by omega) (by omega)
    have E := fun (x : Int) (h0 : 0 ≤ x) (h1 : x < 3 * (B : Int)) => eff1 (sz := rideSz n B bud) (a := ⟨(i : Int), x⟩) (has_lo hi h0 h1)
    have : k = 0 ∨ k = 1 ∨ k = 2 ∨ k = 3 := by omega
    rcases this with rfl | rfl | rfl | rfl
    · rw [ruleOf_0]
      refine ruleB_of (E _ (by omega) (by omega)) (hnm 0 (by omega)) (by simp) ?_ (by simp)
      intro t ht
      simp only [List.mem_cons, List.not_mem_nil, or_false] at ht
      subst ht
      exact has_lo hi (by simp only; omega) (by simp only; omega)
    · have hf := freeL_len n i b ((b + 1) % B) n
      rw [ruleOf_1]
      refine ruleB_of (E _ (by omega) (by omega)) (hnm 1 (by omega)) (by omega) ?_ (by simp)
      intro t ht
      rw [freeL, List.mem_append] at ht
      rcases ht with ht | ht
      · simp only [List.mem_cons, List.not_mem_nil, or_false] at ht
        rcases ht with rfl | rfl | rfl
        · exact has_lo hi (by simp only; omega) (by simp only; omega)
        · exact has_mid hC (by simp) (by simp)
        · exact has_mid hC (by simp) (by simp)
      · obtain ⟨o, ho, ht⟩ := List.mem_flatMap.1 ht
        have ho' := List.mem_range.1 ho
        rw [freeO] at ht
        split at ht
        · cases ht
        · simp only [List.mem_cons, List.not_mem_nil, or_false] at ht
          rcases ht with rfl | rfl | rfl | rfl <;> exact has_lo ho' (by simp only; omega) (by simp only; omega)
    · rw [ruleOf_2]
      refine ruleB_of (E _ (by omega) (by omega)) (hnm 2 (by omega)) (by simp) ?_ (by simp)
      intro t ht
      simp only [List.mem_cons, List.not_mem_nil, or_false] at ht
      rcases ht with rfl | rfl
      · exact has_lo hi (by simp only; omega) (by simp only; omega)
      · exact has_mid hC (by simp) (by simp)
    · rw [ruleOf_3]
      refine ruleB_of (E _ (by omega) (by omega)) (hnm 3 (by omega)) (by simp) ?_ (by simp)
      intro t ht
      simp only [List.mem_cons, List.not_mem_nil, or_false] at ht
      subst ht
      exact has_lo hi (by simp only; omega) (by simp only; omega)
  · have hnm := fun (k : Nat) (h : k < 7) => rnm_ok (k := k) (i := i) (b := b) h (by omega) (by omega)
    have hl : ((n : Int) + (i : Int)) < (n : Int) + (B : Int) := by omega
    have E := fun (x : Int) (h0 : 0 ≤ x) (h1 : x < 4) => eff2 (sz := rideSz n B bud) (a := ⟨(n : Int) + i, x⟩) (b := ⟨(n : Int) + B, (b : Int) - 1⟩) (has_mid hi h0 h1) (has_hi (by simp only; omega) (by simp only; omega)) hl
    have G := fun (x : Int) (h0 : 0 ≤ x) (h1 : x < 4) (t : I2b) (ht : t ∈ ([⟨(n : Int) + i, x, true⟩, ⟨(n : Int) + B, b, true⟩] : List I2b)) => (show hasB (rideSz n B bud) t.a t.b = true by
      simp only [List.mem_cons, List.not_mem_nil, or_false] at ht
      rcases ht with rfl | rfl
      · exact has_mid hi h0 h1
      · exact has_hi (by simp only; omega) (by simp only; omega))
    have : k = 4 ∨ k = 5 ∨ k = 6 := by omega
    rcases this with rfl | rfl | rfl
    · rw [ruleOf_4]; exact ruleB_of (E _ (by omega) (by omega)) (hnm 4 (by omega)) (by simp) (G _ (by omega) (by omega)) (by simp)
    · rw [ruleOf_5]; exact ruleB_of (E _ (by omega) (by omega)) (hnm 5 (by omega)) (by simp) (G _ (by omega) (by omega)) (by simp)
    · rw [ruleOf_6]; exact ruleB_of (E _ (by omega) (by omega)) (hnm 6 (by omega)) (by simp) (G _ (by omega) (by omega)) (by simp)
/-- where the kinds lie, the faults' numbers too -/
theorem kinds_at2 {n B bud : Nat} {sec : Bool} {x : I3} (hx : x ∈ kindsL n B bud sec) : ∃ k i b : Nat, x = ⟨k, i, b⟩ ∧ ((k ≤ 3 ∧ i < n ∧ b < B) ∨ (4 ≤ k ∧ k ≤ 6 ∧ i < B ∧ 1 ≤ b ∧ b ≤ bud)) := by
  rw [kindsL, List.mem_append] at hx
  rcases hx with hx | hx
  · rw [trI] at hx
    obtain ⟨i, hi, hx⟩ := List.mem_flatMap.1 hx
    rw [trB'] at hx
    obtain ⟨b, hb, hx⟩ := List.mem_flatMap.1 hx
    rw [trK, List.mem_map] at hx
    obtain ⟨j, hj, rfl⟩ := hx
    have := List.mem_range.1 hi
    have := List.mem_range.1 hb
    have := List.mem_range.1 (List.mem_filter.1 hj).1
    exact ⟨j, i, b, rfl, .inl (by omega)⟩
  · rw [faI] at hx
    obtain ⟨b, hb, hx⟩ := List.mem_flatMap.1 hx
    rw [faB] at hx
    obtain ⟨q, hq, hx⟩ := List.mem_flatMap.1 hx
    rw [faK, List.mem_map] at hx
    obtain ⟨j, hj, rfl⟩ := hx
    have := List.mem_range.1 hb
    have := List.mem_range.1 hq
    have := List.mem_range.1 (List.mem_filter.1 hj).1
    exact ⟨4 + j, b, bud - q, by simp, .inr (by omega)⟩
theorem rideRs_ok {n B bud : Nat} {sec : Bool} (hn : n ≤ 4) (hB : 2 ≤ B) (hB8 : B ≤ 8) (hbud : bud ≤ 2) : ∀ r ∈ rideRs n B bud sec, ruleB (rideSz n B bud) r = true := by
  intro r hr
  rw [rideRs_eq] at hr
  obtain ⟨x, hx, rfl⟩ := List.mem_map.1 hr
  obtain ⟨k, i, b, rfl, h⟩ := kinds_at2 hx
  simp only [ruleX, Int.toNat_natCast]
  exact ruleOf_ok hn hB hB8 hbud h
/-- the start of a ride model -/
theorem st_sv {n B bud : Nat} {l : List Int} (hl : l.length = n) (h : ∀ x ∈ l, 0 ≤ x ∧ x ≤ 3 * (B : Int) - 1) : SV (rideSz n B bud) (rideSt l B bud) := by
  refine ⟨by rw [sz_len, rideSt]; simp [hl]; omega, fun k x z hx hz => ?_⟩
  rw [rideSt] at hx
  by_cases h1 : k < n
  · rw [List.getElem?_append_left (by omega)] at hx
    rw [sz_lo h1] at hz
    cases hz
    have := h x (List.mem_of_getElem? hx)
    omega
  · rw [List.getElem?_append_right (by omega), hl] at hx
    by_cases h2 : k - n < B
    · rw [List.getElem?_append_left (by simpa using h2)] at hx
      have e : k = n + (k - n) := by omega
      rw [e, sz_mid h2] at hz
      simp [List.getElem?_replicate, h2] at hx
      cases hz
      omega
    · rw [List.getElem?_append_right (by simp; omega), List.length_replicate] at hx
      have h3 : k - n - B = 0 := by
        have := (List.getElem?_eq_some_iff.1 hx).1
        simp at this; omega
      have e : k = n + B := by omega
      rw [e, sz_hi] at hz
      rw [h3] at hx
      simp at hx
      cases hz
      omega
theorem stateB_of {sz v : List Int} (h : SV sz v) : stateB sz v = true := by
  rw [stateB_eq h.1, upB, List.all_eq_true]
  intro i hi
  have hi' := List.mem_range.1 hi
  have e1 := List.getElem?_eq_getElem hi'
  have e2 := List.getElem?_eq_getElem (show i < sz.length by rw [← h.1]; exact hi')
  have h1 := h.2 i _ _ e1 e2
  rw [List.getD_eq_getElem?_getD, e1]
  exact has_at rfl e2 h1.1 h1.2
theorem ride_ok {n B bud : Nat} {sec : Bool} {l : List Int} {L : List (RM × RuD)} (hL : L.map (·.2) = rideRs n B bud sec) (hl : l.length = n) (h : ∀ x ∈ l, 0 ≤ x ∧ x ≤ 3 * (B : Int) - 1) (hn1 : 1 ≤ n) (hn : n ≤ 4) (hB : 2 ≤ B) (hB8 : B ≤ 8) (hbud : bud ≤ 2) : modelB (rideSz n B bud) (rideSt l B bud) L = true := by
  have hlen : L.length ≤ 200 := by
    have h1 := rideRs_len (n := n) (B := B) (bud := bud) (sec := sec) hn hB8 hbud
    rw [← hL, List.length_map] at h1
    omega
  have hr : rulesB (rideSz n B bud) L = true := by
    rw [rulesB, List.all_eq_true]
    intro x hx
    refine rideRs_ok hn hB hB8 hbud x.2 ?_ (sec := sec)
    rw [← hL]; exact List.mem_map_of_mem hx
  have ha : allIn 1 32 (rideSz n B bud) = true := by
    rw [allIn, List.all_eq_true]
    intro x hx
    rw [rideSz] at hx
    simp only [List.mem_append, List.mem_replicate, List.mem_singleton] at hx
    simp only [inB, Bool.and_eq_true, decide_eq_true_eq]
    omega
  rw [modelB, sz_len, ha, stateB_of (st_sv hl h), hr, decide_eq_true hlen]
  simp [inB]; omega
/-- what the search needs of a valid rule -/
theorem ruV_of {sz : List Int} {r : RuD} (h : ruleB sz r = true) : RuV sz r := by
  simp only [ruleB, Bool.and_eq_true, testsB, decide_eq_true_eq, List.all_eq_true] at h
  obtain ⟨he, _, ⟨_, hg⟩, _⟩ := h
  have hh : ∀ {v x : Int}, hasB sz v x = true → 0 ≤ v ∧ v < sz.length ∧ ∀ z, sz[v.toNat]? = some z → 0 ≤ x ∧ x < z := fun {v x} h => by
    simp only [hasB, inB, Bool.and_eq_true, decide_eq_true_eq] at h
    refine ⟨by omega, by omega, fun z hz => ?_⟩
    rw [List.getD_eq_getElem?_getD, hz] at h
    simp at h; omega
  refine ⟨fun t ht => ⟨(hh (hg t ht)).1, (hh (hg t ht)).2.1⟩, fun a ha => ?_⟩
  obtain ⟨k, hk⟩ := List.getElem?_of_mem ha
  rw [effB, upB, List.all_eq_true] at he
  have h1 := he k (List.mem_range.2 (List.getElem?_eq_some_iff.1 hk).1)
  rw [effAt, Bool.and_eq_true, getD2_of hk] at h1
  exact hh h1.1
end Go.Proofs.YtfnamjkmkoldeaaGreatDoor
namespace Go.Proofs.YtfnamjkmkoldeaaGreatDoor
open Go.RowKit
set_option linter.unusedVariables false
set_option linter.unusedSimpArgs false
theorem sv_of_stateB {sz v : List Int} (h : stateB sz v = true) : SV sz v := by
  by_cases hl : v.length = sz.length
  · rw [stateB_eq hl, upB, List.all_eq_true] at h
    refine ⟨hl, fun k x z hx hz => ?_⟩
    have h1 := h k (List.mem_range.2 (List.getElem?_eq_some_iff.1 hx).1)
    rw [getD_of hx] at h1
    rw [hasB_yes (x := x) hz, inB, Bool.and_eq_true, decide_eq_true_eq, decide_eq_true_eq] at h1
    omega
  · rw [stateB_ne hl] at h; cases h
/-- what a valid model gives its search -/
theorem model_gives {sz st : List Int} {l : List (RM × RuD)} (h : modelB sz st l = true) : (∀ z ∈ sz, z ≤ 256) ∧ SV sz st ∧ (∀ r ∈ l.map (·.2), RuV sz r) ∧ sz.length ≤ 16 ∧ l.length ≤ 200 ∧ allIn 1 32 sz = true := by
  simp only [modelB, Bool.and_eq_true, decide_eq_true_eq] at h
  obtain ⟨h1, h2, h3, h4, h5⟩ := h
  refine ⟨fun z hz => ?_, sv_of_stateB h3, fun r hr => ?_, ?_, h4, h2⟩
  · rw [allIn, List.all_eq_true] at h2
    have := h2 z hz
    simp only [inB, Bool.and_eq_true, decide_eq_true_eq] at this
    omega
  · obtain ⟨x, hx, rfl⟩ := List.mem_map.1 hr
    rw [rulesB, List.all_eq_true] at h5
    exact ruV_of (h5 x hx)
  · simp only [inB, Bool.and_eq_true, decide_eq_true_eq] at h1
    omega
theorem ride_gives {b bud : Int} {l : List Int} {sec : Bool} (h : rdC b l bud = 0) : rmSz b l bud = rideSz l.length b.toNat bud.toNat ∧ rmSt b l bud = rideSt l b.toNat bud.toNat ∧ rmRs b l bud sec = rideRs l.length b.toNat bud.toNat sec := by
  rw [rmSz, rmSt, rmRs, if_pos h, if_pos h, if_pos h]; exact ⟨rfl, rfl, rfl⟩
theorem rd_model {b bud : Int} {l : List Int} {sec : Bool} {L : List (RM × RuD)} (h : rdC b l bud = 0) (hL : L.map (·.2) = rmRs b l bud sec) : modelB (rmSz b l bud) (rmSt b l bud) L = true := by
  obtain ⟨e1, e2, e3⟩ := ride_gives (sec := sec) h
  rw [rdC] at h
  split at h
  · cases h
  · rename_i ht
    split at h
    · cases h
    · rename_i hb
      obtain ⟨h1, h2, h3, h4, h5⟩ := trafB_split (by simpa using ht)
      have hb' : 0 ≤ bud ∧ bud ≤ 2 := by simpa [inB] using hb
      rw [e1, e2]
      refine ride_ok (hL.trans e3) rfl (fun x hx => ?_) h3 h4 (by omega) (by omega) (by omega)
      have := h5 x hx
      omega
end Go.Proofs.YtfnamjkmkoldeaaGreatDoor
namespace Go.Proofs.YtfnamjkmkoldeaaGreatDoor
open Go.RowKit
set_option linter.unusedVariables false
set_option linter.unusedSimpArgs false
/-- a state of a ride model is a ride state -/
theorem sv_ride {B bu : Nat} {l v : List Int} (ht : trafB (B : Int) l = true) (hbu : bu ≤ 2) (h : SV (rideSz l.length B bu) v) : rideCode (B : Int) l v = 0 := by
  have hlen : v.length = l.length + B + 1 := by rw [h.1, sz_len]
  have hr : rideB (B : Int) l.length v = true := by
    rw [rideB, Bool.and_eq_true, beq_iff_eq, upB, List.all_eq_true]
    refine ⟨by omega, fun i hi => ?_⟩
    have hi' := List.mem_range.1 hi
    have hv := List.getElem?_eq_getElem hi'
    rw [stP_at hv, stAt, inB, Bool.and_eq_true, decide_eq_true_eq, decide_eq_true_eq]
    by_cases h1 : i < l.length
    · have := h.2 i _ _ hv (sz_lo h1)
      rw [if_pos h1]; omega
    · rw [if_neg h1]
      by_cases h2 : i - l.length < B
      · have e : i = l.length + (i - l.length) := by omega
        have := h.2 i _ 4 hv (by rw [e]; exact sz_mid h2)
        rw [if_neg (by omega)]; omega
      · have e : i = l.length + B := by omega
        have := h.2 i _ ((bu : Int) + 1) hv (by rw [e]; exact sz_hi _ _ _)
        rw [if_pos (by omega)]; omega
  rw [rideCode, if_neg (by rw [ht]; decide), if_neg (by rw [hr]; decide)]
end Go.Proofs.YtfnamjkmkoldeaaGreatDoor
