/- The first unsafe trace is followed through safe states: plain laws. -/
import Derived.Test.YtfnamjkmkoldeaaGreatDoorFw
import Derived.Test.YtfnamjkmkoldeaaGreatDoorQp
import Derived.Test.YtfnamjkmkoldeaaGreatDoorCg
import Derived.Test.YtfnamjkmkoldeaaGreatDoorL24b
namespace Go.Proofs.YtfnamjkmkoldeaaGreatDoor
open Go.RowKit
set_option linter.unusedVariables false
set_option linter.unusedSimpArgs false
/-- each found state but the first is what an enabled rule makes of one found before it -/
def TrI (rs : List RuD) (st : List Int) (L : List SN) : Prop := ∀ (j : Nat) (y : SN), L[j]? = some y → (y.tr = [] ∧ y.v = st) ∨ ∃ (k : Nat) (z : SN) (q : Nat), k < j ∧ L[k]? = some z ∧ q < rs.length ∧ y.tr = z.tr ++ [(q : Int)] ∧ holdsP z.v (rs.getD q zRu).g = true ∧ y.v = applyP z.v (rs.getD q zRu).e
theorem TrI.add {rs : List RuD} {st : List Int} {L : List SN} (h : TrI rs st L) {i : Nat} {x : SN} (hx : L[i]? = some x) {r : Nat × List Int} (hr : r ∈ nextP rs x.v) : TrI rs st (addN i x L r) := by
  rw [addN]
  split
  · exact h
  · have hi : i < L.length := (List.getElem?_eq_some_iff.1 hx).1
    intro j y hy
    by_cases hj : j < L.length
    · rw [List.getElem?_append_left hj] at hy
      rcases h j y hy with h1 | ⟨k, z, q, h1, h2, h3⟩
      · exact .inl h1
      · exact .inr ⟨k, z, q, h1, by rw [List.getElem?_append_left (by omega)]; exact h2, h3⟩
    · rw [List.getElem?_append_right (by omega)] at hy
      have hj0 : j = L.length := by
        have := (List.getElem?_eq_some_iff.1 hy).1
        simp at this; omega
      subst hj0
      simp at hy
      subst hy
      rw [nextP] at hr
      obtain ⟨q, hq, rfl⟩ := List.mem_map.1 hr
      rw [enabP, List.mem_filter, List.mem_range] at hq
      exact .inr ⟨i, x, q, hi, by rw [List.getElem?_append_left hi]; exact hx, hq.1, rfl, hq.2, rfl⟩
theorem TrI.fold {rs : List RuD} {st : List Int} {i : Nat} {x : SN} : ∀ {l : List (Nat × List Int)} {L : List SN}, TrI rs st L → L[i]? = some x → (∀ r ∈ l, r ∈ nextP rs x.v) → TrI rs st (l.foldl (addN i x) L)
  | [], L, h, _, _ => h
  | r :: l, L, h, hx, hl => by
    rw [List.foldl_cons]
    refine TrI.fold (h.add hx (hl r (List.mem_cons_self ..))) ?_ fun q hq => hl q (List.mem_cons_of_mem _ hq)
    obtain ⟨t, ht, _⟩ := addN_pre i x L r
    rw [ht, List.getElem?_append_left (List.getElem?_eq_some_iff.1 hx).1]
    exact hx
theorem TrI.run {rs : List RuD} {st : List Int} : ∀ (f i : Nat) {L M : List SN}, TrI rs st L → runN9 rs f i L = some M → TrI rs st M
  | 0, _, _, _, _, h => by cases h
  | f + 1, i, L, M, hL, h => by
    rw [runN9] at h
    split at h
    · cases h; exact hL
    · rename_i x hx
      split at h
      · cases h
      · exact TrI.run f (i + 1) (hL.fold hx fun r hr => hr) h
theorem TrI.start (rs : List RuD) (st : List Int) : TrI rs st [⟨st, -1, 0, 0, []⟩] := by
  intro j y hy
  cases j with
  | zero => simp at hy; subst hy; exact .inl ⟨rfl, rfl⟩
  | succ j => simp at hy
theorem fol_snoc {rs : List RuD} {r : Int} {u : List Int} : ∀ {t st : List Int} {S : List (List Int)}, folP rs st t = some S → S.getLast? = some u → holdsP u (rs.getD r.toNat zRu).g = true → folP rs st (t ++ [r]) = some (S ++ [applyP u (rs.getD r.toNat zRu).e])
  | [], st, S, h, hu, hh => by
    rw [folP] at h
    cases h
    simp at hu
    subst hu
    rw [List.nil_append, folP, if_pos hh, folP]; rfl
  | x :: t, st, S, h, hu, hh => by
    rw [folP] at h
    rw [List.cons_append, folP]
    split at h
    · rename_i hx
      rw [if_pos hx]
      cases hf : folP rs (applyP st (rs.getD x.toNat zRu).e) t with
      | none => rw [hf] at h; cases h
      | some S' =>
        rw [hf] at h
        simp only [Option.map_some, Option.some.injEq] at h
        subst h
        have hne : S' ≠ [] := fun e => by have := folP_len hf; rw [e] at this; simp at this
        have hu' : S'.getLast? = some u := by rw [List.getLast?_cons_of_ne_nil hne] at hu; exact hu
        rw [fol_snoc hf hu' hh]; rfl
    · cases h
/-- the trace of a found state leads to it, and through states that were found before -/
theorem tr_fol {rs : List RuD} {st : List Int} {L : List SN} (h : TrI rs st L) : ∀ (j : Nat) (y : SN), L[j]? = some y → ∃ S, folP rs st y.tr = some S ∧ S.getLast? = some y.v ∧ (∀ (i : Nat) (s : List Int), S[i]? = some s → i < y.tr.length → ∃ (k : Nat) (z : SN), k < j ∧ L[k]? = some z ∧ z.v = s) ∧ ∀ r ∈ y.tr, 0 ≤ r ∧ r ≤ (rs.length : Int) - 1 := by
  intro j
  induction j using Nat.strongRecOn with
  | ind j ih =>
    intro y hy
    rcases h j y hy with ⟨h1, h2⟩ | ⟨k, z, q, hk, hz, hq, ht, hh, hv⟩
    · refine ⟨[st], by rw [h1, folP], by simp [h2], fun i s hs hi => by rw [h1] at hi; simp at hi, fun r hr => by rw [h1] at hr; cases hr⟩
    · obtain ⟨S, s1, s2, s3, s4⟩ := ih k hk z hz
      have hlen := folP_len s1
      refine ⟨S ++ [y.v], ?_, by simp, fun i s hs hi => ?_, fun r hr => ?_⟩
      · rw [ht, hv]
        have := fol_snoc (r := (q : Int)) s1 s2 (by rw [Int.toNat_natCast]; exact hh)
        rw [Int.toNat_natCast] at this
        exact this
      · rw [ht, List.length_append] at hi
        simp at hi
        rw [List.getElem?_append_left (by omega)] at hs
        by_cases hi2 : i < z.tr.length
        · obtain ⟨k2, z2, g1, g2, g3⟩ := s3 i s hs hi2
          exact ⟨k2, z2, by omega, g2, g3⟩
        · have hi3 : i = S.length - 1 := by omega
          rw [List.getLast?_eq_getElem?, ← hi3, hs] at s2
          exact ⟨k, z, hk, hz, by simpa using s2.symm⟩
      · rw [ht] at hr
        rcases List.mem_append.1 hr with hr | hr
        · exact s4 r hr
        · simp at hr; subst hr; omega
/-- what the law asks of the first unsafe trace -/
theorem fu_fol {b bud : Int} {l : List Int} {sec : Bool} (h : fuC b l bud sec = 0) : ∃ S, rdC b l bud = 0 ∧ ftC (rmRs b l bud sec) (rmSt b l bud) (fuL b l bud sec) = 0 ∧ folP (rmRs b l bud sec) (rmSt b l bud) (fuL b l bud sec) = some S ∧ S.length = (fuL b l bud sec).length + 1 ∧
    ∀ (i : Nat) (s : List Int), S[i]? = some s → SV (rmSz b l bud) s ∧ unsN b.toNat l.length s = !decide (i < (fuL b l bud sec).length) := by
  have h0 : rsC b l bud sec = 0 := by
    by_cases h0 : rsC b l bud sec = 0
    · exact h0
    · rw [(fu_bad h0).2] at h; exact absurd h h0
  have hrd := rsC_zero h0
  obtain ⟨L, hL⟩ := rsR_some h0
  cases hf : L.find? (fun x => unsN b.toNat l.length x.v) with
  | none => rw [(fu_miss h0 hL hf).2] at h; cases h
  | some x =>
    have hfu := (fu_hit h0 hL hf).1
    obtain ⟨hux, pas, bs, hLe, hpas⟩ := List.find?_eq_some_iff_append.1 hf
    have hxj : L[pas.length]? = some x := by rw [hLe, List.getElem?_append_right (Nat.le_refl _), Nat.sub_self]; rfl
    obtain ⟨hsn, hl4⟩ := rs_sns hrd hL
    have hTr : TrI (rmRs b l bud sec) (rmSt b l bud) L := by
      rw [rsR, bfsP] at hL
      exact (TrI.start _ _).run _ _ hL
    obtain ⟨S, s1, s2, s3, s4⟩ := tr_fol hTr _ _ hxj
    have hlen := folP_len s1
    have htl := tr_len hsn _ _ hxj
    have hjl := (List.getElem?_eq_some_iff.1 hxj).1
    rw [hfu]
    refine ⟨S, hrd, ft_yes (by omega) ?_ s1, s1, hlen, fun i s hs => ?_⟩
    · rw [allIn, List.all_eq_true]
      intro r hr
      have := s4 r hr
      simp [inB]; omega
    · by_cases hi : i < x.tr.length
      · obtain ⟨k, z, g1, g2, g3⟩ := s3 i s hs hi
        have hz : z ∈ L := List.mem_of_getElem? g2
        have hza : z ∈ pas := by
          rw [hLe, List.getElem?_append_left g1] at g2
          exact List.mem_of_getElem? g2
        refine ⟨g3 ▸ hsn.sv z hz, ?_⟩
        have := hpas z hza
        rw [← g3, decide_eq_true hi]
        simpa using this
      · have hil := (List.getElem?_eq_some_iff.1 hs).1
        have hi3 : i = S.length - 1 := by omega
        rw [List.getLast?_eq_getElem?, ← hi3, hs] at s2
        simp only [Option.some.injEq] at s2
        rw [s2, decide_eq_false hi]
        exact ⟨hsn.sv x (List.mem_of_getElem? hxj), hux⟩
/-- a state of a ride model is a ride state -/
theorem sv_ride {B bu : Nat} {l v : List Int} (ht : trafB (B : Int) l = true) (hbu : bu ≤ 2) (h : SV (rideSz l.length B bu) v) : rideCode (B : Int) l v = 0 := by
  have hlen : v.length = l.length + B + 1 := by rw [h.1, sz_len]
  have hr : rideB (B : Int) l.length v = true := by
    rw [rideB, Bool.and_eq_true, beq_iff_eq, upB, List.all_eq_true]
    refine ⟨by omega, fun i hi => ?_⟩
    have hi' := List.mem_range.1 hi
    have hv := List.getElem?_eq_getElem hi'
    rw [stP_at hv, stAt, inB, Bool.and_eq_true, decide_eq_true_eq, decide_eq_true_eq]
    by_cases h1 : i < l.length
    · have := h.2 i _ _ hv (sz_lo h1)
      rw [if_pos h1]; omega
    · rw [if_neg h1]
      by_cases h2 : i - l.length < B
      · have e : i = l.length + (i - l.length) := by omega
        have := h.2 i _ 4 hv (by rw [e]; exact sz_mid h2)
        rw [if_neg (by omega)]; omega
      · have e : i = l.length + B := by omega
        have := h.2 i _ ((bu : Int) + 1) hv (by rw [e]; exact sz_hi _ _ _)
        rw [if_pos (by omega)]; omega
  rw [rideCode, if_neg (by rw [ht]; decide), if_neg (by rw [hr]; decide)]
/-- .. in the law's words -/
theorem fu_law {B : Nat} {bud : Int} {l : List Int} {sec : Bool} (h : fuC (B : Int) l bud sec = 0) : ∃ S, rdC (B : Int) l bud = 0 ∧ ftC (rmRs (B : Int) l bud sec) (rmSt (B : Int) l bud) (fuL (B : Int) l bud sec) = 0 ∧ folP (rmRs (B : Int) l bud sec) (rmSt (B : Int) l bud) (fuL (B : Int) l bud sec) = some S ∧ S.length = (fuL (B : Int) l bud sec).length + 1 ∧
    (∀ LR : List (RM × RuD), LR.map (·.2) = rmRs (B : Int) l bud sec → modelB (rmSz (B : Int) l bud) (rmSt (B : Int) l bud) LR = true) ∧
    ∀ (i : Nat) (s : List Int), S[i]? = some s → rideCode (B : Int) l s = 0 ∧ trafB (B : Int) (s.take l.length) = true ∧ safeN B (s.take l.length) = decide (i < (fuL (B : Int) l bud sec).length) ∧ s.length ≤ 20 := by
  obtain ⟨S, h0, h1, h2, h3, h4⟩ := fu_fol h
  obtain ⟨g1, g2, g3, g4, g5, g6⟩ := rdC_ok h0
  have ht : trafB (B : Int) l = true := by
    rw [rdC] at h0
    split at h0
    · cases h0
    · rename_i ht; simpa using ht
  refine ⟨S, h0, h1, h2, h3, fun LR hL => rd_model h0 hL, fun i s hs => ?_⟩
  obtain ⟨hv, hu⟩ := h4 i s hs
  rw [(ride_gives (sec := sec) h0).1, Int.toNat_natCast] at hv
  rw [Int.toNat_natCast] at hu
  obtain ⟨t1, _, _⟩ := sv_traf (by omega) (by omega) g3 g4 hv
  refine ⟨sv_ride ht (by omega) hv, t1, ?_, by rw [hv.1, sz_len]; omega⟩
  rw [unsN] at hu
  simpa using hu
end Go.Proofs.YtfnamjkmkoldeaaGreatDoor
