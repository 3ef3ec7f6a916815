/- The reference's parser: numbers, kinds, walked. -/
import Derived.Test.YtjneodmohkpckaaDoorEl
namespace Go.Proofs.YtjneodmohkpckaaDoor
open Go.RowKit
set_option linter.unusedVariables false
set_option linter.unusedSimpArgs false
variable {N : Nat}
theorem spec_l13Takes {k : Int} {w : World} : Calls Tryd.prog 84 #[.int .i64 k] w fun e w' => e = .returned (.int .i64 (tkA k : Int)) ∧ w = w' := by
  have H := Lib.hid (show tkA k = if k = 1 ∨ k = 2 ∨ k = 3 then 0 else if k = 4 ∨ k = 7 ∨ k = 8 ∨ k = 9 then 1 else 2 from rfl)
  have fin : ∀ n : Nat, tkA k = n → Ending.returned (.int .i64 (n : Int)) = .returned (.int .i64 (tkA k : Int)) := fun n h => by rw [h]
  have HF := Lib.hid fin
  clear fin
  by_cases h1 : k = 1
  · subst h1
    go_enter Tryd.func84, Tryd.ntmps84
    go_wp2
    go_ret
    exact ⟨HF.out 0 (by decide), rfl⟩
  by_cases h2 : k = 2
  · subst h2
    go_enter Tryd.func84, Tryd.ntmps84
    go_wp2
    go_ret
    exact ⟨HF.out 0 (by decide), rfl⟩
  by_cases h3 : k = 3
  · subst h3
    go_enter Tryd.func84, Tryd.ntmps84
    go_wp2
    go_ret
    exact ⟨HF.out 0 (by decide), rfl⟩
  by_cases h4 : k = 4
  · subst h4
    go_enter Tryd.func84, Tryd.ntmps84
    go_wp2
    go_ret
    exact ⟨HF.out 1 (by decide), rfl⟩
  by_cases h7 : k = 7
  · subst h7
    go_enter Tryd.func84, Tryd.ntmps84
    go_wp2
    go_ret
    exact ⟨HF.out 1 (by decide), rfl⟩
  by_cases h8 : k = 8
  · subst h8
    go_enter Tryd.func84, Tryd.ntmps84
    go_wp2
    go_ret
    exact ⟨HF.out 1 (by decide), rfl⟩
  by_cases h9 : k = 9
  · subst h9
    go_enter Tryd.func84, Tryd.ntmps84
    go_wp2
    go_ret
    exact ⟨HF.out 1 (by decide), rfl⟩
  · have e1 : (k == 1) = false := by simpa using h1
    have e2 : (k == 2) = false := by simpa using h2
    have e3 : (k == 3) = false := by simpa using h3
    have e4 : (k == 4) = false := by simpa using h4
    have e7 : (k == 7) = false := by simpa using h7
    have e8 : (k == 8) = false := by simpa using h8
    have e9 : (k == 9) = false := by simpa using h9
    have HG := Lib.hid (show tkA k = 2 by rw [H.out, if_neg (by omega), if_neg (by omega)])
    go_enter Tryd.func84, Tryd.ntmps84
    go_wp2
    go_ret
    exact ⟨HF.out 2 HG.out, rfl⟩
theorem spec_l13Counts {k : Int} {w : World} : Calls Tryd.prog 102 #[.int .i64 k] w fun e w' => e = .returned (.bool (numK k)) ∧ w = w' := by
  have H := Lib.hid (show numK k = decide (k = 7 ∨ k = 8 ∨ k = 11 ∨ k = 12) from rfl)
  by_cases h1 : k = 7
  · subst h1
    go_enter Tryd.func102, Tryd.ntmps102
    go_wp2
    go_ret
    exact ⟨rfl, rfl⟩
  by_cases h2 : k = 8
  · subst h2
    go_enter Tryd.func102, Tryd.ntmps102
    go_wp2
    go_ret
    exact ⟨rfl, rfl⟩
  by_cases h3 : k = 11
  · subst h3
    go_enter Tryd.func102, Tryd.ntmps102
    go_wp2
    go_ret
    exact ⟨rfl, rfl⟩
  · have e1 : (k == 7) = false := by simpa using h1
    have e2 : (k == 8) = false := by simpa using h2
    have e3 : (k == 11) = false := by simpa using h3
    have HG := Lib.hid (show numK k = (k == 12) by
      rw [H.out]
      by_cases h4 : k = 12
      · rw [h4]; rfl
      · have : (k == 12) = false := by simpa using h4
        rw [this, decide_eq_false (by omega)])
    go_enter Tryd.func102, Tryd.ntmps102
    go_wp2
    go_ret
    exact ⟨by rw [HG.out]; rfl, rfl⟩
theorem v01_tk {L : List TR} (hK : ∀ x ∈ L, TkB x) : v01B (pkT L).data.toList = (!L.isEmpty && decide ((tkOf L).k = 2)) := by
  cases L with
  | nil => decide +kernel
  | cons x r =>
    show v01B x.t.data.toList = decide (x.k = 2)
    have dig : ∀ (c : UInt8) (t : List UInt8), x.t.data.toList = c :: t → digP c = false → v01B x.t.data.toList = false := fun c t h hd => by
      rw [h, v01B]
      simp only [List.all_cons, hd, Bool.false_and, Bool.and_false]
    rcases hK x (List.mem_cons_self ..) with h | h | h
    · rw [decide_eq_false (by omega)]
      have h2 := h.2
      cases hl : x.t.data.toList with
      | nil => rfl
      | cons c t =>
        rw [hl, wrdB] at h2
        simp only [List.head?_cons, Option.any_some, Bool.and_eq_true, letP, decide_eq_true_eq] at h2
        rw [← hl]
        refine dig c t hl ?_
        have : ¬ c.toNat ≤ 57 := by omega
        simp [digP, this]
    · rw [decide_eq_true h.1]
      have h2 := h.2
      rw [num_v01, Bool.and_eq_true] at h2
      exact h2.1
    · rw [decide_eq_false (by omega)]
      obtain ⟨_, c, hc, ht⟩ := h
      refine dig c [] ht ?_
      simp only [sgnP, Bool.or_eq_true, decide_eq_true_eq] at hc
      have : ¬ (48 ≤ c.toNat ∧ c.toNat ≤ 57) := by omega
      rw [digP]
      by_cases h1 : 48 ≤ c.toNat
      · have : ¬ c.toNat ≤ 57 := by omega
        simp [this]
      · simp [h1]
set_option maxHeartbeats 1000000 in
theorem spec_l13WantNumber {p : Nat} {bad : Bool} {L : List TR} {w : World} (h : RSt N w p bad L) : Calls Tryd.prog 115 #[.pointer (some ⟨p, 0, none⟩)] w fun e w' => (∃ n : Int, e = .returned (.int .i64 n) ∧ ((tkOf L).k = 2 → n = (valA 0 (tkOf L).t.data.toList : Int))) ∧ RSt N w' p (bad || !(!L.isEmpty && decide ((tkOf L).k = 2))) (if (!L.isEmpty && decide ((tkOf L).k = 2)) = true then L.tail else L) ∧ Only p (p + 1) w w' := by
  have HK := Lib.hid (spec_l13Peek h)
  have HN := Lib.hid (fun (wx : World) => spec_l01Value (s := pkT L) (w := wx) (by have := h.szp; unfold maxLen; omega))
  have HV := v01_tk h.tk
  have H := Lib.hid h
  have hne : (!L.isEmpty && decide ((tkOf L).k = 2)) = true → L ≠ [] ∧ pkT L = (tkOf L).t := fun hn => by
    cases L with
    | nil => simp at hn
    | cons x r => exact ⟨by simp, rfl⟩
  have hno : (!L.isEmpty && decide ((tkOf L).k = 2)) = false → ¬ (tkOf L).k = 2 := fun hn hk => by
    cases L with
    | nil => simp [tkOf] at hk
    | cons x r => simp [hk] at hn
  clear h
  generalize pkT L = s at *
  rw [HV] at HN
  clear HV
  cases hq : (!L.isEmpty && decide ((tkOf L).k = 2))
  · rw [hq] at HN
    have HNO := Lib.hid (hno hq)
    clear hne hno hq
    go_enter Tryd.func115, Tryd.ntmps115
    go_wp2_with fail
    refine Calls.mono HK.out ?_
    rintro e w1 ⟨rfl, hb1⟩
    go_wp2_with fail
    refine Calls.mono (HN.out _) ?_
    rintro e w2 ⟨n, rfl, _, hb2⟩
    obtain ⟨ta, tn, tc, k, L0, h1⟩ := (H.out.keep hb1).keep hb2
    have x1 := h1.x.cell 2
    have xl := h1.x.lt
    have xf := h1.x.free
    simp only [List.getElem?_toArray, List.getElem?_cons_zero, List.getElem?_cons_succ] at x1
    have HP := Lib.hid h1.wrong
    have HO := Lib.hid ((((Only.refl p (p + 1) w).then hb1).then hb2).set ⟨Nat.le_refl _, Nat.lt_succ_self _⟩ 2 (.bool true))
    clear h1 hb1 hb2
    go_wp2
    go_ret
    exact ⟨⟨0, rfl, fun h => absurd h HNO.out⟩, ⟨ta, tn, tc, k, L0, HP.out⟩, HO.out⟩
  · rw [hq] at HN
    obtain ⟨hn, hs⟩ := hne hq
    have HS := Lib.hid hs
    clear hne hno hq hs
    go_enter Tryd.func115, Tryd.ntmps115
    go_wp2_with fail
    refine Calls.mono HK.out ?_
    rintro e w1 ⟨rfl, hb1⟩
    go_wp2_with fail
    refine Calls.mono (HN.out _) ?_
    rintro e w2 ⟨n, rfl, hnv, hb2⟩
    have HNV := Lib.hid (hnv (by trivial))
    obtain ⟨ta, tn, tc, k, L0, h1⟩ := (H.out.keep hb1).keep hb2
    have x1 := h1.x.cell 1
    have xl := h1.x.lt
    have xf := h1.x.free
    simp only [List.getElem?_toArray, List.getElem?_cons_zero, List.getElem?_cons_succ] at x1
    have HP := Lib.hid (h1.adv hn)
    have hk8 : k ≤ 800 := by have := h1.n8; have := h1.kn; omega
    have ek : IntKind.i64.wrap ((k : Int) + 1) = (k : Int) + 1 := IntWalk.i64_in _ (by omega)
    have HO := Lib.hid ((((Only.refl p (p + 1) w).then hb1).then hb2).set ⟨Nat.le_refl _, Nat.lt_succ_self _⟩ 1 (.int .i64 ((k : Int) + 1)))
    clear h1 hb1 hb2 hnv
    go_wp2
    go_ret
    exact ⟨⟨n, rfl, fun _ => by rw [← HS.out]; exact HNV.out⟩, ⟨ta, tn, tc, k + 1, L0, HP.out⟩, HO.out⟩
end Go.Proofs.YtjneodmohkpckaaDoor
