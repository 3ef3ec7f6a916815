/- Texts and their comments: the tokens do not depend on them. Plain laws. -/
import Derived.Test.YtjneodmohkpckaaGreatDoorT12u
namespace Go.Proofs.YtjneodmohkpckaaGreatDoor
open Go.RowKit
set_option linter.unusedVariables false
set_option linter.unusedSimpArgs false
/-- a text without its comments; the flag: within one -/
def stF : Bool → List UInt8 → List UInt8
  | _, [] => []
  | cm, c :: r => if c.toNat = 10 then c :: stF false r else if c.toNat = 35 ∨ cm = true then stF true r else c :: stF false r
theorem stF_len (s : List UInt8) : ∀ cm, (stF cm s).length ≤ s.length := by
  induction s with
  | nil => intro cm; simp [stF]
  | cons c r ih =>
    intro cm
    rw [stF]
    have h1 := ih false
    have h2 := ih true
    split
    · simp; omega
    · split
      · simp; omega
      · simp; omega
theorem stF_plain {c : UInt8} {r : List UInt8} (h : c.toNat ≠ 35) : stF false (c :: r) = c :: stF false r := by
  rw [stF]
  split
  · rfl
  · rw [if_neg (by simp [h])]
theorem stF_skip (r : List UInt8) : stF true r = stF false (r.dropWhile no10) := by
  induction r with
  | nil => rfl
  | cons c r ih =>
    rw [stF, List.dropWhile_cons]
    by_cases h : c.toNat = 10
    · rw [if_pos h, if_neg (by simp [no10, h]), stF, if_pos h]
    · rw [if_neg h, if_pos (Or.inr rfl), if_pos (by simp [no10, h]), ih]
theorem stF_hash {c : UInt8} {r : List UInt8} (h : c.toNat = 35) : stF false (c :: r) = stF false ((c :: r).dropWhile no10) := by
  rw [stF, if_neg (by omega), if_pos (Or.inl h), stF_skip, List.dropWhile_cons, if_pos (by simp [no10, h])]
/-- what stops a run -/
theorem stF_head {p : UInt8 → Bool} (h35 : ∀ c : UInt8, c.toNat = 35 → p c = false) (h10 : ∀ c : UInt8, c.toNat = 10 → p c = false) (s : List UInt8) : (stF false s).head?.any p = s.head?.any p := by
  cases s with
  | nil => rfl
  | cons c r =>
    by_cases h : c.toNat = 35
    · rw [stF_hash h]
      have e : (c :: r).head?.any p = false := by simp [h35 c h]
      rw [e]
      generalize hu : (c :: r).dropWhile no10 = u
      cases u with
      | nil => rfl
      | cons d t =>
        have hd : no10 d = false := by
          have := List.head?_dropWhile_not no10 (c :: r)
          rw [hu] at this
          simpa using this
        have hd10 : d.toNat = 10 := by simpa [no10] using hd
        rw [stF, if_pos hd10]
        simp [h10 d hd10]
    · rw [stF_plain h]; rfl
theorem stF_run {p : UInt8 → Bool} (h35 : ∀ c : UInt8, c.toNat = 35 → p c = false) (h10 : ∀ c : UInt8, c.toNat = 10 → p c = false) : ∀ (s : List UInt8), (stF false s).takeWhile p = s.takeWhile p ∧ (stF false s).drop (s.takeWhile p).length = stF false (s.drop (s.takeWhile p).length)
  | [] => ⟨rfl, rfl⟩
  | c :: r => by
    by_cases hp : p c = true
    · have h : c.toNat ≠ 35 := fun e => by rw [h35 c e] at hp; cases hp
      obtain ⟨i1, i2⟩ := stF_run h35 h10 r
      rw [stF_plain h, List.takeWhile_cons, List.takeWhile_cons, if_pos hp, if_pos hp, i1]
      refine ⟨rfl, ?_⟩
      simp only [List.length_cons, List.drop_succ_cons]
      exact i2
    · have e1 : (c :: r).takeWhile p = [] := by rw [List.takeWhile_cons, if_neg hp]
      have h2 := stF_head h35 h10 (c :: r)
      have e2 : (stF false (c :: r)).takeWhile p = [] := by
        cases hs : stF false (c :: r) with
        | nil => rfl
        | cons d t =>
          rw [hs] at h2
          simp only [List.head?_cons, Option.any_some] at h2
          rw [List.takeWhile_cons, if_neg (by rw [h2]; exact hp)]
      rw [e1, e2]
      exact ⟨rfl, rfl⟩
/-- the tokens of a text that begins here, and whether nothing in it is wrong -/
def tkL : Nat → List UInt8 → List TR × Bool
  | 0, _ => ([], true)
  | _ + 1, [] => ([], true)
  | f + 1, c :: r => if (nxS (c :: r) 0 c).ok = true then (if 0 < (nxS (c :: r) 0 c).k then (⟨(nxS (c :: r) 0 c).k, strL (nxS (c :: r) 0 c).t⟩ :: (tkL f ((c :: r).drop (nxS (c :: r) 0 c).e)).1, (tkL f ((c :: r).drop (nxS (c :: r) 0 c).e)).2) else tkL f ((c :: r).drop (nxS (c :: r) 0 c).e)) else ([], false)
theorem subL_0 (l : List UInt8) (a k : Nat) : subL l a (a + k) = subL (l.drop a) 0 (0 + k) := by
  rw [subL, subL, List.drop_zero]; congr 1; omega
theorem nx_shift (l : List UInt8) (a : Nat) (c : UInt8) : nxS l a c = { nxS (l.drop a) 0 c with e := a + (nxS (l.drop a) 0 c).e } := by
  rw [nxS, nxS]
  simp only [subL_0 l a, List.drop_zero]
  split
  · simp
  · split
    · simp
    · split
      · simp
      · split
        · simp [List.getElem?_drop]
        · simp
theorem tk_sc : ∀ (f : Nat) (l : List UInt8) (a : Nat), a ≤ l.length → (scL l f a).1 = (tkL f (l.drop a)).1 ∧ decide ((scL l f a).2 = -1) = (tkL f (l.drop a)).2
  | 0, l, a, _ => ⟨rfl, rfl⟩
  | f + 1, l, a, ha => by
    cases hc : l[a]? with
    | none =>
      have : l.drop a = [] := by rw [List.drop_eq_nil_iff]; exact List.getElem?_eq_none_iff.1 hc
      rw [scL_none hc, this]
      exact ⟨rfl, rfl⟩
    | some c =>
      have hlt := (List.getElem?_eq_some_iff.1 hc).1
      have hcons : l.drop a = c :: l.drop (a + 1) := by
        rw [List.drop_eq_getElem_cons hlt, (List.getElem?_eq_some_iff.1 hc).2]
      have he := nx_e hc
      have hsh := nx_shift l a c
      generalize hx : nxS (l.drop a) 0 c = x at hsh
      obtain ⟨k, t, e, ok⟩ := x
      rw [hsh] at he
      simp only at he
      have hdr : (l.drop a).drop e = l.drop (a + e) := by rw [List.drop_drop]
      have ih := tk_sc f l (a + e) he.2
      rw [hcons, tkL, ← hcons, hx]
      simp only
      rw [hdr]
      cases ok with
      | false => rw [scL_bad hc (by rw [hsh])]; simp <;> omega
      | true =>
        by_cases h0 : 0 < k
        · rw [scL_tok hc (by rw [hsh]) (by rw [hsh]; exact h0), hsh]
          simp only [if_true, if_pos h0]
          exact ⟨by rw [ih.1], ih.2⟩
        · rw [scL_skip hc (by rw [hsh]) (by rw [hsh]; exact h0), hsh]
          simp only [if_true, if_neg h0]
          exact ih
theorem let_35 : ∀ c : UInt8, c.toNat = 35 → innP c = false := fun c h => by simp [innP, letP, digP, h]
theorem let_10 : ∀ c : UInt8, c.toNat = 10 → innP c = false := fun c h => by simp [innP, letP, digP, h]
theorem dig_35 : ∀ c : UInt8, c.toNat = 35 → digP c = false := fun c h => by simp [digP, h]
theorem dig_10 : ∀ c : UInt8, c.toNat = 10 → digP c = false := fun c h => by simp [digP, h]
theorem take_run (p : UInt8 → Bool) (s : List UInt8) : s.take (runL p s) = s.takeWhile p := by
  rw [runL]
  induction s with
  | nil => rfl
  | cons c r ih =>
    rw [List.takeWhile_cons]
    split
    · simpa using ih
    · rfl
theorem drop_run (p : UInt8 → Bool) (s : List UInt8) : s.drop (runL p s) = s.dropWhile p := by
  rw [runL]
  induction s with
  | nil => rfl
  | cons c r ih =>
    rw [List.takeWhile_cons, List.dropWhile_cons]
    split
    · simpa using ih
    · rfl
theorem get_head {s : List UInt8} {k : Nat} : s[k]? = (s.drop k).head? := by
  rw [List.head?_drop]
theorem tk_strip : ∀ (n : Nat) (s : List UInt8) (f f' : Nat), s.length ≤ n → s.length < f → (stF false s).length < f' → tkL f s = tkL f' (stF false s)
  | n, [], f + 1, f' + 1, _, _, _ => rfl
  | n, [], 0, _, _, h, _ => by simp at h
  | n, [], f + 1, 0, _, _, h => by simp [stF] at h
  | n, c :: r, 0, _, _, h, _ => by simp at h
  | 0, c :: r, f + 1, f', h, _, _ => by simp at h
  | n + 1, c :: r, f + 1, f', hn, hf, hf' => by
    have hc0 : (c :: r)[0]? = some c := rfl
    by_cases h35 : c.toNat = 35
    · -- a comment
      have hx : nxS (c :: r) 0 c = ⟨0, [], 0 + runL no10 ((c :: r).drop 0), true⟩ := by rw [nxS, if_neg (by omega), if_pos h35]
      rw [tkL, hx]
      simp only [if_true, List.drop_zero, Nat.zero_add, Int.lt_irrefl, if_false]
      rw [drop_run, stF_hash h35] at *
      have hlen : ((c :: r).dropWhile no10).length ≤ r.length := by
        rw [List.dropWhile_cons, if_pos (by simp [no10, h35])]
        exact (List.dropWhile_suffix no10).length_le
      simp only [List.length_cons] at hn hf
      exact tk_strip n _ f f' (by omega) (by omega) hf'
    · have hpl := stF_plain (r := r) h35
      rw [hpl] at hf' ⊢
      obtain ⟨g, rfl⟩ : ∃ g, f' = g + 1 := ⟨f' - 1, by simp at hf'; omega⟩
      simp only [List.length_cons] at hn hf hf'
      have hrun : ∀ {p : UInt8 → Bool}, (∀ c : UInt8, c.toNat = 35 → p c = false) → (∀ c : UInt8, c.toNat = 10 → p c = false) → p c = true → runL p (c :: stF false r) = runL p (c :: r) ∧ (c :: stF false r).take (runL p (c :: r)) = (c :: r).take (runL p (c :: r)) ∧ (c :: stF false r).drop (runL p (c :: r)) = stF false ((c :: r).drop (runL p (c :: r))) ∧ ((c :: r).drop (runL p (c :: r))).length ≤ n := by
        intro p k35 k10 kp
        obtain ⟨i1, i2⟩ := stF_run k35 k10 (c :: r)
        rw [hpl] at i1 i2
        have e1 : runL p (c :: stF false r) = runL p (c :: r) := by rw [runL, runL, i1]
        refine ⟨e1, ?_, i2, ?_⟩
        · rw [take_run, ← e1, take_run, i1]
        · have := runL_pos (p := p) hc0 kp
          rw [List.length_drop, List.length_cons]; omega
      have step : ∀ (k : Int) (t : List UInt8) (e : Nat) (ok : Bool), nxS (c :: r) 0 c = ⟨k, t, e, ok⟩ → nxS (c :: stF false r) 0 c = ⟨k, t, e, ok⟩ → 0 < e → (c :: stF false r).drop e = stF false ((c :: r).drop e) → ((c :: r).drop e).length ≤ n → tkL (f + 1) (c :: r) = tkL (g + 1) (c :: stF false r) := by
        intro k t e ok h1 h2 he0 h3 h4
        have l1 : ((c :: r).drop e).length < f := by rw [List.length_drop, List.length_cons]; omega
        have l2 : (stF false ((c :: r).drop e)).length < g := by
          rw [← h3, List.length_drop, List.length_cons]; omega
        have ih := tk_strip n ((c :: r).drop e) f g h4 l1 l2
        rw [tkL, tkL, h1, h2]
        simp only
        rw [h3, ih]
      by_cases h32 : c.toNat = 32 ∨ c.toNat = 10
      · exact step 0 [] 1 true (by rw [nxS, if_pos h32]) (by rw [nxS, if_pos h32]) (by decide) rfl (by simp; omega)
      by_cases hl : letP c = true
      · obtain ⟨q1, q2, q3, q4⟩ := hrun let_35 let_10 (by rw [innP, hl]; rfl)
        have q5 := runL_pos (p := innP) hc0 (by rw [innP, hl]; rfl)
        refine step 1 ((c :: r).take (runL innP (c :: r))) (runL innP (c :: r)) (wrdB ((c :: r).take (runL innP (c :: r)))) ?_ ?_ q5 q3 q4
        · rw [nxS, if_neg h32, if_neg h35, if_pos hl]
          simp only [List.drop_zero, Nat.zero_add, subL, Nat.sub_zero]
        · rw [nxS, if_neg h32, if_neg h35, if_pos hl]
          simp only [List.drop_zero, Nat.zero_add, subL, Nat.sub_zero]
          rw [q1, q2]
      by_cases hd : digP c = true
      · obtain ⟨q1, q2, q3, q4⟩ := hrun dig_35 dig_10 hd
        have q5 := runL_pos (p := digP) hc0 hd
        have q6 : ((c :: stF false r)[runL digP (c :: r)]?).any innP = ((c :: r)[runL digP (c :: r)]?).any innP := by
          rw [get_head, get_head, q3]
          exact stF_head let_35 let_10 _
        refine step 2 ((c :: r).take (runL digP (c :: r))) (runL digP (c :: r)) (numB ((c :: r).take (runL digP (c :: r))) && !(((c :: r)[runL digP (c :: r)]?).any innP)) ?_ ?_ q5 q3 q4
        · rw [nxS, if_neg h32, if_neg h35, if_neg hl, if_pos hd]
          simp only [List.drop_zero, Nat.zero_add, subL, Nat.sub_zero]
        · rw [nxS, if_neg h32, if_neg h35, if_neg hl, if_pos hd]
          simp only [List.drop_zero, Nat.zero_add, subL, Nat.sub_zero]
          rw [q1, q2, q6]
      · exact step 3 [c] 1 (sgnP c) (by rw [nxS, if_neg h32, if_neg h35, if_neg hl, if_neg hd]) (by rw [nxS, if_neg h32, if_neg h35, if_neg hl, if_neg hd]) (by decide) rfl (by simp; omega)
/-- the tokens of a text, and whether something is wrong, do not depend on its comments -/
theorem sc_strip (l : List UInt8) : (scT (stF false l)).1 = (scT l).1 ∧ decide ((scT (stF false l)).2 = -1) = decide ((scT l).2 = -1) := by
  obtain ⟨a1, a2⟩ := tk_sc (l.length + 1) l 0 (Nat.zero_le _)
  obtain ⟨b1, b2⟩ := tk_sc ((stF false l).length + 1) (stF false l) 0 (Nat.zero_le _)
  have h := tk_strip l.length l (l.length + 1) ((stF false l).length + 1) (Nat.le_refl _) (Nat.lt_succ_self _) (Nat.lt_succ_self _)
  rw [List.drop_zero] at a1 a2 b1 b2
  exact ⟨by rw [scT, scT, b1, a1, h], by rw [scT, scT, b2, a2, h]⟩
end Go.Proofs.YtjneodmohkpckaaGreatDoor
