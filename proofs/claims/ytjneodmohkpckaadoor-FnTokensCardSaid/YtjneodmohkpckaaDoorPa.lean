/- The standard text of a list of tokens, read back: plain laws. -/
import Derived.Test.YtjneodmohkpckaaDoorJa
import Derived.Test.YtjneodmohkpckaaDoorEa
namespace Go.Proofs.YtjneodmohkpckaaDoor
open Go.RowKit
set_option linter.unusedVariables false
set_option linter.unusedSimpArgs false
theorem run_app {p : UInt8 → Bool} : ∀ {t rest : List UInt8}, t.all p = true → rest.head?.any p = false → runL p (t ++ rest) = t.length
  | [], [], _, _ => rfl
  | [], d :: r, _, h => by
    simp only [List.head?_cons, Option.any_some] at h
    rw [List.nil_append, runL, List.takeWhile_cons, if_neg (by rw [h]; exact Bool.false_ne_true)]
  | c :: t, rest, ha, h => by
    rw [List.all_cons, Bool.and_eq_true] at ha
    have ih := run_app ha.2 h
    rw [runL] at ih ⊢
    rw [List.cons_append, List.takeWhile_cons, if_pos ha.1, List.length_cons, ih, List.length_cons]
theorem sub_app (t rest : List UInt8) : subL (t ++ rest) 0 (0 + t.length) = t := by
  rw [subL, List.drop_zero, Nat.zero_add, Nat.sub_zero, List.take_left']; rfl
theorem inn_letF {c : UInt8} (h : letP c = true) : innP c = true := by rw [innP, h]; rfl
theorem inn_digF {c : UInt8} (h : digP c = true) : innP c = true := by rw [innP, h]; simp
theorem strL_back (s : ByteArray) : strL s.data.toList = s := by cases s; simp [strL]
/-- a token that stands here is read -/
theorem tk_one {x : TR} {rest : List UInt8} (f : Nat) (h : tokB x = true) (hr : x.k = 3 ∨ rest.head?.any innP = false) : tkL (f + 1) (x.t.data.toList ++ rest) = (x :: (tkL f rest).1, (tkL f rest).2) := by
  obtain ⟨k, s⟩ := x
  rw [tokB] at h
  simp only at h hr ⊢
  have hs := strL_back s
  generalize hl : s.data.toList = t at *
  have fin : ∀ (c : UInt8) (r : List UInt8), t = c :: r → nxS (t ++ rest) 0 c = ⟨k, t, 0 + t.length, true⟩ → 0 < k → tkL (f + 1) (t ++ rest) = (⟨k, s⟩ :: (tkL f rest).1, (tkL f rest).2) := by
    intro c r e hx hk
    have e2 : t ++ rest = c :: (r ++ rest) := by rw [e]; rfl
    have hd : (t ++ rest).drop (0 + t.length) = rest := by rw [Nat.zero_add, List.drop_left']; rfl
    rw [e2, tkL, ← e2, hx]
    simp only [if_true, if_pos hk]
    rw [hd, hs]
  by_cases k1 : k = 1
  · subst k1
    rw [if_pos rfl] at h
    have hr : rest.head?.any innP = false := by rcases hr with h | h; cases h; exact h
    match t, h with
    | [], h => simp [wrdB] at h
    | c :: r, h =>
      have hw := h
      rw [wrdB] at h
      simp only [Bool.and_eq_true, List.head?_cons, Option.any_some] at h
      obtain ⟨_, hc, ha⟩ := h
      have hc' := hc
      simp only [letP, Bool.and_eq_true, decide_eq_true_eq] at hc'
      refine fin c r rfl ?_ (by decide)
      rw [nxS, if_neg (by omega), if_neg (by omega), if_pos hc, List.drop_zero, run_app ha hr, sub_app, hw]
  rw [if_neg k1] at h
  by_cases k2 : k = 2
  · subst k2
    rw [if_pos rfl] at h
    have hr : rest.head?.any innP = false := by rcases hr with h | h; cases h; exact h
    obtain ⟨n1, n2, n3⟩ := numB_len h
    match t, h with
    | [], h => simp at n1
    | c :: r, h =>
      have hc : digP c = true := by rw [List.all_cons, Bool.and_eq_true] at n3; exact n3.1
      have hc' := hc
      simp only [digP, Bool.and_eq_true, decide_eq_true_eq] at hc'
      have hl : ¬ letP c = true := by simp [letP]; omega
      have hrd : rest.head?.any digP = false := by
        cases rest with
        | nil => rfl
        | cons d q =>
          simp only [List.head?_cons, Option.any_some] at hr ⊢
          cases hd : digP d with
          | false => rfl
          | true => rw [inn_digF hd] at hr; cases hr
      have hg : ((c :: r) ++ rest)[0 + (c :: r).length]? = rest.head? := by
        rw [Nat.zero_add, List.getElem?_append_right (Nat.le_refl _), Nat.sub_self, List.head?_eq_getElem?]
      refine fin c r rfl ?_ (by decide)
      rw [nxS, if_neg (by omega), if_neg (by omega), if_neg hl, if_pos hc, List.drop_zero, run_app n3 hrd, sub_app, hg, h, hr]
      rfl
  rw [if_neg k2] at h
  by_cases k3 : k = 3
  · subst k3
    rw [if_pos rfl] at h
    match t, h with
    | [], h => cases h
    | [c], h =>
      have hc : sgnP c = true := h
      have hc' := hc
      simp only [sgnP, Bool.or_eq_true, decide_eq_true_eq] at hc'
      have hl : ¬ letP c = true := by simp [letP]; omega
      have hd : ¬ digP c = true := by simp [digP]; omega
      refine fin c [] rfl ?_ (by decide)
      rw [nxS, if_neg (by omega), if_neg (by omega), if_neg hl, if_neg hd, hc]
      rfl
    | c :: d :: r, h => cases h
  · rw [if_neg k3] at h; cases h
theorem tk_blank (f : Nat) {c : UInt8} (h : c.toNat = 32 ∨ c.toNat = 10) (rest : List UInt8) : tkL (f + 1) (c :: rest) = tkL f rest := by
  rw [tkL, nxS, if_pos h]
  simp
/-- the text from the token k on -/
def sfT (l : List TR) (k m : Nat) : List UInt8 := (List.range' k m).flatMap (pcT l)
theorem sfT_next (l : List TR) (k m : Nat) : sfT l k (m + 1) = pcT l k ++ sfT l (k + 1) m := by rw [sfT, List.range'_succ, List.flatMap_cons]; rfl
theorem sfT_all (l : List TR) (n : Nat) : txL l n = sfT l 0 n := by rw [txL, sfT, List.range_eq_range']
theorem tok_head {x : TR} (h : tokB x = true) : ∃ c r, x.t.data.toList = c :: r := by
  obtain ⟨k, s⟩ := x
  simp only [tokB] at h ⊢
  generalize s.data.toList = t at *
  cases t with
  | cons c r => exact ⟨c, r, rfl⟩
  | nil =>
    exfalso
    revert h
    split
    · decide
    · split
      · intro h; have := (numB_len h).1; simp at this
      · split
        · intro h; cases h
        · intro h; cases h
theorem isS_list {s : ByteArray} {c : UInt8} (h : isS s c = true) : s.data.toList = [c] := by
  rw [isS, beq_iff_eq, ByteArray.toList_eq] at h; exact h
/-- behind a word or a number stands what ends it -/
theorem pc_stop {l : List TR} {k : Nat} {rest : List UInt8} (ha : tokB (tkAt l k) = true) (h3 : (tkAt l k).k ≠ 3) : (pcT l (k + 1) ++ rest).head?.any innP = false := by
  rw [pcT, Nat.add_sub_cancel]
  by_cases hb : blkB (tkAt l k).t (tkAt l (k + 1)).t = true
  · rw [if_pos ⟨by omega, hb⟩]; rfl
  · rw [if_neg (fun h => hb h.2)]
    have hs : ∀ c : UInt8, sgnP c = true → ¬ isS (tkAt l k).t c = true := by
      intro c hc h
      have e := isS_list h
      simp only [sgnP, Bool.or_eq_true, decide_eq_true_eq] at hc
      rw [tokB, e] at ha
      revert ha
      split
      · simp [wrdB, letP]; omega
      · split
        · intro h
          have := (numB_len h).2.2
          simp [digP] at this; omega
        · intro h; first | cases h | (rw [if_neg h3] at h; cases h)
    have hsb : ∀ c : UInt8, sgnP c = true → isS (tkAt l (k + 1)).t c = true → (([] ++ (tkAt l (k + 1)).t.data.toList ++ (if isS (tkAt l (k + 1)).t 59 = true then [10] else [])) ++ rest).head?.any innP = false := by
      intro c hc h
      rw [isS_list h]
      simp only [sgnP, Bool.or_eq_true, decide_eq_true_eq] at hc
      simp [innP, letP, digP]; omega
    rw [blkB, if_neg (hs 59 (by decide)), if_neg (hs 40 (by decide))] at hb
    by_cases q1 : isS (tkAt l (k + 1)).t 59 = true
    · exact hsb 59 (by decide) q1
    rw [if_neg q1] at hb
    by_cases q2 : isS (tkAt l (k + 1)).t 44 = true
    · exact hsb 44 (by decide) q2
    rw [if_neg q2] at hb
    by_cases q3 : isS (tkAt l (k + 1)).t 41 = true
    · exact hsb 41 (by decide) q3
    rw [if_neg q3] at hb
    by_cases q4 : isS (tkAt l (k + 1)).t 40 = true
    · exact hsb 40 (by decide) q4
    rw [if_neg q4] at hb
    exact absurd rfl hb
theorem tk_back {l : List TR} (h : ∀ x ∈ l, tokB x = true) : ∀ (m k f : Nat), k + m = l.length → (sfT l k m).length < f → tkL f (sfT l k m) = (l.drop k, true)
  | 0, k, f + 1, hk, hf => by
    rw [List.drop_of_length_le (by omega)]; rfl
  | m + 1, k, f, hk, hf => by
    have hlt : k < l.length := by omega
    obtain ⟨x, hx⟩ : ∃ x, l[k]? = some x := ⟨_, List.getElem?_eq_getElem hlt⟩
    have ht := tkAt_of hx
    have hm := h x (List.mem_of_getElem? hx)
    have hdr : l.drop k = x :: l.drop (k + 1) := by
      rw [List.drop_eq_getElem_cons hlt, (List.getElem?_eq_some_iff.1 hx).2]
    rw [sfT_next, pcT, ht] at hf ⊢
    rw [hdr]
    obtain ⟨c0, r0, he⟩ := tok_head hm
    have ih := fun f hf => tk_back h m (k + 1) f (by omega) hf
    -- behind the token
    have hrest : ∀ f, ((if isS x.t 59 = true then [10] else []) ++ sfT l (k + 1) m : List UInt8).length < f → tkL f ((if isS x.t 59 = true then [10] else []) ++ sfT l (k + 1) m) = (l.drop (k + 1), true) := by
      intro f hf
      by_cases h5 : isS x.t 59 = true
      · rw [if_pos h5] at hf ⊢
        obtain ⟨g, rfl⟩ : ∃ g, f = g + 1 := ⟨f - 1, by simp at hf; omega⟩
        rw [List.singleton_append, tk_blank g (Or.inr (by decide))]
        exact ih g (by simp at hf; omega)
      · rw [if_neg h5] at hf ⊢
        exact ih f (by simpa using hf)
    have hstop : x.k = 3 ∨ (((if isS x.t 59 = true then [10] else []) ++ sfT l (k + 1) m : List UInt8)).head?.any innP = false := by
      by_cases h3 : x.k = 3
      · exact Or.inl h3
      · refine Or.inr ?_
        by_cases h5 : isS x.t 59 = true
        · rw [if_pos h5]; rfl
        · rw [if_neg h5, List.nil_append]
          cases m with
          | zero => rfl
          | succ m =>
            rw [sfT_next]
            exact pc_stop (by rw [ht]; exact hm) (by rw [ht]; exact h3)
    have htok : ∀ f, (x.t.data.toList ++ (if isS x.t 59 = true then [10] else []) ++ sfT l (k + 1) m : List UInt8).length < f → tkL f (x.t.data.toList ++ (if isS x.t 59 = true then [10] else []) ++ sfT l (k + 1) m) = (x :: l.drop (k + 1), true) := by
      intro f hf
      rw [List.append_assoc] at hf ⊢
      rw [he, List.cons_append, List.length_cons] at hf
      obtain ⟨g, rfl⟩ : ∃ g, f = g + 1 := ⟨f - 1, by omega⟩
      rw [tk_one g hm hstop, hrest g (by rw [List.length_append] at hf; omega)]
    by_cases hb : 0 < k ∧ blkB (tkAt l (k - 1)).t x.t = true
    · rw [if_pos hb] at hf ⊢
      simp only [List.cons_append, List.nil_append, List.append_assoc] at hf ⊢ htok
      rw [List.length_cons] at hf
      obtain ⟨g, rfl⟩ : ∃ g, f = g + 1 := ⟨f - 1, by omega⟩
      rw [tk_blank g (Or.inl (by decide))]
      exact htok g (by omega)
    · rw [if_neg hb] at hf ⊢
      simp only [List.nil_append] at hf ⊢
      exact htok f hf
theorem tksC_0 {l : List TR} (h : tksC l = 0) : l.length ≤ 800 ∧ ∀ x ∈ l, tokB x = true := by
  rw [tksC] at h
  split at h
  · cases h
  · rename_i h8
    split at h
    · cases h
    · rename_i ha
      refine ⟨by omega, fun x hx => ?_⟩
      cases hq : tokB x with
      | true => rfl
      | false => exact absurd (List.any_eq_true.2 ⟨x, hx, by rw [hq]; rfl⟩) ha
/-- the tokens of the standard text are those of the list -/
theorem sc_std {l : List TR} (h : tksC l = 0) : scT (txL l l.length) = (l, -1) := by
  obtain ⟨h1, h2⟩ := tksC_0 h
  have e := sfT_all l l.length
  obtain ⟨a1, a2⟩ := tk_sc ((txL l l.length).length + 1) (txL l l.length) 0 (Nat.zero_le _)
  have hb := tk_back h2 l.length 0 ((txL l l.length).length + 1) (by omega) (by rw [← e]; omega)
  rw [← e] at hb
  rw [List.drop_zero, hb] at a1 a2
  rw [scT]
  exact Prod.ext (by rw [a1]; rfl) (by simpa using a2)
def stB (l : List TR) : ByteArray := ⟨(txL l l.length).toArray⟩
theorem rt_std {l : List TR} (h : tksC l = 0) : (6000 < (stB l).size ∧ rtC (stB l) = 3) ∨ (rtC (stB l) = 0 ∧ rtL (stB l) = l) := by
  have hs := sc_std h
  obtain ⟨h1, h2⟩ := tksC_0 h
  have e : (stB l).data.toList = txL l l.length := by simp [stB]
  by_cases h6 : 6000 < (stB l).size
  · exact Or.inl ⟨h6, by rw [rtC, if_pos h6]⟩
  · refine Or.inr ⟨?_, ?_⟩
    · rw [rtC, if_neg h6, e, hs]; simp; omega
    · rw [rtL, if_neg h6, e, hs]; simp; omega
end Go.Proofs.YtjneodmohkpckaaDoor
