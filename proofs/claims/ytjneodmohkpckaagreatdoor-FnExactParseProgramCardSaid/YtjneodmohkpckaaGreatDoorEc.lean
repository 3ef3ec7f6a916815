/- Expressions out of tokens: what both parsers compute. Plain laws. -/
import Derived.Test.YtjneodmohkpckaaGreatDoorEb
import Derived.Test.YtjneodmohkpckaaGreatDoorT12u
namespace Go.Proofs.YtjneodmohkpckaaGreatDoor
open Go.RowKit
set_option linter.unusedVariables false
set_option linter.unusedSimpArgs false
/-- a term -/
structure TM where
  k : Int
  nm : ByteArray
  n : Int
def TM.enc (x : TM) : List Value := [.int .i64 x.k, .string x.nm, .int .i64 x.n]
def TM.ok (x : TM) : Prop := I64 x.k ∧ x.nm.size ≤ maxLen ∧ I64 x.n
def tmK (k : Int) : TM := ⟨k, ⟨#[]⟩, 0⟩
/-- the text of the next token -/
def pkT : List TR → ByteArray
  | [] => ⟨#[]⟩
  | x :: _ => x.t
def isT (L : List TR) (t : List UInt8) : Bool := decide ((pkT L).data.toList = t)
/-- how many values a term takes; whether it has a number -/
def tkA (k : Int) : Nat := if k = 1 ∨ k = 2 ∨ k = 3 then 0 else if k = 4 ∨ k = 7 ∨ k = 8 ∨ k = 9 then 1 else 2
def numK (k : Int) : Bool := decide (k = 7 ∨ k = 8 ∨ k = 11 ∨ k = 12)
inductive Md where
  | ex
  | lo (acc : List TM)
  | pt
  | la (acc : List TM)
  | fc
  | bl (k : Int)
/-- the second expression of a block, its number, its end -/
def blN (k : Int) (r : List TM × List TR) : Option (List TM × List TR × Int) :=
  if numK k = true then (if isT r.2 [44] = true then (match r.2.tail with
    | x :: t => if x.k = 2 then some (r.1, t, (valA 0 x.t.data.toList : Int)) else none
    | [] => none) else none) else some (r.1, r.2, 0)
def blE (k : Int) (r : List TM × List TR × Int) : Option (List TM × List TR) := if isT r.2.1 [41] = true then some (r.1 ++ [⟨k, ⟨#[]⟩, r.2.2⟩], r.2.1.tail) else none
/-- a name -/
def nmE : List TR → Option (List TM × List TR)
  | [] => none
  | x :: t => if x.k = 1 ∧ kwI x.t < 0 then some ([⟨1, x.t, 0⟩], t) else none
/-- the terms at the beginning of tokens, and the tokens behind them; none if they are no expression -/
def prs : Nat → Md → List TR → Option (List TM × List TR)
  | 0, _, _ => none
  | f + 1, .ex, L => (prs f .pt L).bind fun r => prs f (.lo r.1) r.2
  | f + 1, .lo a, L => if isT L [111, 114] = true then (prs f .pt L.tail).bind fun r => prs f (.lo (a ++ r.1 ++ [tmK 6])) r.2 else some (a, L)
  | f + 1, .pt, L => (prs f .fc L).bind fun r => prs f (.la r.1) r.2
  | f + 1, .la a, L => if isT L [97, 110, 100] = true then (prs f .fc L.tail).bind fun r => prs f (.la (a ++ r.1 ++ [tmK 5])) r.2 else some (a, L)
  | f + 1, .fc, L =>
    if isT L [116, 114, 117, 101] = true then some ([tmK 2], L.tail)
    else if isT L [102, 97, 108, 115, 101] = true then some ([tmK 3], L.tail)
    else if isT L [110, 111, 116] = true then (prs f .fc L.tail).bind fun r => some (r.1 ++ [tmK 4], r.2)
    else if isT L [40] = true then (prs f .ex L.tail).bind fun r => if isT r.2 [41] = true then some (r.1, r.2.tail) else none
    else if 11 ≤ kwI (pkT L) then prs f (.bl (kwI (pkT L) - 4)) L.tail
    else nmE L
  | f + 1, .bl k, L =>
    if isT L [40] = true then
      (prs f .ex L.tail).bind fun r =>
      (if tkA k = 2 then (if isT r.2 [44] = true then (prs f .ex r.2.tail).bind fun q => some (r.1 ++ q.1, q.2) else none) else some r).bind fun r =>
      (blN k r).bind fun r => blE k r
    else none
theorem isT_ne {L : List TR} {t : List UInt8} (ht : t ≠ []) (h : isT L t = true) : ∃ x r, L = x :: r ∧ x.t.data.toList = t := by
  cases L with
  | nil => simp [isT, pkT] at h; exact absurd h.symm (by simpa using ht)
  | cons x r => exact ⟨x, r, rfl, of_decide_eq_true h⟩
theorem isT_len {L : List TR} {t : List UInt8} (ht : t ≠ []) (h : isT L t = true) : L.tail.length + 1 = L.length := by
  obtain ⟨x, r, rfl, _⟩ := isT_ne ht h; rfl
theorem kw_ne {L : List TR} (h : 11 ≤ kwI (pkT L)) : L.tail.length + 1 = L.length := by
  cases L with
  | nil => exfalso; have h2 : kwI (pkT []) = -1 := by decide +kernel
           omega
  | cons x r => rfl
/-- what the terms of an expression list must be -/
def tmB (x : TM) : Bool := inB x.k 1 12 && (inB x.n 0 9999 && ((numK x.k || x.n == 0) && (if x.k = 1 then wrdB x.nm.data.toList && decide (kwI x.nm < 0) else decide (x.nm.size = 0))))
/-- the number of values behind terms, from a number on -/
def hgt : Nat → List TM → Option Nat
  | n, [] => some n
  | n, x :: r => if tmB x = true ∧ tkA x.k ≤ n then hgt (n - tkA x.k + 1) r else none
def exprB (l : List TM) : Bool := decide (hgt 0 l = some 1) && decide (l.length ≤ 40)
theorem hgt_app : ∀ (l r : List TM) (n : Nat), hgt n (l ++ r) = (hgt n l).bind fun m => hgt m r
  | [], r, n => rfl
  | x :: l, r, n => by
    rw [List.cons_append, hgt, hgt]
    split
    · exact hgt_app l r _
    · rfl
theorem hgt_more : ∀ (l : List TM) (n m k : Nat), hgt n l = some m → hgt (n + k) l = some (m + k)
  | [], n, m, k, h => by rw [hgt] at h ⊢; cases h; rfl
  | x :: l, n, m, k, h => by
    rw [hgt] at h ⊢
    split at h
    · rename_i hx
      rw [if_pos ⟨hx.1, by omega⟩]
      have := hgt_more l _ m k h
      rw [show n + k - tkA x.k + 1 = n - tkA x.k + 1 + k by omega]
      exact this
    · cases h
/-- tokens as the reader makes them -/
def TkB (x : TR) : Prop := (x.k = 1 ∧ wrdB x.t.data.toList = true) ∨ (x.k = 2 ∧ numB x.t.data.toList = true) ∨ (x.k = 3 ∧ ∃ c, sgnP c = true ∧ x.t.data.toList = [c])
theorem nx_tok {l : List UInt8} {a : Nat} {c : UInt8} (hk : (nxS l a c).ok = true) (h0 : 0 < (nxS l a c).k) : TkB ⟨(nxS l a c).k, strL (nxS l a c).t⟩ := by
  revert hk h0
  rw [nxS]
  split
  · intro _ h; simp at h
  · split
    · intro _ h; simp at h
    · split
      · intro h _; exact .inl ⟨rfl, by simpa [strL_list] using h⟩
      · split
        · intro h _
          simp only [Bool.and_eq_true] at h
          exact .inr (.inl ⟨rfl, by simpa [strL_list] using h.1⟩)
        · intro h _; exact .inr (.inr ⟨rfl, c, h, by simp [strL_list]⟩)
theorem sc_tok : ∀ (f : Nat) (l : List UInt8) (a : Nat), ∀ x ∈ (scL l f a).1, TkB x
  | 0, l, a => fun x hx => by simp [scL] at hx
  | f + 1, l, a => fun x hx => by
    cases hc : l[a]? with
    | none => rw [scL_none hc] at hx; cases hx
    | some c =>
      cases hk : (nxS l a c).ok with
      | false => rw [scL_bad hc hk] at hx; cases hx
      | true =>
        by_cases h0 : 0 < (nxS l a c).k
        · rw [scL_tok hc hk h0] at hx
          rcases List.mem_cons.1 hx with rfl | hx
          · exact nx_tok hk h0
          · exact sc_tok f l _ x hx
        · rw [scL_skip hc hk h0] at hx
          exact sc_tok f l _ x hx
theorem rt_tok {s : ByteArray} : ∀ x ∈ rtL s, TkB x := fun x hx => by
  rw [rtL] at hx
  split at hx
  · cases hx
  · split at hx
    · cases hx
    · split at hx
      · cases hx
      · exact sc_tok _ _ _ x hx
/-- the terms that are read make one value -/
theorem prs_hgt : ∀ (f : Nat) (m : Md) (L : List TR) (r : List TM × List TR), (∀ x ∈ L, TkB x) → prs f m L = some r →
    (∀ x ∈ r.2, TkB x) ∧ (match m with
      | .lo a => hgt 0 a = some 1 → hgt 0 r.1 = some 1
      | .la a => hgt 0 a = some 1 → hgt 0 r.1 = some 1
      | .bl k => 7 ≤ k ∧ k ≤ 12 → hgt 0 r.1 = some 1
      | _ => hgt 0 r.1 = some 1)
  | 0, m, L, r, _, h => by simp [prs] at h
  | f + 1, .ex, L, r, hL, h => by
    rw [prs] at h
    cases h1 : prs f .pt L with
    | none => rw [h1] at h; cases h
    | some q =>
      rw [h1] at h
      obtain ⟨i1, i2⟩ := prs_hgt f .pt L q hL h1
      obtain ⟨j1, j2⟩ := prs_hgt f (.lo q.1) q.2 r i1 h
      exact ⟨j1, j2 i2⟩
  | f + 1, .pt, L, r, hL, h => by
    rw [prs] at h
    cases h1 : prs f .fc L with
    | none => rw [h1] at h; cases h
    | some q =>
      rw [h1] at h
      obtain ⟨i1, i2⟩ := prs_hgt f .fc L q hL h1
      obtain ⟨j1, j2⟩ := prs_hgt f (.la q.1) q.2 r i1 h
      exact ⟨j1, j2 i2⟩
  | f + 1, .lo a, L, r, hL, h => by
    rw [prs] at h
    split at h
    · cases h1 : prs f .pt L.tail with
      | none => rw [h1] at h; cases h
      | some q =>
        rw [h1] at h
        obtain ⟨i1, i2⟩ := prs_hgt f .pt L.tail q (fun x hx => hL x (List.mem_of_mem_tail hx)) h1
        obtain ⟨j1, j2⟩ := prs_hgt f (.lo (a ++ q.1 ++ [tmK 6])) q.2 r i1 h
        refine ⟨j1, fun ha => j2 ?_⟩
        rw [List.append_assoc, hgt_app, ha, Option.bind_some, hgt_app, hgt_more q.1 0 1 1 i2]
        decide
    · cases h; exact ⟨hL, fun ha => ha⟩
  | f + 1, .la a, L, r, hL, h => by
    rw [prs] at h
    split at h
    · cases h1 : prs f .fc L.tail with
      | none => rw [h1] at h; cases h
      | some q =>
        rw [h1] at h
        obtain ⟨i1, i2⟩ := prs_hgt f .fc L.tail q (fun x hx => hL x (List.mem_of_mem_tail hx)) h1
        obtain ⟨j1, j2⟩ := prs_hgt f (.la (a ++ q.1 ++ [tmK 5])) q.2 r i1 h
        refine ⟨j1, fun ha => j2 ?_⟩
        rw [List.append_assoc, hgt_app, ha, Option.bind_some, hgt_app, hgt_more q.1 0 1 1 i2]
        decide
    · cases h; exact ⟨hL, fun ha => ha⟩
  | f + 1, .fc, L, r, hL, h => by
    have hT : ∀ x ∈ L.tail, TkB x := fun x hx => hL x (List.mem_of_mem_tail hx)
    rw [prs] at h
    split at h
    · cases h; exact ⟨hT, show hgt 0 [tmK 2] = some 1 by decide⟩
    split at h
    · cases h; exact ⟨hT, show hgt 0 [tmK 3] = some 1 by decide⟩
    split at h
    · cases h1 : prs f .fc L.tail with
      | none => rw [h1] at h; cases h
      | some q =>
        rw [h1] at h
        cases h
        obtain ⟨i1, i2⟩ := prs_hgt f .fc L.tail q hT h1
        refine ⟨i1, ?_⟩
        simp only at i2 ⊢
        rw [hgt_app, i2]
        decide
    split at h
    · cases h1 : prs f .ex L.tail with
      | none => rw [h1] at h; cases h
      | some q =>
        rw [h1] at h
        obtain ⟨i1, i2⟩ := prs_hgt f .ex L.tail q hT h1
        simp only [Option.bind_some] at h
        split at h
        · cases h; exact ⟨fun x hx => i1 x (List.mem_of_mem_tail hx), i2⟩
        · cases h
    split at h
    · rename_i hk
      have h2 := kwI_hi (pkT L)
      obtain ⟨i1, i2⟩ := prs_hgt f (.bl (kwI (pkT L) - 4)) L.tail r hT h
      exact ⟨i1, i2 ⟨by omega, by omega⟩⟩
    · cases L with
      | nil => cases h
      | cons x t =>
        rw [nmE] at h
        split at h
        · rename_i hx
          cases h
          refine ⟨fun y hy => hL y (List.mem_cons_of_mem _ hy), ?_⟩
          have hw : wrdB x.t.data.toList = true := by
            rcases hL x (List.mem_cons_self ..) with h1 | h1 | h1
            · exact h1.2
            · omega
            · omega
          show hgt 0 [⟨1, x.t, 0⟩] = some 1
          have ht : tmB ⟨1, x.t, 0⟩ = true := by
            simp only [tmB, hw, if_true, Bool.true_and, decide_eq_true hx.2]
            decide
          rw [hgt, if_pos ⟨ht, by simp [tkA]⟩]
          rfl
        · cases h
  | f + 1, .bl k, L, r, hL, h => by
    have hT : ∀ x ∈ L.tail, TkB x := fun x hx => hL x (List.mem_of_mem_tail hx)
    rw [prs] at h
    split at h
    · cases h1 : prs f .ex L.tail with
      | none => rw [h1] at h; cases h
      | some q =>
        rw [h1] at h
        obtain ⟨i1, i2⟩ := prs_hgt f .ex L.tail q hT h1
        simp only [Option.bind_some] at h
        -- the second expression
        have key : ∀ u : List TM × List TR, (if tkA k = 2 then (if isT q.2 [44] = true then (prs f .ex q.2.tail).bind fun p => some (q.1 ++ p.1, p.2) else none) else some q) = some u → (∀ x ∈ u.2, TkB x) ∧ hgt 0 u.1 = some (if tkA k = 2 then 2 else 1) := by
          intro u hu
          split at hu
          · rename_i h2
            split at hu
            · cases h3 : prs f .ex q.2.tail with
              | none => rw [h3] at hu; cases hu
              | some p =>
                rw [h3] at hu
                cases hu
                obtain ⟨j1, j2⟩ := prs_hgt f .ex q.2.tail p (fun x hx => i1 x (List.mem_of_mem_tail hx)) h3
                refine ⟨j1, ?_⟩
                simp only at i2 j2 ⊢
                rw [if_pos h2, hgt_app, i2, Option.bind_some, hgt_more p.1 0 1 1 j2]
            · cases hu
          · rename_i h2
            cases hu
            exact ⟨i1, by rw [if_neg h2]; exact i2⟩
        cases hu : (if tkA k = 2 then (if isT q.2 [44] = true then (prs f .ex q.2.tail).bind fun p => some (q.1 ++ p.1, p.2) else none) else some q) with
        | none => rw [hu] at h; cases h
        | some u =>
          rw [hu] at h
          obtain ⟨k1, k2⟩ := key u hu
          simp only [Option.bind_some] at h
          have key2 : ∀ v : List TM × List TR × Int, blN k u = some v → (∀ x ∈ v.2.1, TkB x) ∧ v.1 = u.1 ∧ inB v.2.2 0 9999 = true ∧ (numK k = true ∨ v.2.2 = 0) := by
            intro v hv
            rw [blN] at hv
            split at hv
            · rename_i hn
              split at hv
              · split at hv
                · rename_i x t ht
                  split at hv
                  · rename_i hx
                    cases hv
                    have hmem : ∀ y ∈ u.2.tail, TkB y := fun y hy => k1 y (List.mem_of_mem_tail hy)
                    rw [ht] at hmem
                    refine ⟨fun y hy => hmem y (List.mem_cons_of_mem _ hy), rfl, ?_, .inl hn⟩
                    rcases hmem x (List.mem_cons_self ..) with h1 | h1 | h1
                    · omega
                    · have := h1.2
                      simp only [numB, Bool.and_eq_true, decide_eq_true_eq] at this
                      simp only [inB, Bool.and_eq_true, decide_eq_true_eq]
                      omega
                    · omega
                  · cases hv
                · cases hv
              · cases hv
            · cases hv; exact ⟨k1, rfl, show inB 0 0 9999 = true by decide, .inr rfl⟩
          cases hv : blN k u with
          | none => rw [hv] at h; cases h
          | some v =>
            rw [hv] at h
            obtain ⟨l1, l2, l3, l4⟩ := key2 v hv
            simp only [Option.bind_some, blE] at h
            split at h
            · cases h
              refine ⟨fun x hx => l1 x (List.mem_of_mem_tail hx), fun hk => ?_⟩
              simp only
              rw [l2, hgt_app, k2, Option.bind_some]
              have hkk : k = 7 ∨ k = 8 ∨ k = 9 ∨ k = 10 ∨ k = 11 ∨ k = 12 := by omega
              have htm : tmB ⟨k, ⟨#[]⟩, v.2.2⟩ = true := by
                have h1 : inB k 1 12 = true := by simp only [inB, Bool.and_eq_true, decide_eq_true_eq]; omega
                have h2 : (numK k || v.2.2 == 0) = true := by
                  rcases l4 with h | h
                  · rw [h]; rfl
                  · rw [h]; simp
                have h3 : ¬ k = 1 := by omega
                simp only [tmB, h1, l3, h2, if_neg h3]
                rfl
              rw [hgt, if_pos ⟨htm, show tkA k ≤ if tkA k = 2 then 2 else 1 by rcases hkk with rfl | rfl | rfl | rfl | rfl | rfl <;> decide⟩, hgt]
              rcases hkk with rfl | rfl | rfl | rfl | rfl | rfl <;> rfl
            · cases h
    · cases h
theorem prs_len : ∀ (f : Nat) (m : Md) (L : List TR) (r : List TM × List TR), prs f m L = some r → r.2.length ≤ L.length
  | 0, m, L, r, h => by simp [prs] at h
  | f + 1, .ex, L, r, h => by
    rw [prs] at h
    cases h1 : prs f .pt L with
    | none => rw [h1] at h; cases h
    | some q => rw [h1] at h; exact Nat.le_trans (prs_len f _ _ _ h) (prs_len f _ _ _ h1)
  | f + 1, .pt, L, r, h => by
    rw [prs] at h
    cases h1 : prs f .fc L with
    | none => rw [h1] at h; cases h
    | some q => rw [h1] at h; exact Nat.le_trans (prs_len f _ _ _ h) (prs_len f _ _ _ h1)
  | f + 1, .lo a, L, r, h => by
    rw [prs] at h
    split at h
    · cases h1 : prs f .pt L.tail with
      | none => rw [h1] at h; cases h
      | some q => rw [h1] at h; have a1 := prs_len f _ _ _ h; have a2 := prs_len f _ _ _ h1; rw [List.length_tail] at a2; omega
    · cases h; exact Nat.le_refl _
  | f + 1, .la a, L, r, h => by
    rw [prs] at h
    split at h
    · cases h1 : prs f .fc L.tail with
      | none => rw [h1] at h; cases h
      | some q => rw [h1] at h; have a1 := prs_len f _ _ _ h; have a2 := prs_len f _ _ _ h1; rw [List.length_tail] at a2; omega
    · cases h; exact Nat.le_refl _
  | f + 1, .fc, L, r, h => by
    have hT : L.tail.length ≤ L.length := by rw [List.length_tail]; omega
    rw [prs] at h
    split at h
    · cases h; exact hT
    split at h
    · cases h; exact hT
    split at h
    · cases h1 : prs f .fc L.tail with
      | none => rw [h1] at h; cases h
      | some q => rw [h1] at h; cases h; have a2 := prs_len f _ _ _ h1; simp only; omega
    split at h
    · cases h1 : prs f .ex L.tail with
      | none => rw [h1] at h; cases h
      | some q =>
        rw [h1] at h
        simp only [Option.bind_some] at h
        split at h
        · cases h; have a2 := prs_len f _ _ _ h1; simp only [List.length_tail]; rw [List.length_tail] at a2; omega
        · cases h
    split at h
    · have a1 := prs_len f _ _ _ h; omega
    · cases L with
      | nil => cases h
      | cons x t =>
        rw [nmE] at h
        split at h
        · cases h; simp
        · cases h
  | f + 1, .bl k, L, r, h => by
    rw [prs] at h
    split at h
    · cases h1 : prs f .ex L.tail with
      | none => rw [h1] at h; cases h
      | some q =>
        rw [h1] at h
        have a1 := prs_len f _ _ _ h1
        rw [List.length_tail] at a1
        simp only [Option.bind_some] at h
        cases hu : (if tkA k = 2 then (if isT q.2 [44] = true then (prs f .ex q.2.tail).bind fun p => some (q.1 ++ p.1, p.2) else none) else some q) with
        | none => rw [hu] at h; cases h
        | some u =>
          rw [hu] at h
          have a2 : u.2.length ≤ q.2.length := by
            split at hu
            · split at hu
              · cases h3 : prs f .ex q.2.tail with
                | none => rw [h3] at hu; cases hu
                | some p => rw [h3] at hu; cases hu; have := prs_len f _ _ _ h3; rw [List.length_tail] at this; simp only; omega
              · cases hu
            · cases hu; exact Nat.le_refl _
          simp only [Option.bind_some] at h
          cases hv : blN k u with
          | none => rw [hv] at h; cases h
          | some v =>
            rw [hv] at h
            have a3 : v.2.1.length ≤ u.2.length := by
              rw [blN] at hv
              split at hv
              · split at hv
                · split at hv
                  · rename_i x t ht
                    split at hv
                    · cases hv
                      have : u.2.tail.length = (x :: t).length := by rw [ht]
                      rw [List.length_tail, List.length_cons] at this
                      simp only; omega
                    · cases hv
                  · cases hv
                · cases hv
              · cases hv; exact Nat.le_refl _
            simp only [Option.bind_some, blE] at h
            split at h
            · cases h; simp only [List.length_tail]; omega
            · cases h
    · cases h
end Go.Proofs.YtjneodmohkpckaaGreatDoor
