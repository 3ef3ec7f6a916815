/- The search through the states of a model: plain laws.; Ascending lists of states: plain laws.; Tests, rules and states of models: what the search of the program calls, walked.; The state to which a rule leads, and a state's text: the program, walked.; A state's text: the program, walked.; The rules that are enabled in a state: the program, walked.; A set of texts: a map from texts to truth values that the call makes.; The list of the states that a search has found: a row of records, each with a slice of the call's own.; Rows of states: slices of slices of numbers that are the call's own; what the reference's search keeps. -/
import Derived.Test.YtkaikbaagajckaaGreatR03
import Derived.Test.YtkaikbaagajckaaGreatR02
import Derived.Laws.BytesArg
import Derived.Test.YtkaikbaagajckaaGreatR11
import Derived.Test.YtkaikbaagajckaaGreatR06
import Derived.Test.YtkaikbaagajckaaGreatBase
import Derived.Maps.Own
import Derived.Maps.Views
import Derived.Maps.OwnOps
namespace Go.Proofs.YtkaikbaagajckaaGreat
open Go.RowKit
set_option linter.unusedVariables false
set_option linter.unusedSimpArgs false
/-- a state that was found: the state, the place of the state from which it was found, the rule, how many rules, the rules -/
structure SN where
  v : List Int
  fr : Int
  ru : Int
  dp : Int
  tr : List Int
def holdsP (v : List Int) (g : List I2b) : Bool := g.all fun t => (v.getD t.a.toNat 0 == t.b) == t.c
def zRu : RuD := ⟨⟨#[]⟩, [], []⟩
def enabP (rs : List RuD) (v : List Int) : List Nat := (List.range rs.length).filter fun i => holdsP v (rs.getD i zRu).g
def applyP (v : List Int) (e : List I2) : List Int := e.foldl (fun u a => u.set a.a.toNat a.b) v
def nextP (rs : List RuD) (v : List Int) : List (Nat × List Int) := (enabP rs v).map fun i => (i, applyP v (rs.getD i zRu).e)
def addN (i : Nat) (x : SN) (L : List SN) (r : Nat × List Int) : List SN :=
  if L.any (fun y => y.v == r.2) then L else L ++ [⟨r.2, i, r.1, x.dp + 1, x.tr ++ [(r.1 : Int)]⟩]
def expN (rs : List RuD) (i : Nat) (x : SN) (L : List SN) : List SN := (nextP rs x.v).foldl (addN i x) L
def runN9 (rs : List RuD) : Nat → Nat → List SN → Option (List SN)
  | 0, _, _ => none
  | f + 1, i, L => match L[i]? with
    | none => some L
    | some x => if 4000 < (expN rs i x L).length then none else runN9 rs f (i + 1) (expN rs i x L)
def bfsP (rs : List RuD) (st : List Int) : Option (List SN) := runN9 rs 4002 0 [⟨st, -1, 0, 0, []⟩]
theorem addN_pre (i : Nat) (x : SN) (L : List SN) (r : Nat × List Int) : ∃ t, addN i x L r = L ++ t ∧ t.length ≤ 1 := by
  rw [addN]
  split
  · exact ⟨[], by simp, by simp⟩
  · exact ⟨_, rfl, by simp⟩
theorem foldN_pre (i : Nat) (x : SN) : ∀ (l : List (Nat × List Int)) (L : List SN), ∃ t, l.foldl (addN i x) L = L ++ t ∧ t.length ≤ l.length
  | [], L => ⟨[], by simp, by simp⟩
  | r :: l, L => by
    obtain ⟨t1, h1, h2⟩ := addN_pre i x L r
    obtain ⟨t2, h3, h4⟩ := foldN_pre i x l (addN i x L r)
    exact ⟨t1 ++ t2, by rw [List.foldl_cons, h3, h1, List.append_assoc], by rw [List.length_append, List.length_cons]; omega⟩
theorem runN9_done {rs : List RuD} {f i : Nat} {L : List SN} (h : L[i]? = none) : runN9 rs (f + 1) i L = some L := by rw [runN9, h]
theorem runN9_over {rs : List RuD} {f i : Nat} {L : List SN} {x : SN} (h : L[i]? = some x) (ho : 4000 < (expN rs i x L).length) : runN9 rs (f + 1) i L = none := by rw [runN9, h]; simp [ho]
theorem runN9_step {rs : List RuD} {f i : Nat} {L : List SN} {x : SN} (h : L[i]? = some x) (ho : ¬ 4000 < (expN rs i x L).length) : runN9 rs (f + 1) i L = runN9 rs f (i + 1) (expN rs i x L) := by rw [runN9, h]; simp [ho]
/-- a state's values lie in the sizes -/
def SV (sz v : List Int) : Prop := v.length = sz.length ∧ ∀ (k : Nat) (x z : Int), v[k]? = some x → sz[k]? = some z → 0 ≤ x ∧ x < z
def RuV (sz : List Int) (r : RuD) : Prop := (∀ t ∈ r.g, 0 ≤ t.a ∧ t.a < sz.length) ∧ (∀ a ∈ r.e, 0 ≤ a.a ∧ a.a < sz.length ∧ ∀ z, sz[a.a.toNat]? = some z → 0 ≤ a.b ∧ a.b < z)
theorem sv_set {sz v : List Int} (h : SV sz v) {k : Nat} {x : Int} (hx : ∀ z, sz[k]? = some z → 0 ≤ x ∧ x < z) : SV sz (v.set k x) := by
  refine ⟨by rw [List.length_set]; exact h.1, fun j y z hy hz => ?_⟩
  rw [List.getElem?_set] at hy
  split at hy
  · rename_i e
    subst e
    split at hy
    · cases hy; exact hx z hz
    · cases hy
  · exact h.2 j y z hy hz
theorem sv_apply {sz : List Int} : ∀ {e : List I2} {v : List Int}, SV sz v → (∀ a ∈ e, ∀ z, sz[a.a.toNat]? = some z → 0 ≤ a.b ∧ a.b < z) → SV sz (applyP v e)
  | [], v, h, _ => h
  | a :: e, v, h, he => by
    rw [applyP, List.foldl_cons]
    exact sv_apply (sv_set h (he a (List.mem_cons_self ..))) fun b hb => he b (List.mem_cons_of_mem _ hb)
/-- all states that were found are states; no state stands twice; each but the first was found from one before it -/
structure SNs (sz : List Int) (L : List SN) : Prop where
  sv : ∀ y ∈ L, SV sz y.v
  nd : (L.map (·.v)).Nodup
  fr : ∀ (j : Nat) (y : SN), L[j]? = some y → (y.fr = -1 ∧ y.tr = []) ∨ ∃ (k : Nat) (z : SN), y.fr = (k : Int) ∧ k < j ∧ L[k]? = some z ∧ y.tr = z.tr ++ [y.ru]
theorem SNs.start {sz st : List Int} (h : SV sz st) : SNs sz [⟨st, -1, 0, 0, []⟩] := by
  refine ⟨fun y hy => ?_, by simp, fun j y hy => ?_⟩
  · simp at hy; rw [hy]; exact h
  · cases j with
    | zero => simp at hy; subst hy; exact .inl ⟨rfl, rfl⟩
    | succ j => simp at hy
theorem SNs.add {sz : List Int} {L : List SN} (h : SNs sz L) {i : Nat} {x : SN} (hx : L[i]? = some x) {r : Nat × List Int} (hr : SV sz r.2) : SNs sz (addN i x L r) := by
  rw [addN]
  split
  · exact h
  · rename_i hn
    have hi : i < L.length := (List.getElem?_eq_some_iff.1 hx).1
    refine ⟨fun y hy => ?_, ?_, fun j y hy => ?_⟩
    · rcases List.mem_append.1 hy with hy | hy
      · exact h.sv y hy
      · simp at hy; rw [hy]; exact hr
    · rw [List.map_append, List.nodup_append]
      refine ⟨h.nd, by simp, fun a ha b hb => ?_⟩
      simp at hb
      subst hb
      rintro rfl
      obtain ⟨y, hy, hyv⟩ := List.mem_map.1 ha
      exact hn (List.any_eq_true.2 ⟨y, hy, by simp [hyv]⟩)
    · by_cases hj : j < L.length
      · rw [List.getElem?_append_left hj] at hy
        rcases h.fr j y hy with h1 | ⟨k, z, h1, h2, h3, h4⟩
        · exact .inl h1
        · exact .inr ⟨k, z, h1, h2, by rw [List.getElem?_append_left (by omega)]; exact h3, h4⟩
      · rw [List.getElem?_append_right (by omega)] at hy
        have hj0 : j = L.length := by
          have := (List.getElem?_eq_some_iff.1 hy).1
          simp at this; omega
        subst hj0
        simp at hy
        subst hy
        exact .inr ⟨i, x, rfl, hi, by rw [List.getElem?_append_left hi]; exact hx, rfl⟩
theorem SNs.fold {sz : List Int} {i : Nat} {x : SN} : ∀ {l : List (Nat × List Int)} {L : List SN}, SNs sz L → L[i]? = some x → (∀ r ∈ l, SV sz r.2) → SNs sz (l.foldl (addN i x) L)
  | [], L, h, _, _ => h
  | r :: l, L, h, hx, hl => by
    rw [List.foldl_cons]
    refine SNs.fold (h.add hx (hl r (List.mem_cons_self ..))) ?_ fun q hq => hl q (List.mem_cons_of_mem _ hq)
    obtain ⟨t, ht, _⟩ := addN_pre i x L r
    rw [ht, List.getElem?_append_left (List.getElem?_eq_some_iff.1 hx).1]
    exact hx
theorem next_sv {sz : List Int} {rs : List RuD} {v : List Int} (hr : ∀ r ∈ rs, RuV sz r) (hv : SV sz v) : ∀ q ∈ nextP rs v, SV sz q.2 := by
  intro q hq
  rw [nextP] at hq
  obtain ⟨i, hi, rfl⟩ := List.mem_map.1 hq
  refine sv_apply hv fun a ha z hz => ?_
  by_cases h : i < rs.length
  · have hm : rs.getD i zRu ∈ rs := by rw [List.getD_eq_getElem?_getD, List.getElem?_eq_getElem h]; exact List.getElem_mem h
    exact ((hr _ hm).2 a ha).2.2 z hz
  · rw [List.getD_eq_getElem?_getD, List.getElem?_eq_none (by omega)] at ha
    cases ha
theorem SNs.exp {sz : List Int} {rs : List RuD} {i : Nat} {x : SN} {L : List SN} (hr : ∀ r ∈ rs, RuV sz r) (h : SNs sz L) (hx : L[i]? = some x) : SNs sz (expN rs i x L) :=
  h.fold hx (next_sv hr (h.sv x (List.mem_of_getElem? hx)))
theorem SNs.run {sz : List Int} {rs : List RuD} (hr : ∀ r ∈ rs, RuV sz r) : ∀ (f i : Nat) {L M : List SN}, SNs sz L → runN9 rs f i L = some M → SNs sz M
  | 0, _, _, _, _, h => by cases h
  | f + 1, i, L, M, hL, h => by
    rw [runN9] at h
    split at h
    · cases h; exact hL
    · rename_i x hx
      split at h
      · cases h
      · exact SNs.run hr f (i + 1) (hL.exp hr hx) h
/-- a state as a text -/
def keyL (v : List Int) : List UInt8 := v.map fun x => UInt8.ofNat x.toNat
theorem keyL_inj {sz : List Int} (hz : ∀ z ∈ sz, z ≤ 256) : ∀ {v u : List Int}, SV sz v → SV sz u → keyL v = keyL u → v = u := by
  intro v u hv hu h
  apply List.ext_getElem?
  intro k
  have h1 : (keyL v)[k]? = (keyL u)[k]? := by rw [h]
  rw [keyL, keyL, List.getElem?_map, List.getElem?_map] at h1
  by_cases hk : k < sz.length
  · have e1 := List.getElem?_eq_getElem (show k < v.length by rw [hv.1]; exact hk)
    have e2 := List.getElem?_eq_getElem (show k < u.length by rw [hu.1]; exact hk)
    have e3 := List.getElem?_eq_getElem hk
    have b1 := hv.2 k _ _ e1 e3
    have b2 := hu.2 k _ _ e2 e3
    have b3 := hz _ (List.getElem_mem hk)
    rw [e1, e2] at h1
    simp only [Option.map_some, Option.some.injEq] at h1
    have h2 := congrArg UInt8.toNat h1
    rw [UInt8.toNat_ofNat_of_lt' (by simp only [UInt8.size]; omega), UInt8.toNat_ofNat_of_lt' (by simp only [UInt8.size]; omega)] at h2
    rw [e1, e2]
    congr 1
    omega
  · rw [List.getElem?_eq_none (by rw [hv.1]; omega), List.getElem?_eq_none (by rw [hu.1]; omega)]
def cmpL : List Int → List Int → Int
  | a :: r, b :: q => if a < b then -1 else if b < a then 1 else cmpL r q
  | _, _ => 0
theorem cmpL_self : ∀ a : List Int, cmpL a a = 0
  | [] => rfl
  | x :: a => by rw [cmpL, if_neg (by omega), if_neg (by omega)]; exact cmpL_self a
theorem cmpL_eq : ∀ {a b : List Int}, a.length = b.length → cmpL a b = 0 → a = b
  | [], [], _, _ => rfl
  | x :: a, y :: b, hl, h => by
    rw [cmpL] at h
    split at h
    · omega
    · split at h
      · omega
      · rw [cmpL_eq (by simpa using hl) h, show x = y by omega]
  | [], _ :: _, hl, _ => by simp at hl
  | _ :: _, [], hl, _ => by simp at hl
theorem cmpL_range : ∀ (a b : List Int), cmpL a b = -1 ∨ cmpL a b = 0 ∨ cmpL a b = 1
  | [], b => by simp [cmpL]
  | x :: a, [] => by simp [cmpL]
  | x :: a, y :: b => by
    rw [cmpL]
    split
    · exact .inl rfl
    · split
      · exact .inr (.inr rfl)
      · exact cmpL_range a b
theorem cmpL_anti : ∀ (a b : List Int), cmpL b a = - cmpL a b
  | [], b => by cases b <;> simp [cmpL]
  | x :: a, [] => by simp [cmpL]
  | x :: a, y :: b => by
    rw [cmpL, cmpL]
    by_cases h1 : x < y
    · rw [if_pos h1, if_neg (by omega), if_pos h1]; omega
    · by_cases h2 : y < x
      · rw [if_pos h2, if_neg h1, if_pos h2]
      · rw [if_neg h1, if_neg h2, if_neg h2, if_neg h1]; exact cmpL_anti a b
theorem cmpL_trans : ∀ {a b c : List Int}, a.length = b.length → b.length = c.length → cmpL a b < 0 → cmpL b c < 0 → cmpL a c < 0
  | [], [], _, _, _, h, _ => by simp [cmpL] at h
  | x :: a, y :: b, z :: c, h1, h2, h3, h4 => by
    rw [cmpL] at h3 h4 ⊢
    by_cases q1 : x < y
    · by_cases q2 : y < z
      · rw [if_pos (by omega)]; omega
      · rw [if_neg q2] at h4
        by_cases q3 : z < y
        · rw [if_pos q3] at h4; omega
        · rw [if_pos (by omega)]; omega
    · rw [if_neg q1] at h3
      by_cases q2 : y < x
      · rw [if_pos q2] at h3; omega
      · rw [if_neg q2] at h3
        by_cases q3 : y < z
        · rw [if_pos (by omega)]; omega
        · rw [if_neg q3] at h4
          by_cases q4 : z < y
          · rw [if_pos q4] at h4; omega
          · rw [if_neg q4] at h4
            rw [if_neg (by omega), if_neg (by omega)]
            exact cmpL_trans (by simpa using h1) (by simpa using h2) h3 h4
  | [], _ :: _, _, h, _, _, _ => by simp at h
  | _ :: _, [], _, h, _, _, _ => by simp at h
  | _ :: _, _ :: _, [], _, h, _, _ => by simp at h
/-- the comparison, place by place -/
theorem cmpL_at : ∀ {a b : List Int} {k : Nat}, a.take k = b.take k → ∀ {x y : Int}, a[k]? = some x → b[k]? = some y → cmpL a b = if x < y then -1 else if y < x then 1 else cmpL (a.drop (k + 1)) (b.drop (k + 1))
  | x' :: a, y' :: b, 0, _, x, y, h1, h2 => by
    simp at h1 h2
    subst h1 h2
    rw [cmpL]; rfl
  | x' :: a, y' :: b, k + 1, h, x, y, h1, h2 => by
    simp at h h1 h2
    obtain ⟨rfl, h⟩ := h
    rw [cmpL, if_neg (by omega), if_neg (by omega), cmpL_at h h1 h2]; rfl
  | [], _, k, _, _, _, h1, _ => by simp at h1
  | _ :: _, [], k, _, _, _, _, h2 => by simp at h2
/-- states of one length, ascending -/
def AscS (m : Nat) (l : List (List Int)) : Prop := (∀ x ∈ l, x.length = m) ∧ l.Pairwise fun a b => cmpL a b < 0
theorem asc_lt {m : Nat} {l : List (List Int)} (h : AscS m l) {i j : Nat} {a b : List Int} (hi : l[i]? = some a) (hj : l[j]? = some b) (hij : i < j) : cmpL a b < 0 := by
  have h1 := List.pairwise_iff_getElem.1 h.2
  obtain ⟨i1, i2⟩ := List.getElem?_eq_some_iff.1 hi
  obtain ⟨j1, j2⟩ := List.getElem?_eq_some_iff.1 hj
  have := h1 i j i1 j1 hij
  rw [i2, j2] at this
  exact this
/-- where a state belongs: before it what is less, from it on what is not -/
def Plc (l : List (List Int)) (x : List Int) (p : Nat) : Prop := p ≤ l.length ∧ (∀ (i : Nat) (a : List Int), l[i]? = some a → i < p → cmpL a x < 0) ∧ ∀ (i : Nat) (a : List Int), l[i]? = some a → p ≤ i → 0 ≤ cmpL a x
theorem plc_mem {m : Nat} {l : List (List Int)} {x : List Int} {p : Nat} (h : AscS m l) (hx : x.length = m) (hp : Plc l x p) : (∃ a, l[p]? = some a ∧ cmpL a x = 0) ↔ x ∈ l := by
  constructor
  · rintro ⟨a, ha, h0⟩
    have hm := List.mem_of_getElem? ha
    have := cmpL_eq (by rw [h.1 a hm, hx]) h0
    rw [← this]; exact hm
  · intro hm
    obtain ⟨i, hi⟩ := List.getElem?_of_mem hm
    have h1 : p ≤ i := Nat.le_of_not_lt fun hlt => by have := hp.2.1 i x hi hlt; rw [cmpL_self] at this; omega
    have hil : i < l.length := (List.getElem?_eq_some_iff.1 hi).1
    have hpl : p < l.length := by omega
    refine ⟨l[p], List.getElem?_eq_getElem hpl, ?_⟩
    have h2 := hp.2.2 p _ (List.getElem?_eq_getElem hpl) (Nat.le_refl _)
    rcases Nat.lt_or_ge p i with h3 | h3
    · have := asc_lt h (List.getElem?_eq_getElem hpl) hi h3; omega
    · have e : p = i := by omega
      have h4 := List.getElem?_eq_getElem hpl
      subst e
      rw [h4] at hi
      cases hi
      exact cmpL_self _
theorem asc_insert {m : Nat} {l : List (List Int)} {x : List Int} {p : Nat} (h : AscS m l) (hx : x.length = m) (hp : Plc l x p) (hn : x ∉ l) : AscS m (l.take p ++ [x] ++ l.drop p) ∧ ∀ y, y ∈ l.take p ++ [x] ++ l.drop p ↔ y = x ∨ y ∈ l := by
  have hmem : ∀ y, y ∈ l.take p ++ [x] ++ l.drop p ↔ y = x ∨ y ∈ l := fun y => by
    have e : y ∈ l ↔ y ∈ l.take p ∨ y ∈ l.drop p := by
      conv => lhs; rw [← List.take_append_drop p l]
      exact List.mem_append
    simp only [List.mem_append, List.mem_singleton, e]
    constructor
    · rintro ((h | h) | h)
      · exact .inr (.inl h)
      · exact .inl h
      · exact .inr (.inr h)
    · rintro (h | h | h)
      · exact .inl (.inr h)
      · exact .inl (.inl h)
      · exact .inr h
  refine ⟨⟨fun y hy => ?_, ?_⟩, hmem⟩
  · rcases (hmem y).1 hy with h1 | h1
    · rw [h1]; exact hx
    · exact h.1 y h1
  · have hlo : ∀ a ∈ l.take p, cmpL a x < 0 := fun a ha => by
      obtain ⟨i, hi⟩ := List.getElem?_of_mem ha
      rw [List.getElem?_take] at hi
      split at hi
      · exact hp.2.1 i a hi (by assumption)
      · cases hi
    have hhi : ∀ a ∈ l.drop p, cmpL x a < 0 := fun a ha => by
      obtain ⟨i, hi⟩ := List.getElem?_of_mem ha
      rw [List.getElem?_drop] at hi
      have h1 := hp.2.2 (p + i) a hi (by omega)
      have hm := List.mem_of_getElem? hi
      have h2 : cmpL a x ≠ 0 := fun h0 => hn (by rw [← cmpL_eq (by rw [h.1 a hm, hx]) h0]; exact hm)
      have h3 := cmpL_anti a x
      omega
    have hpt : (l.take p).Pairwise (fun a b => cmpL a b < 0) := h.2.sublist (List.take_sublist _ _)
    have hpd : (l.drop p).Pairwise (fun a b => cmpL a b < 0) := h.2.sublist (List.drop_sublist _ _)
    rw [List.append_assoc, List.pairwise_append]
    refine ⟨hpt, ?_, fun a ha b hb => ?_⟩
    · rw [List.singleton_append, List.pairwise_cons]
      exact ⟨hhi, hpd⟩
    · rw [List.singleton_append] at hb
      rcases List.mem_cons.1 hb with rfl | hb
      · exact hlo a ha
      · have l1 := h.1 a (List.mem_of_mem_take ha)
        have l2 := h.1 b (List.mem_of_mem_drop hb)
        exact cmpL_trans (by rw [l1, hx]) (by rw [hx, l2]) (hlo a ha) (hhi b hb)
/-- a test that looks at one of m variables -/
def okV (m : Nat) (x : I2b) : Prop := x.ok ∧ 0 ≤ x.a ∧ x.a < (m : Int)
theorem FV.get {m : Nat} {w : World} {a : Option Addr} {n c : Nat} {l : List I2b} (h : Flats 3 I2b.enc (okV m) w a n c l) {i : Nat} (hi : i < n) :
    ∃ b off x, a = some ⟨b, off, none⟩ ∧ b < w.heap.size ∧ l[i]? = some x ∧ okV m x ∧ w.cell? ⟨b, off + i * 3, none⟩ = some (.int .i64 x.a) ∧ w.cell? ⟨b, off + i * 3 + 1, none⟩ = some (.int .i64 x.b) ∧ w.cell? ⟨b, off + i * 3 + 2, none⟩ = some (.bool x.c) := by
  obtain ⟨b, off, x, h1, h2, h3, h4, h5⟩ := h.at hi
  exact ⟨b, off, x, h1, h2, h3, h4, h5 0 _ rfl, h5 1 _ rfl, h5 2 _ rfl⟩
theorem F2b.toV {m : Nat} {w : World} {a : Option Addr} {n c : Nat} {l : List I2b} (h : F2b w a n c l) (hv : ∀ t ∈ l, 0 ≤ t.a ∧ t.a < (m : Int)) : Flats 3 I2b.enc (okV m) w a n c l :=
  ⟨h.len, h.cap, h.pos, fun x hx => ⟨h.wf x hx, hv x hx⟩, h.nil⟩
set_option maxHeartbeats 1000000 in
theorem slices_IndexFunc_TestV {m g : Nat} {lb : Array Value} {p : I2b → Bool} {a : Option Addr} {n c : Nat} {l : List I2b} {w : World}
    (eg : ∀ args w, (callFunc g args).run Tryz.prog w = .ok (.enter g args) w) (hp : PredF Tryz.prog g lb I2b.enc (okV m) p w) (hI : Flats 3 I2b.enc (okV m) w a n c l) (hn : n ≤ 1048576) :
    Calls Tryz.prog 192 #[.slice a n c, .func (.func g) #[] lb] w fun e w' => e = .returned (.int .i64 (idxF p l)) ∧ Below w.heap.size w w' := by
  have HP := Lib.hid hp
  clear hp
  go_enter Tryz.func192, Tryz.ntmps192
  go_wp2
  go_loopg [5, 8] n (fun gg _ s8 wr => ∃ kk : Nat, kk ≤ n ∧ n - kk ≤ gg ∧ s8 = .int .i64 kk ∧ Below w.heap.size w wr ∧ Hid ((l.take kk).any p = false))
  case atStart => exact ⟨0, Nat.zero_le _, by omega, rfl, Below.refl _ _, rfl⟩
  case round =>
    obtain ⟨kk, hkk, hg, rfl, hbl, A⟩ := hrel
    have HI := Lib.hid hI
    by_cases hlt : kk < n
    · obtain ⟨b, off, x, rfl, hb, hx, hwf, hc0, hc1, hc2⟩ := FV.get (hI.keep hbl) hlt
      have Hx := Lib.hid hx
      have hcall := HP.out _ x hwf hbl
      clear hx hI hwf
      cases hq : p x with
      | true =>
        have Hq := Lib.hid hq
        rw [hq] at hcall
        clear hq
        go_wp2_with (go_at_fn g; refine hcall.mono ?_; rintro e w1 ⟨rfl, hb1⟩)
        go_ret
        exact ⟨ret_int (by rw [idxF_hit Hx.out Hq.out A.out]), below_call hbl hb1 hbl.size⟩
      | false =>
        have Hq := Lib.hid hq
        rw [hq] at hcall
        clear hq
        go_wp2_with (go_at_fn g; refine hcall.mono ?_; rintro e w1 ⟨rfl, hb1⟩)
        go_roundg (n - (kk + 1))
        case measure => omega
        case rel => exact ⟨kk + 1, by omega, by omega, by go_num, below_call hbl hb1 hbl.size, any_take_step Hx.out A.out Hq.out⟩
    · clear hI
      go_wp2
      go_ret
      have e : l.take kk = l := take_len (by have := HI.out.len; omega)
      have h1 := A.out
      rw [e] at h1
      exact ⟨ret_int (by rw [idxF_miss h1]), hbl⟩
theorem slices_ContainsFunc_TestV {m g : Nat} {lb : Array Value} {p : I2b → Bool} {a : Option Addr} {n c : Nat} {l : List I2b} {w : World}
    (eg : ∀ args w, (callFunc g args).run Tryz.prog w = .ok (.enter g args) w) (hp : PredF Tryz.prog g lb I2b.enc (okV m) p w) (hI : Flats 3 I2b.enc (okV m) w a n c l) (hn : n ≤ 1048576) :
    Calls Tryz.prog 142 #[.slice a n c, .func (.func g) #[] lb] w fun e w' => e = .returned (.bool (l.any p)) ∧ Below w.heap.size w w' := by
  have h := idxF_nonneg p l
  have hc := slices_IndexFunc_TestV eg hp hI hn
  generalize idxF p l = r at h hc
  have H := Lib.hid h
  have HI := Lib.hid hI
  have HP := Lib.hid hp
  clear h hI hp
  go_enter Tryz.func142, Tryz.ntmps142
  go_wp2_with fail
  refine Calls.mono hc ?_
  rintro e w1 ⟨rfl, hb1⟩
  go_wp2
  go_ret
  exact ⟨ret_bool H.out, hb1⟩
def tstP (v : List Int) (t : I2b) : Bool := (v.getD t.a.toNat 0 == t.b) != t.c
theorem holdsP_any {v : List Int} {g : List I2b} : holdsP v g = !(g.any (tstP v)) := by
  rw [holdsP, List.not_any_eq_all_not]
  congr 1
  funext t
  rw [tstP]
  cases (v.getD t.a.toNat 0 == t.b) <;> cases t.c <;> rfl
set_option maxHeartbeats 1000000 in
theorem impl_holds_1 {x : I2b} {p : Nat} {a : Option Addr} {n c : Nat} {v : List Int} {w : World} (hx : okV n x) (hB : Blk w p #[.slice a n c] 22) (hI : Ints w a n c v) :
    Calls Tryz.prog 154 #[.agg #[.int .i64 x.a, .int .i64 x.b, .bool x.c], .pointer (some ⟨p, 0, none⟩)] w fun e w' => e = .returned (.bool (tstP v x)) ∧ Below w.heap.size w w' := by
  obtain ⟨⟨xa, xb⟩, h0, h1⟩ := hx
  obtain ⟨x1, x2, x3⟩ := x
  simp only at xa xb h0 h1
  obtain ⟨q, rfl⟩ := Int.eq_ofNat_of_zero_le h0
  obtain ⟨b, off, y, rfl, hb, hy, hcell, hyw⟩ := hI.at (k := q) (by omega)
  have hq1 : (q : Int) < (n : Int) := by omega
  have HT := Lib.hid (show tstP v ⟨(q : Int), x2, x3⟩ = ((y == x2) != x3) by rw [tstP, Int.toNat_natCast, List.getD_eq_getElem?_getD, hy]; rfl)
  have c0 := hB.cell 0
  have cl := hB.lt
  simp at c0
  clear hy hI hB
  go_enter Tryz.func154, Tryz.ntmps154
  go_wp2
  go_quiet (fail)
  go_wp2
  go_ret
  exact ⟨ret_bool (by rw [HT.out]; rfl), bel⟩
set_option maxHeartbeats 1000000 in
theorem impl_holds {va ga : Option Addr} {vn vc gn gc : Nat} {v : List Int} {g : List I2b} {w : World} (hI : Ints w va vn vc v) (hG : F2b w ga gn gc g) (hg : gn ≤ 1048576) (hv : ∀ t ∈ g, 0 ≤ t.a ∧ t.a < (vn : Int)) :
    Calls Tryz.prog 85 #[.slice va vn vc, .slice ga gn gc] w fun e w' => e = .returned (.bool (holdsP v g)) ∧ Below w.heap.size w w' := by
  have hb0 : Below w.heap.size w (w.alloc (.cells #[.slice va vn vc] 22)) := bel
  have hp : PredF Tryz.prog 154 #[.pointer (some ⟨w.heap.size, 0, none⟩)] I2b.enc (okV vn) (tstP v) (w.alloc (.cells #[.slice va vn vc] 22)) := fun W x hx hb =>
    impl_holds_1 hx ((Blk.made w #[.slice va vn vc] 22).keep hb) ((hI.keep hb0).keep hb)
  have hc := slices_ContainsFunc_TestV (m := vn) (fun _ _ => by kernel_rfl) hp ((hG.toV hv).keep hb0) hg
  have HC := Lib.hid hc
  have HH := Lib.hid (holdsP_any (v := v) (g := g))
  clear hc hp hI hG hv
  go_enter Tryz.func85, Tryz.ntmps85
  go_wp2_with fail
  refine Calls.mono HC.out ?_
  rintro e w1 ⟨rfl, hb1⟩
  go_wp2
  go_ret
  exact ⟨ret_bool (by rw [HH.out]), bel⟩
theorem applyP_take {e : List I2} {v : List Int} {j : Nat} {x : I2} (h : e[j]? = some x) : applyP v (e.take (j + 1)) = (applyP v (e.take j)).set x.a.toNat x.b := by
  rw [take_at h, applyP, List.foldl_append]; rfl
set_option maxHeartbeats 2000000 in
theorem impl_apply {ga ea va : Option Addr} {gn gc en ec vn vc : Nat} {nm : ByteArray} {v : List Int} {l : List I2} {w : World} (hE : F2 w ea en ec l) (hn : en ≤ 1048576) (hV : Ints w va vn vc v) (hvn : vn ≤ 1048576) (hv : ∀ a ∈ l, 0 ≤ a.a ∧ a.a < (vn : Int)) :
    Calls Tryz.prog 161 #[.agg #[.string nm, .slice ga gn gc, .slice ea en ec], .slice va vn vc] w fun e w' => ∃ a c, e = .returned (.slice a vn c) ∧ OwnI 2 w' w.heap.size a vn c (applyP v l) ∧ Below w.heap.size w w' := by
  have X := Lib.hid (Blk.made w #[.string nm, .slice ga gn gc, .slice ea en ec] 149)
  have hbA : Below w.heap.size w (w.alloc (.cells #[.string nm, .slice ga gn gc, .slice ea en ec] 149)) := bel
  have HE := Lib.hid hE
  have HV := Lib.hid hV
  have HVT := Lib.hid hv
  have HLE := Lib.hid hE.len
  have HLV := Lib.hid hV.len
  clear hE hV hv
  go_enter Tryz.func161, Tryz.ntmps161
  go_wp2_with fail
  refine Calls.mono (slices_Clone_i64 (HV.out.keep hbA) hvn) ?_
  rintro e w1 ⟨a1, c1, rfl, hb1, ho1, hnl⟩
  have hs1 := hb1.size
  simp at hs1
  have hX := X.out.keep hb1
  have x2 := hX.cell 2
  have xl := hX.lt
  simp at x2
  have hbl1 : Below w.heap.size w w1 := bel
  have O := Lib.hid (ho1.le (show w.heap.size + 1 ≤ _ by simp))
  clear ho1 hb1 hnl hX
  go_wp2_with fail
  clear x2 xl
  go_loopw [13] (fun s13 wr => ∃ j : Nat, s13 = .int .i64 j ∧ j ≤ en ∧ w.heap.size + 1 ≤ wr.heap.size ∧ Below w.heap.size w wr ∧ Hid (OwnI 2 wr (w.heap.size + 1) a1 vn c1 (applyP v (l.take j)))) (fun s13 _ => en - (intOf s13).toNat)
  case atStart => exact ⟨0, rfl, by omega, hs1, hbl1, O⟩
  case round =>
    clear O hbl1 hs1
    obtain ⟨j, rfl, hj, hsr, hbl, O⟩ := hrel
    by_cases hlt : j < en
    · have hlt' : (j : Int) < (en : Int) := by omega
      have hj0 : (0 : Int) ≤ (j : Int) := by omega
      obtain ⟨b, off, x, rfl, hb, hx, hxo, c0, c1'⟩ := F2.get (HE.out.keep hbl) hlt
      have hxv := HVT.out x (List.mem_of_getElem? hx)
      have Hx := Lib.hid hx
      obtain ⟨xa, xb⟩ := x
      simp only at hxv c0 c1'
      obtain ⟨q, rfl⟩ := Int.eq_ofNat_of_zero_le hxv.1
      have hq : q < vn := by omega
      have hq' : (q : Int) < (vn : Int) := by omega
      obtain ⟨g, rfl⟩ := O.out.shape (by omega)
      have O2 := Lib.hid (O.out.keep (show Below wr.heap.size wr (wr.alloc (.cells #[.int .i64 (q : Int), .int .i64 xb] 199)) from bel))
      obtain ⟨y, hy, hyo, hcell⟩ := O2.out.cell hq
      have hfz := O2.out.free
      have hgl := (O2.out.lt).2
      have hxo2 := hxo.2
      clear hx hy hxo hyo hxv
      go_wp2
      go_roundw
      case rel =>
        refine ⟨j + 1, by go_num, by omega, by simp; omega, ?_, Lib.hid ?_⟩
        · have hh := (O2.out.lt).1
          exact bel
        · rw [applyP_take Hx.out]
          exact O2.out.set q hxo2
      case measure => simp [intOf]; omega
    · obtain rfl : en = j := by omega
      have hlt' : ¬ (en : Int) < (en : Int) := by omega
      have hO := O.out
      rw [List.take_of_length_le (by rw [HLE.out]; exact Nat.le_refl _)] at hO
      have HO := Lib.hid hO
      clear hO O
      go_wp2
      go_ret
      exact ⟨_, _, rfl, HO.out.le (by omega), hbl⟩
def byL (v : List Int) (n j : Nat) : Array Value := ((v.take j).map (fun x => Value.int .u8 x) ++ List.replicate (n - j) (Value.int .u8 0)).toArray
theorem byL_zero (v : List Int) (n : Nat) : byL v n 0 = (List.replicate n (Value.int .u8 0)).toArray := by simp [byL]
theorem byL_set {v : List Int} {n j : Nat} {x : Int} (hx : v[j]? = some x) (hn : v.length = n) : (byL v n j).setIfInBounds j (.int .u8 x) = byL v n (j + 1) := by
  have h := set_fill (l := v.map (fun x => Value.int .u8 x)) (k := j) (x := .int .u8 x) (z := .int .u8 0) (by rw [List.getElem?_map, hx]; rfl) n (by simpa using hn)
  rw [byL, byL, List.setIfInBounds_toArray, List.map_take, List.map_take, h]
theorem byL_size {v : List Int} {n j : Nat} (hn : v.length = n) (hj : j ≤ n) : (byL v n j).size = n := by simp [byL]; omega
theorem byL_at {v : List Int} {n j : Nat} (hn : v.length = n) (hj : j < n) : (byL v n j)[j]? = some (.int .u8 0) := by
  simp only [byL, List.getElem?_toArray]
  have hl : (List.map (fun x => Value.int .u8 x) (v.take j)).length = j := by simp; omega
  rw [List.getElem?_append_right (by omega), hl, Nat.sub_self, List.getElem?_replicate, if_pos (by omega)]
theorem strOf_keyL {v : List Int} (hv : ∀ x ∈ v, 0 ≤ x ∧ x < 256) : strOfNums v = ⟨(keyL v).toArray⟩ := by
  simp [strOfNums, keyL]
theorem Tryz.infou8b : (Tryz.prog.info? 5).map (fun i => (i.zero, i.size, i.bytes)) = some (some (.int .u8 0), 1, 1) := by kernel_rfl
theorem mkB (n : Nat) (hn : n ≤ 1048576) (w : World) : (Instr.makeSlice 52 (.int .i64 (n : Int)) (.int .i64 (n : Int))).run Tryz.prog w = .ok (.slice (some ⟨w.heap.size, 0, none⟩) n n) (w.alloc (.cells (List.replicate n (Value.int .u8 0)).toArray 5)) := by
  obtain ⟨i0, hi, hz0, hz1, hz2⟩ := info_parts Tryz.infou8b
  have h := run_make (P := Tryz.prog) w 52 5 i0 (.int .u8 0) Tryz.underlying52 hi hz0 .i64 .i64 (n : Int) (n : Int) (by omega) (by omega) (by rw [hz2]; omega) (by omega)
  rw [hz1, Nat.mul_one] at h
  rw [h, Int.toNat_natCast, show madeCells (Value.cells (.int .u8 0)) n = (List.replicate n (Value.int .u8 0)).toArray from ?_]
  rw [show Value.cells (.int .u8 0) = #[.int .u8 0] from rfl]
  apply Array.toList_inj.1
  rw [toList_madeCells_one]
set_option maxHeartbeats 2000000 in
theorem impl_stateKey {va : Option Addr} {vn vc : Nat} {v : List Int} {w : World} (hV : Ints w va vn vc v) (hvn : vn ≤ 1048576) (hv : ∀ x ∈ v, 0 ≤ x ∧ x < 256) :
    Calls Tryz.prog 183 #[.slice va vn vc] w fun e w' => e = .returned (.string ⟨(keyL v).toArray⟩) ∧ Below w.heap.size w w' := by
  have hmk := mkB vn hvn w
  have B0 : Blk (w.alloc (.cells (List.replicate vn (Value.int .u8 0)).toArray 5)) w.heap.size (byL v vn 0) 5 := by rw [byL_zero]; exact Blk.made w _ _
  obtain ⟨wA, hwA⟩ : ∃ wA : World, wA = w.alloc (.cells (List.replicate vn (Value.int .u8 0)).toArray 5) := ⟨_, rfl⟩
  have hbA : Below w.heap.size w wA := by rw [hwA]; exact bel
  have hsA : w.heap.size + 1 ≤ wA.heap.size := by rw [hwA]; simp
  rw [← hwA] at hmk B0
  have HV := Lib.hid hV
  have HVT := Lib.hid hv
  have HLV := Lib.hid hV.len
  have O := Lib.hid B0
  clear hV hv hwA B0
  go_enter Tryz.func183, Tryz.ntmps183
  go_wp2
  clear hmk
  go_loopw [11] (fun s11 wr => ∃ j : Nat, s11 = .int .i64 j ∧ j ≤ vn ∧ w.heap.size + 1 ≤ wr.heap.size ∧ Below w.heap.size w wr ∧ Hid (Blk wr w.heap.size (byL v vn j) 5)) (fun s11 _ => vn - (intOf s11).toNat)
  case atStart => exact ⟨0, rfl, by omega, hsA, hbA, O⟩
  case round =>
    clear O hbA hsA
    obtain ⟨j, rfl, hj, hsr, hbl, O⟩ := hrel
    by_cases hlt : j < vn
    · have hlt' : (j : Int) < (vn : Int) := by omega
      have hj0 : (0 : Int) ≤ (j : Int) := by omega
      obtain ⟨b, off, x, rfl, hb, hx, hxo, hcell⟩ := (HV.out.keep hbl).at hlt
      have hxv := HVT.out x (List.mem_of_getElem? hx)
      have Hx := Lib.hid hx
      have hsz : (byL v vn j).size = vn := byL_size HLV.out hj
      have hwr : x % 256 = x := by omega
      have hcl := (O.out.cell j).trans (byL_at HLV.out hlt)
      have hfz := O.out.free j
      have hgl := O.out.lt
      clear hx
      go_wp2
      go_roundw
      case rel =>
        refine ⟨j + 1, by go_num, by omega, by simp; omega, ?_, Lib.hid ?_⟩
        · exact bel
        · rw [← byL_set Hx.out HLV.out]
          exact O.out.set j _
      case measure => simp [intOf]; omega
    · obtain rfl : vn = j := by omega
      have hlt' : ¬ (vn : Int) < (vn : Int) := by omega
      have hcv := run_convert_bytes_arg (P := Tryz.prog) wr 52 5 Tryz.underlying52 Tryz.underlying5 w.heap.size 0 vn vn v HLV.out (by
        intro i hi
        rw [Nat.zero_add, O.out.cell i]
        simp only [byL, List.getElem?_toArray, Nat.sub_self, List.replicate_zero, List.append_nil, List.getElem?_map]
        have hlv := HLV.out
        rw [List.take_of_length_le (by omega), List.getElem?_eq_getElem (by omega), List.getD_eq_getElem?_getD, List.getElem?_eq_getElem (by omega)]
        rfl) 9 Tryz.underlying9
      rw [strOf_keyL HVT.out] at hcv
      have HO := Lib.hid O
      clear O
      go_wp2
      go_ret
      exact ⟨rfl, hbl⟩
def enabI (rs : List RuD) (v : List Int) (j : Nat) : List Int := ((List.range j).filter fun i => holdsP v (rs.getD i zRu).g).map fun (i : Nat) => (i : Int)
theorem enabI_step {rs : List RuD} {v : List Int} {j : Nat} {r : RuD} (hr : rs[j]? = some r) : enabI rs v (j + 1) = if holdsP v r.g = true then enabI rs v j ++ [(j : Int)] else enabI rs v j := by
  have e : rs.getD j zRu = r := by rw [List.getD_eq_getElem?_getD, hr]; rfl
  rw [enabI, List.range_succ, List.filter_append, List.map_append]
  have e1 : List.filter (fun i => holdsP v (rs.getD i zRu).g) [j] = if holdsP v r.g = true then [j] else [] := by
    rw [List.filter_cons, e]; rfl
  rw [e1]
  by_cases h : holdsP v r.g = true
  · rw [if_pos h, if_pos h]; rfl
  · rw [if_neg h, if_neg h]; exact List.append_nil _
theorem enabI_yes {rs : List RuD} {v : List Int} {j : Nat} {r : RuD} (hr : rs[j]? = some r) (h : holdsP v r.g = true) : enabI rs v (j + 1) = enabI rs v j ++ [(j : Int)] := by rw [enabI_step hr, if_pos h]
theorem enabI_no {rs : List RuD} {v : List Int} {j : Nat} {r : RuD} (hr : rs[j]? = some r) (h : holdsP v r.g = false) : enabI rs v (j + 1) = enabI rs v j := by rw [enabI_step hr, if_neg (by simp [h])]
set_option maxHeartbeats 4000000 in
theorem impl_enabled {sa ta ra va : Option Addr} {sn sc tn tc rn rc vn vc : Nat} {v : List Int} {lr : List (RM × RuD)} {w0 w : World} (hb0 : Below w0.heap.size w0 w) (hR : FR w0 w ra rn rc lr) (hr : rn ≤ 1048576) (hV : Ints w va vn vc v) (hv : ∀ x ∈ lr, ∀ t ∈ x.2.g, 0 ≤ t.a ∧ t.a < (vn : Int)) (hg : ∀ x ∈ lr, x.1.gn ≤ 1048576) :
    Calls Tryz.prog 160 #[.agg #[.slice sa sn sc, .slice ta tn tc, .slice ra rn rc], .slice va vn vc] w fun e w' => ∃ a n c, e = .returned (.slice a n c) ∧ OwnI 2 w' w.heap.size a n c (enabI (lr.map (·.2)) v rn) ∧ n ≤ rn ∧ Below w.heap.size w w' := by
  have X := Lib.hid (Blk.made w #[.slice sa sn sc, .slice ta tn tc, .slice ra rn rc] 36)
  obtain ⟨wA, hwA⟩ : ∃ wA : World, wA = w.alloc (.cells #[.slice sa sn sc, .slice ta tn tc, .slice ra rn rc] 36) := ⟨_, rfl⟩
  have hsA : w.heap.size + 1 ≤ wA.heap.size := by rw [hwA]; simp
  have hbA : Below w.heap.size w wA := by rw [hwA]; exact bel
  rw [← hwA] at X
  have HR := Lib.hid hR
  have HV := Lib.hid hV
  have HVT := Lib.hid hv
  have HG := Lib.hid hg
  have H0 := Lib.hid hb0
  have x2 := X.out.cell 2
  have xl := X.out.lt
  simp at x2
  clear hR hV hv hg hb0
  go_enter Tryz.func160, Tryz.ntmps160
  have Hw := Lib.hid hwA
  clear hwA
  go_wp2_with fail
  go_loopw [5, 11] (fun s5 s11 wr => ∃ (j : Nat) (a : Option Addr) (n c : Nat), s5 = .slice a n c ∧ s11 = .int .i64 j ∧ j ≤ rn ∧ n ≤ j ∧ w.heap.size + 1 ≤ wr.heap.size ∧ Below w.heap.size w wr ∧ Hid (Blk wr w.heap.size #[.slice sa sn sc, .slice ta tn tc, .slice ra rn rc] 36) ∧ Hid (OwnI 2 wr (w.heap.size + 1) a n c (enabI (lr.map (·.2)) v j))) (fun _ s11 _ => rn - (intOf s11).toNat)
  case atStart =>
    obtain rfl := Hw.out
    exact ⟨0, none, 0, 0, rfl, rfl, by omega, by omega, hsA, hbA, X, Lib.hid (OwnI.nil _ _ _)⟩
  case round =>
    clear X hbA hsA Hw x2 xl
    obtain ⟨j, a, n, c, rfl, rfl, hj, hnj, hsr, hbl, X, O⟩ := hrel
    by_cases hlt : j < rn
    · have hlt' : (j : Int) < (rn : Int) := by omega
      have hj0 : (0 : Int) ≤ (j : Int) := by omega
      obtain ⟨b, off, R, r, rfl, hb, hx, hru, c0, c1, c2⟩ := FR.get (Flats.keep HR.out hbl) hlt
      have hxm := List.mem_of_getElem? hx
      have hgv := HVT.out _ hxm
      have hgn := HG.out _ hxm
      obtain ⟨_, _, hF, _⟩ := hru
      simp only at hgv hgn hF
      have Hx := Lib.hid (show (lr.map (·.2))[j]? = some r by rw [List.getElem?_map, hx]; rfl)
      have HF := Lib.hid hF
      have HGV := Lib.hid hgv
      have HGN := Lib.hid hgn
      have hb1 : Below w0.heap.size w0 wr := (H0.out).trans (hbl.mono H0.out.size)
      clear hx hxm hgv hgn hF
      go_wp2_with fail
      have hb2 : Below wr.heap.size wr (wr.alloc (.cells #[.string r.nm, .slice R.ga R.gn R.gc, .slice R.ea R.en R.ec] 149)) := bel
      refine Calls.mono (impl_holds (((HV.out.keep hbl).keep hb2)) ((HF.out.keep hb1).keep hb2) HGN.out HGV.out) ?_
      rintro e w1 ⟨rfl, hbh⟩
      have hs1 := hbh.size
      simp at hs1
      have hb3 : Below wr.heap.size wr w1 := bel
      have hbw1 : Below w.heap.size w w1 := bel
      have X1 := Lib.hid (X.out.keep hb3)
      have O1 := Lib.hid (O.out.keep hb3)
      clear hb2 c0 c1 c2 X O
      cases hh : holdsP v r.g with
      | true =>
        have HY := Lib.hid (enabI_yes Hx.out hh)
        have hj64 : I64 (j : Int) := (by first | assumption | decide | (unfold I64; omega))
        go_wp2_with (at_builtin; (refine appI1 rfl _ _ rfl Tryz.underlying22 Tryz.infoi64 (w.heap.size + 1) _ _ _ _ O1.out rfl _ rfl rfl (by first | assumption | decide | (unfold I64; omega)) (by omega) (by omega) ?_; intro g' c3 wn ho hb4 ht hat hsn; have X2 := Lib.hid (X1.out.keepA ht (fun e => by have := (O1.out.blk _ e).1; omega)); have S := Lib.hid ho; clear ho ht))
        go_roundw
        case rel =>
          refine ⟨j + 1, _, _, _, rfl, by go_num, by omega, by omega, by omega, hbw1.trans (hb4.mono (by omega)), X2, ?_⟩
          rw [HY.out]; exact S
        case measure => simp [intOf]; omega
      | false =>
        have HN := Lib.hid (enabI_no Hx.out hh)
        go_wp2
        go_roundw
        case rel =>
          refine ⟨j + 1, _, _, _, rfl, by go_num, by omega, by omega, by omega, bel, X1, ?_⟩
          rw [HN.out]; exact O1
        case measure => simp [intOf]; omega
    · obtain rfl : rn = j := by omega
      have hlt' : ¬ (rn : Int) < (rn : Int) := by omega
      go_wp2
      go_ret
      exact ⟨_, _, _, rfl, O.out.le (by omega), hnj, hbl⟩
/-- block b is a map in which just the texts that 'has' says stand with true -/
def SetM (w : World) (b n : Nat) (has : List UInt8 → Bool) : Prop :=
  ∃ D : DataW Unit, w.ownsMap Tryz.prog 9 (plainElem Tryz.prog 4) b n D ∧ Maps.IsMap D ∧ ∀ k, D.atKey (.string k) (.lit (.bool false)) = .lit (.bool (has k))
theorem SetM.lt {w : World} {b n : Nat} {has : List UInt8 → Bool} (h : SetM w b n has) : b < w.heap.size := by
  obtain ⟨D, h1, _⟩ := h
  exact h1.lt
theorem SetM.made (w : World) : SetM (w.alloc (.map #[] 0)) w.heap.size 0 (fun _ => false) :=
  ⟨.map [], World.ownsMap_made w _ _ _, ⟨_, rfl⟩, fun k => rfl⟩
theorem SetM.keepG {w w' : World} {b n : Nat} {has : List UInt8 → Bool} {r : Option Nat} (h : SetM w b n has) (hg : w.grownBy w' r) (hne : r ≠ some b) : SetM w' b n has := by
  obtain ⟨D, h1, h2, h3⟩ := h
  exact ⟨D, h1.kept hg (fun e => hne e.symm), h2, h3⟩
theorem SetM.keep {w w' : World} {b n : Nat} {has : List UInt8 → Bool} (h : SetM w b n has) (hb : Below w.heap.size w w') : SetM w' b n has := h.keepG (grownBy_below hb none) (fun e => by cases e)
theorem SetM.congr {w : World} {b n : Nat} {has has' : List UInt8 → Bool} (h : SetM w b n has) (he : ∀ k, has k = has' k) : SetM w b n has' := by
  obtain ⟨D, h1, h2, h3⟩ := h
  exact ⟨D, h1, h2, fun k => by rw [h3, he]⟩
theorem plainElem_bool_inv {P : Program} {e : TypeId} (he : P.underlying e = some .bool) {v : Value} {z : DataW Unit × List MemPlace} (h : plainElem P e v = some z) : ∃ x, v = .bool x ∧ z = (.lit (.bool x), []) := by
  unfold plainElem at h
  rw [he] at h
  cases v <;> simp at h
  subst h
  exact ⟨_, rfl, rfl⟩
theorem SetM.look {w : World} {b n : Nat} {has : List UInt8 → Bool} (h : SetM w b n has) {s : ByteArray} (hs : s.size ≤ maxLen) : (Instr.lookup 224 (.map (some b)) (.string s) false).run Tryz.prog w = .ok (.bool (has s.data.toList)) w := by
  obtain ⟨D, h1, h2, h3⟩ := h
  obtain ⟨v, ps, hrun, hv⟩ := h1.lookup (Maps.string_keyed Tryz.underlying9) Tryz.underlying224 (z := .bool false) (by kernel_rfl) (plainElem_bool Tryz.underlying4 false) (WideMaps.keyOf_string_mk Tryz.underlying9 hs)
  obtain ⟨x, rfl, hx⟩ := plainElem_bool_inv Tryz.underlying4 hv
  rw [h3] at hx
  simp only [Prod.mk.injEq, DataW.lit.injEq, Lit.bool.injEq] at hx
  rw [hx.1]
  exact hrun
theorem SetM.put {w : World} {b n : Nat} {has : List UInt8 → Bool} {ops : Array Oper} {rest : List Oper} {o : Oper} {a : Act} {Q : Exit → Act → World → Prop} (h : SetM w b n has)
    (hg : o.guard = none) (m x v : Operand) (hop : o.op = Op.mapUpdate 224 m x v) (hm : a.eval m = .map (some b)) (hn : n < maxLen) (s : ByteArray) (hx : a.eval x = .string s) (hv : a.eval v = .bool true) (hs : s.size ≤ maxLen)
    (hK : ∀ w', SetM w' b (n + 1) (fun k => decide (k = s.data.toList) || has k) → w.grownBy w' (some b) → wpList Tryz.prog ops Q rest (a.put o.dst undef) w') :
    wpList Tryz.prog ops Q (o :: rest) a w := by
  obtain ⟨D, h1, h2, h3⟩ := h
  refine wpList_mapUpdate_own w hg m x v 224 hop 9 4 (Maps.string_keyed Tryz.underlying9) Tryz.underlying224 _ b n D hm h1 hn (.string s) (.bool true) (.string s.data.toList) hx hv (WideMaps.keyOf_string_mk Tryz.underlying9 hs) (.lit (.bool true)) [] (plainElem_bool Tryz.underlying4 true) ?_
  intro w' q1 q2
  refine hK w' ⟨_, q1, h2.put _ _, fun k => ?_⟩ q2
  by_cases e : k = s.data.toList
  · rw [e, Maps.atKey_put_same h2 (by trivial)]; simp
  · rw [Maps.atKey_put_other (fun h => e (by simpa using h)), h3]; simp [e]
/-- where the values of a found state lie -/
structure QM where
  a : Option Addr
  n : Nat
  c : Nat
def encQ (x : QM × SN) : List Value := [.slice x.1.a x.1.n x.1.c, .int .i64 x.2.fr, .int .i64 x.2.ru, .int .i64 x.2.dp]
theorem Tryz.inforeached : (Tryz.prog.info? 121).map (fun i => (i.zero, i.size, i.bytes)) = some (some (.agg #[.slice none 0 0, .int .i64 0, .int .i64 0, .int .i64 0]), 4, 48) := by kernel_rfl
/-- a list of found states that is the call's own -/
structure QOwn (w : World) (lo : Nat) (a : Option Addr) (n c : Nat) (l : List (QM × SN)) : Prop where
  row : OwnF 4 encQ (fun _ => True) 121 w lo a n c l
  each : ∀ x ∈ l, OwnI 2 w lo x.1.a x.1.n x.1.c x.2.v
theorem QOwn.keep {w w' : World} {lo : Nat} {a : Option Addr} {n c : Nat} {l : List (QM × SN)} (h : QOwn w lo a n c l) (hb : Below w.heap.size w w') : QOwn w' lo a n c l :=
  ⟨h.row.keep hb, fun x hx => (h.each x hx).keep hb⟩
theorem QOwn.le {w : World} {lo lo' : Nat} {a : Option Addr} {n c : Nat} {l : List (QM × SN)} (h : QOwn w lo a n c l) (hl : lo' ≤ lo) : QOwn w lo' a n c l :=
  ⟨h.row.le hl, fun x hx => (h.each x hx).le hl⟩
/-- a write in a block that is no row leaves the list -/
theorem QOwn.keepG {w w' : World} {lo b : Nat} {a : Option Addr} {n c : Nat} {l : List (QM × SN)} (h : QOwn w lo a n c l) (hg : w.grownBy w' (some b)) (hb : ∀ (cur : Array Value) (E : TypeId), w.heap[b]? ≠ some (.cells cur E (0, 0))) : QOwn w' lo a n c l :=
  ⟨h.row.keepG hg fun g e e' => by
      cases e'
      obtain ⟨cur, h1⟩ := h.row.typ e
      exact hb _ _ h1,
   fun x hx => (h.each x hx).keepG hg fun g e e' => by
      cases e'
      obtain ⟨cur, h1⟩ := (h.each x hx).typ e
      exact hb _ _ h1⟩
theorem QOwn.get {w : World} {lo : Nat} {a : Option Addr} {n c : Nat} {l : List (QM × SN)} (h : QOwn w lo a n c l) {i : Nat} (hi : i < n) :
    ∃ b off R y, a = some ⟨b, off, none⟩ ∧ b < w.heap.size ∧ l[i]? = some (R, y) ∧ OwnI 2 w lo R.a R.n R.c y.v ∧ w.cell? ⟨b, off + i * 4, none⟩ = some (.slice R.a R.n R.c) ∧ w.cell? ⟨b, off + i * 4 + 1, none⟩ = some (.int .i64 y.fr) ∧ w.cell? ⟨b, off + i * 4 + 2, none⟩ = some (.int .i64 y.ru) ∧ w.cell? ⟨b, off + i * 4 + 3, none⟩ = some (.int .i64 y.dp) := by
  obtain ⟨b, off, x, h1, h2, h3, _, h5⟩ := h.row.flats.at hi
  exact ⟨b, off, x.1, x.2, h1, h2, h3, h.each x (List.mem_of_getElem? h3), h5 0 _ rfl, h5 1 _ rfl, h5 2 _ rfl, h5 3 _ rfl⟩
/-- the list of the start alone -/
theorem QOwn.one {w : World} {lo : Nat} (y : QM × SN) (hy : OwnI 2 w lo y.1.a y.1.n y.1.c y.2.v) (hl : lo ≤ w.heap.size) (cs : Array Value) (hcs : cs = #[.slice y.1.a y.1.n y.1.c, .int .i64 y.2.fr, .int .i64 y.2.ru, .int .i64 y.2.dp]) :
    QOwn (w.alloc (.cells cs 121)) lo (some ⟨w.heap.size, 0, none⟩) 1 1 [y] :=
  ⟨OwnF.lit w [y] hl rfl (by decide) (fun _ => rfl) (fun _ _ => trivial) (by rw [hcs]; rfl), fun x hx => by
    simp at hx; rw [hx]; exact hy.keep ((Below.refl _ _).alloc (Nat.le_refl _) _)⟩
theorem appQ {w : World} {ops : Array Oper} {rest : List Oper} {o : Oper} {act : Act} {Q : Exit → Act → World → Prop} (hgd : o.guard = none) (s x : Operand)
    (ho : o.op = .call { callee := .builtin .append, args := #[s, x], argTypes := #[95, 95] })
    (base : Nat) (a : Option Addr) (n c : Nat) (l : List (QM × SN)) (hown : QOwn w base a n c l) (hs : act.eval s = .slice a n c) (gx : Nat) (hx : act.eval x = .slice (some ⟨gx, 0, none⟩) 1 1) (hg : gx = w.heap.size) (y : QM × SN) (hy : OwnI 2 w base y.1.a y.1.n y.1.c y.2.v) (cs : Array Value) (hcs : cs = #[.slice y.1.a y.1.n y.1.c, .int .i64 y.2.fr, .int .i64 y.2.ru, .int .i64 y.2.dp])
    (hn : n ≤ 4194304) (hbase : base ≤ w.heap.size)
    (K : ∀ g' c' w', QOwn w' base (some ⟨g', 0, none⟩) (n + 1) c' (l ++ [y]) → Below base w w' → Touch w w' 1 a → (a = some ⟨g', 0, none⟩ ∨ g' = w.heap.size + 1) → w.heap.size + 1 ≤ w'.heap.size → wpList Tryz.prog ops Q rest (act.put o.dst (.slice (some ⟨g', 0, none⟩) (n + 1) c')) w') : wpList Tryz.prog ops Q (o :: rest) act (w.alloc (.cells cs 121)) := by
  refine appAtL (k := 4) (m := 1) (enc := encQ) (ok := fun _ => True) hgd s x ho Tryz.underlying95 Tryz.inforeached rfl (by decide) (by decide) (fun z u hu => by simp [encQ] at hu; rcases hu with rfl | rfl | rfl | rfl <;> rfl) base a n c l [y] hown.row hs gx hx hg (by rw [hcs]; rfl) rfl (fun _ _ => trivial) (by decide) hn (by decide) hbase ?_
  intro g' c' w' h1 h2 h3 h4 h5
  have ht : Touch w w' 1 a := ⟨_, h3, fun b e => ⟨by decide, own_block hown.row.1 b e⟩⟩
  refine K g' c' w' ⟨h1, fun z hz => ?_⟩ h2 ht h4 h5
  have hz' : OwnI 2 w base z.1.a z.1.n z.1.c z.2.v := by
    rcases List.mem_append.1 hz with hz | hz
    · exact hown.each z hz
    · simp at hz; rw [hz]; exact hy
  exact hz'.keepT ht fun g e e' => typ_apart (fun {g} e => hz'.typ e) (fun {g} e => hown.row.typ e) (by decide) g e e'
def encS (x : QM × List Int) : List Value := [.slice x.1.a x.1.n x.1.c]
theorem encS_len (x : QM × List Int) : (encS x).length = 1 := rfl
theorem encS_one (y : QM × List Int) : ∀ u ∈ encS y, u.oneCell' = true := fun u hu => by simp [encS] at hu; subst hu; rfl
theorem Tryz.infosl : (Tryz.prog.info? 22).map (fun i => (i.zero, i.size, i.bytes)) = some (some (.slice none 0 0), 1, 24) := by kernel_rfl
/-- a row of states that is the call's own -/
structure SRow (w : World) (lo l2 : Nat) (a : Option Addr) (n c : Nat) (l : List (QM × List Int)) : Prop where
  row : OwnF 1 encS (fun _ => True) 22 w lo a n c l
  each : ∀ x ∈ l, OwnI 2 w l2 x.1.a x.1.n x.1.c x.2
theorem SRow.keep {w w' : World} {lo l2 : Nat} {a : Option Addr} {n c : Nat} {l : List (QM × List Int)} (h : SRow w lo l2 a n c l) (hb : Below w.heap.size w w') : SRow w' lo l2 a n c l :=
  ⟨h.row.keep hb, fun x hx => (h.each x hx).keep hb⟩
theorem SRow.le {w : World} {lo lo' l2 l2' : Nat} {a : Option Addr} {n c : Nat} {l : List (QM × List Int)} (h : SRow w lo l2 a n c l) (hl : lo' ≤ lo) (hl2 : l2' ≤ l2) : SRow w lo' l2' a n c l :=
  ⟨h.row.le hl, fun x hx => (h.each x hx).le hl2⟩
theorem SRow.keepG {w w' : World} {lo l2 b : Nat} {a : Option Addr} {n c : Nat} {l : List (QM × List Int)} (h : SRow w lo l2 a n c l) (hg : w.grownBy w' (some b)) (hb : ∀ (cur : Array Value) (E : TypeId), w.heap[b]? = some (.cells cur E (0, 0)) → E ≠ 22 ∧ E ≠ 2) : SRow w' lo l2 a n c l :=
  ⟨h.row.keepG hg fun g e e' => by
      cases e'
      obtain ⟨cur, h1⟩ := h.row.typ e
      exact (hb _ _ h1).1 rfl,
   fun x hx => (h.each x hx).keepG hg fun g e e' => by
      cases e'
      obtain ⟨cur, h1⟩ := (h.each x hx).typ e
      exact (hb _ _ h1).2 rfl⟩
theorem SRow.get {w : World} {lo l2 : Nat} {a : Option Addr} {n c : Nat} {l : List (QM × List Int)} (h : SRow w lo l2 a n c l) {i : Nat} (hi : i < n) :
    ∃ b off R v, a = some ⟨b, off, none⟩ ∧ b < w.heap.size ∧ l[i]? = some (R, v) ∧ OwnI 2 w l2 R.a R.n R.c v ∧ w.cell? ⟨b, off + i, none⟩ = some (.slice R.a R.n R.c) := by
  obtain ⟨b, off, x, h1, h2, h3, _, h5⟩ := h.row.flats.at hi
  have := h5 0 _ rfl
  rw [Nat.mul_one] at this
  exact ⟨b, off, x.1, x.2, h1, h2, h3, h.each x (List.mem_of_getElem? h3), this⟩
theorem SRow.len {w : World} {lo l2 : Nat} {a : Option Addr} {n c : Nat} {l : List (QM × List Int)} (h : SRow w lo l2 a n c l) : l.length = n := h.row.flats.len
theorem SRow.nil (w : World) (lo l2 : Nat) : SRow w lo l2 none 0 0 [] := ⟨⟨World.ownsRow_nil w lo _ 1, (fun _ h => by cases h), rfl, encS_len⟩, fun _ h => by cases h⟩
theorem Flats.part {α : Type} {k : Nat} {enc : α → List Value} {ok : α → Prop} {w : World} {a : Option Addr} {n c : Nat} {l : List α} (h : Flats k enc ok w a n c l) {lo hi : Nat} (h1 : lo ≤ hi) (h2 : hi ≤ n) : Flats k enc ok w (if c = lo then a else a.map (·.add (lo * k))) (hi - lo) (c - lo) ((l.drop lo).take (hi - lo)) := by
  have hc := h.cap
  have hl := h.len
  refine ⟨by rw [List.length_take, List.length_drop, hl]; omega, by omega, ?_, fun x hx => h.wf x (List.mem_of_mem_drop (List.mem_of_mem_take hx)), fun e => ?_⟩
  · by_cases h0 : hi - lo = 0
    · exact .inl h0
    · obtain ⟨b, off, ha, hlt, hx⟩ := h.pos.resolve_left (by omega)
      subst ha
      refine .inr ⟨b, off + lo * k, ?_, hlt, fun i x hi' j v hv => ?_⟩
      · rw [if_neg (by omega), Option.map_some]
        congr 1
        by_cases h0 : lo * k = 0 <;> simp [Addr.add, h0]
      · rw [List.getElem?_take] at hi'
        split at hi'
        · rw [List.getElem?_drop] at hi'
          have := hx _ _ hi' j v hv
          rw [Nat.add_mul] at this
          rw [show off + lo * k + i * k + j = off + (lo * k + i * k) + j by omega]; exact this
        · cases hi'
  · have ha : a = none := by
      split at e
      · exact e
      · cases a with
        | none => rfl
        | some => cases e
    have := h.nil ha
    omega
/-- from w to w' nothing that was there is written but block b and rows of states -/
structure StepW (b : Nat) (w w' : World) : Prop where
  os : w'.os = w.os
  tape : w'.tape = w.tape
  output : w'.output = w.output
  size : w.heap.size ≤ w'.heap.size
  block : ∀ k, k < w.heap.size → k ≠ b → (∀ cur, w.heap[k]? ≠ some (.cells cur 22 (0, 0))) → w'.heap[k]? = w.heap[k]?
theorem StepW.refl (b : Nat) (w : World) : StepW b w w := ⟨rfl, rfl, rfl, Nat.le_refl _, fun _ _ _ _ => rfl⟩
theorem StepW.trans {b : Nat} {w w' w'' : World} (h : StepW b w w') (h' : StepW b w' w'') : StepW b w w'' :=
  ⟨h'.os.trans h.os, h'.tape.trans h.tape, h'.output.trans h.output, Nat.le_trans h.size h'.size, fun k hk hr ht => by
    have e := h.block k hk hr ht
    rw [h'.block k (Nat.lt_of_lt_of_le hk h.size) hr (fun cur => by rw [e]; exact ht cur), e]⟩
theorem StepW.below {b : Nat} {w w' : World} (h : Below w.heap.size w w') : StepW b w w' := ⟨h.os, h.tape, h.output, h.size, fun k hk _ _ => h.block k hk⟩
theorem StepW.set (b : Nat) (w : World) (j : Nat) (u : Value) : StepW b w (w.setCell ⟨b, j, none⟩ u) :=
  have h := set_grown (w := w) b j u
  ⟨h.os, h.tape, h.output, h.size, fun k hk hr _ => h.block k hk (fun e => hr (by cases e; rfl))⟩
theorem StepW.touch {b n' lo l2 : Nat} {w w' : World} {a : Option Addr} {n c : Nat} {l : List (QM × List Int)} (h : SRow w lo l2 a n c l) (ht : Touch w w' n' a) : StepW b w w' := by
  obtain ⟨r, hg, hr⟩ := ht
  refine ⟨hg.os, hg.tape, hg.output, hg.size, fun k hk _ hn => hg.block k hk fun e => ?_⟩
  obtain ⟨_, ha⟩ := hr k e.symm
  obtain ⟨cur, h1⟩ := h.row.typ ha
  exact hn _ h1
theorem Blk.keepS {b g : Nat} {w w' : World} {cs : Array Value} {T : TypeId} (h : Blk w g cs T) (hs : StepW b w w') (hg : g ≠ b) (hT : T ≠ 22) : Blk w' g cs T :=
  (hs.block g h.lt hg fun cur e => by rw [Blk] at h; rw [h] at e; simp only [Option.some.injEq, Obj.cells.injEq] at e; exact hT e.2.1).trans h
theorem OwnI.keepS {b lo : Nat} {w w' : World} {a : Option Addr} {n c : Nat} {l : List Int} {T : TypeId} {cs : Array Value} (h : OwnI 2 w lo a n c l) (hB : Blk w b cs T) (hT : T ≠ 2) (hs : StepW b w w') : OwnI 2 w' lo a n c l := by
  have hty := fun g e => h.typ (g := g) e
  obtain ⟨⟨hl, h2⟩, hw⟩ := h
  refine ⟨⟨hl, ?_⟩, hw⟩
  rcases h2 with h2 | ⟨g, cap, cur, he, hbs, hg, r⟩
  · exact .inl h2
  · have hlt : g < w.heap.size := Nat.lt_of_not_le fun h => by rw [Array.getElem?_eq_none h] at hg; cases hg
    refine .inr ⟨g, cap, cur, he, hbs, ?_, r⟩
    rw [hs.block g hlt (fun e => ?_) (fun cur' e => ?_)]; exact hg
    · subst e
      rw [Blk] at hB
      rw [hB] at hg
      simp only [Option.some.injEq, Obj.cells.injEq] at hg
      exact hT hg.2.1
    · rw [hg] at e
      simp only [Option.some.injEq, Obj.cells.injEq] at e
      exact absurd e.2.1 (by decide)
/-- append of one state to a row -/
theorem appS {w : World} {ops : Array Oper} {rest : List Oper} {o : Oper} {act : Act} {Q : Exit → Act → World → Prop} (hgd : o.guard = none) (s x : Operand)
    (ho : o.op = .call { callee := .builtin .append, args := #[s, x], argTypes := #[31, 31] })
    (base b2 : Nat) (a : Option Addr) (n c : Nat) (l : List (QM × List Int)) (hown : SRow w base b2 a n c l) (hs : act.eval s = .slice a n c) (gx : Nat) (hx : act.eval x = .slice (some ⟨gx, 0, none⟩) 1 1) (hg : gx = w.heap.size) (y : QM × List Int) (hy : OwnI 2 w b2 y.1.a y.1.n y.1.c y.2) (cs : Array Value) (hcs : cs = #[.slice y.1.a y.1.n y.1.c])
    (hn : n ≤ 4194304) (hbase : base ≤ w.heap.size)
    (K : ∀ g' c' w', SRow w' base b2 (some ⟨g', 0, none⟩) (n + 1) c' (l ++ [y]) → Below base w w' → Touch w w' 1 a → (a = some ⟨g', 0, none⟩ ∨ g' = w.heap.size + 1) → w.heap.size + 1 ≤ w'.heap.size → wpList Tryz.prog ops Q rest (act.put o.dst (.slice (some ⟨g', 0, none⟩) (n + 1) c')) w') : wpList Tryz.prog ops Q (o :: rest) act (w.alloc (.cells cs 22)) := by
  refine appAtL (k := 1) (m := 1) (enc := encS) (ok := fun _ => True) hgd s x ho Tryz.underlying31 Tryz.infosl rfl (by decide) (by decide) encS_one base a n c l [y] hown.row hs gx hx hg (by rw [hcs]; rfl) rfl (fun _ _ => trivial) (by decide) hn (by decide) hbase ?_
  intro g' c' w' h1 h2 h3 h4 h5
  have ht : Touch w w' 1 a := ⟨_, h3, fun b e => ⟨by decide, own_block hown.row.1 b e⟩⟩
  refine K g' c' w' ⟨h1, fun z hz => ?_⟩ h2 ht h4 h5
  have hz' : OwnI 2 w b2 z.1.a z.1.n z.1.c z.2 := by
    rcases List.mem_append.1 hz with hz | hz
    · exact hown.each z hz
    · simp at hz; rw [hz]; exact hy
  exact hz'.keepT ht fun g e e' => typ_apart (fun {g} e => hz'.typ e) (fun {g} e => hown.row.typ e) (by decide) g e e'
end Go.Proofs.YtkaikbaagajckaaGreat
