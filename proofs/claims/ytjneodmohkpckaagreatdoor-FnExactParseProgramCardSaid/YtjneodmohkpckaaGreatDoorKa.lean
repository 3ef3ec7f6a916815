/- Programs out of tokens: what both parsers compute. Plain laws. -/
import Derived.Test.YtjneodmohkpckaaGreatDoorY7
namespace Go.Proofs.YtjneodmohkpckaaGreatDoor
open Go.RowKit
set_option linter.unusedVariables false
set_option linter.unusedSimpArgs false
/-- a line of a program, a program -/
structure LN where
  nm : ByteArray
  ts : List TM
structure PG where
  nm : ByteArray
  i : List ByteArray
  v : List ByteArray
  o : List ByteArray
  g : ByteArray
  l : List LN
def PG.no : PG := ⟨⟨#[]⟩, [], [], [], ⟨#[]⟩, []⟩
def wantP (t : List UInt8) (L : List TR) : Option (List TR) := if isT L t = true then some L.tail else none
def nameP (L : List TR) : Option (ByteArray × List TR) := if (!L.isEmpty && nmB (tkOf L)) = true then some ((tkOf L).t, L.tail) else none
/-- more names, up to a semicolon -/
def namesP : List TR → List ByteArray → Option (List ByteArray × List TR)
  | [], _ => none
  | x :: r, a => if isT (x :: r) [59] = true then some (a, r) else if nmB x = true then namesP r (a ++ [x.t]) else none
theorem namesP_eq (L : List TR) (a : List ByteArray) : namesP L a = if isT L [59] = true then some (a, L.tail) else (nameP L).bind fun q => namesP q.2 (a ++ [q.1]) := by
  cases L with
  | nil => rfl
  | cons x r =>
    rw [namesP]
    cases isT (x :: r) [59]
    · rw [nameP]
      show _ = if false = true then _ else (if (true && nmB x) = true then some (x.t, r) else none).bind _
      cases nmB x <;> rfl
    · rfl
def listP (L : List TR) : Option (List ByteArray × List TR) := (nameP L).bind fun q => namesP q.2 [q.1]
def varP (L : List TR) : Option (List ByteArray × List TR) := if isT L [118, 97, 114] = true then listP L.tail else some ([], L)
def guardP (L : List TR) : Option (ByteArray × List TR) := if isT L [103, 117, 97, 114, 100] = true then (nameP L.tail).bind fun q => (wantP [59] q.2).bind fun L3 => some (q.1, L3) else some (⟨#[]⟩, L)
/-- lines, up to the end -/
def linesP : Nat → List LN → List TR → Option (List LN × List TR)
  | 0, _, _ => none
  | f + 1, a, L => if (!a.isEmpty && isT L [101, 110, 100]) = true then some (a, L) else
    (nameP L).bind fun r => (wantP [61] r.2).bind fun L2 => (prs (8 * L2.length + 5) .ex L2).bind fun q => (wantP [59] q.2).bind fun L3 => linesP f (a ++ [⟨r.1, q.1⟩]) L3
def pgR (L : List TR) : Option (PG × List TR) :=
  (wantP [112, 114, 111, 103, 114, 97, 109] L).bind fun L1 => (nameP L1).bind fun a => (wantP [59] a.2).bind fun L2 => (wantP [105, 110] L2).bind fun L3 =>
  (listP L3).bind fun b => (varP b.2).bind fun c => (wantP [111, 117, 116] c.2).bind fun L4 => (listP L4).bind fun d => (guardP d.2).bind fun g =>
  (linesP (g.2.length + 1) [] g.2).bind fun l => (wantP [101, 110, 100] l.2).bind fun L5 => (wantP [59] L5).bind fun L6 => some (⟨a.1, b.1, c.1, d.1, g.1, l.1⟩, L6)
/-- no part of a program is too long -/
def szP (p : PG) : Bool := decide (p.i.length ≤ 20) && (decide (p.v.length ≤ 20) && (decide (p.o.length ≤ 20) && (decide (p.l.length ≤ 40) && !p.l.any fun x => decide (40 < x.ts.length))))
/-- the program of a text, and its code -/
def pgO (s : ByteArray) : Option PG := match pgR (rtL s) with
  | some (p, []) => some p
  | _ => none
def pgC (s : ByteArray) : Int := if rtC s ≠ 0 then rtC s else match pgO s with
  | some p => if szP p = true then 0 else 3
  | none => 6
def pgP (s : ByteArray) : PG := if rtC s ≠ 0 then PG.no else match pgO s with
  | some p => if szP p = true then p else PG.no
  | none => PG.no
/-- the steps of a reader that goes on where something was wrong -/
theorem st_want {α : Type} {o : Option α} {bad : Bool} {L : List TR} {t : List UInt8} {K : List TR → Option α} (h : o = if bad = true then none else (wantP t L).bind K) : o = if (bad || !isT L t) = true then none else K (exL L t) := by
  rw [h]
  cases bad
  · rw [wantP, exL]; cases isT L t <;> rfl
  · rfl
theorem st_name {α : Type} {o : Option α} {bad : Bool} {L : List TR} {K : ByteArray × List TR → Option α} (h : o = if bad = true then none else (nameP L).bind K) : o = if ((bad || L.isEmpty) || !nmB (tkOf L)) = true then none else K ((tkOf L).t, L.tail) := by
  rw [h]
  cases bad
  · rw [nameP]; cases L.isEmpty <;> cases nmB (tkOf L) <;> rfl
  · rfl
theorem pk_tk (L : List TR) : pkT L = (tkOf L).t := by cases L <;> rfl
theorem st_nameR {α : Type} {o : Option α} {bad : Bool} {L : List TR} {K : ByteArray × List TR → Option α} (hK : ∀ x ∈ L, TkB x) (h : o = if bad = true then none else (nameP L).bind K) : o = if (bad || !namB (pkT L)) = true then none else K (if namB (pkT L) = true then pkT L else ⟨#[]⟩, if namB (pkT L) = true then L.tail else L) := by
  have e := nam_nmB hK
  rw [h]
  cases bad
  · rw [nameP, ← e]
    cases hn : namB (pkT L)
    · rfl
    · rw [pk_tk]; rfl
  · rfl
theorem lines_stop {α : Type} {f : Nat} {a : List LN} {L : List TR} {K : List LN × List TR → Option α} (h : (!a.isEmpty && isT L [101, 110, 100]) = true) : (linesP (f + 1) a L).bind K = K (a, L) := by
  rw [linesP, if_pos h]; rfl
theorem lines_go {α : Type} {f : Nat} {a : List LN} {L : List TR} {K : List LN × List TR → Option α} (h : (!a.isEmpty && isT L [101, 110, 100]) = false) : (linesP (f + 1) a L).bind K = (nameP L).bind fun r => (wantP [61] r.2).bind fun L2 => (prs (8 * L2.length + 5) .ex L2).bind fun q => (wantP [59] q.2).bind fun L3 => (linesP f (a ++ [⟨r.1, q.1⟩]) L3).bind K := by
  rw [linesP, if_neg (by rw [h]; decide)]
  simp only [Option.bind_assoc]
/-- a program that was read -/
structure PGok (p : PG) : Prop where
  nm : namB p.nm = true
  i : ∀ s ∈ p.i, namB s = true
  i1 : 1 ≤ p.i.length
  v : ∀ s ∈ p.v, namB s = true
  o : ∀ s ∈ p.o, namB s = true
  o1 : 1 ≤ p.o.length
  g : p.g = ⟨#[]⟩ ∨ namB p.g = true
  l : ∀ x ∈ p.l, namB x.nm = true ∧ hgt 0 x.ts = some 1
  l1 : 1 ≤ p.l.length
theorem wantP_ok {t : List UInt8} {L R : List TR} (h : wantP t L = some R) (hK : ∀ x ∈ L, TkB x) : (∀ x ∈ R, TkB x) ∧ R.length ≤ L.length := by
  rw [wantP] at h
  split at h
  · cases h; exact ⟨fun x hx => hK x (List.mem_of_mem_tail hx), by simp⟩
  · cases h
theorem nameP_ok {L : List TR} {q : ByteArray × List TR} (h : nameP L = some q) (hK : ∀ x ∈ L, TkB x) : namB q.1 = true ∧ (∀ x ∈ q.2, TkB x) ∧ q.2.length + 1 = L.length := by
  have e := nam_nmB hK
  rw [nameP] at h
  split at h
  · rename_i hc
    cases h
    rw [hc, pk_tk] at e
    refine ⟨e, fun x hx => hK x (List.mem_of_mem_tail hx), ?_⟩
    cases L with
    | nil => simp at hc
    | cons x r => rfl
  · cases h
theorem namesP_ok : ∀ (L : List TR) (a : List ByteArray) (q : List ByteArray × List TR), namesP L a = some q → (∀ x ∈ L, TkB x) → (∀ s ∈ a, namB s = true) → (∀ s ∈ q.1, namB s = true) ∧ (∀ x ∈ q.2, TkB x) ∧ a.length ≤ q.1.length ∧ q.1.length + q.2.length ≤ a.length + L.length
  | [], a, q, h, _, _ => by cases h
  | x :: r, a, q, h, hK, ha => by
    rw [namesP_eq] at h
    split at h
    · cases h
      exact ⟨ha, fun y hy => hK y (List.mem_cons_of_mem _ hy), Nat.le_refl _, by simp⟩
    · cases hn : nameP (x :: r) with
      | none => rw [hn] at h; cases h
      | some u =>
        rw [hn] at h
        obtain ⟨h1, h2, h3⟩ := nameP_ok hn hK
        have hu : u.2 = r := by
          rw [nameP] at hn
          split at hn
          · cases hn; rfl
          · cases hn
        simp only [Option.bind_some] at h
        rw [hu] at h
        obtain ⟨k1, k2, k3, k4⟩ := namesP_ok r (a ++ [u.1]) q h (fun y hy => hK y (List.mem_cons_of_mem _ hy)) (fun s hs => by
          rcases List.mem_append.1 hs with hs | hs
          · exact ha s hs
          · simp only [List.mem_singleton] at hs; rw [hs]; exact h1)
        simp only [List.length_append, List.length_cons, List.length_nil] at k3 k4 ⊢
        exact ⟨k1, k2, by omega, by omega⟩
theorem listP_ok {L : List TR} {q : List ByteArray × List TR} (h : listP L = some q) (hK : ∀ x ∈ L, TkB x) : (∀ s ∈ q.1, namB s = true) ∧ (∀ x ∈ q.2, TkB x) ∧ 1 ≤ q.1.length ∧ q.1.length + q.2.length ≤ L.length := by
  rw [listP] at h
  cases hn : nameP L with
  | none => rw [hn] at h; cases h
  | some u =>
    rw [hn] at h
    obtain ⟨h1, h2, h3⟩ := nameP_ok hn hK
    obtain ⟨k1, k2, k3, k4⟩ := namesP_ok u.2 [u.1] q h h2 (fun s hs => by simp only [List.mem_singleton] at hs; rw [hs]; exact h1)
    simp only [List.length_cons, List.length_nil] at k3 k4
    exact ⟨k1, k2, k3, by omega⟩
theorem linesP_ok : ∀ (f : Nat) (a : List LN) (L : List TR) (q : List LN × List TR), linesP f a L = some q → (∀ x ∈ L, TkB x) → (∀ x ∈ a, namB x.nm = true ∧ hgt 0 x.ts = some 1) → (∀ x ∈ q.1, namB x.nm = true ∧ hgt 0 x.ts = some 1) ∧ (∀ x ∈ q.2, TkB x) ∧ 1 ≤ q.1.length
  | 0, a, L, q, h, _, _ => by cases h
  | f + 1, a, L, q, h, hK, ha => by
    rw [linesP] at h
    split at h
    · rename_i hc
      cases h
      refine ⟨ha, hK, ?_⟩
      cases a with
      | nil => simp at hc
      | cons x r => simp
    · cases h1 : nameP L with
      | none => rw [h1] at h; cases h
      | some u =>
        rw [h1] at h
        obtain ⟨u1, u2, _⟩ := nameP_ok h1 hK
        simp only [Option.bind_some] at h
        cases h2 : wantP [61] u.2 with
        | none => rw [h2] at h; cases h
        | some L2 =>
          rw [h2] at h
          obtain ⟨v1, _⟩ := wantP_ok h2 u2
          simp only [Option.bind_some] at h
          cases h3 : prs (8 * L2.length + 5) .ex L2 with
          | none => rw [h3] at h; cases h
          | some r =>
            rw [h3] at h
            obtain ⟨r1, r2⟩ := prs_hgt _ .ex _ _ v1 h3
            simp only [Option.bind_some] at h
            cases h4 : wantP [59] r.2 with
            | none => rw [h4] at h; cases h
            | some L3 =>
              rw [h4] at h
              obtain ⟨w1, _⟩ := wantP_ok h4 r1
              simp only [Option.bind_some] at h
              exact linesP_ok f _ L3 q h w1 (fun x hx => by
                rcases List.mem_append.1 hx with hx | hx
                · exact ha x hx
                · simp only [List.mem_singleton] at hx; rw [hx]; exact ⟨u1, r2⟩)
theorem pgR_ok {L : List TR} {q : PG × List TR} (h : pgR L = some q) (hK : ∀ x ∈ L, TkB x) : PGok q.1 := by
  rw [pgR] at h
  obtain ⟨L1, h1, h⟩ := Option.bind_eq_some_iff.1 h
  obtain ⟨a, h2, h⟩ := Option.bind_eq_some_iff.1 h
  obtain ⟨L2, h3, h⟩ := Option.bind_eq_some_iff.1 h
  obtain ⟨L3, h4, h⟩ := Option.bind_eq_some_iff.1 h
  obtain ⟨b, h5, h⟩ := Option.bind_eq_some_iff.1 h
  obtain ⟨c, h6, h⟩ := Option.bind_eq_some_iff.1 h
  obtain ⟨L4, h7, h⟩ := Option.bind_eq_some_iff.1 h
  obtain ⟨d, h8, h⟩ := Option.bind_eq_some_iff.1 h
  obtain ⟨g, h9, h⟩ := Option.bind_eq_some_iff.1 h
  obtain ⟨l, h10, h⟩ := Option.bind_eq_some_iff.1 h
  obtain ⟨L5, h11, h⟩ := Option.bind_eq_some_iff.1 h
  obtain ⟨L6, h12, h⟩ := Option.bind_eq_some_iff.1 h
  cases h
  have k1 := (wantP_ok h1 hK).1
  obtain ⟨a1, a2, _⟩ := nameP_ok h2 k1
  have k3 := (wantP_ok h3 a2).1
  have k4 := (wantP_ok h4 k3).1
  obtain ⟨b1, b2, b3, _⟩ := listP_ok h5 k4
  have hc : (∀ s ∈ c.1, namB s = true) ∧ (∀ x ∈ c.2, TkB x) := by
    rw [varP] at h6
    split at h6
    · have := listP_ok h6 (fun x hx => b2 x (List.mem_of_mem_tail hx))
      exact ⟨this.1, this.2.1⟩
    · cases h6; exact ⟨fun s hs => (by cases hs), b2⟩
  have k7 := (wantP_ok h7 hc.2).1
  obtain ⟨d1, d2, d3, _⟩ := listP_ok h8 k7
  have hg : (g.1 = ⟨#[]⟩ ∨ namB g.1 = true) ∧ (∀ x ∈ g.2, TkB x) := by
    rw [guardP] at h9
    split at h9
    · obtain ⟨u, e1, e2⟩ := Option.bind_eq_some_iff.1 h9
      obtain ⟨R, e3, e4⟩ := Option.bind_eq_some_iff.1 e2
      cases e4
      obtain ⟨u1, u2, _⟩ := nameP_ok e1 (fun x hx => d2 x (List.mem_of_mem_tail hx))
      exact ⟨.inr u1, (wantP_ok e3 u2).1⟩
    · cases h9; exact ⟨.inl rfl, d2⟩
  obtain ⟨l1, l2, l3⟩ := linesP_ok _ _ _ _ h10 hg.2 (fun x hx => by cases hx)
  exact ⟨a1, b1, b3, hc.1, d1, d3, hg.1, l1, l3⟩
theorem pgO_ok {s : ByteArray} {p : PG} (h : pgO s = some p) : PGok p := by
  rw [pgO] at h
  split at h
  · rename_i q hq
    cases h
    exact pgR_ok hq rt_tok
  · cases h
/-- a list of from low to high names -/
def nmsB (lo : Nat) (l : List ByteArray) : Bool := l.all namB && inB (l.length : Int) lo 20
/-- a program is written -/
def wriB (p : PG) : Bool := namB p.nm && (nmsB 1 p.i && (nmsB 0 p.v && (nmsB 1 p.o && ((decide (p.g.size = 0) || namB p.g) && ((p.l.all fun x => namB x.nm && exprB x.ts) && inB (p.l.length : Int) 1 40)))))
theorem all_eq {α : Type} {f g : α → Bool} : ∀ {l : List α}, (∀ x ∈ l, f x = g x) → l.all f = l.all g
  | [], _ => rfl
  | x :: r, h => by
    rw [List.all_cons, List.all_cons, h x (List.mem_cons_self ..), all_eq fun y hy => h y (List.mem_cons_of_mem _ hy)]
theorem all_of {α : Type} {f : α → Bool} {l : List α} (h : ∀ x ∈ l, f x = true) : l.all f = true := List.all_eq_true.2 h
theorem wri_sz {p : PG} (h : PGok p) : wriB p = szP p := by
  have e1 : nmsB 1 p.i = decide (p.i.length ≤ 20) := by
    rw [nmsB, all_of h.i, Bool.true_and, inB]
    have := h.i1
    by_cases hh : p.i.length ≤ 20
    · rw [decide_eq_true hh]; simp only [Bool.and_eq_true, decide_eq_true_eq]; omega
    · rw [decide_eq_false hh]; simp only [Bool.and_eq_false_iff, decide_eq_false_iff_not]; omega
  have e2 : nmsB 0 p.v = decide (p.v.length ≤ 20) := by
    rw [nmsB, all_of h.v, Bool.true_and, inB]
    by_cases hh : p.v.length ≤ 20
    · rw [decide_eq_true hh]; simp only [Bool.and_eq_true, decide_eq_true_eq]; omega
    · rw [decide_eq_false hh]; simp only [Bool.and_eq_false_iff, decide_eq_false_iff_not]; omega
  have e3 : nmsB 1 p.o = decide (p.o.length ≤ 20) := by
    rw [nmsB, all_of h.o, Bool.true_and, inB]
    have := h.o1
    by_cases hh : p.o.length ≤ 20
    · rw [decide_eq_true hh]; simp only [Bool.and_eq_true, decide_eq_true_eq]; omega
    · rw [decide_eq_false hh]; simp only [Bool.and_eq_false_iff, decide_eq_false_iff_not]; omega
  have e4 : (decide (p.g.size = 0) || namB p.g) = true := by
    rcases h.g with hg | hg
    · rw [hg]; rfl
    · rw [hg, Bool.or_true]
  have e5 : (p.l.all fun x => namB x.nm && exprB x.ts) = !p.l.any fun x => decide (40 < x.ts.length) := by
    rw [List.not_any_eq_all_not]
    refine all_eq fun x hx => ?_
    obtain ⟨h1, h2⟩ := h.l x hx
    rw [h1, exprB, h2]
    by_cases hh : x.ts.length ≤ 40
    · rw [decide_eq_true hh, decide_eq_false (show ¬ 40 < x.ts.length by omega)]; rfl
    · rw [decide_eq_false hh, decide_eq_true (show 40 < x.ts.length by omega)]; rfl
  have e6 : inB (p.l.length : Int) 1 40 = decide (p.l.length ≤ 40) := by
    rw [inB]
    have := h.l1
    by_cases hh : p.l.length ≤ 40
    · rw [decide_eq_true hh]; simp only [Bool.and_eq_true, decide_eq_true_eq]; omega
    · rw [decide_eq_false hh]; simp only [Bool.and_eq_false_iff, decide_eq_false_iff_not]; omega
  rw [wriB, szP, h.nm, e1, e2, e3, e4, e5, e6, Bool.true_and, Bool.true_and, Bool.and_comm (!_)]
/-- the bounds of the program of a text -/
structure PGz (p : PG) : Prop where
  nm : p.nm.size ≤ 12
  i : ∀ s ∈ p.i, s.size ≤ 12
  iz : p.i.length ≤ 20
  v : ∀ s ∈ p.v, s.size ≤ 12
  vz : p.v.length ≤ 20
  o : ∀ s ∈ p.o, s.size ≤ 12
  oz : p.o.length ≤ 20
  g : p.g.size ≤ 12
  l : ∀ x ∈ p.l, x.nm.size ≤ 12 ∧ (∀ t ∈ x.ts, TM.ok t) ∧ x.ts.length ≤ 40
  lz : p.l.length ≤ 40
theorem nam_sz {s : ByteArray} (h : namB s = true) : s.size ≤ 12 := by
  simp only [namB, wrdB, Bool.and_eq_true, decide_eq_true_eq] at h
  have h5 := h.1.1.2
  have : s.data.toList.length = s.size := rfl
  omega
theorem PGz.no : PGz PG.no := ⟨by decide, fun _ h => (by cases h), by decide, fun _ h => (by cases h), by decide, fun _ h => (by cases h), by decide, by decide, fun _ h => (by cases h), by decide⟩
theorem PGz.of {p : PG} (h : PGok p) (hz : szP p = true) : PGz p := by
  simp only [szP, Bool.and_eq_true, decide_eq_true_eq, Bool.not_eq_true', List.any_eq_false] at hz
  obtain ⟨z1, z2, z3, z4, z5⟩ := hz
  refine ⟨nam_sz h.nm, fun s hs => nam_sz (h.i s hs), z1, fun s hs => nam_sz (h.v s hs), z2, fun s hs => nam_sz (h.o s hs), z3, ?_, fun x hx => ?_, z4⟩
  · rcases h.g with hg | hg
    · rw [hg]; decide
    · exact nam_sz hg
  · obtain ⟨h1, h2⟩ := h.l x hx
    exact ⟨nam_sz h1, fun t ht => (tmB_sz (hgt_all _ _ _ h2 t ht)).2, by have := z5 x hx; omega⟩
theorem pgP_z (s : ByteArray) : PGz (pgP s) := by
  rw [pgP]
  split
  · exact PGz.no
  · split
    · rename_i p hp
      split
      · rename_i hz; exact PGz.of (pgO_ok hp) hz
      · exact PGz.no
    · exact PGz.no
end Go.Proofs.YtjneodmohkpckaaGreatDoor
