/- Lines of programs in memory: rows whose parts are the call's own.; Strings and lines of the exact laws: comparisons and marks, walked.; Lines and programs of the exact laws: comparisons and marks, walked. -/
import Derived.Test.YtjneodmohkpckaaGreatDoorKa
import Derived.Test.YtjneodmohkpckaaGreatDoorOy
import Derived.Test.YtjneodmohkpckaaGreatDoorSt
import Derived.Test.YtjneodmohkpckaaGreatDoorEk
namespace Go.Proofs.YtjneodmohkpckaaGreatDoor
open Go.RowKit
set_option linter.unusedVariables false
set_option linter.unusedSimpArgs false
abbrev OwnSt := OwnF 1 (fun s : ByteArray => [Value.string s]) (fun s => s.size ≤ maxLen) 9
/-- where a slice lies -/
structure SA where
  a : Option Addr
  n : Nat
  c : Nat
def SA.no : SA := ⟨none, 0, 0⟩
def encLn (x : SA × LN) : List Value := [.string x.2.nm, .slice x.1.a x.1.n x.1.c]
theorem encLn_len (x : SA × LN) : (encLn x).length = 2 := rfl
theorem encLn_one (x : SA × LN) : ∀ u ∈ encLn x, u.oneCell' = true := fun u hu => by
  simp only [encLn, List.mem_cons, List.not_mem_nil, or_false] at hu
  rcases hu with rfl | rfl <;> rfl
/-- a line in memory reads as a line, in the world w0 -/
def LnM (ok : TM → Prop) (w0 : World) (x : SA × LN) : Prop := x.2.nm.size ≤ maxLen ∧ Flats 3 TM.enc ok w0 x.1.a x.1.n x.1.c x.2.ts ∧ x.1.n ≤ 100000
theorem LnM.keep {ok : TM → Prop} {w w' : World} {x : SA × LN} (h : LnM ok w x) (hb : Below w.heap.size w w') : LnM ok w' x := ⟨h.1, h.2.1.keep hb, h.2.2⟩
abbrev FL (ok : TM → Prop) (w0 : World) := Flats 2 encLn (LnM ok w0)
theorem FL.keep2 {ok : TM → Prop} {w w' : World} {a : Option Addr} {n c : Nat} {l : List (SA × LN)} (h : FL ok w w a n c l) (hb : Below w.heap.size w w') : FL ok w' w' a n c l := by
  have hf := Flats.keep h hb
  exact ⟨hf.len, hf.cap, hf.pos, fun x hx => (hf.wf x hx).keep hb, hf.nil⟩
theorem FL.get {ok : TM → Prop} {w0 w : World} {a : Option Addr} {n c : Nat} {l : List (SA × LN)} (h : FL ok w0 w a n c l) {i : Nat} (hi : i < n) :
    ∃ b off A x, a = some ⟨b, off, none⟩ ∧ b < w.heap.size ∧ l[i]? = some (A, x) ∧ LnM ok w0 (A, x) ∧ w.cell? ⟨b, off + i * 2, none⟩ = some (.string x.nm) ∧ w.cell? ⟨b, off + i * 2 + 1, none⟩ = some (.slice A.a A.n A.c) := by
  obtain ⟨b, off, x, h1, h2, h3, h4, h5⟩ := h.at hi
  exact ⟨b, off, x.1, x.2, h1, h2, h3, h4, h5 0 _ rfl, h5 1 _ rfl⟩
abbrev OwnTq (ok : TM → Prop) := OwnF 3 TM.enc ok 55
/-- a line whose terms are the call's own -/
structure LO (ok : TM → Prop) (w : World) (lo : Nat) (x : SA × LN) : Prop where
  nms : x.2.nm.size ≤ maxLen
  t : OwnTq ok w lo x.1.a x.1.n x.1.c x.2.ts
  tn : x.1.n ≤ 100000
/-- a slice of lines that is the call's own -/
structure LOwn (ok : TM → Prop) (w : World) (lo : Nat) (a : Option Addr) (n c : Nat) (l : List (SA × LN)) : Prop where
  row : OwnF 2 encLn (fun _ => True) 63 w lo a n c l
  each : ∀ x ∈ l, LO ok w lo x
  apart : ∀ (i j : Nat) (x y : SA × LN), l[i]? = some x → l[j]? = some y → i ≠ j → Apart x.1.a y.1.a
section
variable {ok : TM → Prop} {w w' : World} {lo hi : Nat} {a : Option Addr} {n c : Nat} {l : List (SA × LN)}
theorem LOwn.nil (w : World) (lo : Nat) : LOwn ok w lo none 0 0 [] := ⟨⟨World.ownsRow_nil w _ _ _, fun _ h => (by cases h), rfl, fun _ => rfl⟩, fun _ h => (by cases h), fun i j x y h => by cases h⟩
theorem LO.lnm {x : SA × LN} (h : LO ok w lo x) : LnM ok w x := ⟨h.nms, h.t.flats, h.tn⟩
theorem LOwn.fl (h : LOwn ok w lo a n c l) : FL ok w w a n c l := by
  have hf := h.row.flats
  exact ⟨hf.len, hf.cap, hf.pos, fun x hx => (h.each x hx).lnm, hf.nil⟩
theorem LO.keep {x : SA × LN} (h : LO ok w lo x) (hb : Below w.heap.size w w') : LO ok w' lo x := ⟨h.nms, h.t.keep hb, h.tn⟩
theorem LOwn.keep (h : LOwn ok w lo a n c l) (hb : Below w.heap.size w w') : LOwn ok w' lo a n c l := ⟨h.row.keep hb, fun x hx => (h.each x hx).keep hb, h.apart⟩
theorem LO.le {lo' : Nat} {x : SA × LN} (h : LO ok w lo x) (hl : lo' ≤ lo) : LO ok w lo' x := ⟨h.nms, h.t.le hl, h.tn⟩
theorem LOwn.le {lo' : Nat} (h : LOwn ok w lo a n c l) (hl : lo' ≤ lo) : LOwn ok w lo' a n c l := ⟨h.row.le hl, fun x hx => (h.each x hx).le hl, h.apart⟩
def inL (lo hi : Nat) (a : Option Addr) : Prop := ∀ g, a = some ⟨g, 0, none⟩ → lo ≤ g ∧ g < hi
/-- all blocks of a slice of lines lie from lo on below hi -/
def LBd (lo hi : Nat) (a : Option Addr) (l : List (SA × LN)) : Prop := inL lo hi a ∧ ∀ x ∈ l, inL lo hi x.1.a
theorem LOwn.bd (h : LOwn ok w lo a n c l) : LBd lo w.heap.size a l := ⟨h.row.blk, fun x hx => (h.each x hx).t.blk⟩
theorem LOwn.here {lo' : Nat} (bd : LBd lo' hi a l) (w1 w2 : World) (hk : ∀ k, lo' ≤ k → k < hi → w2.heap[k]? = w1.heap[k]?) (h : LOwn ok w1 lo a n c l) : LOwn ok w2 lo a n c l :=
  ⟨OwnF.here bd.1 w1 w2 hk h.row, fun x hx => ⟨(h.each x hx).nms, OwnF.here (bd.2 x hx) w1 w2 hk (h.each x hx).t, (h.each x hx).tn⟩, h.apart⟩
/-- blocks outside an interval that is written stay -/
theorem LOwn.only {lo' hi' : Nat} (h : LOwn ok w lo a n c l) (ho : Only lo' hi' w w') (hd : ∀ g, lo ≤ g → g < w.heap.size → g < lo' ∨ hi' ≤ g) : LOwn ok w' lo a n c l :=
  ⟨h.row.only ho fun g e => hd g (h.row.blk g e).1 (h.row.blk g e).2, fun x hx => ⟨(h.each x hx).nms, (h.each x hx).t.only ho fun g e => hd g ((h.each x hx).t.blk g e).1 ((h.each x hx).t.blk g e).2, (h.each x hx).tn⟩, h.apart⟩
/-- stronger terms -/
theorem LOwn.strong {ok' : TM → Prop} (h : LOwn ok w lo a n c l) (hk : ∀ x ∈ l, ∀ t ∈ x.2.ts, ok' t) : LOwn ok' w lo a n c l :=
  ⟨h.row, fun x hx => ⟨(h.each x hx).nms, ⟨(h.each x hx).t.1, hk x hx, (h.each x hx).t.2.2⟩, (h.each x hx).tn⟩, h.apart⟩
theorem get_setL {α : Type} {l : List α} {i j : Nat} {x y : α} (h : (l.set i x)[j]? = some y) : (j = i ∧ y = x) ∨ (j ≠ i ∧ l[j]? = some y) := by
  rw [List.getElem?_set] at h
  split at h
  · split at h
    · rename_i e _
      exact .inl ⟨e.symm, by simpa using h.symm⟩
    · cases h
  · rename_i e
    exact .inr ⟨fun e' => e e'.symm, h⟩
theorem apart_setL {i : Nat} {x y : SA × LN} (hy : l[i]? = some y) (hg : x.1.a = y.1.a)
    (h : ∀ (i j : Nat) (x y : SA × LN), l[i]? = some x → l[j]? = some y → i ≠ j → Apart x.1.a y.1.a) :
    ∀ (i' j : Nat) (x' y' : SA × LN), (l.set i x)[i']? = some x' → (l.set i x)[j]? = some y' → i' ≠ j → Apart x'.1.a y'.1.a := by
  intro i' j x' y' h1 h2 hij
  rcases get_setL h1 with ⟨rfl, rfl⟩ | ⟨e1, k1⟩ <;> rcases get_setL h2 with ⟨rfl, rfl⟩ | ⟨e2, k2⟩
  · exact absurd rfl hij
  · rw [hg]; exact h _ _ _ _ hy k2 hij
  · rw [hg]; exact h _ _ _ _ k1 hy hij
  · exact h _ _ _ _ k1 k2 hij
theorem bd_setL {i : Nat} {x y : SA × LN} (hy : l[i]? = some y) (hg : x.1.a = y.1.a) (h : LBd lo hi a l) : LBd lo hi a (l.set i x) :=
  ⟨h.1, fun z hz => by
    rcases List.mem_or_eq_of_mem_set hz with h1 | h1
    · exact h.2 z h1
    · subst h1; rw [hg]; exact h.2 y (List.mem_of_getElem? hy)⟩
theorem ty_apart {a a' : Option Addr} {E E' : TypeId} (h : ∀ {g : Nat}, a = some ⟨g, 0, none⟩ → ∃ cur, w.heap[g]? = some (.cells cur E (0, 0))) (h' : ∀ {g : Nat}, a' = some ⟨g, 0, none⟩ → ∃ cur, w.heap[g]? = some (.cells cur E' (0, 0))) (hE : E ≠ E') : Apart a a' := fun g e e' => by
  obtain ⟨c1, h1⟩ := h e
  obtain ⟨c2, h2⟩ := h' e'
  rw [h1] at h2
  simp at h2
  exact hE h2.2
theorem set_grownL (g i : Nat) (v : Value) : w.grownBy (w.setCell ⟨g, i, none⟩ v) (some g) := grownBy_set (grownBy_refl _ _) _ _
/-- a line's target is written -/
theorem LOwn.setNm {g : Nat} (h : LOwn ok w lo (some ⟨g, 0, none⟩) n c l) {i : Nat} {A : SA} {x : LN} (hy : l[i]? = some (A, x)) (s : ByteArray) (hs : s.size ≤ maxLen) :
    LOwn ok (w.setCell ⟨g, i * 2, none⟩ (.string s)) lo (some ⟨g, 0, none⟩) n c (l.set i (A, { x with nm := s })) := by
  have hm := List.mem_of_getElem? hy
  have sg := set_grownL (w := w) g (i * 2) (.string s)
  have hT : ∀ x ∈ l, OwnTq ok (w.setCell ⟨g, i * 2, none⟩ (.string s)) lo x.1.a x.1.n x.1.c x.2.ts := fun x hx => (h.each x hx).t.keepG sg fun g' e' e'' => by
    cases e''; exact ty_apart (fun e => h.row.ty9 e) (fun e => (h.each x hx).t.ty9 e) (by decide) g rfl e'
  refine ⟨h.row.setj hy (j := 0) (by decide) (by omega) rfl trivial, fun z hz => ?_, apart_setL hy rfl h.apart⟩
  rcases List.mem_or_eq_of_mem_set hz with h1 | h1
  · exact ⟨(h.each z h1).nms, hT z h1, (h.each z h1).tn⟩
  · subst h1
    exact ⟨hs, hT (A, x) hm, (h.each _ hm).tn⟩
/-- a line's terms are written -/
theorem LOwn.setT {m : Nat} (h : LOwn ok w lo a n c l) {i : Nat} {A : SA} {x : LN} (hy : l[i]? = some (A, x)) (ht : Touch w w' m A.a) {ts' : List TM} (hg : OwnTq ok w' lo A.a A.n A.c ts') :
    LOwn ok w' lo a n c (l.set i (A, { x with ts := ts' })) := by
  have hm := List.mem_of_getElem? hy
  have hr : OwnF 2 encLn (fun _ => True) 63 w' lo a n c l := h.row.keepT ht (ty_apart (fun e => h.row.ty9 e) (fun e => (h.each _ hm).t.ty9 e) (by decide))
  have hfl : (l.set i (A, { x with ts := ts' })).flatMap encLn = l.flatMap encLn := by
    obtain ⟨h1, h2, _⟩ := flat_set encLn_len (List.getElem?_eq_some_iff.1 hy).1 (A, { x with ts := ts' }) (A, x) hy
    rw [h1, h2]; rfl
  refine ⟨⟨by rw [hfl]; exact hr.1, fun _ _ => trivial, by rw [List.length_set]; exact hr.2.2.1, hr.2.2.2⟩, fun z hz => ?_, apart_setL hy rfl h.apart⟩
  obtain ⟨j, hj⟩ := List.getElem?_of_mem hz
  rcases get_setL hj with ⟨rfl, rfl⟩ | ⟨e1, h1⟩
  · exact ⟨(h.each _ hm).nms, hg, (h.each _ hm).tn⟩
  · have hmx := List.mem_of_getElem? h1
    exact ⟨(h.each _ hmx).nms, (h.each _ hmx).t.keepT ht (h.apart _ _ _ _ h1 hy e1), (h.each _ hmx).tn⟩
/-- a line is appended whose terms were made since -/
theorem LOwn.app {a' : Option Addr} {c' B : Nat} {x : SA × LN} (h : LOwn ok w lo a n c l) (hx : LO ok w B x) (hB : ∀ y ∈ l, ∀ g, y.1.a = some ⟨g, 0, none⟩ → g < B) (hlo : lo ≤ B) (hr : OwnF 2 encLn (fun _ => True) 63 w' lo a' (n + 1) c' (l ++ [x])) (ho : OthT 63 w w') :
    LOwn ok w' lo a' (n + 1) c' (l ++ [x]) := by
  refine ⟨hr, fun y hy => ?_, ?_⟩
  · rcases List.mem_append.1 hy with h1 | h1
    · exact ⟨(h.each y h1).nms, (h.each y h1).t.oth ho (by decide), (h.each y h1).tn⟩
    · simp only [List.mem_singleton] at h1
      subst h1
      exact ⟨hx.nms, (hx.t.le hlo).oth ho (by decide), hx.tn⟩
  · have hap : ∀ y ∈ l, Apart y.1.a x.1.a := fun y hy => Apart.of (hB y hy) (fun g e => (hx.t.blk g e).1)
    have hl := h.row.len
    intro i j y z h1 h2 hij
    rw [List.getElem?_append] at h1 h2
    split at h1 <;> split at h2
    · exact h.apart _ _ _ _ h1 h2 hij
    · rename_i k1 k2
      have e2 : z = x := by
        rcases Nat.eq_or_lt_of_le (Nat.le_of_not_lt k2) with e | e
        · rw [← e, Nat.sub_self] at h2; simpa using h2.symm
        · rw [List.getElem?_eq_none (by simp; omega)] at h2; cases h2
      rw [e2]; exact hap y (List.mem_of_getElem? h1)
    · rename_i k1 k2
      have e2 : y = x := by
        rcases Nat.eq_or_lt_of_le (Nat.le_of_not_lt k1) with e | e
        · rw [← e, Nat.sub_self] at h1; simpa using h1.symm
        · rw [List.getElem?_eq_none (by simp; omega)] at h1; cases h1
      rw [e2]; exact (hap z (List.mem_of_getElem? h2)).symm
    · rename_i k1 k2
      have b1 : i - l.length < 1 := by have := (List.getElem?_eq_some_iff.1 h1).1; simpa using this
      have b2 : j - l.length < 1 := by have := (List.getElem?_eq_some_iff.1 h2).1; simpa using this
      omega
end
/-- a slice of lines that is the call's own, by what it means -/
def ML (ok : TM → Prop) (w : World) (lo hi : Nat) (A : SA) (ls : List LN) : Prop := ∃ l, LOwn ok w lo A.a A.n A.c l ∧ LBd lo hi A.a l ∧ l.map (·.2) = ls
section
variable {ok : TM → Prop} {w w' : World} {lo hi : Nat} {A : SA} {ls : List LN}
theorem ML.keep (h : ML ok w lo hi A ls) (hb : Below w.heap.size w w') : ML ok w' lo hi A ls := by
  obtain ⟨l, h1, h2, h3⟩ := h
  exact ⟨l, h1.keep hb, h2, h3⟩
theorem ML.here (w1 w2 : World) (hk : ∀ k, lo ≤ k → k < hi → w2.heap[k]? = w1.heap[k]?) (h : ML ok w1 lo hi A ls) : ML ok w2 lo hi A ls := by
  obtain ⟨l, h1, h2, h3⟩ := h
  exact ⟨l, LOwn.here h2 w1 w2 hk h1, h2, h3⟩
theorem ML.len (h : ML ok w lo hi A ls) : ls.length = A.n := by
  obtain ⟨l, h1, h2, h3⟩ := h
  rw [← h3, List.length_map]; exact h1.row.len
theorem ML.fl (h : ML ok w lo hi A ls) : ∃ l, FL ok w w A.a A.n A.c l ∧ l.map (·.2) = ls := by
  obtain ⟨l, h1, h2, h3⟩ := h
  exact ⟨l, h1.fl, h3⟩
theorem ML.strong {ok' : TM → Prop} (h : ML ok w lo hi A ls) (hk : ∀ x ∈ ls, ∀ t ∈ x.ts, ok' t) : ML ok' w lo hi A ls := by
  obtain ⟨l, h1, h2, h3⟩ := h
  exact ⟨l, h1.strong fun x hx => hk x.2 (by rw [← h3]; exact List.mem_map_of_mem hx), h2, h3⟩
/-- strings are written elsewhere -/
theorem ML.keepT {m : Nat} {a' : Option Addr} {E : TypeId} (h : ML ok w lo hi A ls) (ty : ∀ {g : Nat}, a' = some ⟨g, 0, none⟩ → ∃ cur, w.heap[g]? = some (.cells cur E (0, 0))) (ht : Touch w w' m a') (hE : E = 9) : ML ok w' lo hi A ls := by
  obtain ⟨l, h1, h2, h3⟩ := h
  subst hE
  exact ⟨l, ⟨h1.row.keepT ht (ty_apart (fun e => h1.row.ty9 e) ty (by decide)), fun x hx => ⟨(h1.each x hx).nms, (h1.each x hx).t.keepT ht (ty_apart (fun e => (h1.each x hx).t.ty9 e) ty (by decide)), (h1.each x hx).tn⟩, h1.apart⟩, h2, h3⟩
/-- a line of the list -/
theorem ML.at (h : ML ok w lo hi A ls) {k : Nat} (hk : k < A.n) : ∃ (g : Nat) (B : SA) (x : LN) (l : List (SA × LN)), A.a = some ⟨g, 0, none⟩ ∧ ls[k]? = some x ∧ l[k]? = some (B, x) ∧ LOwn ok w lo (some ⟨g, 0, none⟩) A.n A.c l ∧ LBd lo hi (some ⟨g, 0, none⟩) l ∧ l.map (·.2) = ls ∧ LO ok w lo (B, x) ∧ g < w.heap.size ∧ lo ≤ g ∧ g < hi ∧
    w.cell? ⟨g, k * 2, none⟩ = some (.string x.nm) ∧ w.cell? ⟨g, k * 2 + 1, none⟩ = some (.slice B.a B.n B.c) := by
  obtain ⟨l, h1, h2, h3⟩ := h
  obtain ⟨b, off, B, x, ha, hb, hx, _, c0, c1⟩ := FL.get h1.fl hk
  obtain ⟨g, hg⟩ := h1.row.shape (by omega)
  rw [hg] at ha
  simp only [Option.some.injEq, Addr.mk.injEq, and_true] at ha
  obtain ⟨rfl, rfl⟩ := ha
  simp only [Nat.zero_add] at c0 c1
  have hb2 := h2.1 g hg
  rw [hg] at h1 h2
  exact ⟨g, B, x, l, hg, by rw [← h3, List.getElem?_map, hx]; rfl, hx, h1, h2, h3, h1.each _ (List.mem_of_getElem? hx), hb, hb2.1, hb2.2, c0, c1⟩
end
theorem LOwn.cells {ok : TM → Prop} {w : World} {lo g : Nat} {n c : Nat} {l : List (SA × LN)} (h : LOwn ok w lo (some ⟨g, 0, none⟩) n c l) {k : Nat} {B : SA} {x : LN} (hx : l[k]? = some (B, x)) : g < w.heap.size ∧ w.cell? ⟨g, k * 2, none⟩ = some (.string x.nm) ∧ w.cell? ⟨g, k * 2 + 1, none⟩ = some (.slice B.a B.n B.c) := by
  have hk : k < n := by rw [← h.row.len]; exact (List.getElem?_eq_some_iff.1 hx).1
  obtain ⟨b, off, B', x', he, hb, hx', _, c0, c1⟩ := FL.get h.fl hk
  simp only [Option.some.injEq, Addr.mk.injEq, and_true] at he
  obtain ⟨rfl, rfl⟩ := he
  rw [hx] at hx'
  simp only [Option.some.injEq, Prod.mk.injEq] at hx'
  obtain ⟨rfl, rfl⟩ := hx'
  simp only [Nat.zero_add] at c0 c1
  exact ⟨hb, c0, c1⟩
/-- the marks that the exact laws write into strings -/
def marksS (q : Int) (n : Nat) : List ByteArray := (List.range n).map fun (i : Nat) => markT (q + (i : Int))
theorem marksS_get {q : Int} {n k : Nat} (h : k < n) : (marksS q n)[k]? = some (markT (q + (k : Int))) := by
  rw [marksS, List.getElem?_map, List.getElem?_range h]; rfl
theorem marksS_len (q : Int) (n : Nat) : (marksS q n).length = n := by simp [marksS]
theorem marksM_len (q : Int) (n : Nat) : (marksM q n).length = n := by simp [marksM]
theorem marksS_mix {q : Int} {n j : Nat} {l : List ByteArray} (h : j < n) (hl : l.length = n) : ((marksS q n).take j ++ l.drop j).set j (markT (q + (j : Int))) = (marksS q n).take (j + 1) ++ l.drop (j + 1) := by
  have h1 : ((marksS q n).take j).length = j := by rw [List.length_take, marksS_len]; omega
  rw [take_at (marksS_get h), List.set_append_right _ _ (by omega), h1, Nat.sub_self, List.drop_eq_getElem_cons (by omega : j < l.length), List.set_cons_zero, List.append_assoc]
  rfl
def cntL1 (x : LN) : Nat := 1 + 3 * x.ts.length
def cntLn (ls : List LN) : Nat := (ls.map cntL1).sum
def mark1L (q : Int) (x : LN) : LN := ⟨markT q, marksM (q + 1) x.ts.length⟩
/-- the marks of a list of lines -/
def marksL : Int → List LN → List LN
  | _, [] => []
  | q, r :: rs => mark1L q r :: marksL (q + (cntL1 r : Nat)) rs
theorem marksL_len (q : Int) (rs : List LN) : (marksL q rs).length = rs.length := by
  induction rs generalizing q with
  | nil => rfl
  | cons r rs ih => simp [marksL, ih]
theorem cntL_take {rs : List LN} {k : Nat} {r : LN} (h : rs[k]? = some r) : cntLn (rs.take (k + 1)) = cntLn (rs.take k) + cntL1 r := by
  rw [cntLn, take_at h, List.map_append, List.sum_append]; simp [cntLn]
theorem cntL_le {rs : List LN} {k : Nat} {r : LN} (h : rs[k]? = some r) : cntLn (rs.take k) + cntL1 r ≤ cntLn rs := by
  rw [← cntL_take h]
  have : cntLn rs = cntLn (rs.take (k + 1)) + cntLn (rs.drop (k + 1)) := by
    rw [cntLn, cntLn, cntLn, ← List.sum_append, ← List.map_append, List.take_append_drop]
  omega
theorem marksL_get {q : Int} {rs : List LN} {k : Nat} {r : LN} (h : rs[k]? = some r) : (marksL q rs)[k]? = some (mark1L (q + (cntLn (rs.take k) : Nat)) r) := by
  induction rs generalizing q k with
  | nil => simp at h
  | cons x rs ih =>
    cases k with
    | zero => simp at h; subst h; simp [marksL, cntLn]
    | succ k =>
      have := ih (q := q + (cntL1 x : Nat)) (k := k) (by simpa using h)
      rw [marksL, List.getElem?_cons_succ, this]
      congr 2
      simp [cntLn]; omega
theorem mixL {q : Int} {rs : List LN} {k : Nat} {r : LN} {m : List LN} (h : rs[k]? = some r) (hm : m = (marksL q rs).take k ++ rs.drop k) : m.set k (mark1L (q + (cntLn (rs.take k) : Nat)) r) = (marksL q rs).take (k + 1) ++ rs.drop (k + 1) := by
  subst hm
  have hlt : k < rs.length := (List.getElem?_eq_some_iff.1 h).1
  have h1 : ((marksL q rs).take k).length = k := by rw [List.length_take, marksL_len]; omega
  rw [take_at (marksL_get h), List.set_append_right _ _ (by omega), h1, Nat.sub_self, show rs.drop k = rs[k] :: rs.drop (k + 1) from List.drop_eq_getElem_cons (by omega), List.set_cons_zero, List.append_assoc]
  rfl
theorem set_atL {α : Type} {l : List α} {k : Nat} {x y : α} (h : l[k]? = some y) : (l.set k x)[k]? = some x := by
  rw [List.getElem?_set, if_pos rfl, if_pos (List.getElem?_eq_some_iff.1 h).1]
theorem map_set2L {l : List (SA × LN)} {i : Nat} {x : SA × LN} : (l.set i x).map (·.2) = (l.map (·.2)).set i x.2 := List.map_set ..
/-- every block of strings stays as it was -/
def KeepS (w w' : World) : Prop := ∀ (b : Nat) (cur : Array Value), w.heap[b]? = some (.cells cur 9 (0, 0)) → w'.heap[b]? = some (.cells cur 9 (0, 0))
theorem KeepS.refl (w : World) : KeepS w w := fun _ _ h => h
theorem KeepS.trans {w w' w'' : World} (h : KeepS w w') (h' : KeepS w' w'') : KeepS w w'' := fun b cur hb => h' b cur (h b cur hb)
theorem KeepS.below {w w' : World} (h : Below w.heap.size w w') : KeepS w w' := fun b cur hb => by
  have hlt : b < w.heap.size := Nat.lt_of_not_le fun h => by rw [Array.getElem?_eq_none h] at hb; cases hb
  rw [h.block b hlt]; exact hb
theorem KeepS.grown {w w' : World} {g : Nat} {E : TypeId} (h : w.grownBy w' (some g)) (ht : ∃ cur, w.heap[g]? = some (.cells cur E (0, 0))) (hE : E ≠ 9) : KeepS w w' := fun b cur hb => by
  have hlt : b < w.heap.size := Nat.lt_of_not_le fun h => by rw [Array.getElem?_eq_none h] at hb; cases hb
  rw [h.block b hlt fun e => ?_]
  · exact hb
  · cases e
    obtain ⟨c2, h2⟩ := ht
    rw [hb] at h2
    simp at h2
    exact hE h2.2.symm
theorem KeepS.touch {w w' : World} {n : Nat} {a : Option Addr} {E : TypeId} (h : Touch w w' n a) (ht : ∀ {g : Nat}, a = some ⟨g, 0, none⟩ → ∃ cur, w.heap[g]? = some (.cells cur E (0, 0))) (hE : E ≠ 9) : KeepS w w' := by
  obtain ⟨r, hg, hr⟩ := h
  cases r with
  | none => exact KeepS.below ((Below.refl _ _).grown hg (Nat.le_refl _) (fun k e => by cases e))
  | some g => exact KeepS.grown hg (ht (hr g rfl).2) hE
theorem OwnSt.keepK {w w' : World} {base : Nat} {a : Option Addr} {n c : Nat} {l : List ByteArray} (h : OwnSt w base a n c l) (hk : KeepS w w') : OwnSt w' base a n c l :=
  h.same fun g eg => by obtain ⟨cur, hc⟩ := h.ty9 eg; rw [hc]; exact hk g cur hc
set_option maxHeartbeats 2000000 in
theorem laws_eqStringS {a a' : Option Addr} {n c n' c' : Nat} {l : List ByteArray} {w : World} (hI : FS w a n c l) (hI' : FS w a' n' c' l) (hn : n ≤ 1048576) :
    Calls Tryz.prog 73 #[.slice a n c, .slice a' n' c'] w fun e w' => e = .returned (.bool true) ∧ Below w.heap.size w w' := by
  obtain rfl : n = n' := by have := hI.len; have := hI'.len; omega
  have HI := Lib.hid hI
  have HI' := Lib.hid hI'
  clear hI hI'
  go_enter Tryz.func73, Tryz.ntmps73
  go_wp2
  go_loopw [5] (fun i wr => ∃ k : Nat, k ≤ n ∧ i = .int .i64 k ∧ Below w.heap.size w wr) (fun i _ => n - (intOf i).toNat)
  case atStart => exact ⟨0, Nat.zero_le _, rfl, Below.refl _ _⟩
  case round =>
    obtain ⟨k, hk, rfl, hbl⟩ := hrel
    by_cases hlt : k < n
    · obtain ⟨b, off, x, rfl, hb, hx, hwf, hc0⟩ := FS.get (HI.out.keep hbl) hlt
      obtain ⟨b', off', x', rfl, hb', hx', _, hc0'⟩ := FS.get (HI'.out.keep hbl) hlt
      obtain rfl : x = x' := by rw [hx] at hx'; simpa using hx'
      have hq : (x.toList != x.toList) = false := by simp
      clear hx hx'
      have hlt' : (k : Int) < (n : Int) := by omega
      have hpos : (0 : Int) ≤ (k : Int) := by omega
      go_wp2_with fail
      go_quiet (fail)
      go_wp2_with fail
      go_roundw
      case rel => exact ⟨k + 1, by omega, by go_num, by first | exact hbl | exact below_drewN hbl _⟩
      case measure => simp [intOf]; omega
    · go_wp2
      go_ret
      exact ⟨rfl, hbl⟩
set_option maxHeartbeats 2000000 in
theorem laws_markStringS {a : Option Addr} {n c base : Nat} {l : List ByteArray} {q : Int} {w : World} (hI : OwnSt w base a n c l) (hn : n ≤ 1048576) (hq0 : 0 ≤ q) (hq1 : q ≤ 1048576) :
    Calls Tryz.prog 75 #[.slice a n c, .int .i64 q] w fun e w' => e = .returned (.int .i64 (q + n)) ∧ Touch w w' n a ∧ OwnSt w' base a n c (marksS q n) := by
  by_cases hn0 : n = 0
  · subst hn0
    have HI := Lib.hid hI
    have hl : l = marksS q 0 := by have := hI.len; cases l with | nil => rfl | cons => simp at this
    subst hl
    clear hI
    go_enter Tryz.func75, Tryz.ntmps75
    go_wp2
    go_loopw [1, 5] (fun s1 s5 wr => s1 = .int .i64 q ∧ s5 = .int .i64 0 ∧ wr = w) (fun _ _ _ => 0)
    case atStart => exact ⟨rfl, rfl, rfl⟩
    case round =>
      obtain ⟨rfl, rfl, rfl⟩ := hrel
      go_wp2
      go_ret
      exact ⟨ret_int (by omega), ⟨none, grownBy_refl _ _, fun _ h => by cases h⟩, HI.out⟩
  · obtain ⟨g, rfl⟩ := hI.shape (by omega)
    have HI := Lib.hid (show OwnSt w base (some ⟨g, 0, none⟩) n c ((marksS q n).take 0 ++ l.drop 0) by simpa using hI)
    have hlen := hI.len
    have Hlen := Lib.hid hlen
    clear hI hlen
    go_enter Tryz.func75, Tryz.ntmps75
    go_wp2
    go_loopw [1, 5] (fun s1 s5 wr => ∃ j : Nat, j ≤ n ∧ s1 = .int .i64 (q + j) ∧ s5 = .int .i64 j ∧ w.grownBy wr (some g) ∧ Hid (OwnSt wr base (some ⟨g, 0, none⟩) n c ((marksS q n).take j ++ l.drop j))) (fun _ s5 _ => n - (intOf s5).toNat)
    case atStart => exact ⟨0, Nat.zero_le _, by simp, rfl, grownBy_refl _ _, HI.out⟩
    case round =>
      obtain ⟨j, hj, rfl, rfl, hg, hO⟩ := hrel
      have hsz := hg.size
      by_cases hlt : j < n
      · obtain ⟨_, _, y, h1, hbz, hy, hok, hc0⟩ := FS.get hO.out.flats hlt
        simp only [Option.some.injEq, Addr.mk.injEq, and_true] at h1
        obtain ⟨rfl, rfl⟩ := h1
        simp only [Nat.zero_add] at hc0
        have KM := Lib.hid (fun (wx : World) => laws_markText (k := q + (j : Int)) (w := wx) (by omega) (by omega))
        have HM := Lib.hid (markT_size (k := q + (j : Int)) (by omega))
        obtain ⟨S, hS⟩ : ∃ S, S = markT (q + (j : Int)) := ⟨_, rfl⟩
        rw [← hS] at KM HM
        have HS := Lib.hid hS
        have HY := Lib.hid hy
        clear hS hy hok
        go_wp2_with fail
        refine Calls.mono (KM.out _) ?_
        rintro e w1 ⟨rfl, hb1⟩
        have hs1 := hb1.size
        have HOb := Lib.hid (hO.out.keep hb1)
        have HG := Lib.hid (grownBy_trans hg (grownBy_below hb1 (some g)))
        obtain ⟨_, _, y2, h2, hbz2, hy2, _, hd0⟩ := FS.get HOb.out.flats hlt
        simp only [Option.some.injEq, Addr.mk.injEq, and_true] at h2
        obtain ⟨rfl, rfl⟩ := h2
        simp only [Nat.zero_add] at hd0
        have hfz2 := HOb.out.free
        clear hc0 hb1 hg hbz hy2 hO
        go_wp2_with fail
        go_roundw
        case rel =>
          refine ⟨j + 1, by omega, by go_num, by go_num, grownBy_set HG.out _ _, Lib.hid ?_⟩
          have hmz : S.size ≤ maxLen := by have := HM.out; unfold maxLen; omega
          have h3 := HOb.out.setj (i := j) (j := 0) (p := j) (v := .string S) (x := S) HY.out (by decide) (by omega) rfl hmz
          rw [HS.out, marksS_mix hlt Hlen.out, ← HS.out] at h3
          exact h3
        case measure => simp [intOf]; omega
      · go_wp2
        go_ret
        have e : j = n := by omega
        have h1 := hO.out
        rw [e, List.drop_of_length_le (by have := Hlen.out; omega), List.append_nil, List.take_of_length_le (by simp [marksS])] at h1
        exact ⟨ret_int (by rw [e]), ⟨_, hg, fun b hb => by cases hb; exact ⟨by omega, rfl⟩⟩, h1⟩
set_option maxHeartbeats 2000000 in
theorem laws_heldStringS {a : Option Addr} {n c : Nat} {q : Int} {w : World} (hI : FS w a n c (marksS q n)) (hn : n ≤ 1048576) (hq0 : 0 ≤ q) (hq1 : q ≤ 1048576) :
    Calls Tryz.prog 77 #[.slice a n c, .int .i64 q] w fun e w' => e = .returned (.int .i64 (q + n)) ∧ Below w.heap.size w w' := by
  have HI := Lib.hid hI
  clear hI
  go_enter Tryz.func77, Tryz.ntmps77
  go_wp2
  go_loopw [1, 5] (fun s1 s5 wr => ∃ j : Nat, j ≤ n ∧ s1 = .int .i64 (q + j) ∧ s5 = .int .i64 j ∧ Below w.heap.size w wr) (fun _ s5 _ => n - (intOf s5).toNat)
  case atStart => exact ⟨0, Nat.zero_le _, by simp, rfl, Below.refl _ _⟩
  case round =>
    obtain ⟨j, hj, rfl, rfl, hbl⟩ := hrel
    have hsz := hbl.size
    by_cases hlt : j < n
    · obtain ⟨b, off, x, rfl, hb, hx, hwf, hc0⟩ := FS.get (HI.out.keep hbl) hlt
      rw [marksS_get hlt] at hx
      simp only [Option.some.injEq] at hx
      subst hx
      have KM := Lib.hid (fun (wx : World) => laws_markText (k := q + (j : Int)) (w := wx) (by omega) (by omega))
      clear hwf
      generalize markT (q + (j : Int)) = S at *
      have hq : (S.toList != S.toList) = false := by simp
      go_wp2_with fail
      go_region_held3 (fun wx => wx.cell? ⟨b, off + j, none⟩ = some (.string S) ∧ b < wx.heap.size ∧ Below w.heap.size w wx) (((try go_split_ands); (repeat' apply And.intro) <;> first | assumption | exact Below.drew (Below.refl _ _) | exact Blk.keep (by assumption) hbx | exact Blk.drew (by assumption) | exact Blk.drew (Blk.made _ _ _) | exact Below.drew (by assumption) | exact Below.drew (below_allocS (by first | exact Below.refl _ _ | assumption) _) | exact below_callS (by assumption) hbx | exact below_call (by assumption) hbx (Below.size (by assumption)) | exact (hcx _ _ (by assumption)).trans (by assumption) | omega | (simp [*]; done) | (simp; omega))) (first | (go_at_call 127; refine Calls.mono (KM.out _) ?_; rintro e wx2 ⟨rfl, hbx⟩; obtain ⟨hcx, hfx⟩ := bcell hbx; have hsx := hbx.size))
      go_split_ands
      go_wp2
      go_roundw
      case rel => exact ⟨j + 1, by omega, by go_num, by go_num, by assumption⟩
      case measure => simp [intOf]; omega
    · go_wp2
      go_ret
      have e : j = n := by omega
      exact ⟨ret_int (by rw [e]), hbl⟩
set_option maxHeartbeats 1000000 in
theorem laws_eqLine {A A' : SA} {x : LN} {w : World} (h : LnM TM.ok w (A, x)) (h' : LnM TM.ok w (A', x)) :
    Calls Tryz.prog 126 #[.agg #[.string x.nm, .slice A.a A.n A.c], .agg #[.string x.nm, .slice A'.a A'.n A'.c]] w fun e w' => e = .returned (.bool true) ∧ Below w.heap.size w w' := by
  have K1 := Lib.hid (fun (wx : World) (hb : Below w.heap.size w wx) => laws_eqTermS (h.2.1.keep hb) (h'.2.1.keep hb) (Nat.le_trans h.2.2 (by decide)))
  have hq2 : (x.nm.toList != x.nm.toList) = false := by simp
  clear h h'
  go_enter Tryz.func126, Tryz.ntmps126
  go_wp2_with fail
  refine Calls.mono (K1.out _ bel) ?_
  rintro e w1 ⟨rfl, hb_w1⟩
  obtain ⟨hc_w1, hf_w1⟩ := bcell hb_w1
  have hs_w1 := hb_w1.size
  go_wp2
  go_ret
  exact ⟨rfl, bel⟩
set_option maxHeartbeats 4000000 in
theorem laws_eqLineS {a a' : Option Addr} {n c n' c' : Nat} {l l' : List (SA × LN)} {w : World} (hI : FL TM.ok w w a n c l) (hI' : FL TM.ok w w a' n' c' l') (hl : l.map (·.2) = l'.map (·.2)) (hn : n ≤ 1048576) :
    Calls Tryz.prog 74 #[.slice a n c, .slice a' n' c'] w fun e w' => e = .returned (.bool true) ∧ Below w.heap.size w w' := by
  obtain rfl : n = n' := by have h1 := hI.len; have h2 := hI'.len; have h3 := congrArg List.length hl; simp at h3; omega
  have HI := Lib.hid hI
  have HI' := Lib.hid hI'
  have HL := Lib.hid hl
  clear hI hI' hl
  have hq : ((n : Int) != (n : Int)) = false := by simp
  go_enter Tryz.func74, Tryz.ntmps74
  go_wp2
  go_loopw [5] (fun i wr => ∃ k : Nat, k ≤ n ∧ i = .int .i64 k ∧ Below w.heap.size w wr) (fun i _ => n - (intOf i).toNat)
  case atStart => exact ⟨0, Nat.zero_le _, rfl, Below.refl _ _⟩
  case round =>
    obtain ⟨k, hk, rfl, hbl⟩ := hrel
    by_cases hlt : k < n
    · obtain ⟨b, off, A, x, rfl, hb, hx, hwf, c0, c1⟩ := FL.get (HI.out.keep hbl) hlt
      obtain ⟨b', off', A', x', rfl, hb', hx', hwf', d0, d1⟩ := FL.get (HI'.out.keep hbl) hlt
      obtain rfl : x = x' := by
        have h1 := congrArg (fun z => z[k]?) HL.out
        simp [hx, hx'] at h1
        exact h1
      have HC := Lib.hid (fun (wx : World) (hb : Below w.heap.size w wx) => laws_eqLine (hwf.keep hb) (hwf'.keep hb))
      clear hx hx' hwf hwf'
      have hlt' : (k : Int) < (n : Int) := by omega
      have hpos : (0 : Int) ≤ (k : Int) := by omega
      go_wp2
      go_region_held3 (fun wx => wx.cell? ⟨b, off + k * 2, none⟩ = some (.string x.nm) ∧ wx.cell? ⟨b, off + k * 2 + 1, none⟩ = some (.slice A.a A.n A.c) ∧ wx.cell? ⟨b', off' + k * 2, none⟩ = some (.string x.nm) ∧ wx.cell? ⟨b', off' + k * 2 + 1, none⟩ = some (.slice A'.a A'.n A'.c) ∧ b < wx.heap.size ∧ b' < wx.heap.size ∧ Below w.heap.size w wx) (((try go_split_ands); (repeat' apply And.intro) <;> first | assumption | exact Blk.keep (by assumption) hbx | exact Blk.drew (by assumption) | exact Blk.drew (Blk.made _ _ _) | exact Below.drew (by assumption) | exact Below.drew (below_allocS (by first | exact Below.refl _ _ | assumption) _) | exact below_callS (by assumption) hbx | exact below_call (by assumption) hbx (Below.size (by assumption)) | exact (hcx _ _ (by assumption)).trans (by assumption) | omega | (simp [*]; done) | (simp; omega))) (first | (go_at_call 126; refine Calls.mono (HC.out _ (by first | assumption | (go_split_ands; assumption))) ?_; rintro e wx2 ⟨rfl, hbx⟩; obtain ⟨hcx, hfx⟩ := bcell hbx; have hsx := hbx.size))
      go_split_ands
      go_wp2
      go_roundw
      case rel => exact ⟨k + 1, by omega, by go_num, by assumption⟩
      case measure => simp [intOf]; omega
    · go_wp2
      go_ret
      exact ⟨rfl, hbl⟩
set_option maxHeartbeats 2000000 in
theorem laws_markLineS {lo hi N : Nat} {A : SA} {rs : List LN} {q : Int} {w : World} (hR : ML TM.ok w lo hi A rs) (hN : cntLn rs = N) (hn : A.n ≤ 1048576) (hq0 : 0 ≤ q) (hq1 : q + N ≤ 1048576) :
    Calls Tryz.prog 76 #[.slice A.a A.n A.c, .int .i64 q] w fun e w' => e = .returned (.int .i64 (q + N)) ∧ Only lo hi w w' ∧ ML TM.ok w' lo hi A (marksL q rs) ∧ KeepS w w' := by
  have HR := Lib.hid (show ML TM.ok w lo hi A ((marksL q rs).take 0 ++ rs.drop 0) by simpa using hR)
  have HL := Lib.hid hR.len
  have HN := Lib.hid hN
  clear hR hN
  obtain ⟨a, n, c⟩ := A
  simp only at HL hn ⊢
  go_enter Tryz.func76, Tryz.ntmps76
  go_wp2_with fail
  go_loopw [1, 5] (fun s1 s5 wr => ∃ (k : Nat) (q2 : Int), k ≤ n ∧ s1 = .int .i64 q2 ∧ s5 = .int .i64 k ∧ 0 ≤ q2 ∧ q2 ≤ q + N ∧ Hid (q2 = q + (cntLn (rs.take k) : Nat)) ∧ Hid (Only lo hi w wr) ∧ Hid (KeepS w wr) ∧ Hid (ML TM.ok wr lo hi ⟨a, n, c⟩ ((marksL q rs).take k ++ rs.drop k))) (fun _ s5 _ => n - (intOf s5).toNat)
  case atStart => exact ⟨0, q, Nat.zero_le _, rfl, rfl, hq0, by omega, by simp [Lib.hid, cntLn], Lib.hid (Only.refl _ _ _), Lib.hid (KeepS.refl _), HR⟩
  case round =>
    obtain ⟨k, q2, hk, rfl, rfl, hq20, hq21, HQ, HO, HK, HM⟩ := hrel
    clear HR
    by_cases hlt : k < n
    · have hlt' : (k : Int) < (n : Int) := by omega
      have hk0 : (0 : Int) ≤ (k : Int) := by omega
      obtain ⟨g, B, x, l, ha, hr, hl, hown, hbd, hmap, hro, hg, hg0, hg1, c0, c1⟩ := HM.out.at hlt
      simp only at ha hown
      subst ha
      have hr2 : rs[k]? = some x := by
        have h1 : ((marksL q rs).take k).length = k := by rw [List.length_take, marksL_len]; have := HL.out; omega
        rw [List.getElem?_append_right (by omega), h1, Nat.sub_self, List.getElem?_drop, Nat.add_zero] at hr
        exact hr
      have hcle := cntL_le hr2
      have hcN := HN.out
      have hq2v := HQ.out
      have hc1 : cntL1 x = 1 + 3 * x.ts.length := rfl
      have htl := hro.t.len
      simp only at htl
      have hq22 : q2 + (1 + 3 * B.n) ≤ q + N := by omega
      have htn : B.n ≤ 1048576 := Nat.le_trans hro.tn (by decide)
      have HX := Lib.hid (show l[k]? = some (B, x) ∧ LOwn TM.ok wr lo (some ⟨g, 0, none⟩) n c l ∧ LBd lo hi (some ⟨g, 0, none⟩) l ∧ l.map (·.2) = (marksL q rs).take k ++ rs.drop k ∧ rs[k]? = some x ∧ x.ts.length = B.n from ⟨hl, hown, hbd, hmap, hr2, htl⟩)
      have hms : (markT q2).size ≤ maxLen := by have := markT_size hq20; unfold maxLen; omega
      obtain ⟨S, hS⟩ : ∃ S, S = markT q2 := ⟨_, rfl⟩
      have hT := fun wx => laws_markText (k := q2) (w := wx) hq20 (by omega)
      rw [← hS] at hms
      simp only [← hS] at hT
      have HS := Lib.hid hS
      have HTX := Lib.hid hT
      clear hr hl hown hbd hmap hro hr2 hcle hcN hq2v hc1 htl hS hT
      go_wp2_with fail
      refine Calls.mono (HTX.out _) ?_
      rintro e w1 ⟨rfl, hb1⟩
      have ho1 := HX.out.2.1.keep hb1
      have hc := ho1.cells HX.out.1
      have hg9 := hc.1
      replace c0 := hc.2.1
      replace c1 := hc.2.2
      have hfz := ho1.row.free
      have HA := Lib.hid (ho1.setNm HX.out.1 S hms)
      have HO1 := Lib.hid (HO.out.then hb1)
      have HK1 := Lib.hid ((HK.out.trans (KeepS.below hb1)).trans (KeepS.grown (set_grownL g (k * 2) (.string S)) (ho1.row.ty9 rfl) (by decide)))
      clear hc ho1 hg hb1
      go_wp2_with fail
      obtain ⟨wB, hwB⟩ : ∃ wB : World, wB = w1.setCell ⟨g, k * 2, none⟩ (.string S) := ⟨_, rfl⟩
      rw [← hwB] at HA HK1 ⊢
      have HO2 := Lib.hid (show Only lo hi w wB by rw [hwB]; exact HO1.out.set ⟨hg0, hg1⟩ _ _)
      have hl2 := set_atL (x := (B, ({ x with nm := S } : LN))) HX.out.1
      have HL2 := Lib.hid hl2
      clear hl2 hwB HO1 c0 c1 hfz hg9
      refine Calls.mono (laws_markTermS (HA.out.each _ (List.mem_of_getElem? HL2.out)).t htn (by omega) (by omega)) ?_
      rintro e w2 ⟨rfl, ht, hg'⟩
      have HB := Lib.hid (HA.out.setT HL2.out ht hg')
      have HO3 := Lib.hid (HO2.out.trans (ht.only ((bd_setL (x := (B, ({ x with nm := S } : LN))) HX.out.1 rfl HX.out.2.2.1).2 _ (List.mem_of_getElem? HL2.out))))
      have HK2 := Lib.hid (HK1.out.trans (KeepS.touch ht (fun e => (HA.out.each _ (List.mem_of_getElem? HL2.out)).t.ty9 e) (by decide)))
      clear ht hg' 
      go_wp2_with fail
      go_roundw
      case rel =>
        refine ⟨k + 1, q2 + 1 + 3 * B.n, by omega, rfl, by go_num, by omega, by omega, ?_, HO3, HK2, ?_⟩
        · obtain ⟨_, _, _, _, h5, h6⟩ := HX.out
          refine Lib.hid ?_
          rw [cntL_take h5, HQ.out, cntL1, h6]; omega
        · obtain ⟨h1, _, h3, h4, h5, h6⟩ := HX.out
          refine Lib.hid ⟨_, HB.out, bd_setL HL2.out rfl (bd_setL h1 rfl h3), ?_⟩
          rw [map_set2L, map_set2L, List.set_set, ← mixL h5 h4, mark1L, ← HQ.out, ← HS.out, h6]
      case measure => simp [intOf]; omega
    · obtain rfl : n = k := by omega
      have hlt' : ¬ (n : Int) < (n : Int) := by omega
      have hv : q2 = q + N := by have h1 := HQ.out; have h2 := HN.out; rw [take_len HL.out, h2] at h1; exact h1
      subst hv
      go_wp2
      go_ret
      refine ⟨rfl, HO.out, ?_, HK.out⟩
      have h1 := HM.out
      rw [List.drop_of_length_le (by have := HL.out; omega), List.append_nil, List.take_of_length_le (by rw [marksL_len]; have := HL.out; omega)] at h1
      exact h1
set_option maxHeartbeats 2000000 in
theorem laws_heldLineS {lo hi N : Nat} {A : SA} {rs : List LN} {q : Int} {w : World} (hR : ML TM.ok w lo hi A (marksL q rs)) (hN : cntLn rs = N) (hn : A.n ≤ 1048576) (hq0 : 0 ≤ q) (hq1 : q + N ≤ 1048576) :
    Calls Tryz.prog 78 #[.slice A.a A.n A.c, .int .i64 q] w fun e w' => e = .returned (.int .i64 (q + N)) ∧ Below w.heap.size w w' := by
  have HR := Lib.hid hR
  have HL := Lib.hid (show rs.length = A.n by rw [← hR.len, marksL_len])
  have HN := Lib.hid hN
  clear hR hN
  obtain ⟨a, n, c⟩ := A
  simp only at HL hn ⊢
  go_enter Tryz.func78, Tryz.ntmps78
  go_wp2_with fail
  go_loopw [1, 5] (fun s1 s5 wr => ∃ (k : Nat) (q2 : Int), k ≤ n ∧ s1 = .int .i64 q2 ∧ s5 = .int .i64 k ∧ 0 ≤ q2 ∧ q2 ≤ q + N ∧ Hid (q2 = q + (cntLn (rs.take k) : Nat)) ∧ Below w.heap.size w wr) (fun _ s5 _ => n - (intOf s5).toNat)
  case atStart => exact ⟨0, q, Nat.zero_le _, rfl, rfl, hq0, by omega, by simp [Lib.hid, cntLn], Below.refl _ _⟩
  case round =>
    obtain ⟨k, q2, hk, rfl, rfl, hq20, hq21, HQ, hbl⟩ := hrel
    by_cases hlt : k < n
    · have hlt' : (k : Int) < (n : Int) := by omega
      have hk0 : (0 : Int) ≤ (k : Int) := by omega
      have hk9 : k < rs.length := by have := HL.out; omega
      obtain ⟨r0, hr0⟩ : ∃ r0, rs[k]? = some r0 := ⟨_, List.getElem?_eq_getElem hk9⟩
      obtain ⟨g, B, x, l, ha, hr, hl, hown, hbd, hmap, hro, hg, hg0, hg1, c0, c1⟩ := (HR.out.keep hbl).at hlt
      simp only at ha
      subst ha
      have hr2 : x = mark1L q2 r0 := by rw [marksL_get hr0, ← HQ.out] at hr; simpa using hr.symm
      have hcle := cntL_le hr0
      have hcN := HN.out
      have hq2v := HQ.out
      have hc1 : cntL1 r0 = 1 + 3 * r0.ts.length := rfl
      subst hr2
      have htl := hro.t.len
      simp [mark1L, marksM] at htl
      have hq22 : q2 + (1 + 3 * B.n) ≤ q + N := by omega
      have htn : B.n ≤ 1048576 := Nat.le_trans hro.tn (by decide)
      have hft := hro.t.flats
      simp only [mark1L, htl] at hft
      have HFT := Lib.hid hft
      have HX := Lib.hid (show rs[k]? = some r0 ∧ r0.ts.length = B.n from ⟨hr0, htl⟩)
      obtain ⟨S, hS⟩ : ∃ S, S = markT q2 := ⟨_, rfl⟩
      have hT := fun wx => laws_markText (k := q2) (w := wx) hq20 (by omega)
      simp only [← hS] at hT
      have HTX := Lib.hid hT
      simp only [mark1L, ← hS] at c0
      have hss : (S.toList != S.toList) = false := by simp
      clear hr hl hown hbd hmap hro hr0 hcle hcN hq2v hc1 htl hS hT hft
      have g1 : ¬ q2 + 1 + 3 * (B.n : Int) < 0 := by omega
      go_wp2_with fail
      go_region_held3 (fun wx => wx.cell? ⟨g, k * 2, none⟩ = some (.string S) ∧ wx.cell? ⟨g, k * 2 + 1, none⟩ = some (.slice B.a B.n B.c) ∧ g < wx.heap.size ∧ Below w.heap.size w wx ∧ Below wr.heap.size wr wx) (((try go_split_ands); (repeat' apply And.intro) <;> first | assumption | exact Below.drew (Below.refl _ _) | exact Blk.keep (by assumption) hbx | exact Blk.drew (by assumption) | exact Blk.drew (Blk.made _ _ _) | exact Below.drew (by assumption) | exact Below.drew (below_allocS (by first | exact Below.refl _ _ | assumption) _) | exact below_callS (by assumption) hbx | exact below_call (by assumption) hbx (Below.size (by assumption)) | exact (hcx _ _ (by assumption)).trans (by assumption) | omega | (simp [*]; done) | (simp; omega))) (first | (go_at_call 127; refine Calls.mono (HTX.out _) ?_; rintro e wx2 ⟨rfl, hbx⟩; obtain ⟨hcx, hfx⟩ := bcell hbx; have hsx := hbx.size))
      go_split_ands
      rename_i wy _ _ _ hbw hbr
      go_wp2_with fail
      refine Calls.mono (laws_heldTermS (HFT.out.keep hbr) htn (by omega) (by omega)) ?_
      rintro e w2 ⟨rfl, hb2⟩
      have hbw2 := below_callS hbw hb2
      clear hb2
      go_wp2_with fail
      go_roundw
      case rel =>
        refine ⟨k + 1, q2 + 1 + 3 * B.n, by omega, rfl, by go_num, by omega, by omega, ?_, hbw2⟩
        obtain ⟨h5, h6⟩ := HX.out
        refine Lib.hid ?_
        rw [cntL_take h5, HQ.out, cntL1, h6]; omega
      case measure => simp [intOf]; omega
    · obtain rfl : n = k := by omega
      have hlt' : ¬ (n : Int) < (n : Int) := by omega
      have hv : q2 = q + N := by have h1 := HQ.out; have h2 := HN.out; rw [take_len HL.out, h2] at h1; exact h1
      subst hv
      go_wp2
      go_ret
      exact ⟨rfl, hbl⟩
/-- where a program's parts lie -/
structure PgA where
  i : SA
  v : SA
  o : SA
  l : SA
def PgA.no : PgA := ⟨SA.no, SA.no, SA.no, SA.no⟩
def pgCs (A : PgA) (g : PG) : Array Value := #[.string g.nm, .slice A.i.a A.i.n A.i.c, .slice A.v.a A.v.n A.v.c, .slice A.o.a A.o.n A.o.c, .string g.g, .slice A.l.a A.l.n A.l.c]
/-- a program that is read -/
structure PgRd (w : World) (A : PgA) (p : PG) : Prop where
  i : FS w A.i.a A.i.n A.i.c p.i
  v : FS w A.v.a A.v.n A.v.c p.v
  o : FS w A.o.a A.o.n A.o.c p.o
  l : ∃ l, FL TM.ok w w A.l.a A.l.n A.l.c l ∧ l.map (·.2) = p.l
  iz : A.i.n ≤ 1048576
  vz : A.v.n ≤ 1048576
  oz : A.o.n ≤ 1048576
  lz : A.l.n ≤ 1048576
/-- a program of the call's own -/
structure PgOwn (ok : TM → Prop) (w : World) (lo hi : Nat) (A : PgA) (p : PG) : Prop where
  i : OwnSt w lo A.i.a A.i.n A.i.c p.i
  v : OwnSt w lo A.v.a A.v.n A.v.c p.v
  o : OwnSt w lo A.o.a A.o.n A.o.c p.o
  l : ML ok w lo hi A.l p.l
  iv : Apart A.i.a A.v.a
  io : Apart A.i.a A.o.a
  vo : Apart A.v.a A.o.a
  bi : inL lo hi A.i.a
  bv : inL lo hi A.v.a
  bo : inL lo hi A.o.a
  iz : A.i.n ≤ 1048576
  vz : A.v.n ≤ 1048576
  oz : A.o.n ≤ 1048576
  lz : A.l.n ≤ 1048576
section
variable {ok : TM → Prop} {w w' : World} {lo hi : Nat} {A : PgA} {p : PG}
theorem PgRd.keep (h : PgRd w A p) (hb : Below w.heap.size w w') : PgRd w' A p := by
  obtain ⟨l, h1, h2⟩ := h.l
  exact ⟨h.i.keep hb, h.v.keep hb, h.o.keep hb, ⟨l, h1.keep2 hb, h2⟩, h.iz, h.vz, h.oz, h.lz⟩
theorem PgOwn.rd (h : PgOwn TM.ok w lo hi A p) : PgRd w A p := ⟨h.i.flats, h.v.flats, h.o.flats, h.l.fl, h.iz, h.vz, h.oz, h.lz⟩
theorem PgOwn.keep (h : PgOwn ok w lo hi A p) (hb : Below w.heap.size w w') : PgOwn ok w' lo hi A p := ⟨h.i.keep hb, h.v.keep hb, h.o.keep hb, h.l.keep hb, h.iv, h.io, h.vo, h.bi, h.bv, h.bo, h.iz, h.vz, h.oz, h.lz⟩
theorem PgOwn.here (w1 w2 : World) (hk : ∀ k, lo ≤ k → k < hi → w2.heap[k]? = w1.heap[k]?) (h : PgOwn ok w1 lo hi A p) : PgOwn ok w2 lo hi A p :=
  ⟨OwnF.here h.bi w1 w2 hk h.i, OwnF.here h.bv w1 w2 hk h.v, OwnF.here h.bo w1 w2 hk h.o, ML.here w1 w2 hk h.l, h.iv, h.io, h.vo, h.bi, h.bv, h.bo, h.iz, h.vz, h.oz, h.lz⟩
theorem PgOwn.own (h : PgOwn ok w lo hi A p) (hh : hi ≤ w.heap.size) : Own (fun w => PgOwn ok w lo hi A p) lo hi w := ⟨h, hh, PgOwn.here⟩
theorem PgOwn.strong {ok' : TM → Prop} (h : PgOwn ok w lo hi A p) (hk : ∀ x ∈ p.l, ∀ t ∈ x.ts, ok' t) : PgOwn ok' w lo hi A p := ⟨h.i, h.v, h.o, h.l.strong hk, h.iv, h.io, h.vo, h.bi, h.bv, h.bo, h.iz, h.vz, h.oz, h.lz⟩
end
set_option maxHeartbeats 2000000 in
theorem laws_eqProgram {A A' : PgA} {p : PG} {w : World} (h : PgRd w A p) (h' : PgRd w A' p) :
    Calls Tryz.prog 27 #[.agg #[.string p.nm, .slice A.i.a A.i.n A.i.c, .slice A.v.a A.v.n A.v.c, .slice A.o.a A.o.n A.o.c, .string p.g, .slice A.l.a A.l.n A.l.c], .agg #[.string p.nm, .slice A'.i.a A'.i.n A'.i.c, .slice A'.v.a A'.v.n A'.v.c, .slice A'.o.a A'.o.n A'.o.c, .string p.g, .slice A'.l.a A'.l.n A'.l.c]] w fun e w' => e = .returned (.bool true) ∧ Below w.heap.size w w' := by
  obtain ⟨l, hl, hlr⟩ := h.l
  obtain ⟨l', hl', hlr'⟩ := h'.l
  have K1 := Lib.hid (fun (wx : World) (hb : Below w.heap.size w wx) => laws_eqStringS (h.i.keep hb) (h'.i.keep hb) h.iz)
  have K2 := Lib.hid (fun (wx : World) (hb : Below w.heap.size w wx) => laws_eqStringS (h.v.keep hb) (h'.v.keep hb) h.vz)
  have K3 := Lib.hid (fun (wx : World) (hb : Below w.heap.size w wx) => laws_eqStringS (h.o.keep hb) (h'.o.keep hb) h.oz)
  have K4 := Lib.hid (fun (wx : World) (hb : Below w.heap.size w wx) => laws_eqLineS (hl.keep2 hb) (hl'.keep2 hb) (hlr.trans hlr'.symm) h.lz)
  have q1 : (p.nm.toList != p.nm.toList) = false := by simp
  have q2 : (p.g.toList != p.g.toList) = false := by simp
  clear h h' hl hl' hlr hlr'
  go_enter Tryz.func27, Tryz.ntmps27
  go_wp2_with fail
  refine Calls.mono (K1.out _ bel) ?_
  rintro e w1 ⟨rfl, hb_w1⟩
  obtain ⟨hc_w1, hf_w1⟩ := bcell hb_w1
  have hs_w1 := hb_w1.size
  simp at hs_w1
  have hz1 : w.heap.size < w1.heap.size := by omega
  have hz2 : w.heap.size + 1 < w1.heap.size := by omega
  go_wp2_with fail
  refine Calls.mono (K2.out _ bel) ?_
  rintro e w2 ⟨rfl, hb_w2⟩
  obtain ⟨hc_w2, hf_w2⟩ := bcell hb_w2
  have hs_w2 := hb_w2.size
  have hz3 : w.heap.size < w2.heap.size := by omega
  have hz4 : w.heap.size + 1 < w2.heap.size := by omega
  go_wp2_with fail
  refine Calls.mono (K3.out _ bel) ?_
  rintro e w3 ⟨rfl, hb_w3⟩
  obtain ⟨hc_w3, hf_w3⟩ := bcell hb_w3
  have hs_w3 := hb_w3.size
  have hz5 : w.heap.size < w3.heap.size := by omega
  have hz6 : w.heap.size + 1 < w3.heap.size := by omega
  go_wp2_with fail
  refine Calls.mono (K4.out _ bel) ?_
  rintro e w4 ⟨rfl, hb_w4⟩
  obtain ⟨hc_w4, hf_w4⟩ := bcell hb_w4
  have hs_w4 := hb_w4.size
  go_wp2
  go_ret
  exact ⟨rfl, bel⟩
set_option maxHeartbeats 2000000 in
theorem laws_markProgram {lo hi N : Nat} {A : PgA} {p : PG} {q : Int} {w : World} (h : PgOwn TM.ok w lo hi A p) (hN : cntLn p.l = N) (hq0 : 0 ≤ q) (hq1 : q + A.i.n + A.v.n + A.o.n + N ≤ 1048576) (hhi : hi ≤ w.heap.size) :
    Calls Tryz.prog 28 #[.agg #[.string p.nm, .slice A.i.a A.i.n A.i.c, .slice A.v.a A.v.n A.v.c, .slice A.o.a A.o.n A.o.c, .string p.g, .slice A.l.a A.l.n A.l.c], .int .i64 q] w fun e w' => e = .returned (.int .i64 (q + A.i.n + A.v.n + A.o.n + N)) ∧ Only lo hi w w' ∧ PgOwn TM.ok w' lo hi A ⟨p.nm, marksS q A.i.n, marksS (q + A.i.n) A.v.n, marksS (q + A.i.n + A.v.n) A.o.n, p.g, marksL (q + A.i.n + A.v.n + A.o.n) p.l⟩ := by
  have HM := Lib.hid h
  have hin := h.iz
  have hvn := h.vz
  have hon := h.oz
  have hln := h.lz
  clear h
  obtain ⟨⟨ia, im, ic⟩, ⟨va, vn, vc⟩, ⟨oa, om, oc⟩, ⟨la, ln, lc⟩⟩ := A
  obtain ⟨nm, pi, pv, po, pg, pl⟩ := p
  simp only at hin hvn hon hln hq1 hN ⊢
  go_enter Tryz.func28, Tryz.ntmps28
  go_wp2_with fail
  obtain ⟨wA, hwA⟩ : ∃ wA : World, wA = w.alloc (.cells #[.string nm, .slice ia im ic, .slice va vn vc, .slice oa om oc, .string pg, .slice la ln lc] 27) := ⟨_, rfl⟩
  have X := Lib.hid (show Blk wA w.heap.size #[.string nm, .slice ia im ic, .slice va vn vc, .slice oa om oc, .string pg, .slice la ln lc] 27 by rw [hwA]; exact Blk.made _ _ _)
  have hbA : Below w.heap.size w wA := by rw [hwA]; exact bel
  rw [← hwA]
  clear hwA
  have hA := HM.out.keep hbA
  have I0 := hA.i
  have V0 := hA.v
  have O0 := hA.o
  have L0 := hA.l
  simp only at I0 V0 O0 L0
  have HO := Lib.hid (Only.of_below (lo := lo) (hi := hi) hbA)
  have BI := Lib.hid (show inL lo hi ia from HM.out.bi)
  have BV := Lib.hid (show inL lo hi va from HM.out.bv)
  have BO := Lib.hid (show inL lo hi oa from HM.out.bo)
  have A1 := Lib.hid (show Apart ia va from HM.out.iv)
  have A2 := Lib.hid (show Apart ia oa from HM.out.io)
  have A3 := Lib.hid (show Apart va oa from HM.out.vo)
  clear hA HM
  refine Calls.mono (laws_markStringS I0 hin hq0 (by omega)) ?_
  rintro e w1 ⟨rfl, ht, ho⟩
  have I1 := Lib.hid ho
  have V1 := Lib.hid (V0.keepT ht A1.out.symm)
  have O1 := Lib.hid (O0.keepT ht A2.out.symm)
  have L1 := Lib.hid (L0.keepT (fun e => I0.ty9 e) ht rfl)
  have ho1 := ht.only BI.out
  replace X := Lib.hid (X.out.apart ho1 (.inr hhi))
  replace HO := Lib.hid (HO.out.trans ho1)
  have xl := X.out.lt
  have x0 := X.out.cell 0
  have x1 := X.out.cell 1
  have x2 := X.out.cell 2
  have x3 := X.out.cell 3
  have x4 := X.out.cell 4
  have x5 := X.out.cell 5
  simp at x0 x1 x2 x3 x4 x5
  clear ht ho ho1 I0 V0 O0 L0 hbA
  go_wp2_with fail
  refine Calls.mono (laws_markStringS V1.out hvn (by omega) (by omega)) ?_
  rintro e w2 ⟨rfl, ht, ho⟩
  have V2 := Lib.hid ho
  have I2 := Lib.hid (I1.out.keepT ht A1.out)
  have O2 := Lib.hid (O1.out.keepT ht A3.out.symm)
  have L2 := Lib.hid (L1.out.keepT (fun e => V1.out.ty9 e) ht rfl)
  have ho1 := ht.only BV.out
  replace X := Lib.hid (X.out.apart ho1 (.inr hhi))
  replace HO := Lib.hid (HO.out.trans ho1)
  clear xl x0 x1 x2 x3 x4 x5
  have xl := X.out.lt
  have x0 := X.out.cell 0
  have x1 := X.out.cell 1
  have x2 := X.out.cell 2
  have x3 := X.out.cell 3
  have x4 := X.out.cell 4
  have x5 := X.out.cell 5
  simp at x0 x1 x2 x3 x4 x5
  clear ht ho ho1 I1 V1 O1 L1
  go_wp2_with fail
  refine Calls.mono (laws_markStringS O2.out hon (by omega) (by omega)) ?_
  rintro e w3 ⟨rfl, ht, ho⟩
  have O3 := Lib.hid ho
  have I3 := Lib.hid (I2.out.keepT ht A2.out)
  have V3 := Lib.hid (V2.out.keepT ht A3.out)
  have L3 := Lib.hid (L2.out.keepT (fun e => O2.out.ty9 e) ht rfl)
  have ho1 := ht.only BO.out
  replace X := Lib.hid (X.out.apart ho1 (.inr hhi))
  replace HO := Lib.hid (HO.out.trans ho1)
  clear xl x0 x1 x2 x3 x4 x5
  have xl := X.out.lt
  have x0 := X.out.cell 0
  have x1 := X.out.cell 1
  have x2 := X.out.cell 2
  have x3 := X.out.cell 3
  have x4 := X.out.cell 4
  have x5 := X.out.cell 5
  simp at x0 x1 x2 x3 x4 x5
  clear ht ho ho1 I2 V2 O2 L2
  go_wp2_with fail
  have K4 := laws_markLineS (A := ⟨la, ln, lc⟩) (q := q + (im : Int) + vn + om) L3.out hN hln (by omega) (by omega)
  simp only at K4
  refine Calls.mono K4 ?_
  rintro e w4 ⟨rfl, ho1, hr, hk⟩
  have I4 := Lib.hid (OwnSt.keepK I3.out hk)
  have V4 := Lib.hid (OwnSt.keepK V3.out hk)
  have O4 := Lib.hid (OwnSt.keepK O3.out hk)
  have L4 := Lib.hid hr
  replace HO := Lib.hid (HO.out.trans ho1)
  clear xl x0 x1 x2 x3 x4 x5 ho1 hr hk
  go_wp2
  go_ret
  exact ⟨rfl, HO.out, I4.out, V4.out, O4.out, L4.out, A1.out, A2.out, A3.out, BI.out, BV.out, BO.out, hin, hvn, hon, hln⟩
set_option maxHeartbeats 2000000 in
theorem laws_heldProgram {lo hi N : Nat} {A : PgA} {p : PG} {q : Int} {w : World} (h : PgOwn TM.ok w lo hi A ⟨p.nm, marksS q A.i.n, marksS (q + A.i.n) A.v.n, marksS (q + A.i.n + A.v.n) A.o.n, p.g, marksL (q + A.i.n + A.v.n + A.o.n) p.l⟩) (hN : cntLn p.l = N) (hq0 : 0 ≤ q) (hq1 : q + A.i.n + A.v.n + A.o.n + N ≤ 1048576) :
    Calls Tryz.prog 29 #[.agg #[.string p.nm, .slice A.i.a A.i.n A.i.c, .slice A.v.a A.v.n A.v.c, .slice A.o.a A.o.n A.o.c, .string p.g, .slice A.l.a A.l.n A.l.c], .int .i64 q] w fun e w' => e = .returned (.int .i64 (q + A.i.n + A.v.n + A.o.n + N)) ∧ Below w.heap.size w w' := by
  have hin := h.iz
  have hvn := h.vz
  have hon := h.oz
  have hln := h.lz
  have K1 := Lib.hid (fun (wx : World) (hb : Below w.heap.size w wx) => laws_heldStringS (q := q) (h.i.flats.keep hb) hin hq0 (by omega))
  have K2 := Lib.hid (fun (wx : World) (hb : Below w.heap.size w wx) => laws_heldStringS (q := q + A.i.n) (h.v.flats.keep hb) hvn (by omega) (by omega))
  have K3 := Lib.hid (fun (wx : World) (hb : Below w.heap.size w wx) => laws_heldStringS (q := q + A.i.n + A.v.n) (h.o.flats.keep hb) hon (by omega) (by omega))
  have K4 := Lib.hid (fun (wx : World) (hb : Below w.heap.size w wx) => laws_heldLineS (q := q + A.i.n + A.v.n + A.o.n) (h.l.keep hb) hN hln (by omega) (by omega))
  clear h
  have g1 : ¬ q + (A.i.n : Int) < 0 := by omega
  have g2 : ¬ q + (A.i.n : Int) + A.v.n < 0 := by omega
  have g3 : ¬ q + (A.i.n : Int) + A.v.n + A.o.n < 0 := by omega
  have g4 : ¬ q + (A.i.n : Int) + A.v.n + A.o.n + N < 0 := by omega
  go_enter Tryz.func29, Tryz.ntmps29
  go_wp2_with fail
  refine Calls.mono (K1.out _ bel) ?_
  rintro e w1 ⟨rfl, hb_w1⟩
  obtain ⟨hc_w1, hf_w1⟩ := bcell hb_w1
  have hs_w1 := hb_w1.size
  simp at hs_w1
  have hz1 : w.heap.size < w1.heap.size := by omega
  go_wp2_with fail
  refine Calls.mono (K2.out _ bel) ?_
  rintro e w2 ⟨rfl, hb_w2⟩
  obtain ⟨hc_w2, hf_w2⟩ := bcell hb_w2
  have hs_w2 := hb_w2.size
  have hz2 : w.heap.size < w2.heap.size := by omega
  go_wp2_with fail
  refine Calls.mono (K3.out _ bel) ?_
  rintro e w3 ⟨rfl, hb_w3⟩
  obtain ⟨hc_w3, hf_w3⟩ := bcell hb_w3
  have hs_w3 := hb_w3.size
  have hz3 : w.heap.size < w3.heap.size := by omega
  go_wp2_with fail
  refine Calls.mono (K4.out _ bel) ?_
  rintro e w4 ⟨rfl, hb_w4⟩
  obtain ⟨hc_w4, hf_w4⟩ := bcell hb_w4
  have hs_w4 := hb_w4.size
  go_wp2
  go_ret
  exact ⟨rfl, bel⟩
end Go.Proofs.YtjneodmohkpckaaGreatDoor
