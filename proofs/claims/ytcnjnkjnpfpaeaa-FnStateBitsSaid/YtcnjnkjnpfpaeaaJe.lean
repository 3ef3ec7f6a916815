/- Rules and models of the exact laws: sizes.; Rules and models of the exact laws: sizes of lists of rules.; Rules and models of the exact laws: comparisons.; Rules and models of the exact laws: the size of a model.; Rules and models of the exact laws: copies.; Rules of the call's own: blocks apart, and what a write in one of them leaves.; Rules of the exact laws: the copy of a list of rules. -/
import Derived.Test.YtcnjnkjnpfpaeaaFl
import Derived.Test.YtcnjnkjnpfpaeaaL20h
import Derived.Test.YtcnjnkjnpfpaeaaOw
namespace Go.Proofs.Ytcnjnkjnpfpaeaa
open Go.RowKit
set_option linter.unusedVariables false
set_option linter.unusedSimpArgs false
def szN (m : Int) (x : Nat) : Int := if m < (x : Int) then -1 else m - x
theorem szN_lt {m : Int} {x : Nat} (h : m < (x : Int)) : szN m x = -1 := if_pos h
theorem szN_ge {m : Int} {x : Nat} (h : ¬ m < (x : Int)) : szN m x = m - x := if_neg h
/-- a rule in memory reads as a rule, of any size -/
def RuX (w0 : World) (x : RM × RuD) : Prop := x.1.nm = x.2.nm ∧ x.2.nm.size ≤ maxLen ∧ F2b w0 x.1.ga x.1.gn x.1.gc x.2.g ∧ x.1.gn ≤ maxLen ∧ F2 w0 x.1.ea x.1.en x.1.ec x.2.e ∧ x.1.en ≤ maxLen
abbrev FX (w0 : World) := Flats 3 encR (RuX w0)
theorem FX.get {w0 w : World} {a : Option Addr} {n c : Nat} {l : List (RM × RuD)} (h : FX w0 w a n c l) {i : Nat} (hi : i < n) :
    ∃ b off R r, a = some ⟨b, off, none⟩ ∧ b < w.heap.size ∧ l[i]? = some (R, r) ∧ RuX w0 (R, r) ∧ w.cell? ⟨b, off + i * 3, none⟩ = some (.string R.nm) ∧ w.cell? ⟨b, off + i * 3 + 1, none⟩ = some (.slice R.ga R.gn R.gc) ∧ w.cell? ⟨b, off + i * 3 + 2, none⟩ = some (.slice R.ea R.en R.ec) := by
  obtain ⟨b, off, x, h1, h2, h3, h4, h5⟩ := h.at hi
  exact ⟨b, off, x.1, x.2, h1, h2, h3, h4, h5 0 _ rfl, h5 1 _ rfl, h5 2 _ rfl⟩
def need1 (x : RM × RuD) : Nat := x.1.nm.size + x.1.gn + x.1.en
def need (l : List (RM × RuD)) : Nat := (l.map need1).sum
theorem need_take {l : List (RM × RuD)} {k : Nat} {x : RM × RuD} (h : l[k]? = some x) : need (l.take (k + 1)) = need (l.take k) + need1 x := by
  rw [need, take_at h, List.map_append, List.sum_append]; simp [need]
theorem need_le {l : List (RM × RuD)} {k : Nat} {x : RM × RuD} (h : l[k]? = some x) : need (l.take k) + need1 x ≤ need l := by
  rw [← need_take h]
  have : need l = need (l.take (k + 1)) + need (l.drop (k + 1)) := by
    rw [need, need, need, ← List.sum_append, ← List.map_append, List.take_append_drop]
  omega
theorem RuM.keep {w0 w : World} {x : RM × RuD} (h : RuM w0 x) (hb : Below w0.heap.size w0 w) : RuM w x := by
  obtain ⟨q1, q2, q3, q4, q5, q6⟩ := h
  exact ⟨q1, q2, q3.keep hb, q4, q5.keep hb, q6⟩


theorem OwnF.typ {α : Type} {k : Nat} {enc : α → List Value} {ok : α → Prop} {E : TypeId} {w : World} {base : Nat} {a : Option Addr} {n c : Nat} {l : List α} (h : OwnF k enc ok E w base a n c l) {g : Nat} (e : a = some ⟨g, 0, none⟩) : ∃ cur, w.heap[g]? = some (.cells cur E (0, 0)) := by
  subst e
  rcases h.1.2 with ⟨he, _⟩ | ⟨g', cap, cur, he, hb, hg, _⟩
  · simp only [Value.slice.injEq] at he; cases he.1
  · simp only [Value.slice.injEq, Option.some.injEq, Addr.mk.injEq] at he
    obtain ⟨⟨rfl, _⟩, _⟩ := he
    exact ⟨cur, hg⟩
theorem OwnI.typ {E : TypeId} {w : World} {base : Nat} {a : Option Addr} {n c : Nat} {l : List Int} (h : OwnI E w base a n c l) {g : Nat} (e : a = some ⟨g, 0, none⟩) : ∃ cur, w.heap[g]? = some (.cells cur E (0, 0)) := by
  subst e
  rcases h.1.2 with ⟨he, _⟩ | ⟨g', cap, cur, he, hb, hg, _⟩
  · simp only [Value.slice.injEq] at he; cases he.1
  · simp only [Value.slice.injEq, Option.some.injEq, Addr.mk.injEq] at he
    obtain ⟨⟨rfl, _⟩, _⟩ := he
    exact ⟨cur, hg⟩
theorem typ_apart {w : World} {a a' : Option Addr} {E E' : TypeId} (h : ∀ {g : Nat}, a = some ⟨g, 0, none⟩ → ∃ cur, w.heap[g]? = some (.cells cur E (0, 0))) (h' : ∀ {g : Nat}, a' = some ⟨g, 0, none⟩ → ∃ cur, w.heap[g]? = some (.cells cur E' (0, 0))) (hE : E ≠ E') : Apart a a' := fun g e e' => by
  obtain ⟨c1, h1⟩ := h e
  obtain ⟨c2, h2⟩ := h' e'
  rw [h1] at h2
  simp at h2
  exact hE h2.2
theorem flat_set31 {α : Type} {enc : α → List Value} (hk : ∀ x, (enc x).length = 3) {l : List α} {i : Nat} {x y : α} {u0 v0 v1 v2 : Value} (hy : l[i]? = some y) (he : enc y = [u0, v1, v2]) (hx : enc x = [v0, v1, v2]) :
    (l.flatMap enc).set (i * 3) v0 = (l.set i x).flatMap enc := by
  have hi : i < l.length := (List.getElem?_eq_some_iff.1 hy).1
  obtain ⟨h1, h2, h3⟩ := flat_set hk hi x y hy
  rw [h1, h2, he, hx, List.set_append_right _ _ (by omega), h3]; simp
theorem OwnF.set31 {α : Type} {enc : α → List Value} {ok : α → Prop} {E : TypeId} {w : World} {base g : Nat} {n c : Nat} {l : List α} (h : OwnF 3 enc ok E w base (some ⟨g, 0, none⟩) n c l) {i : Nat} {x y : α} {u0 v0 v1 v2 : Value} (hy : l[i]? = some y) (he : enc y = [u0, v1, v2]) (hx : enc x = [v0, v1, v2]) (hok : ok x) :
    OwnF 3 enc ok E (w.setCell ⟨g, i * 3, none⟩ v0) base (some ⟨g, 0, none⟩) n c (l.set i x) := by
  obtain ⟨h1, h2, h3, h4⟩ := h
  refine ⟨?_, fun z hz => ?_, by simpa using h3, h4⟩
  · rw [← flat_set31 h4 hy he hx]
    exact (h1.stored (i * 3) v0).1
  · rcases List.mem_or_eq_of_mem_set hz with h1 | h1
    · exact h2 z h1
    · rw [h1]; exact hok
abbrev OwnT := OwnF 3 I2b.enc I2b.ok 74
abbrev OwnA := OwnF 2 I2.enc I2.ok 76
/-- a rule whose parts are the call's own -/
structure RO (w : World) (lo : Nat) (x : RM × RuD) : Prop where
  nm : x.1.nm = x.2.nm
  nms : x.2.nm.size ≤ maxLen
  g : OwnT w lo x.1.ga x.1.gn x.1.gc x.2.g
  gn : x.1.gn ≤ 1048576
  e : OwnA w lo x.1.ea x.1.en x.1.ec x.2.e
  en : x.1.en ≤ 1048576
/-- a slice of rules that is the call's own -/
structure ROwn (w : World) (lo : Nat) (a : Option Addr) (n c : Nat) (l : List (RM × RuD)) : Prop where
  row : OwnF 3 encR (fun _ => True) 64 w lo a n c l
  each : ∀ x ∈ l, RO w lo x
  apart : ∀ (i j : Nat) (x y : RM × RuD), l[i]? = some x → l[j]? = some y → i ≠ j → Apart x.1.ga y.1.ga ∧ Apart x.1.ea y.1.ea
theorem RO.rum {w : World} {lo : Nat} {x : RM × RuD} (h : RO w lo x) : RuM w x := ⟨h.nm, h.nms, h.g.flats, h.gn, h.e.flats, h.en⟩
theorem ROwn.fr {w : World} {lo : Nat} {a : Option Addr} {n c : Nat} {l : List (RM × RuD)} (h : ROwn w lo a n c l) : FR w w a n c l := by
  have hf := h.row.flats
  exact ⟨hf.len, hf.cap, hf.pos, fun x hx => (h.each x hx).rum, hf.nil⟩
theorem RO.keep {w w' : World} {lo : Nat} {x : RM × RuD} (h : RO w lo x) (hb : Below w.heap.size w w') : RO w' lo x := ⟨h.nm, h.nms, h.g.keep hb, h.gn, h.e.keep hb, h.en⟩
theorem ROwn.keep {w w' : World} {lo : Nat} {a : Option Addr} {n c : Nat} {l : List (RM × RuD)} (h : ROwn w lo a n c l) (hb : Below w.heap.size w w') : ROwn w' lo a n c l :=
  ⟨h.row.keep hb, fun x hx => (h.each x hx).keep hb, h.apart⟩
theorem RO.le {w : World} {lo lo' : Nat} {x : RM × RuD} (h : RO w lo x) (hl : lo' ≤ lo) : RO w lo' x := ⟨h.nm, h.nms, h.g.le hl, h.gn, h.e.le hl, h.en⟩
theorem ROwn.le {w : World} {lo lo' : Nat} {a : Option Addr} {n c : Nat} {l : List (RM × RuD)} (h : ROwn w lo a n c l) (hl : lo' ≤ lo) : ROwn w lo' a n c l :=
  ⟨h.row.le hl, fun x hx => (h.each x hx).le hl, h.apart⟩
/-- all blocks of a slice of rules lie from lo on below hi -/
def inI (lo hi : Nat) (a : Option Addr) : Prop := ∀ g, a = some ⟨g, 0, none⟩ → lo ≤ g ∧ g < hi
def RBd (lo hi : Nat) (a : Option Addr) (l : List (RM × RuD)) : Prop := inI lo hi a ∧ ∀ x ∈ l, inI lo hi x.1.ga ∧ inI lo hi x.1.ea
theorem ROwn.bd {w : World} {lo : Nat} {a : Option Addr} {n c : Nat} {l : List (RM × RuD)} (h : ROwn w lo a n c l) : RBd lo w.heap.size a l :=
  ⟨h.row.blk, fun x hx => ⟨(h.each x hx).g.blk, (h.each x hx).e.blk⟩⟩
theorem ROwn.here {lo lo' hi : Nat} {a : Option Addr} {n c : Nat} {l : List (RM × RuD)} (bd : RBd lo' hi a l) (w1 w2 : World) (hk : ∀ k, lo' ≤ k → k < hi → w2.heap[k]? = w1.heap[k]?) (h : ROwn w1 lo a n c l) : ROwn w2 lo a n c l :=
  ⟨OwnF.here bd.1 w1 w2 hk h.row, fun x hx => by
    have hh := h.each x hx
    exact ⟨hh.nm, hh.nms, OwnF.here (bd.2 x hx).1 w1 w2 hk hh.g, hh.gn, OwnF.here (bd.2 x hx).2 w1 w2 hk hh.e, hh.en⟩, h.apart⟩
theorem ROwn.own {w : World} {lo : Nat} {a : Option Addr} {n c : Nat} {l : List (RM × RuD)} (h : ROwn w lo a n c l) : Own (fun w => ROwn w lo a n c l) lo w.heap.size w := ⟨h, Nat.le_refl _, ROwn.here h.bd⟩
theorem encR_len (x : RM × RuD) : (encR x).length = 3 := rfl
theorem get_set {α : Type} {l : List α} {i j : Nat} {x y : α} (h : (l.set i x)[j]? = some y) : (j = i ∧ y = x) ∨ (j ≠ i ∧ l[j]? = some y) := by
  rw [List.getElem?_set] at h
  split at h
  · split at h
    · rename_i e _
      exact .inl ⟨e.symm, by simpa using h.symm⟩
    · cases h
  · rename_i e
    exact .inr ⟨fun e' => e e'.symm, h⟩
/-- the blocks of a row of rules stay apart where a rule changes in what it means alone -/
theorem apart_set {l : List (RM × RuD)} {i : Nat} {x y : RM × RuD} (hy : l[i]? = some y) (hg : x.1.ga = y.1.ga) (he : x.1.ea = y.1.ea)
    (h : ∀ (i j : Nat) (x y : RM × RuD), l[i]? = some x → l[j]? = some y → i ≠ j → Apart x.1.ga y.1.ga ∧ Apart x.1.ea y.1.ea) :
    ∀ (i' j : Nat) (x' y' : RM × RuD), (l.set i x)[i']? = some x' → (l.set i x)[j]? = some y' → i' ≠ j → Apart x'.1.ga y'.1.ga ∧ Apart x'.1.ea y'.1.ea := by
  intro i' j x' y' h1 h2 hij
  rcases get_set h1 with ⟨rfl, rfl⟩ | ⟨e1, k1⟩ <;> rcases get_set h2 with ⟨rfl, rfl⟩ | ⟨e2, k2⟩
  · exact absurd rfl hij
  · rw [hg, he]; exact h _ _ _ _ hy k2 hij
  · rw [hg, he]; exact h _ _ _ _ k1 hy hij
  · exact h _ _ _ _ k1 k2 hij
theorem bd_set {lo hi : Nat} {a : Option Addr} {l : List (RM × RuD)} {i : Nat} {x y : RM × RuD} (hy : l[i]? = some y) (hg : x.1.ga = y.1.ga) (he : x.1.ea = y.1.ea) (h : RBd lo hi a l) : RBd lo hi a (l.set i x) :=
  ⟨h.1, fun z hz => by
    rcases List.mem_or_eq_of_mem_set hz with h1 | h1
    · exact h.2 z h1
    · subst h1; rw [hg, he]; exact h.2 y (List.mem_of_getElem? hy)⟩
/-- a rule's name is written -/
theorem ROwn.setNm {w : World} {lo g : Nat} {n c : Nat} {l : List (RM × RuD)} (h : ROwn w lo (some ⟨g, 0, none⟩) n c l) {i : Nat} {R : RM} {r : RuD} (hy : l[i]? = some (R, r)) (s : ByteArray) (hs : s.size ≤ maxLen) :
    ROwn (w.setCell ⟨g, i * 3, none⟩ (.string s)) lo (some ⟨g, 0, none⟩) n c (l.set i ({ R with nm := s }, { r with nm := s })) := by
  have hm := List.mem_of_getElem? hy
  have sg := set_grown (w := w) g (i * 3) (.string s)
  have hG : ∀ x ∈ l, OwnT (w.setCell ⟨g, i * 3, none⟩ (.string s)) lo x.1.ga x.1.gn x.1.gc x.2.g := fun x hx => (h.each x hx).g.keepG sg fun g' e' e'' => by
    cases e''; exact typ_apart h.row.typ (h.each x hx).g.typ (by decide) g rfl e'
  have hE : ∀ x ∈ l, OwnA (w.setCell ⟨g, i * 3, none⟩ (.string s)) lo x.1.ea x.1.en x.1.ec x.2.e := fun x hx => (h.each x hx).e.keepG sg fun g' e' e'' => by
    cases e''; exact typ_apart h.row.typ (h.each x hx).e.typ (by decide) g rfl e'
  refine ⟨h.row.set31 hy (show encR (R, r) = [_, _, _] from rfl) rfl trivial, fun x hx => ?_, apart_set hy rfl rfl h.apart⟩
  rcases List.mem_or_eq_of_mem_set hx with h1 | h1
  · exact ⟨(h.each x h1).nm, (h.each x h1).nms, hG x h1, (h.each x h1).gn, hE x h1, (h.each x h1).en⟩
  · subst h1
    exact ⟨rfl, hs, hG (R, r) hm, (h.each _ hm).gn, hE (R, r) hm, (h.each _ hm).en⟩
/-- a rule's guard is written -/
theorem ROwn.setG {w w' : World} {lo : Nat} {a : Option Addr} {n c m : Nat} {l : List (RM × RuD)} (h : ROwn w lo a n c l) {i : Nat} {R : RM} {r : RuD} (hy : l[i]? = some (R, r)) (ht : Touch w w' m R.ga) {g' : List I2b} (hg : OwnT w' lo R.ga R.gn R.gc g') :
    ROwn w' lo a n c (l.set i (R, { r with g := g' })) := by
  have hm := List.mem_of_getElem? hy
  have hr : OwnF 3 encR (fun _ => True) 64 w' lo a n c l := h.row.keepT ht (typ_apart h.row.typ (h.each _ hm).g.typ (by decide))
  have hE : ∀ x ∈ l, OwnA w' lo x.1.ea x.1.en x.1.ec x.2.e := fun x hx => (h.each x hx).e.keepT ht (typ_apart (h.each x hx).e.typ (h.each _ hm).g.typ (by decide))
  have hfl : (l.set i (R, { r with g := g' })).flatMap encR = l.flatMap encR := by
    obtain ⟨h1, h2, _⟩ := flat_set encR_len (List.getElem?_eq_some_iff.1 hy).1 (R, { r with g := g' }) (R, r) hy
    rw [h1, h2]; rfl
  refine ⟨⟨by rw [hfl]; exact hr.1, fun _ _ => trivial, by rw [List.length_set]; exact hr.2.2.1, hr.2.2.2⟩, fun x hx => ?_, apart_set hy rfl rfl h.apart⟩
  obtain ⟨j, hj⟩ := List.getElem?_of_mem hx
  rcases get_set hj with ⟨rfl, rfl⟩ | ⟨e1, h1⟩
  · have hh := h.each _ hm
    exact ⟨hh.nm, hh.nms, hg, hh.gn, hE (R, r) hm, hh.en⟩
  · have hmx := List.mem_of_getElem? h1
    have hh := h.each _ hmx
    exact ⟨hh.nm, hh.nms, hh.g.keepT ht (h.apart _ _ _ _ h1 hy e1).1, hh.gn, hE _ hmx, hh.en⟩
/-- a rule's effect is written -/
theorem ROwn.setE {w w' : World} {lo : Nat} {a : Option Addr} {n c m : Nat} {l : List (RM × RuD)} (h : ROwn w lo a n c l) {i : Nat} {R : RM} {r : RuD} (hy : l[i]? = some (R, r)) (ht : Touch w w' m R.ea) {e' : List I2} (he : OwnA w' lo R.ea R.en R.ec e') :
    ROwn w' lo a n c (l.set i (R, { r with e := e' })) := by
  have hm := List.mem_of_getElem? hy
  have hr : OwnF 3 encR (fun _ => True) 64 w' lo a n c l := h.row.keepT ht (typ_apart h.row.typ (h.each _ hm).e.typ (by decide))
  have hG : ∀ x ∈ l, OwnT w' lo x.1.ga x.1.gn x.1.gc x.2.g := fun x hx => (h.each x hx).g.keepT ht (typ_apart (h.each x hx).g.typ (h.each _ hm).e.typ (by decide))
  have hfl : (l.set i (R, { r with e := e' })).flatMap encR = l.flatMap encR := by
    obtain ⟨h1, h2, _⟩ := flat_set encR_len (List.getElem?_eq_some_iff.1 hy).1 (R, { r with e := e' }) (R, r) hy
    rw [h1, h2]; rfl
  refine ⟨⟨by rw [hfl]; exact hr.1, fun _ _ => trivial, by rw [List.length_set]; exact hr.2.2.1, hr.2.2.2⟩, fun x hx => ?_, apart_set hy rfl rfl h.apart⟩
  obtain ⟨j, hj⟩ := List.getElem?_of_mem hx
  rcases get_set hj with ⟨rfl, rfl⟩ | ⟨e1, h1⟩
  · have hh := h.each _ hm
    exact ⟨hh.nm, hh.nms, hG (R, r) hm, hh.gn, he, hh.en⟩
  · have hmx := List.mem_of_getElem? h1
    have hh := h.each _ hmx
    exact ⟨hh.nm, hh.nms, hG _ hmx, hh.gn, hh.e.keepT ht (h.apart _ _ _ _ h1 hy e1).2, hh.en⟩
/-- a rule made since is laid in -/
theorem ROwn.put {w w' : World} {lo g : Nat} {n c : Nat} {l : List (RM × RuD)} (h : ROwn w lo (some ⟨g, 0, none⟩) n c l) (hb : Below w.heap.size w w') {i : Nat} (hi : i < n) {x : RM × RuD} (hx : RO w' w.heap.size x) (hlo : lo ≤ w.heap.size) {v0 v1 v2 : Value} (he : encR x = [v0, v1, v2]) :
    ROwn (((w'.setCell ⟨g, i * 3, none⟩ v0).setCell ⟨g, i * 3 + 1, none⟩ v1).setCell ⟨g, i * 3 + 2, none⟩ v2) lo (some ⟨g, 0, none⟩) n c (l.set i x) := by
  have h' := h.keep hb
  have hg := h'.row.blk g rfl
  have hg0 := h.row.blk g rfl
  have sg : w'.grownBy (((w'.setCell ⟨g, i * 3, none⟩ v0).setCell ⟨g, i * 3 + 1, none⟩ v1).setCell ⟨g, i * 3 + 2, none⟩ v2) (some g) := grownBy_set (grownBy_set (set_grown g _ _) _ _) _ _
  refine ⟨h'.row.set3 hi trivial he, fun y hy => ?_, ?_⟩
  · rcases List.mem_or_eq_of_mem_set hy with h1 | h1
    · have hh := h'.each y h1
      exact ⟨hh.nm, hh.nms, hh.g.keepG sg fun g' e' e'' => by cases e''; exact typ_apart h'.row.typ hh.g.typ (by decide) g rfl e', hh.gn, hh.e.keepG sg fun g' e' e'' => by cases e''; exact typ_apart h'.row.typ hh.e.typ (by decide) g rfl e', hh.en⟩
    · subst h1
      have hx' := hx.le hlo
      exact ⟨hx.nm, hx.nms, hx'.g.keepG sg fun g' e' e'' => by cases e''; have := (hx.g.blk g e').1; omega, hx.gn, hx'.e.keepG sg fun g' e' e'' => by cases e''; have := (hx.e.blk g e').1; omega, hx.en⟩
  · intro i' j x' y' h1 h2 hij
    rcases get_set h1 with ⟨rfl, rfl⟩ | ⟨e1, k1⟩ <;> rcases get_set h2 with ⟨rfl, rfl⟩ | ⟨e2, k2⟩
    · exact absurd rfl hij
    · have hh := h.each _ (List.mem_of_getElem? k2)
      exact ⟨Apart.symm (Apart.of (fun q e => (hh.g.blk q e).2) (fun q e => (hx.g.blk q e).1)), Apart.symm (Apart.of (fun q e => (hh.e.blk q e).2) (fun q e => (hx.e.blk q e).1))⟩
    · have hh := h.each _ (List.mem_of_getElem? k1)
      exact ⟨Apart.of (fun q e => (hh.g.blk q e).2) (fun q e => (hx.g.blk q e).1), Apart.of (fun q e => (hh.e.blk q e).2) (fun q e => (hx.e.blk q e).1)⟩
    · exact h.apart _ _ _ _ k1 k2 hij
theorem Try.infoRule : (Try.prog.info? 64).map (fun i => (i.zero, i.size, i.bytes)) = some (some (.agg #[.string ⟨#[]⟩, .slice none 0 0, .slice none 0 0]), 3, 64) := by kernel_rfl
def zR : RM × RuD := (⟨⟨#[]⟩, none, 0, 0, none, 0, 0⟩, ⟨⟨#[]⟩, [], []⟩)
theorem OwnF.nil {α : Type} {k : Nat} {enc : α → List Value} {ok : α → Prop} (hk : ∀ x, (enc x).length = k) (E : TypeId) (w : World) (base : Nat) : OwnF k enc ok E w base none 0 0 [] := ⟨World.ownsRow_nil w base E k, (fun _ h => by cases h), rfl, hk⟩
theorem RO.zero (w : World) (lo : Nat) : RO w lo zR := ⟨rfl, Nat.zero_le _, OwnF.nil (enc := I2b.enc) (fun _ => rfl) _ _ _, Nat.zero_le _, OwnF.nil (enc := I2.enc) (fun _ => rfl) _ _ _, Nat.zero_le _⟩
theorem fill_set {α : Type} {l' : List α} {k n : Nat} {x z : α} (hl : l'.length = k) (hk : k < n) : (l' ++ List.replicate (n - k) z).set k x = (l' ++ [x]) ++ List.replicate (n - (k + 1)) z := by
  rw [List.set_append_right _ _ (by omega), hl, Nat.sub_self, show n - k = (n - (k + 1)) + 1 from by omega, List.replicate_succ]
  simp
end Go.Proofs.Ytcnjnkjnpfpaeaa
