/- Rules of the call's own: blocks apart, and what a write in one of them leaves.; Rules of the exact laws: the copy of a list of rules.; Rules of the exact laws: marks.; Rules of the exact laws: marks that are held.; Models of the exact laws: copies, comparisons, marks.; Models of the exact laws: what the generated walks of the laws use.; BitsOfState and StateOfBits by what the model means. -/
import Derived.Test.YtkaikbaagajckaaJe
import Derived.Test.YtkaikbaagajckaaOw
import Derived.Test.YtkaikbaagajckaaJd
import Derived.Test.YtkaikbaagajckaaL10
namespace Go.Proofs.Ytkaikbaagajckaa
open Go.RowKit
set_option linter.unusedVariables false
set_option linter.unusedSimpArgs false
theorem OwnF.typ {α : Type} {k : Nat} {enc : α → List Value} {ok : α → Prop} {E : TypeId} {w : World} {base : Nat} {a : Option Addr} {n c : Nat} {l : List α} (h : OwnF k enc ok E w base a n c l) {g : Nat} (e : a = some ⟨g, 0, none⟩) : ∃ cur, w.heap[g]? = some (.cells cur E (0, 0)) := by
  subst e
  rcases h.1.2 with ⟨he, _⟩ | ⟨g', cap, cur, he, hb, hg, _⟩
  · simp only [Value.slice.injEq] at he; cases he.1
  · simp only [Value.slice.injEq, Option.some.injEq, Addr.mk.injEq] at he
    obtain ⟨⟨rfl, _⟩, _⟩ := he
    exact ⟨cur, hg⟩
theorem OwnI.typ {E : TypeId} {w : World} {base : Nat} {a : Option Addr} {n c : Nat} {l : List Int} (h : OwnI E w base a n c l) {g : Nat} (e : a = some ⟨g, 0, none⟩) : ∃ cur, w.heap[g]? = some (.cells cur E (0, 0)) := by
  subst e
  rcases h.1.2 with ⟨he, _⟩ | ⟨g', cap, cur, he, hb, hg, _⟩
  · simp only [Value.slice.injEq] at he; cases he.1
  · simp only [Value.slice.injEq, Option.some.injEq, Addr.mk.injEq] at he
    obtain ⟨⟨rfl, _⟩, _⟩ := he
    exact ⟨cur, hg⟩
theorem typ_apart {w : World} {a a' : Option Addr} {E E' : TypeId} (h : ∀ {g : Nat}, a = some ⟨g, 0, none⟩ → ∃ cur, w.heap[g]? = some (.cells cur E (0, 0))) (h' : ∀ {g : Nat}, a' = some ⟨g, 0, none⟩ → ∃ cur, w.heap[g]? = some (.cells cur E' (0, 0))) (hE : E ≠ E') : Apart a a' := fun g e e' => by
  obtain ⟨c1, h1⟩ := h e
  obtain ⟨c2, h2⟩ := h' e'
  rw [h1] at h2
  simp at h2
  exact hE h2.2
theorem flat_set31 {α : Type} {enc : α → List Value} (hk : ∀ x, (enc x).length = 3) {l : List α} {i : Nat} {x y : α} {u0 v0 v1 v2 : Value} (hy : l[i]? = some y) (he : enc y = [u0, v1, v2]) (hx : enc x = [v0, v1, v2]) :
    (l.flatMap enc).set (i * 3) v0 = (l.set i x).flatMap enc := by
  have hi : i < l.length := (List.getElem?_eq_some_iff.1 hy).1
  obtain ⟨h1, h2, h3⟩ := flat_set hk hi x y hy
  rw [h1, h2, he, hx, List.set_append_right _ _ (by omega), h3]; simp
theorem OwnF.set31 {α : Type} {enc : α → List Value} {ok : α → Prop} {E : TypeId} {w : World} {base g : Nat} {n c : Nat} {l : List α} (h : OwnF 3 enc ok E w base (some ⟨g, 0, none⟩) n c l) {i : Nat} {x y : α} {u0 v0 v1 v2 : Value} (hy : l[i]? = some y) (he : enc y = [u0, v1, v2]) (hx : enc x = [v0, v1, v2]) (hok : ok x) :
    OwnF 3 enc ok E (w.setCell ⟨g, i * 3, none⟩ v0) base (some ⟨g, 0, none⟩) n c (l.set i x) := by
  obtain ⟨h1, h2, h3, h4⟩ := h
  refine ⟨?_, fun z hz => ?_, by simpa using h3, h4⟩
  · rw [← flat_set31 h4 hy he hx]
    exact (h1.stored (i * 3) v0).1
  · rcases List.mem_or_eq_of_mem_set hz with h1 | h1
    · exact h2 z h1
    · rw [h1]; exact hok
abbrev OwnT := OwnF 3 I2b.enc I2b.ok 115
abbrev OwnA := OwnF 2 I2.enc I2.ok 173
/-- a rule whose parts are the call's own -/
structure RO (w : World) (lo : Nat) (x : RM × RuD) : Prop where
  nm : x.1.nm = x.2.nm
  nms : x.2.nm.size ≤ maxLen
  g : OwnT w lo x.1.ga x.1.gn x.1.gc x.2.g
  gn : x.1.gn ≤ 1048576
  e : OwnA w lo x.1.ea x.1.en x.1.ec x.2.e
  en : x.1.en ≤ 1048576
/-- a slice of rules that is the call's own -/
structure ROwn (w : World) (lo : Nat) (a : Option Addr) (n c : Nat) (l : List (RM × RuD)) : Prop where
  row : OwnF 3 encR (fun _ => True) 152 w lo a n c l
  each : ∀ x ∈ l, RO w lo x
  apart : ∀ (i j : Nat) (x y : RM × RuD), l[i]? = some x → l[j]? = some y → i ≠ j → Apart x.1.ga y.1.ga ∧ Apart x.1.ea y.1.ea
theorem RO.rum {w : World} {lo : Nat} {x : RM × RuD} (h : RO w lo x) : RuM w x := ⟨h.nm, h.nms, h.g.flats, h.gn, h.e.flats, h.en⟩
theorem ROwn.fr {w : World} {lo : Nat} {a : Option Addr} {n c : Nat} {l : List (RM × RuD)} (h : ROwn w lo a n c l) : FR w w a n c l := by
  have hf := h.row.flats
  exact ⟨hf.len, hf.cap, hf.pos, fun x hx => (h.each x hx).rum, hf.nil⟩
theorem RO.keep {w w' : World} {lo : Nat} {x : RM × RuD} (h : RO w lo x) (hb : Below w.heap.size w w') : RO w' lo x := ⟨h.nm, h.nms, h.g.keep hb, h.gn, h.e.keep hb, h.en⟩
theorem ROwn.keep {w w' : World} {lo : Nat} {a : Option Addr} {n c : Nat} {l : List (RM × RuD)} (h : ROwn w lo a n c l) (hb : Below w.heap.size w w') : ROwn w' lo a n c l :=
  ⟨h.row.keep hb, fun x hx => (h.each x hx).keep hb, h.apart⟩
theorem RO.le {w : World} {lo lo' : Nat} {x : RM × RuD} (h : RO w lo x) (hl : lo' ≤ lo) : RO w lo' x := ⟨h.nm, h.nms, h.g.le hl, h.gn, h.e.le hl, h.en⟩
theorem ROwn.le {w : World} {lo lo' : Nat} {a : Option Addr} {n c : Nat} {l : List (RM × RuD)} (h : ROwn w lo a n c l) (hl : lo' ≤ lo) : ROwn w lo' a n c l :=
  ⟨h.row.le hl, fun x hx => (h.each x hx).le hl, h.apart⟩
/-- all blocks of a slice of rules lie from lo on below hi -/
def inI (lo hi : Nat) (a : Option Addr) : Prop := ∀ g, a = some ⟨g, 0, none⟩ → lo ≤ g ∧ g < hi
def RBd (lo hi : Nat) (a : Option Addr) (l : List (RM × RuD)) : Prop := inI lo hi a ∧ ∀ x ∈ l, inI lo hi x.1.ga ∧ inI lo hi x.1.ea
theorem ROwn.bd {w : World} {lo : Nat} {a : Option Addr} {n c : Nat} {l : List (RM × RuD)} (h : ROwn w lo a n c l) : RBd lo w.heap.size a l :=
  ⟨h.row.blk, fun x hx => ⟨(h.each x hx).g.blk, (h.each x hx).e.blk⟩⟩
theorem ROwn.here {lo lo' hi : Nat} {a : Option Addr} {n c : Nat} {l : List (RM × RuD)} (bd : RBd lo' hi a l) (w1 w2 : World) (hk : ∀ k, lo' ≤ k → k < hi → w2.heap[k]? = w1.heap[k]?) (h : ROwn w1 lo a n c l) : ROwn w2 lo a n c l :=
  ⟨OwnF.here bd.1 w1 w2 hk h.row, fun x hx => by
    have hh := h.each x hx
    exact ⟨hh.nm, hh.nms, OwnF.here (bd.2 x hx).1 w1 w2 hk hh.g, hh.gn, OwnF.here (bd.2 x hx).2 w1 w2 hk hh.e, hh.en⟩, h.apart⟩
theorem ROwn.own {w : World} {lo : Nat} {a : Option Addr} {n c : Nat} {l : List (RM × RuD)} (h : ROwn w lo a n c l) : Own (fun w => ROwn w lo a n c l) lo w.heap.size w := ⟨h, Nat.le_refl _, ROwn.here h.bd⟩
theorem encR_len (x : RM × RuD) : (encR x).length = 3 := rfl
theorem get_set {α : Type} {l : List α} {i j : Nat} {x y : α} (h : (l.set i x)[j]? = some y) : (j = i ∧ y = x) ∨ (j ≠ i ∧ l[j]? = some y) := by
  rw [List.getElem?_set] at h
  split at h
  · split at h
    · rename_i e _
      exact .inl ⟨e.symm, by simpa using h.symm⟩
    · cases h
  · rename_i e
    exact .inr ⟨fun e' => e e'.symm, h⟩
/-- the blocks of a row of rules stay apart where a rule changes in what it means alone -/
theorem apart_set {l : List (RM × RuD)} {i : Nat} {x y : RM × RuD} (hy : l[i]? = some y) (hg : x.1.ga = y.1.ga) (he : x.1.ea = y.1.ea)
    (h : ∀ (i j : Nat) (x y : RM × RuD), l[i]? = some x → l[j]? = some y → i ≠ j → Apart x.1.ga y.1.ga ∧ Apart x.1.ea y.1.ea) :
    ∀ (i' j : Nat) (x' y' : RM × RuD), (l.set i x)[i']? = some x' → (l.set i x)[j]? = some y' → i' ≠ j → Apart x'.1.ga y'.1.ga ∧ Apart x'.1.ea y'.1.ea := by
  intro i' j x' y' h1 h2 hij
  rcases get_set h1 with ⟨rfl, rfl⟩ | ⟨e1, k1⟩ <;> rcases get_set h2 with ⟨rfl, rfl⟩ | ⟨e2, k2⟩
  · exact absurd rfl hij
  · rw [hg, he]; exact h _ _ _ _ hy k2 hij
  · rw [hg, he]; exact h _ _ _ _ k1 hy hij
  · exact h _ _ _ _ k1 k2 hij
theorem bd_set {lo hi : Nat} {a : Option Addr} {l : List (RM × RuD)} {i : Nat} {x y : RM × RuD} (hy : l[i]? = some y) (hg : x.1.ga = y.1.ga) (he : x.1.ea = y.1.ea) (h : RBd lo hi a l) : RBd lo hi a (l.set i x) :=
  ⟨h.1, fun z hz => by
    rcases List.mem_or_eq_of_mem_set hz with h1 | h1
    · exact h.2 z h1
    · subst h1; rw [hg, he]; exact h.2 y (List.mem_of_getElem? hy)⟩
/-- a rule's name is written -/
theorem ROwn.setNm {w : World} {lo g : Nat} {n c : Nat} {l : List (RM × RuD)} (h : ROwn w lo (some ⟨g, 0, none⟩) n c l) {i : Nat} {R : RM} {r : RuD} (hy : l[i]? = some (R, r)) (s : ByteArray) (hs : s.size ≤ maxLen) :
    ROwn (w.setCell ⟨g, i * 3, none⟩ (.string s)) lo (some ⟨g, 0, none⟩) n c (l.set i ({ R with nm := s }, { r with nm := s })) := by
  have hm := List.mem_of_getElem? hy
  have sg := set_grown (w := w) g (i * 3) (.string s)
  have hG : ∀ x ∈ l, OwnT (w.setCell ⟨g, i * 3, none⟩ (.string s)) lo x.1.ga x.1.gn x.1.gc x.2.g := fun x hx => (h.each x hx).g.keepG sg fun g' e' e'' => by
    cases e''; exact typ_apart h.row.typ (h.each x hx).g.typ (by decide) g rfl e'
  have hE : ∀ x ∈ l, OwnA (w.setCell ⟨g, i * 3, none⟩ (.string s)) lo x.1.ea x.1.en x.1.ec x.2.e := fun x hx => (h.each x hx).e.keepG sg fun g' e' e'' => by
    cases e''; exact typ_apart h.row.typ (h.each x hx).e.typ (by decide) g rfl e'
  refine ⟨h.row.set31 hy (show encR (R, r) = [_, _, _] from rfl) rfl trivial, fun x hx => ?_, apart_set hy rfl rfl h.apart⟩
  rcases List.mem_or_eq_of_mem_set hx with h1 | h1
  · exact ⟨(h.each x h1).nm, (h.each x h1).nms, hG x h1, (h.each x h1).gn, hE x h1, (h.each x h1).en⟩
  · subst h1
    exact ⟨rfl, hs, hG (R, r) hm, (h.each _ hm).gn, hE (R, r) hm, (h.each _ hm).en⟩
/-- a rule's guard is written -/
theorem ROwn.setG {w w' : World} {lo : Nat} {a : Option Addr} {n c m : Nat} {l : List (RM × RuD)} (h : ROwn w lo a n c l) {i : Nat} {R : RM} {r : RuD} (hy : l[i]? = some (R, r)) (ht : Touch w w' m R.ga) {g' : List I2b} (hg : OwnT w' lo R.ga R.gn R.gc g') :
    ROwn w' lo a n c (l.set i (R, { r with g := g' })) := by
  have hm := List.mem_of_getElem? hy
  have hr : OwnF 3 encR (fun _ => True) 152 w' lo a n c l := h.row.keepT ht (typ_apart h.row.typ (h.each _ hm).g.typ (by decide))
  have hE : ∀ x ∈ l, OwnA w' lo x.1.ea x.1.en x.1.ec x.2.e := fun x hx => (h.each x hx).e.keepT ht (typ_apart (h.each x hx).e.typ (h.each _ hm).g.typ (by decide))
  have hfl : (l.set i (R, { r with g := g' })).flatMap encR = l.flatMap encR := by
    obtain ⟨h1, h2, _⟩ := flat_set encR_len (List.getElem?_eq_some_iff.1 hy).1 (R, { r with g := g' }) (R, r) hy
    rw [h1, h2]; rfl
  refine ⟨⟨by rw [hfl]; exact hr.1, fun _ _ => trivial, by rw [List.length_set]; exact hr.2.2.1, hr.2.2.2⟩, fun x hx => ?_, apart_set hy rfl rfl h.apart⟩
  obtain ⟨j, hj⟩ := List.getElem?_of_mem hx
  rcases get_set hj with ⟨rfl, rfl⟩ | ⟨e1, h1⟩
  · have hh := h.each _ hm
    exact ⟨hh.nm, hh.nms, hg, hh.gn, hE (R, r) hm, hh.en⟩
  · have hmx := List.mem_of_getElem? h1
    have hh := h.each _ hmx
    exact ⟨hh.nm, hh.nms, hh.g.keepT ht (h.apart _ _ _ _ h1 hy e1).1, hh.gn, hE _ hmx, hh.en⟩
/-- a rule's effect is written -/
theorem ROwn.setE {w w' : World} {lo : Nat} {a : Option Addr} {n c m : Nat} {l : List (RM × RuD)} (h : ROwn w lo a n c l) {i : Nat} {R : RM} {r : RuD} (hy : l[i]? = some (R, r)) (ht : Touch w w' m R.ea) {e' : List I2} (he : OwnA w' lo R.ea R.en R.ec e') :
    ROwn w' lo a n c (l.set i (R, { r with e := e' })) := by
  have hm := List.mem_of_getElem? hy
  have hr : OwnF 3 encR (fun _ => True) 152 w' lo a n c l := h.row.keepT ht (typ_apart h.row.typ (h.each _ hm).e.typ (by decide))
  have hG : ∀ x ∈ l, OwnT w' lo x.1.ga x.1.gn x.1.gc x.2.g := fun x hx => (h.each x hx).g.keepT ht (typ_apart (h.each x hx).g.typ (h.each _ hm).e.typ (by decide))
  have hfl : (l.set i (R, { r with e := e' })).flatMap encR = l.flatMap encR := by
    obtain ⟨h1, h2, _⟩ := flat_set encR_len (List.getElem?_eq_some_iff.1 hy).1 (R, { r with e := e' }) (R, r) hy
    rw [h1, h2]; rfl
  refine ⟨⟨by rw [hfl]; exact hr.1, fun _ _ => trivial, by rw [List.length_set]; exact hr.2.2.1, hr.2.2.2⟩, fun x hx => ?_, apart_set hy rfl rfl h.apart⟩
  obtain ⟨j, hj⟩ := List.getElem?_of_mem hx
  rcases get_set hj with ⟨rfl, rfl⟩ | ⟨e1, h1⟩
  · have hh := h.each _ hm
    exact ⟨hh.nm, hh.nms, hG (R, r) hm, hh.gn, he, hh.en⟩
  · have hmx := List.mem_of_getElem? h1
    have hh := h.each _ hmx
    exact ⟨hh.nm, hh.nms, hG _ hmx, hh.gn, hh.e.keepT ht (h.apart _ _ _ _ h1 hy e1).2, hh.en⟩
/-- a rule made since is laid in -/
theorem ROwn.put {w w' : World} {lo g : Nat} {n c : Nat} {l : List (RM × RuD)} (h : ROwn w lo (some ⟨g, 0, none⟩) n c l) (hb : Below w.heap.size w w') {i : Nat} (hi : i < n) {x : RM × RuD} (hx : RO w' w.heap.size x) (hlo : lo ≤ w.heap.size) {v0 v1 v2 : Value} (he : encR x = [v0, v1, v2]) :
    ROwn (((w'.setCell ⟨g, i * 3, none⟩ v0).setCell ⟨g, i * 3 + 1, none⟩ v1).setCell ⟨g, i * 3 + 2, none⟩ v2) lo (some ⟨g, 0, none⟩) n c (l.set i x) := by
  have h' := h.keep hb
  have hg := h'.row.blk g rfl
  have hg0 := h.row.blk g rfl
  have sg : w'.grownBy (((w'.setCell ⟨g, i * 3, none⟩ v0).setCell ⟨g, i * 3 + 1, none⟩ v1).setCell ⟨g, i * 3 + 2, none⟩ v2) (some g) := grownBy_set (grownBy_set (set_grown g _ _) _ _) _ _
  refine ⟨h'.row.set3 hi trivial he, fun y hy => ?_, ?_⟩
  · rcases List.mem_or_eq_of_mem_set hy with h1 | h1
    · have hh := h'.each y h1
      exact ⟨hh.nm, hh.nms, hh.g.keepG sg fun g' e' e'' => by cases e''; exact typ_apart h'.row.typ hh.g.typ (by decide) g rfl e', hh.gn, hh.e.keepG sg fun g' e' e'' => by cases e''; exact typ_apart h'.row.typ hh.e.typ (by decide) g rfl e', hh.en⟩
    · subst h1
      have hx' := hx.le hlo
      exact ⟨hx.nm, hx.nms, hx'.g.keepG sg fun g' e' e'' => by cases e''; have := (hx.g.blk g e').1; omega, hx.gn, hx'.e.keepG sg fun g' e' e'' => by cases e''; have := (hx.e.blk g e').1; omega, hx.en⟩
  · intro i' j x' y' h1 h2 hij
    rcases get_set h1 with ⟨rfl, rfl⟩ | ⟨e1, k1⟩ <;> rcases get_set h2 with ⟨rfl, rfl⟩ | ⟨e2, k2⟩
    · exact absurd rfl hij
    · have hh := h.each _ (List.mem_of_getElem? k2)
      exact ⟨Apart.symm (Apart.of (fun q e => (hh.g.blk q e).2) (fun q e => (hx.g.blk q e).1)), Apart.symm (Apart.of (fun q e => (hh.e.blk q e).2) (fun q e => (hx.e.blk q e).1))⟩
    · have hh := h.each _ (List.mem_of_getElem? k1)
      exact ⟨Apart.of (fun q e => (hh.g.blk q e).2) (fun q e => (hx.g.blk q e).1), Apart.of (fun q e => (hh.e.blk q e).2) (fun q e => (hx.e.blk q e).1)⟩
    · exact h.apart _ _ _ _ k1 k2 hij
end Go.Proofs.Ytkaikbaagajckaa
namespace Go.Proofs.Ytkaikbaagajckaa
open Go.RowKit
set_option linter.unusedVariables false
set_option linter.unusedSimpArgs false
theorem Try.infoRule : (Try.prog.info? 152).map (fun i => (i.zero, i.size, i.bytes)) = some (some (.agg #[.string ⟨#[]⟩, .slice none 0 0, .slice none 0 0]), 3, 64) := by kernel_rfl
def zR : RM × RuD := (⟨⟨#[]⟩, none, 0, 0, none, 0, 0⟩, ⟨⟨#[]⟩, [], []⟩)
theorem OwnF.nil {α : Type} {k : Nat} {enc : α → List Value} {ok : α → Prop} (hk : ∀ x, (enc x).length = k) (E : TypeId) (w : World) (base : Nat) : OwnF k enc ok E w base none 0 0 [] := ⟨World.ownsRow_nil w base E k, (fun _ h => by cases h), rfl, hk⟩
theorem RO.zero (w : World) (lo : Nat) : RO w lo zR := ⟨rfl, Nat.zero_le _, OwnF.nil (enc := I2b.enc) (fun _ => rfl) _ _ _, Nat.zero_le _, OwnF.nil (enc := I2.enc) (fun _ => rfl) _ _ _, Nat.zero_le _⟩
theorem fill_set {α : Type} {l' : List α} {k n : Nat} {x z : α} (hl : l'.length = k) (hk : k < n) : (l' ++ List.replicate (n - k) z).set k x = (l' ++ [x]) ++ List.replicate (n - (k + 1)) z := by
  rw [List.set_append_right _ _ (by omega), hl, Nat.sub_self, show n - k = (n - (k + 1)) + 1 from by omega, List.replicate_succ]
  simp
set_option maxHeartbeats 2000000 in
theorem laws_toRuleS {a : Option Addr} {n c : Nat} {l : List (RM × RuD)} {w : World} (hI : FR w w a n c l) (hn : n ≤ 1048576) :
    Calls Try.prog 88 #[.slice a n c] w fun e w' => ∃ l', e = .returned (.slice (some ⟨w.heap.size, 0, none⟩) n n) ∧ Below w.heap.size w w' ∧ ROwn w' w.heap.size (some ⟨w.heap.size, 0, none⟩) n n l' ∧ l'.map (·.2) = l.map (·.2) := by
  obtain ⟨i0, hi, hz0, hz1, hz2⟩ := info_parts Try.infoRule
  obtain ⟨w1, hmk, hown, hgr⟩ := run_make_full (P := Try.prog) w w.heap.size 57 152 i0 (.agg #[.string ⟨#[]⟩, .slice none 0 0, .slice none 0 0]) 3 Try.underlying57 hi hz0 hz1 .i64 .i64 n (by rw [hz2]; omega) (by unfold maxLen; omega) (Nat.le_refl _)
  have hb1 : Below w.heap.size w w1 := (Below.refl _ _).grown hgr (Nat.le_refl _) (fun k h => by cases h)
  have ho : ROwn w1 w.heap.size (some ⟨w.heap.size, 0, none⟩) n n ([] ++ List.replicate (n - 0) zR) := by
    refine ⟨⟨?_, fun _ _ => trivial, by simp, encR_len⟩, fun x hx => ?_, fun i j x y hx hy _ => ?_⟩
    · rw [show n * 3 = n * (Value.cells (.agg #[.string ⟨#[]⟩, .slice none 0 0, .slice none 0 0])).size from rfl, flat_replicate (enc := encR) (z := zR) (zc := Value.cells (.agg #[.string ⟨#[]⟩, .slice none 0 0, .slice none 0 0])) rfl (by decide)] at hown
      simpa using hown
    · simp at hx; rw [hx.2]; exact RO.zero _ _
    · have h1 := List.mem_of_getElem? hx
      simp at h1
      rw [h1.2]
      exact ⟨(fun g e _ => by cases e), (fun g e _ => by cases e)⟩
  have HI := Lib.hid hI
  have HO := Lib.hid ho
  clear hI ho hown hgr hi hz0 hz1 hz2
  go_enter Try.func88, Try.ntmps88
  go_wp2
  clear hmk
  go_loopw [4] (fun i wr => ∃ (k : Nat) (l' : List (RM × RuD)), k ≤ n ∧ i = .int .i64 k ∧ Below w.heap.size w wr ∧ Hid (l'.length = k ∧ l'.map (·.2) = (l.take k).map (·.2)) ∧ Hid (ROwn wr w.heap.size (some ⟨w.heap.size, 0, none⟩) n n (l' ++ List.replicate (n - k) zR))) (fun i _ => n - (intOf i).toNat)
  case atStart => exact ⟨0, [], Nat.zero_le _, rfl, hb1, ⟨rfl, by simp⟩, HO.out⟩
  case round =>
    obtain ⟨k, l', hk, rfl, hbl, hL, hO⟩ := hrel
    by_cases hlt : k < n
    · obtain ⟨b, off, R, r, rfl, hb, hx, hwf, c0, c1, c2⟩ := FR.get (HI.out.keep hbl) hlt
      have Hx := Lib.hid hx
      have hne : b ≠ w.heap.size := by
        have := HI.out.pos
        rcases this with h0 | ⟨b', off', he, hb', _⟩
        · omega
        · simp at he; omega
      have HR := Lib.hid (hwf.keep hbl)
      have hgn : R.gn = r.g.length := hwf.2.2.1.len.symm
      have hen : R.en = r.e.length := hwf.2.2.2.2.1.len.symm
      have HN := Lib.hid (show R.gn ≤ 1048576 ∧ R.en ≤ 1048576 ∧ r.nm.size ≤ maxLen ∧ R.gn = r.g.length ∧ R.en = r.e.length from ⟨hwf.2.2.2.1, hwf.2.2.2.2.2, hwf.2.1, hgn, hen⟩)
      clear hx hwf hgn hen
      go_wp2_with fail
      refine Calls.mono (laws_toRule HR.out) ?_
      rintro e w2 ⟨R', rfl, hb2, en', og, oe⟩
      have hx' : RO w2 wr.heap.size (R', r) := ⟨en', HN.out.2.2.1, og, by have h1 := og.len; have h2 := HN.out; simp only; omega, oe, by have h1 := oe.len; have h2 := HN.out; simp only; omega⟩
      have HX := Lib.hid hx'
      have HP := Lib.hid (fun v0 v1 v2 he => hO.out.put hb2 hlt hx' hbl.size (v0 := v0) (v1 := v1) (v2 := v2) he)
      have hO2 := Lib.hid (hO.out.keep hb2)
      have hbl2 := below_call hbl hb2 hbl.size
      have hl9 := hO2.out.row.flats
      obtain ⟨_, _, y, h1, _, _, _, hcs⟩ := hl9.at hlt
      simp only [Option.some.injEq, Addr.mk.injEq, and_true] at h1
      obtain ⟨rfl, rfl⟩ := h1
      have d0 := hcs 0 _ rfl
      have d1 := hcs 1 _ rfl
      have d2 := hcs 2 _ rfl
      simp only [Nat.zero_add, Nat.add_zero] at d0 d1 d2
      have hfz := hO2.out.row.free
      have hlt2 := (hO2.out.row.blk _ rfl).2
      clear hb2 hx' og oe hcs hl9 en'
      go_wp2
      go_roundw
      case rel => exact ⟨k + 1, l' ++ [(R', r)], by omega, by go_num, by repeat (first | exact Below.refl _ _ | assumption | refine below_allocS ?_ _ | refine below_callS ?_ (by assumption) | (refine Below.alloc ?_ (by first | omega | (simp; done) | (simp; omega)) _) | (refine Below.setCell ?_ (by first | omega | (simp; done) | (simp; omega)) _) | refine Below.drew ?_ | refine below_drewN ?_ _ | (refine below_call ?_ (by assumption) (by first | omega | (simp; done) | (simp; omega))) | (refine Below.trans ?_ (by assumption))), ⟨by have := hL.out.1; simp; omega, by rw [take_at Hx.out, List.map_append, List.map_append, hL.out.2]; rfl⟩, by have := HP.out _ _ _ rfl; rw [fill_set hL.out.1 hlt] at this; exact this⟩
      case measure => simp [intOf]; omega
    · go_wp2
      go_ret
      have e : k = n := by omega
      have h1 := hO.out
      have h2 := hL.out
      rw [e, Nat.sub_self, List.replicate_zero, List.append_nil] at h1
      rw [e, take_len HI.out.len] at h2
      exact ⟨rfl, hbl, l', h1, h2.2⟩
set_option maxHeartbeats 1000000 in
theorem laws_markTestS {a : Option Addr} {n c base : Nat} {l : List I2b} {q : Int} {w : World} (hI : OwnT w base a n c l) (hn : n ≤ 1048576) (hq0 : 0 ≤ q) (hq1 : q ≤ 1099511627776) :
    Calls Try.prog 39 #[.slice a n c, .int .i64 q] w fun e w' => e = .returned (.int .i64 (q + 3 * n)) ∧ Touch w w' n a ∧ OwnT w' base a n c (marks2b q n) := by
  by_cases hn0 : n = 0
  · subst hn0
    have HI := Lib.hid hI
    have hl : l = marks2b q 0 := by have := hI.len; cases l with | nil => rfl | cons => simp at this
    subst hl
    clear hI
    go_enter Try.func39, Try.ntmps39
    go_wp2
    go_loopw [1, 5] (fun s1 s5 wr => s1 = .int .i64 q ∧ s5 = .int .i64 0 ∧ wr = w) (fun _ _ _ => 0)
    case atStart => exact ⟨rfl, rfl, rfl⟩
    case round =>
      obtain ⟨rfl, rfl, rfl⟩ := hrel
      go_wp2
      go_ret
      exact ⟨ret_int (by omega), ⟨none, grownBy_refl _ _, fun _ h => by cases h⟩, HI.out⟩
  · obtain ⟨g, rfl⟩ := hI.shape (by omega)
    have HI := Lib.hid (show OwnT w base (some ⟨g, 0, none⟩) n c ((marks2b q n).take 0 ++ l.drop 0) by simpa using hI)
    have hlen := hI.len
    have Hlen := Lib.hid hlen
    clear hI hlen
    go_enter Try.func39, Try.ntmps39
    go_wp2
    go_loopw [1, 5] (fun s1 s5 wr => ∃ j : Nat, j ≤ n ∧ s1 = .int .i64 (q + 3 * j) ∧ s5 = .int .i64 j ∧ w.grownBy wr (some g) ∧ Hid (OwnT wr base (some ⟨g, 0, none⟩) n c ((marks2b q n).take j ++ l.drop j))) (fun _ s5 _ => n - (intOf s5).toNat)
    case atStart => exact ⟨0, Nat.zero_le _, by simp, rfl, grownBy_refl _ _, HI.out⟩
    case round =>
      obtain ⟨j, hj, rfl, rfl, hg, hO⟩ := hrel
      by_cases hlt : j < n
      · obtain ⟨_, _, y, h1, _, _, _, hc0, hc1, hc2⟩ := F2b.get hO.out.flats hlt
        simp only [Option.some.injEq, Addr.mk.injEq, and_true] at h1
        obtain ⟨rfl, rfl⟩ := h1
        simp only [Nat.zero_add] at hc0 hc1 hc2
        have hfz := hO.out.free
        go_wp2
        go_roundw
        case rel =>
          refine ⟨j + 1, by omega, by go_num, by go_num, ?_, ?_⟩
          · repeat (first | exact hg | refine grownBy_set ?_ _ _)
          · have := OwnF.set3 hO.out hlt (x := ⟨q + 3 * (j : Int), q + 3 * (j : Int) + 1, (q + 3 * (j : Int) + 1 + 1) % 3 == 0⟩) (by simp only [I2b.ok, I64]; omega) rfl
            rw [show (⟨q + 3 * (j : Int), q + 3 * (j : Int) + 1, (q + 3 * (j : Int) + 1 + 1) % 3 == 0⟩ : I2b) = (fun i : Nat => (⟨q + 3 * (i : Int), q + 3 * (i : Int) + 1, (q + 3 * (i : Int) + 1 + 1) % 3 == 0⟩ : I2b)) j from rfl, marks2b, mix_set hlt Hlen.out] at this
            exact this
        case measure => simp [intOf]; omega
      · go_wp2
        go_ret
        have e : j = n := by omega
        have h1 := hO.out
        rw [e, List.drop_of_length_le (by have := Hlen.out; omega), List.append_nil, List.take_of_length_le (by simp [marks2b])] at h1
        exact ⟨ret_int (by rw [e]), ⟨_, hg, fun b hb => by cases hb; exact ⟨by omega, rfl⟩⟩, h1⟩
end Go.Proofs.Ytkaikbaagajckaa
namespace Go.Proofs.Ytkaikbaagajckaa
open Go.RowKit
set_option linter.unusedVariables false
set_option linter.unusedSimpArgs false
def cnt1 (r : RuD) : Nat := 1 + 3 * r.g.length + 2 * r.e.length
def cntRu (rs : List RuD) : Nat := (rs.map cnt1).sum
def mark1 (q : Int) (r : RuD) : RuD := ⟨markT q, marks2b (q + 1) r.g.length, marks2 (q + 1 + 3 * (r.g.length : Nat)) r.e.length⟩
/-- the marks of a list of rules -/
def marksR : Int → List RuD → List RuD
  | _, [] => []
  | q, r :: rs => mark1 q r :: marksR (q + (cnt1 r : Nat)) rs
theorem marksR_len (q : Int) (rs : List RuD) : (marksR q rs).length = rs.length := by
  induction rs generalizing q with
  | nil => rfl
  | cons r rs ih => simp [marksR, ih]
theorem cntR_take {rs : List RuD} {k : Nat} {r : RuD} (h : rs[k]? = some r) : cntRu (rs.take (k + 1)) = cntRu (rs.take k) + cnt1 r := by
  rw [cntRu, take_at h, List.map_append, List.sum_append]; simp [cntRu]
theorem cntR_le {rs : List RuD} {k : Nat} {r : RuD} (h : rs[k]? = some r) : cntRu (rs.take k) + cnt1 r ≤ cntRu rs := by
  rw [← cntR_take h]
  have : cntRu rs = cntRu (rs.take (k + 1)) + cntRu (rs.drop (k + 1)) := by
    rw [cntRu, cntRu, cntRu, ← List.sum_append, ← List.map_append, List.take_append_drop]
  omega
theorem marksR_get {q : Int} {rs : List RuD} {k : Nat} {r : RuD} (h : rs[k]? = some r) : (marksR q rs)[k]? = some (mark1 (q + (cntRu (rs.take k) : Nat)) r) := by
  induction rs generalizing q k with
  | nil => simp at h
  | cons x rs ih =>
    cases k with
    | zero => simp at h; subst h; simp [marksR, cntRu]
    | succ k =>
      have := ih (q := q + (cnt1 x : Nat)) (k := k) (by simpa using h)
      rw [marksR, List.getElem?_cons_succ, this]
      congr 2
      simp [cntRu]; omega
theorem mixR {q : Int} {rs : List RuD} {k : Nat} {r : RuD} {m : List RuD} (h : rs[k]? = some r) (hm : m = (marksR q rs).take k ++ rs.drop k) : m.set k (mark1 (q + (cntRu (rs.take k) : Nat)) r) = (marksR q rs).take (k + 1) ++ rs.drop (k + 1) := by
  subst hm
  have hlt : k < rs.length := (List.getElem?_eq_some_iff.1 h).1
  have h1 : ((marksR q rs).take k).length = k := by rw [List.length_take, marksR_len]; omega
  rw [take_at (marksR_get h), List.set_append_right _ _ (by omega), h1, Nat.sub_self, show rs.drop k = rs[k] :: rs.drop (k + 1) from List.drop_eq_getElem_cons (by omega), List.set_cons_zero, List.append_assoc]
  rfl
theorem map_set2 {l : List (RM × RuD)} {i : Nat} {x : RM × RuD} : (l.set i x).map (·.2) = (l.map (·.2)).set i x.2 := List.map_set ..
/-- a slice of rules that is the call's own, by what it means -/
def MR (w : World) (lo hi : Nat) (a : Option Addr) (n c : Nat) (rs : List RuD) : Prop := ∃ l, ROwn w lo a n c l ∧ RBd lo hi a l ∧ l.map (·.2) = rs
theorem MR.keep {w w' : World} {lo hi : Nat} {a : Option Addr} {n c : Nat} {rs : List RuD} (h : MR w lo hi a n c rs) (hb : Below w.heap.size w w') : MR w' lo hi a n c rs := by
  obtain ⟨l, h1, h2, h3⟩ := h
  exact ⟨l, h1.keep hb, h2, h3⟩
theorem MR.here {lo hi : Nat} {a : Option Addr} {n c : Nat} {rs : List RuD} (w1 w2 : World) (hk : ∀ k, lo ≤ k → k < hi → w2.heap[k]? = w1.heap[k]?) (h : MR w1 lo hi a n c rs) : MR w2 lo hi a n c rs := by
  obtain ⟨l, h1, h2, h3⟩ := h
  exact ⟨l, ROwn.here h2 w1 w2 hk h1, h2, h3⟩
/-- a rule of the list, and the list with another rule there -/
theorem MR.at {w : World} {lo hi : Nat} {a : Option Addr} {n c : Nat} {rs : List RuD} (h : MR w lo hi a n c rs) {k : Nat} (hk : k < n) : ∃ (g : Nat) (R : RM) (r : RuD) (l : List (RM × RuD)), a = some ⟨g, 0, none⟩ ∧ rs[k]? = some r ∧ l[k]? = some (R, r) ∧ ROwn w lo a n c l ∧ RBd lo hi a l ∧ l.map (·.2) = rs ∧ RO w lo (R, r) ∧ g < w.heap.size ∧ lo ≤ g ∧ g < hi ∧
    w.cell? ⟨g, k * 3, none⟩ = some (.string R.nm) ∧ w.cell? ⟨g, k * 3 + 1, none⟩ = some (.slice R.ga R.gn R.gc) ∧ w.cell? ⟨g, k * 3 + 2, none⟩ = some (.slice R.ea R.en R.ec) := by
  obtain ⟨l, h1, h2, h3⟩ := h
  obtain ⟨b, off, R, r, rfl, hb, hx, _, c0, c1, c2⟩ := FR.get h1.fr hk
  obtain ⟨g, hg⟩ := h1.row.shape (by omega)
  simp only [Option.some.injEq, Addr.mk.injEq, and_true] at hg
  obtain ⟨rfl, rfl⟩ := hg
  simp only [Nat.zero_add] at c0 c1 c2
  have hb2 := h2.1 b rfl
  exact ⟨b, R, r, l, rfl, by rw [← h3, List.getElem?_map, hx]; rfl, hx, h1, h2, h3, h1.each _ (List.mem_of_getElem? hx), hb, hb2.1, hb2.2, c0, c1, c2⟩
theorem ROwn.cells {w : World} {lo g : Nat} {n c : Nat} {l : List (RM × RuD)} (h : ROwn w lo (some ⟨g, 0, none⟩) n c l) {k : Nat} {R : RM} {r : RuD} (hx : l[k]? = some (R, r)) : g < w.heap.size ∧ w.cell? ⟨g, k * 3, none⟩ = some (.string R.nm) ∧ w.cell? ⟨g, k * 3 + 1, none⟩ = some (.slice R.ga R.gn R.gc) ∧ w.cell? ⟨g, k * 3 + 2, none⟩ = some (.slice R.ea R.en R.ec) := by
  have hk : k < n := by rw [← h.row.len]; exact (List.getElem?_eq_some_iff.1 hx).1
  obtain ⟨b, off, R', r', he, hb, hx', _, c0, c1, c2⟩ := FR.get h.fr hk
  simp only [Option.some.injEq, Addr.mk.injEq, and_true] at he
  obtain ⟨rfl, rfl⟩ := he
  rw [hx] at hx'
  simp only [Option.some.injEq, Prod.mk.injEq] at hx'
  obtain ⟨rfl, rfl⟩ := hx'
  simp only [Nat.zero_add] at c0 c1 c2
  exact ⟨hb, c0, c1, c2⟩
theorem set_at {α : Type} {l : List α} {k : Nat} {x y : α} (h : l[k]? = some y) : (l.set k x)[k]? = some x := by
  rw [List.getElem?_set, if_pos rfl, if_pos (List.getElem?_eq_some_iff.1 h).1]
theorem MR.len {w : World} {lo hi : Nat} {a : Option Addr} {n c : Nat} {rs : List RuD} (h : MR w lo hi a n c rs) : rs.length = n := by
  obtain ⟨l, h1, h2, h3⟩ := h
  rw [← h3, List.length_map]; exact h1.row.len
/-- every block of int64s stays as it was -/
def KeepI (w w' : World) : Prop := ∀ (b : Nat) (cur : Array Value), w.heap[b]? = some (.cells cur 2 (0, 0)) → w'.heap[b]? = some (.cells cur 2 (0, 0))
theorem KeepI.refl (w : World) : KeepI w w := fun _ _ h => h
theorem KeepI.trans {w w' w'' : World} (h : KeepI w w') (h' : KeepI w' w'') : KeepI w w'' := fun b cur hb => h' b cur (h b cur hb)
theorem KeepI.below {w w' : World} (h : Below w.heap.size w w') : KeepI w w' := fun b cur hb => by
  have hlt : b < w.heap.size := Nat.lt_of_not_le fun h => by rw [Array.getElem?_eq_none h] at hb; cases hb
  rw [h.block b hlt]; exact hb
theorem KeepI.grown {w w' : World} {g : Nat} {E : TypeId} (h : w.grownBy w' (some g)) (ht : ∃ cur, w.heap[g]? = some (.cells cur E (0, 0))) (hE : E ≠ 2) : KeepI w w' := fun b cur hb => by
  have hlt : b < w.heap.size := Nat.lt_of_not_le fun h => by rw [Array.getElem?_eq_none h] at hb; cases hb
  rw [h.block b hlt fun e => ?_]
  · exact hb
  · cases e
    obtain ⟨c2, h2⟩ := ht
    rw [hb] at h2
    simp at h2
    exact hE h2.2.symm
theorem KeepI.touch {w w' : World} {n : Nat} {a : Option Addr} {E : TypeId} (h : Touch w w' n a) (ht : ∀ {g : Nat}, a = some ⟨g, 0, none⟩ → ∃ cur, w.heap[g]? = some (.cells cur E (0, 0))) (hE : E ≠ 2) : KeepI w w' := by
  obtain ⟨r, hg, hr⟩ := h
  cases r with
  | none => exact KeepI.below ((Below.refl _ _).grown hg (Nat.le_refl _) (fun k e => by cases e))
  | some g => exact KeepI.grown hg (ht (hr g rfl).2) hE
theorem OwnI.keepK {w w' : World} {base : Nat} {a : Option Addr} {n c : Nat} {l : List Int} (h : OwnI 2 w base a n c l) (hk : KeepI w w') : OwnI 2 w' base a n c l := by
  obtain ⟨⟨hl, h2⟩, hw⟩ := h
  refine ⟨⟨hl, ?_⟩, hw⟩
  rcases h2 with h2 | ⟨g, cap, cur, he, hbs, hg, r⟩
  · exact .inl h2
  · exact .inr ⟨g, cap, cur, he, hbs, hk _ _ hg, r⟩
set_option maxHeartbeats 2000000 in
theorem laws_markRuleS {a : Option Addr} {n c lo hi N : Nat} {rs : List RuD} {q : Int} {w : World} (hR : MR w lo hi a n c rs) (hN : cntRu rs = N) (hn : n ≤ 1048576) (hq0 : 0 ≤ q) (hq1 : q + N ≤ 1099511627776) :
    Calls Try.prog 99 #[.slice a n c, .int .i64 q] w fun e w' => e = .returned (.int .i64 (q + N)) ∧ Only lo hi w w' ∧ MR w' lo hi a n c (marksR q rs) ∧ KeepI w w' := by
  have HR := Lib.hid (show MR w lo hi a n c ((marksR q rs).take 0 ++ rs.drop 0) by simpa using hR)
  have HL := Lib.hid hR.len
  have HN := Lib.hid hN
  clear hR hN
  go_enter Try.func99, Try.ntmps99
  go_wp2_with fail
  go_loopw [1, 5] (fun s1 s5 wr => ∃ (k : Nat) (q2 : Int), k ≤ n ∧ s1 = .int .i64 q2 ∧ s5 = .int .i64 k ∧ 0 ≤ q2 ∧ q2 ≤ q + N ∧ Hid (q2 = q + (cntRu (rs.take k) : Nat)) ∧ Hid (Only lo hi w wr) ∧ Hid (KeepI w wr) ∧ Hid (MR wr lo hi a n c ((marksR q rs).take k ++ rs.drop k))) (fun _ s5 _ => n - (intOf s5).toNat)
  case atStart => exact ⟨0, q, Nat.zero_le _, rfl, rfl, hq0, by omega, by simp [Lib.hid, cntRu], Lib.hid (Only.refl _ _ _), Lib.hid (KeepI.refl _), HR⟩
  case round =>
    obtain ⟨k, q2, hk, rfl, rfl, hq20, hq21, HQ, HO, HK, HM⟩ := hrel
    clear HR
    by_cases hlt : k < n
    · have hlt' : (k : Int) < (n : Int) := by omega
      have hk0 : (0 : Int) ≤ (k : Int) := by omega
      obtain ⟨g, R, r, l, rfl, hr, hl, hown, hbd, hmap, hro, hg, hg0, hg1, c0, c1, c2⟩ := HM.out.at hlt
      have hr2 : rs[k]? = some r := by
        have h1 : ((marksR q rs).take k).length = k := by rw [List.length_take, marksR_len]; have := HL.out; omega
        rw [List.getElem?_append_right (by omega), h1, Nat.sub_self, List.getElem?_drop, Nat.add_zero] at hr
        exact hr
      have hcle := cntR_le hr2
      have hcN := HN.out
      have hq2v := HQ.out
      have hc1 : cnt1 r = 1 + 3 * r.g.length + 2 * r.e.length := rfl
      have hgl := hro.g.len
      have hel := hro.e.len
      simp only at hgl hel
      have hq22 : q2 + (1 + 3 * R.gn + 2 * R.en) ≤ q + N := by omega
      have hgn := hro.gn
      have hen := hro.en
      simp only at hgn hen
      have HX := Lib.hid (show l[k]? = some (R, r) ∧ ROwn wr lo (some ⟨g, 0, none⟩) n c l ∧ RBd lo hi (some ⟨g, 0, none⟩) l ∧ l.map (·.2) = (marksR q rs).take k ++ rs.drop k ∧ rs[k]? = some r ∧ r.g.length = R.gn ∧ r.e.length = R.en from ⟨hl, hown, hbd, hmap, hr2, hgl, hel⟩)
      have hms : (markT q2).size ≤ maxLen := by have := markT_size hq20; unfold maxLen; omega
      obtain ⟨S, hS⟩ : ∃ S, S = markT q2 := ⟨_, rfl⟩
      have hT := fun wx => laws_markText (k := q2) (w := wx) hq20 (by omega)
      rw [← hS] at hms
      simp only [← hS] at hT
      have HS := Lib.hid hS
      have HTX := Lib.hid hT
      clear hr hl hown hbd hmap hro hr2 hcle hcN hq2v hc1 hgl hel hS hT
      go_wp2_with fail
      refine Calls.mono (HTX.out _) ?_
      rintro e w1 ⟨rfl, hb1⟩
      have ho1 := HX.out.2.1.keep hb1
      have hc := ho1.cells HX.out.1
      have hg9 := hc.1
      replace c0 := hc.2.1
      replace c1 := hc.2.2.1
      replace c2 := hc.2.2.2
      have hfz := ho1.row.free
      have HA := Lib.hid (ho1.setNm HX.out.1 S hms)
      have HO1 := Lib.hid (HO.out.then hb1)
      have HK1 := Lib.hid ((HK.out.trans (KeepI.below hb1)).trans (KeepI.grown (set_grown g (k * 3) (.string S)) (ho1.row.typ rfl) (by decide)))
      clear hc ho1 hg hb1
      go_wp2_with fail
      obtain ⟨wB, hwB⟩ : ∃ wB : World, wB = w1.setCell ⟨g, k * 3, none⟩ (.string S) := ⟨_, rfl⟩
      rw [← hwB] at HA HK1 ⊢
      have HO2 := Lib.hid (show Only lo hi w wB by rw [hwB]; exact HO1.out.set ⟨hg0, hg1⟩ _ _)
      have hl2 := set_at (x := (({ R with nm := S } : RM), ({ r with nm := S } : RuD))) HX.out.1
      have HL2 := Lib.hid hl2
      clear hl2 hwB HO1 c0 c1 c2 hfz hg9
      refine Calls.mono (laws_markTestS (HA.out.each _ (List.mem_of_getElem? HL2.out)).g hgn (by omega) (by omega)) ?_
      rintro e w2 ⟨rfl, ht, hg'⟩
      have HB := Lib.hid (HA.out.setG HL2.out ht hg')
      have HO3 := Lib.hid (HO2.out.trans (ht.only ((bd_set (x := (({ R with nm := S } : RM), ({ r with nm := S } : RuD))) HX.out.1 rfl rfl HX.out.2.2.1).2 _ (List.mem_of_getElem? HL2.out)).1))
      have HK2 := Lib.hid (HK1.out.trans (KeepI.touch ht (HA.out.each _ (List.mem_of_getElem? HL2.out)).g.typ (by decide)))
      have HL3 := Lib.hid (set_at (x := (({ R with nm := S } : RM), ({ nm := S, g := marks2b (q2 + 1) R.gn, e := r.e } : RuD))) HL2.out)
      have hc := HB.out.cells HL3.out
      have hg9 := hc.1
      have c0 := hc.2.1
      have c1 := hc.2.2.1
      have c2 := hc.2.2.2
      clear hc ht hg' 
      go_wp2_with fail
      refine Calls.mono (laws_markAssignS (HB.out.each _ (List.mem_of_getElem? HL3.out)).e hen (by omega) (by omega)) ?_
      rintro e w3 ⟨rfl, ht, he'⟩
      have HC := Lib.hid (HB.out.setE HL3.out ht he')
      have HO4 := Lib.hid (HO3.out.trans (ht.only ((bd_set (x := (({ R with nm := S } : RM), ({ nm := S, g := marks2b (q2 + 1) R.gn, e := r.e } : RuD))) HL2.out rfl rfl (bd_set (x := (({ R with nm := S } : RM), ({ r with nm := S } : RuD))) HX.out.1 rfl rfl HX.out.2.2.1)).2 _ (List.mem_of_getElem? HL3.out)).2))
      have HK3 := Lib.hid (HK2.out.trans (KeepI.touch ht (HB.out.each _ (List.mem_of_getElem? HL3.out)).e.typ (by decide)))
      clear ht he' c0 c1 c2 hg9
      go_wp2_with fail
      go_roundw
      case rel =>
        refine ⟨k + 1, q2 + 1 + 3 * R.gn + 2 * R.en, by omega, rfl, by go_num, by omega, by omega, ?_, HO4, HK3, ?_⟩
        · obtain ⟨_, _, _, _, h5, h6, h7⟩ := HX.out
          refine Lib.hid ?_
          rw [cntR_take h5, HQ.out, cnt1, h6, h7]; omega
        · obtain ⟨h1, _, h3, h4, h5, h6, h7⟩ := HX.out
          refine Lib.hid ⟨_, HC.out, bd_set HL3.out rfl rfl (bd_set HL2.out rfl rfl (bd_set h1 rfl rfl h3)), ?_⟩
          rw [map_set2, map_set2, map_set2, List.set_set, List.set_set, ← mixR h5 h4, mark1, ← HQ.out, ← HS.out, h6, h7]
      case measure => simp [intOf]; omega
    · obtain rfl : n = k := by omega
      have hlt' : ¬ (n : Int) < (n : Int) := by omega
      have hv : q2 = q + N := by have h1 := HQ.out; have h2 := HN.out; rw [take_len HL.out, h2] at h1; exact h1
      subst hv
      go_wp2
      go_ret
      refine ⟨rfl, HO.out, ?_, HK.out⟩
      have h1 := HM.out
      rw [List.drop_of_length_le (by have := HL.out; omega), List.append_nil, List.take_of_length_le (by rw [marksR_len]; have := HL.out; omega)] at h1
      exact h1
end Go.Proofs.Ytkaikbaagajckaa
namespace Go.Proofs.Ytkaikbaagajckaa
open Go.RowKit
set_option linter.unusedVariables false
set_option linter.unusedSimpArgs false
end Go.Proofs.Ytkaikbaagajckaa
namespace Go.Proofs.Ytkaikbaagajckaa
open Go.RowKit
set_option linter.unusedVariables false
set_option linter.unusedSimpArgs false
theorem Blk.wr {w : World} {b : Nat} {cs : Array Value} {T : TypeId} (h : Blk w b cs T) (i : Nat) (v : Value) : Blk (w.setCell ⟨b, i, none⟩ v) b (cs.setIfInBounds i v) T := by
  exact heap_setCell_same w b i cs T v h
/-- a model that is read, by what it means -/
structure MRd (w : World) (sa : Option Addr) (sn sc : Nat) (ta : Option Addr) (tn tc : Nat) (ra : Option Addr) (rn rc : Nat) (sz st : List Int) (rs : List RuD) : Prop where
  s : Ints w sa sn sc sz
  t : Ints w ta tn tc st
  r : ∃ l, FR w w ra rn rc l ∧ l.map (·.2) = rs
  sn : sn ≤ 1048576
  tn : tn ≤ 1048576
  rn : rn ≤ 1048576
/-- a model of the call's own -/
structure MOwn (w : World) (lo hi : Nat) (sa : Option Addr) (sn sc : Nat) (ta : Option Addr) (tn tc : Nat) (ra : Option Addr) (rn rc : Nat) (sz st : List Int) (rs : List RuD) : Prop where
  s : OwnI 2 w lo sa sn sc sz
  t : OwnI 2 w lo ta tn tc st
  r : MR w lo hi ra rn rc rs
  ap : Apart sa ta
  bs : inI lo hi sa
  bt : inI lo hi ta
  sn : sn ≤ 1048576
  tn : tn ≤ 1048576
  rn : rn ≤ 1048576
theorem MR.fr {w : World} {lo hi : Nat} {a : Option Addr} {n c : Nat} {rs : List RuD} (h : MR w lo hi a n c rs) : ∃ l, FR w w a n c l ∧ l.map (·.2) = rs := by
  obtain ⟨l, h1, h2, h3⟩ := h
  exact ⟨l, h1.fr, h3⟩
theorem FR.keep {w0 w w' : World} {a : Option Addr} {n c : Nat} {l : List (RM × RuD)} (h : FR w0 w a n c l) (hb0 : Below w0.heap.size w0 w') (hb : Below w.heap.size w w') : FR w' w' a n c l := by
  have hf := Flats.keep h hb
  exact ⟨hf.len, hf.cap, hf.pos, fun x hx => (hf.wf x hx).keep hb0, hf.nil⟩
theorem MR.keepTI {w w' : World} {lo hi m : Nat} {a a' : Option Addr} {n c : Nat} {rs : List RuD} (h : MR w lo hi a n c rs) (ty : ∀ {g : Nat}, a' = some ⟨g, 0, none⟩ → ∃ cur, w.heap[g]? = some (.cells cur 2 (0, 0))) (ht : Touch w w' m a') : MR w' lo hi a n c rs := by
  obtain ⟨l, h1, h2, h3⟩ := h
  refine ⟨l, ⟨h1.row.keepT ht (typ_apart h1.row.typ ty (by decide)), fun x hx => ?_, h1.apart⟩, h2, h3⟩
  have hh := h1.each x hx
  exact ⟨hh.nm, hh.nms, hh.g.keepT ht (typ_apart hh.g.typ ty (by decide)), hh.gn, hh.e.keepT ht (typ_apart hh.e.typ ty (by decide)), hh.en⟩
section
variable {w w' : World} {lo hi : Nat} {sa : Option Addr} {sn sc : Nat} {ta : Option Addr} {tn tc : Nat} {ra : Option Addr} {rn rc : Nat} {sz st : List Int} {rs : List RuD}
theorem MRd.keep (h : MRd w sa sn sc ta tn tc ra rn rc sz st rs) (hb : Below w.heap.size w w') : MRd w' sa sn sc ta tn tc ra rn rc sz st rs := by
  obtain ⟨l, h1, h2⟩ := h.r
  exact ⟨h.s.keep hb, h.t.keep hb, ⟨l, h1.keep hb hb, h2⟩, h.sn, h.tn, h.rn⟩
theorem MOwn.rd (h : MOwn w lo hi sa sn sc ta tn tc ra rn rc sz st rs) : MRd w sa sn sc ta tn tc ra rn rc sz st rs := ⟨h.s.ints, h.t.ints, h.r.fr, h.sn, h.tn, h.rn⟩
theorem MOwn.keep (h : MOwn w lo hi sa sn sc ta tn tc ra rn rc sz st rs) (hb : Below w.heap.size w w') : MOwn w' lo hi sa sn sc ta tn tc ra rn rc sz st rs := ⟨h.s.keep hb, h.t.keep hb, h.r.keep hb, h.ap, h.bs, h.bt, h.sn, h.tn, h.rn⟩
theorem MOwn.here (w1 w2 : World) (hk : ∀ k, lo ≤ k → k < hi → w2.heap[k]? = w1.heap[k]?) (h : MOwn w1 lo hi sa sn sc ta tn tc ra rn rc sz st rs) : MOwn w2 lo hi sa sn sc ta tn tc ra rn rc sz st rs :=
  ⟨OwnI.here h.bs w1 w2 hk h.s, OwnI.here h.bt w1 w2 hk h.t, MR.here w1 w2 hk h.r, h.ap, h.bs, h.bt, h.sn, h.tn, h.rn⟩
theorem MOwn.own (h : MOwn w lo hi sa sn sc ta tn tc ra rn rc sz st rs) (hh : hi ≤ w.heap.size) : Own (fun w => MOwn w lo hi sa sn sc ta tn tc ra rn rc sz st rs) lo hi w := ⟨h, hh, MOwn.here⟩
end
set_option maxHeartbeats 2000000 in
theorem laws_toModel {sa : Option Addr} {sn sc : Nat} {ta : Option Addr} {tn tc : Nat} {ra : Option Addr} {rn rc : Nat} {sz st : List Int} {rs : List RuD} {w : World} (h : MRd w sa sn sc ta tn tc ra rn rc sz st rs) :
    Calls Try.prog 32 #[.agg #[.slice sa sn sc, .slice ta tn tc, .slice ra rn rc]] w fun e w' => ∃ g1 g2 g3 : Nat, e = .returned (.agg #[.slice (some ⟨g1, 0, none⟩) sn sn, .slice (some ⟨g2, 0, none⟩) tn tn, .slice (some ⟨g3, 0, none⟩) rn rn]) ∧ Below w.heap.size w w' ∧
      MOwn w' w.heap.size w'.heap.size (some ⟨g1, 0, none⟩) sn sn (some ⟨g2, 0, none⟩) tn tn (some ⟨g3, 0, none⟩) rn rn sz st rs := by
  have HM := Lib.hid h
  have hsn := h.sn
  have htn := h.tn
  have hrn := h.rn
  clear h
  go_enter Try.func32, Try.ntmps32
  go_wp2_with fail
  obtain ⟨wA, hwA⟩ : ∃ wA : World, wA = (((w.alloc (.cells #[.slice sa sn sc, .slice ta tn tc, .slice ra rn rc] 52)).alloc (.cells #[.slice none 0 0, .slice none 0 0, .slice none 0 0] 59)).alloc (.cells #[.slice none 0 0, .slice none 0 0, .slice none 0 0] 59)) := ⟨_, rfl⟩
  have X := Lib.hid (show Blk wA w.heap.size #[.slice sa sn sc, .slice ta tn tc, .slice ra rn rc] 52 by rw [hwA]; exact ((Blk.made _ _ _).keep (by repeat (first | exact Below.refl _ _ | assumption | refine below_allocS ?_ _ | refine below_callS ?_ (by assumption) | (refine Below.alloc ?_ (by first | omega | (simp; done) | (simp; omega)) _) | (refine Below.setCell ?_ (by first | omega | (simp; done) | (simp; omega)) _) | refine Below.drew ?_ | refine below_drewN ?_ _ | (refine below_call ?_ (by assumption) (by first | omega | (simp; done) | (simp; omega))) | (refine Below.trans ?_ (by assumption))))))
  have Y := Lib.hid (show Blk wA (w.heap.size + 1) #[.slice none 0 0, .slice none 0 0, .slice none 0 0] 59 by rw [hwA]; have h := ((Blk.made (w.alloc (.cells #[.slice sa sn sc, .slice ta tn tc, .slice ra rn rc] 52)) #[.slice none 0 0, .slice none 0 0, .slice none 0 0] 59).keep ((Below.refl _ _).alloc (Nat.le_refl _) (.cells #[.slice none 0 0, .slice none 0 0, .slice none 0 0] 59))); simpa using h)
  have Z := Lib.hid (show Blk wA (w.heap.size + 1 + 1) #[.slice none 0 0, .slice none 0 0, .slice none 0 0] 59 by rw [hwA]; have h := (Blk.made ((w.alloc (.cells #[.slice sa sn sc, .slice ta tn tc, .slice ra rn rc] 52)).alloc (.cells #[.slice none 0 0, .slice none 0 0, .slice none 0 0] 59)) #[.slice none 0 0, .slice none 0 0, .slice none 0 0] 59); simpa using h)
  have hbA : Below w.heap.size w wA := by rw [hwA]; repeat (first | exact Below.refl _ _ | assumption | refine below_allocS ?_ _ | refine below_callS ?_ (by assumption) | (refine Below.alloc ?_ (by first | omega | (simp; done) | (simp; omega)) _) | (refine Below.setCell ?_ (by first | omega | (simp; done) | (simp; omega)) _) | refine Below.drew ?_ | refine below_drewN ?_ _ | (refine below_call ?_ (by assumption) (by first | omega | (simp; done) | (simp; omega))) | (refine Below.trans ?_ (by assumption)))
  have hsA : w.heap.size + 1 + 1 < wA.heap.size := by have := Z.out.lt; exact this
  rw [← hwA]
  clear hwA
  refine Calls.mono (laws_toInt64S_g (HM.out.s.keep hbA) hsn) ?_
  rintro e w1 ⟨g1, rfl, hb1, ho1⟩
  have kg1 := ho1.blk g1 rfl
  have O1 := Lib.hid (ho1.le (show w.heap.size + 1 + 1 + 1 ≤ wA.heap.size by omega))
  have hs1 := hb1.size
  have hbl1 : Below w.heap.size w w1 := below_callS hbA hb1
  replace X := Lib.hid (X.out.keep hb1)
  replace Y := Lib.hid (Y.out.keep hb1)
  replace Z := Lib.hid (Z.out.keep hb1)
  clear ho1 hb1
  have x0 := X.out.cell 0
  have x1 := X.out.cell 1
  have x2 := X.out.cell 2
  have xl := X.out.lt
  have zl := Z.out.lt
  have zf := Z.out.free
  have z0 := Z.out.cell 0
  have z1 := Z.out.cell 1
  have z2 := Z.out.cell 2
  simp at x0 x1 x2 z0 z1 z2
  go_wp2_with fail
  obtain ⟨wB, hwwB⟩ : ∃ wB : World, wB = w1.setCell ⟨w.heap.size + 1 + 1, 0, none⟩ (.slice (some ⟨g1, 0, none⟩) sn sn) := ⟨_, rfl⟩
  rw [← hwwB]
  clear x0 x1 x2 xl zl zf z0 z1 z2
  have sgwB : w1.grownBy wB (some (w.heap.size + 1 + 1)) := by rw [hwwB]; exact set_grown _ _ _
  have hblwB : Below w.heap.size w wB := by rw [hwwB]; repeat (first | exact Below.refl _ _ | assumption | refine below_allocS ?_ _ | refine below_callS ?_ (by assumption) | (refine Below.alloc ?_ (by first | omega | (simp; done) | (simp; omega)) _) | (refine Below.setCell ?_ (by first | omega | (simp; done) | (simp; omega)) _) | refine Below.drew ?_ | refine below_drewN ?_ _ | (refine below_call ?_ (by assumption) (by first | omega | (simp; done) | (simp; omega))) | (refine Below.trans ?_ (by assumption)))
  have hswB : w1.heap.size ≤ wB.heap.size := sgwB.size
  replace X := Lib.hid (X.out.keepG sgwB (by simp; omega))
  replace Y := Lib.hid (Y.out.keepG sgwB (by simp))
  replace O1 := Lib.hid (O1.out.keepG sgwB (fun g e => by simp at e ⊢; omega))
  have ZwB := Lib.hid (Z.out.wr 0 (.slice (some ⟨g1, 0, none⟩) sn sn))
  rw [← hwwB] at ZwB
  clear Z hwwB sgwB
  have Z := ZwB
  clear ZwB
  simp at Z
  refine Calls.mono (laws_toInt64S_g (HM.out.t.keep hblwB) htn) ?_
  rintro e w2 ⟨g2, rfl, hb2, ho2⟩
  have kg2 := ho2.blk g2 rfl
  have O2 := Lib.hid (ho2.le (show w.heap.size + 1 + 1 + 1 ≤ wB.heap.size by omega))
  have hs2 := hb2.size
  have hbl2 : Below w.heap.size w w2 := below_callS hblwB hb2
  replace X := Lib.hid (X.out.keep hb2)
  replace Y := Lib.hid (Y.out.keep hb2)
  replace Z := Lib.hid (Z.out.keep hb2)
  replace O1 := Lib.hid (O1.out.keep hb2)
  clear ho2 hb2
  have x0 := X.out.cell 0
  have x1 := X.out.cell 1
  have x2 := X.out.cell 2
  have xl := X.out.lt
  have zl := Z.out.lt
  have zf := Z.out.free
  have z0 := Z.out.cell 0
  have z1 := Z.out.cell 1
  have z2 := Z.out.cell 2
  simp at x0 x1 x2 z0 z1 z2
  go_wp2_with fail
  obtain ⟨wC, hwwC⟩ : ∃ wC : World, wC = w2.setCell ⟨w.heap.size + 1 + 1, 1, none⟩ (.slice (some ⟨g2, 0, none⟩) tn tn) := ⟨_, rfl⟩
  rw [← hwwC]
  clear x0 x1 x2 xl zl zf z0 z1 z2
  have sgwC : w2.grownBy wC (some (w.heap.size + 1 + 1)) := by rw [hwwC]; exact set_grown _ _ _
  have hblwC : Below w.heap.size w wC := by rw [hwwC]; repeat (first | exact Below.refl _ _ | assumption | refine below_allocS ?_ _ | refine below_callS ?_ (by assumption) | (refine Below.alloc ?_ (by first | omega | (simp; done) | (simp; omega)) _) | (refine Below.setCell ?_ (by first | omega | (simp; done) | (simp; omega)) _) | refine Below.drew ?_ | refine below_drewN ?_ _ | (refine below_call ?_ (by assumption) (by first | omega | (simp; done) | (simp; omega))) | (refine Below.trans ?_ (by assumption)))
  have hswC : w2.heap.size ≤ wC.heap.size := sgwC.size
  replace X := Lib.hid (X.out.keepG sgwC (by simp; omega))
  replace Y := Lib.hid (Y.out.keepG sgwC (by simp))
  replace O1 := Lib.hid (O1.out.keepG sgwC (fun g e => by simp at e ⊢; omega))
  replace O2 := Lib.hid (O2.out.keepG sgwC (fun g e => by simp at e ⊢; omega))
  have ZwC := Lib.hid (Z.out.wr 1 (.slice (some ⟨g2, 0, none⟩) tn tn))
  rw [← hwwC] at ZwC
  clear Z hwwC sgwC
  have Z := ZwC
  clear ZwC
  simp at Z
  have hRR := HM.out.r
  obtain ⟨l, hl1, hl2⟩ := hRR
  refine Calls.mono (laws_toRuleS (hl1.keep hblwC hblwC) hrn) ?_
  rintro e w3 ⟨l', rfl, hb3, ho3, hm3⟩
  obtain ⟨g3, hg3⟩ : ∃ g3 : Nat, g3 = wC.heap.size := ⟨_, rfl⟩
  rw [← hg3] at ho3 ⊢
  have kg3 := ho3.row.blk g3 rfl
  have O3 := Lib.hid ho3
  have HL := Lib.hid (hm3.trans hl2)
  have hs3 := hb3.size
  have hbl3 : Below w.heap.size w w3 := below_callS hblwC hb3
  replace X := Lib.hid (X.out.keep hb3)
  replace Y := Lib.hid (Y.out.keep hb3)
  replace Z := Lib.hid (Z.out.keep hb3)
  replace O1 := Lib.hid (O1.out.keep hb3)
  replace O2 := Lib.hid (O2.out.keep hb3)
  clear ho3 hb3 hl1 hl2 hm3
  have x0 := X.out.cell 0
  have x1 := X.out.cell 1
  have x2 := X.out.cell 2
  have xl := X.out.lt
  have zl := Z.out.lt
  have zf := Z.out.free
  have z0 := Z.out.cell 0
  have z1 := Z.out.cell 1
  have z2 := Z.out.cell 2
  simp at x0 x1 x2 z0 z1 z2
  have yl := Y.out.lt
  have yf := Y.out.free
  have y0 := Y.out.cell 0
  have y1 := Y.out.cell 1
  have y2 := Y.out.cell 2
  simp at y0 y1 y2
  go_wp2
  subst hg3
  have hw9 : ∀ wx : World, wx = ((((w3.setCell ⟨w.heap.size + 1 + 1, 2, none⟩ (.slice (some ⟨wC.heap.size, 0, none⟩) rn rn)).setCell ⟨w.heap.size + 1, 0, none⟩ (.slice (some ⟨g1, 0, none⟩) sn sn)).setCell ⟨w.heap.size + 1, 1, none⟩ (.slice (some ⟨g2, 0, none⟩) tn tn)).setCell ⟨w.heap.size + 1, 2, none⟩ (.slice (some ⟨wC.heap.size, 0, none⟩) rn rn)) → Below w.heap.size w wx ∧ MOwn wx w.heap.size wx.heap.size (some ⟨g1, 0, none⟩) sn sn (some ⟨g2, 0, none⟩) tn tn (some ⟨wC.heap.size, 0, none⟩) rn rn sz st rs := by
    intro wx hwx
    have h1 : w3.grownBy (w3.setCell ⟨w.heap.size + 1 + 1, 2, none⟩ (.slice (some ⟨wC.heap.size, 0, none⟩) rn rn)) (some (w.heap.size + 1 + 1)) := set_grown _ _ _
    have h2 : (w3.setCell ⟨w.heap.size + 1 + 1, 2, none⟩ (.slice (some ⟨wC.heap.size, 0, none⟩) rn rn)).grownBy wx (some (w.heap.size + 1)) := by rw [hwx]; exact grownBy_set (grownBy_set (set_grown _ _ _) _ _) _ _
    have hon : Only (w.heap.size + 1) (w.heap.size + 1 + 1 + 1) w3 wx := ((Only.refl _ _ _).grown h1 (fun k e => by cases e; omega)).grown h2 (fun k e => by cases e; omega)
    have hsz := hon.size
    refine ⟨hon.below hbl3 (by omega) (by omega), ⟨(O1.out.only hon (fun g e => by simp at e; omega)).le (by omega), (O2.out.only hon (fun g e => by simp at e; omega)).le (by omega), ?_, fun g e1 e2 => by simp at e1 e2; omega, fun g e => by simp at e; omega, fun g e => by simp at e; omega, hsn, htn, hrn⟩⟩
    have hbd := O3.out.bd
    refine ⟨l', (ROwn.here hbd w3 wx (fun k hk1 hk2 => hon.block k hk2 (.inr (by omega))) O3.out).le (by omega), ⟨fun g e => ?_, fun x hx => ⟨fun g e => ?_, fun g e => ?_⟩⟩, HL.out⟩
    · have := hbd.1 g e; omega
    · have := (hbd.2 x hx).1 g e; omega
    · have := (hbd.2 x hx).2 g e; omega
  have H9 := Lib.hid hw9
  clear hw9
  exact bodyPost_ret (v := .agg #[.slice (some ⟨g1, 0, none⟩) sn sn, .slice (some ⟨g2, 0, none⟩) tn tn, .slice (some ⟨wC.heap.size, 0, none⟩) rn rn]) (by simp [results, Try.results32, go_sem, *]) rfl ⟨g1, g2, wC.heap.size, rfl, (H9.out _ rfl).1, (H9.out _ rfl).2⟩
set_option maxHeartbeats 2000000 in
theorem laws_eqModel {sa sa' : Option Addr} {sn sc sn' sc' : Nat} {ta ta' : Option Addr} {tn tc tn' tc' : Nat} {ra ra' : Option Addr} {rn rc rn' rc' : Nat} {sz st : List Int} {rs : List RuD} {w : World} (h : MRd w sa sn sc ta tn tc ra rn rc sz st rs) (h' : MRd w sa' sn' sc' ta' tn' tc' ra' rn' rc' sz st rs) :
    Calls Try.prog 36 #[.agg #[.slice sa sn sc, .slice ta tn tc, .slice ra rn rc], .agg #[.slice sa' sn' sc', .slice ta' tn' tc', .slice ra' rn' rc']] w fun e w' => e = .returned (.bool true) ∧ Below w.heap.size w w' := by
  obtain ⟨l, hl, hlr⟩ := h.r
  obtain ⟨l', hl', hlr'⟩ := h'.r
  obtain rfl : rn' = rn := by rw [← hl'.len, ← hl.len, ← List.length_map (f := (·.2)), hlr', ← hlr, List.length_map]
  have K1 := Lib.hid (fun (wx : World) (hb : Below w.heap.size w wx) => laws_eqInt64S (h.s.keep hb) (h'.s.keep hb) h.sn h'.sn)
  have K2 := Lib.hid (fun (wx : World) (hb : Below w.heap.size w wx) => laws_eqInt64S (h.t.keep hb) (h'.t.keep hb) h.tn h'.tn)
  have K3 := Lib.hid (fun (wx : World) (hb : Below w.heap.size w wx) => laws_eqRuleS (hl.keep hb hb) (hl'.keep hb hb) (hlr.trans hlr'.symm) h.rn)
  simp only [decide_true] at K1 K2
  clear h h' hl hl' hlr hlr'
  go_enter Try.func36, Try.ntmps36
  go_wp2_with fail
  refine Calls.mono (K1.out _ (by repeat (first | exact Below.refl _ _ | assumption | refine below_allocS ?_ _ | refine below_callS ?_ (by assumption) | (refine Below.alloc ?_ (by first | omega | (simp; done) | (simp; omega)) _) | (refine Below.setCell ?_ (by first | omega | (simp; done) | (simp; omega)) _) | refine Below.drew ?_ | refine below_drewN ?_ _ | (refine below_call ?_ (by assumption) (by first | omega | (simp; done) | (simp; omega))) | (refine Below.trans ?_ (by assumption))))) ?_
  rintro e w1 ⟨rfl, hb_w1⟩
  obtain ⟨hc_w1, hf_w1⟩ := bcell hb_w1
  have hs_w1 := hb_w1.size
  simp at hs_w1
  have hz1 : w.heap.size < w1.heap.size := by omega
  have hz2 : w.heap.size + 1 < w1.heap.size := by omega
  go_wp2_with fail
  refine Calls.mono (K2.out _ (by repeat (first | exact Below.refl _ _ | assumption | refine below_allocS ?_ _ | refine below_callS ?_ (by assumption) | (refine Below.alloc ?_ (by first | omega | (simp; done) | (simp; omega)) _) | (refine Below.setCell ?_ (by first | omega | (simp; done) | (simp; omega)) _) | refine Below.drew ?_ | refine below_drewN ?_ _ | (refine below_call ?_ (by assumption) (by first | omega | (simp; done) | (simp; omega))) | (refine Below.trans ?_ (by assumption))))) ?_
  rintro e w2 ⟨rfl, hb_w2⟩
  obtain ⟨hc_w2, hf_w2⟩ := bcell hb_w2
  have hs_w2 := hb_w2.size
  have hz3 : w.heap.size < w2.heap.size := by omega
  have hz4 : w.heap.size + 1 < w2.heap.size := by omega
  go_wp2_with fail
  refine Calls.mono (K3.out _ (by repeat (first | exact Below.refl _ _ | assumption | refine below_allocS ?_ _ | refine below_callS ?_ (by assumption) | (refine Below.alloc ?_ (by first | omega | (simp; done) | (simp; omega)) _) | (refine Below.setCell ?_ (by first | omega | (simp; done) | (simp; omega)) _) | refine Below.drew ?_ | refine below_drewN ?_ _ | (refine below_call ?_ (by assumption) (by first | omega | (simp; done) | (simp; omega))) | (refine Below.trans ?_ (by assumption))))) ?_
  rintro e w3 ⟨rfl, hb_w3⟩
  obtain ⟨hc_w3, hf_w3⟩ := bcell hb_w3
  have hs_w3 := hb_w3.size
  go_wp2
  go_ret
  exact ⟨rfl, by repeat (first | exact Below.refl _ _ | assumption | refine below_allocS ?_ _ | refine below_callS ?_ (by assumption) | (refine Below.alloc ?_ (by first | omega | (simp; done) | (simp; omega)) _) | (refine Below.setCell ?_ (by first | omega | (simp; done) | (simp; omega)) _) | refine Below.drew ?_ | refine below_drewN ?_ _ | (refine below_call ?_ (by assumption) (by first | omega | (simp; done) | (simp; omega))) | (refine Below.trans ?_ (by assumption)))⟩
set_option maxHeartbeats 2000000 in
theorem laws_markModel {lo hi N : Nat} {sa : Option Addr} {sn sc : Nat} {ta : Option Addr} {tn tc : Nat} {ra : Option Addr} {rn rc : Nat} {sz st : List Int} {rs : List RuD} {q : Int} {w : World} (h : MOwn w lo hi sa sn sc ta tn tc ra rn rc sz st rs) (hN : cntRu rs = N) (hq0 : 0 ≤ q) (hq1 : q + sn + tn + N ≤ 1099511627776) (hhi : hi ≤ w.heap.size) :
    Calls Try.prog 38 #[.agg #[.slice sa sn sc, .slice ta tn tc, .slice ra rn rc], .int .i64 q] w fun e w' => e = .returned (.int .i64 (q + sn + tn + N)) ∧ Only lo hi w w' ∧ MOwn w' lo hi sa sn sc ta tn tc ra rn rc (marksI q sn) (marksI (q + sn) tn) (marksR (q + sn + tn) rs) := by
  have HM := Lib.hid h
  have hsn := h.sn
  have htn := h.tn
  have hrn := h.rn
  clear h
  go_enter Try.func38, Try.ntmps38
  go_wp2_with fail
  obtain ⟨wA, hwA⟩ : ∃ wA : World, wA = w.alloc (.cells #[.slice sa sn sc, .slice ta tn tc, .slice ra rn rc] 59) := ⟨_, rfl⟩
  have X := Lib.hid (show Blk wA w.heap.size #[.slice sa sn sc, .slice ta tn tc, .slice ra rn rc] 59 by rw [hwA]; exact Blk.made _ _ _)
  have hbA : Below w.heap.size w wA := by rw [hwA]; repeat (first | exact Below.refl _ _ | assumption | refine below_allocS ?_ _ | refine below_callS ?_ (by assumption) | (refine Below.alloc ?_ (by first | omega | (simp; done) | (simp; omega)) _) | (refine Below.setCell ?_ (by first | omega | (simp; done) | (simp; omega)) _) | refine Below.drew ?_ | refine below_drewN ?_ _ | (refine below_call ?_ (by assumption) (by first | omega | (simp; done) | (simp; omega))) | (refine Below.trans ?_ (by assumption)))
  rw [← hwA]
  clear hwA
  have S0 := (HM.out.keep hbA).s
  have T0 := (HM.out.keep hbA).t
  have R0 := (HM.out.keep hbA).r
  have HO := Lib.hid (Only.of_below (lo := lo) (hi := hi) hbA)
  refine Calls.mono (laws_markInt64S S0 hsn hq0 (by omega)) ?_
  rintro e w1 ⟨rfl, ht, ho⟩
  have S1 := Lib.hid ho
  have T1 := Lib.hid (T0.keepT ht HM.out.ap.symm)
  have R1 := Lib.hid (R0.keepTI S0.typ ht)
  have ho1 := ht.only HM.out.bs
  replace X := Lib.hid (X.out.apart ho1 (.inr hhi))
  replace HO := Lib.hid (HO.out.trans ho1)
  have xl := X.out.lt
  have x0 := X.out.cell 0
  have x1 := X.out.cell 1
  have x2 := X.out.cell 2
  simp at x0 x1 x2
  clear ht ho ho1 S0 T0 R0 hbA
  go_wp2_with fail
  refine Calls.mono (laws_markInt64S T1.out htn (by omega) (by omega)) ?_
  rintro e w2 ⟨rfl, ht, ho⟩
  have T2 := Lib.hid ho
  have S2 := Lib.hid (S1.out.keepT ht HM.out.ap)
  have R2 := Lib.hid (R1.out.keepTI T1.out.typ ht)
  have ho1 := ht.only HM.out.bt
  replace X := Lib.hid (X.out.apart ho1 (.inr hhi))
  replace HO := Lib.hid (HO.out.trans ho1)
  clear xl x0 x1 x2
  have xl := X.out.lt
  have x0 := X.out.cell 0
  have x1 := X.out.cell 1
  have x2 := X.out.cell 2
  simp at x0 x1 x2
  clear ht ho ho1 T1 R1 S1
  go_wp2_with fail
  refine Calls.mono (laws_markRuleS R2.out hN hrn (by omega) (by omega)) ?_
  rintro e w3 ⟨rfl, ho1, hr, hk⟩
  have S3 := Lib.hid (S2.out.keepK hk)
  have T3 := Lib.hid (T2.out.keepK hk)
  have R3 := Lib.hid hr
  replace HO := Lib.hid (HO.out.trans ho1)
  clear xl x0 x1 x2 ho1 hr hk
  go_wp2
  go_ret
  exact ⟨rfl, HO.out, S3.out, T3.out, R3.out, HM.out.ap, HM.out.bs, HM.out.bt, hsn, htn, hrn⟩
end Go.Proofs.Ytkaikbaagajckaa
namespace Go.Proofs.Ytkaikbaagajckaa
open Go.RowKit
set_option linter.unusedVariables false
set_option linter.unusedSimpArgs false
/-- rules as they are meant, laid nowhere -/
def rsM (rs : List RuD) : List (RM × RuD) := rs.map fun r => (⟨r.nm, none, 0, 0, none, 0, 0⟩, r)
theorem rsM_map (rs : List RuD) : (rsM rs).map (·.2) = rs := by simp [rsM, Function.comp_def]
theorem rulesB_map {sz : List Int} {l : List (RM × RuD)} : rulesB sz l = (l.map (·.2)).all (ruleB sz) := by
  rw [rulesB, List.all_map]; rfl
theorem modelB_rs {sz st : List Int} {l : List (RM × RuD)} {rs : List RuD} (h : l.map (·.2) = rs) : modelB sz st l = modelB sz st (rsM rs) := by
  subst h
  rw [modelB, modelB, rulesB_map, rulesB_map, rsM_map]
  simp [rsM]
theorem bmL_rs {sz st : List Int} {l : List (RM × RuD)} {rs : List RuD} (h : l.map (·.2) = rs) : bmL sz st l = bmL sz st (rsM rs) := by rw [bmL, bmL, modelB_rs h]
theorem bmC_rs {sz st : List Int} {l : List (RM × RuD)} {rs : List RuD} (h : l.map (·.2) = rs) : bmC sz st l = bmC sz st (rsM rs) := by rw [bmC, bmC, modelB_rs h]
theorem bmL_len (sz st : List Int) (l : List (RM × RuD)) : (bmL sz st l).length ≤ sz.length := by
  rw [bmL]; split <;> simp
theorem FX.keepX {w w' : World} {a : Option Addr} {n c : Nat} {l : List (RM × RuD)} (h : FX w w a n c l) (hb : Below w.heap.size w w') : FX w' w' a n c l := by
  have hf := Flats.keep h hb
  exact ⟨hf.len, hf.cap, hf.pos, fun x hx => by obtain ⟨q1, q2, q3, q4, q5, q6⟩ := hf.wf x hx; exact ⟨q1, q2, q3.keep hb, q4, q5.keep hb, q6⟩, hf.nil⟩
theorem need_mem {l : List (RM × RuD)} {x : RM × RuD} (h : x ∈ l) : need1 x ≤ need l := by
  obtain ⟨k, hk⟩ := List.getElem?_of_mem h
  have := need_le hk
  omega
theorem cnt_need {l : List (RM × RuD)} (h : ∀ x ∈ l, x.2.g.length = x.1.gn ∧ x.2.e.length = x.1.en) : cntRu (l.map (·.2)) ≤ l.length + 3 * need l := by
  induction l with
  | nil => simp [cntRu, need]
  | cons x r ih =>
    have h1 := ih fun y hy => h y (List.mem_cons_of_mem _ hy)
    have h2 := h x (List.mem_cons_self ..)
    have e1 : cntRu ((x :: r).map (·.2)) = cnt1 x.2 + cntRu (r.map (·.2)) := by simp [cntRu]
    have e2 : need (x :: r) = need1 x + need r := by simp [need]
    have e3 : cnt1 x.2 = 1 + 3 * x.2.g.length + 2 * x.2.e.length := rfl
    have e4 : need1 x = x.1.nm.size + x.1.gn + x.1.en := rfl
    rw [List.length_cons]
    omega
theorem mrd_of {w : World} {sa : Option Addr} {sn sc : Nat} {ta : Option Addr} {tn tc : Nat} {ra : Option Addr} {rn rc N : Nat} {sz st : List Int} {l : List (RM × RuD)} {rs : List RuD} (hS : Ints w sa sn sc sz) (hT : Ints w ta tn tc st) (hR : FX w w ra rn rc l) (hrs : l.map (·.2) = rs) (hN : sn + tn + (rn + need l) = N) (hn : N ≤ 1048576) : MRd w sa sn sc ta tn tc ra rn rc sz st rs := by
  refine ⟨hS, hT, ⟨l, ⟨hR.len, hR.cap, hR.pos, fun x hx => ?_, hR.nil⟩, hrs⟩, by omega, by omega, by omega⟩
  obtain ⟨q1, q2, q3, q4, q5, q6⟩ := hR.wf x hx
  have h1 := need_mem hx
  have e4 : need1 x = x.1.nm.size + x.1.gn + x.1.en := rfl
  exact ⟨q1, q2, q3, by omega, q5, by omega⟩
theorem cnt_of {w : World} {ra : Option Addr} {sn tn rn rc N : Nat} {l : List (RM × RuD)} {rs : List RuD} (hR : FX w w ra rn rc l) (hrs : l.map (·.2) = rs) (hN : sn + tn + (rn + need l) = N) : cntRu rs ≤ 3 * N := by
  rw [← hrs]
  have h1 := cnt_need (l := l) fun x hx => by
    obtain ⟨q1, q2, q3, q4, q5, q6⟩ := hR.wf x hx
    exact ⟨q3.len, q5.len⟩
  have h2 := hR.len
  omega
theorem laws_szModelN {sa ta ra : Option Addr} {sn sc tn tc rn rc N : Nat} {l : List (RM × RuD)} {m : Int} {w : World} (hR : FX w w ra rn rc l) (hs : (sn : Int) ≤ 9223372036854775807) (ht : (tn : Int) ≤ 9223372036854775807) (hr : (rn : Int) ≤ 9223372036854775807) (hm : 0 ≤ m) (hm' : m ≤ 1048576) (hN : sn + tn + (rn + need l) = N) :
    Calls Try.prog 29 #[.agg #[.slice sa sn sc, .slice ta tn tc, .slice ra rn rc], .int .i64 m] w fun e w' => e = .returned (.int .i64 (if m < (N : Int) then -1 else m - N)) ∧ Below w.heap.size w w' := by
  have h := laws_szModel (sa := sa) (sc := sc) (ta := ta) (tc := tc) hR hs ht hr hm hm'
  rw [hN] at h
  exact h
theorem spec_BitsOfModel_r {sa : Option Addr} {sn sc : Nat} {ta : Option Addr} {tn tc : Nat} {ra : Option Addr} {rn rc : Nat} {sz st : List Int} {rs : List RuD} {w : World} (h : MRd w sa sn sc ta tn tc ra rn rc sz st rs) :
    Calls Try.prog 50 #[.agg #[.slice sa sn sc, .slice ta tn tc, .slice ra rn rc]] w fun e w' => RetIC 2 w (bmL sz st (rsM rs)) (bmC sz st (rsM rs)) e w' := by
  obtain ⟨l, h1, h2⟩ := h.r
  have := spec_BitsOfModel h.s h.sn h.t h.tn h1 h.rn
  rw [bmL_rs h2, bmC_rs h2] at this
  exact this
theorem impl_BitsOfModel_r {sa : Option Addr} {sn sc : Nat} {ta : Option Addr} {tn tc : Nat} {ra : Option Addr} {rn rc : Nat} {sz st : List Int} {rs : List RuD} {w : World} (h : MRd w sa sn sc ta tn tc ra rn rc sz st rs) :
    Calls Try.prog 49 #[.agg #[.slice sa sn sc, .slice ta tn tc, .slice ra rn rc]] w fun e w' => RetIC 2 w (bmL sz st (rsM rs)) (bmC sz st (rsM rs)) e w' := by
  obtain ⟨l, h1, h2⟩ := h.r
  have := impl_BitsOfModel h.s h.sn h.t h.tn h1 h.rn
  rw [bmL_rs h2, bmC_rs h2] at this
  exact this
end Go.Proofs.Ytkaikbaagajckaa
namespace Go.Proofs.Ytkaikbaagajckaa
open Go.RowKit
set_option linter.unusedVariables false
set_option linter.unusedSimpArgs false
theorem bsC_rs {sz st vs : List Int} {l : List (RM × RuD)} {rs : List RuD} (h : l.map (·.2) = rs) : bsC sz st l vs = bsC sz st (rsM rs) vs := by rw [bsC, bsC, modelB_rs h]
theorem bsL_rs {sz st vs : List Int} {l : List (RM × RuD)} {rs : List RuD} (h : l.map (·.2) = rs) : bsL sz st l vs = bsL sz st (rsM rs) vs := by rw [bsL, bsL, bsC_rs h]
theorem soC_rs {sz st vs : List Int} {l : List (RM × RuD)} {rs : List RuD} (h : l.map (·.2) = rs) : soC sz st l vs = soC sz st (rsM rs) vs := by rw [soC, soC, modelB_rs h]
theorem soL_rs {sz st vs : List Int} {l : List (RM × RuD)} {rs : List RuD} (h : l.map (·.2) = rs) : soL sz st l vs = soL sz st (rsM rs) vs := by rw [soL, soL, soC_rs h]
theorem wN_5 (z : Int) : (wN z).toNat ≤ 5 := by unfold wN; omega
theorem stBits_len (sz vs : List Int) : (stBits sz vs).length ≤ 5 * vs.length := by
  rw [stBits]
  have : ∀ l : List (Int × Int), (l.flatMap fun p => bitsDn p.1 (wN p.2).toNat).length ≤ 5 * l.length := fun l => by
    induction l with
    | nil => simp
    | cons p r ih =>
      rw [List.flatMap_cons, List.length_append, bitsDn_len, List.length_cons]
      have := wN_5 p.2
      omega
  refine Nat.le_trans (this _) ?_
  have : (vs.zip sz).length ≤ vs.length := by rw [List.length_zip]; omega
  omega
theorem bsL_len (sz st : List Int) (l : List (RM × RuD)) (vs : List Int) : (bsL sz st l vs).length ≤ 80 := by
  rw [bsL]
  split
  · rename_i h
    have hm : modelB sz st l = true := by cases hm : modelB sz st l with | true => rfl | false => rw [bsC, if_pos hm] at h; cases h
    have hs : stateB sz vs = true := by cases hs : stateB sz vs with | true => rfl | false => rw [bsC, if_neg (by simp [hm]), if_pos hs] at h; cases h
    have h1 := stBits_len sz vs
    have h2 := stateB_len hs
    have h3 := modelB_len hm
    omega
  · simp
theorem soL_len (sz st : List Int) (l : List (RM × RuD)) (vs : List Int) : (soL sz st l vs).length ≤ sz.length := by
  rw [soL]
  split
  · simp [stV]
  · simp
theorem spec_BitsOfState_r {sa : Option Addr} {sn sc : Nat} {ta : Option Addr} {tn tc : Nat} {ra : Option Addr} {rn rc : Nat} {sz st : List Int} {rs : List RuD} {va : Option Addr} {vn vc : Nat} {vs : List Int} {w : World} (h : MRd w sa sn sc ta tn tc ra rn rc sz st rs) (hV : Ints w va vn vc vs) (hv : vn ≤ 1048576) :
    Calls Try.prog 44 #[.agg #[.slice sa sn sc, .slice ta tn tc, .slice ra rn rc], .slice va vn vc] w fun e w' => RetIC 2 w (bsL sz st (rsM rs) vs) (bsC sz st (rsM rs) vs) e w' := by
  obtain ⟨l, h1, h2⟩ := h.r
  have := spec_BitsOfState h.s h.sn h.t h.tn h1 h.rn hV hv
  rw [bsL_rs h2, bsC_rs h2] at this
  exact this
theorem impl_BitsOfState_r {sa : Option Addr} {sn sc : Nat} {ta : Option Addr} {tn tc : Nat} {ra : Option Addr} {rn rc : Nat} {sz st : List Int} {rs : List RuD} {va : Option Addr} {vn vc : Nat} {vs : List Int} {w : World} (h : MRd w sa sn sc ta tn tc ra rn rc sz st rs) (hV : Ints w va vn vc vs) (hv : vn ≤ 1048576) :
    Calls Try.prog 43 #[.agg #[.slice sa sn sc, .slice ta tn tc, .slice ra rn rc], .slice va vn vc] w fun e w' => RetIC 2 w (bsL sz st (rsM rs) vs) (bsC sz st (rsM rs) vs) e w' := by
  obtain ⟨l, h1, h2⟩ := h.r
  have := impl_BitsOfState h.s h.sn h.t h.tn h1 h.rn hV hv
  rw [bsL_rs h2, bsC_rs h2] at this
  exact this
theorem spec_StateOfBits_r {sa : Option Addr} {sn sc : Nat} {ta : Option Addr} {tn tc : Nat} {ra : Option Addr} {rn rc : Nat} {sz st : List Int} {rs : List RuD} {va : Option Addr} {vn vc : Nat} {vs : List Int} {w : World} (h : MRd w sa sn sc ta tn tc ra rn rc sz st rs) (hV : Ints w va vn vc vs) (hv : vn ≤ 1048576) :
    Calls Try.prog 47 #[.agg #[.slice sa sn sc, .slice ta tn tc, .slice ra rn rc], .slice va vn vc] w fun e w' => RetIC 2 w (soL sz st (rsM rs) vs) (soC sz st (rsM rs) vs) e w' := by
  obtain ⟨l, h1, h2⟩ := h.r
  have := spec_StateOfBits h.s h.sn h.t h.tn h1 h.rn hV hv
  rw [soL_rs h2, soC_rs h2] at this
  exact this
theorem impl_StateOfBits_r {sa : Option Addr} {sn sc : Nat} {ta : Option Addr} {tn tc : Nat} {ra : Option Addr} {rn rc : Nat} {sz st : List Int} {rs : List RuD} {va : Option Addr} {vn vc : Nat} {vs : List Int} {w : World} (h : MRd w sa sn sc ta tn tc ra rn rc sz st rs) (hV : Ints w va vn vc vs) (hv : vn ≤ 1048576) :
    Calls Try.prog 46 #[.agg #[.slice sa sn sc, .slice ta tn tc, .slice ra rn rc], .slice va vn vc] w fun e w' => RetIC 2 w (soL sz st (rsM rs) vs) (soC sz st (rsM rs) vs) e w' := by
  obtain ⟨l, h1, h2⟩ := h.r
  have := impl_StateOfBits h.s h.sn h.t h.tn h1 h.rn hV hv
  rw [soL_rs h2, soC_rs h2] at this
  exact this
end Go.Proofs.Ytkaikbaagajckaa
