/- The reference's search through all states of a model, walked. -/
import Derived.Test.YtkaikbaagajckaaGreatN21
import Derived.Test.YtkaikbaagajckaaGreatN22
import Derived.Test.YtkaikbaagajckaaGreatN12
namespace Go.Proofs.YtkaikbaagajckaaGreat
open Go.RowKit
set_option linter.unusedVariables false
set_option linter.unusedSimpArgs false
theorem SpSt.blk {w : World} {lo b m : Nat} {L : List SN} {ov : Bool} (h : SpSt w lo b m L ov) : ∃ oa oc ta tc ka kc lo' lt, Blk w b #[.slice oa L.length oc, .slice ta L.length tc, .slice ka L.length kc, .bool ov] 93 ∧ SRow w lo lo oa L.length oc lo' ∧ SRow w lo lo ta L.length tc lt ∧ lo'.map (·.2) = L.map (·.v) ∧ lt.map (·.2) = L.map (·.tr) := by
  obtain ⟨oa, oc, ta, tc, ka, kc, l1, l2, l3, h1, h2, h3, h4, h5, h6, h7, h8, _⟩ := h
  exact ⟨oa, oc, ta, tc, ka, kc, l1, l2, h1, h3, h4, h7, h8⟩
theorem SpSt.start {w : World} {lo m : Nat} (hl : lo ≤ w.heap.size) : SpSt (w.alloc (.cells #[.slice none 0 0, .slice none 0 0, .slice none 0 0, .bool false] 93)) lo w.heap.size m [] false :=
  ⟨none, 0, none, 0, none, 0, [], [], [], Blk.made _ _ _, hl, SRow.nil _ _ _, SRow.nil _ _ _, SRow.nil _ _ _, ⟨(fun g e => by cases e), (fun g e => by cases e), (fun g e => by cases e)⟩, rfl, rfl, ⟨(fun x hx => by cases hx), List.Pairwise.nil⟩, fun y => Iff.rfl⟩
/-- .. before it looks at the i-th enabled rule there -/
def InAt (rs : List RuD) (k : Nat) (y : SN) (L : List SN) (i : Nat) (L' : List SN) (ov : Bool) : Prop :=
  L'.length ≤ 4000 ∧ (ov = false → L' = expT rs k y L i) ∧ (ov = true → 4000 < (expN rs k y L).length)
theorem InAt.step {rs : List RuD} {k : Nat} {y : SN} {L : List SN} {i : Nat} {L' : List SN} {q : Nat} {v : List Int} (h : InAt rs k y L i L' false) (hn : (nextP rs y.v)[i]? = some (q, v)) : InAt rs k y L (i + 1) (addS L' ⟨v, k, q, y.dp + 1, y.tr ++ [(q : Int)]⟩) (addO L' ⟨v, k, q, y.dp + 1, y.tr ++ [(q : Int)]⟩) := by
  obtain ⟨h1, h2, _⟩ := h
  have h2 := h2 rfl
  cases ha : L'.any (fun y => y.v == v) with
  | true =>
    rw [(addS_old (x := ⟨v, k, q, y.dp + 1, y.tr ++ [(q : Int)]⟩) ha).1, (addS_old (x := ⟨v, k, q, y.dp + 1, y.tr ++ [(q : Int)]⟩) ha).2]
    refine ⟨h1, fun _ => ?_, fun e => by cases e⟩
    rw [expT_step hn, ← h2, addN_old ha]
  | false =>
    by_cases hl : L'.length = 4000
    · rw [(addS_full (x := ⟨v, k, q, y.dp + 1, y.tr ++ [(q : Int)]⟩) ha hl).1, (addS_full (x := ⟨v, k, q, y.dp + 1, y.tr ++ [(q : Int)]⟩) ha hl).2]
      refine ⟨h1, (fun e => by cases e), fun _ => ?_⟩
      exact exp_over hn (by rw [← h2]; omega) (by rw [← h2]; exact ha)
    · rw [(addS_new (x := ⟨v, k, q, y.dp + 1, y.tr ++ [(q : Int)]⟩) ha hl).1, (addS_new (x := ⟨v, k, q, y.dp + 1, y.tr ++ [(q : Int)]⟩) ha hl).2]
      refine ⟨by rw [List.length_append, List.length_singleton]; omega, fun _ => ?_, fun e => by cases e⟩
      rw [expT_step hn, ← h2, addN_new ha]
theorem OwnI.al {E : TypeId} {w w0 : World} {o : Obj} {B base : Nat} {a : Option Addr} {n c : Nat} {l : List Int} (h : OwnI E w base a n c l) (_ : Below B w0 (w.alloc o)) : OwnI E (w.alloc o) base a n c l := h.keep ((Below.refl _ _).alloc (Nat.le_refl _) o)
end Go.Proofs.YtkaikbaagajckaaGreat
