/- Small lemmas on worlds and slices that the walks of this claim share. -/
import Derived.Test.YtjbgpekkkhobeaaRows
import Derived.WalkKit
import Derived.Outline
import Derived.ProofKit
import Derived.OpenShut
import Derived.Below
import Derived.Lib.Hide
import Derived.LoopTactic
import Derived.WalkLawsBesides
import Derived.Deep.QuietTactic
import Derived.BigQuiet
import Derived.Deep.LoopGhost
import Derived.Deep.Draws
import Derived.Lib.Walk
import Derived.Shelf.Abstract
import Derived.Lib.SmallJoins
namespace Go.Proofs.Ytjbgpekkkhobeaa
open Go.RowKit
set_option linter.unusedVariables false
set_option linter.unusedSimpArgs false

theorem bcell {W w1 : World} (hb : Below W.heap.size W w1) : (∀ b o, b < W.heap.size → w1.cell? ⟨b, o, none⟩ = W.cell? ⟨b, o, none⟩) ∧ (∀ b o, b < W.heap.size → w1.frozen? ⟨b, o, none⟩ = W.frozen? ⟨b, o, none⟩) :=
  ⟨fun b o h => hb.cell (p := ⟨b, o, none⟩) h, fun b o h => hb.frozen (p := ⟨b, o, none⟩) h⟩
theorem below_call {B : Nat} {a w w' : World} (h : Below B a w) (h' : Below w.heap.size w w') (hB : B ≤ w.heap.size) : Below B a w' := h.trans (h'.mono hB)
theorem below_drewN {B : Nat} {a w : World} (h : Below B a w) (n : Nat) : Below B a (w.drewN n) := ⟨h.os, h.tape, h.output, h.size, h.block⟩
theorem ret_bool {a b : Bool} (h : a = b) : Ending.returned (.bool a) = .returned (.bool b) := by rw [h]
theorem ret_int {k : IntKind} {a b : Int} (h : a = b) : Ending.returned (.int k a) = .returned (.int k b) := by rw [h]
theorem ret_int2 {k : IntKind} {a b c d : Int} (h : a = b) (h' : c = d) : Ending.returned (.tuple #[.int k a, .int k c]) = .returned (.tuple #[.int k b, .int k d]) := by rw [h, h']

/-- an int64 -/
def I64 (x : Int) : Prop := -9223372036854775808 ≤ x ∧ x ≤ 9223372036854775807
theorem I64.mk {x : Int} (h : -9223372036854775808 ≤ x) (h' : x ≤ 9223372036854775807) : I64 x := ⟨h, h'⟩
theorem I64.wf {x : Int} (h : I64 x) : (Lit.int .i64 x).wf = true := by
  unfold I64 at h
  simp [Lit.wf, IntKind.min, IntKind.max, IntKind.signed, IntKind.bits]; omega
theorem I64.of {x : Int} (h : (Lit.int .i64 x).wf = true) : I64 x := by
  simpa [Lit.wf, IntKind.min, IntKind.max, IntKind.signed, IntKind.bits, I64] using h
theorem wrap64_I64 (x : Int) : I64 (wrap64 x) := I64.of (wrap64_wf x)

/-- a slice value '.slice a n c' of int64 that reads as l in w -/
structure Ints (w : World) (a : Option Addr) (n c : Nat) (l : List Int) : Prop where
  len : l.length = n
  cap : n ≤ c
  pos : n = 0 ∨ ∃ b off, a = some ⟨b, off, none⟩ ∧ b < w.heap.size ∧ ∀ i x, l[i]? = some x → w.cell? ⟨b, off + i, none⟩ = some (.int .i64 x)
  wf : ∀ x ∈ l, I64 x
theorem Ints.keep {w w' : World} {a : Option Addr} {n c : Nat} {l : List Int} (h : Ints w a n c l) (hb : Below w.heap.size w w') : Ints w' a n c l := by
  refine ⟨h.len, h.cap, ?_, h.wf⟩
  rcases h.pos with h0 | ⟨b, off, ha, hlt, hc⟩
  · exact .inl h0
  · exact .inr ⟨b, off, ha, Nat.lt_of_lt_of_le hlt hb.size, fun i x hx => (hb.cell (p := ⟨b, off + i, none⟩) hlt).trans (hc i x hx)⟩
theorem Ints.keep' {B : Nat} {w w' w0 : World} {a : Option Addr} {n c : Nat} {l : List Int} (h : Ints w a n c l) (hb : Below B w0 w') (hB : w.heap.size ≤ B) (h0 : Below w.heap.size w w0) : Ints w' a n c l :=
  h.keep (h0.trans (hb.mono hB))
theorem Ints.at {w : World} {a : Option Addr} {n c : Nat} {l : List Int} (h : Ints w a n c l) {k : Nat} (hk : k < n) :
    ∃ b off x, a = some ⟨b, off, none⟩ ∧ b < w.heap.size ∧ l[k]? = some x ∧ w.cell? ⟨b, off + k, none⟩ = some (.int .i64 x) ∧ I64 x := by
  obtain ⟨b, off, ha, hb, hc⟩ := h.pos.resolve_left (by omega)
  have hk' : k < l.length := by rw [h.len]; exact hk
  exact ⟨b, off, l[k], ha, hb, List.getElem?_eq_getElem hk', hc k _ (List.getElem?_eq_getElem hk'), h.wf _ (List.getElem_mem hk')⟩
theorem take_at {α : Type} {l : List α} {k : Nat} {x : α} (h : l[k]? = some x) : l.take (k + 1) = l.take k ++ [x] := by
  rw [List.take_add_one, h]; rfl
theorem take_len {α : Type} {l : List α} {n : Nat} (h : l.length = n) : l.take n = l := List.take_of_length_le (by omega)

/-- a number between two bounds -/
def inB (x lo hi : Int) : Bool := decide (lo ≤ x) && decide (x ≤ hi)
def allIn (lo hi : Int) (l : List Int) : Bool := l.all fun x => inB x lo hi
theorem all_take_false {α : Type} {p : α → Bool} {l : List α} {k : Nat} {x : α} (h : l[k]? = some x) (hp : p x = false) : l.all p = false := by
  rw [List.all_eq_false]
  exact ⟨x, List.mem_of_getElem? h, by simp [hp]⟩
theorem all_take_step {α : Type} {p : α → Bool} {l : List α} {k : Nat} {x : α} (h : l[k]? = some x) (hl : (l.take k).all p = true) (hp : p x = true) : (l.take (k + 1)).all p = true := by
  rw [take_at h, List.all_append, hl]; simp [hp]
theorem any_take_true {α : Type} {p : α → Bool} {l : List α} {k : Nat} {x : α} (h : l[k]? = some x) (hp : p x = true) : l.any p = true := by
  rw [List.any_eq_true]
  exact ⟨x, List.mem_of_getElem? h, hp⟩
theorem any_take_step {α : Type} {p : α → Bool} {l : List α} {k : Nat} {x : α} (h : l[k]? = some x) (hl : (l.take k).any p = false) (hp : p x = false) : (l.take (k + 1)).any p = false := by
  rw [take_at h, List.any_append, hl]; simp [hp]

/-- a slice value '.slice a n c' of int64 whose block is the call's own (from block 'base' on), that may be written, and that reads as l -/
def OwnI (E : TypeId) (w : World) (base : Nat) (a : Option Addr) (n c : Nat) (l : List Int) : Prop :=
  w.ownsRow base E 1 (.slice a n c) n (l.map (Value.int .i64)) ∧ ∀ x ∈ l, I64 x
theorem OwnI.ints {E : TypeId} {w : World} {base : Nat} {a : Option Addr} {n c : Nat} {l : List Int} (h : OwnI E w base a n c l) : Ints w a n c l := by
  obtain ⟨⟨hl, h2⟩, hw⟩ := h
  have hl' : l.length = n := by simpa using hl
  rcases h2 with ⟨he, h0⟩ | ⟨g, cap, cur, he, hb, hg, hnc, hcm, hcs, ht⟩
  · simp only [Value.slice.injEq] at he
    exact ⟨hl', by omega, .inl h0, hw⟩
  · simp only [Value.slice.injEq] at he
    obtain ⟨rfl, _, rfl⟩ := he
    refine ⟨hl', hnc, .inr ⟨g, 0, rfl, ?_, fun i x hx => ?_⟩, hw⟩
    · exact Nat.lt_of_not_le fun h => by rw [Array.getElem?_eq_none h] at hg; cases hg
    · have h1 : (l.map (Value.int .i64))[i]? = some (.int .i64 x) := by rw [List.getElem?_map, hx]; rfl
      have hi : i < n := by
        rw [← hl']; exact (List.getElem?_eq_some_iff.1 hx).1
      rw [← ht, List.getElem?_take, if_pos (by omega)] at h1
      simp [World.cell?, hg]
      simpa using h1
theorem OwnI.keep {E : TypeId} {w w' : World} {base : Nat} {a : Option Addr} {n c : Nat} {l : List Int} (h : OwnI E w base a n c l) (hb : Below w.heap.size w w') : OwnI E w' base a n c l := by
  obtain ⟨⟨hl, h2⟩, hw⟩ := h
  refine ⟨⟨hl, ?_⟩, hw⟩
  rcases h2 with h2 | ⟨g, cap, cur, he, hbs, hg, r⟩
  · exact .inl h2
  · have hlt : g < w.heap.size := Nat.lt_of_not_le fun h => by rw [Array.getElem?_eq_none h] at hg; cases hg
    exact .inr ⟨g, cap, cur, he, hbs, by rw [hb.block g hlt]; exact hg, r⟩
theorem OwnI.le {E : TypeId} {w : World} {base base' : Nat} {a : Option Addr} {n c : Nat} {l : List Int} (h : OwnI E w base a n c l) (hb : base' ≤ base) : OwnI E w base' a n c l :=
  ⟨Joins.ownsRow_le h.1 hb, h.2⟩
theorem OwnI.len {E : TypeId} {w : World} {base : Nat} {a : Option Addr} {n c : Nat} {l : List Int} (h : OwnI E w base a n c l) : l.length = n := by simpa using h.1.1
theorem OwnI.cell {E : TypeId} {w : World} {base g : Nat} {n c : Nat} {l : List Int} (h : OwnI E w base (some ⟨g, 0, none⟩) n c l) {k : Nat} (hk : k < n) : ∃ x, l[k]? = some x ∧ I64 x ∧ w.cell? ⟨g, k, none⟩ = some (.int .i64 x) := by
  have hl := h.len
  have hk' : k < l.length := by omega
  refine ⟨l[k], List.getElem?_eq_getElem hk', h.2 _ (List.getElem_mem hk'), ?_⟩
  rw [h.1.cellAt k (by omega), List.getElem?_map, List.getElem?_eq_getElem hk']; rfl
theorem OwnI.lt {E : TypeId} {w : World} {base g : Nat} {n c : Nat} {l : List Int} (h : OwnI E w base (some ⟨g, 0, none⟩) n c l) : base ≤ g ∧ g < w.heap.size := h.1.lt g rfl
theorem OwnI.free {E : TypeId} {w : World} {base g : Nat} {n c : Nat} {l : List Int} (h : OwnI E w base (some ⟨g, 0, none⟩) n c l) (k : Nat) : w.frozen? ⟨g, k, none⟩ = false := h.1.frozenAt k
theorem OwnI.set {E : TypeId} {w : World} {base g : Nat} {n c : Nat} {l : List Int} (h : OwnI E w base (some ⟨g, 0, none⟩) n c l) (k : Nat) {x : Int} (hx : I64 x) : OwnI E (w.setCell ⟨g, k, none⟩ (.int .i64 x)) base (some ⟨g, 0, none⟩) n c (l.set k x) := by
  refine ⟨?_, fun y hy => ?_⟩
  · rw [List.map_set]; exact (h.1.stored k (.int .i64 x)).1
  · rcases List.mem_or_eq_of_mem_set hy with h1 | h1
    · exact h.2 y h1
    · rw [h1]; exact hx
theorem set_fill {α : Type} {l : List α} {k : Nat} {x z : α} (hk : l[k]? = some x) (m : Nat) (hm : l.length = m) : (l.take k ++ List.replicate (m - k) z).set k x = l.take (k + 1) ++ List.replicate (m - (k + 1)) z := by
  have hlt : k < l.length := (List.getElem?_eq_some_iff.1 hk).1
  have h1 : (l.take k).length = k := by simp; omega
  rw [take_at hk, List.set_append, if_neg (by omega), h1, Nat.sub_self, show m - k = (m - (k + 1)) + 1 from by omega, List.replicate_succ]
  simp

end Go.Proofs.Ytjbgpekkkhobeaa
