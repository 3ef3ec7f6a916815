/- Facts that hang on an interval of blocks: what a law keeps while it writes marks elsewhere. -/
import Derived.Test.YtoaccicfmfiemaaBase
namespace Go.Proofs.Ytoaccicfmfiemaa
open Go.RowKit
set_option linter.unusedVariables false
set_option linter.unusedSimpArgs false
/-- nothing that was there is written but in the blocks from lo on below hi -/
def Only (lo hi : Nat) (w w' : World) : Prop :=
  w'.os = w.os ∧ w'.tape = w.tape ∧ w'.output = w.output ∧ w.heap.size ≤ w'.heap.size ∧ ∀ k, k < w.heap.size → (k < lo ∨ hi ≤ k) → w'.heap[k]? = w.heap[k]?
theorem Only.size {lo hi : Nat} {w w' : World} (h : Only lo hi w w') : w.heap.size ≤ w'.heap.size := h.2.2.2.1
theorem Only.below {lo hi B : Nat} {w w' w0 : World} (h : Only lo hi w w') (h0 : Below B w0 w) (hB : B ≤ lo) (hw : B ≤ w.heap.size) : Below B w0 w' :=
  ⟨h.1.trans h0.os, h.2.1.trans h0.tape, h.2.2.1.trans h0.output, Nat.le_trans h0.size h.size, fun k hk => (h.2.2.2.2 k (by omega) (.inl (by omega))).trans (h0.block k hk)⟩
theorem Only.trans {lo hi : Nat} {w w' w'' : World} (h : Only lo hi w w') (h' : Only lo hi w' w'') : Only lo hi w w'' :=
  ⟨h'.1.trans h.1, h'.2.1.trans h.2.1, h'.2.2.1.trans h.2.2.1, Nat.le_trans h.size h'.size, fun k hk hr => (h'.2.2.2.2 k (Nat.lt_of_lt_of_le hk h.size) hr).trans (h.2.2.2.2 k hk hr)⟩
theorem Only.mono {lo hi lo' hi' : Nat} {w w' : World} (h : Only lo hi w w') (h1 : lo' ≤ lo) (h2 : hi ≤ hi') : Only lo' hi' w w' :=
  ⟨h.1, h.2.1, h.2.2.1, h.2.2.2.1, fun k hk hr => h.2.2.2.2 k hk (by omega)⟩
theorem Only.of_below {lo hi : Nat} {w w' : World} (h : Below w.heap.size w w') : Only lo hi w w' := ⟨h.os, h.tape, h.output, h.size, fun k hk _ => h.block k hk⟩
theorem Touch.only {w w' : World} {n lo hi : Nat} {a : Option Addr} (h : Touch w w' n a) (ha : ∀ g, a = some ⟨g, 0, none⟩ → lo ≤ g ∧ g < hi) : Only lo hi w w' := by
  obtain ⟨r, hg, hr⟩ := h
  refine ⟨hg.os, hg.tape, hg.output, hg.size, fun k hk hd => hg.block k hk fun e => ?_⟩
  have := ha k (hr k e.symm).2
  omega
structure Own (P : World → Prop) (lo hi : Nat) (w : World) : Prop where
  fact : P w
  upto : hi ≤ w.heap.size
  here : ∀ w1 w2 : World, (∀ k, lo ≤ k → k < hi → w2.heap[k]? = w1.heap[k]?) → P w1 → P w2
theorem Own.keep {P : World → Prop} {lo hi : Nat} {w w' : World} (h : Own P lo hi w) (hb : Below w.heap.size w w') : Own P lo hi w' :=
  ⟨h.here w w' (fun k _ hk => hb.block k (Nat.lt_of_lt_of_le hk h.upto)) h.fact, Nat.le_trans h.upto hb.size, h.here⟩
theorem Own.apart {P : World → Prop} {lo hi lo' hi' : Nat} {w w' : World} (h : Own P lo hi w) (ho : Only lo' hi' w w') (hd : hi ≤ lo' ∨ hi' ≤ lo) : Own P lo hi w' :=
  ⟨h.here w w' (fun k h1 h2 => ho.2.2.2.2 k (Nat.lt_of_lt_of_le h2 h.upto) (by omega)) h.fact, Nat.le_trans h.upto ho.size, h.here⟩
theorem Own.turn {P Q : World → Prop} {lo hi : Nat} {w w' : World} (h : Own P lo hi w) (hs : w.heap.size ≤ w'.heap.size) (hq : Q w') (hh : ∀ w1 w2 : World, (∀ k, lo ≤ k → k < hi → w2.heap[k]? = w1.heap[k]?) → Q w1 → Q w2) : Own Q lo hi w' :=
  ⟨hq, Nat.le_trans h.upto hs, hh⟩
theorem Blk.apart {w w' : World} {b lo hi : Nat} {cs : Array Value} {T : TypeId} (h : Blk w b cs T) (ho : Only lo hi w w') (hd : b < lo ∨ hi ≤ b) : Blk w' b cs T := (ho.2.2.2.2 b h.lt hd).trans h
theorem OwnI.here {E : TypeId} {base lo hi : Nat} {a : Option Addr} {n c : Nat} {l : List Int} (ha : ∀ g, a = some ⟨g, 0, none⟩ → lo ≤ g ∧ g < hi) (w1 w2 : World) (hk : ∀ k, lo ≤ k → k < hi → w2.heap[k]? = w1.heap[k]?) (h : OwnI E w1 base a n c l) : OwnI E w2 base a n c l := by
  obtain ⟨⟨hl, h2⟩, hw⟩ := h
  refine ⟨⟨hl, ?_⟩, hw⟩
  rcases h2 with h2 | ⟨g, cap, cur, he, hbs, hg, r⟩
  · exact .inl h2
  · simp only [Value.slice.injEq] at he
    obtain ⟨h1, h2⟩ := ha g he.1
    exact .inr ⟨g, cap, cur, by simp only [Value.slice.injEq]; exact he, hbs, by rw [hk g h1 h2]; exact hg, r⟩
theorem OwnF.here {α : Type} {k' : Nat} {enc : α → List Value} {ok : α → Prop} {E : TypeId} {base lo hi : Nat} {a : Option Addr} {n c : Nat} {l : List α} (ha : ∀ g, a = some ⟨g, 0, none⟩ → lo ≤ g ∧ g < hi) (w1 w2 : World) (hk : ∀ k, lo ≤ k → k < hi → w2.heap[k]? = w1.heap[k]?) (h : OwnF k' enc ok E w1 base a n c l) : OwnF k' enc ok E w2 base a n c l := by
  obtain ⟨⟨hl, h2⟩, hw⟩ := h
  refine ⟨⟨hl, ?_⟩, hw⟩
  rcases h2 with h2 | ⟨g, cap, cur, he, hbs, hg, r⟩
  · exact .inl h2
  · simp only [Value.slice.injEq] at he
    obtain ⟨h1, h2⟩ := ha g he.1
    exact .inr ⟨g, cap, cur, by simp only [Value.slice.injEq]; exact he, hbs, by rw [hk g h1 h2]; exact hg, r⟩
theorem OwnI.own {E : TypeId} {w : World} {base : Nat} {a : Option Addr} {n c : Nat} {l : List Int} (h : OwnI E w base a n c l) : Own (fun w => OwnI E w base a n c l) base w.heap.size w := ⟨h, Nat.le_refl _, OwnI.here h.blk⟩
theorem OwnF.own {α : Type} {k' : Nat} {enc : α → List Value} {ok : α → Prop} {E : TypeId} {w : World} {base : Nat} {a : Option Addr} {n c : Nat} {l : List α} (h : OwnF k' enc ok E w base a n c l) : Own (fun w => OwnF k' enc ok E w base a n c l) base w.heap.size w := ⟨h, Nat.le_refl _, OwnF.here h.blk⟩
end Go.Proofs.Ytoaccicfmfiemaa
