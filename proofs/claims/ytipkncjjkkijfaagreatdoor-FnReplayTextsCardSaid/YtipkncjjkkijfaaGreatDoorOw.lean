/- Facts that hang on an interval of blocks: what a law keeps while it writes marks elsewhere. -/
import Derived.Test.YtipkncjjkkijfaaGreatDoorBase
namespace Go.Proofs.YtipkncjjkkijfaaGreatDoor
open Go.RowKit
set_option linter.unusedVariables false
set_option linter.unusedSimpArgs false
/-- nothing that was there is written but in the blocks from lo on below hi -/
structure Only (lo hi : Nat) (w w' : World) : Prop where
  os : w'.os = w.os
  tape : w'.tape = w.tape
  output : w'.output = w.output
  size : w.heap.size ≤ w'.heap.size
  block : ∀ k, k < w.heap.size → (k < lo ∨ hi ≤ k) → w'.heap[k]? = w.heap[k]?
theorem Only.below {lo hi B : Nat} {w w' w0 : World} (h : Only lo hi w w') (h0 : Below B w0 w) (hB : B ≤ lo) (hw : B ≤ w.heap.size) : Below B w0 w' :=
  ⟨h.os.trans h0.os, h.tape.trans h0.tape, h.output.trans h0.output, Nat.le_trans h0.size h.size, fun k hk => (h.block k (by omega) (.inl (by omega))).trans (h0.block k hk)⟩
theorem Only.trans {lo hi : Nat} {w w' w'' : World} (h : Only lo hi w w') (h' : Only lo hi w' w'') : Only lo hi w w'' :=
  ⟨h'.os.trans h.os, h'.tape.trans h.tape, h'.output.trans h.output, Nat.le_trans h.size h'.size, fun k hk hr => (h'.block k (Nat.lt_of_lt_of_le hk h.size) hr).trans (h.block k hk hr)⟩
theorem Only.mono {lo hi lo' hi' : Nat} {w w' : World} (h : Only lo hi w w') (h1 : lo' ≤ lo) (h2 : hi ≤ hi') : Only lo' hi' w w' :=
  ⟨h.os, h.tape, h.output, h.size, fun k hk hr => h.block k hk (by omega)⟩
theorem Only.of_below {lo hi : Nat} {w w' : World} (h : Below w.heap.size w w') : Only lo hi w w' := ⟨h.os, h.tape, h.output, h.size, fun k hk _ => h.block k hk⟩
theorem Touch.only {w w' : World} {n lo hi : Nat} {a : Option Addr} (h : Touch w w' n a) (ha : ∀ g, a = some ⟨g, 0, none⟩ → lo ≤ g ∧ g < hi) : Only lo hi w w' := by
  obtain ⟨r, hg, hr⟩ := h
  refine ⟨hg.os, hg.tape, hg.output, hg.size, fun k hk hd => hg.block k hk fun e => ?_⟩
  have := ha k (hr k e.symm).2
  omega
theorem ocell {lo hi : Nat} {W w1 : World} (h : Only lo hi W w1) : ∀ b o, b < W.heap.size → (b < lo ∨ hi ≤ b) → w1.cell? ⟨b, o, none⟩ = W.cell? ⟨b, o, none⟩ :=
  fun b o hb hd => World.cell?_of_block (a := ⟨b, o, none⟩) (h.block b hb hd)
theorem Only.refl (lo hi : Nat) (w : World) : Only lo hi w w := ⟨rfl, rfl, rfl, Nat.le_refl _, fun _ _ _ => rfl⟩
theorem Only.set {lo hi b : Nat} {w w' : World} (h : Only lo hi w w') (hb : lo ≤ b ∧ b < hi) (i : Nat) (v : Value) : Only lo hi w (w'.setCell ⟨b, i, none⟩ v) :=
  h.trans ⟨rfl, rfl, rfl, by simp [World.setCell], fun k _ hk => Below.heap_setCell _ _ _ _ (fun e => by simp at e; omega)⟩
theorem Only.setN {lo hi b : Nat} {w w' : World} (h : Only lo hi w w') (hb : w.heap.size ≤ b) (i : Nat) (v : Value) : Only lo hi w (w'.setCell ⟨b, i, none⟩ v) :=
  ⟨h.os, h.tape, h.output, by have := h.size; simp [World.setCell]; exact this, fun k hk hr => (Below.heap_setCell _ _ _ _ (fun e => by simp at e; omega)).trans (h.block k hk hr)⟩
theorem Only.drew {lo hi : Nat} {w w' : World} (h : Only lo hi w w') : Only lo hi w w'.drew := h.trans ⟨rfl, rfl, rfl, Nat.le_refl _, fun _ _ _ => rfl⟩
theorem Only.drewN {lo hi : Nat} {w w' : World} (h : Only lo hi w w') (n : Nat) : Only lo hi w (w'.drewN n) := h.trans ⟨rfl, rfl, rfl, Nat.le_refl _, fun _ _ _ => rfl⟩
theorem Only.then {lo hi : Nat} {w w' w'' : World} (h : Only lo hi w w') (hb : Below w'.heap.size w' w'') : Only lo hi w w'' := h.trans (Only.of_below hb)
theorem Only.alloc {lo hi : Nat} {w w' : World} (h : Only lo hi w w') (o : Obj) : Only lo hi w (w'.alloc o) := h.then ((Below.refl _ _).alloc (Nat.le_refl _) o)
theorem Only.grown {lo hi : Nat} {w w' w'' : World} {r : Option Nat} (h : Only lo hi w w') (hg : w'.grownBy w'' r) (hr : ∀ k, r = some k → lo ≤ k ∧ k < hi) : Only lo hi w w'' :=
  h.trans ⟨hg.os, hg.tape, hg.output, hg.size, fun k hk hd => hg.block k hk fun e => by have := hr k e.symm; omega⟩
theorem Below.only {lo hi B : Nat} {w0 w w' : World} (h0 : Below B w0 w) (h : Only lo hi w w') (hB : B ≤ lo) (hw : B ≤ w.heap.size) : Below B w0 w' := h.below h0 hB hw
theorem OwnI.only {E : TypeId} {w w' : World} {base lo hi : Nat} {a : Option Addr} {n c : Nat} {l : List Int} (h : OwnI E w base a n c l) (ho : Only lo hi w w') (hd : ∀ g, a = some ⟨g, 0, none⟩ → g < lo ∨ hi ≤ g) : OwnI E w' base a n c l := by
  obtain ⟨⟨hl, h2⟩, hw⟩ := h
  refine ⟨⟨hl, ?_⟩, hw⟩
  rcases h2 with h2 | ⟨g, cap, cur, he, hbs, hg, r⟩
  · exact .inl h2
  · have hlt : g < w.heap.size := Nat.lt_of_not_le fun h => by rw [Array.getElem?_eq_none h] at hg; cases hg
    have he' := he
    simp only [Value.slice.injEq] at he'
    exact .inr ⟨g, cap, cur, he, hbs, by rw [ho.block g hlt (hd g he'.1)]; exact hg, r⟩
theorem OwnF.only {α : Type} {k : Nat} {enc : α → List Value} {ok : α → Prop} {E : TypeId} {w w' : World} {base lo hi : Nat} {a : Option Addr} {n c : Nat} {l : List α} (h : OwnF k enc ok E w base a n c l) (ho : Only lo hi w w') (hd : ∀ g, a = some ⟨g, 0, none⟩ → g < lo ∨ hi ≤ g) : OwnF k enc ok E w' base a n c l := by
  obtain ⟨⟨hl, h2⟩, hw⟩ := h
  refine ⟨⟨hl, ?_⟩, hw⟩
  rcases h2 with h2 | ⟨g, cap, cur, he, hbs, hg, r⟩
  · exact .inl h2
  · have hlt : g < w.heap.size := Nat.lt_of_not_le fun h => by rw [Array.getElem?_eq_none h] at hg; cases hg
    have he' := he
    simp only [Value.slice.injEq] at he'
    exact .inr ⟨g, cap, cur, he, hbs, by rw [ho.block g hlt (hd g he'.1)]; exact hg, r⟩
theorem Ints.only {w w' : World} {lo hi : Nat} {a : Option Addr} {n c : Nat} {l : List Int} (h : Ints w a n c l) (ho : Only lo hi w w') (hd : ∀ g off, a = some ⟨g, off, none⟩ → g < lo ∨ hi ≤ g) : Ints w' a n c l := by
  refine ⟨h.len, h.cap, ?_, h.wf, h.nil⟩
  rcases h.pos with h0 | ⟨b, off, ha, hlt, hc⟩
  · exact .inl h0
  · exact .inr ⟨b, off, ha, Nat.lt_of_lt_of_le hlt ho.size, fun i x hx => (World.cell?_of_block (a := ⟨b, off + i, none⟩) (ho.block b hlt (hd b off ha))).trans (hc i x hx)⟩
theorem Flats.only {α : Type} {k : Nat} {enc : α → List Value} {ok : α → Prop} {w w' : World} {lo hi : Nat} {a : Option Addr} {n c : Nat} {l : List α} (h : Flats k enc ok w a n c l) (ho : Only lo hi w w') (hd : ∀ g off, a = some ⟨g, off, none⟩ → g < lo ∨ hi ≤ g) : Flats k enc ok w' a n c l := by
  refine ⟨h.len, h.cap, ?_, h.wf, h.nil⟩
  rcases h.pos with h0 | ⟨b, off, ha, hlt, hc⟩
  · exact .inl h0
  · exact .inr ⟨b, off, ha, Nat.lt_of_lt_of_le hlt ho.size, fun i x hx j v hv => (World.cell?_of_block (a := ⟨b, off + i * k + j, none⟩) (ho.block b hlt (hd b off ha))).trans (hc i x hx j v hv)⟩
structure Own (P : World → Prop) (lo hi : Nat) (w : World) : Prop where
  fact : P w
  upto : hi ≤ w.heap.size
  here : ∀ w1 w2 : World, (∀ k, lo ≤ k → k < hi → w2.heap[k]? = w1.heap[k]?) → P w1 → P w2
theorem Own.keep {P : World → Prop} {lo hi : Nat} {w w' : World} (h : Own P lo hi w) (hb : Below w.heap.size w w') : Own P lo hi w' :=
  ⟨h.here w w' (fun k _ hk => hb.block k (Nat.lt_of_lt_of_le hk h.upto)) h.fact, Nat.le_trans h.upto hb.size, h.here⟩
theorem Own.apart {P : World → Prop} {lo hi lo' hi' : Nat} {w w' : World} (h : Own P lo hi w) (ho : Only lo' hi' w w') (hd : hi ≤ lo' ∨ hi' ≤ lo) : Own P lo hi w' :=
  ⟨h.here w w' (fun k h1 h2 => ho.block k (Nat.lt_of_lt_of_le h2 h.upto) (by omega)) h.fact, Nat.le_trans h.upto ho.size, h.here⟩
theorem Own.turn {P Q : World → Prop} {lo hi : Nat} {w w' : World} (h : Own P lo hi w) (hs : w.heap.size ≤ w'.heap.size) (hq : Q w') (hh : ∀ w1 w2 : World, (∀ k, lo ≤ k → k < hi → w2.heap[k]? = w1.heap[k]?) → Q w1 → Q w2) : Own Q lo hi w' :=
  ⟨hq, Nat.le_trans h.upto hs, hh⟩
theorem Blk.apart {w w' : World} {b lo hi : Nat} {cs : Array Value} {T : TypeId} (h : Blk w b cs T) (ho : Only lo hi w w') (hd : b < lo ∨ hi ≤ b) : Blk w' b cs T := (ho.block b h.lt hd).trans h
theorem OwnI.here {E : TypeId} {base lo hi : Nat} {a : Option Addr} {n c : Nat} {l : List Int} (ha : ∀ g, a = some ⟨g, 0, none⟩ → lo ≤ g ∧ g < hi) (w1 w2 : World) (hk : ∀ k, lo ≤ k → k < hi → w2.heap[k]? = w1.heap[k]?) (h : OwnI E w1 base a n c l) : OwnI E w2 base a n c l := by
  obtain ⟨⟨hl, h2⟩, hw⟩ := h
  refine ⟨⟨hl, ?_⟩, hw⟩
  rcases h2 with h2 | ⟨g, cap, cur, he, hbs, hg, r⟩
  · exact .inl h2
  · simp only [Value.slice.injEq] at he
    obtain ⟨h1, h2⟩ := ha g he.1
    exact .inr ⟨g, cap, cur, by simp only [Value.slice.injEq]; exact he, hbs, by rw [hk g h1 h2]; exact hg, r⟩
theorem OwnF.here {α : Type} {k' : Nat} {enc : α → List Value} {ok : α → Prop} {E : TypeId} {base lo hi : Nat} {a : Option Addr} {n c : Nat} {l : List α} (ha : ∀ g, a = some ⟨g, 0, none⟩ → lo ≤ g ∧ g < hi) (w1 w2 : World) (hk : ∀ k, lo ≤ k → k < hi → w2.heap[k]? = w1.heap[k]?) (h : OwnF k' enc ok E w1 base a n c l) : OwnF k' enc ok E w2 base a n c l := by
  obtain ⟨⟨hl, h2⟩, hw⟩ := h
  refine ⟨⟨hl, ?_⟩, hw⟩
  rcases h2 with h2 | ⟨g, cap, cur, he, hbs, hg, r⟩
  · exact .inl h2
  · simp only [Value.slice.injEq] at he
    obtain ⟨h1, h2⟩ := ha g he.1
    exact .inr ⟨g, cap, cur, by simp only [Value.slice.injEq]; exact he, hbs, by rw [hk g h1 h2]; exact hg, r⟩
theorem OwnI.own {E : TypeId} {w : World} {base : Nat} {a : Option Addr} {n c : Nat} {l : List Int} (h : OwnI E w base a n c l) : Own (fun w => OwnI E w base a n c l) base w.heap.size w := ⟨h, Nat.le_refl _, OwnI.here h.blk⟩
theorem OwnF.own {α : Type} {k' : Nat} {enc : α → List Value} {ok : α → Prop} {E : TypeId} {w : World} {base : Nat} {a : Option Addr} {n c : Nat} {l : List α} (h : OwnF k' enc ok E w base a n c l) : Own (fun w => OwnF k' enc ok E w base a n c l) base w.heap.size w := ⟨h, Nat.le_refl _, OwnF.here h.blk⟩
end Go.Proofs.YtipkncjjkkijfaaGreatDoor
