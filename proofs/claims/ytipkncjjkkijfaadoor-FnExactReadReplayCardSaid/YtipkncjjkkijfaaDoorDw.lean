/- What a draw leaves: the source alone has moved, all that is new is the call's own. -/
import Derived.Test.YtipkncjjkkijfaaDoorDr
namespace Go.Proofs.YtipkncjjkkijfaaDoor
open Go.RowKit
set_option linter.unusedVariables false
set_option linter.unusedSimpArgs false
def Sm (x : Int) : Prop := -1000000 ≤ x ∧ x ≤ 1000000
theorem Sm.i64 {x : Int} (h : Sm x) : I64 x := ⟨by have := h.1; omega, by have := h.2; omega⟩
def Sm5 (x : Int) : Prop := -100000 ≤ x ∧ x ≤ 100000
theorem Sm5.i64 {x : Int} (h : Sm5 x) : I64 x := ⟨by have := h.1; omega, by have := h.2; omega⟩
/-- from w to w' only the source b is written, and it is a source there -/
structure Dw (T : TypeId) (lo b : Nat) (w w' : World) : Prop where
  only : Only b (b + 1) w w'
  src : Src T w' lo b
  lt : b < w.heap.size
theorem Dw.start {T : TypeId} {lo b : Nat} {w w' : World} (h : Dw T lo b w w') : Dw T lo b w' w' := ⟨Only.refl _ _ _, h.src, h.src.lt.2⟩
theorem Dw.of {T : TypeId} {lo b : Nat} {w : World} (h : Src T w lo b) : Dw T lo b w w := ⟨Only.refl _ _ _, h, h.lt.2⟩
theorem Dw.trans {T : TypeId} {lo b : Nat} {w w' w'' : World} (h : Dw T lo b w w') (h' : Dw T lo b w' w'') : Dw T lo b w w'' := ⟨h.only.trans h'.only, h'.src, h.lt⟩
theorem Dw.belowG {T : TypeId} {lo b B : Nat} {w w' w'' : World} (h : Dw T lo b w w') (hb : Below B w' w'') (hB : w.heap.size ≤ B) : Dw T lo b w w'' := by
  have hlt := h.src.lt
  have hb0 := h.lt
  have hs := h.only.size
  refine ⟨⟨hb.os.trans h.only.os, hb.tape.trans h.only.tape, hb.output.trans h.only.output, Nat.le_trans hs hb.size, fun k hk hr => (hb.block k (by omega)).trans (h.only.block k hk hr)⟩, ?_, h.lt⟩
  refine h.src.apart (l2 := B) (h2 := w'.heap.size) ⟨hb.os, hb.tape, hb.output, hb.size, fun k hk hr => hb.block k (by omega)⟩ (.inl (by omega)) (by omega)
theorem Dw.below {T : TypeId} {lo b : Nat} {w w' w'' : World} (h : Dw T lo b w w') (hb : Below w'.heap.size w' w'') : Dw T lo b w w'' := h.belowG hb h.only.size
theorem Dw.alloc {T : TypeId} {lo b : Nat} {w w' : World} (h : Dw T lo b w w') (o : Obj) : Dw T lo b w (w'.alloc o) := h.below ((Below.refl _ _).alloc (Nat.le_refl _) o)
theorem Dw.drewN {T : TypeId} {lo b : Nat} {w w' : World} (h : Dw T lo b w w') (n : Nat) : Dw T lo b w (w'.drewN n) := h.below ⟨rfl, rfl, rfl, Nat.le_refl _, fun _ _ => rfl⟩
theorem Dw.drew {T : TypeId} {lo b : Nat} {w w' : World} (h : Dw T lo b w w') : Dw T lo b w w'.drew := h.below ⟨rfl, rfl, rfl, Nat.le_refl _, fun _ _ => rfl⟩
theorem Dw.set {T : TypeId} {lo b g : Nat} {w w' : World} (h : Dw T lo b w w') (hg : w.heap.size ≤ g) (i : Nat) (v : Value) : Dw T lo b w (w'.setCell ⟨g, i, none⟩ v) :=
  h.belowG ((Below.refl w.heap.size w').setCell (p := ⟨g, i, none⟩) hg v) (Nat.le_refl _)
theorem Dw.size {T : TypeId} {lo b : Nat} {w w' : World} (h : Dw T lo b w w') : w.heap.size ≤ w'.heap.size := h.only.size
theorem Dw.out {T : TypeId} {b : Nat} {w w1 w' : World} (h : Dw T w.heap.size b w1 w') (h0 : Below w.heap.size w w1) : Below w.heap.size w w' := by
  have := (h.src.lt).1
  exact h.only.below h0 this h0.size
theorem Dw.fin {T : TypeId} {lo b B : Nat} {w w1 w' : World} (h : Dw T lo b w1 w') (h0 : Below B w w1) (hB : B ≤ b) : Below B w w' := h.only.below h0 hB (by have := h.lt; omega)
theorem Dw.frz {T : TypeId} {lo b g : Nat} {w w' : World} (h : Dw T lo b w w') (hf : ∀ i, w.frozen? ⟨g, i, none⟩ = false) (hg : g < w.heap.size) (hne : g ≠ b) : ∀ i, w'.frozen? ⟨g, i, none⟩ = false := fun i => by
  have := h.only.block g hg (by omega)
  have h1 := hf i
  unfold World.frozen? at h1 ⊢
  simp only at h1 ⊢
  rw [this]; exact h1
/-- what a cell that is there holds -/
def valAt (w : World) (g i : Nat) : Value := (w.cell? ⟨g, i, none⟩).getD undef
theorem valAt_of {w : World} {g i : Nat} (h : (w.cell? ⟨g, i, none⟩).isSome = true) : w.cell? ⟨g, i, none⟩ = some (valAt w g i) := by
  obtain ⟨v, hv⟩ := Option.isSome_iff_exists.1 h
  rw [valAt, hv]; rfl
theorem some_is {w : World} {a : Addr} {v : Value} (h : w.cell? a = some v) : (w.cell? a).isSome = true := by rw [h]; rfl
theorem Dw.has {T : TypeId} {lo b g o : Nat} {w w' : World} (h : Dw T lo b w w') {u : Value} (hc : w.cell? ⟨g, o, none⟩ = some u) (hne : g ≠ b) : w'.cell? ⟨g, o, none⟩ = some (valAt w' g o) := by
  have hlt := World.block_lt_of_cell? w _ hc
  refine valAt_of ?_
  rw [ocell h.only g o hlt (by omega), hc]; rfl
theorem isSome_set {w : World} {p a : Addr} {v : Value} (h : (w.cell? a).isSome = true) : ((w.setCell p v).cell? a).isSome = true := by
  by_cases e : p = a
  · subst e
    obtain ⟨u, hu⟩ := Option.isSome_iff_exists.1 h
    obtain ⟨v', hy'⟩ := cell?_setCell_some (w := w) (p := p) (x := v) (q := p) (v := u) hu
    rw [hy']; rfl
  · rw [World.cell?_setCell_other w p a v e]; exact h
theorem cell_drew {w : World} {a : Addr} {u : Value} (h : w.cell? a = some u) : w.drew.cell? a = some u := h
theorem lt_drew {w : World} {g : Nat} (h : g < w.heap.size) : g < w.drew.heap.size := h
theorem frz_drew {w : World} {g : Nat} (h : ∀ i, w.frozen? ⟨g, i, none⟩ = false) : ∀ i, w.drew.frozen? ⟨g, i, none⟩ = false := h
theorem val_drew {w : World} {g i : Nat} {u : Value} (h : w.cell? ⟨g, i, none⟩ = some u) : w.drew.cell? ⟨g, i, none⟩ = some (valAt w.drew g i) := valAt_of (some_is (w := w.drew) h)
theorem lt_set {w : World} {g : Nat} {p : Addr} {v : Value} (h : g < w.heap.size) : g < (w.setCell p v).heap.size := by simpa [World.setCell] using h
theorem frz_set {w : World} {g : Nat} {p : Addr} {v : Value} (h : ∀ i, w.frozen? ⟨g, i, none⟩ = false) : ∀ i, (w.setCell p v).frozen? ⟨g, i, none⟩ = false := fun i => (World.frozen?_setCell ..).trans (h i)
theorem cell_set {w : World} {g g' i i' : Nat} {u v : Value} (h : w.cell? ⟨g, i, none⟩ = some u) (hne : g' ≠ g) : (w.setCell ⟨g', i', none⟩ v).cell? ⟨g, i, none⟩ = some u := (World.cell?_setCell_far _ _ _ _ hne).trans h
theorem cell_alloc {w : World} {a : Addr} {u : Value} {o : Obj} (h : w.cell? a = some u) : (w.alloc o).cell? a = some u := (World.cell?_alloc_some _ _ _ (some_is h)).trans h
theorem lt_alloc {w : World} {g : Nat} {o : Obj} (h : g < w.heap.size) : g < (w.alloc o).heap.size := by simp; omega
theorem frz_alloc {w : World} {g : Nat} {o : Obj} (h : ∀ i, w.frozen? ⟨g, i, none⟩ = false) (hg : g < w.heap.size) : ∀ i, (w.alloc o).frozen? ⟨g, i, none⟩ = false := fun i => (((Below.refl _ _).alloc (Nat.le_refl _) o).frozen (p := ⟨g, i, none⟩) hg).trans (h i)
theorem Blk.has {w : World} {b : Nat} {cs : Array Value} {T : TypeId} (h : Blk w b cs T) {i : Nat} (hi : i < cs.size) : w.cell? ⟨b, i, none⟩ = some (valAt w b i) := by
  refine valAt_of ?_
  rw [h.cell i]; simp [hi]
theorem Blk.dw {T T' : TypeId} {lo b g : Nat} {w w' : World} {cs : Array Value} (h : Blk w g cs T') (hd : Dw T lo b w w') (hne : g ≠ b) : Blk w' g cs T' := h.apart hd.only (by omega)
theorem OwnI.dw {E T : TypeId} {lo b B : Nat} {w w' : World} {a : Option Addr} {n c : Nat} {l : List Int} (h : OwnI E w B a n c l) (hd : Dw T lo b w w') (hB : b < B) : OwnI E w' B a n c l :=
  h.only hd.only fun g hg => by have := (h.blk g hg).1; omega
theorem OwnF.dw {α : Type} {k : Nat} {enc : α → List Value} {ok : α → Prop} {E T : TypeId} {lo b B : Nat} {w w' : World} {a : Option Addr} {n c : Nat} {l : List α} (h : OwnF k enc ok E w B a n c l) (hd : Dw T lo b w w') (hB : b < B) : OwnF k enc ok E w' B a n c l :=
  h.only hd.only fun g hg => by have := (h.blk g hg).1; omega
theorem Ints.dw {T : TypeId} {lo b : Nat} {w w' : World} {a : Option Addr} {n c : Nat} {l : List Int} (h : Ints w a n c l) (hd : Dw T lo b w w') (hne : ∀ g off, a = some ⟨g, off, none⟩ → g ≠ b) : Ints w' a n c l :=
  h.only hd.only fun g off e => by have := hne g off e; omega
theorem OwnI.ne {E : TypeId} {w : World} {B b : Nat} {a : Option Addr} {n c : Nat} {l : List Int} (h : OwnI E w B a n c l) (hB : b < B) : ∀ g off, a = some ⟨g, off, none⟩ → g ≠ b := fun g off e => by
  rcases h.form with ⟨h1, _⟩ | ⟨q, h1⟩
  · rw [h1] at e; cases e
  · have := (h.blk q h1).1
    rw [h1] at e; simp only [Option.some.injEq, Addr.mk.injEq] at e; omega
end Go.Proofs.YtipkncjjkkijfaaDoor
