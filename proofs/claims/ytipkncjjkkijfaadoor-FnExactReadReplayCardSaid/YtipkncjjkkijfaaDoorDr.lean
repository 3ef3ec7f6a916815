/- The source of drawn numbers, walked. -/
import Derived.Test.YtipkncjjkkijfaaDoorOw
import Derived.RegionTactic
import Derived.BigRegion
namespace Go.Proofs.YtipkncjjkkijfaaDoor
open Go.RowKit
set_option linter.unusedVariables false
set_option linter.unusedSimpArgs false
instance I64.dec (x : Int) : Decidable (I64 x) := inferInstanceAs (Decidable (_ ∧ _))
/-- bytes that are read: '.slice a n c' -/
structure Byts (w : World) (a : Option Addr) (n c : Nat) : Prop where
  cap : n ≤ c
  pos : n = 0 ∨ ∃ b off, a = some ⟨b, off, none⟩ ∧ b < w.heap.size ∧ ∀ i, i < n → ∃ x : Int, 0 ≤ x ∧ x ≤ 255 ∧ w.cell? ⟨b, off + i, none⟩ = some (.int .u8 x)
theorem Byts.keep {w w' : World} {a : Option Addr} {n c : Nat} (h : Byts w a n c) (hb : Below w.heap.size w w') : Byts w' a n c := by
  refine ⟨h.cap, ?_⟩
  rcases h.pos with h0 | ⟨b, off, ha, hlt, hc⟩
  · exact .inl h0
  · exact .inr ⟨b, off, ha, Nat.lt_of_lt_of_le hlt hb.size, fun i hi => by obtain ⟨x, h1, h2, h3⟩ := hc i hi; exact ⟨x, h1, h2, (hb.cell (p := ⟨b, off + i, none⟩) hlt).trans h3⟩⟩
theorem Byts.at {w : World} {a : Option Addr} {n c : Nat} (h : Byts w a n c) {k : Nat} (hk : k < n) : ∃ b off x, a = some ⟨b, off, none⟩ ∧ b < w.heap.size ∧ (0 : Int) ≤ x ∧ x ≤ 255 ∧ w.cell? ⟨b, off + k, none⟩ = some (.int .u8 x) := by
  obtain ⟨b, off, ha, hlt, hc⟩ := h.pos.resolve_left (by omega)
  obtain ⟨x, h1, h2, h3⟩ := hc k hk
  exact ⟨b, off, x, ha, hlt, h1, h2, h3⟩
/-- bytes in blocks below lo -/
def BytsLo (w : World) (lo : Nat) (a : Option Addr) (n c : Nat) : Prop := Byts w a n c ∧ lo ≤ w.heap.size ∧ (n = 0 ∨ ∃ b off, a = some ⟨b, off, none⟩ ∧ b < lo)
theorem Byts.lo {w : World} {a : Option Addr} {n c : Nat} (h : Byts w a n c) : BytsLo w w.heap.size a n c :=
  ⟨h, Nat.le_refl _, h.pos.imp_right fun ⟨b, off, ha, hlt, _⟩ => ⟨b, off, ha, hlt⟩⟩
theorem BytsLo.below {w w' : World} {lo : Nat} {a : Option Addr} {n c : Nat} (h : BytsLo w lo a n c) (hb : Below lo w w') : BytsLo w' lo a n c := by
  obtain ⟨h1, h2, h3⟩ := h
  refine ⟨⟨h1.cap, ?_⟩, Nat.le_trans h2 hb.size, h3⟩
  rcases h3 with h0 | ⟨b, off, ha, hlt⟩
  · exact .inl h0
  · rcases h1.pos with h0 | ⟨b', off', ha', hlt', hc⟩
    · exact .inl h0
    · rw [ha] at ha'
      simp only [Option.some.injEq, Addr.mk.injEq, and_true] at ha'
      obtain ⟨rfl, rfl⟩ := ha'
      exact .inr ⟨b, off, ha, Nat.lt_of_lt_of_le hlt' hb.size, fun i hi => by obtain ⟨x, h1, h2, h3⟩ := hc i hi; exact ⟨x, h1, h2, (hb.cell (p := ⟨b, off + i, none⟩) hlt).trans h3⟩⟩
/-- block b is a source whose bytes lie below lo -/
def Src (T : TypeId) (w : World) (lo b : Nat) : Prop :=
  ∃ a n c p s, Blk w b #[.slice a n c, .int .i64 p, .int .i64 s] T ∧ BytsLo w lo a n c ∧ n ≤ 4096 ∧ 0 ≤ p ∧ p ≤ n ∧ 0 ≤ s ∧ s < 2147483647 ∧ lo ≤ b
theorem Src.lt {T : TypeId} {w : World} {lo b : Nat} (h : Src T w lo b) : lo ≤ b ∧ b < w.heap.size := by
  obtain ⟨a, n, c, p, s, h1, _, _, _, _, _, _, h2⟩ := h
  exact ⟨h2, h1.lt⟩
theorem Only.lower {lo hi : Nat} {w w' : World} (h : Only lo hi w w') (hl : lo ≤ w.heap.size) : Below lo w w' :=
  ⟨h.os, h.tape, h.output, h.size, fun k hk => h.block k (by omega) (.inl hk)⟩
/-- the source stays where other blocks from lo on are written -/
theorem Src.apart {T : TypeId} {w w' : World} {lo b l2 h2 : Nat} (h : Src T w lo b) (ho : Only l2 h2 w w') (hd : b < l2 ∨ h2 ≤ b) (hl : lo ≤ l2) : Src T w' lo b := by
  have hlt := h.lt
  obtain ⟨a, n, c, p, s, h1, h3, r⟩ := h
  refine ⟨a, n, c, p, s, h1.apart ho hd, h3.below ?_, r⟩
  exact ⟨ho.os, ho.tape, ho.output, ho.size, fun k hk => ho.block k (by omega) (.inl (by omega))⟩
theorem Src.keep {T : TypeId} {w w' : World} {lo b : Nat} (h : Src T w lo b) (hb : Below w.heap.size w w') : Src T w' lo b :=
  h.apart (Only.of_below (lo := w.heap.size) (hi := w.heap.size) hb) (.inl h.lt.2) (Nat.le_of_lt (Nat.lt_of_le_of_lt h.lt.1 h.lt.2))
theorem Src.alloc {T : TypeId} {w : World} {lo b : Nat} (h : Src T w lo b) (o : Obj) : Src T (w.alloc o) lo b := h.keep ((Below.refl _ _).alloc (Nat.le_refl _) o)
theorem Src.drewN {T : TypeId} {w : World} {lo b : Nat} (h : Src T w lo b) (n : Nat) : Src T (w.drewN n) lo b := h.keep ⟨rfl, rfl, rfl, Nat.le_refl _, fun _ _ => rfl⟩
theorem Src.drew {T : TypeId} {w : World} {lo b : Nat} (h : Src T w lo b) : Src T w.drew lo b := h.keep ⟨rfl, rfl, rfl, Nat.le_refl _, fun _ _ => rfl⟩
theorem Src.set {T : TypeId} {w : World} {lo b b' : Nat} (h : Src T w lo b) (hb : b' ≠ b) (hl : lo ≤ b') (i : Nat) (v : Value) : Src T (w.setCell ⟨b', i, none⟩ v) lo b := by
  have := (Only.refl b' (b' + 1) w).set ⟨Nat.le_refl _, Nat.lt_succ_self _⟩ i v
  exact h.apart this (by omega) hl
theorem Blk.set {w : World} {b : Nat} {cs : Array Value} {T : TypeId} (h : Blk w b cs T) (i : Nat) (v : Value) : Blk (w.setCell ⟨b, i, none⟩ v) b (cs.setIfInBounds i v) T := by
  exact heap_setCell_same w b i cs T v h
end Go.Proofs.YtipkncjjkkijfaaDoor
