/- The laws on commands. -/
import Derived.Test.YtfhogleillgcgaaDoorL27b
namespace Go.Proofs.YtfhogleillgcgaaDoor
open Go.RowKit
set_option linter.unusedVariables false
set_option linter.unusedSimpArgs false
def cmdCode (m k r : Int) : Int := if commandB k r = false then 1 else if inB m 0 5 = false then 2 else 0
theorem F2b.one {w : World} {E : TypeId} {x : I2b} (hw : x.ok) {g : Nat} (hg : g = w.heap.size) : F2b (w.alloc (.cells #[.int .i64 x.a, .int .i64 x.b, .bool x.c] E)) (some ⟨g, 0, none⟩) 1 1 [x] := by
  subst hg
  refine ⟨rfl, Nat.le_refl _, .inr ⟨w.heap.size, 0, rfl, by simp, fun i y hy j v hv => ?_⟩, fun y hy => by simp at hy; subst hy; exact hw, fun h => by cases h⟩
  cases i with
  | succ i => simp at hy
  | zero =>
    simp at hy
    subst hy
    have hb : Blk (w.alloc (.cells #[.int .i64 x.a, .int .i64 x.b, .bool x.c] E)) w.heap.size #[.int .i64 x.a, .int .i64 x.b, .bool x.c] E := Blk.made _ _ _
    have := hb.cell j
    simp only [Nat.zero_mul, Nat.zero_add]
    rw [this, ← hv]
    match j with
    | 0 => rfl
    | 1 => rfl
    | 2 => rfl
    | j + 3 => simp [I2b.enc]
theorem cmdCode_ok {m k r : Int} (h : cmdCode m k r = 0) : inB k 0 9 = true ∧ inB m 0 5 = true := by
  unfold cmdCode at h
  split at h
  · cases h
  · split at h
    · cases h
    · simp_all [commandB]
def cmdV (m k r : Int) (key : Bool) : Int := if cmdCode m k r = 0 then cVerd m k r key else 0
def cmdN (m k r : Int) (key : Bool) : Int := if cmdCode m k r = 0 then cNext m k r key else 0
theorem ret_jj {a b c d : Int} (h : a = b) (h' : c = d) : Ending.returned (.tuple #[.int .i64 a, .int .i64 c]) = .returned (.tuple #[.int .i64 b, .int .i64 d]) := by rw [h, h']
end Go.Proofs.YtfhogleillgcgaaDoor
