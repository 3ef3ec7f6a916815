/- Generic functions of Go's package slices, walked over int64. -/
import Derived.Test.YtjneodmohkpckaaDoorL01
import Derived.Test.YtjneodmohkpckaaDoorEx
import Derived.Lib.SliceRun
namespace Go.Proofs.YtjneodmohkpckaaDoor
open Go.RowKit
set_option linter.unusedVariables false
set_option linter.unusedSimpArgs false

/-- what a function value g bound to lb answers at an int64 -/
def PredI (P : Program) (g : Nat) (lb : Array Value) (p : Int → Bool) (w : World) : Prop :=
  ∀ (W : World) (x : Int), I64 x → Below w.heap.size w W → Calls P g (#[.int .i64 x] ++ lb) W fun e w' => e = .returned (.bool (p x)) ∧ Below W.heap.size W w'
theorem PredI.later {P : Program} {g : Nat} {lb : Array Value} {p : Int → Bool} {w w' : World} (h : PredI P g lb p w) (hb : Below w.heap.size w w') : PredI P g lb p w' :=
  fun W x hx h' => h W x hx (below_call hb h' hb.size)
/-- the place of the first element at which p holds, or -1 -/
def idxF {α : Type} (p : α → Bool) : List α → Int
  | [] => -1
  | x :: r => if p x then 0 else (if idxF p r < 0 then -1 else idxF p r + 1)
theorem idxF_nonneg {α : Type} (p : α → Bool) (l : List α) : decide (0 ≤ idxF p l) = l.any p := by
  induction l with
  | nil => simp [idxF]
  | cons x r ih =>
    rw [List.any_cons, ← ih, idxF]
    by_cases h : p x = true
    · simp [h]
    · by_cases h' : idxF p r < 0
      · simp [h, h']
      · simp [h, h']; omega
theorem idxF_ge {α : Type} (p : α → Bool) (l : List α) : -1 ≤ idxF p l := by
  induction l with
  | nil => simp [idxF]
  | cons x r ih => rw [idxF]; split <;> (try split) <;> omega
theorem idxF_lt {α : Type} (p : α → Bool) (l : List α) : idxF p l < l.length := by
  induction l with
  | nil => simp [idxF]
  | cons x r ih => rw [idxF, List.length_cons]; split <;> (try split) <;> omega
theorem idxF_hit {α : Type} {p : α → Bool} {l : List α} {k : Nat} {x : α} (hk : l[k]? = some x) (hp : p x = true) (hb : (l.take k).any p = false) : idxF p l = k := by
  induction l generalizing k with
  | nil => simp at hk
  | cons y r ih =>
    cases k with
    | zero => simp at hk; subst hk; simp [idxF, hp]
    | succ k =>
      simp only [List.take_succ_cons, List.any_cons, Bool.or_eq_false_iff] at hb
      have := ih (k := k) (by simpa using hk) hb.2
      rw [idxF, this]; simp [hb.1]; omega
theorem idxF_miss {α : Type} {p : α → Bool} {l : List α} (hb : l.any p = false) : idxF p l = -1 := by
  have h := idxF_nonneg p l
  have h' := idxF_ge p l
  rw [hb] at h
  have := of_decide_eq_false h
  omega
end Go.Proofs.YtjneodmohkpckaaDoor
