/- Slices of records: the copies, comparisons and marks of the exact laws, and Go's generic functions, walked. -/
import Derived.Test.YtjneodmohkpckaaGreatDoorSl
import Derived.Test.YtjneodmohkpckaaGreatDoorEx
namespace Go.Proofs.YtjneodmohkpckaaGreatDoor
open Go.RowKit
set_option linter.unusedVariables false
set_option linter.unusedSimpArgs false
/-- what a function value g bound to lb answers at a record -/
def PredF {α : Type} (P : Program) (g : Nat) (lb : Array Value) (enc : α → List Value) (ok : α → Prop) (p : α → Bool) (w : World) : Prop :=
  ∀ (W : World) (x : α), ok x → Below w.heap.size w W → Calls P g (#[.agg (enc x).toArray] ++ lb) W fun e w' => e = .returned (.bool (p x)) ∧ Below W.heap.size W w'
theorem flat_replicate {α : Type} {enc : α → List Value} {z : α} {zc : Array Value} (h : enc z = zc.toList) (hk : 0 < zc.size) (n : Nat) : (madeCells zc (n * zc.size)).toList = (List.replicate n z).flatMap enc := by
  apply List.ext_getElem?
  intro j
  have hflat : ∀ m, (List.replicate m z).flatMap enc = (List.range (m * zc.size)).map (zc[· % zc.size]!) := by
    intro m
    induction m with
    | zero => simp
    | succ m ih =>
      rw [List.replicate_succ', List.flatMap_append, ih, Nat.add_mul, Nat.one_mul, List.range_add, List.map_append, List.map_map]
      congr 1
      rw [List.flatMap_singleton, h]
      apply List.ext_getElem?
      intro i
      by_cases hi : i < zc.size
      · simp [hi, Function.comp, Nat.mul_add_mod_of_lt, Nat.mod_eq_of_lt]
      · simp [hi]
  rw [hflat]
  simp [madeCells]
end Go.Proofs.YtjneodmohkpckaaGreatDoor
