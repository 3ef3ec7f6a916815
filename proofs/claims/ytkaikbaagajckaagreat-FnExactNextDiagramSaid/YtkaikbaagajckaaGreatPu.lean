/- One name for the steps that write a value into an act (a claim holds 1.5 MB). -/
import Derived.Test.YtkaikbaagajckaaGreatBase
namespace Go.Proofs.YtkaikbaagajckaaGreat
open Go.RowKit
theorem pu : (∀ (a : Act) (d : Nat) (v : Value), a.put (some d) v = { a with tmps := a.tmps.setIfInBounds d v }) ∧ (∀ (a : Act) (v : Value), a.put none v = a) ∧ (∀ (l : List Value) (i : Nat) (x : Value), l.toArray.setIfInBounds i x = (l.set i x).toArray) ∧ (∀ (l : List Value) (x y : Value), (x :: l).set 0 y = y :: l) ∧ (∀ (l : List Value) (x y : Value) (i : Nat), (x :: l).set (i + 1) y = x :: l.set i y) :=
  ⟨fun _ _ _ => rfl, fun _ _ => rfl, fun _ _ _ => List.setIfInBounds_toArray .., fun _ _ _ => rfl, fun _ _ _ _ => rfl⟩
end Go.Proofs.YtkaikbaagajckaaGreat
