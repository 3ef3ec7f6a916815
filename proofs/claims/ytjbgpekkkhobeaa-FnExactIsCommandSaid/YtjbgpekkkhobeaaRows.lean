/-
  No cell of these rows narrows 'for every input' (looked for: loops, veiled, ifaces, maps, wideKeys, modest, calm, conditions, laid).
  DERIVED. THE GIVEN ROWS OF THIS SEAT. 4 by the template 'for every input the law returns true; each argument reads behind the call as it read before'; 0 by the template 'total and deterministic' (their statements: YtjbgpekkkhobeaaTotals.lean).
  GIVEN WITH THE SEED: the statements are not yours to turn. If you find one false, say at which input.
  Laid BY PROGRAM, IN A SANDBOX (cutbox-rows.mjs): the forced cells as the released guide's own fill.sh prints them over the translation f74839f17341a023… (all of the seat's roots in one cut). By AI agents, Wed Nov 11 2026. No macro, syntax, notation, axiom, sorry.
-/
import Derived.Test.YtjbgpekkkhobeaaChecked
import GoSem.Claim
import GoSem.ClaimJoined
import GoSem.ClaimMapViews
import Derived.JoinedTies
import Derived.KernelRfl
namespace Go.Proofs.Ytjbgpekkkhobeaa
/- THE CELL 'sum', in the pinned program and in every row, IS THE sha256 OF THE DUMP (.gsa) THAT YtjbgpekkkhobeaaProg.lean LOADS. Nothing in Lean hashes anything: it is a label: what it is worth is what the hold of that sum in a sandbox is worth. -/
noncomputable def Try.pinned : Pinned := { name := "ytjbgpekkkhobeaa", sum := "f74839f17341a023274579ab8b4223b7c0af9cf8881b9966e0a4b0f7b0b9c104", checked := Try.checked }
namespace Rows
def none {H : Type} : Left H := { results := [], args := [] }

/-- 'laws.FnExactIsHeightRule': WHATEVER THE INPUT: true; the input reads as it did. -/
def fnExactIsHeightRuleSpec : ChangeSpec := { name := "fnExactIsHeightRule", fn := fun _ => fun
  | [d] => { results := [.lit (.bool true)], args := [d] }
  | _ => none }
def fnExactIsHeightRuleRow : OpenClaim := { program := "ytjbgpekkkhobeaa", sum := "f74839f17341a023274579ab8b4223b7c0af9cf8881b9966e0a4b0f7b0b9c104", func := "loop.example/g00916/laws.FnExactIsHeightRule", spec := "fnExactIsHeightRule", apart := false }
def FnExactIsHeightRuleSaid : Prop := fnExactIsHeightRuleRow.holds Try.pinned (OpenSpec.ofChange fnExactIsHeightRuleSpec)

/-- ITS FALSE NEIGHBOUR: 'it returns false'. Refute it at one input. -/
def fnExactIsHeightRuleWrong : ChangeSpec := { name := "fnExactIsHeightRule", fn := fun _ => fun
  | [d] => { results := [.lit (.bool false)], args := [d] }
  | _ => none }
def FnExactIsHeightRuleWrongFalsely : Prop := fnExactIsHeightRuleRow.holds Try.pinned (OpenSpec.ofChange fnExactIsHeightRuleWrong)

/-- 'laws.FnExactIsCommand': WHATEVER THE INPUT: true; the input reads as it did. -/
def fnExactIsCommandSpec : ChangeSpec := { name := "fnExactIsCommand", fn := fun _ => fun
  | [d] => { results := [.lit (.bool true)], args := [d] }
  | _ => none }
def fnExactIsCommandRow : OpenClaim := { program := "ytjbgpekkkhobeaa", sum := "f74839f17341a023274579ab8b4223b7c0af9cf8881b9966e0a4b0f7b0b9c104", func := "loop.example/g00916/laws.FnExactIsCommand", spec := "fnExactIsCommand", apart := false }
def FnExactIsCommandSaid : Prop := fnExactIsCommandRow.holds Try.pinned (OpenSpec.ofChange fnExactIsCommandSpec)

/-- ITS FALSE NEIGHBOUR: 'it returns false'. Refute it at one input. -/
def fnExactIsCommandWrong : ChangeSpec := { name := "fnExactIsCommand", fn := fun _ => fun
  | [d] => { results := [.lit (.bool false)], args := [d] }
  | _ => none }
def FnExactIsCommandWrongFalsely : Prop := fnExactIsCommandRow.holds Try.pinned (OpenSpec.ofChange fnExactIsCommandWrong)

/-- 'laws.FnExactAreRestraints': WHATEVER THE INPUT: true; the input reads as it did. -/
def fnExactAreRestraintsSpec : ChangeSpec := { name := "fnExactAreRestraints", fn := fun _ => fun
  | [d] => { results := [.lit (.bool true)], args := [d] }
  | _ => none }
def fnExactAreRestraintsRow : OpenClaim := { program := "ytjbgpekkkhobeaa", sum := "f74839f17341a023274579ab8b4223b7c0af9cf8881b9966e0a4b0f7b0b9c104", func := "loop.example/g00916/laws.FnExactAreRestraints", spec := "fnExactAreRestraints", unfollowed := true, recurses := true, apart := false }
def FnExactAreRestraintsSaid : Prop := fnExactAreRestraintsRow.holds Try.pinned (OpenSpec.ofChange fnExactAreRestraintsSpec)

/-- ITS FALSE NEIGHBOUR: 'it returns false'. Refute it at one input. -/
def fnExactAreRestraintsWrong : ChangeSpec := { name := "fnExactAreRestraints", fn := fun _ => fun
  | [d] => { results := [.lit (.bool false)], args := [d] }
  | _ => none }
def FnExactAreRestraintsWrongFalsely : Prop := fnExactAreRestraintsRow.holds Try.pinned (OpenSpec.ofChange fnExactAreRestraintsWrong)

/-- 'laws.FnExactAllLocked': WHATEVER THE INPUT: true; the input reads as it did. -/
def fnExactAllLockedSpec : ChangeSpec := { name := "fnExactAllLocked", fn := fun _ => fun
  | [d] => { results := [.lit (.bool true)], args := [d] }
  | _ => none }
def fnExactAllLockedRow : OpenClaim := { program := "ytjbgpekkkhobeaa", sum := "f74839f17341a023274579ab8b4223b7c0af9cf8881b9966e0a4b0f7b0b9c104", func := "loop.example/g00916/laws.FnExactAllLocked", spec := "fnExactAllLocked", unfollowed := true, recurses := true, apart := false }
def FnExactAllLockedSaid : Prop := fnExactAllLockedRow.holds Try.pinned (OpenSpec.ofChange fnExactAllLockedSpec)

/-- ITS FALSE NEIGHBOUR: 'it returns false'. Refute it at one input. -/
def fnExactAllLockedWrong : ChangeSpec := { name := "fnExactAllLocked", fn := fun _ => fun
  | [d] => { results := [.lit (.bool false)], args := [d] }
  | _ => none }
def FnExactAllLockedWrongFalsely : Prop := fnExactAllLockedRow.holds Try.pinned (OpenSpec.ofChange fnExactAllLockedWrong)

/- THE SECOND FORM. 'bulk': how many values and letters a reading holds, each counted each time it is reached (what is shared counts as often as it is met; a slice's spare places count too). A statement '..UptoSaid' is the law's where the arguments, and the package variables that the reading takes, are together of bulk at most 1048576: NARROWER than '..Said'. Prove '..Said' where nothing that the law and all that it calls make is longer than what came in: it says more and counts as full. Else prove '..UptoSaid'. A law counts once. -/
mutual
def uptoBulk {H : Type} : DataW H → Nat
  | .lit (.string bytes) => bytes.length + 1
  | .lit _ => 1
  | .nil => 1
  | .ptr d => uptoBulk d + 1
  | .slice elems spare => uptoBulkAll elems + uptoBulkAll spare + 1
  | .agg parts => uptoBulkAll parts + 1
  | .iface _ d => uptoBulk d + 1
  | .map entries => uptoBulkEntries entries + 1
  | .held _ => 1
def uptoBulkAll {H : Type} : List (DataW H) → Nat
  | [] => 0
  | d :: r => uptoBulk d + uptoBulkAll r
def uptoBulkEntries {H : Type} : List (Lit × DataW H) → Nat
  | [] => 0
  | x :: r => uptoBulkEntry x + uptoBulkEntries r
def uptoBulkEntry {H : Type} : Lit × DataW H → Nat
  | (.string bytes, d) => bytes.length + uptoBulk d + 1
  | (_, d) => uptoBulk d + 1
 end
def uptoSmall : (H : Type) → List (DataW H) → Bool := fun _ ds => decide (uptoBulkAll ds ≤ 1048576)
def OpenSpec.upto (s : _root_.Go.ChangeSpec) : _root_.Go.OpenSpec := { _root_.Go.OpenSpec.ofChange s with cond := some uptoSmall }

/-- 'laws.FnExactIsHeightRule', WHERE WHAT IT READS IS OF BULK AT MOST 1048576: true; the input reads as it did. -/
def fnExactIsHeightRuleUptoRow : OpenClaim := { program := "ytjbgpekkkhobeaa", sum := "f74839f17341a023274579ab8b4223b7c0af9cf8881b9966e0a4b0f7b0b9c104", func := "loop.example/g00916/laws.FnExactIsHeightRule", spec := "fnExactIsHeightRule", apart := false, narrowed := true }
def FnExactIsHeightRuleUptoSaid : Prop := fnExactIsHeightRuleUptoRow.holds Try.pinned (OpenSpec.upto fnExactIsHeightRuleSpec)

/-- 'laws.FnExactIsCommand', WHERE WHAT IT READS IS OF BULK AT MOST 1048576: true; the input reads as it did. -/
def fnExactIsCommandUptoRow : OpenClaim := { program := "ytjbgpekkkhobeaa", sum := "f74839f17341a023274579ab8b4223b7c0af9cf8881b9966e0a4b0f7b0b9c104", func := "loop.example/g00916/laws.FnExactIsCommand", spec := "fnExactIsCommand", apart := false, narrowed := true }
def FnExactIsCommandUptoSaid : Prop := fnExactIsCommandUptoRow.holds Try.pinned (OpenSpec.upto fnExactIsCommandSpec)

/-- 'laws.FnExactAreRestraints', WHERE WHAT IT READS IS OF BULK AT MOST 1048576: true; the input reads as it did. -/
def fnExactAreRestraintsUptoRow : OpenClaim := { program := "ytjbgpekkkhobeaa", sum := "f74839f17341a023274579ab8b4223b7c0af9cf8881b9966e0a4b0f7b0b9c104", func := "loop.example/g00916/laws.FnExactAreRestraints", spec := "fnExactAreRestraints", unfollowed := true, recurses := true, apart := false, narrowed := true }
def FnExactAreRestraintsUptoSaid : Prop := fnExactAreRestraintsUptoRow.holds Try.pinned (OpenSpec.upto fnExactAreRestraintsSpec)

/-- 'laws.FnExactAllLocked', WHERE WHAT IT READS IS OF BULK AT MOST 1048576: true; the input reads as it did. -/
def fnExactAllLockedUptoRow : OpenClaim := { program := "ytjbgpekkkhobeaa", sum := "f74839f17341a023274579ab8b4223b7c0af9cf8881b9966e0a4b0f7b0b9c104", func := "loop.example/g00916/laws.FnExactAllLocked", spec := "fnExactAllLocked", unfollowed := true, recurses := true, apart := false, narrowed := true }
def FnExactAllLockedUptoSaid : Prop := fnExactAllLockedUptoRow.holds Try.pinned (OpenSpec.upto fnExactAllLockedSpec)

end Rows
end Go.Proofs.Ytjbgpekkkhobeaa
