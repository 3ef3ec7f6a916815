/-
  No cell of these rows narrows 'for every input' (looked for: loops, veiled, ifaces, maps, wideKeys, modest, calm, conditions, laid).
  DERIVED. THE GIVEN ROWS OF THIS SEAT. 8 by the template 'for every input the law returns true; each argument reads behind the call as it read before'; 0 by the template 'total and deterministic' (their statements: YtoaccicfmfiemaaTotals.lean).
  GIVEN WITH THE SEED: the statements are not yours to turn. If you find one false, say at which input.
  Laid BY PROGRAM, IN A SANDBOX (cutbox-rows.mjs): the forced cells as the released guide's own fill.sh prints them over the translation 520348e44271f8ba… (all of the seat's roots in one cut). By AI agents, Wed Nov 11 2026. No macro, syntax, notation, axiom, sorry.
-/
import Derived.Test.YtoaccicfmfiemaaChecked
import GoSem.Claim
import GoSem.ClaimJoined
import GoSem.ClaimMapViews
import Derived.JoinedTies
import Derived.KernelRfl
namespace Go.Proofs.Ytoaccicfmfiemaa
/- THE CELL 'sum', in the pinned program and in every row, IS THE sha256 OF THE DUMP (.gsa) THAT YtoaccicfmfiemaaProg.lean LOADS. Nothing in Lean hashes anything: it is a label: what it is worth is what the hold of that sum in a sandbox is worth. -/
noncomputable def Try.pinned : Pinned := { name := "ytoaccicfmfiemaa", sum := "520348e44271f8bac3265beb81af611fce56bd66e5520cab17c9cdd5ea6cb50a", checked := Try.checked }
namespace Rows
def none {H : Type} : Left H := { results := [], args := [] }

/-- 'laws.FnGuests': WHATEVER THE INPUT: true; the input reads as it did. -/
def fnGuestsSpec : ChangeSpec := { name := "fnGuests", fn := fun _ => fun
  | [d] => { results := [.lit (.bool true)], args := [d] }
  | _ => none }
def fnGuestsRow : OpenClaim := { program := "ytoaccicfmfiemaa", sum := "520348e44271f8bac3265beb81af611fce56bd66e5520cab17c9cdd5ea6cb50a", func := "loop.example/g00916/laws.FnGuests", spec := "fnGuests", unfollowed := true, recurses := true, apart := false }
def FnGuestsSaid : Prop := fnGuestsRow.holds Try.pinned (OpenSpec.ofChange fnGuestsSpec)

/-- ITS FALSE NEIGHBOUR: 'it returns false'. Refute it at one input. -/
def fnGuestsWrong : ChangeSpec := { name := "fnGuests", fn := fun _ => fun
  | [d] => { results := [.lit (.bool false)], args := [d] }
  | _ => none }
def FnGuestsWrongFalsely : Prop := fnGuestsRow.holds Try.pinned (OpenSpec.ofChange fnGuestsWrong)

/-- 'laws.FnReady': WHATEVER THE INPUT: true; the input reads as it did. -/
def fnReadySpec : ChangeSpec := { name := "fnReady", fn := fun _ => fun
  | [d] => { results := [.lit (.bool true)], args := [d] }
  | _ => none }
def fnReadyRow : OpenClaim := { program := "ytoaccicfmfiemaa", sum := "520348e44271f8bac3265beb81af611fce56bd66e5520cab17c9cdd5ea6cb50a", func := "loop.example/g00916/laws.FnReady", spec := "fnReady", unfollowed := true, recurses := true, apart := false }
def FnReadySaid : Prop := fnReadyRow.holds Try.pinned (OpenSpec.ofChange fnReadySpec)

/-- ITS FALSE NEIGHBOUR: 'it returns false'. Refute it at one input. -/
def fnReadyWrong : ChangeSpec := { name := "fnReady", fn := fun _ => fun
  | [d] => { results := [.lit (.bool false)], args := [d] }
  | _ => none }
def FnReadyWrongFalsely : Prop := fnReadyRow.holds Try.pinned (OpenSpec.ofChange fnReadyWrong)

/-- 'laws.FnRestraints': WHATEVER THE INPUT: true; the input reads as it did. -/
def fnRestraintsSpec : ChangeSpec := { name := "fnRestraints", fn := fun _ => fun
  | [d] => { results := [.lit (.bool true)], args := [d] }
  | _ => none }
def fnRestraintsRow : OpenClaim := { program := "ytoaccicfmfiemaa", sum := "520348e44271f8bac3265beb81af611fce56bd66e5520cab17c9cdd5ea6cb50a", func := "loop.example/g00916/laws.FnRestraints", spec := "fnRestraints", unfollowed := true, recurses := true, apart := false }
def FnRestraintsSaid : Prop := fnRestraintsRow.holds Try.pinned (OpenSpec.ofChange fnRestraintsSpec)

/-- ITS FALSE NEIGHBOUR: 'it returns false'. Refute it at one input. -/
def fnRestraintsWrong : ChangeSpec := { name := "fnRestraints", fn := fun _ => fun
  | [d] => { results := [.lit (.bool false)], args := [d] }
  | _ => none }
def FnRestraintsWrongFalsely : Prop := fnRestraintsRow.holds Try.pinned (OpenSpec.ofChange fnRestraintsWrong)

/-- 'laws.FnExactIsReplayEvent': WHATEVER THE INPUT: true; the input reads as it did. -/
def fnExactIsReplayEventSpec : ChangeSpec := { name := "fnExactIsReplayEvent", fn := fun _ => fun
  | [d1, d2] => { results := [.lit (.bool true)], args := [d1, d2] }
  | _ => none }
def fnExactIsReplayEventRow : OpenClaim := { program := "ytoaccicfmfiemaa", sum := "520348e44271f8bac3265beb81af611fce56bd66e5520cab17c9cdd5ea6cb50a", func := "loop.example/g00916/laws.FnExactIsReplayEvent", spec := "fnExactIsReplayEvent", unfollowed := true, recurses := true, apart := false }
def FnExactIsReplayEventSaid : Prop := fnExactIsReplayEventRow.holds Try.pinned (OpenSpec.ofChange fnExactIsReplayEventSpec)

/-- ITS FALSE NEIGHBOUR: 'it returns false'. Refute it at one input. -/
def fnExactIsReplayEventWrong : ChangeSpec := { name := "fnExactIsReplayEvent", fn := fun _ => fun
  | [d1, d2] => { results := [.lit (.bool false)], args := [d1, d2] }
  | _ => none }
def FnExactIsReplayEventWrongFalsely : Prop := fnExactIsReplayEventRow.holds Try.pinned (OpenSpec.ofChange fnExactIsReplayEventWrong)

/-- 'laws.FnExactTrafficIn': WHATEVER THE INPUT: true; the input reads as it did. -/
def fnExactTrafficInSpec : ChangeSpec := { name := "fnExactTrafficIn", fn := fun _ => fun
  | [d1, d2] => { results := [.lit (.bool true)], args := [d1, d2] }
  | _ => none }
def fnExactTrafficInRow : OpenClaim := { program := "ytoaccicfmfiemaa", sum := "520348e44271f8bac3265beb81af611fce56bd66e5520cab17c9cdd5ea6cb50a", func := "loop.example/g00916/laws.FnExactTrafficIn", spec := "fnExactTrafficIn", unfollowed := true, recurses := true, apart := false }
def FnExactTrafficInSaid : Prop := fnExactTrafficInRow.holds Try.pinned (OpenSpec.ofChange fnExactTrafficInSpec)

/-- ITS FALSE NEIGHBOUR: 'it returns false'. Refute it at one input. -/
def fnExactTrafficInWrong : ChangeSpec := { name := "fnExactTrafficIn", fn := fun _ => fun
  | [d1, d2] => { results := [.lit (.bool false)], args := [d1, d2] }
  | _ => none }
def FnExactTrafficInWrongFalsely : Prop := fnExactTrafficInRow.holds Try.pinned (OpenSpec.ofChange fnExactTrafficInWrong)

/-- 'laws.FnExactFaultsIn': WHATEVER THE INPUT: true; the input reads as it did. -/
def fnExactFaultsInSpec : ChangeSpec := { name := "fnExactFaultsIn", fn := fun _ => fun
  | [d1, d2] => { results := [.lit (.bool true)], args := [d1, d2] }
  | _ => none }
def fnExactFaultsInRow : OpenClaim := { program := "ytoaccicfmfiemaa", sum := "520348e44271f8bac3265beb81af611fce56bd66e5520cab17c9cdd5ea6cb50a", func := "loop.example/g00916/laws.FnExactFaultsIn", spec := "fnExactFaultsIn", unfollowed := true, recurses := true, apart := false }
def FnExactFaultsInSaid : Prop := fnExactFaultsInRow.holds Try.pinned (OpenSpec.ofChange fnExactFaultsInSpec)

/-- ITS FALSE NEIGHBOUR: 'it returns false'. Refute it at one input. -/
def fnExactFaultsInWrong : ChangeSpec := { name := "fnExactFaultsIn", fn := fun _ => fun
  | [d1, d2] => { results := [.lit (.bool false)], args := [d1, d2] }
  | _ => none }
def FnExactFaultsInWrongFalsely : Prop := fnExactFaultsInRow.holds Try.pinned (OpenSpec.ofChange fnExactFaultsInWrong)

/-- 'laws.FnRideStates': WHATEVER THE INPUT: true; the input reads as it did. -/
def fnRideStatesSpec : ChangeSpec := { name := "fnRideStates", fn := fun _ => fun
  | [d] => { results := [.lit (.bool true)], args := [d] }
  | _ => none }
def fnRideStatesRow : OpenClaim := { program := "ytoaccicfmfiemaa", sum := "520348e44271f8bac3265beb81af611fce56bd66e5520cab17c9cdd5ea6cb50a", func := "loop.example/g00916/laws.FnRideStates", spec := "fnRideStates", unfollowed := true, recurses := true, apart := false }
def FnRideStatesSaid : Prop := fnRideStatesRow.holds Try.pinned (OpenSpec.ofChange fnRideStatesSpec)

/-- ITS FALSE NEIGHBOUR: 'it returns false'. Refute it at one input. -/
def fnRideStatesWrong : ChangeSpec := { name := "fnRideStates", fn := fun _ => fun
  | [d] => { results := [.lit (.bool false)], args := [d] }
  | _ => none }
def FnRideStatesWrongFalsely : Prop := fnRideStatesRow.holds Try.pinned (OpenSpec.ofChange fnRideStatesWrong)

/-- 'laws.FnExactBitsOfModel': WHATEVER THE INPUT: true; the input reads as it did. -/
def fnExactBitsOfModelSpec : ChangeSpec := { name := "fnExactBitsOfModel", fn := fun _ => fun
  | [d] => { results := [.lit (.bool true)], args := [d] }
  | _ => none }
def fnExactBitsOfModelRow : OpenClaim := { program := "ytoaccicfmfiemaa", sum := "520348e44271f8bac3265beb81af611fce56bd66e5520cab17c9cdd5ea6cb50a", func := "loop.example/g00916/laws.FnExactBitsOfModel", spec := "fnExactBitsOfModel", inPlace := ["internal/bytealg.IndexByteString"], unfollowed := true, recurses := true, apart := false }
def FnExactBitsOfModelSaid : Prop := fnExactBitsOfModelRow.holds Try.pinned (OpenSpec.ofChange fnExactBitsOfModelSpec)

/-- ITS FALSE NEIGHBOUR: 'it returns false'. Refute it at one input. -/
def fnExactBitsOfModelWrong : ChangeSpec := { name := "fnExactBitsOfModel", fn := fun _ => fun
  | [d] => { results := [.lit (.bool false)], args := [d] }
  | _ => none }
def FnExactBitsOfModelWrongFalsely : Prop := fnExactBitsOfModelRow.holds Try.pinned (OpenSpec.ofChange fnExactBitsOfModelWrong)

/- THE SECOND FORM. 'bulk': how many values and letters a reading holds, each counted each time it is reached (what is shared counts as often as it is met; a slice's spare places count too). A statement '..UptoSaid' is the law's where the arguments, and the package variables that the reading takes, are together of bulk at most 1048576: NARROWER than '..Said'. Prove '..Said' where nothing that the law and all that it calls make is longer than what came in: it says more and counts as full. Else prove '..UptoSaid'. A law counts once. -/
mutual
def uptoBulk {H : Type} : DataW H → Nat
  | .lit (.string bytes) => bytes.length + 1
  | .lit _ => 1
  | .nil => 1
  | .ptr d => uptoBulk d + 1
  | .slice elems spare => uptoBulkAll elems + uptoBulkAll spare + 1
  | .agg parts => uptoBulkAll parts + 1
  | .iface _ d => uptoBulk d + 1
  | .map entries => uptoBulkEntries entries + 1
  | .held _ => 1
def uptoBulkAll {H : Type} : List (DataW H) → Nat
  | [] => 0
  | d :: r => uptoBulk d + uptoBulkAll r
def uptoBulkEntries {H : Type} : List (Lit × DataW H) → Nat
  | [] => 0
  | x :: r => uptoBulkEntry x + uptoBulkEntries r
def uptoBulkEntry {H : Type} : Lit × DataW H → Nat
  | (.string bytes, d) => bytes.length + uptoBulk d + 1
  | (_, d) => uptoBulk d + 1
 end
def uptoSmall : (H : Type) → List (DataW H) → Bool := fun _ ds => decide (uptoBulkAll ds ≤ 1048576)
def OpenSpec.upto (s : _root_.Go.ChangeSpec) : _root_.Go.OpenSpec := { _root_.Go.OpenSpec.ofChange s with cond := some uptoSmall }

/-- 'laws.FnGuests', WHERE WHAT IT READS IS OF BULK AT MOST 1048576: true; the input reads as it did. -/
def fnGuestsUptoRow : OpenClaim := { program := "ytoaccicfmfiemaa", sum := "520348e44271f8bac3265beb81af611fce56bd66e5520cab17c9cdd5ea6cb50a", func := "loop.example/g00916/laws.FnGuests", spec := "fnGuests", unfollowed := true, recurses := true, apart := false, narrowed := true }
def FnGuestsUptoSaid : Prop := fnGuestsUptoRow.holds Try.pinned (OpenSpec.upto fnGuestsSpec)

/-- 'laws.FnReady', WHERE WHAT IT READS IS OF BULK AT MOST 1048576: true; the input reads as it did. -/
def fnReadyUptoRow : OpenClaim := { program := "ytoaccicfmfiemaa", sum := "520348e44271f8bac3265beb81af611fce56bd66e5520cab17c9cdd5ea6cb50a", func := "loop.example/g00916/laws.FnReady", spec := "fnReady", unfollowed := true, recurses := true, apart := false, narrowed := true }
def FnReadyUptoSaid : Prop := fnReadyUptoRow.holds Try.pinned (OpenSpec.upto fnReadySpec)

/-- 'laws.FnRestraints', WHERE WHAT IT READS IS OF BULK AT MOST 1048576: true; the input reads as it did. -/
def fnRestraintsUptoRow : OpenClaim := { program := "ytoaccicfmfiemaa", sum := "520348e44271f8bac3265beb81af611fce56bd66e5520cab17c9cdd5ea6cb50a", func := "loop.example/g00916/laws.FnRestraints", spec := "fnRestraints", unfollowed := true, recurses := true, apart := false, narrowed := true }
def FnRestraintsUptoSaid : Prop := fnRestraintsUptoRow.holds Try.pinned (OpenSpec.upto fnRestraintsSpec)

/-- 'laws.FnExactIsReplayEvent', WHERE WHAT IT READS IS OF BULK AT MOST 1048576: true; the input reads as it did. -/
def fnExactIsReplayEventUptoRow : OpenClaim := { program := "ytoaccicfmfiemaa", sum := "520348e44271f8bac3265beb81af611fce56bd66e5520cab17c9cdd5ea6cb50a", func := "loop.example/g00916/laws.FnExactIsReplayEvent", spec := "fnExactIsReplayEvent", unfollowed := true, recurses := true, apart := false, narrowed := true }
def FnExactIsReplayEventUptoSaid : Prop := fnExactIsReplayEventUptoRow.holds Try.pinned (OpenSpec.upto fnExactIsReplayEventSpec)

/-- 'laws.FnExactTrafficIn', WHERE WHAT IT READS IS OF BULK AT MOST 1048576: true; the input reads as it did. -/
def fnExactTrafficInUptoRow : OpenClaim := { program := "ytoaccicfmfiemaa", sum := "520348e44271f8bac3265beb81af611fce56bd66e5520cab17c9cdd5ea6cb50a", func := "loop.example/g00916/laws.FnExactTrafficIn", spec := "fnExactTrafficIn", unfollowed := true, recurses := true, apart := false, narrowed := true }
def FnExactTrafficInUptoSaid : Prop := fnExactTrafficInUptoRow.holds Try.pinned (OpenSpec.upto fnExactTrafficInSpec)

/-- 'laws.FnExactFaultsIn', WHERE WHAT IT READS IS OF BULK AT MOST 1048576: true; the input reads as it did. -/
def fnExactFaultsInUptoRow : OpenClaim := { program := "ytoaccicfmfiemaa", sum := "520348e44271f8bac3265beb81af611fce56bd66e5520cab17c9cdd5ea6cb50a", func := "loop.example/g00916/laws.FnExactFaultsIn", spec := "fnExactFaultsIn", unfollowed := true, recurses := true, apart := false, narrowed := true }
def FnExactFaultsInUptoSaid : Prop := fnExactFaultsInUptoRow.holds Try.pinned (OpenSpec.upto fnExactFaultsInSpec)

/-- 'laws.FnRideStates', WHERE WHAT IT READS IS OF BULK AT MOST 1048576: true; the input reads as it did. -/
def fnRideStatesUptoRow : OpenClaim := { program := "ytoaccicfmfiemaa", sum := "520348e44271f8bac3265beb81af611fce56bd66e5520cab17c9cdd5ea6cb50a", func := "loop.example/g00916/laws.FnRideStates", spec := "fnRideStates", unfollowed := true, recurses := true, apart := false, narrowed := true }
def FnRideStatesUptoSaid : Prop := fnRideStatesUptoRow.holds Try.pinned (OpenSpec.upto fnRideStatesSpec)

/-- 'laws.FnExactBitsOfModel', WHERE WHAT IT READS IS OF BULK AT MOST 1048576: true; the input reads as it did. -/
def fnExactBitsOfModelUptoRow : OpenClaim := { program := "ytoaccicfmfiemaa", sum := "520348e44271f8bac3265beb81af611fce56bd66e5520cab17c9cdd5ea6cb50a", func := "loop.example/g00916/laws.FnExactBitsOfModel", spec := "fnExactBitsOfModel", inPlace := ["internal/bytealg.IndexByteString"], unfollowed := true, recurses := true, apart := false, narrowed := true }
def FnExactBitsOfModelUptoSaid : Prop := fnExactBitsOfModelUptoRow.holds Try.pinned (OpenSpec.upto fnExactBitsOfModelSpec)

end Rows
end Go.Proofs.Ytoaccicfmfiemaa
