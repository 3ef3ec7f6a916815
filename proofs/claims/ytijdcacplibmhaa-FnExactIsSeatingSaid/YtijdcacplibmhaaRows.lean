/-
  No cell of these rows narrows 'for every input' (looked for: loops, veiled, ifaces, maps, wideKeys, modest, calm, conditions, laid).
  DERIVED. THE GIVEN ROWS OF THIS SEAT. 10 by the template 'for every input the law returns true; each argument reads behind the call as it read before'; 0 by the template 'total and deterministic' (their statements: YtijdcacplibmhaaTotals.lean).
  GIVEN WITH THE SEED: the statements are not yours to turn. If you find one false, say at which input.
  Laid BY PROGRAM, IN A SANDBOX (cutbox-rows.mjs): the forced cells as the released guide's own fill.sh prints them over the translation f269a5dc37e0b8a1… (all of the seat's roots in one cut). By AI agents, Wed Nov 11 2026. No macro, syntax, notation, axiom, sorry.
-/
import Derived.Test.YtijdcacplibmhaaChecked
import GoSem.Claim
import GoSem.ClaimJoined
import GoSem.ClaimMapViews
import Derived.JoinedTies
import Derived.KernelRfl
namespace Go.Proofs.Ytijdcacplibmhaa
/- THE CELL 'sum', in the pinned program and in every row, IS THE sha256 OF THE DUMP (.gsa) THAT YtijdcacplibmhaaProg.lean LOADS. Nothing in Lean hashes anything: it is a label: what it is worth is what the hold of that sum in a sandbox is worth. -/
noncomputable def Try.pinned : Pinned := { name := "ytijdcacplibmhaa", sum := "f269a5dc37e0b8a188eaa0b4383a81e7de3ef19d40c761dbe2505cd3a7212151", checked := Try.checked }
namespace Rows
def none {H : Type} : Left H := { results := [], args := [] }

/-- 'laws.FnExactCompanionOf': WHATEVER THE INPUT: true; the input reads as it did. -/
def fnExactCompanionOfSpec : ChangeSpec := { name := "fnExactCompanionOf", fn := fun _ => fun
  | [d1, d2] => { results := [.lit (.bool true)], args := [d1, d2] }
  | _ => none }
def fnExactCompanionOfRow : OpenClaim := { program := "ytijdcacplibmhaa", sum := "f269a5dc37e0b8a188eaa0b4383a81e7de3ef19d40c761dbe2505cd3a7212151", func := "loop.example/g00916/laws.FnExactCompanionOf", spec := "fnExactCompanionOf", unfollowed := true, recurses := true, apart := false }
def FnExactCompanionOfSaid : Prop := fnExactCompanionOfRow.holds Try.pinned (OpenSpec.ofChange fnExactCompanionOfSpec)

/-- ITS FALSE NEIGHBOUR: 'it returns false'. Refute it at one input. -/
def fnExactCompanionOfWrong : ChangeSpec := { name := "fnExactCompanionOf", fn := fun _ => fun
  | [d1, d2] => { results := [.lit (.bool false)], args := [d1, d2] }
  | _ => none }
def FnExactCompanionOfWrongFalsely : Prop := fnExactCompanionOfRow.holds Try.pinned (OpenSpec.ofChange fnExactCompanionOfWrong)

/-- 'laws.FnExactGuestVerdict': WHATEVER THE INPUT: true; the input reads as it did. -/
def fnExactGuestVerdictSpec : ChangeSpec := { name := "fnExactGuestVerdict", fn := fun _ => fun
  | [d1, d2] => { results := [.lit (.bool true)], args := [d1, d2] }
  | _ => none }
def fnExactGuestVerdictRow : OpenClaim := { program := "ytijdcacplibmhaa", sum := "f269a5dc37e0b8a188eaa0b4383a81e7de3ef19d40c761dbe2505cd3a7212151", func := "loop.example/g00916/laws.FnExactGuestVerdict", spec := "fnExactGuestVerdict", unfollowed := true, recurses := true, apart := false }
def FnExactGuestVerdictSaid : Prop := fnExactGuestVerdictRow.holds Try.pinned (OpenSpec.ofChange fnExactGuestVerdictSpec)

/-- ITS FALSE NEIGHBOUR: 'it returns false'. Refute it at one input. -/
def fnExactGuestVerdictWrong : ChangeSpec := { name := "fnExactGuestVerdict", fn := fun _ => fun
  | [d1, d2] => { results := [.lit (.bool false)], args := [d1, d2] }
  | _ => none }
def FnExactGuestVerdictWrongFalsely : Prop := fnExactGuestVerdictRow.holds Try.pinned (OpenSpec.ofChange fnExactGuestVerdictWrong)

/-- 'laws.FnExactAreLockFaults': WHATEVER THE INPUT: true; the input reads as it did. -/
def fnExactAreLockFaultsSpec : ChangeSpec := { name := "fnExactAreLockFaults", fn := fun _ => fun
  | [d1, d2] => { results := [.lit (.bool true)], args := [d1, d2] }
  | _ => none }
def fnExactAreLockFaultsRow : OpenClaim := { program := "ytijdcacplibmhaa", sum := "f269a5dc37e0b8a188eaa0b4383a81e7de3ef19d40c761dbe2505cd3a7212151", func := "loop.example/g00916/laws.FnExactAreLockFaults", spec := "fnExactAreLockFaults", unfollowed := true, recurses := true, apart := false }
def FnExactAreLockFaultsSaid : Prop := fnExactAreLockFaultsRow.holds Try.pinned (OpenSpec.ofChange fnExactAreLockFaultsSpec)

/-- ITS FALSE NEIGHBOUR: 'it returns false'. Refute it at one input. -/
def fnExactAreLockFaultsWrong : ChangeSpec := { name := "fnExactAreLockFaults", fn := fun _ => fun
  | [d1, d2] => { results := [.lit (.bool false)], args := [d1, d2] }
  | _ => none }
def FnExactAreLockFaultsWrongFalsely : Prop := fnExactAreLockFaultsRow.holds Try.pinned (OpenSpec.ofChange fnExactAreLockFaultsWrong)

/-- 'laws.FnExactAreLockFaultsTolerated': WHATEVER THE INPUT: true; the input reads as it did. -/
def fnExactAreLockFaultsToleratedSpec : ChangeSpec := { name := "fnExactAreLockFaultsTolerated", fn := fun _ => fun
  | [d1, d2] => { results := [.lit (.bool true)], args := [d1, d2] }
  | _ => none }
def fnExactAreLockFaultsToleratedRow : OpenClaim := { program := "ytijdcacplibmhaa", sum := "f269a5dc37e0b8a188eaa0b4383a81e7de3ef19d40c761dbe2505cd3a7212151", func := "loop.example/g00916/laws.FnExactAreLockFaultsTolerated", spec := "fnExactAreLockFaultsTolerated", unfollowed := true, recurses := true, apart := false }
def FnExactAreLockFaultsToleratedSaid : Prop := fnExactAreLockFaultsToleratedRow.holds Try.pinned (OpenSpec.ofChange fnExactAreLockFaultsToleratedSpec)

/-- ITS FALSE NEIGHBOUR: 'it returns false'. Refute it at one input. -/
def fnExactAreLockFaultsToleratedWrong : ChangeSpec := { name := "fnExactAreLockFaultsTolerated", fn := fun _ => fun
  | [d1, d2] => { results := [.lit (.bool false)], args := [d1, d2] }
  | _ => none }
def FnExactAreLockFaultsToleratedWrongFalsely : Prop := fnExactAreLockFaultsToleratedRow.holds Try.pinned (OpenSpec.ofChange fnExactAreLockFaultsToleratedWrong)

/-- 'laws.FnExactRowsNeeded': WHATEVER THE INPUT: true; the input reads as it did. -/
def fnExactRowsNeededSpec : ChangeSpec := { name := "fnExactRowsNeeded", fn := fun _ => fun
  | [d1, d2] => { results := [.lit (.bool true)], args := [d1, d2] }
  | _ => none }
def fnExactRowsNeededRow : OpenClaim := { program := "ytijdcacplibmhaa", sum := "f269a5dc37e0b8a188eaa0b4383a81e7de3ef19d40c761dbe2505cd3a7212151", func := "loop.example/g00916/laws.FnExactRowsNeeded", spec := "fnExactRowsNeeded", unfollowed := true, recurses := true, apart := false }
def FnExactRowsNeededSaid : Prop := fnExactRowsNeededRow.holds Try.pinned (OpenSpec.ofChange fnExactRowsNeededSpec)

/-- ITS FALSE NEIGHBOUR: 'it returns false'. Refute it at one input. -/
def fnExactRowsNeededWrong : ChangeSpec := { name := "fnExactRowsNeeded", fn := fun _ => fun
  | [d1, d2] => { results := [.lit (.bool false)], args := [d1, d2] }
  | _ => none }
def FnExactRowsNeededWrongFalsely : Prop := fnExactRowsNeededRow.holds Try.pinned (OpenSpec.ofChange fnExactRowsNeededWrong)

/-- 'laws.FnExactIsSeating': WHATEVER THE INPUT: true; the input reads as it did. -/
def fnExactIsSeatingSpec : ChangeSpec := { name := "fnExactIsSeating", fn := fun _ => fun
  | [d1, d2, d3, d4] => { results := [.lit (.bool true)], args := [d1, d2, d3, d4] }
  | _ => none }
def fnExactIsSeatingRow : OpenClaim := { program := "ytijdcacplibmhaa", sum := "f269a5dc37e0b8a188eaa0b4383a81e7de3ef19d40c761dbe2505cd3a7212151", func := "loop.example/g00916/laws.FnExactIsSeating", spec := "fnExactIsSeating", unfollowed := true, recurses := true, apart := false }
def FnExactIsSeatingSaid : Prop := fnExactIsSeatingRow.holds Try.pinned (OpenSpec.ofChange fnExactIsSeatingSpec)

/-- ITS FALSE NEIGHBOUR: 'it returns false'. Refute it at one input. -/
def fnExactIsSeatingWrong : ChangeSpec := { name := "fnExactIsSeating", fn := fun _ => fun
  | [d1, d2, d3, d4] => { results := [.lit (.bool false)], args := [d1, d2, d3, d4] }
  | _ => none }
def FnExactIsSeatingWrongFalsely : Prop := fnExactIsSeatingRow.holds Try.pinned (OpenSpec.ofChange fnExactIsSeatingWrong)

/-- 'laws.FnExactStepRestraints': WHATEVER THE INPUT: true; the input reads as it did. -/
def fnExactStepRestraintsSpec : ChangeSpec := { name := "fnExactStepRestraints", fn := fun _ => fun
  | [d1, d2] => { results := [.lit (.bool true)], args := [d1, d2] }
  | _ => none }
def fnExactStepRestraintsRow : OpenClaim := { program := "ytijdcacplibmhaa", sum := "f269a5dc37e0b8a188eaa0b4383a81e7de3ef19d40c761dbe2505cd3a7212151", func := "loop.example/g00916/laws.FnExactStepRestraints", spec := "fnExactStepRestraints", unfollowed := true, recurses := true, apart := false }
def FnExactStepRestraintsSaid : Prop := fnExactStepRestraintsRow.holds Try.pinned (OpenSpec.ofChange fnExactStepRestraintsSpec)

/-- ITS FALSE NEIGHBOUR: 'it returns false'. Refute it at one input. -/
def fnExactStepRestraintsWrong : ChangeSpec := { name := "fnExactStepRestraints", fn := fun _ => fun
  | [d1, d2] => { results := [.lit (.bool false)], args := [d1, d2] }
  | _ => none }
def FnExactStepRestraintsWrongFalsely : Prop := fnExactStepRestraintsRow.holds Try.pinned (OpenSpec.ofChange fnExactStepRestraintsWrong)

/-- 'laws.FnExactIsReady': WHATEVER THE INPUT: true; the input reads as it did. -/
def fnExactIsReadySpec : ChangeSpec := { name := "fnExactIsReady", fn := fun _ => fun
  | [d1, d2] => { results := [.lit (.bool true)], args := [d1, d2] }
  | _ => none }
def fnExactIsReadyRow : OpenClaim := { program := "ytijdcacplibmhaa", sum := "f269a5dc37e0b8a188eaa0b4383a81e7de3ef19d40c761dbe2505cd3a7212151", func := "loop.example/g00916/laws.FnExactIsReady", spec := "fnExactIsReady", unfollowed := true, recurses := true, apart := false }
def FnExactIsReadySaid : Prop := fnExactIsReadyRow.holds Try.pinned (OpenSpec.ofChange fnExactIsReadySpec)

/-- ITS FALSE NEIGHBOUR: 'it returns false'. Refute it at one input. -/
def fnExactIsReadyWrong : ChangeSpec := { name := "fnExactIsReady", fn := fun _ => fun
  | [d1, d2] => { results := [.lit (.bool false)], args := [d1, d2] }
  | _ => none }
def FnExactIsReadyWrongFalsely : Prop := fnExactIsReadyRow.holds Try.pinned (OpenSpec.ofChange fnExactIsReadyWrong)

/-- 'laws.FnExactLockReport': WHATEVER THE INPUT: true; the input reads as it did. -/
def fnExactLockReportSpec : ChangeSpec := { name := "fnExactLockReport", fn := fun _ => fun
  | [d1, d2] => { results := [.lit (.bool true)], args := [d1, d2] }
  | _ => none }
def fnExactLockReportRow : OpenClaim := { program := "ytijdcacplibmhaa", sum := "f269a5dc37e0b8a188eaa0b4383a81e7de3ef19d40c761dbe2505cd3a7212151", func := "loop.example/g00916/laws.FnExactLockReport", spec := "fnExactLockReport", unfollowed := true, recurses := true, apart := false }
def FnExactLockReportSaid : Prop := fnExactLockReportRow.holds Try.pinned (OpenSpec.ofChange fnExactLockReportSpec)

/-- ITS FALSE NEIGHBOUR: 'it returns false'. Refute it at one input. -/
def fnExactLockReportWrong : ChangeSpec := { name := "fnExactLockReport", fn := fun _ => fun
  | [d1, d2] => { results := [.lit (.bool false)], args := [d1, d2] }
  | _ => none }
def FnExactLockReportWrongFalsely : Prop := fnExactLockReportRow.holds Try.pinned (OpenSpec.ofChange fnExactLockReportWrong)

/-- 'laws.FnExactRunRestraints': WHATEVER THE INPUT: true; the input reads as it did. -/
def fnExactRunRestraintsSpec : ChangeSpec := { name := "fnExactRunRestraints", fn := fun _ => fun
  | [d1, d2] => { results := [.lit (.bool true)], args := [d1, d2] }
  | _ => none }
def fnExactRunRestraintsRow : OpenClaim := { program := "ytijdcacplibmhaa", sum := "f269a5dc37e0b8a188eaa0b4383a81e7de3ef19d40c761dbe2505cd3a7212151", func := "loop.example/g00916/laws.FnExactRunRestraints", spec := "fnExactRunRestraints", unfollowed := true, recurses := true, apart := false }
def FnExactRunRestraintsSaid : Prop := fnExactRunRestraintsRow.holds Try.pinned (OpenSpec.ofChange fnExactRunRestraintsSpec)

/-- ITS FALSE NEIGHBOUR: 'it returns false'. Refute it at one input. -/
def fnExactRunRestraintsWrong : ChangeSpec := { name := "fnExactRunRestraints", fn := fun _ => fun
  | [d1, d2] => { results := [.lit (.bool false)], args := [d1, d2] }
  | _ => none }
def FnExactRunRestraintsWrongFalsely : Prop := fnExactRunRestraintsRow.holds Try.pinned (OpenSpec.ofChange fnExactRunRestraintsWrong)

/- THE SECOND FORM. 'bulk': how many values and letters a reading holds, each counted each time it is reached (what is shared counts as often as it is met; a slice's spare places count too). A statement '..UptoSaid' is the law's where the arguments, and the package variables that the reading takes, are together of bulk at most 1048576: NARROWER than '..Said'. Prove '..Said' where nothing that the law and all that it calls make is longer than what came in: it says more and counts as full. Else prove '..UptoSaid'. A law counts once. -/
mutual
def uptoBulk {H : Type} : DataW H → Nat
  | .lit (.string bytes) => bytes.length + 1
  | .lit _ => 1
  | .nil => 1
  | .ptr d => uptoBulk d + 1
  | .slice elems spare => uptoBulkAll elems + uptoBulkAll spare + 1
  | .agg parts => uptoBulkAll parts + 1
  | .iface _ d => uptoBulk d + 1
  | .map entries => uptoBulkEntries entries + 1
  | .held _ => 1
def uptoBulkAll {H : Type} : List (DataW H) → Nat
  | [] => 0
  | d :: r => uptoBulk d + uptoBulkAll r
def uptoBulkEntries {H : Type} : List (Lit × DataW H) → Nat
  | [] => 0
  | x :: r => uptoBulkEntry x + uptoBulkEntries r
def uptoBulkEntry {H : Type} : Lit × DataW H → Nat
  | (.string bytes, d) => bytes.length + uptoBulk d + 1
  | (_, d) => uptoBulk d + 1
 end
def uptoSmall : (H : Type) → List (DataW H) → Bool := fun _ ds => decide (uptoBulkAll ds ≤ 1048576)
def OpenSpec.upto (s : _root_.Go.ChangeSpec) : _root_.Go.OpenSpec := { _root_.Go.OpenSpec.ofChange s with cond := some uptoSmall }

/-- 'laws.FnExactCompanionOf', WHERE WHAT IT READS IS OF BULK AT MOST 1048576: true; the input reads as it did. -/
def fnExactCompanionOfUptoRow : OpenClaim := { program := "ytijdcacplibmhaa", sum := "f269a5dc37e0b8a188eaa0b4383a81e7de3ef19d40c761dbe2505cd3a7212151", func := "loop.example/g00916/laws.FnExactCompanionOf", spec := "fnExactCompanionOf", unfollowed := true, recurses := true, apart := false, narrowed := true }
def FnExactCompanionOfUptoSaid : Prop := fnExactCompanionOfUptoRow.holds Try.pinned (OpenSpec.upto fnExactCompanionOfSpec)

/-- 'laws.FnExactGuestVerdict', WHERE WHAT IT READS IS OF BULK AT MOST 1048576: true; the input reads as it did. -/
def fnExactGuestVerdictUptoRow : OpenClaim := { program := "ytijdcacplibmhaa", sum := "f269a5dc37e0b8a188eaa0b4383a81e7de3ef19d40c761dbe2505cd3a7212151", func := "loop.example/g00916/laws.FnExactGuestVerdict", spec := "fnExactGuestVerdict", unfollowed := true, recurses := true, apart := false, narrowed := true }
def FnExactGuestVerdictUptoSaid : Prop := fnExactGuestVerdictUptoRow.holds Try.pinned (OpenSpec.upto fnExactGuestVerdictSpec)

/-- 'laws.FnExactAreLockFaults', WHERE WHAT IT READS IS OF BULK AT MOST 1048576: true; the input reads as it did. -/
def fnExactAreLockFaultsUptoRow : OpenClaim := { program := "ytijdcacplibmhaa", sum := "f269a5dc37e0b8a188eaa0b4383a81e7de3ef19d40c761dbe2505cd3a7212151", func := "loop.example/g00916/laws.FnExactAreLockFaults", spec := "fnExactAreLockFaults", unfollowed := true, recurses := true, apart := false, narrowed := true }
def FnExactAreLockFaultsUptoSaid : Prop := fnExactAreLockFaultsUptoRow.holds Try.pinned (OpenSpec.upto fnExactAreLockFaultsSpec)

/-- 'laws.FnExactAreLockFaultsTolerated', WHERE WHAT IT READS IS OF BULK AT MOST 1048576: true; the input reads as it did. -/
def fnExactAreLockFaultsToleratedUptoRow : OpenClaim := { program := "ytijdcacplibmhaa", sum := "f269a5dc37e0b8a188eaa0b4383a81e7de3ef19d40c761dbe2505cd3a7212151", func := "loop.example/g00916/laws.FnExactAreLockFaultsTolerated", spec := "fnExactAreLockFaultsTolerated", unfollowed := true, recurses := true, apart := false, narrowed := true }
def FnExactAreLockFaultsToleratedUptoSaid : Prop := fnExactAreLockFaultsToleratedUptoRow.holds Try.pinned (OpenSpec.upto fnExactAreLockFaultsToleratedSpec)

/-- 'laws.FnExactRowsNeeded', WHERE WHAT IT READS IS OF BULK AT MOST 1048576: true; the input reads as it did. -/
def fnExactRowsNeededUptoRow : OpenClaim := { program := "ytijdcacplibmhaa", sum := "f269a5dc37e0b8a188eaa0b4383a81e7de3ef19d40c761dbe2505cd3a7212151", func := "loop.example/g00916/laws.FnExactRowsNeeded", spec := "fnExactRowsNeeded", unfollowed := true, recurses := true, apart := false, narrowed := true }
def FnExactRowsNeededUptoSaid : Prop := fnExactRowsNeededUptoRow.holds Try.pinned (OpenSpec.upto fnExactRowsNeededSpec)

/-- 'laws.FnExactIsSeating', WHERE WHAT IT READS IS OF BULK AT MOST 1048576: true; the input reads as it did. -/
def fnExactIsSeatingUptoRow : OpenClaim := { program := "ytijdcacplibmhaa", sum := "f269a5dc37e0b8a188eaa0b4383a81e7de3ef19d40c761dbe2505cd3a7212151", func := "loop.example/g00916/laws.FnExactIsSeating", spec := "fnExactIsSeating", unfollowed := true, recurses := true, apart := false, narrowed := true }
def FnExactIsSeatingUptoSaid : Prop := fnExactIsSeatingUptoRow.holds Try.pinned (OpenSpec.upto fnExactIsSeatingSpec)

/-- 'laws.FnExactStepRestraints', WHERE WHAT IT READS IS OF BULK AT MOST 1048576: true; the input reads as it did. -/
def fnExactStepRestraintsUptoRow : OpenClaim := { program := "ytijdcacplibmhaa", sum := "f269a5dc37e0b8a188eaa0b4383a81e7de3ef19d40c761dbe2505cd3a7212151", func := "loop.example/g00916/laws.FnExactStepRestraints", spec := "fnExactStepRestraints", unfollowed := true, recurses := true, apart := false, narrowed := true }
def FnExactStepRestraintsUptoSaid : Prop := fnExactStepRestraintsUptoRow.holds Try.pinned (OpenSpec.upto fnExactStepRestraintsSpec)

/-- 'laws.FnExactIsReady', WHERE WHAT IT READS IS OF BULK AT MOST 1048576: true; the input reads as it did. -/
def fnExactIsReadyUptoRow : OpenClaim := { program := "ytijdcacplibmhaa", sum := "f269a5dc37e0b8a188eaa0b4383a81e7de3ef19d40c761dbe2505cd3a7212151", func := "loop.example/g00916/laws.FnExactIsReady", spec := "fnExactIsReady", unfollowed := true, recurses := true, apart := false, narrowed := true }
def FnExactIsReadyUptoSaid : Prop := fnExactIsReadyUptoRow.holds Try.pinned (OpenSpec.upto fnExactIsReadySpec)

/-- 'laws.FnExactLockReport', WHERE WHAT IT READS IS OF BULK AT MOST 1048576: true; the input reads as it did. -/
def fnExactLockReportUptoRow : OpenClaim := { program := "ytijdcacplibmhaa", sum := "f269a5dc37e0b8a188eaa0b4383a81e7de3ef19d40c761dbe2505cd3a7212151", func := "loop.example/g00916/laws.FnExactLockReport", spec := "fnExactLockReport", unfollowed := true, recurses := true, apart := false, narrowed := true }
def FnExactLockReportUptoSaid : Prop := fnExactLockReportUptoRow.holds Try.pinned (OpenSpec.upto fnExactLockReportSpec)

/-- 'laws.FnExactRunRestraints', WHERE WHAT IT READS IS OF BULK AT MOST 1048576: true; the input reads as it did. -/
def fnExactRunRestraintsUptoRow : OpenClaim := { program := "ytijdcacplibmhaa", sum := "f269a5dc37e0b8a188eaa0b4383a81e7de3ef19d40c761dbe2505cd3a7212151", func := "loop.example/g00916/laws.FnExactRunRestraints", spec := "fnExactRunRestraints", unfollowed := true, recurses := true, apart := false, narrowed := true }
def FnExactRunRestraintsUptoSaid : Prop := fnExactRunRestraintsUptoRow.holds Try.pinned (OpenSpec.upto fnExactRunRestraintsSpec)

end Rows
end Go.Proofs.Ytijdcacplibmhaa
