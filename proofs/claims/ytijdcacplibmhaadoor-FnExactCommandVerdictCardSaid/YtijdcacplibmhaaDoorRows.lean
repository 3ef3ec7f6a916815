/-
  NARROWER THAN 'FOR EVERY INPUT', by the rows' own cells (each row's printed sentence says how): FnExactCommandVerdict: laid · FnExactNextMode: laid.
  DERIVED. THE GIVEN ROWS OF THIS SEAT. 2 by the template 'for every input the law returns true; each argument reads behind the call as it read before'; 0 by the template 'total and deterministic' (their statements: YtijdcacplibmhaaDoorTotals.lean).
  GIVEN WITH THE SEED: the statements are not yours to turn. If you find one false, say at which input.
  Laid BY PROGRAM, IN A SANDBOX (cutbox-rows.mjs): the forced cells as the released guide's own fill.sh prints them over the translation 0c34a8d5524df97c… (all of the seat's roots in one cut). By AI agents, Wed Nov 11 2026. No macro, syntax, notation, axiom, sorry.
-/
import Derived.Test.YtijdcacplibmhaaDoorChecked
import GoSem.Claim
import GoSem.ClaimJoined
import GoSem.ClaimMapViews
import Derived.JoinedTies
import Derived.KernelRfl
namespace Go.Proofs.YtijdcacplibmhaaDoor
/- THE CELL 'sum', in the pinned program and in every row, IS THE sha256 OF THE DUMP (.gsa) THAT YtijdcacplibmhaaDoorProg.lean LOADS. Nothing in Lean hashes anything: it is a label: what it is worth is what the hold of that sum in a sandbox is worth. -/
noncomputable def Tryd.pinned : Pinned := { name := "ytijdcacplibmhaadoor", sum := "0c34a8d5524df97cce658539ae373b95d3ceef01d72ab984d14d1c66e17c608e", checked := Tryd.checked }
namespace Rows
def none {H : Type} : Left H := { results := [], args := [] }

/- WHAT THE LISTED PACKAGE-LEVEL VARIABLES READ AS WHEN THE CALL BEGINS. Each datum BY PROGRAM (the guide's laid-datum.mjs) off the statement by which the dump's own 'gosem.cut.vars' lays the variable. In a bare row this is a premise. The card (YtijdcacplibmhaaDoorCards.lean) ties it to the program's text. -/
def laid_loop_example_g00916_impl_commandRows {H : Type} : DataW H := .agg [.agg [.lit (.int .i64 1), .lit (.int .i64 2), .lit (.int .i64 1), .lit (.bool true)], .agg [.lit (.int .i64 4), .lit (.int .i64 3), .lit (.int .i64 1), .lit (.bool false)], .agg [.lit (.int .i64 8), .lit (.int .i64 2), .lit (.int .i64 1), .lit (.bool false)], .agg [.lit (.int .i64 62), .lit (.int .i64 4), .lit (.int .i64 0), .lit (.bool false)], .agg [.lit (.int .i64 16), .lit (.int .i64 2), .lit (.int .i64 2), .lit (.bool true)], .agg [.lit (.int .i64 16), .lit (.int .i64 5), .lit (.int .i64 3), .lit (.bool false)], .agg [.lit (.int .i64 32), .lit (.int .i64 4), .lit (.int .i64 3), .lit (.bool false)], .agg [.lit (.int .i64 5), .lit (.int .i64 1), .lit (.int .i64 2), .lit (.bool true)], .agg [.lit (.int .i64 2), .lit (.int .i64 2), .lit (.int .i64 2), .lit (.bool true)], .agg [.lit (.int .i64 4), .lit (.int .i64 0), .lit (.int .i64 1), .lit (.bool false)]]

/-- 'laws.FnExactCommandVerdict': WHATEVER THE INPUT: true; the input reads as it did. -/
def fnExactCommandVerdictSpec : ChangeSpec := { name := "fnExactCommandVerdict", vars := ["loop.example/g00916/impl.commandRows"], fn := fun _ => fun
  | [d1, d2, g1] => { results := [.lit (.bool true)], args := [d1, d2], vars := [g1] }
  | _ => none }
def fnExactCommandVerdictRow : OpenClaim := { program := "ytijdcacplibmhaadoor", sum := "0c34a8d5524df97cce658539ae373b95d3ceef01d72ab984d14d1c66e17c608e", func := "loop.example/g00916/laws.FnExactCommandVerdict", spec := "fnExactCommandVerdict", unfollowed := true, recurses := true, named := ["loop.example/g00916/impl.commandRows"], apart := false, laid := [("loop.example/g00916/impl.commandRows", laid_loop_example_g00916_impl_commandRows)] }
def FnExactCommandVerdictSaid : Prop := fnExactCommandVerdictRow.holds Tryd.pinned (OpenSpec.ofChange fnExactCommandVerdictSpec)

/-- ITS FALSE NEIGHBOUR: 'it returns false'. Refute it at one input. -/
def fnExactCommandVerdictWrong : ChangeSpec := { name := "fnExactCommandVerdict", vars := ["loop.example/g00916/impl.commandRows"], fn := fun _ => fun
  | [d1, d2, g1] => { results := [.lit (.bool false)], args := [d1, d2], vars := [g1] }
  | _ => none }
def FnExactCommandVerdictWrongFalsely : Prop := fnExactCommandVerdictRow.holds Tryd.pinned (OpenSpec.ofChange fnExactCommandVerdictWrong)

/-- 'laws.FnExactNextMode': WHATEVER THE INPUT: true; the input reads as it did. -/
def fnExactNextModeSpec : ChangeSpec := { name := "fnExactNextMode", vars := ["loop.example/g00916/impl.commandRows"], fn := fun _ => fun
  | [d1, d2, g1] => { results := [.lit (.bool true)], args := [d1, d2], vars := [g1] }
  | _ => none }
def fnExactNextModeRow : OpenClaim := { program := "ytijdcacplibmhaadoor", sum := "0c34a8d5524df97cce658539ae373b95d3ceef01d72ab984d14d1c66e17c608e", func := "loop.example/g00916/laws.FnExactNextMode", spec := "fnExactNextMode", unfollowed := true, recurses := true, named := ["loop.example/g00916/impl.commandRows"], apart := false, laid := [("loop.example/g00916/impl.commandRows", laid_loop_example_g00916_impl_commandRows)] }
def FnExactNextModeSaid : Prop := fnExactNextModeRow.holds Tryd.pinned (OpenSpec.ofChange fnExactNextModeSpec)

/-- ITS FALSE NEIGHBOUR: 'it returns false'. Refute it at one input. -/
def fnExactNextModeWrong : ChangeSpec := { name := "fnExactNextMode", vars := ["loop.example/g00916/impl.commandRows"], fn := fun _ => fun
  | [d1, d2, g1] => { results := [.lit (.bool false)], args := [d1, d2], vars := [g1] }
  | _ => none }
def FnExactNextModeWrongFalsely : Prop := fnExactNextModeRow.holds Tryd.pinned (OpenSpec.ofChange fnExactNextModeWrong)

/- THE SECOND FORM. 'bulk': how many values and letters a reading holds, each counted each time it is reached (what is shared counts as often as it is met; a slice's spare places count too). A statement '..UptoSaid' is the law's where the arguments, and the package variables that the reading takes, are together of bulk at most 1048576: NARROWER than '..Said'. Prove '..Said' where nothing that the law and all that it calls make is longer than what came in: it says more and counts as full. Else prove '..UptoSaid'. A law counts once. -/
mutual
def uptoBulk {H : Type} : DataW H → Nat
  | .lit (.string bytes) => bytes.length + 1
  | .lit _ => 1
  | .nil => 1
  | .ptr d => uptoBulk d + 1
  | .slice elems spare => uptoBulkAll elems + uptoBulkAll spare + 1
  | .agg parts => uptoBulkAll parts + 1
  | .iface _ d => uptoBulk d + 1
  | .map entries => uptoBulkEntries entries + 1
  | .held _ => 1
def uptoBulkAll {H : Type} : List (DataW H) → Nat
  | [] => 0
  | d :: r => uptoBulk d + uptoBulkAll r
def uptoBulkEntries {H : Type} : List (Lit × DataW H) → Nat
  | [] => 0
  | x :: r => uptoBulkEntry x + uptoBulkEntries r
def uptoBulkEntry {H : Type} : Lit × DataW H → Nat
  | (.string bytes, d) => bytes.length + uptoBulk d + 1
  | (_, d) => uptoBulk d + 1
 end
def uptoSmall : (H : Type) → List (DataW H) → Bool := fun _ ds => decide (uptoBulkAll ds ≤ 1048576)
def OpenSpec.upto (s : _root_.Go.ChangeSpec) : _root_.Go.OpenSpec := { _root_.Go.OpenSpec.ofChange s with cond := some uptoSmall }

/-- 'laws.FnExactCommandVerdict', WHERE WHAT IT READS IS OF BULK AT MOST 1048576: true; the input reads as it did. -/
def fnExactCommandVerdictUptoRow : OpenClaim := { program := "ytijdcacplibmhaadoor", sum := "0c34a8d5524df97cce658539ae373b95d3ceef01d72ab984d14d1c66e17c608e", func := "loop.example/g00916/laws.FnExactCommandVerdict", spec := "fnExactCommandVerdict", unfollowed := true, recurses := true, named := ["loop.example/g00916/impl.commandRows"], apart := false, laid := [("loop.example/g00916/impl.commandRows", laid_loop_example_g00916_impl_commandRows)], narrowed := true }
def FnExactCommandVerdictUptoSaid : Prop := fnExactCommandVerdictUptoRow.holds Tryd.pinned (OpenSpec.upto fnExactCommandVerdictSpec)

/-- 'laws.FnExactNextMode', WHERE WHAT IT READS IS OF BULK AT MOST 1048576: true; the input reads as it did. -/
def fnExactNextModeUptoRow : OpenClaim := { program := "ytijdcacplibmhaadoor", sum := "0c34a8d5524df97cce658539ae373b95d3ceef01d72ab984d14d1c66e17c608e", func := "loop.example/g00916/laws.FnExactNextMode", spec := "fnExactNextMode", unfollowed := true, recurses := true, named := ["loop.example/g00916/impl.commandRows"], apart := false, laid := [("loop.example/g00916/impl.commandRows", laid_loop_example_g00916_impl_commandRows)], narrowed := true }
def FnExactNextModeUptoSaid : Prop := fnExactNextModeUptoRow.holds Tryd.pinned (OpenSpec.upto fnExactNextModeSpec)

end Rows
end Go.Proofs.YtijdcacplibmhaaDoor
