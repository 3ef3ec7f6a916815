/-
  NARROWER THAN 'FOR EVERY INPUT', by the rows' own cells (each row's printed sentence says how): FnExactModeName: laid · FnExactModeNamed: laid.
  DERIVED. THE GIVEN ROWS OF THIS SEAT. 2 by the template 'for every input the law returns true; each argument reads behind the call as it read before'; 0 by the template 'total and deterministic' (their statements: YtjbgpekkkhobeaaDoorTotals.lean).
  GIVEN WITH THE SEED: the statements are not yours to turn. If you find one false, say at which input.
  Laid BY PROGRAM, IN A SANDBOX (cutbox-rows.mjs): the forced cells as the released guide's own fill.sh prints them over the translation cceca69d33c10155… (all of the seat's roots in one cut). By AI agents, Wed Nov 11 2026. No macro, syntax, notation, axiom, sorry.
-/
import Derived.Test.YtjbgpekkkhobeaaDoorChecked
import GoSem.Claim
import GoSem.ClaimJoined
import GoSem.ClaimMapViews
import Derived.JoinedTies
import Derived.KernelRfl
namespace Go.Proofs.YtjbgpekkkhobeaaDoor
/- THE CELL 'sum', in the pinned program and in every row, IS THE sha256 OF THE DUMP (.gsa) THAT YtjbgpekkkhobeaaDoorProg.lean LOADS. Nothing in Lean hashes anything: it is a label: what it is worth is what the hold of that sum in a sandbox is worth. -/
noncomputable def Tryd.pinned : Pinned := { name := "ytjbgpekkkhobeaadoor", sum := "cceca69d33c10155d28bf6c6c95f6aeaef8dcfc230730af78850da1a4cefd266", checked := Tryd.checked }
namespace Rows
def none {H : Type} : Left H := { results := [], args := [] }

/- WHAT THE LISTED PACKAGE-LEVEL VARIABLES READ AS WHEN THE CALL BEGINS. Each datum BY PROGRAM (the guide's laid-datum.mjs) off the statement by which the dump's own 'gosem.cut.vars' lays the variable. In a bare row this is a premise. The card (YtjbgpekkkhobeaaDoorCards.lean) ties it to the program's text. -/
def laid_loop_example_g00916_impl_modeNames {H : Type} : DataW H := .agg [.lit (.string [111, 102, 102]), .lit (.string [109, 97, 105, 110, 116, 101, 110, 97, 110, 99, 101]), .lit (.string [114, 101, 97, 100, 121]), .lit (.string [114, 117, 110, 110, 105, 110, 103]), .lit (.string [115, 116, 111, 112, 112, 101, 100]), .lit (.string [101, 118, 97, 99, 117, 97, 116, 105, 111, 110])]

/-- 'laws.FnExactModeName': WHATEVER THE INPUT: true; the input reads as it did. -/
def fnExactModeNameSpec : ChangeSpec := { name := "fnExactModeName", vars := ["loop.example/g00916/impl.modeNames"], fn := fun _ => fun
  | [d, g1] => { results := [.lit (.bool true)], args := [d], vars := [g1] }
  | _ => none }
def fnExactModeNameRow : OpenClaim := { program := "ytjbgpekkkhobeaadoor", sum := "cceca69d33c10155d28bf6c6c95f6aeaef8dcfc230730af78850da1a4cefd266", func := "loop.example/g00916/laws.FnExactModeName", spec := "fnExactModeName", named := ["loop.example/g00916/impl.modeNames"], apart := false, laid := [("loop.example/g00916/impl.modeNames", laid_loop_example_g00916_impl_modeNames)] }
def FnExactModeNameSaid : Prop := fnExactModeNameRow.holds Tryd.pinned (OpenSpec.ofChange fnExactModeNameSpec)

/-- ITS FALSE NEIGHBOUR: 'it returns false'. Refute it at one input. -/
def fnExactModeNameWrong : ChangeSpec := { name := "fnExactModeName", vars := ["loop.example/g00916/impl.modeNames"], fn := fun _ => fun
  | [d, g1] => { results := [.lit (.bool false)], args := [d], vars := [g1] }
  | _ => none }
def FnExactModeNameWrongFalsely : Prop := fnExactModeNameRow.holds Tryd.pinned (OpenSpec.ofChange fnExactModeNameWrong)

/-- 'laws.FnExactModeNamed': WHATEVER THE INPUT: true; the input reads as it did. -/
def fnExactModeNamedSpec : ChangeSpec := { name := "fnExactModeNamed", vars := ["loop.example/g00916/impl.modeNames"], fn := fun _ => fun
  | [d, g1] => { results := [.lit (.bool true)], args := [d], vars := [g1] }
  | _ => none }
def fnExactModeNamedRow : OpenClaim := { program := "ytjbgpekkkhobeaadoor", sum := "cceca69d33c10155d28bf6c6c95f6aeaef8dcfc230730af78850da1a4cefd266", func := "loop.example/g00916/laws.FnExactModeNamed", spec := "fnExactModeNamed", named := ["loop.example/g00916/impl.modeNames"], apart := false, laid := [("loop.example/g00916/impl.modeNames", laid_loop_example_g00916_impl_modeNames)] }
def FnExactModeNamedSaid : Prop := fnExactModeNamedRow.holds Tryd.pinned (OpenSpec.ofChange fnExactModeNamedSpec)

/-- ITS FALSE NEIGHBOUR: 'it returns false'. Refute it at one input. -/
def fnExactModeNamedWrong : ChangeSpec := { name := "fnExactModeNamed", vars := ["loop.example/g00916/impl.modeNames"], fn := fun _ => fun
  | [d, g1] => { results := [.lit (.bool false)], args := [d], vars := [g1] }
  | _ => none }
def FnExactModeNamedWrongFalsely : Prop := fnExactModeNamedRow.holds Tryd.pinned (OpenSpec.ofChange fnExactModeNamedWrong)

/- THE SECOND FORM. 'bulk': how many values and letters a reading holds, each counted each time it is reached (what is shared counts as often as it is met; a slice's spare places count too). A statement '..UptoSaid' is the law's where the arguments, and the package variables that the reading takes, are together of bulk at most 1048576: NARROWER than '..Said'. Prove '..Said' where nothing that the law and all that it calls make is longer than what came in: it says more and counts as full. Else prove '..UptoSaid'. A law counts once. -/
mutual
def uptoBulk {H : Type} : DataW H → Nat
  | .lit (.string bytes) => bytes.length + 1
  | .lit _ => 1
  | .nil => 1
  | .ptr d => uptoBulk d + 1
  | .slice elems spare => uptoBulkAll elems + uptoBulkAll spare + 1
  | .agg parts => uptoBulkAll parts + 1
  | .iface _ d => uptoBulk d + 1
  | .map entries => uptoBulkEntries entries + 1
  | .held _ => 1
def uptoBulkAll {H : Type} : List (DataW H) → Nat
  | [] => 0
  | d :: r => uptoBulk d + uptoBulkAll r
def uptoBulkEntries {H : Type} : List (Lit × DataW H) → Nat
  | [] => 0
  | x :: r => uptoBulkEntry x + uptoBulkEntries r
def uptoBulkEntry {H : Type} : Lit × DataW H → Nat
  | (.string bytes, d) => bytes.length + uptoBulk d + 1
  | (_, d) => uptoBulk d + 1
 end
def uptoSmall : (H : Type) → List (DataW H) → Bool := fun _ ds => decide (uptoBulkAll ds ≤ 1048576)
def OpenSpec.upto (s : _root_.Go.ChangeSpec) : _root_.Go.OpenSpec := { _root_.Go.OpenSpec.ofChange s with cond := some uptoSmall }

/-- 'laws.FnExactModeName', WHERE WHAT IT READS IS OF BULK AT MOST 1048576: true; the input reads as it did. -/
def fnExactModeNameUptoRow : OpenClaim := { program := "ytjbgpekkkhobeaadoor", sum := "cceca69d33c10155d28bf6c6c95f6aeaef8dcfc230730af78850da1a4cefd266", func := "loop.example/g00916/laws.FnExactModeName", spec := "fnExactModeName", named := ["loop.example/g00916/impl.modeNames"], apart := false, laid := [("loop.example/g00916/impl.modeNames", laid_loop_example_g00916_impl_modeNames)], narrowed := true }
def FnExactModeNameUptoSaid : Prop := fnExactModeNameUptoRow.holds Tryd.pinned (OpenSpec.upto fnExactModeNameSpec)

/-- 'laws.FnExactModeNamed', WHERE WHAT IT READS IS OF BULK AT MOST 1048576: true; the input reads as it did. -/
def fnExactModeNamedUptoRow : OpenClaim := { program := "ytjbgpekkkhobeaadoor", sum := "cceca69d33c10155d28bf6c6c95f6aeaef8dcfc230730af78850da1a4cefd266", func := "loop.example/g00916/laws.FnExactModeNamed", spec := "fnExactModeNamed", named := ["loop.example/g00916/impl.modeNames"], apart := false, laid := [("loop.example/g00916/impl.modeNames", laid_loop_example_g00916_impl_modeNames)], narrowed := true }
def FnExactModeNamedUptoSaid : Prop := fnExactModeNamedUptoRow.holds Tryd.pinned (OpenSpec.upto fnExactModeNamedSpec)

end Rows
end Go.Proofs.YtjbgpekkkhobeaaDoor
