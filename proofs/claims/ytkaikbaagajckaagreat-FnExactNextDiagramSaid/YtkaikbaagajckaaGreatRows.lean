/-
  No cell of these rows narrows 'for every input' (looked for: loops, veiled, ifaces, maps, wideKeys, modest, calm, conditions, laid).
  DERIVED. THE GIVEN ROWS OF THIS SEAT. 6 by the template 'for every input the law returns true; each argument reads behind the call as it read before'; 0 by the template 'total and deterministic' (their statements: YtkaikbaagajckaaGreatTotals.lean).
  GIVEN WITH THE SEED: the statements are not yours to turn. If you find one false, say at which input.
  Laid BY PROGRAM, IN A SANDBOX (cutbox-rows.mjs): the forced cells as the released guide's own fill.sh prints them over the translation 691efb3ff6c432f5… (all of the seat's roots in one cut). By AI agents, Wed Nov 11 2026. No macro, syntax, notation, axiom, sorry.
-/
import Derived.Test.YtkaikbaagajckaaGreatChecked
import GoSem.Claim
import GoSem.ClaimJoined
import GoSem.ClaimMapViews
import Derived.JoinedTies
import Derived.KernelRfl
namespace Go.Proofs.YtkaikbaagajckaaGreat
/- THE CELL 'sum', in the pinned program and in every row, IS THE sha256 OF THE DUMP (.gsa) THAT YtkaikbaagajckaaGreatProg.lean LOADS. Nothing in Lean hashes anything: it is a label: what it is worth is what the hold of that sum in a sandbox is worth. -/
noncomputable def Tryz.pinned : Pinned := { name := "ytkaikbaagajckaagreat", sum := "691efb3ff6c432f55a1e2fa5865867424412f4ad10f9f30eaf564934b4cecefc", checked := Tryz.checked }
namespace Rows
def none {H : Type} : Left H := { results := [], args := [] }

/-- 'laws.FnExactStatesOfDiagram': WHATEVER THE INPUT: true; the input reads as it did. -/
def fnExactStatesOfDiagramSpec : ChangeSpec := { name := "fnExactStatesOfDiagram", fn := fun _ => fun
  | [d1, d2] => { results := [.lit (.bool true)], args := [d1, d2] }
  | _ => none }
def fnExactStatesOfDiagramRow : OpenClaim := { program := "ytkaikbaagajckaagreat", sum := "691efb3ff6c432f55a1e2fa5865867424412f4ad10f9f30eaf564934b4cecefc", func := "loop.example/g00916/laws.FnExactStatesOfDiagram", spec := "fnExactStatesOfDiagram", inPlace := ["internal/bytealg.IndexByteString"], unfollowed := true, recurses := true, plainKeys := false, apart := false }
def FnExactStatesOfDiagramSaid : Prop := fnExactStatesOfDiagramRow.holds Tryz.pinned (OpenSpec.ofChange fnExactStatesOfDiagramSpec)

/-- ITS FALSE NEIGHBOUR: 'it returns false'. Refute it at one input. -/
def fnExactStatesOfDiagramWrong : ChangeSpec := { name := "fnExactStatesOfDiagram", fn := fun _ => fun
  | [d1, d2] => { results := [.lit (.bool false)], args := [d1, d2] }
  | _ => none }
def FnExactStatesOfDiagramWrongFalsely : Prop := fnExactStatesOfDiagramRow.holds Tryz.pinned (OpenSpec.ofChange fnExactStatesOfDiagramWrong)

/-- 'laws.FnExactReachDiagram': WHATEVER THE INPUT: true; the input reads as it did. -/
def fnExactReachDiagramSpec : ChangeSpec := { name := "fnExactReachDiagram", fn := fun _ => fun
  | [d] => { results := [.lit (.bool true)], args := [d] }
  | _ => none }
def fnExactReachDiagramRow : OpenClaim := { program := "ytkaikbaagajckaagreat", sum := "691efb3ff6c432f55a1e2fa5865867424412f4ad10f9f30eaf564934b4cecefc", func := "loop.example/g00916/laws.FnExactReachDiagram", spec := "fnExactReachDiagram", inPlace := ["internal/bytealg.IndexByteString"], unfollowed := true, recurses := true, plainKeys := false, apart := false }
def FnExactReachDiagramSaid : Prop := fnExactReachDiagramRow.holds Tryz.pinned (OpenSpec.ofChange fnExactReachDiagramSpec)

/-- ITS FALSE NEIGHBOUR: 'it returns false'. Refute it at one input. -/
def fnExactReachDiagramWrong : ChangeSpec := { name := "fnExactReachDiagram", fn := fun _ => fun
  | [d] => { results := [.lit (.bool false)], args := [d] }
  | _ => none }
def FnExactReachDiagramWrongFalsely : Prop := fnExactReachDiagramRow.holds Tryz.pinned (OpenSpec.ofChange fnExactReachDiagramWrong)

/-- 'laws.FnSymbolic': WHATEVER THE INPUT: true; the input reads as it did. -/
def fnSymbolicSpec : ChangeSpec := { name := "fnSymbolic", fn := fun _ => fun
  | [d] => { results := [.lit (.bool true)], args := [d] }
  | _ => none }
def fnSymbolicRow : OpenClaim := { program := "ytkaikbaagajckaagreat", sum := "691efb3ff6c432f55a1e2fa5865867424412f4ad10f9f30eaf564934b4cecefc", func := "loop.example/g00916/laws.FnSymbolic", spec := "fnSymbolic", inPlace := ["internal/bytealg.IndexByteString"], unfollowed := true, recurses := true, plainKeys := false, apart := false }
def FnSymbolicSaid : Prop := fnSymbolicRow.holds Tryz.pinned (OpenSpec.ofChange fnSymbolicSpec)

/-- ITS FALSE NEIGHBOUR: 'it returns false'. Refute it at one input. -/
def fnSymbolicWrong : ChangeSpec := { name := "fnSymbolic", fn := fun _ => fun
  | [d] => { results := [.lit (.bool false)], args := [d] }
  | _ => none }
def FnSymbolicWrongFalsely : Prop := fnSymbolicRow.holds Tryz.pinned (OpenSpec.ofChange fnSymbolicWrong)

/-- 'laws.FnExactCheckDiagrams': WHATEVER THE INPUT: true; the input reads as it did. -/
def fnExactCheckDiagramsSpec : ChangeSpec := { name := "fnExactCheckDiagrams", fn := fun _ => fun
  | [d1, d2] => { results := [.lit (.bool true)], args := [d1, d2] }
  | _ => none }
def fnExactCheckDiagramsRow : OpenClaim := { program := "ytkaikbaagajckaagreat", sum := "691efb3ff6c432f55a1e2fa5865867424412f4ad10f9f30eaf564934b4cecefc", func := "loop.example/g00916/laws.FnExactCheckDiagrams", spec := "fnExactCheckDiagrams", inPlace := ["internal/bytealg.IndexByteString"], unfollowed := true, recurses := true, plainKeys := false, apart := false }
def FnExactCheckDiagramsSaid : Prop := fnExactCheckDiagramsRow.holds Tryz.pinned (OpenSpec.ofChange fnExactCheckDiagramsSpec)

/-- ITS FALSE NEIGHBOUR: 'it returns false'. Refute it at one input. -/
def fnExactCheckDiagramsWrong : ChangeSpec := { name := "fnExactCheckDiagrams", fn := fun _ => fun
  | [d1, d2] => { results := [.lit (.bool false)], args := [d1, d2] }
  | _ => none }
def FnExactCheckDiagramsWrongFalsely : Prop := fnExactCheckDiagramsRow.holds Tryz.pinned (OpenSpec.ofChange fnExactCheckDiagramsWrong)

/-- 'laws.FnExactNextDiagram': WHATEVER THE INPUT: true; the input reads as it did. -/
def fnExactNextDiagramSpec : ChangeSpec := { name := "fnExactNextDiagram", fn := fun _ => fun
  | [d1, d2] => { results := [.lit (.bool true)], args := [d1, d2] }
  | _ => none }
def fnExactNextDiagramRow : OpenClaim := { program := "ytkaikbaagajckaagreat", sum := "691efb3ff6c432f55a1e2fa5865867424412f4ad10f9f30eaf564934b4cecefc", func := "loop.example/g00916/laws.FnExactNextDiagram", spec := "fnExactNextDiagram", inPlace := ["internal/bytealg.IndexByteString"], unfollowed := true, recurses := true, plainKeys := false, apart := false }
def FnExactNextDiagramSaid : Prop := fnExactNextDiagramRow.holds Tryz.pinned (OpenSpec.ofChange fnExactNextDiagramSpec)

/-- ITS FALSE NEIGHBOUR: 'it returns false'. Refute it at one input. -/
def fnExactNextDiagramWrong : ChangeSpec := { name := "fnExactNextDiagram", fn := fun _ => fun
  | [d1, d2] => { results := [.lit (.bool false)], args := [d1, d2] }
  | _ => none }
def FnExactNextDiagramWrongFalsely : Prop := fnExactNextDiagramRow.holds Tryz.pinned (OpenSpec.ofChange fnExactNextDiagramWrong)

/-- 'laws.FnImages': WHATEVER THE INPUT: true; the input reads as it did. -/
def fnImagesSpec : ChangeSpec := { name := "fnImages", fn := fun _ => fun
  | [d] => { results := [.lit (.bool true)], args := [d] }
  | _ => none }
def fnImagesRow : OpenClaim := { program := "ytkaikbaagajckaagreat", sum := "691efb3ff6c432f55a1e2fa5865867424412f4ad10f9f30eaf564934b4cecefc", func := "loop.example/g00916/laws.FnImages", spec := "fnImages", inPlace := ["internal/bytealg.IndexByteString"], unfollowed := true, recurses := true, plainKeys := false, apart := false }
def FnImagesSaid : Prop := fnImagesRow.holds Tryz.pinned (OpenSpec.ofChange fnImagesSpec)

/-- ITS FALSE NEIGHBOUR: 'it returns false'. Refute it at one input. -/
def fnImagesWrong : ChangeSpec := { name := "fnImages", fn := fun _ => fun
  | [d] => { results := [.lit (.bool false)], args := [d] }
  | _ => none }
def FnImagesWrongFalsely : Prop := fnImagesRow.holds Tryz.pinned (OpenSpec.ofChange fnImagesWrong)

/- THE SECOND FORM. 'bulk': how many values and letters a reading holds, each counted each time it is reached (what is shared counts as often as it is met; a slice's spare places count too). A statement '..UptoSaid' is the law's where the arguments, and the package variables that the reading takes, are together of bulk at most 1048576: NARROWER than '..Said'. Prove '..Said' where nothing that the law and all that it calls make is longer than what came in: it says more and counts as full. Else prove '..UptoSaid'. A law counts once. -/
mutual
def uptoBulk {H : Type} : DataW H → Nat
  | .lit (.string bytes) => bytes.length + 1
  | .lit _ => 1
  | .nil => 1
  | .ptr d => uptoBulk d + 1
  | .slice elems spare => uptoBulkAll elems + uptoBulkAll spare + 1
  | .agg parts => uptoBulkAll parts + 1
  | .iface _ d => uptoBulk d + 1
  | .map entries => uptoBulkEntries entries + 1
  | .held _ => 1
def uptoBulkAll {H : Type} : List (DataW H) → Nat
  | [] => 0
  | d :: r => uptoBulk d + uptoBulkAll r
def uptoBulkEntries {H : Type} : List (Lit × DataW H) → Nat
  | [] => 0
  | x :: r => uptoBulkEntry x + uptoBulkEntries r
def uptoBulkEntry {H : Type} : Lit × DataW H → Nat
  | (.string bytes, d) => bytes.length + uptoBulk d + 1
  | (_, d) => uptoBulk d + 1
 end
def uptoSmall : (H : Type) → List (DataW H) → Bool := fun _ ds => decide (uptoBulkAll ds ≤ 1048576)
def OpenSpec.upto (s : _root_.Go.ChangeSpec) : _root_.Go.OpenSpec := { _root_.Go.OpenSpec.ofChange s with cond := some uptoSmall }

/-- 'laws.FnExactStatesOfDiagram', WHERE WHAT IT READS IS OF BULK AT MOST 1048576: true; the input reads as it did. -/
def fnExactStatesOfDiagramUptoRow : OpenClaim := { program := "ytkaikbaagajckaagreat", sum := "691efb3ff6c432f55a1e2fa5865867424412f4ad10f9f30eaf564934b4cecefc", func := "loop.example/g00916/laws.FnExactStatesOfDiagram", spec := "fnExactStatesOfDiagram", inPlace := ["internal/bytealg.IndexByteString"], unfollowed := true, recurses := true, plainKeys := false, apart := false, narrowed := true }
def FnExactStatesOfDiagramUptoSaid : Prop := fnExactStatesOfDiagramUptoRow.holds Tryz.pinned (OpenSpec.upto fnExactStatesOfDiagramSpec)

/-- 'laws.FnExactReachDiagram', WHERE WHAT IT READS IS OF BULK AT MOST 1048576: true; the input reads as it did. -/
def fnExactReachDiagramUptoRow : OpenClaim := { program := "ytkaikbaagajckaagreat", sum := "691efb3ff6c432f55a1e2fa5865867424412f4ad10f9f30eaf564934b4cecefc", func := "loop.example/g00916/laws.FnExactReachDiagram", spec := "fnExactReachDiagram", inPlace := ["internal/bytealg.IndexByteString"], unfollowed := true, recurses := true, plainKeys := false, apart := false, narrowed := true }
def FnExactReachDiagramUptoSaid : Prop := fnExactReachDiagramUptoRow.holds Tryz.pinned (OpenSpec.upto fnExactReachDiagramSpec)

/-- 'laws.FnSymbolic', WHERE WHAT IT READS IS OF BULK AT MOST 1048576: true; the input reads as it did. -/
def fnSymbolicUptoRow : OpenClaim := { program := "ytkaikbaagajckaagreat", sum := "691efb3ff6c432f55a1e2fa5865867424412f4ad10f9f30eaf564934b4cecefc", func := "loop.example/g00916/laws.FnSymbolic", spec := "fnSymbolic", inPlace := ["internal/bytealg.IndexByteString"], unfollowed := true, recurses := true, plainKeys := false, apart := false, narrowed := true }
def FnSymbolicUptoSaid : Prop := fnSymbolicUptoRow.holds Tryz.pinned (OpenSpec.upto fnSymbolicSpec)

/-- 'laws.FnExactCheckDiagrams', WHERE WHAT IT READS IS OF BULK AT MOST 1048576: true; the input reads as it did. -/
def fnExactCheckDiagramsUptoRow : OpenClaim := { program := "ytkaikbaagajckaagreat", sum := "691efb3ff6c432f55a1e2fa5865867424412f4ad10f9f30eaf564934b4cecefc", func := "loop.example/g00916/laws.FnExactCheckDiagrams", spec := "fnExactCheckDiagrams", inPlace := ["internal/bytealg.IndexByteString"], unfollowed := true, recurses := true, plainKeys := false, apart := false, narrowed := true }
def FnExactCheckDiagramsUptoSaid : Prop := fnExactCheckDiagramsUptoRow.holds Tryz.pinned (OpenSpec.upto fnExactCheckDiagramsSpec)

/-- 'laws.FnExactNextDiagram', WHERE WHAT IT READS IS OF BULK AT MOST 1048576: true; the input reads as it did. -/
def fnExactNextDiagramUptoRow : OpenClaim := { program := "ytkaikbaagajckaagreat", sum := "691efb3ff6c432f55a1e2fa5865867424412f4ad10f9f30eaf564934b4cecefc", func := "loop.example/g00916/laws.FnExactNextDiagram", spec := "fnExactNextDiagram", inPlace := ["internal/bytealg.IndexByteString"], unfollowed := true, recurses := true, plainKeys := false, apart := false, narrowed := true }
def FnExactNextDiagramUptoSaid : Prop := fnExactNextDiagramUptoRow.holds Tryz.pinned (OpenSpec.upto fnExactNextDiagramSpec)

/-- 'laws.FnImages', WHERE WHAT IT READS IS OF BULK AT MOST 1048576: true; the input reads as it did. -/
def fnImagesUptoRow : OpenClaim := { program := "ytkaikbaagajckaagreat", sum := "691efb3ff6c432f55a1e2fa5865867424412f4ad10f9f30eaf564934b4cecefc", func := "loop.example/g00916/laws.FnImages", spec := "fnImages", inPlace := ["internal/bytealg.IndexByteString"], unfollowed := true, recurses := true, plainKeys := false, apart := false, narrowed := true }
def FnImagesUptoSaid : Prop := fnImagesUptoRow.holds Tryz.pinned (OpenSpec.upto fnImagesSpec)

end Rows
end Go.Proofs.YtkaikbaagajckaaGreat
