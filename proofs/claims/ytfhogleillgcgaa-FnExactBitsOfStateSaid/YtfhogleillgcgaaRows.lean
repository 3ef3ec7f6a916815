/-
  No cell of these rows narrows 'for every input' (looked for: loops, veiled, ifaces, maps, wideKeys, modest, calm, conditions, laid).
  DERIVED. THE GIVEN ROWS OF THIS SEAT. 4 by the template 'for every input the law returns true; each argument reads behind the call as it read before'; 0 by the template 'total and deterministic' (their statements: YtfhogleillgcgaaTotals.lean).
  GIVEN WITH THE SEED: the statements are not yours to turn. If you find one false, say at which input.
  Laid BY PROGRAM, IN A SANDBOX (cutbox-rows.mjs): the forced cells as the released guide's own fill.sh prints them over the translation 49e683136d1b4f31… (all of the seat's roots in one cut). By AI agents, Wed Nov 11 2026. No macro, syntax, notation, axiom, sorry.
-/
import Derived.Test.YtfhogleillgcgaaChecked
import GoSem.Claim
import GoSem.ClaimJoined
import GoSem.ClaimMapViews
import Derived.JoinedTies
import Derived.KernelRfl
namespace Go.Proofs.Ytfhogleillgcgaa
/- THE CELL 'sum', in the pinned program and in every row, IS THE sha256 OF THE DUMP (.gsa) THAT YtfhogleillgcgaaProg.lean LOADS. Nothing in Lean hashes anything: it is a label: what it is worth is what the hold of that sum in a sandbox is worth. -/
noncomputable def Try.pinned : Pinned := { name := "ytfhogleillgcgaa", sum := "49e683136d1b4f3126116df76380f7d7d3a24abd9d7f62064b5c9b2f2a48aa2e", checked := Try.checked }
namespace Rows
def none {H : Type} : Left H := { results := [], args := [] }

/-- 'laws.FnExactBitsOfModel': WHATEVER THE INPUT: true; the input reads as it did. -/
def fnExactBitsOfModelSpec : ChangeSpec := { name := "fnExactBitsOfModel", fn := fun _ => fun
  | [d] => { results := [.lit (.bool true)], args := [d] }
  | _ => none }
def fnExactBitsOfModelRow : OpenClaim := { program := "ytfhogleillgcgaa", sum := "49e683136d1b4f3126116df76380f7d7d3a24abd9d7f62064b5c9b2f2a48aa2e", func := "loop.example/g00916/laws.FnExactBitsOfModel", spec := "fnExactBitsOfModel", inPlace := ["internal/bytealg.IndexByteString"], unfollowed := true, recurses := true, apart := false }
def FnExactBitsOfModelSaid : Prop := fnExactBitsOfModelRow.holds Try.pinned (OpenSpec.ofChange fnExactBitsOfModelSpec)

/-- ITS FALSE NEIGHBOUR: 'it returns false'. Refute it at one input. -/
def fnExactBitsOfModelWrong : ChangeSpec := { name := "fnExactBitsOfModel", fn := fun _ => fun
  | [d] => { results := [.lit (.bool false)], args := [d] }
  | _ => none }
def FnExactBitsOfModelWrongFalsely : Prop := fnExactBitsOfModelRow.holds Try.pinned (OpenSpec.ofChange fnExactBitsOfModelWrong)

/-- 'laws.FnStateBits': WHATEVER THE INPUT: true; the input reads as it did. -/
def fnStateBitsSpec : ChangeSpec := { name := "fnStateBits", fn := fun _ => fun
  | [d] => { results := [.lit (.bool true)], args := [d] }
  | _ => none }
def fnStateBitsRow : OpenClaim := { program := "ytfhogleillgcgaa", sum := "49e683136d1b4f3126116df76380f7d7d3a24abd9d7f62064b5c9b2f2a48aa2e", func := "loop.example/g00916/laws.FnStateBits", spec := "fnStateBits", inPlace := ["internal/bytealg.IndexByteString"], unfollowed := true, recurses := true, apart := false }
def FnStateBitsSaid : Prop := fnStateBitsRow.holds Try.pinned (OpenSpec.ofChange fnStateBitsSpec)

/-- ITS FALSE NEIGHBOUR: 'it returns false'. Refute it at one input. -/
def fnStateBitsWrong : ChangeSpec := { name := "fnStateBits", fn := fun _ => fun
  | [d] => { results := [.lit (.bool false)], args := [d] }
  | _ => none }
def FnStateBitsWrongFalsely : Prop := fnStateBitsRow.holds Try.pinned (OpenSpec.ofChange fnStateBitsWrong)

/-- 'laws.FnExactBitsOfState': WHATEVER THE INPUT: true; the input reads as it did. -/
def fnExactBitsOfStateSpec : ChangeSpec := { name := "fnExactBitsOfState", fn := fun _ => fun
  | [d1, d2] => { results := [.lit (.bool true)], args := [d1, d2] }
  | _ => none }
def fnExactBitsOfStateRow : OpenClaim := { program := "ytfhogleillgcgaa", sum := "49e683136d1b4f3126116df76380f7d7d3a24abd9d7f62064b5c9b2f2a48aa2e", func := "loop.example/g00916/laws.FnExactBitsOfState", spec := "fnExactBitsOfState", inPlace := ["internal/bytealg.IndexByteString"], unfollowed := true, recurses := true, apart := false }
def FnExactBitsOfStateSaid : Prop := fnExactBitsOfStateRow.holds Try.pinned (OpenSpec.ofChange fnExactBitsOfStateSpec)

/-- ITS FALSE NEIGHBOUR: 'it returns false'. Refute it at one input. -/
def fnExactBitsOfStateWrong : ChangeSpec := { name := "fnExactBitsOfState", fn := fun _ => fun
  | [d1, d2] => { results := [.lit (.bool false)], args := [d1, d2] }
  | _ => none }
def FnExactBitsOfStateWrongFalsely : Prop := fnExactBitsOfStateRow.holds Try.pinned (OpenSpec.ofChange fnExactBitsOfStateWrong)

/-- 'laws.FnExactStateOfBits': WHATEVER THE INPUT: true; the input reads as it did. -/
def fnExactStateOfBitsSpec : ChangeSpec := { name := "fnExactStateOfBits", fn := fun _ => fun
  | [d1, d2] => { results := [.lit (.bool true)], args := [d1, d2] }
  | _ => none }
def fnExactStateOfBitsRow : OpenClaim := { program := "ytfhogleillgcgaa", sum := "49e683136d1b4f3126116df76380f7d7d3a24abd9d7f62064b5c9b2f2a48aa2e", func := "loop.example/g00916/laws.FnExactStateOfBits", spec := "fnExactStateOfBits", inPlace := ["internal/bytealg.IndexByteString"], unfollowed := true, recurses := true, apart := false }
def FnExactStateOfBitsSaid : Prop := fnExactStateOfBitsRow.holds Try.pinned (OpenSpec.ofChange fnExactStateOfBitsSpec)

/-- ITS FALSE NEIGHBOUR: 'it returns false'. Refute it at one input. -/
def fnExactStateOfBitsWrong : ChangeSpec := { name := "fnExactStateOfBits", fn := fun _ => fun
  | [d1, d2] => { results := [.lit (.bool false)], args := [d1, d2] }
  | _ => none }
def FnExactStateOfBitsWrongFalsely : Prop := fnExactStateOfBitsRow.holds Try.pinned (OpenSpec.ofChange fnExactStateOfBitsWrong)

/- THE SECOND FORM. 'bulk': how many values and letters a reading holds, each counted each time it is reached (what is shared counts as often as it is met; a slice's spare places count too). A statement '..UptoSaid' is the law's where the arguments, and the package variables that the reading takes, are together of bulk at most 1048576: NARROWER than '..Said'. Prove '..Said' where nothing that the law and all that it calls make is longer than what came in: it says more and counts as full. Else prove '..UptoSaid'. A law counts once. -/
mutual
def uptoBulk {H : Type} : DataW H → Nat
  | .lit (.string bytes) => bytes.length + 1
  | .lit _ => 1
  | .nil => 1
  | .ptr d => uptoBulk d + 1
  | .slice elems spare => uptoBulkAll elems + uptoBulkAll spare + 1
  | .agg parts => uptoBulkAll parts + 1
  | .iface _ d => uptoBulk d + 1
  | .map entries => uptoBulkEntries entries + 1
  | .held _ => 1
def uptoBulkAll {H : Type} : List (DataW H) → Nat
  | [] => 0
  | d :: r => uptoBulk d + uptoBulkAll r
def uptoBulkEntries {H : Type} : List (Lit × DataW H) → Nat
  | [] => 0
  | x :: r => uptoBulkEntry x + uptoBulkEntries r
def uptoBulkEntry {H : Type} : Lit × DataW H → Nat
  | (.string bytes, d) => bytes.length + uptoBulk d + 1
  | (_, d) => uptoBulk d + 1
 end
def uptoSmall : (H : Type) → List (DataW H) → Bool := fun _ ds => decide (uptoBulkAll ds ≤ 1048576)
def OpenSpec.upto (s : _root_.Go.ChangeSpec) : _root_.Go.OpenSpec := { _root_.Go.OpenSpec.ofChange s with cond := some uptoSmall }

/-- 'laws.FnExactBitsOfModel', WHERE WHAT IT READS IS OF BULK AT MOST 1048576: true; the input reads as it did. -/
def fnExactBitsOfModelUptoRow : OpenClaim := { program := "ytfhogleillgcgaa", sum := "49e683136d1b4f3126116df76380f7d7d3a24abd9d7f62064b5c9b2f2a48aa2e", func := "loop.example/g00916/laws.FnExactBitsOfModel", spec := "fnExactBitsOfModel", inPlace := ["internal/bytealg.IndexByteString"], unfollowed := true, recurses := true, apart := false, narrowed := true }
def FnExactBitsOfModelUptoSaid : Prop := fnExactBitsOfModelUptoRow.holds Try.pinned (OpenSpec.upto fnExactBitsOfModelSpec)

/-- 'laws.FnStateBits', WHERE WHAT IT READS IS OF BULK AT MOST 1048576: true; the input reads as it did. -/
def fnStateBitsUptoRow : OpenClaim := { program := "ytfhogleillgcgaa", sum := "49e683136d1b4f3126116df76380f7d7d3a24abd9d7f62064b5c9b2f2a48aa2e", func := "loop.example/g00916/laws.FnStateBits", spec := "fnStateBits", inPlace := ["internal/bytealg.IndexByteString"], unfollowed := true, recurses := true, apart := false, narrowed := true }
def FnStateBitsUptoSaid : Prop := fnStateBitsUptoRow.holds Try.pinned (OpenSpec.upto fnStateBitsSpec)

/-- 'laws.FnExactBitsOfState', WHERE WHAT IT READS IS OF BULK AT MOST 1048576: true; the input reads as it did. -/
def fnExactBitsOfStateUptoRow : OpenClaim := { program := "ytfhogleillgcgaa", sum := "49e683136d1b4f3126116df76380f7d7d3a24abd9d7f62064b5c9b2f2a48aa2e", func := "loop.example/g00916/laws.FnExactBitsOfState", spec := "fnExactBitsOfState", inPlace := ["internal/bytealg.IndexByteString"], unfollowed := true, recurses := true, apart := false, narrowed := true }
def FnExactBitsOfStateUptoSaid : Prop := fnExactBitsOfStateUptoRow.holds Try.pinned (OpenSpec.upto fnExactBitsOfStateSpec)

/-- 'laws.FnExactStateOfBits', WHERE WHAT IT READS IS OF BULK AT MOST 1048576: true; the input reads as it did. -/
def fnExactStateOfBitsUptoRow : OpenClaim := { program := "ytfhogleillgcgaa", sum := "49e683136d1b4f3126116df76380f7d7d3a24abd9d7f62064b5c9b2f2a48aa2e", func := "loop.example/g00916/laws.FnExactStateOfBits", spec := "fnExactStateOfBits", inPlace := ["internal/bytealg.IndexByteString"], unfollowed := true, recurses := true, apart := false, narrowed := true }
def FnExactStateOfBitsUptoSaid : Prop := fnExactStateOfBitsUptoRow.holds Try.pinned (OpenSpec.upto fnExactStateOfBitsSpec)

end Rows
end Go.Proofs.Ytfhogleillgcgaa
