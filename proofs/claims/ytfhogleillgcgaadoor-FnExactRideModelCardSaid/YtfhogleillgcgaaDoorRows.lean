/-
  NARROWER THAN 'FOR EVERY INPUT', by the rows' own cells (each row's printed sentence says how): FnExactLeastCommands: laid · FnExactRideRule: laid · FnExactReplayText: laid · FnExactEventsOfTrace: laid · FnExactFirstBadByte: laid · FnExactReadTokens: laid · FnExactRideModel: laid.
  DERIVED. THE GIVEN ROWS OF THIS SEAT. 7 by the template 'for every input the law returns true; each argument reads behind the call as it read before'; 0 by the template 'total and deterministic' (their statements: YtfhogleillgcgaaDoorTotals.lean).
  GIVEN WITH THE SEED: the statements are not yours to turn. If you find one false, say at which input.
  Laid BY PROGRAM, IN A SANDBOX (cutbox-rows.mjs): the forced cells as the released guide's own fill.sh prints them over the translation 91f1766b38013b93… (all of the seat's roots in one cut). By AI agents, Wed Nov 11 2026. No macro, syntax, notation, axiom, sorry.
-/
import Derived.Test.YtfhogleillgcgaaDoorChecked
import GoSem.Claim
import GoSem.ClaimJoined
import GoSem.ClaimMapViews
import Derived.JoinedTies
import Derived.KernelRfl
namespace Go.Proofs.YtfhogleillgcgaaDoor
/- THE CELL 'sum', in the pinned program and in every row, IS THE sha256 OF THE DUMP (.gsa) THAT YtfhogleillgcgaaDoorProg.lean LOADS. Nothing in Lean hashes anything: it is a label: what it is worth is what the hold of that sum in a sandbox is worth. -/
noncomputable def Tryd.pinned : Pinned := { name := "ytfhogleillgcgaadoor", sum := "91f1766b38013b93859ce88791904daa80a332931055c71554bbd32256e23c03", checked := Tryd.checked }
namespace Rows
def none {H : Type} : Left H := { results := [], args := [] }

/- WHAT THE LISTED PACKAGE-LEVEL VARIABLES READ AS WHEN THE CALL BEGINS. Each datum BY PROGRAM (the guide's laid-datum.mjs) off the statement by which the dump's own 'gosem.cut.vars' lays the variable. In a bare row this is a premise. The card (YtfhogleillgcgaaDoorCards.lean) ties it to the program's text. -/
def laid_loop_example_g00916_impl_commandRows {H : Type} : DataW H := .agg [.agg [.lit (.int .i64 1), .lit (.int .i64 2), .lit (.int .i64 1), .lit (.bool true)], .agg [.lit (.int .i64 4), .lit (.int .i64 3), .lit (.int .i64 1), .lit (.bool false)], .agg [.lit (.int .i64 8), .lit (.int .i64 2), .lit (.int .i64 1), .lit (.bool false)], .agg [.lit (.int .i64 62), .lit (.int .i64 4), .lit (.int .i64 0), .lit (.bool false)], .agg [.lit (.int .i64 16), .lit (.int .i64 2), .lit (.int .i64 2), .lit (.bool true)], .agg [.lit (.int .i64 16), .lit (.int .i64 5), .lit (.int .i64 3), .lit (.bool false)], .agg [.lit (.int .i64 32), .lit (.int .i64 4), .lit (.int .i64 3), .lit (.bool false)], .agg [.lit (.int .i64 5), .lit (.int .i64 1), .lit (.int .i64 2), .lit (.bool true)], .agg [.lit (.int .i64 2), .lit (.int .i64 2), .lit (.int .i64 2), .lit (.bool true)], .agg [.lit (.int .i64 4), .lit (.int .i64 0), .lit (.int .i64 1), .lit (.bool false)]]
def laid_math_bits_deBruijn32tab {H : Type} : DataW H := .agg [.lit (.int .u8 0), .lit (.int .u8 1), .lit (.int .u8 28), .lit (.int .u8 2), .lit (.int .u8 29), .lit (.int .u8 14), .lit (.int .u8 24), .lit (.int .u8 3), .lit (.int .u8 30), .lit (.int .u8 22), .lit (.int .u8 20), .lit (.int .u8 15), .lit (.int .u8 25), .lit (.int .u8 17), .lit (.int .u8 4), .lit (.int .u8 8), .lit (.int .u8 31), .lit (.int .u8 27), .lit (.int .u8 13), .lit (.int .u8 23), .lit (.int .u8 21), .lit (.int .u8 19), .lit (.int .u8 16), .lit (.int .u8 7), .lit (.int .u8 26), .lit (.int .u8 12), .lit (.int .u8 18), .lit (.int .u8 6), .lit (.int .u8 11), .lit (.int .u8 5), .lit (.int .u8 10), .lit (.int .u8 9)]
def laid_math_bits_deBruijn64tab {H : Type} : DataW H := .agg [.lit (.int .u8 0), .lit (.int .u8 1), .lit (.int .u8 56), .lit (.int .u8 2), .lit (.int .u8 57), .lit (.int .u8 49), .lit (.int .u8 28), .lit (.int .u8 3), .lit (.int .u8 61), .lit (.int .u8 58), .lit (.int .u8 42), .lit (.int .u8 50), .lit (.int .u8 38), .lit (.int .u8 29), .lit (.int .u8 17), .lit (.int .u8 4), .lit (.int .u8 62), .lit (.int .u8 47), .lit (.int .u8 59), .lit (.int .u8 36), .lit (.int .u8 45), .lit (.int .u8 43), .lit (.int .u8 51), .lit (.int .u8 22), .lit (.int .u8 53), .lit (.int .u8 39), .lit (.int .u8 33), .lit (.int .u8 30), .lit (.int .u8 24), .lit (.int .u8 18), .lit (.int .u8 12), .lit (.int .u8 5), .lit (.int .u8 63), .lit (.int .u8 55), .lit (.int .u8 48), .lit (.int .u8 27), .lit (.int .u8 60), .lit (.int .u8 41), .lit (.int .u8 37), .lit (.int .u8 16), .lit (.int .u8 46), .lit (.int .u8 35), .lit (.int .u8 44), .lit (.int .u8 21), .lit (.int .u8 52), .lit (.int .u8 32), .lit (.int .u8 23), .lit (.int .u8 11), .lit (.int .u8 54), .lit (.int .u8 26), .lit (.int .u8 40), .lit (.int .u8 15), .lit (.int .u8 34), .lit (.int .u8 20), .lit (.int .u8 31), .lit (.int .u8 10), .lit (.int .u8 25), .lit (.int .u8 14), .lit (.int .u8 19), .lit (.int .u8 9), .lit (.int .u8 13), .lit (.int .u8 8), .lit (.int .u8 7), .lit (.int .u8 6)]
def laid_internal_strconv_uint64pow10 {H : Type} : DataW H := .agg [.lit (.int .u64 1), .lit (.int .u64 10), .lit (.int .u64 100), .lit (.int .u64 1000), .lit (.int .u64 10000), .lit (.int .u64 100000), .lit (.int .u64 1000000), .lit (.int .u64 10000000), .lit (.int .u64 100000000), .lit (.int .u64 1000000000), .lit (.int .u64 10000000000), .lit (.int .u64 100000000000), .lit (.int .u64 1000000000000), .lit (.int .u64 10000000000000), .lit (.int .u64 100000000000000), .lit (.int .u64 1000000000000000), .lit (.int .u64 10000000000000000), .lit (.int .u64 100000000000000000), .lit (.int .u64 1000000000000000000), .lit (.int .u64 10000000000000000000)]
def laid_loop_example_g00916_impl_ruleNames {H : Type} : DataW H := .agg [.lit (.string [97, 114, 114, 105, 118, 101]), .lit (.string [114, 101, 108, 101, 97, 115, 101]), .lit (.string [98, 108, 105, 110, 100]), .lit (.string [101, 110, 116, 101, 114]), .lit (.string [99, 108, 101, 97, 114]), .lit (.string [111, 99, 99, 117, 112, 105, 101, 100]), .lit (.string [115, 101, 99, 111, 110, 100])]
def laid_loop_example_g00916_impl_statusWords {H : Type} : DataW H := .agg [.lit (.string [109, 111, 118, 101]), .lit (.string [99, 108, 101, 97, 114]), .lit (.string [111, 99, 99, 117, 112, 105, 101, 100]), .lit (.string [98, 108, 105, 110, 100])]
def laid_strconv_ErrRange {H : Type} : DataW H := .iface "*errors.errorString" (.ptr (.agg [.lit (.string [118, 97, 108, 117, 101, 32, 111, 117, 116, 32, 111, 102, 32, 114, 97, 110, 103, 101])]))
def laid_strconv_ErrSyntax {H : Type} : DataW H := .iface "*errors.errorString" (.ptr (.agg [.lit (.string [105, 110, 118, 97, 108, 105, 100, 32, 115, 121, 110, 116, 97, 120])]))

/-- 'laws.FnExactLeastCommands': WHATEVER THE INPUT: true; the input reads as it did. -/
def fnExactLeastCommandsSpec : ChangeSpec := { name := "fnExactLeastCommands", vars := ["loop.example/g00916/impl.commandRows"], fn := fun _ => fun
  | [d1, d2, d3, d4, g1] => { results := [.lit (.bool true)], args := [d1, d2, d3, d4], vars := [g1] }
  | _ => none }
def fnExactLeastCommandsRow : OpenClaim := { program := "ytfhogleillgcgaadoor", sum := "91f1766b38013b93859ce88791904daa80a332931055c71554bbd32256e23c03", func := "loop.example/g00916/laws.FnExactLeastCommands", spec := "fnExactLeastCommands", recurses := true, named := ["loop.example/g00916/impl.commandRows"], apart := false, laid := [("loop.example/g00916/impl.commandRows", laid_loop_example_g00916_impl_commandRows)] }
def FnExactLeastCommandsSaid : Prop := fnExactLeastCommandsRow.holds Tryd.pinned (OpenSpec.ofChange fnExactLeastCommandsSpec)

/-- ITS FALSE NEIGHBOUR: 'it returns false'. Refute it at one input. -/
def fnExactLeastCommandsWrong : ChangeSpec := { name := "fnExactLeastCommands", vars := ["loop.example/g00916/impl.commandRows"], fn := fun _ => fun
  | [d1, d2, d3, d4, g1] => { results := [.lit (.bool false)], args := [d1, d2, d3, d4], vars := [g1] }
  | _ => none }
def FnExactLeastCommandsWrongFalsely : Prop := fnExactLeastCommandsRow.holds Tryd.pinned (OpenSpec.ofChange fnExactLeastCommandsWrong)

/-- 'laws.FnExactRideRule': WHATEVER THE INPUT: true; the input reads as it did. -/
def fnExactRideRuleSpec : ChangeSpec := { name := "fnExactRideRule", vars := ["loop.example/g00916/impl.ruleNames"], fn := fun _ => fun
  | [d1, d2, d3, d4, g1] => { results := [.lit (.bool true)], args := [d1, d2, d3, d4], vars := [g1] }
  | _ => none }
def fnExactRideRuleRow : OpenClaim := { program := "ytfhogleillgcgaadoor", sum := "91f1766b38013b93859ce88791904daa80a332931055c71554bbd32256e23c03", func := "loop.example/g00916/laws.FnExactRideRule", spec := "fnExactRideRule", unfollowed := true, recurses := true, named := ["loop.example/g00916/impl.ruleNames", "internal/strconv.uint64pow10", "math/bits.deBruijn32tab", "math/bits.deBruijn64tab"], apart := false, laid := [("math/bits.deBruijn32tab", laid_math_bits_deBruijn32tab), ("math/bits.deBruijn64tab", laid_math_bits_deBruijn64tab), ("internal/strconv.uint64pow10", laid_internal_strconv_uint64pow10), ("loop.example/g00916/impl.ruleNames", laid_loop_example_g00916_impl_ruleNames)] }
def FnExactRideRuleSaid : Prop := fnExactRideRuleRow.holds Tryd.pinned (OpenSpec.ofChange fnExactRideRuleSpec)

/-- ITS FALSE NEIGHBOUR: 'it returns false'. Refute it at one input. -/
def fnExactRideRuleWrong : ChangeSpec := { name := "fnExactRideRule", vars := ["loop.example/g00916/impl.ruleNames"], fn := fun _ => fun
  | [d1, d2, d3, d4, g1] => { results := [.lit (.bool false)], args := [d1, d2, d3, d4], vars := [g1] }
  | _ => none }
def FnExactRideRuleWrongFalsely : Prop := fnExactRideRuleRow.holds Tryd.pinned (OpenSpec.ofChange fnExactRideRuleWrong)

/-- 'laws.FnExactReplayText': WHATEVER THE INPUT: true; the input reads as it did. -/
def fnExactReplayTextSpec : ChangeSpec := { name := "fnExactReplayText", vars := ["loop.example/g00916/impl.statusWords"], fn := fun _ => fun
  | [d1, d2, g1] => { results := [.lit (.bool true)], args := [d1, d2], vars := [g1] }
  | _ => none }
def fnExactReplayTextRow : OpenClaim := { program := "ytfhogleillgcgaadoor", sum := "91f1766b38013b93859ce88791904daa80a332931055c71554bbd32256e23c03", func := "loop.example/g00916/laws.FnExactReplayText", spec := "fnExactReplayText", inPlace := ["internal/abi.NoEscape", "internal/bytealg.MakeNoZero"], unfollowed := true, recurses := true, named := ["loop.example/g00916/impl.statusWords", "internal/strconv.uint64pow10", "math/bits.deBruijn32tab", "math/bits.deBruijn64tab"], apart := false, laid := [("math/bits.deBruijn32tab", laid_math_bits_deBruijn32tab), ("math/bits.deBruijn64tab", laid_math_bits_deBruijn64tab), ("internal/strconv.uint64pow10", laid_internal_strconv_uint64pow10), ("loop.example/g00916/impl.statusWords", laid_loop_example_g00916_impl_statusWords)] }
def FnExactReplayTextSaid : Prop := fnExactReplayTextRow.holds Tryd.pinned (OpenSpec.ofChange fnExactReplayTextSpec)

/-- ITS FALSE NEIGHBOUR: 'it returns false'. Refute it at one input. -/
def fnExactReplayTextWrong : ChangeSpec := { name := "fnExactReplayText", vars := ["loop.example/g00916/impl.statusWords"], fn := fun _ => fun
  | [d1, d2, g1] => { results := [.lit (.bool false)], args := [d1, d2], vars := [g1] }
  | _ => none }
def FnExactReplayTextWrongFalsely : Prop := fnExactReplayTextRow.holds Tryd.pinned (OpenSpec.ofChange fnExactReplayTextWrong)

/-- 'laws.FnExactEventsOfTrace': WHATEVER THE INPUT: true; the input reads as it did. -/
def fnExactEventsOfTraceSpec : ChangeSpec := { name := "fnExactEventsOfTrace", vars := ["loop.example/g00916/impl.ruleNames"], fn := fun _ => fun
  | [d1, d2, d3, d4, g1] => { results := [.lit (.bool true)], args := [d1, d2, d3, d4], vars := [g1] }
  | _ => none }
def fnExactEventsOfTraceRow : OpenClaim := { program := "ytfhogleillgcgaadoor", sum := "91f1766b38013b93859ce88791904daa80a332931055c71554bbd32256e23c03", func := "loop.example/g00916/laws.FnExactEventsOfTrace", spec := "fnExactEventsOfTrace", unfollowed := true, recurses := true, named := ["loop.example/g00916/impl.ruleNames", "internal/strconv.uint64pow10", "math/bits.deBruijn32tab", "math/bits.deBruijn64tab"], apart := false, laid := [("math/bits.deBruijn32tab", laid_math_bits_deBruijn32tab), ("math/bits.deBruijn64tab", laid_math_bits_deBruijn64tab), ("internal/strconv.uint64pow10", laid_internal_strconv_uint64pow10), ("loop.example/g00916/impl.ruleNames", laid_loop_example_g00916_impl_ruleNames)] }
def FnExactEventsOfTraceSaid : Prop := fnExactEventsOfTraceRow.holds Tryd.pinned (OpenSpec.ofChange fnExactEventsOfTraceSpec)

/-- ITS FALSE NEIGHBOUR: 'it returns false'. Refute it at one input. -/
def fnExactEventsOfTraceWrong : ChangeSpec := { name := "fnExactEventsOfTrace", vars := ["loop.example/g00916/impl.ruleNames"], fn := fun _ => fun
  | [d1, d2, d3, d4, g1] => { results := [.lit (.bool false)], args := [d1, d2, d3, d4], vars := [g1] }
  | _ => none }
def FnExactEventsOfTraceWrongFalsely : Prop := fnExactEventsOfTraceRow.holds Tryd.pinned (OpenSpec.ofChange fnExactEventsOfTraceWrong)

/-- 'laws.FnExactFirstBadByte': WHATEVER THE INPUT: true; the input reads as it did. -/
def fnExactFirstBadByteSpec : ChangeSpec := { name := "fnExactFirstBadByte", fn := fun _ => fun
  | [d] => { results := [.lit (.bool true)], args := [d] }
  | _ => none }
def fnExactFirstBadByteRow : OpenClaim := { program := "ytfhogleillgcgaadoor", sum := "91f1766b38013b93859ce88791904daa80a332931055c71554bbd32256e23c03", func := "loop.example/g00916/laws.FnExactFirstBadByte", spec := "fnExactFirstBadByte", inPlace := ["internal/bytealg.IndexByteString"], unfollowed := true, recurses := true, named := ["strconv.ErrSyntax", "strconv.ErrRange", "internal/strconv.uint64pow10", "math/bits.deBruijn32tab", "math/bits.deBruijn64tab"], apart := false, laid := [("math/bits.deBruijn32tab", laid_math_bits_deBruijn32tab), ("math/bits.deBruijn64tab", laid_math_bits_deBruijn64tab), ("internal/strconv.uint64pow10", laid_internal_strconv_uint64pow10), ("strconv.ErrRange", laid_strconv_ErrRange), ("strconv.ErrSyntax", laid_strconv_ErrSyntax)] }
def FnExactFirstBadByteSaid : Prop := fnExactFirstBadByteRow.holds Tryd.pinned (OpenSpec.ofChange fnExactFirstBadByteSpec)

/-- ITS FALSE NEIGHBOUR: 'it returns false'. Refute it at one input. -/
def fnExactFirstBadByteWrong : ChangeSpec := { name := "fnExactFirstBadByte", fn := fun _ => fun
  | [d] => { results := [.lit (.bool false)], args := [d] }
  | _ => none }
def FnExactFirstBadByteWrongFalsely : Prop := fnExactFirstBadByteRow.holds Tryd.pinned (OpenSpec.ofChange fnExactFirstBadByteWrong)

/-- 'laws.FnExactReadTokens': WHATEVER THE INPUT: true; the input reads as it did. -/
def fnExactReadTokensSpec : ChangeSpec := { name := "fnExactReadTokens", fn := fun _ => fun
  | [d] => { results := [.lit (.bool true)], args := [d] }
  | _ => none }
def fnExactReadTokensRow : OpenClaim := { program := "ytfhogleillgcgaadoor", sum := "91f1766b38013b93859ce88791904daa80a332931055c71554bbd32256e23c03", func := "loop.example/g00916/laws.FnExactReadTokens", spec := "fnExactReadTokens", inPlace := ["internal/bytealg.IndexByteString"], unfollowed := true, recurses := true, named := ["strconv.ErrSyntax", "strconv.ErrRange", "internal/strconv.uint64pow10", "math/bits.deBruijn32tab", "math/bits.deBruijn64tab"], apart := false, laid := [("math/bits.deBruijn32tab", laid_math_bits_deBruijn32tab), ("math/bits.deBruijn64tab", laid_math_bits_deBruijn64tab), ("internal/strconv.uint64pow10", laid_internal_strconv_uint64pow10), ("strconv.ErrRange", laid_strconv_ErrRange), ("strconv.ErrSyntax", laid_strconv_ErrSyntax)] }
def FnExactReadTokensSaid : Prop := fnExactReadTokensRow.holds Tryd.pinned (OpenSpec.ofChange fnExactReadTokensSpec)

/-- ITS FALSE NEIGHBOUR: 'it returns false'. Refute it at one input. -/
def fnExactReadTokensWrong : ChangeSpec := { name := "fnExactReadTokens", fn := fun _ => fun
  | [d] => { results := [.lit (.bool false)], args := [d] }
  | _ => none }
def FnExactReadTokensWrongFalsely : Prop := fnExactReadTokensRow.holds Tryd.pinned (OpenSpec.ofChange fnExactReadTokensWrong)

/-- 'laws.FnExactRideModel': WHATEVER THE INPUT: true; the input reads as it did. -/
def fnExactRideModelSpec : ChangeSpec := { name := "fnExactRideModel", vars := ["loop.example/g00916/impl.ruleNames"], fn := fun _ => fun
  | [d1, d2, d3, g1] => { results := [.lit (.bool true)], args := [d1, d2, d3], vars := [g1] }
  | _ => none }
def fnExactRideModelRow : OpenClaim := { program := "ytfhogleillgcgaadoor", sum := "91f1766b38013b93859ce88791904daa80a332931055c71554bbd32256e23c03", func := "loop.example/g00916/laws.FnExactRideModel", spec := "fnExactRideModel", unfollowed := true, recurses := true, named := ["loop.example/g00916/impl.ruleNames", "internal/strconv.uint64pow10", "math/bits.deBruijn32tab", "math/bits.deBruijn64tab"], apart := false, laid := [("math/bits.deBruijn32tab", laid_math_bits_deBruijn32tab), ("math/bits.deBruijn64tab", laid_math_bits_deBruijn64tab), ("internal/strconv.uint64pow10", laid_internal_strconv_uint64pow10), ("loop.example/g00916/impl.ruleNames", laid_loop_example_g00916_impl_ruleNames)] }
def FnExactRideModelSaid : Prop := fnExactRideModelRow.holds Tryd.pinned (OpenSpec.ofChange fnExactRideModelSpec)

/-- ITS FALSE NEIGHBOUR: 'it returns false'. Refute it at one input. -/
def fnExactRideModelWrong : ChangeSpec := { name := "fnExactRideModel", vars := ["loop.example/g00916/impl.ruleNames"], fn := fun _ => fun
  | [d1, d2, d3, g1] => { results := [.lit (.bool false)], args := [d1, d2, d3], vars := [g1] }
  | _ => none }
def FnExactRideModelWrongFalsely : Prop := fnExactRideModelRow.holds Tryd.pinned (OpenSpec.ofChange fnExactRideModelWrong)

/- THE SECOND FORM. 'bulk': how many values and letters a reading holds, each counted each time it is reached (what is shared counts as often as it is met; a slice's spare places count too). A statement '..UptoSaid' is the law's where the arguments, and the package variables that the reading takes, are together of bulk at most 1048576: NARROWER than '..Said'. Prove '..Said' where nothing that the law and all that it calls make is longer than what came in: it says more and counts as full. Else prove '..UptoSaid'. A law counts once. -/
mutual
def uptoBulk {H : Type} : DataW H → Nat
  | .lit (.string bytes) => bytes.length + 1
  | .lit _ => 1
  | .nil => 1
  | .ptr d => uptoBulk d + 1
  | .slice elems spare => uptoBulkAll elems + uptoBulkAll spare + 1
  | .agg parts => uptoBulkAll parts + 1
  | .iface _ d => uptoBulk d + 1
  | .map entries => uptoBulkEntries entries + 1
  | .held _ => 1
def uptoBulkAll {H : Type} : List (DataW H) → Nat
  | [] => 0
  | d :: r => uptoBulk d + uptoBulkAll r
def uptoBulkEntries {H : Type} : List (Lit × DataW H) → Nat
  | [] => 0
  | x :: r => uptoBulkEntry x + uptoBulkEntries r
def uptoBulkEntry {H : Type} : Lit × DataW H → Nat
  | (.string bytes, d) => bytes.length + uptoBulk d + 1
  | (_, d) => uptoBulk d + 1
 end
def uptoSmall : (H : Type) → List (DataW H) → Bool := fun _ ds => decide (uptoBulkAll ds ≤ 1048576)
def OpenSpec.upto (s : _root_.Go.ChangeSpec) : _root_.Go.OpenSpec := { _root_.Go.OpenSpec.ofChange s with cond := some uptoSmall }

/-- 'laws.FnExactLeastCommands', WHERE WHAT IT READS IS OF BULK AT MOST 1048576: true; the input reads as it did. -/
def fnExactLeastCommandsUptoRow : OpenClaim := { program := "ytfhogleillgcgaadoor", sum := "91f1766b38013b93859ce88791904daa80a332931055c71554bbd32256e23c03", func := "loop.example/g00916/laws.FnExactLeastCommands", spec := "fnExactLeastCommands", recurses := true, named := ["loop.example/g00916/impl.commandRows"], apart := false, laid := [("loop.example/g00916/impl.commandRows", laid_loop_example_g00916_impl_commandRows)], narrowed := true }
def FnExactLeastCommandsUptoSaid : Prop := fnExactLeastCommandsUptoRow.holds Tryd.pinned (OpenSpec.upto fnExactLeastCommandsSpec)

/-- 'laws.FnExactRideRule', WHERE WHAT IT READS IS OF BULK AT MOST 1048576: true; the input reads as it did. -/
def fnExactRideRuleUptoRow : OpenClaim := { program := "ytfhogleillgcgaadoor", sum := "91f1766b38013b93859ce88791904daa80a332931055c71554bbd32256e23c03", func := "loop.example/g00916/laws.FnExactRideRule", spec := "fnExactRideRule", unfollowed := true, recurses := true, named := ["loop.example/g00916/impl.ruleNames", "internal/strconv.uint64pow10", "math/bits.deBruijn32tab", "math/bits.deBruijn64tab"], apart := false, laid := [("math/bits.deBruijn32tab", laid_math_bits_deBruijn32tab), ("math/bits.deBruijn64tab", laid_math_bits_deBruijn64tab), ("internal/strconv.uint64pow10", laid_internal_strconv_uint64pow10), ("loop.example/g00916/impl.ruleNames", laid_loop_example_g00916_impl_ruleNames)], narrowed := true }
def FnExactRideRuleUptoSaid : Prop := fnExactRideRuleUptoRow.holds Tryd.pinned (OpenSpec.upto fnExactRideRuleSpec)

/-- 'laws.FnExactReplayText', WHERE WHAT IT READS IS OF BULK AT MOST 1048576: true; the input reads as it did. -/
def fnExactReplayTextUptoRow : OpenClaim := { program := "ytfhogleillgcgaadoor", sum := "91f1766b38013b93859ce88791904daa80a332931055c71554bbd32256e23c03", func := "loop.example/g00916/laws.FnExactReplayText", spec := "fnExactReplayText", inPlace := ["internal/abi.NoEscape", "internal/bytealg.MakeNoZero"], unfollowed := true, recurses := true, named := ["loop.example/g00916/impl.statusWords", "internal/strconv.uint64pow10", "math/bits.deBruijn32tab", "math/bits.deBruijn64tab"], apart := false, laid := [("math/bits.deBruijn32tab", laid_math_bits_deBruijn32tab), ("math/bits.deBruijn64tab", laid_math_bits_deBruijn64tab), ("internal/strconv.uint64pow10", laid_internal_strconv_uint64pow10), ("loop.example/g00916/impl.statusWords", laid_loop_example_g00916_impl_statusWords)], narrowed := true }
def FnExactReplayTextUptoSaid : Prop := fnExactReplayTextUptoRow.holds Tryd.pinned (OpenSpec.upto fnExactReplayTextSpec)

/-- 'laws.FnExactEventsOfTrace', WHERE WHAT IT READS IS OF BULK AT MOST 1048576: true; the input reads as it did. -/
def fnExactEventsOfTraceUptoRow : OpenClaim := { program := "ytfhogleillgcgaadoor", sum := "91f1766b38013b93859ce88791904daa80a332931055c71554bbd32256e23c03", func := "loop.example/g00916/laws.FnExactEventsOfTrace", spec := "fnExactEventsOfTrace", unfollowed := true, recurses := true, named := ["loop.example/g00916/impl.ruleNames", "internal/strconv.uint64pow10", "math/bits.deBruijn32tab", "math/bits.deBruijn64tab"], apart := false, laid := [("math/bits.deBruijn32tab", laid_math_bits_deBruijn32tab), ("math/bits.deBruijn64tab", laid_math_bits_deBruijn64tab), ("internal/strconv.uint64pow10", laid_internal_strconv_uint64pow10), ("loop.example/g00916/impl.ruleNames", laid_loop_example_g00916_impl_ruleNames)], narrowed := true }
def FnExactEventsOfTraceUptoSaid : Prop := fnExactEventsOfTraceUptoRow.holds Tryd.pinned (OpenSpec.upto fnExactEventsOfTraceSpec)

/-- 'laws.FnExactFirstBadByte', WHERE WHAT IT READS IS OF BULK AT MOST 1048576: true; the input reads as it did. -/
def fnExactFirstBadByteUptoRow : OpenClaim := { program := "ytfhogleillgcgaadoor", sum := "91f1766b38013b93859ce88791904daa80a332931055c71554bbd32256e23c03", func := "loop.example/g00916/laws.FnExactFirstBadByte", spec := "fnExactFirstBadByte", inPlace := ["internal/bytealg.IndexByteString"], unfollowed := true, recurses := true, named := ["strconv.ErrSyntax", "strconv.ErrRange", "internal/strconv.uint64pow10", "math/bits.deBruijn32tab", "math/bits.deBruijn64tab"], apart := false, laid := [("math/bits.deBruijn32tab", laid_math_bits_deBruijn32tab), ("math/bits.deBruijn64tab", laid_math_bits_deBruijn64tab), ("internal/strconv.uint64pow10", laid_internal_strconv_uint64pow10), ("strconv.ErrRange", laid_strconv_ErrRange), ("strconv.ErrSyntax", laid_strconv_ErrSyntax)], narrowed := true }
def FnExactFirstBadByteUptoSaid : Prop := fnExactFirstBadByteUptoRow.holds Tryd.pinned (OpenSpec.upto fnExactFirstBadByteSpec)

/-- 'laws.FnExactReadTokens', WHERE WHAT IT READS IS OF BULK AT MOST 1048576: true; the input reads as it did. -/
def fnExactReadTokensUptoRow : OpenClaim := { program := "ytfhogleillgcgaadoor", sum := "91f1766b38013b93859ce88791904daa80a332931055c71554bbd32256e23c03", func := "loop.example/g00916/laws.FnExactReadTokens", spec := "fnExactReadTokens", inPlace := ["internal/bytealg.IndexByteString"], unfollowed := true, recurses := true, named := ["strconv.ErrSyntax", "strconv.ErrRange", "internal/strconv.uint64pow10", "math/bits.deBruijn32tab", "math/bits.deBruijn64tab"], apart := false, laid := [("math/bits.deBruijn32tab", laid_math_bits_deBruijn32tab), ("math/bits.deBruijn64tab", laid_math_bits_deBruijn64tab), ("internal/strconv.uint64pow10", laid_internal_strconv_uint64pow10), ("strconv.ErrRange", laid_strconv_ErrRange), ("strconv.ErrSyntax", laid_strconv_ErrSyntax)], narrowed := true }
def FnExactReadTokensUptoSaid : Prop := fnExactReadTokensUptoRow.holds Tryd.pinned (OpenSpec.upto fnExactReadTokensSpec)

/-- 'laws.FnExactRideModel', WHERE WHAT IT READS IS OF BULK AT MOST 1048576: true; the input reads as it did. -/
def fnExactRideModelUptoRow : OpenClaim := { program := "ytfhogleillgcgaadoor", sum := "91f1766b38013b93859ce88791904daa80a332931055c71554bbd32256e23c03", func := "loop.example/g00916/laws.FnExactRideModel", spec := "fnExactRideModel", unfollowed := true, recurses := true, named := ["loop.example/g00916/impl.ruleNames", "internal/strconv.uint64pow10", "math/bits.deBruijn32tab", "math/bits.deBruijn64tab"], apart := false, laid := [("math/bits.deBruijn32tab", laid_math_bits_deBruijn32tab), ("math/bits.deBruijn64tab", laid_math_bits_deBruijn64tab), ("internal/strconv.uint64pow10", laid_internal_strconv_uint64pow10), ("loop.example/g00916/impl.ruleNames", laid_loop_example_g00916_impl_ruleNames)], narrowed := true }
def FnExactRideModelUptoSaid : Prop := fnExactRideModelUptoRow.holds Tryd.pinned (OpenSpec.upto fnExactRideModelSpec)

end Rows
end Go.Proofs.YtfhogleillgcgaaDoor
