/- ReadReplay of both sides in the form of the exact law. -/
import Derived.Test.YtipkncjjkkijfaaGreatDoorPt
import Derived.Test.YtipkncjjkkijfaaGreatDoorFl
namespace Go.Proofs.YtipkncjjkkijfaaGreatDoor
open Go.RowKit
set_option linter.unusedVariables false
set_option linter.unusedSimpArgs false
def rrB (b : Int) (l : List Int) (s : ByteArray) : Bool := (rrO b l s.data.toList).isSome
def rrL (b : Int) (l : List Int) (s : ByteArray) : List I3 := (rrO b l s.data.toList).getD []
theorem rrL_len {b : Int} {l : List Int} {s : ByteArray} : (rrL b l s).length ≤ 200 := by
  rw [rrL, rrO]
  split
  · simp
  · split
    · rename_i L _ h
      have := (rpC_ok h).2.2.2.1
      simpa using this
    · simp
theorem spec_ReadReplay_r {b : Int} {a : Option Addr} {n c : Nat} {l : List Int} {s : ByteArray} {w : World} (hI : Ints w a n c l) (hn : n ≤ 1048576) (hz : s.size ≤ 1048576) :
    Calls Tryz.prog 9 #[.agg #[.int .i64 b, .slice a n c], .string s] w fun e w' => ∃ n' a' c', e = .returned (.tuple #[.slice a' n' c', .bool (rrB b l s)]) ∧ Below w.heap.size w w' ∧ OwnF 3 I3.enc I3.ok 38 w' w.heap.size a' n' c' (rrL b l s) :=
  (spec_ReadReplay hI hn hz).mono fun e w' ⟨a', n', c', h1, h2, h3⟩ => ⟨n', a', c', h1, h3, h2⟩
theorem impl_ReadReplay_r {b : Int} {a : Option Addr} {n c : Nat} {l : List Int} {s : ByteArray} {w : World} (hTb : Tab w 0 (strsCells statusNm)) (hL : LV w) (hM : MLc w) (hI : Ints w a n c l) (hn : n ≤ 1048576) (hz : s.size ≤ 1048576) :
    Calls Tryz.prog 8 #[.agg #[.int .i64 b, .slice a n c], .string s] w fun e w' => ∃ n' a' c', e = .returned (.tuple #[.slice a' n' c', .bool (rrB b l s)]) ∧ Below w.heap.size w w' ∧ OwnF 3 I3.enc I3.ok 38 w' w.heap.size a' n' c' (rrL b l s) :=
  (impl_ReadReplay hTb hM hL hI hn hz).mono fun e w' ⟨a', n', c', h1, h2, h3⟩ => ⟨n', a', c', h1, h3, h2⟩
end Go.Proofs.YtipkncjjkkijfaaGreatDoor
