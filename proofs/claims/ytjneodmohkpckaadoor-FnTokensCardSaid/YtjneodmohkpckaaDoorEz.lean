/- Is there a blank between two tokens: both sides, walked. -/
import Derived.Test.YtjneodmohkpckaaDoorEw
import Derived.Test.YtjneodmohkpckaaDoorEe
namespace Go.Proofs.YtjneodmohkpckaaDoor
open Go.RowKit
set_option linter.unusedVariables false
set_option linter.unusedSimpArgs false
def isS (a : ByteArray) (c : UInt8) : Bool := a.toList == [c]
def blkB (a b : ByteArray) : Bool := if isS a 59 = true then false else if isS a 40 = true then false else if isS b 59 = true then false else if isS b 44 = true then false else if isS b 41 = true then false else if isS b 40 = true then decide (kwI a < 11) else true
set_option maxHeartbeats 1000000 in
theorem spec_l12Blank {a b : ByteArray} {w : World} : Calls Tryd.prog 52 #[.string a, .string b] w fun e w' => e = .returned (.bool (blkB a b)) ∧ Below w.heap.size w w' := by
  cases h0 : (a.toList == [59])
  · have e0 : isS a 59 = false := h0
    cases h1 : (a.toList == [40])
    · have e1 : isS a 40 = false := h1
      cases h2 : (b.toList == [59])
      · have e2 : isS b 59 = false := h2
        cases h3 : (b.toList == [44])
        · have e3 : isS b 44 = false := h3
          cases h4 : (b.toList == [41])
          · have e4 : isS b 41 = false := h4
            cases h5 : (b.toList == [40])
            · have e5 : isS b 40 = false := h5
              have H := Lib.hid (show blkB a b = true by simp [blkB, e0, e1, e2, e3, e4, e5])
              clear e0 e1 e2 e3 e4 e5
              go_enter Tryd.func52, Tryd.ntmps52
              go_wp2
              go_ret
              exact ⟨by rw [H.out]; rfl, by first | exact Below.refl _ _ | exact bel⟩
            · have e5 : isS b 40 = true := h5
              have H := Lib.hid (show blkB a b = decide (kwI a < 11) by simp [blkB, e0, e1, e2, e3, e4, e5])
              clear e0 e1 e2 e3 e4 e5
              have K := Lib.hid (fun (wx : World) => spec_l12Keyword (s := a) (w := wx))
              go_enter Tryd.func52, Tryd.ntmps52
              go_wp2_with fail
              refine Calls.mono (K.out _) ?_
              rintro e w1 ⟨rfl, hb1⟩
              go_wp2
              go_ret
              exact ⟨by rw [H.out]; rfl, by first | exact hb1 | exact bel⟩
          · have e4 : isS b 41 = true := h4
            have H := Lib.hid (show blkB a b = false by simp [blkB, e0, e1, e2, e3, e4])
            clear e0 e1 e2 e3 e4
            go_enter Tryd.func52, Tryd.ntmps52
            go_wp2
            go_ret
            exact ⟨by rw [H.out]; rfl, by first | exact Below.refl _ _ | exact bel⟩
        · have e3 : isS b 44 = true := h3
          have H := Lib.hid (show blkB a b = false by simp [blkB, e0, e1, e2, e3])
          clear e0 e1 e2 e3
          go_enter Tryd.func52, Tryd.ntmps52
          go_wp2
          go_ret
          exact ⟨by rw [H.out]; rfl, by first | exact Below.refl _ _ | exact bel⟩
      · have e2 : isS b 59 = true := h2
        have H := Lib.hid (show blkB a b = false by simp [blkB, e0, e1, e2])
        clear e0 e1 e2
        go_enter Tryd.func52, Tryd.ntmps52
        go_wp2
        go_ret
        exact ⟨by rw [H.out]; rfl, by first | exact Below.refl _ _ | exact bel⟩
    · have e1 : isS a 40 = true := h1
      have H := Lib.hid (show blkB a b = false by simp [blkB, e0, e1])
      clear e0 e1
      go_enter Tryd.func52, Tryd.ntmps52
      go_wp2
      go_ret
      exact ⟨by rw [H.out]; rfl, by first | exact Below.refl _ _ | exact bel⟩
  · have e0 : isS a 59 = true := h0
    have H := Lib.hid (show blkB a b = false by simp [blkB, e0])
    clear e0
    go_enter Tryd.func52, Tryd.ntmps52
    go_wp2
    go_ret
    exact ⟨by rw [H.out]; rfl, by first | exact Below.refl _ _ | exact bel⟩
theorem below_allocs2 (w : World) (o o' : Obj) : Below w.heap.size w ((w.alloc o).alloc o') := below_alloc1 (below_alloc1 (Below.refl _ _) _) _
set_option maxHeartbeats 1000000 in
theorem impl_isTight {j k : Int} {a b : ByteArray} {w : World} (hT : Tab w 0 (strsCells kwNm)) : Calls Tryd.prog 48 #[.agg #[.int .i64 j, .string a], .agg #[.int .i64 k, .string b]] w fun e w' => e = .returned (.bool (!blkB a b)) ∧ Below w.heap.size w w' := by
  cases h0 : (a.toList == [59])
  · have e0 : isS a 59 = false := h0
    cases h1 : (a.toList == [40])
    · have e1 : isS a 40 = false := h1
      cases h2 : (b.toList == [59])
      · have e2 : isS b 59 = false := h2
        cases h3 : (b.toList == [44])
        · have e3 : isS b 44 = false := h3
          cases h4 : (b.toList == [41])
          · have e4 : isS b 41 = false := h4
            cases h5 : (b.toList == [40])
            · have e5 : isS b 40 = false := h5
              have H := Lib.hid (show blkB a b = true by simp [blkB, e0, e1, e2, e3, e4, e5])
              clear hT e0 e1 e2 e3 e4 e5
              go_enter Tryd.func48, Tryd.ntmps48
              go_wp2
              go_ret
              exact ⟨by rw [H.out]; rfl, below_allocs2 _ _ _⟩
            · have e5 : isS b 40 = true := h5
              have H := Lib.hid (show blkB a b = decide (kwI a < 11) by simp [blkB, e0, e1, e2, e3, e4, e5])
              clear e0 e1 e2 e3 e4 e5
              have K := Lib.hid (fun (wx : World) (hb : Below w.heap.size w wx) => impl_isBlockWord (s := a) (hT.keep hb))
              clear hT
              go_enter Tryd.func48, Tryd.ntmps48
              go_wp2_with fail
              refine Calls.mono (K.out _ (below_allocs2 _ _ _)) ?_
              rintro e w1 ⟨rfl, rfl⟩
              go_wp2
              go_ret
              exact ⟨by rw [H.out, show decide (11 ≤ kwI a) = !decide (kwI a < 11) by rw [← decide_not]; congr 1; exact propext ⟨fun h => by omega, fun h => by omega⟩]; rfl, below_allocs2 _ _ _⟩
          · have e4 : isS b 41 = true := h4
            have H := Lib.hid (show blkB a b = false by simp [blkB, e0, e1, e2, e3, e4])
            clear hT e0 e1 e2 e3 e4
            go_enter Tryd.func48, Tryd.ntmps48
            go_wp2
            go_ret
            exact ⟨by rw [H.out]; rfl, below_allocs2 _ _ _⟩
        · have e3 : isS b 44 = true := h3
          have H := Lib.hid (show blkB a b = false by simp [blkB, e0, e1, e2, e3])
          clear hT e0 e1 e2 e3
          go_enter Tryd.func48, Tryd.ntmps48
          go_wp2
          go_ret
          exact ⟨by rw [H.out]; rfl, below_allocs2 _ _ _⟩
      · have e2 : isS b 59 = true := h2
        have H := Lib.hid (show blkB a b = false by simp [blkB, e0, e1, e2])
        clear hT e0 e1 e2
        go_enter Tryd.func48, Tryd.ntmps48
        go_wp2
        go_ret
        exact ⟨by rw [H.out]; rfl, below_allocs2 _ _ _⟩
    · have e1 : isS a 40 = true := h1
      have H := Lib.hid (show blkB a b = false by simp [blkB, e0, e1])
      clear hT e0 e1
      go_enter Tryd.func48, Tryd.ntmps48
      go_wp2
      go_ret
      exact ⟨by rw [H.out]; rfl, below_allocs2 _ _ _⟩
  · have e0 : isS a 59 = true := h0
    have H := Lib.hid (show blkB a b = false by simp [blkB, e0])
    clear hT e0
    go_enter Tryd.func48, Tryd.ntmps48
    go_wp2
    go_ret
    exact ⟨by rw [H.out]; rfl, below_allocs2 _ _ _⟩
end Go.Proofs.YtjneodmohkpckaaDoor
