/- Draws of layer 26, walked: from the code. -/
import Derived.Test.YtoaccicfmfiemaaD26b
namespace Go.Proofs.Ytoaccicfmfiemaa
open Go.RowKit
set_option linter.unusedVariables false
set_option linter.unusedSimpArgs false
def LockDraw (w : World) (e : Ending) (w' : World) : Prop := ∃ a n c l a2 n2 c2 l2, e = .returned (.tuple #[.slice a n c, .slice a2 n2 c2]) ∧ Ints w' a n c l ∧ n ≤ 13 ∧ F3 w' a2 n2 c2 l2 ∧ n2 ≤ 15 ∧ Below w.heap.size w w'
set_option maxHeartbeats 1000000 in
theorem spec_DrawLockReport {a : Option Addr} {n c : Nat} {w : World} (hB : Byts w a n c) (hn : n ≤ 4096) :
    Calls Try.prog 79 #[.slice a n c] w (LockDraw w) := by
  have HB := Lib.hid hB
  clear hB
  go_enter Try.func79, Try.ntmps79
  go_wp2_with fail
  refine Calls.mono (dw_l01From HB.out (Below.refl _ _) hn) ?_
  rintro e w1 ⟨b, rfl, hb1, hlo, hd⟩
  have hbw := hd.lt
  have HD := Lib.hid hd
  clear hd
  go_wp2_with fail
  refine Calls.mono (spec_l26Draw HD.out) ?_
  rintro e w2 ⟨a1, n1, c1, l1, rfl, ho, hn1, hd⟩
  have O := Lib.hid ho
  have hs2 := hd.size
  replace HD := Lib.hid (HD.out.trans hd)
  clear ho hd
  go_wp2_with fail
  refine Calls.mono (spec_l26DrawFaults (m := n1) HD.out (by omega)) ?_
  rintro e w3 ⟨a2, n2, c2, l2, rfl, ho2, hn2, hd⟩
  replace O := Lib.hid (O.out.dw hd hbw)
  replace HD := Lib.hid (HD.out.trans hd)
  have O2 := Lib.hid ho2
  clear hd ho2
  go_wp2
  go_ret2
  exact ⟨a1, n1, c1, l1, a2, n2, c2, l2, rfl, O.out.ints, hn1, O2.out.flats, hn2, HD.out.fin hb1 hlo⟩
set_option maxHeartbeats 1000000 in
theorem spec_DrawIsReady {a : Option Addr} {n c : Nat} {w : World} (hB : Byts w a n c) (hn : n ≤ 4096) :
    Calls Try.prog 18 #[.slice a n c] w (LockDraw w) := by
  have HB := Lib.hid hB
  clear hB
  go_enter Try.func18, Try.ntmps18
  go_wp2_with fail
  refine Calls.mono (spec_DrawLockReport HB.out hn) ?_
  rintro e w1 ⟨a1, n1, c1, l1, a2, n2, c2, l2, rfl, h1, h2, h3, h4, h5⟩
  have H1 := Lib.hid h1
  have H3 := Lib.hid h3
  have H5 := Lib.hid h5
  clear h1 h3 h5
  go_wp2
  go_ret2
  exact ⟨a1, n1, c1, l1, a2, n2, c2, l2, rfl, H1.out, h2, H3.out, h4, H5.out⟩
end Go.Proofs.Ytoaccicfmfiemaa
