/- The shortest replay of a ride model, walked. -/
import Derived.Test.YtccnpeggnhbpjaaGreatDoorSr
import Derived.Test.YtccnpeggnhbpjaaGreatDoorQq
import Derived.Test.YtccnpeggnhbpjaaGreatDoorL25e
namespace Go.Proofs.YtccnpeggnhbpjaaGreatDoor
open Go.RowKit
set_option linter.unusedVariables false
set_option linter.unusedSimpArgs false
def srL (b : Int) (l : List Int) (bud : Int) (sec : Bool) : List I3 := if fuC b l bud sec = 0 then evL b l bud sec (fuL b l bud sec) else []
def srC (b : Int) (l : List Int) (bud : Int) (sec : Bool) : Int := if fuC b l bud sec = 0 then evC b l bud sec (fuL b l bud sec) else fuC b l bud sec
theorem srL_len {b : Int} {l : List Int} {bud : Int} {sec : Bool} : (srL b l bud sec).length ≤ 4000 := by
  rw [srL]; split
  · exact Nat.le_trans evL_len fu_len
  · simp
set_option maxHeartbeats 1000000 in
theorem impl_ShortestReplay {b bud : Int} {a : Option Addr} {n c : Nat} {l : List Int} {sec : Bool} {w : World} (hT : Tab w 1 (strsCells ruleNm)) (hI : Ints w a n c l) (hn : n ≤ 1048576) :
    Calls Tryz.prog 42 #[.agg #[.int .i64 b, .slice a n c], .int .i64 bud, .bool sec] w (EvRet 82 w (srL b l bud sec) (srC b l bud sec)) := by
  have hbA : Below w.heap.size w (w.alloc (.cells #[.int .i64 b, .slice a n c] 28)) := by repeat (first | exact Below.refl _ _ | assumption | refine below_allocS ?_ _ | refine below_callS ?_ (by assumption) | (refine Below.alloc ?_ (by first | omega | (simp; done) | (simp; omega)) _) | (refine Below.setCell ?_ (by first | omega | (simp; done) | (simp; omega)) _) | refine Below.drew ?_ | refine below_drewN ?_ _ | (refine below_call ?_ (by assumption) (by first | omega | (simp; done) | (simp; omega))) | (refine Below.trans ?_ (by assumption)))
  have X := Lib.hid (Blk.made w #[.int .i64 b, .slice a n c] 28)
  have K1 := Lib.hid (impl_FirstUnsafeTrace (b := b) (bud := bud) (sec := sec) (hT.keep hbA) (hI.keep hbA) hn)
  have K2 := Lib.hid (fun (wx : World) (a1 : Option Addr) (n1 c1 : Nat) (tr : List Int) (hb : Below w.heap.size w wx) (h : Ints wx a1 n1 c1 tr) (hm : n1 ≤ 1048576) => impl_EventsOfTrace (b := b) (bud := bud) (sec := sec) (hT.keep hb) (hI.keep hb) h hn hm)
  clear hT hI
  by_cases h0 : fuC b l bud sec = 0
  · have HE := Lib.hid (show srL b l bud sec = evL b l bud sec (fuL b l bud sec) ∧ srC b l bud sec = evC b l bud sec (fuL b l bud sec) by rw [srL, srC, if_pos h0, if_pos h0]; exact ⟨rfl, rfl⟩)
    rw [h0] at K1
    clear h0
    go_enter Tryz.func42, Tryz.ntmps42
    go_wp2_with fail
    refine Calls.mono K1.out ?_
    rintro e w1 ⟨n1, a1, c1, rfl, hb1, ho1⟩
    have X1 := Lib.hid (X.out.keep hb1)
    have hbl : Below w.heap.size w w1 := by repeat (first | exact Below.refl _ _ | assumption | refine below_allocS ?_ _ | refine below_callS ?_ (by assumption) | (refine Below.alloc ?_ (by first | omega | (simp; done) | (simp; omega)) _) | (refine Below.setCell ?_ (by first | omega | (simp; done) | (simp; omega)) _) | refine Below.drew ?_ | refine below_drewN ?_ _ | (refine below_call ?_ (by assumption) (by first | omega | (simp; done) | (simp; omega))) | (refine Below.trans ?_ (by assumption)))
    have O := Lib.hid ho1
    have hn1 : n1 ≤ 4000 := by rw [← ho1.len]; exact fu_len
    have x0 := X1.out.cell 0
    have x1 := X1.out.cell 1
    have xl := X1.out.lt
    simp at x0 x1
    clear ho1 hb1 hbA X K1
    go_wp2_with fail
    refine Calls.mono (K2.out _ _ _ _ _ hbl O.out.ints (by omega)) ?_
    rintro e w2 ⟨n2, a2, c2, rfl, hb2, ho2⟩
    have O2 := Lib.hid ho2
    have hbl2 : Below w.heap.size w w2 := below_call hbl hb2 hbl.size
    have hs1 := hbl.size
    clear ho2 hb2 hbl x0 x1 xl
    go_wp2
    go_ret2
    exact ⟨_, _, _, by rw [HE.out.2]; rfl, hbl2, by rw [HE.out.1]; exact O2.out.le hs1⟩
  · have HE := Lib.hid (show srL b l bud sec = [] ∧ srC b l bud sec = fuC b l bud sec by rw [srL, srC, if_neg h0, if_neg h0]; exact ⟨rfl, rfl⟩)
    have hc0 : (fuC b l bud sec != 0) = true := by simpa using h0
    go_enter Tryz.func42, Tryz.ntmps42
    go_wp2_with fail
    refine Calls.mono K1.out ?_
    rintro e w1 ⟨n1, a1, c1, rfl, hb1, ho1⟩
    have hbl : Below w.heap.size w w1 := by repeat (first | exact Below.refl _ _ | assumption | refine below_allocS ?_ _ | refine below_callS ?_ (by assumption) | (refine Below.alloc ?_ (by first | omega | (simp; done) | (simp; omega)) _) | (refine Below.setCell ?_ (by first | omega | (simp; done) | (simp; omega)) _) | refine Below.drew ?_ | refine below_drewN ?_ _ | (refine below_call ?_ (by assumption) (by first | omega | (simp; done) | (simp; omega))) | (refine Below.trans ?_ (by assumption)))
    clear ho1
    go_wp2
    go_ret2
    exact ⟨0, none, 0, by rw [HE.out.2]; rfl, hbl, by rw [HE.out.1]; exact OwnF.nilE _ _ (fun _ => rfl)⟩
set_option maxHeartbeats 1000000 in
theorem spec_ShortestReplay {b bud : Int} {a : Option Addr} {n c : Nat} {l : List Int} {sec : Bool} {w : World} (hI : Ints w a n c l) (hn : n ≤ 1048576) :
    Calls Tryz.prog 41 #[.agg #[.int .i64 b, .slice a n c], .int .i64 bud, .bool sec] w (EvRet 82 w (srL b l bud sec) (srC b l bud sec)) := by
  have hbA : Below w.heap.size w (w.alloc (.cells #[.int .i64 b, .slice a n c] 28)) := by repeat (first | exact Below.refl _ _ | assumption | refine below_allocS ?_ _ | refine below_callS ?_ (by assumption) | (refine Below.alloc ?_ (by first | omega | (simp; done) | (simp; omega)) _) | (refine Below.setCell ?_ (by first | omega | (simp; done) | (simp; omega)) _) | refine Below.drew ?_ | refine below_drewN ?_ _ | (refine below_call ?_ (by assumption) (by first | omega | (simp; done) | (simp; omega))) | (refine Below.trans ?_ (by assumption)))
  have X := Lib.hid (Blk.made w #[.int .i64 b, .slice a n c] 28)
  have K1 := Lib.hid (spec_FirstUnsafeTrace (b := b) (bud := bud) (sec := sec) (hI.keep hbA) hn)
  have K2 := Lib.hid (fun (wx : World) (a1 : Option Addr) (n1 c1 : Nat) (tr : List Int) (hb : Below w.heap.size w wx) (h : Ints wx a1 n1 c1 tr) (hm : n1 ≤ 1048576) => spec_EventsOfTrace (b := b) (bud := bud) (sec := sec) (hI.keep hb) h hn hm)
  clear hI
  by_cases h0 : fuC b l bud sec = 0
  · have HE := Lib.hid (show srL b l bud sec = evL b l bud sec (fuL b l bud sec) ∧ srC b l bud sec = evC b l bud sec (fuL b l bud sec) by rw [srL, srC, if_pos h0, if_pos h0]; exact ⟨rfl, rfl⟩)
    rw [h0] at K1
    clear h0
    go_enter Tryz.func41, Tryz.ntmps41
    go_wp2_with fail
    refine Calls.mono K1.out ?_
    rintro e w1 ⟨n1, a1, c1, rfl, hb1, ho1⟩
    have X1 := Lib.hid (X.out.keep hb1)
    have hbl : Below w.heap.size w w1 := by repeat (first | exact Below.refl _ _ | assumption | refine below_allocS ?_ _ | refine below_callS ?_ (by assumption) | (refine Below.alloc ?_ (by first | omega | (simp; done) | (simp; omega)) _) | (refine Below.setCell ?_ (by first | omega | (simp; done) | (simp; omega)) _) | refine Below.drew ?_ | refine below_drewN ?_ _ | (refine below_call ?_ (by assumption) (by first | omega | (simp; done) | (simp; omega))) | (refine Below.trans ?_ (by assumption)))
    have O := Lib.hid ho1
    have hn1 : n1 ≤ 4000 := by rw [← ho1.len]; exact fu_len
    have x0 := X1.out.cell 0
    have x1 := X1.out.cell 1
    have xl := X1.out.lt
    simp at x0 x1
    clear ho1 hb1 hbA X K1
    go_wp2_with fail
    refine Calls.mono (K2.out _ _ _ _ _ hbl O.out.ints (by omega)) ?_
    rintro e w2 ⟨n2, a2, c2, rfl, hb2, ho2⟩
    have O2 := Lib.hid ho2
    have hbl2 : Below w.heap.size w w2 := below_call hbl hb2 hbl.size
    have hs1 := hbl.size
    clear ho2 hb2 hbl x0 x1 xl
    go_wp2
    go_ret2
    exact ⟨_, _, _, by rw [HE.out.2]; rfl, hbl2, by rw [HE.out.1]; exact O2.out.le hs1⟩
  · have HE := Lib.hid (show srL b l bud sec = [] ∧ srC b l bud sec = fuC b l bud sec by rw [srL, srC, if_neg h0, if_neg h0]; exact ⟨rfl, rfl⟩)
    have hc0 : (fuC b l bud sec != 0) = true := by simpa using h0
    go_enter Tryz.func41, Tryz.ntmps41
    go_wp2_with fail
    refine Calls.mono K1.out ?_
    rintro e w1 ⟨n1, a1, c1, rfl, hb1, ho1⟩
    have hbl : Below w.heap.size w w1 := by repeat (first | exact Below.refl _ _ | assumption | refine below_allocS ?_ _ | refine below_callS ?_ (by assumption) | (refine Below.alloc ?_ (by first | omega | (simp; done) | (simp; omega)) _) | (refine Below.setCell ?_ (by first | omega | (simp; done) | (simp; omega)) _) | refine Below.drew ?_ | refine below_drewN ?_ _ | (refine below_call ?_ (by assumption) (by first | omega | (simp; done) | (simp; omega))) | (refine Below.trans ?_ (by assumption)))
    clear ho1
    go_wp2
    go_ret2
    exact ⟨0, none, 0, by rw [HE.out.2]; rfl, hbl, by rw [HE.out.1]; exact OwnF.nilE _ _ (fun _ => rfl)⟩
end Go.Proofs.YtccnpeggnhbpjaaGreatDoor
