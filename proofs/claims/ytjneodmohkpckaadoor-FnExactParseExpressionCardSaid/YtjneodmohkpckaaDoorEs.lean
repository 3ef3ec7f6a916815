/- The law FnExactParseExpression, walked. -/
import Derived.Test.YtjneodmohkpckaaDoorEr
namespace Go.Proofs.YtjneodmohkpckaaDoor
open Go.RowKit
set_option linter.unusedVariables false
set_option linter.unusedSimpArgs false
theorem peL_len {s : ByteArray} : (peL s).length ≤ 800 := by
  rw [peL]
  split
  · simp
  · split
    · split
      · simp
      · omega
    · simp
set_option maxHeartbeats 4000000 in
theorem law_ParseExpression {s : ByteArray} {w : World} (hT : Tab w 0 (strsCells kwNm)) (hL : LV w) (hz : s.size ≤ maxLen) : Calls Tryd.prog 4 #[.string s] w fun e w' => e = .returned (.bool true) ∧ Below w.heap.size w w' := by
  have hz' : (s.size : Int) ≤ 9223372036854775807 := by unfold maxLen at hz; omega
  by_cases h : 1048576 < s.size
  · have h' : 1048576 < (s.size : Int) := by omega
    clear hL
    go_enter Tryd.func4, Tryd.ntmps4
    go_wp2
    go_ret
    exact ⟨rfl, Below.refl _ _⟩
  · have h' : ¬ 1048576 < (s.size : Int) := by omega
    have K1 := Lib.hid (spec_ParseExpression (s := s) (w := w) (by omega))
    have K2 := Lib.hid (fun (wx : World) (hb : Below w.heap.size w wx) => impl_ParseExpression (s := s) (hL.keep hb) (hT.keep hb) (by omega))
    have hlen : (peL s).length ≤ 800 := peL_len
    have HOK := Lib.hid (peL_ok (s := s))
    generalize peC s = r at *
    generalize peL s = L at *
    have HL := Lib.hid hlen
    have q1 : (r != r) = false := by simp
    clear hL hT hlen
    go_enter Tryd.func4, Tryd.ntmps4
    go_wp2_with fail
    refine Calls.mono K1.out ?_
    rintro e w1 ⟨n0, a0, c0, rfl, hb1, ho0'⟩
    have ho0 := OwnTm.strong ho0' HOK.out
    clear ho0'
    have hn0 : n0 ≤ 800 := by have := ho0.len; have := HL.out; omega
    have O0 := Lib.hid ho0
    have HA0 := Lib.hid (fun g (e : a0 = some ⟨g, 0, none⟩) => (ho0.blk g e).2)
    clear ho0
    go_wp2_with fail
    refine Calls.mono (K2.out _ hb1) ?_
    rintro e w2 ⟨n1, a1, c1, rfl, hb2, ho1'⟩
    have ho1 := OwnTm.strong ho1' HOK.out
    clear ho1'
    have hn1 : n1 ≤ 800 := by have := ho1.len; have := HL.out; omega
    have O1 := Lib.hid ho1
    replace O0 := Lib.hid (O0.out.keep hb2)
    have B2 := below_callS hb1 hb2
    have hs1 := hb1.size
    have hs2 := hb2.size
    clear ho1 hb1 hb2
    go_wp2_with fail
    refine Calls.mono (laws_eqTermS O1.out.flats O0.out.flats (by omega)) ?_
    rintro e w3 ⟨rfl, hb3⟩
    have hs3 := hb3.size
    replace O0 := Lib.hid (O0.out.keep hb3)
    replace O1 := Lib.hid (O1.out.keep hb3)
    have B3 := below_callS B2 hb3
    clear hb3 B2
    go_wp2_with fail
    refine Calls.mono (laws_markTermS O1.out (by omega) (by omega) (by omega)) ?_
    rintro e w4 ⟨rfl, ht, hm⟩
    have hs4 := ht.size
    replace O0 := Lib.hid (O0.out.keepT ht (fun g e0 e1 => by have h1 := HA0.out g e0; have h2 := (O1.out.blk g e1).1; omega))
    have B4 : Below w.heap.size w w4 := ht.below B3 (by omega) (fun b e1 => by have h2 := (O1.out.blk b e1).1; omega)
    replace O1 := Lib.hid hm
    clear ht hm B3
    have g1 : ¬ (1 : Int) + 3 * n1 < 0 := by omega
    have g2 : ((1 : Int) + 3 * n1 != 1 + 3 * n1) = false := by simp
    go_wp2_with fail
    refine Calls.mono (laws_heldTermS O1.out.flats (by omega) (by omega) (by omega)) ?_
    rintro e w5 ⟨rfl, hb5⟩
    have hs5 := hb5.size
    replace O0 := Lib.hid (O0.out.keep hb5)
    replace O1 := Lib.hid (O1.out.keep hb5)
    have B5 := below_callS B4 hb5
    clear hb5 B4
    go_wp2_with fail
    refine Calls.mono (K2.out _ B5) ?_
    rintro e w6 ⟨n2, a2, c2, rfl, hb6, ho2'⟩
    have ho2 := OwnTm.strong ho2' HOK.out
    clear ho2'
    have hn2 : n2 ≤ 800 := by have := ho2.len; have := HL.out; omega
    have O2 := Lib.hid ho2
    have hs6 := hb6.size
    replace O0 := Lib.hid (O0.out.keep hb6)
    replace O1 := Lib.hid (O1.out.keep hb6)
    have B6 := below_callS B5 hb6
    clear ho2 hb6 B5
    go_wp2_with fail
    refine Calls.mono (laws_eqTermS O2.out.flats O0.out.flats (by omega)) ?_
    rintro e w7 ⟨rfl, hb7⟩
    have hs7 := hb7.size
    replace O1 := Lib.hid (O1.out.keep hb7)
    have B7 := below_callS B6 hb7
    clear hb7 B6
    go_wp2_with fail
    refine Calls.mono (laws_heldTermS O1.out.flats (by omega) (by omega) (by omega)) ?_
    rintro e w8 ⟨rfl, hb8⟩
    have B8 := below_callS B7 hb8
    clear hb8 B7
    go_wp2
    go_ret
    exact ⟨rfl, B8⟩
end Go.Proofs.YtjneodmohkpckaaDoor
