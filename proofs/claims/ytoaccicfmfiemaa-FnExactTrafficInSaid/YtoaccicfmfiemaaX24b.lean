/- The law on the traffic in a ride state. -/
import Derived.Test.YtoaccicfmfiemaaL24b
import Derived.Test.YtoaccicfmfiemaaL10b
namespace Go.Proofs.Ytoaccicfmfiemaa
open Go.RowKit
set_option linter.unusedVariables false
set_option linter.unusedSimpArgs false
theorem trL_len {b : Int} {l st : List Int} : (trL b l st).length ≤ st.length := by
  unfold trL; split
  · simp; omega
  · simp
set_option maxHeartbeats 4000000 in
theorem law_TrafficIn {b : Int} {a s : Option Addr} {n c m d : Nat} {l st : List Int} {w : World} (_ : I64 b) (hI : Ints w a n c l) (hnm : n ≤ maxLen) (hS : Ints w s m d st) (_ : m ≤ maxLen) :
    Calls Try.prog 7 #[.agg #[.int .i64 b, .slice a n c], .slice s m d] w fun e w' => e = .returned (.bool true) ∧ Below w.heap.size w w' := by
  have HI := Lib.hid hI
  have HS := Lib.hid hS
  have hn9 : (n : Int) ≤ 9223372036854775807 := by unfold maxLen at hnm; omega
  have hlen := trL_len (b := b) (l := l) (st := st)
  rw [hS.len] at hlen
  clear hI hnm hS
  by_cases hm : m ≤ 1048576
  · by_cases hn : n ≤ 1048576
    · have h3 := fun (wx : World) (a1 a2 : Option Addr) (hX : Ints wx a1 n n l) (hY : Ints wx a2 m m st) => spec_TrafficIn (b := b) hX hY hn hm
      have h4 := fun (wx : World) (a1 a2 : Option Addr) (hX : Ints wx a1 n n l) (hY : Ints wx a2 m m st) => impl_TrafficIn (b := b) hX hY hn hm
      generalize trB b l st = B at *
      generalize trL b l st = L at *
      generalize rideCode b l st = code at *
      have H3 := Lib.hid h3
      have H4 := Lib.hid h4
      have hcc : (code != code) = false := by simp
      have K0 := Lib.hid (Blk.made w #[.int .i64 b, .slice a n c] 61)
      clear h3 h4
      go_enter Try.func7, Try.ntmps7
      go_wp2_with fail
      refine Calls.mono (laws_szTraffic hn9 (by omega) (by omega)) ?_
      rintro e w1 ⟨rfl, hb_w1⟩
      obtain ⟨hc_w1, hf_w1⟩ := bcell hb_w1
      have hs_w1 := hb_w1.size
      simp at hs_w1
      have hz1 : w.heap.size < w1.heap.size := by omega
      go_wp2_with fail
      refine Calls.mono (laws_toTraffic (HI.out.keep (by repeat (first | exact Below.refl _ _ | assumption | refine below_allocS ?_ _ | refine below_callS ?_ (by assumption) | (refine Below.alloc ?_ (by first | omega | (simp; done) | (simp; omega)) _) | (refine Below.setCell ?_ (by first | omega | (simp; done) | (simp; omega)) _) | refine Below.drew ?_ | refine below_drewN ?_ _ | (refine below_call ?_ (by assumption) (by first | omega | (simp; done) | (simp; omega))) | (refine Below.trans ?_ (by assumption))))) hn) ?_
      rintro e w2 ⟨g2, rfl, hb_w2, ho2⟩
      obtain ⟨hc_w2, hf_w2⟩ := bcell hb_w2
      have hs_w2 := hb_w2.size
      have HO2 := Lib.hid ho2
      clear ho2
      have hz2 : w.heap.size < w2.heap.size := by omega
      go_wp2_with fail
      refine Calls.mono (laws_toInt64S (HS.out.keep (by repeat (first | exact Below.refl _ _ | assumption | refine below_allocS ?_ _ | refine below_callS ?_ (by assumption) | (refine Below.alloc ?_ (by first | omega | (simp; done) | (simp; omega)) _) | (refine Below.setCell ?_ (by first | omega | (simp; done) | (simp; omega)) _) | refine Below.drew ?_ | refine below_drewN ?_ _ | (refine below_call ?_ (by assumption) (by first | omega | (simp; done) | (simp; omega))) | (refine Below.trans ?_ (by assumption))))) hm) ?_
      rintro e w3 ⟨rfl, hb_w3, HO3⟩
      obtain ⟨hc_w3, hf_w3⟩ := bcell hb_w3
      have hs_w3 := hb_w3.size
      have HO3 := Lib.hid HO3
      have hz3 : w.heap.size < w3.heap.size := by omega
      go_wp2_with fail
      refine Calls.mono (H3.out _ _ _ (HO2.out.ints.keep (by repeat (first | exact Below.refl _ _ | assumption | refine below_allocS ?_ _ | refine below_callS ?_ (by assumption) | (refine Below.alloc ?_ (by first | omega | (simp; done) | (simp; omega)) _) | (refine Below.setCell ?_ (by first | omega | (simp; done) | (simp; omega)) _) | refine Below.drew ?_ | refine below_drewN ?_ _ | (refine below_call ?_ (by assumption) (by first | omega | (simp; done) | (simp; omega))) | (refine Below.trans ?_ (by assumption))))) HO3.out.ints) ?_
      rintro e w4 ⟨n4, a4, c4, rfl, hb_w4, ho4⟩
      obtain ⟨hc_w4, hf_w4⟩ := bcell hb_w4
      have hs_w4 := hb_w4.size
      have HO4 := Lib.hid ho4
      clear ho4
      have hz4 : w.heap.size < w4.heap.size := by omega
      have K4 := Lib.hid ((K0.out.keep hb_w1).keep (show Below w1.heap.size w1 w4 by repeat (first | exact Below.refl _ _ | assumption | refine below_allocS ?_ _ | refine below_callS ?_ (by assumption) | (refine Below.alloc ?_ (by first | omega | (simp; done) | (simp; omega)) _) | (refine Below.setCell ?_ (by first | omega | (simp; done) | (simp; omega)) _) | refine Below.drew ?_ | refine below_drewN ?_ _ | (refine below_call ?_ (by assumption) (by first | omega | (simp; done) | (simp; omega))) | (refine Below.trans ?_ (by assumption)))))
      have hB4 : Below w.heap.size w w4 := by repeat (first | exact Below.refl _ _ | assumption | refine below_allocS ?_ _ | refine below_callS ?_ (by assumption) | (refine Below.alloc ?_ (by first | omega | (simp; done) | (simp; omega)) _) | (refine Below.setCell ?_ (by first | omega | (simp; done) | (simp; omega)) _) | refine Below.drew ?_ | refine below_drewN ?_ _ | (refine below_call ?_ (by assumption) (by first | omega | (simp; done) | (simp; omega))) | (refine Below.trans ?_ (by assumption)))
      go_wp2_with fail
      refine Calls.mono (laws_toTraffic (HI.out.keep (by repeat (first | exact Below.refl _ _ | assumption | refine below_allocS ?_ _ | refine below_callS ?_ (by assumption) | (refine Below.alloc ?_ (by first | omega | (simp; done) | (simp; omega)) _) | (refine Below.setCell ?_ (by first | omega | (simp; done) | (simp; omega)) _) | refine Below.drew ?_ | refine below_drewN ?_ _ | (refine below_call ?_ (by assumption) (by first | omega | (simp; done) | (simp; omega))) | (refine Below.trans ?_ (by assumption))))) hn) ?_
      rintro e w5 ⟨g5, rfl, hb_w5, ho5⟩
      obtain ⟨hc_w5, hf_w5⟩ := bcell hb_w5
      have hs_w5 := hb_w5.size
      have HO5 := Lib.hid ho5
      clear ho5
      simp at hs_w5
      have hz5 : w.heap.size < w5.heap.size := by omega
      have Kx := Lib.hid (Blk.made w5 #[.int .i64 b, .slice (some ⟨g5, 0, none⟩) n n] 66)
      have hKa := (K4.out.keep (show Below _ _ (w4.alloc (.cells #[.int .i64 B, .slice a4 n4 c4] 66)) by repeat (first | exact Below.refl _ _ | assumption | refine below_allocS ?_ _ | refine below_callS ?_ (by assumption) | (refine Below.alloc ?_ (by first | omega | (simp; done) | (simp; omega)) _) | (refine Below.setCell ?_ (by first | omega | (simp; done) | (simp; omega)) _) | refine Below.drew ?_ | refine below_drewN ?_ _ | (refine below_call ?_ (by assumption) (by first | omega | (simp; done) | (simp; omega))) | (refine Below.trans ?_ (by assumption))))).keep hb_w5
      have Kw := Lib.hid ((Blk.made w4 #[.int .i64 B, .slice a4 n4 c4] 66).keep hb_w5)
      have Ka := Lib.hid hKa
      clear hKa
      go_wp2_with fail
      refine Calls.mono (laws_toInt64S_g (HS.out.keep (by repeat (first | exact Below.refl _ _ | assumption | refine below_allocS ?_ _ | refine below_callS ?_ (by assumption) | (refine Below.alloc ?_ (by first | omega | (simp; done) | (simp; omega)) _) | (refine Below.setCell ?_ (by first | omega | (simp; done) | (simp; omega)) _) | refine Below.drew ?_ | refine below_drewN ?_ _ | (refine below_call ?_ (by assumption) (by first | omega | (simp; done) | (simp; omega))) | (refine Below.trans ?_ (by assumption))))) hm) ?_
      rintro e w6 ⟨g6, rfl, hb_w6, ho6⟩
      obtain ⟨hc_w6, hf_w6⟩ := bcell hb_w6
      have hs_w6 := hb_w6.size
      have HO6 := Lib.hid ho6
      clear ho6
      simp at hs_w6
      have hz6 : w5.heap.size < w6.heap.size := by omega
      go_wp2_with fail
      refine Calls.mono (H4.out _ _ _ (HO5.out.ints.keep (by repeat (first | exact Below.refl _ _ | assumption | refine below_allocS ?_ _ | refine below_callS ?_ (by assumption) | (refine Below.alloc ?_ (by first | omega | (simp; done) | (simp; omega)) _) | (refine Below.setCell ?_ (by first | omega | (simp; done) | (simp; omega)) _) | refine Below.drew ?_ | refine below_drewN ?_ _ | (refine below_call ?_ (by assumption) (by first | omega | (simp; done) | (simp; omega))) | (refine Below.trans ?_ (by assumption))))) HO6.out.ints) ?_
      rintro e w7 ⟨n7, a7, c7, rfl, hb_w7, ho7⟩
      obtain ⟨hc_w7, hf_w7⟩ := bcell hb_w7
      have hs_w7 := hb_w7.size
      have hn47 : n7 = n4 := by rw [← ho7.len, HO4.out.len]
      subst hn47
      have hres : n7 ≤ 1048576 := by have := ho7.len; omega
      have HO7 := Lib.hid ho7
      clear ho7
      have hb57 : Below (w5.alloc (.cells #[.int .i64 b, .slice (some ⟨g5, 0, none⟩) n n] 66)).heap.size (w5.alloc (.cells #[.int .i64 b, .slice (some ⟨g5, 0, none⟩) n n] 66)) w7 := by repeat (first | exact Below.refl _ _ | assumption | refine below_allocS ?_ _ | refine below_callS ?_ (by assumption) | (refine Below.alloc ?_ (by first | omega | (simp; done) | (simp; omega)) _) | (refine Below.setCell ?_ (by first | omega | (simp; done) | (simp; omega)) _) | refine Below.drew ?_ | refine below_drewN ?_ _ | (refine below_call ?_ (by assumption) (by first | omega | (simp; done) | (simp; omega))) | (refine Below.trans ?_ (by assumption)))
      have Kx7 := Kx.out.keep hb57
      have Ka7 := (Ka.out.keep (show Below w5.heap.size w5 (w5.alloc (.cells #[.int .i64 b, .slice (some ⟨g5, 0, none⟩) n n] 66)) by repeat (first | exact Below.refl _ _ | assumption | refine below_allocS ?_ _ | refine below_callS ?_ (by assumption) | (refine Below.alloc ?_ (by first | omega | (simp; done) | (simp; omega)) _) | (refine Below.setCell ?_ (by first | omega | (simp; done) | (simp; omega)) _) | refine Below.drew ?_ | refine below_drewN ?_ _ | (refine below_call ?_ (by assumption) (by first | omega | (simp; done) | (simp; omega))) | (refine Below.trans ?_ (by assumption))))).keep hb57
      have Kw7 := (Kw.out.keep (show Below w5.heap.size w5 (w5.alloc (.cells #[.int .i64 b, .slice (some ⟨g5, 0, none⟩) n n] 66)) by repeat (first | exact Below.refl _ _ | assumption | refine below_allocS ?_ _ | refine below_callS ?_ (by assumption) | (refine Below.alloc ?_ (by first | omega | (simp; done) | (simp; omega)) _) | (refine Below.setCell ?_ (by first | omega | (simp; done) | (simp; omega)) _) | refine Below.drew ?_ | refine below_drewN ?_ _ | (refine below_call ?_ (by assumption) (by first | omega | (simp; done) | (simp; omega))) | (refine Below.trans ?_ (by assumption))))).keep hb57
      have HO47 := Lib.hid (HO4.out.keep (show Below w4.heap.size w4 w7 by repeat (first | exact Below.refl _ _ | assumption | refine below_allocS ?_ _ | refine below_callS ?_ (by assumption) | (refine Below.alloc ?_ (by first | omega | (simp; done) | (simp; omega)) _) | (refine Below.setCell ?_ (by first | omega | (simp; done) | (simp; omega)) _) | refine Below.drew ?_ | refine below_drewN ?_ _ | (refine below_call ?_ (by assumption) (by first | omega | (simp; done) | (simp; omega))) | (refine Below.trans ?_ (by assumption)))))
      have HO57 := Lib.hid (HO5.out.keep (show Below w5.heap.size w5 w7 by repeat (first | exact Below.refl _ _ | assumption | refine below_allocS ?_ _ | refine below_callS ?_ (by assumption) | (refine Below.alloc ?_ (by first | omega | (simp; done) | (simp; omega)) _) | (refine Below.setCell ?_ (by first | omega | (simp; done) | (simp; omega)) _) | refine Below.drew ?_ | refine below_drewN ?_ _ | (refine below_call ?_ (by assumption) (by first | omega | (simp; done) | (simp; omega))) | (refine Below.trans ?_ (by assumption)))))
      have HO67 := Lib.hid (HO6.out.keep (show Below w6.heap.size w6 w7 by repeat (first | exact Below.refl _ _ | assumption | refine below_allocS ?_ _ | refine below_callS ?_ (by assumption) | (refine Below.alloc ?_ (by first | omega | (simp; done) | (simp; omega)) _) | (refine Below.setCell ?_ (by first | omega | (simp; done) | (simp; omega)) _) | refine Below.drew ?_ | refine below_drewN ?_ _ | (refine below_call ?_ (by assumption) (by first | omega | (simp; done) | (simp; omega))) | (refine Below.trans ?_ (by assumption)))))
      have hB7 : Below w.heap.size w w7 := by repeat (first | exact Below.refl _ _ | assumption | refine below_allocS ?_ _ | refine below_callS ?_ (by assumption) | (refine Below.alloc ?_ (by first | omega | (simp; done) | (simp; omega)) _) | (refine Below.setCell ?_ (by first | omega | (simp; done) | (simp; omega)) _) | refine Below.drew ?_ | refine below_drewN ?_ _ | (refine below_call ?_ (by assumption) (by first | omega | (simp; done) | (simp; omega))) | (refine Below.trans ?_ (by assumption)))
      have M3 := Lib.hid (Blk.made w7 #[.int .i64 B, .slice a7 n7 c7] 66)
      have M0 := Lib.hid (Ka7.keep (show Below w7.heap.size w7 (w7.alloc (.cells #[.int .i64 B, .slice a7 n7 c7] 66)) by repeat (first | exact Below.refl _ _ | assumption | refine below_allocS ?_ _ | refine below_callS ?_ (by assumption) | (refine Below.alloc ?_ (by first | omega | (simp; done) | (simp; omega)) _) | (refine Below.setCell ?_ (by first | omega | (simp; done) | (simp; omega)) _) | refine Below.drew ?_ | refine below_drewN ?_ _ | (refine below_call ?_ (by assumption) (by first | omega | (simp; done) | (simp; omega))) | (refine Below.trans ?_ (by assumption)))))
      have M1 := Lib.hid (Kw7.keep (show Below w7.heap.size w7 (w7.alloc (.cells #[.int .i64 B, .slice a7 n7 c7] 66)) by repeat (first | exact Below.refl _ _ | assumption | refine below_allocS ?_ _ | refine below_callS ?_ (by assumption) | (refine Below.alloc ?_ (by first | omega | (simp; done) | (simp; omega)) _) | (refine Below.setCell ?_ (by first | omega | (simp; done) | (simp; omega)) _) | refine Below.drew ?_ | refine below_drewN ?_ _ | (refine below_call ?_ (by assumption) (by first | omega | (simp; done) | (simp; omega))) | (refine Below.trans ?_ (by assumption)))))
      have M2 := Lib.hid (Kx7.keep (show Below w7.heap.size w7 (w7.alloc (.cells #[.int .i64 B, .slice a7 n7 c7] 66)) by repeat (first | exact Below.refl _ _ | assumption | refine below_allocS ?_ _ | refine below_callS ?_ (by assumption) | (refine Below.alloc ?_ (by first | omega | (simp; done) | (simp; omega)) _) | (refine Below.setCell ?_ (by first | omega | (simp; done) | (simp; omega)) _) | refine Below.drew ?_ | refine below_drewN ?_ _ | (refine below_call ?_ (by assumption) (by first | omega | (simp; done) | (simp; omega))) | (refine Below.trans ?_ (by assumption)))))
      have N1 : Below w7.heap.size w7 (w7.alloc (.cells #[.int .i64 B, .slice a7 n7 c7] 66)) := by repeat (first | exact Below.refl _ _ | assumption | refine below_allocS ?_ _ | refine below_callS ?_ (by assumption) | (refine Below.alloc ?_ (by first | omega | (simp; done) | (simp; omega)) _) | (refine Below.setCell ?_ (by first | omega | (simp; done) | (simp; omega)) _) | refine Below.drew ?_ | refine below_drewN ?_ _ | (refine below_call ?_ (by assumption) (by first | omega | (simp; done) | (simp; omega))) | (refine Below.trans ?_ (by assumption)))
      have N2 : Below w.heap.size w (w7.alloc (.cells #[.int .i64 B, .slice a7 n7 c7] 66)) := by repeat (first | exact Below.refl _ _ | assumption | refine below_allocS ?_ _ | refine below_callS ?_ (by assumption) | (refine Below.alloc ?_ (by first | omega | (simp; done) | (simp; omega)) _) | (refine Below.setCell ?_ (by first | omega | (simp; done) | (simp; omega)) _) | refine Below.drew ?_ | refine below_drewN ?_ _ | (refine below_call ?_ (by assumption) (by first | omega | (simp; done) | (simp; omega))) | (refine Below.trans ?_ (by assumption)))
      clear hc_w1 hf_w1 hc_w2 hf_w2 hc_w3 hf_w3 hc_w4 hf_w4 hc_w5 hf_w5 hc_w6 hf_w6 hc_w7 hf_w7 hb_w1 hb_w2 hb_w3 hb_w4 hb_w5 hb_w6 hb_w7 hb57 Kx7 Ka7 Kw7 hB7 hB4 K4 Ka Kw Kx K0
      have q0 := M0.out
      have q1 := M1.out
      have q2 := M2.out
      have q3 := M3.out
      have u0a := q0.cell 0
      have u0b := q0.cell 1
      have v0 := q0.lt
      have u1a := q1.cell 0
      have u1b := q1.cell 1
      have v1 := q1.lt
      have u2a := q2.cell 0
      have u2b := q2.cell 1
      have v2 := q2.lt
      have u3a := q3.cell 0
      have u3b := q3.cell 1
      have v3 := q3.lt
      simp at u0a u0b u1a u1b u2a u2b u3a u3b
      go_wp2_with fail
      refine Calls.mono (laws_eqTraffic (HO7.out.ints.keep (by repeat (first | exact Below.refl _ _ | assumption | refine below_allocS ?_ _ | refine below_callS ?_ (by assumption) | (refine Below.alloc ?_ (by first | omega | (simp; done) | (simp; omega)) _) | (refine Below.setCell ?_ (by first | omega | (simp; done) | (simp; omega)) _) | refine Below.drew ?_ | refine below_drewN ?_ _ | (refine below_call ?_ (by assumption) (by first | omega | (simp; done) | (simp; omega))) | (refine Below.trans ?_ (by assumption))))) (HO47.out.ints.keep (by repeat (first | exact Below.refl _ _ | assumption | refine below_allocS ?_ _ | refine below_callS ?_ (by assumption) | (refine Below.alloc ?_ (by first | omega | (simp; done) | (simp; omega)) _) | (refine Below.setCell ?_ (by first | omega | (simp; done) | (simp; omega)) _) | refine Below.drew ?_ | refine below_drewN ?_ _ | (refine below_call ?_ (by assumption) (by first | omega | (simp; done) | (simp; omega))) | (refine Below.trans ?_ (by assumption))))) hres hres) ?_
      rintro e w8 ⟨rfl, hb_w8⟩
      obtain ⟨hc_w8, hf_w8⟩ := bcell hb_w8
      have hs_w8 := hb_w8.size
      have P0 := Lib.hid (M0.out.keep hb_w8)
      have P1 := Lib.hid (M1.out.keep hb_w8)
      have P2 := Lib.hid (M2.out.keep hb_w8)
      have P3 := Lib.hid (M3.out.keep hb_w8)
      have HO58 := Lib.hid (HO57.out.keep (show Below w7.heap.size w7 w8 by repeat (first | exact Below.refl _ _ | assumption | refine below_allocS ?_ _ | refine below_callS ?_ (by assumption) | (refine Below.alloc ?_ (by first | omega | (simp; done) | (simp; omega)) _) | (refine Below.setCell ?_ (by first | omega | (simp; done) | (simp; omega)) _) | refine Below.drew ?_ | refine below_drewN ?_ _ | (refine below_call ?_ (by assumption) (by first | omega | (simp; done) | (simp; omega))) | (refine Below.trans ?_ (by assumption)))))
      have HO68 := Lib.hid (HO67.out.keep (show Below w7.heap.size w7 w8 by repeat (first | exact Below.refl _ _ | assumption | refine below_allocS ?_ _ | refine below_callS ?_ (by assumption) | (refine Below.alloc ?_ (by first | omega | (simp; done) | (simp; omega)) _) | (refine Below.setCell ?_ (by first | omega | (simp; done) | (simp; omega)) _) | refine Below.drew ?_ | refine below_drewN ?_ _ | (refine below_call ?_ (by assumption) (by first | omega | (simp; done) | (simp; omega))) | (refine Below.trans ?_ (by assumption)))))
      have HO48 := Lib.hid (HO47.out.keep (show Below w7.heap.size w7 w8 by repeat (first | exact Below.refl _ _ | assumption | refine below_allocS ?_ _ | refine below_callS ?_ (by assumption) | (refine Below.alloc ?_ (by first | omega | (simp; done) | (simp; omega)) _) | (refine Below.setCell ?_ (by first | omega | (simp; done) | (simp; omega)) _) | refine Below.drew ?_ | refine below_drewN ?_ _ | (refine below_call ?_ (by assumption) (by first | omega | (simp; done) | (simp; omega))) | (refine Below.trans ?_ (by assumption)))))
      have HO78 := Lib.hid (HO7.out.keep (show Below w7.heap.size w7 w8 by repeat (first | exact Below.refl _ _ | assumption | refine below_allocS ?_ _ | refine below_callS ?_ (by assumption) | (refine Below.alloc ?_ (by first | omega | (simp; done) | (simp; omega)) _) | (refine Below.setCell ?_ (by first | omega | (simp; done) | (simp; omega)) _) | refine Below.drew ?_ | refine below_drewN ?_ _ | (refine below_call ?_ (by assumption) (by first | omega | (simp; done) | (simp; omega))) | (refine Below.trans ?_ (by assumption)))))
      have hB8 : Below w.heap.size w w8 := by repeat (first | exact Below.refl _ _ | assumption | refine below_allocS ?_ _ | refine below_callS ?_ (by assumption) | (refine Below.alloc ?_ (by first | omega | (simp; done) | (simp; omega)) _) | (refine Below.setCell ?_ (by first | omega | (simp; done) | (simp; omega)) _) | refine Below.drew ?_ | refine below_drewN ?_ _ | (refine below_call ?_ (by assumption) (by first | omega | (simp; done) | (simp; omega))) | (refine Below.trans ?_ (by assumption)))
      clear hc_w8 hf_w8 hb_w8 N1 N2
      clear q0 q1 q2 q3 u0a u0b u1a u1b u2a u2b u3a u3b v0 v1 v2 v3
      have q0 := P0.out
      have q1 := P1.out
      have q2 := P2.out
      have q3 := P3.out
      have u0a := q0.cell 0
      have u0b := q0.cell 1
      have v0 := q0.lt
      have u1a := q1.cell 0
      have u1b := q1.cell 1
      have v1 := q1.lt
      have u2a := q2.cell 0
      have u2b := q2.cell 1
      have v2 := q2.lt
      have u3a := q3.cell 0
      have u3b := q3.cell 1
      have v3 := q3.lt
      simp at u0a u0b u1a u1b u2a u2b u3a u3b
      go_wp2
      clear q0 q1 q2 q3 u1a u1b u3a u3b v1 v3
      go_region_held3 (fun wx => wx.cell? ⟨w.heap.size, 0, none⟩ = some (.int .i64 b) ∧ wx.cell? ⟨w.heap.size, 1, none⟩ = some (.slice a n c) ∧ wx.cell? ⟨w5.heap.size, 0, none⟩ = some (.int .i64 b) ∧ wx.cell? ⟨w5.heap.size, 1, none⟩ = some (.slice (some ⟨g5, 0, none⟩) n n) ∧ w.heap.size < wx.heap.size ∧ w5.heap.size < wx.heap.size ∧ Below w8.heap.size w8 wx ∧ Below w.heap.size w wx) (((try go_split_ands); (repeat' apply And.intro) <;> first | assumption | exact Below.drew (Below.refl _ _) | exact Blk.keep (by assumption) hbx | exact Blk.drew (by assumption) | exact Blk.drew (Blk.made _ _ _) | exact Below.drew (by assumption) | exact Below.drew (below_allocS (by first | exact Below.refl _ _ | assumption) _) | exact below_callS (by assumption) hbx | exact below_call (by assumption) hbx (Below.size (by assumption)) | exact (hcx _ _ (by assumption)).trans (by assumption) | omega | (simp [*]; done) | (simp; omega))) (first | (go_at_call 43; go_split_ands; refine Calls.mono (laws_toTraffic (HI.out.keep (by assumption)) hn) ?_; rintro e w9 ⟨g9, rfl, hbx, ho9⟩; have HO9 := Lib.hid ho9; obtain ⟨hcx, hfx⟩ := bcell hbx; have hsx := hbx.size) | (go_at_call 46; go_split_ands; refine Calls.mono (laws_eqTraffic (HO58.out.ints.keep (by assumption)) (HO9.out.ints.keep (by repeat (first | exact Below.refl _ _ | assumption | refine below_allocS ?_ _ | refine below_callS ?_ (by assumption) | (refine Below.alloc ?_ (by first | omega | (simp; done) | (simp; omega)) _) | (refine Below.setCell ?_ (by first | omega | (simp; done) | (simp; omega)) _) | refine Below.drew ?_ | refine below_drewN ?_ _ | (refine below_call ?_ (by assumption) (by first | omega | (simp; done) | (simp; omega))) | (refine Below.trans ?_ (by assumption))))) hn hn) ?_; rintro e w10 ⟨rfl, hbx⟩; obtain ⟨hcx, hfx⟩ := bcell hbx; have hsx := hbx.size))
      go_split_ands
      have hL_w10 : Below w8.heap.size w8 w10 := by assumption
      have hB_w10 : Below w.heap.size w w10 := by assumption
      have hs_w10 := hL_w10.size
      have R0 := Lib.hid (P0.out.keep hL_w10)
      have R1 := Lib.hid (P1.out.keep hL_w10)
      have R2 := Lib.hid (P2.out.keep hL_w10)
      have R3 := Lib.hid (P3.out.keep hL_w10)
      go_wp2_with fail
      refine Calls.mono (laws_toInt64S_g (HS.out.keep (by assumption)) hm) ?_
      rintro e w11 ⟨g11, rfl, hb_w11, ho11⟩
      have hs_w11 := hb_w11.size
      have HO11 := Lib.hid ho11
      clear ho11
      go_wp2_with fail
      refine Calls.mono (laws_eqInt64S_t (HO68.out.ints.keep (show Below w8.heap.size w8 w11 from below_callS hL_w10 hb_w11)) HO11.out.ints hm hm) ?_
      rintro e w12 ⟨rfl, hb_w12⟩
      have hL12 : Below w8.heap.size w8 w12 := below_callS (below_callS hL_w10 hb_w11) hb_w12
      have hB12 : Below w.heap.size w w12 := below_callS (below_callS hB_w10 hb_w11) hb_w12
      have hs12 := hL12.size
      have S0 := Lib.hid (R0.out.keep (below_callS hb_w11 hb_w12))
      have S1 := Lib.hid (R1.out.keep (below_callS hb_w11 hb_w12))
      have S2 := Lib.hid (R2.out.keep (below_callS hb_w11 hb_w12))
      have S3 := Lib.hid (R3.out.keep (below_callS hb_w11 hb_w12))
      have HO512 := Lib.hid (HO58.out.keep hL12)
      have HO612 := Lib.hid (HO68.out.keep hL12)
      have HO412 := Lib.hid (HO48.out.keep hL12)
      have HO712 := Lib.hid (HO78.out.keep hL12)
      have q0 := S0.out
      have q1 := S1.out
      have q2 := S2.out
      have q3 := S3.out
      have u0a := q0.cell 0
      have u0b := q0.cell 1
      have v0 := q0.lt
      have u1a := q1.cell 0
      have u1b := q1.cell 1
      have v1 := q1.lt
      have u2a := q2.cell 0
      have u2b := q2.cell 1
      have v2 := q2.lt
      have u3a := q3.cell 0
      have u3b := q3.cell 1
      have v3 := q3.lt
      simp at u0a u0b u1a u1b u2a u2b u3a u3b
      have k5 := HO5.out.blk g5 rfl
      have k6 := HO6.out.blk g6 rfl
      have k7 := HO7.out.blk
      have k4 := HO4.out.blk
      simp at k5 k6
      go_wp2_with fail
      refine Calls.mono (laws_markTraffic HO512.out hn (by decide) (by decide)) ?_
      rintro e w13 ⟨rfl, ht13, _⟩
      have hs_w13 := ht13.size
      have hB13 : Below w.heap.size w w13 := ht13.below hB12 (by have := hB12.size; omega) (fun g e => by cases e; omega)
      have HO613 := Lib.hid (HO612.out.keepT ht13 (by intro g h1 h2; cases h1; cases h2; omega))
      have HO713 := Lib.hid (HO712.out.keepT ht13 (by intro g h1 h2; cases h2; have := k7 _ h1; omega))
      have HO413 := Lib.hid (HO412.out.keepT ht13 (by intro g h1 h2; cases h2; have := k4 _ h1; omega))
      obtain ⟨r, hg, hr⟩ := ht13
      have T0 := Lib.hid (S0.out.keepG hg (fun e => by have hh := (hr _ e).2; cases hh; omega))
      have T1 := Lib.hid (S1.out.keepG hg (fun e => by have hh := (hr _ e).2; cases hh; omega))
      have T2 := Lib.hid (S2.out.keepG hg (fun e => by have hh := (hr _ e).2; cases hh; omega))
      have T3 := Lib.hid (S3.out.keepG hg (fun e => by have hh := (hr _ e).2; cases hh; omega))
      clear hg hr
      clear q0 q1 q2 q3 u0a u0b u1a u1b u2a u2b u3a u3b v0 v1 v2 v3
      have q0 := T0.out
      have q1 := T1.out
      have q2 := T2.out
      have q3 := T3.out
      have u0a := q0.cell 0
      have u0b := q0.cell 1
      have v0 := q0.lt
      have u1a := q1.cell 0
      have u1b := q1.cell 1
      have v1 := q1.lt
      have u2a := q2.cell 0
      have u2b := q2.cell 1
      have v2 := q2.lt
      have u3a := q3.cell 0
      have u3b := q3.cell 1
      have v3 := q3.lt
      simp at u0a u0b u1a u1b u2a u2b u3a u3b
      have e1n : (0 : Int) ≤ 1 + (n : Int) := by omega
      have e1m : (1 : Int) + (n : Int) ≤ 1099511627776 := by omega
      go_wp2_with fail
      refine Calls.mono (laws_markInt64S HO613.out hm e1n e1m) ?_
      rintro e w14 ⟨rfl, ht14, _⟩
      have hs_w14 := ht14.size
      have hB14 : Below w.heap.size w w14 := ht14.below hB13 (by have := hB13.size; omega) (fun g e => by cases e; omega)
      have HO714 := Lib.hid (HO713.out.keepT ht14 (by intro g h1 h2; cases h2; have := k7 _ h1; omega))
      have HO414 := Lib.hid (HO413.out.keepT ht14 (by intro g h1 h2; cases h2; have := k4 _ h1; omega))
      obtain ⟨r, hg, hr⟩ := ht14
      have U0 := Lib.hid (T0.out.keepG hg (fun e => by have hh := (hr _ e).2; cases hh; omega))
      have U1 := Lib.hid (T1.out.keepG hg (fun e => by have hh := (hr _ e).2; cases hh; omega))
      have U2 := Lib.hid (T2.out.keepG hg (fun e => by have hh := (hr _ e).2; cases hh; omega))
      have U3 := Lib.hid (T3.out.keepG hg (fun e => by have hh := (hr _ e).2; cases hh; omega))
      clear hg hr
      clear q0 q1 q2 q3 u0a u0b u1a u1b u2a u2b u3a u3b v0 v1 v2 v3
      have q0 := U0.out
      have q1 := U1.out
      have q2 := U2.out
      have q3 := U3.out
      have u0a := q0.cell 0
      have u0b := q0.cell 1
      have v0 := q0.lt
      have u1a := q1.cell 0
      have u1b := q1.cell 1
      have v1 := q1.lt
      have u2a := q2.cell 0
      have u2b := q2.cell 1
      have v2 := q2.lt
      have u3a := q3.cell 0
      have u3b := q3.cell 1
      have v3 := q3.lt
      simp at u0a u0b u1a u1b u2a u2b u3a u3b
      have e2n : decide ((1 : Int) + (n : Int) + (m : Int) < 0) = false := by simp; omega
      go_wp2_with fail
      refine Calls.mono (laws_eqTraffic HO714.out.ints HO414.out.ints hres hres) ?_
      rintro e w15 ⟨rfl, hb_w15⟩
      have hs_w15 := hb_w15.size
      have hB15 : Below w.heap.size w w15 := below_callS hB14 hb_w15
      have HO715 := Lib.hid (HO714.out.keep hb_w15)
      have HO415 := Lib.hid (HO414.out.keep hb_w15)
      have V0 := Lib.hid (U0.out.keep hb_w15)
      have V1 := Lib.hid (U1.out.keep hb_w15)
      have V2 := Lib.hid (U2.out.keep hb_w15)
      have V3 := Lib.hid (U3.out.keep hb_w15)
      clear q0 q1 q2 q3 u0a u0b u1a u1b u2a u2b u3a u3b v0 v1 v2 v3
      have q0 := V0.out
      have q1 := V1.out
      have q2 := V2.out
      have q3 := V3.out
      have u0a := q0.cell 0
      have u0b := q0.cell 1
      have v0 := q0.lt
      have u1a := q1.cell 0
      have u1b := q1.cell 1
      have v1 := q1.lt
      have u2a := q2.cell 0
      have u2b := q2.cell 1
      have v2 := q2.lt
      have u3a := q3.cell 0
      have u3b := q3.cell 1
      have v3 := q3.lt
      simp at u0a u0b u1a u1b u2a u2b u3a u3b
      go_wp2_with fail
      refine Calls.mono (laws_markTraffic HO715.out hres (by decide) (by decide)) ?_
      rintro e w16 ⟨rfl, ht16, ho16⟩
      have hs_w16 := ht16.size
      have hB16 : Below w.heap.size w w16 := ht16.below hB15 (by have := hB15.size; omega) (fun g e => by have := k7 _ e; omega)
      have HO716 := Lib.hid ho16
      have HO416 := Lib.hid (HO415.out.keepT ht16 (by intro g h1 h2; have := k7 _ h2; have := k4 _ h1; omega))
      obtain ⟨r, hg, hr⟩ := ht16
      have X0 := Lib.hid (V0.out.keepG hg (fun e => by have hh := k7 _ (hr _ e).2; omega))
      have X1 := Lib.hid (V1.out.keepG hg (fun e => by have hh := k7 _ (hr _ e).2; omega))
      have X2 := Lib.hid (V2.out.keepG hg (fun e => by have hh := k7 _ (hr _ e).2; omega))
      have X3 := Lib.hid (V3.out.keepG hg (fun e => by have hh := k7 _ (hr _ e).2; omega))
      clear hg hr ho16
      clear q0 q1 q2 q3 u0a u0b u1a u1b u2a u2b u3a u3b v0 v1 v2 v3
      have q0 := X0.out
      have q1 := X1.out
      have q2 := X2.out
      have q3 := X3.out
      have u0a := q0.cell 0
      have u0b := q0.cell 1
      have v0 := q0.lt
      have u1a := q1.cell 0
      have u1b := q1.cell 1
      have v1 := q1.lt
      have u2a := q2.cell 0
      have u2b := q2.cell 1
      have v2 := q2.lt
      have u3a := q3.cell 0
      have u3b := q3.cell 1
      have v3 := q3.lt
      simp at u0a u0b u1a u1b u2a u2b u3a u3b
      go_wp2_with fail
      refine Calls.mono (laws_heldTraffic HO716.out.ints hres (by decide) (by decide)) ?_
      rintro e w17 ⟨rfl, hb_w17⟩
      have hs_w17 := hb_w17.size
      have hB17 : Below w.heap.size w w17 := below_callS hB16 hb_w17
      have HO717 := Lib.hid (HO716.out.keep hb_w17)
      have HO417 := Lib.hid (HO416.out.keep hb_w17)
      have Y0 := Lib.hid (X0.out.keep hb_w17)
      have Y1 := Lib.hid (X1.out.keep hb_w17)
      have Y2 := Lib.hid (X2.out.keep hb_w17)
      have Y3 := Lib.hid (X3.out.keep hb_w17)
      clear q0 q1 q2 q3 u0a u0b u1a u1b u2a u2b u3a u3b v0 v1 v2 v3
      have q0 := Y0.out
      have q1 := Y1.out
      have q2 := Y2.out
      have q3 := Y3.out
      have u0a := q0.cell 0
      have u0b := q0.cell 1
      have v0 := q0.lt
      have u1a := q1.cell 0
      have u1b := q1.cell 1
      have v1 := q1.lt
      have u2a := q2.cell 0
      have u2b := q2.cell 1
      have v2 := q2.lt
      have u3a := q3.cell 0
      have u3b := q3.cell 1
      have v3 := q3.lt
      simp at u0a u0b u1a u1b u2a u2b u3a u3b
      have e3 : decide ((1 : Int) + (n7 : Int) < 0) = false := by simp; omega
      have e4 : ((1 : Int) + (n7 : Int) != 1 + (n7 : Int)) = false := by simp
      go_wp2_with fail
      refine Calls.mono (laws_toTraffic (HI.out.keep hB17) hn) ?_
      rintro e w18 ⟨g18, rfl, hb_w18, ho18⟩
      have hs_w18 := hb_w18.size
      have HO18 := Lib.hid ho18
      clear ho18
      go_wp2_with fail
      refine Calls.mono (laws_toInt64S_g (HS.out.keep (below_callS hB17 hb_w18)) hm) ?_
      rintro e w19 ⟨g19, rfl, hb_w19, ho19⟩
      have hs_w19 := hb_w19.size
      have HO19 := Lib.hid ho19
      clear ho19
      go_wp2_with fail
      refine Calls.mono (H4.out _ _ _ (HO18.out.ints.keep hb_w19) HO19.out.ints) ?_
      rintro e w20 ⟨n20, a20, c20, rfl, hb_w20, ho20⟩
      have hs_w20 := hb_w20.size
      have hn20 : n20 = n7 := by rw [← ho20.len, HO7.out.len]
      subst hn20
      have HO20 := Lib.hid ho20
      clear ho20
      have hL20 : Below w17.heap.size w17 w20 := below_callS (below_callS hb_w18 hb_w19) hb_w20
      have hB20 : Below w.heap.size w w20 := below_callS (below_callS (below_callS hB17 hb_w18) hb_w19) hb_w20
      have Z0 := Lib.hid (Y0.out.keep hL20)
      have Z1 := Lib.hid (Y1.out.keep hL20)
      have Z2 := Lib.hid (Y2.out.keep hL20)
      have Z3 := Lib.hid (Y3.out.keep hL20)
      clear q0 q1 q2 q3 u0a u0b u1a u1b u2a u2b u3a u3b v0 v1 v2 v3
      have q0 := Z0.out
      have q1 := Z1.out
      have q2 := Z2.out
      have q3 := Z3.out
      have u0a := q0.cell 0
      have u0b := q0.cell 1
      have v0 := q0.lt
      have u1a := q1.cell 0
      have u1b := q1.cell 1
      have v1 := q1.lt
      have u2a := q2.cell 0
      have u2b := q2.cell 1
      have v2 := q2.lt
      have u3a := q3.cell 0
      have u3b := q3.cell 1
      have v3 := q3.lt
      simp at u0a u0b u1a u1b u2a u2b u3a u3b
      have HO720 := Lib.hid (HO717.out.keep hL20)
      have HO420 := Lib.hid (HO417.out.keep hL20)
      clear hL20
      go_wp2_with fail
      refine Calls.mono (laws_eqTraffic (HO20.out.ints.keep (by repeat (first | exact Below.refl _ _ | assumption | refine below_allocS ?_ _ | refine below_callS ?_ (by assumption) | (refine Below.alloc ?_ (by first | omega | (simp; done) | (simp; omega)) _) | (refine Below.setCell ?_ (by first | omega | (simp; done) | (simp; omega)) _) | refine Below.drew ?_ | refine below_drewN ?_ _ | (refine below_call ?_ (by assumption) (by first | omega | (simp; done) | (simp; omega))) | (refine Below.trans ?_ (by assumption))))) (HO420.out.ints.keep (by repeat (first | exact Below.refl _ _ | assumption | refine below_allocS ?_ _ | refine below_callS ?_ (by assumption) | (refine Below.alloc ?_ (by first | omega | (simp; done) | (simp; omega)) _) | (refine Below.setCell ?_ (by first | omega | (simp; done) | (simp; omega)) _) | refine Below.drew ?_ | refine below_drewN ?_ _ | (refine below_call ?_ (by assumption) (by first | omega | (simp; done) | (simp; omega))) | (refine Below.trans ?_ (by assumption))))) hres hres) ?_
      rintro e w21 ⟨rfl, hb_w21⟩
      obtain ⟨hc_w21, hf_w21⟩ := bcell hb_w21
      have hs_w21 := hb_w21.size
      go_wp2_with fail
      refine Calls.mono (laws_heldTraffic (HO720.out.ints.keep (by repeat (first | exact Below.refl _ _ | assumption | refine below_allocS ?_ _ | refine below_callS ?_ (by assumption) | (refine Below.alloc ?_ (by first | omega | (simp; done) | (simp; omega)) _) | (refine Below.setCell ?_ (by first | omega | (simp; done) | (simp; omega)) _) | refine Below.drew ?_ | refine below_drewN ?_ _ | (refine below_call ?_ (by assumption) (by first | omega | (simp; done) | (simp; omega))) | (refine Below.trans ?_ (by assumption))))) hres (by decide) (by decide)) ?_
      rintro e w22 ⟨rfl, hb_w22⟩
      obtain ⟨hc_w22, hf_w22⟩ := bcell hb_w22
      have hs_w22 := hb_w22.size
      go_wp2
      go_ret
      exact ⟨rfl, by repeat (first | exact Below.refl _ _ | assumption | refine below_allocS ?_ _ | refine below_callS ?_ (by assumption) | (refine Below.alloc ?_ (by first | omega | (simp; done) | (simp; omega)) _) | (refine Below.setCell ?_ (by first | omega | (simp; done) | (simp; omega)) _) | refine Below.drew ?_ | refine below_drewN ?_ _ | (refine below_call ?_ (by assumption) (by first | omega | (simp; done) | (simp; omega))) | (refine Below.trans ?_ (by assumption)))⟩
    · go_enter Try.func7, Try.ntmps7
      go_wp2_with fail
      refine Calls.mono (laws_szTraffic hn9 (by omega) (by omega)) ?_
      rintro e w1 ⟨rfl, hb_w1⟩
      obtain ⟨hc_w1, hf_w1⟩ := bcell hb_w1
      have hs_w1 := hb_w1.size
      go_wp2
      go_ret
      exact ⟨rfl, by repeat (first | exact Below.refl _ _ | assumption | refine below_allocS ?_ _ | refine below_callS ?_ (by assumption) | (refine Below.alloc ?_ (by first | omega | (simp; done) | (simp; omega)) _) | (refine Below.setCell ?_ (by first | omega | (simp; done) | (simp; omega)) _) | refine Below.drew ?_ | refine below_drewN ?_ _ | (refine below_call ?_ (by assumption) (by first | omega | (simp; done) | (simp; omega))) | (refine Below.trans ?_ (by assumption)))⟩
  · go_enter Try.func7, Try.ntmps7
    go_wp2
    go_ret
    exact ⟨rfl, by repeat (first | exact Below.refl _ _ | assumption | refine below_allocS ?_ _ | refine below_callS ?_ (by assumption) | (refine Below.alloc ?_ (by first | omega | (simp; done) | (simp; omega)) _) | (refine Below.setCell ?_ (by first | omega | (simp; done) | (simp; omega)) _) | refine Below.drew ?_ | refine below_drewN ?_ _ | (refine below_call ?_ (by assumption) (by first | omega | (simp; done) | (simp; omega))) | (refine Below.trans ?_ (by assumption)))⟩
end Go.Proofs.Ytoaccicfmfiemaa
