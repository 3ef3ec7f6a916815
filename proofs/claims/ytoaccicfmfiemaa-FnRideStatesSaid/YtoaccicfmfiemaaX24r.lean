/- The law of ride states. -/
import Derived.Test.YtoaccicfmfiemaaL24d
import Derived.Test.YtoaccicfmfiemaaL11
import Derived.Test.YtoaccicfmfiemaaLk2
import Derived.Test.YtoaccicfmfiemaaD24b
import Derived.Test.YtoaccicfmfiemaaBg
namespace Go.Proofs.Ytoaccicfmfiemaa
open Go.RowKit
set_option linter.unusedVariables false
set_option linter.unusedSimpArgs false
theorem ride_good {b : Int} {l st : List Int} (h : fiC b l st = 0) : 2 ≤ b ∧ b ≤ 8 ∧ (st.length : Int) = l.length + b + 1 ∧ (∀ y ∈ fiL b l st, 0 ≤ y.a ∧ y.a < b ∧ (y.b = 0 ∨ y.b = 1) ∧ (y.c = 0 ∨ y.c = 1)) ∧ (fiL b l st).Pairwise (fun o f => sameS f o = false) ∧ tolB0 (fiL b l st) = !((midOf b l.length st).any fun x => x == 3) := by
  have hr : rideCode b l st = 0 := by
    unfold fiC at h
    split at h
    · assumption
    · exact h
  have h1 := rideCode_ok hr
  have h2 := trafB_split h1.1
  have h3 := rideB_len h1.2
  have e : fiL b l st = flsOf (midOf b l.length st) := by rw [fiL, if_pos h]
  rw [e]
  obtain ⟨g1, g2, _⟩ := fls_good (midOf b l.length st) _ (Nat.le_refl _)
  rw [List.take_length] at g1 g2
  have hl : (midOf b l.length st).length ≤ b.toNat := by rw [midOf, List.length_take]; omega
  exact ⟨h2.1, h2.2.1, h3, fun y hy => by have := g1 y hy; exact ⟨this.1, by omega, this.2.2⟩, g2, tol_fls _⟩
theorem mid_at {b : Int} {n k : Nat} {st : List Int} {x : Int} (h : st[n + k]? = some x) (hk : (k : Int) < b) : (midOf b n st)[k]? = some x := by
  rw [midOf, List.getElem?_take, if_pos (by omega), List.getElem?_drop]; exact h
theorem mid_len {b : Int} {n : Nat} {st : List Int} (h : (st.length : Int) = n + b + 1) (hb : 0 ≤ b) : (midOf b n st).length = b.toNat := by
  rw [midOf, List.length_take, List.length_drop]; omega
theorem trL_len (b : Int) (l st : List Int) : (trL b l st).length ≤ l.length := by
  unfold trL; split
  · rw [List.length_take]; omega
  · exact Nat.zero_le _
set_option maxHeartbeats 4000000 in
theorem law_FnRideStates {a : Option Addr} {n c : Nat} {w : World} (hB : Byts w a n c) : Calls Try.prog 9 #[.slice a n c] w fun e w' => e = .returned (.bool true) ∧ Below w.heap.size w w' := by
  have HB := Lib.hid hB
  clear hB
  by_cases hn : n ≤ 4096
  · go_enter Try.func9, Try.ntmps9
    go_wp2_with fail
    refine Calls.mono (laws_big_no hn) ?_
    rintro e _ ⟨rfl, rfl⟩
    go_wp2_with fail
    refine Calls.mono (spec_DrawFaultsIn HB.out hn) ?_
    rintro e w1 ⟨B, a1, n1, c1, l, a2, n2, c2, st, rfl, h1, hn1, hB1, hB9, h2, hn2, _, _, hb_w1⟩
    have hs_w1 := hb_w1.size
    have k1 := fun (wx : World) (hb : Below w1.heap.size w1 wx) => impl_FaultsIn (b := B) (h1.keep hb) (h2.keep hb) (by omega) (by omega)
    have k2 := fun (wx : World) (hb : Below w1.heap.size w1 wx) => spec_FaultsIn (b := B) (h1.keep hb) (h2.keep hb) (by omega) (by omega)
    have k3 := fun (wx : World) (hb : Below w1.heap.size w1 wx) => impl_TrafficIn (b := B) (h1.keep hb) (h2.keep hb) (by omega) (by omega)
    have k4 := fun (wx : World) (hb : Below w1.heap.size w1 wx) => spec_TrafficIn (b := B) (h1.keep hb) (h2.keep hb) (by omega) (by omega)
    have hg := fun (h : fiC B l st = 0) => ride_good h
    have hlen := fiL_len (b := B) (l := l) (st := st)
    have hlt := trL_len B l st
    rw [h1.len] at hlt
    have hl1 := h1.len
    have hl2 := h2.len
    rw [hl1, hl2] at hg
    have hmid := fun (k : Nat) (x : Int) (h : st[n1 + k]? = some x) (hk : (k : Int) < B) => mid_at h hk
    have hml := fun (h : (n2 : Int) = n1 + B + 1) => mid_len (n := n1) (st := st) (b := B) (by rw [hl2]; exact h) (by omega)
    unfold FaultsRet at k1 k2
    unfold TrafRetC at k3 k4
    have HS := Lib.hid h2
    clear h1 h2 hl1 hl2
    generalize midOf B n1 st = M at *
    generalize fiL B l st = F at *
    generalize fiC B l st = C at *
    generalize rideCode B l st = D at *
    generalize trB B l st = TB at *
    generalize trL B l st = TL at *
    have K1 := Lib.hid k1
    have K2 := Lib.hid k2
    have K3 := Lib.hid k3
    have K4 := Lib.hid k4
    have HG := Lib.hid hg
    have HM := Lib.hid hmid
    have HML := Lib.hid hml
    clear k1 k2 k3 k4 hg hmid hml
    have q1 : (C != C) = false := by simp
    have q2 : (D != D) = false := by simp
    have hzz : w1.heap.size < (w1.alloc (.cells #[.int .i64 B, .slice a1 n1 c1] 66)).heap.size := by simp
    go_wp2_with fail
    refine Calls.mono (K1.out _ (by repeat (first | exact Below.refl _ _ | assumption | refine below_allocS ?_ _ | refine below_callS ?_ (by assumption) | (refine Below.alloc ?_ (by first | omega | (simp; done) | (simp; omega)) _) | (refine Below.setCell ?_ (by first | omega | (simp; done) | (simp; omega)) _) | refine Below.drew ?_ | refine below_drewN ?_ _ | (refine below_call ?_ (by assumption) (by first | omega | (simp; done) | (simp; omega))) | (refine Below.trans ?_ (by assumption))))) ?_
    rintro e w2 ⟨m2, a21, c21, rfl, hb_w2, o2⟩
    obtain ⟨hc_w2, hf_w2⟩ := bcell hb_w2
    have hs_w2 := hb_w2.size
    simp at hs_w2
    have hz2 : w1.heap.size < w2.heap.size := by omega
    have O2 := Lib.hid o2.flats
    clear o2
    go_wp2_with fail
    refine Calls.mono (K2.out _ (by repeat (first | exact Below.refl _ _ | assumption | refine below_allocS ?_ _ | refine below_callS ?_ (by assumption) | (refine Below.alloc ?_ (by first | omega | (simp; done) | (simp; omega)) _) | (refine Below.setCell ?_ (by first | omega | (simp; done) | (simp; omega)) _) | refine Below.drew ?_ | refine below_drewN ?_ _ | (refine below_call ?_ (by assumption) (by first | omega | (simp; done) | (simp; omega))) | (refine Below.trans ?_ (by assumption))))) ?_
    rintro e w3 ⟨m3, a31, c31, rfl, hb_w3, o3⟩
    obtain ⟨hc_w3, hf_w3⟩ := bcell hb_w3
    have hs_w3 := hb_w3.size
    have hz3 : w1.heap.size < w3.heap.size := by omega
    have O3 := Lib.hid o3.flats
    clear o3
    go_wp2_with fail
    refine Calls.mono (K3.out _ (by repeat (first | exact Below.refl _ _ | assumption | refine below_allocS ?_ _ | refine below_callS ?_ (by assumption) | (refine Below.alloc ?_ (by first | omega | (simp; done) | (simp; omega)) _) | (refine Below.setCell ?_ (by first | omega | (simp; done) | (simp; omega)) _) | refine Below.drew ?_ | refine below_drewN ?_ _ | (refine below_call ?_ (by assumption) (by first | omega | (simp; done) | (simp; omega))) | (refine Below.trans ?_ (by assumption))))) ?_
    rintro e w4 ⟨m4, a41, c41, rfl, hb_w4, o4⟩
    obtain ⟨hc_w4, hf_w4⟩ := bcell hb_w4
    have hs_w4 := hb_w4.size
    have hz4 : w1.heap.size < w4.heap.size := by omega
    have O4 := Lib.hid o4.ints
    clear o4
    have hz4' : w1.heap.size < (w4.alloc (.cells #[.int .i64 TB, .slice a41 m4 c41] 66)).heap.size := by simp; omega
    have hz4'' : w4.heap.size < (w4.alloc (.cells #[.int .i64 TB, .slice a41 m4 c41] 66)).heap.size := by simp
    go_wp2_with fail
    refine Calls.mono (K4.out _ (by repeat (first | exact Below.refl _ _ | assumption | refine below_allocS ?_ _ | refine below_callS ?_ (by assumption) | (refine Below.alloc ?_ (by first | omega | (simp; done) | (simp; omega)) _) | (refine Below.setCell ?_ (by first | omega | (simp; done) | (simp; omega)) _) | refine Below.drew ?_ | refine below_drewN ?_ _ | (refine below_call ?_ (by assumption) (by first | omega | (simp; done) | (simp; omega))) | (refine Below.trans ?_ (by assumption))))) ?_
    rintro e w5 ⟨m5, a51, c51, rfl, hb_w5, o5⟩
    obtain ⟨hc_w5, hf_w5⟩ := bcell hb_w5
    have hs_w5 := hb_w5.size
    simp at hs_w5
    have hz5 : w1.heap.size < w5.heap.size := by omega
    have hz5' : w4.heap.size < w5.heap.size := by omega
    have O5 := Lib.hid o5.ints
    clear o5
    have y2 : m2 ≤ 1048576 := by have := O2.out.len; omega
    have y4 : m4 ≤ 1048576 := by have := O4.out.len; omega
    have y5 : m5 ≤ 1048576 := by have := O5.out.len; omega
    go_wp2_with fail
    refine Calls.mono (laws_likeFaults9 (O2.out.keep (by repeat (first | exact Below.refl _ _ | assumption | refine below_allocS ?_ _ | refine below_callS ?_ (by assumption) | (refine Below.alloc ?_ (by first | omega | (simp; done) | (simp; omega)) _) | (refine Below.setCell ?_ (by first | omega | (simp; done) | (simp; omega)) _) | refine Below.drew ?_ | refine below_drewN ?_ _ | (refine below_call ?_ (by assumption) (by first | omega | (simp; done) | (simp; omega))) | (refine Below.trans ?_ (by assumption))))) (O3.out.keep (by repeat (first | exact Below.refl _ _ | assumption | refine below_allocS ?_ _ | refine below_callS ?_ (by assumption) | (refine Below.alloc ?_ (by first | omega | (simp; done) | (simp; omega)) _) | (refine Below.setCell ?_ (by first | omega | (simp; done) | (simp; omega)) _) | refine Below.drew ?_ | refine below_drewN ?_ _ | (refine below_call ?_ (by assumption) (by first | omega | (simp; done) | (simp; omega))) | (refine Below.trans ?_ (by assumption))))) y2) ?_
    rintro e w6 ⟨rfl, hb_w6⟩
    obtain ⟨hc_w6, hf_w6⟩ := bcell hb_w6
    have hs_w6 := hb_w6.size
    simp at hs_w6
    have hz6 : w1.heap.size < w6.heap.size := by omega
    have hz6' : w4.heap.size < w6.heap.size := by omega
    have hz6'' : w5.heap.size < w6.heap.size := by omega
    go_wp2_with fail
    refine Calls.mono (laws_likeTraffic9 (O4.out.keep (by repeat (first | exact Below.refl _ _ | assumption | refine below_allocS ?_ _ | refine below_callS ?_ (by assumption) | (refine Below.alloc ?_ (by first | omega | (simp; done) | (simp; omega)) _) | (refine Below.setCell ?_ (by first | omega | (simp; done) | (simp; omega)) _) | refine Below.drew ?_ | refine below_drewN ?_ _ | (refine below_call ?_ (by assumption) (by first | omega | (simp; done) | (simp; omega))) | (refine Below.trans ?_ (by assumption))))) (O5.out.keep (by repeat (first | exact Below.refl _ _ | assumption | refine below_allocS ?_ _ | refine below_callS ?_ (by assumption) | (refine Below.alloc ?_ (by first | omega | (simp; done) | (simp; omega)) _) | (refine Below.setCell ?_ (by first | omega | (simp; done) | (simp; omega)) _) | refine Below.drew ?_ | refine below_drewN ?_ _ | (refine below_call ?_ (by assumption) (by first | omega | (simp; done) | (simp; omega))) | (refine Below.trans ?_ (by assumption))))) y4 y5) ?_
    rintro e w7 ⟨rfl, hb_w7⟩
    obtain ⟨hc_w7, hf_w7⟩ := bcell hb_w7
    have hs_w7 := hb_w7.size
    have hz7 : w1.heap.size < w7.heap.size := by omega
    by_cases hC : C = 0
    · subst hC
      obtain ⟨g1, g2, g3, g4, g5, g6⟩ := HG.out (by first | exact rfl | trivial)
      have G4 := Lib.hid g4
      have G5 := Lib.hid g5
      have G6 := Lib.hid g6
      have hml := Lib.hid (HML.out g3)
      clear g4 g5 g6 HG HML
      have m8 : m2 ≤ 8 := by have := O2.out.len; omega
      have hbX : Below (w1.alloc (.cells #[.int .i64 B, .slice a1 n1 c1] 66)).heap.size (w1.alloc (.cells #[.int .i64 B, .slice a1 n1 c1] 66)) w7 := by repeat (first | exact Below.refl _ _ | assumption | refine below_allocS ?_ _ | refine below_callS ?_ (by assumption) | (refine Below.alloc ?_ (by first | omega | (simp; done) | (simp; omega)) _) | (refine Below.setCell ?_ (by first | omega | (simp; done) | (simp; omega)) _) | refine Below.drew ?_ | refine below_drewN ?_ _ | (refine below_call ?_ (by assumption) (by first | omega | (simp; done) | (simp; omega))) | (refine Below.trans ?_ (by assumption)))
      have XB := (Blk.made w1 #[.int .i64 B, .slice a1 n1 c1] 66).keep hbX
      have hbS : Below w1.heap.size w1 w7 := by
        clear hbX
        repeat (first | exact Below.refl _ _ | assumption | refine below_allocS ?_ _ | refine below_callS ?_ (by assumption) | (refine Below.alloc ?_ (by first | omega | (simp; done) | (simp; omega)) _) | (refine Below.setCell ?_ (by first | omega | (simp; done) | (simp; omega)) _) | refine Below.drew ?_ | refine below_drewN ?_ _ | (refine below_call ?_ (by assumption) (by first | omega | (simp; done) | (simp; omega))) | (refine Below.trans ?_ (by assumption)))
      have hbW : Below w.heap.size w w7 := by
        clear hbX hbS
        repeat (first | exact Below.refl _ _ | assumption | refine below_allocS ?_ _ | refine below_callS ?_ (by assumption) | (refine Below.alloc ?_ (by first | omega | (simp; done) | (simp; omega)) _) | (refine Below.setCell ?_ (by first | omega | (simp; done) | (simp; omega)) _) | refine Below.drew ?_ | refine below_drewN ?_ _ | (refine below_call ?_ (by assumption) (by first | omega | (simp; done) | (simp; omega))) | (refine Below.trans ?_ (by assumption)))
      have x0 := XB.cell 0
      have x1 := XB.cell 1
      simp at x0 x1
      have HS7 := Lib.hid (HS.out.keep hbS)
      have O7 := Lib.hid (O2.out.keep (show Below w2.heap.size w2 w7 by
        clear hbX hbS hbW
        repeat (first | exact Below.refl _ _ | assumption | refine below_allocS ?_ _ | refine below_callS ?_ (by assumption) | (refine Below.alloc ?_ (by first | omega | (simp; done) | (simp; omega)) _) | (refine Below.setCell ?_ (by first | omega | (simp; done) | (simp; omega)) _) | refine Below.drew ?_ | refine below_drewN ?_ _ | (refine below_call ?_ (by assumption) (by first | omega | (simp; done) | (simp; omega))) | (refine Below.trans ?_ (by assumption)))))
      clear hbX hbS XB hc_w2 hf_w2 hc_w3 hf_w3 hc_w4 hf_w4 hc_w5 hf_w5 hc_w6 hf_w6 hc_w7 hf_w7 hb_w1 hb_w2 hb_w3 hb_w4 hb_w5 hb_w6 hb_w7 HS O2 O3 O4 O5
      go_wp2_with fail
      go_loop [13, 14] (fun s13 s14 => ∃ (k : Nat) (bl : Bool), s14 = .int .i64 k ∧ s13 = .bool bl ∧ (k : Int) ≤ B ∧ Hid ((M.take k).any (fun x => x == 3) = bl)) (fun _ s14 => B.toNat - (intOf s14).toNat)
      case atStart => exact ⟨0, false, rfl, rfl, by omega, rfl⟩
      case round =>
        obtain ⟨k, bl, rfl, rfl, hk, A⟩ := hrel
        by_cases hlt : (k : Int) < B
        · obtain ⟨b2, off, x, rfl, hb2, hx, hcell, hxw⟩ := HS7.out.at (k := n1 + k) (by omega)
          have Hx := Lib.hid (HM.out k x hx hlt)
          clear hx
          have e1 : ((n1 : Int) + (k : Int)).toNat = n1 + k := by omega
          have e2 : (0 : Int) ≤ (n1 : Int) + (k : Int) := by omega
          have e3 : (n1 : Int) + (k : Int) < (n2 : Int) := by omega
          cases bl
          · cases hx3 : (x == 3)
            · have HX := Lib.hid hx3
              go_wp2
              go_round
              case rel => exact ⟨k + 1, false, by go_num, rfl, by omega, any_take_step Hx.out A.out HX.out⟩
              case measure => simp [intOf]; omega
            · have HX := Lib.hid hx3
              go_wp2
              go_round
              case rel => exact ⟨k + 1, true, by go_num, rfl, by omega, by show _ = _; rw [take_at Hx.out, List.any_append]; simp [HX.out]⟩
              case measure => simp [intOf]; omega
          · go_wp2
            go_round
            case rel => exact ⟨k + 1, true, by go_num, rfl, by omega, by show _ = _; rw [take_at Hx.out, List.any_append, A.out]; rfl⟩
            case measure => simp [intOf]; omega
        · have hT : tolB0 F = !bl := by
            have h1 := A.out
            rw [take_len (n := k) (by rw [hml.out]; omega)] at h1
            rw [G6.out, h1]
          have HT := Lib.hid hT
          clear hT A
          go_wp2_with fail
          refine Calls.mono (impl_AreFaults_ok O7.out m8 ⟨g1, g2⟩ G4.out G5.out) ?_
          rintro e w8 ⟨rfl, hb_w8⟩
          obtain ⟨hc_w8, hf_w8⟩ := bcell hb_w8
          have hs_w8 := hb_w8.size
          go_wp2_with fail
          refine Calls.mono (impl_AreTolerated_ok (O7.out.keep hb_w8) m8 ⟨g1, g2⟩ G4.out G5.out) ?_
          rw [HT.out]
          rintro e w9 ⟨rfl, hb_w9⟩
          cases bl
          all_goals
            go_wp2
            go_ret
            exact ⟨rfl, by repeat (first | exact Below.refl _ _ | assumption | refine below_allocS ?_ _ | refine below_callS ?_ (by assumption) | (refine Below.alloc ?_ (by first | omega | (simp; done) | (simp; omega)) _) | (refine Below.setCell ?_ (by first | omega | (simp; done) | (simp; omega)) _) | refine Below.drew ?_ | refine below_drewN ?_ _ | (refine below_call ?_ (by assumption) (by first | omega | (simp; done) | (simp; omega))) | (refine Below.trans ?_ (by assumption)))⟩
    · have hC' : (C != 0) = true := by simpa using hC
      clear hC
      go_wp2
      go_ret
      exact ⟨rfl, by repeat (first | exact Below.refl _ _ | assumption | refine below_allocS ?_ _ | refine below_callS ?_ (by assumption) | (refine Below.alloc ?_ (by first | omega | (simp; done) | (simp; omega)) _) | (refine Below.setCell ?_ (by first | omega | (simp; done) | (simp; omega)) _) | refine Below.drew ?_ | refine below_drewN ?_ _ | (refine below_call ?_ (by assumption) (by first | omega | (simp; done) | (simp; omega))) | (refine Below.trans ?_ (by assumption)))⟩
  · go_enter Try.func9, Try.ntmps9
    go_wp2_with fail
    refine Calls.mono (laws_big_yes hn) ?_
    rintro e _ ⟨rfl, rfl⟩
    go_wp2
    go_ret
    exact ⟨rfl, by repeat (first | exact Below.refl _ _ | assumption | refine below_allocS ?_ _ | refine below_callS ?_ (by assumption) | (refine Below.alloc ?_ (by first | omega | (simp; done) | (simp; omega)) _) | (refine Below.setCell ?_ (by first | omega | (simp; done) | (simp; omega)) _) | refine Below.drew ?_ | refine below_drewN ?_ _ | (refine below_call ?_ (by assumption) (by first | omega | (simp; done) | (simp; omega))) | (refine Below.trans ?_ (by assumption)))⟩
end Go.Proofs.Ytoaccicfmfiemaa
