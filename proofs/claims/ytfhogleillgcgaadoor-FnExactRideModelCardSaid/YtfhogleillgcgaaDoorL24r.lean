/- The error of a traffic and a budget; the reference's rule of a ride, walked. -/
import Derived.Test.YtfhogleillgcgaaDoorL24k
import Derived.Test.YtfhogleillgcgaaDoorL10
namespace Go.Proofs.YtfhogleillgcgaaDoor
open Go.RowKit
set_option linter.unusedVariables false
set_option linter.unusedSimpArgs false
def rdC (b : Int) (l : List Int) (bud : Int) : Int := if trafB b l = false then 1 else if inB bud 0 2 = false then 2 else 0
set_option maxHeartbeats 1000000 in
theorem spec_l24Code {b bud : Int} {a : Option Addr} {n c : Nat} {l : List Int} {w : World} (hI : Ints w a n c l) (hn : n ≤ 1048576) :
    Calls Tryd.prog 50 #[.agg #[.int .i64 b, .slice a n c], .int .i64 bud] w fun e w' => e = .returned (.int .i64 (rdC b l bud)) ∧ Below w.heap.size w w' := by
  have k1 := fun (wx : World) (hb : Below w.heap.size w wx) => spec_IsTraffic (b := b) (hI.keep hb) hn
  cases ht : trafB b l
  · rw [ht] at k1
    have K1 := Lib.hid k1
    have HT := Lib.hid ht
    clear k1 ht hI
    go_enter Tryd.func50, Tryd.ntmps50
    go_wp2_with fail
    refine Calls.mono (K1.out _ (by repeat (first | exact Below.refl _ _ | assumption | refine below_allocS ?_ _ | refine below_callS ?_ (by assumption) | (refine Below.alloc ?_ (by first | omega | (simp; done) | (simp; omega)) _) | (refine Below.setCell ?_ (by first | omega | (simp; done) | (simp; omega)) _) | refine Below.drew ?_ | refine below_drewN ?_ _ | (refine below_call ?_ (by assumption) (by first | omega | (simp; done) | (simp; omega))) | (refine Below.trans ?_ (by assumption))))) ?_
    rintro e w1 ⟨rfl, hb_w1⟩
    obtain ⟨hc_w1, hf_w1⟩ := bcell hb_w1
    have hs_w1 := hb_w1.size
    go_wp2
    go_ret
    exact ⟨ret_int (by rw [rdC, HT.out]; rfl), by repeat (first | exact Below.refl _ _ | assumption | refine below_allocS ?_ _ | refine below_callS ?_ (by assumption) | (refine Below.alloc ?_ (by first | omega | (simp; done) | (simp; omega)) _) | (refine Below.setCell ?_ (by first | omega | (simp; done) | (simp; omega)) _) | refine Below.drew ?_ | refine below_drewN ?_ _ | (refine below_call ?_ (by assumption) (by first | omega | (simp; done) | (simp; omega))) | (refine Below.trans ?_ (by assumption)))⟩
  · rw [ht] at k1
    have K1 := Lib.hid k1
    have HT := Lib.hid ht
    clear k1 ht hI
    cases hb : inB bud 0 2
    all_goals
      have HB := Lib.hid hb
      clear hb
      go_enter Tryd.func50, Tryd.ntmps50
      go_wp2_with fail
      refine Calls.mono (K1.out _ (by repeat (first | exact Below.refl _ _ | assumption | refine below_allocS ?_ _ | refine below_callS ?_ (by assumption) | (refine Below.alloc ?_ (by first | omega | (simp; done) | (simp; omega)) _) | (refine Below.setCell ?_ (by first | omega | (simp; done) | (simp; omega)) _) | refine Below.drew ?_ | refine below_drewN ?_ _ | (refine below_call ?_ (by assumption) (by first | omega | (simp; done) | (simp; omega))) | (refine Below.trans ?_ (by assumption))))) ?_
      rintro e w1 ⟨rfl, hb_w1⟩
      obtain ⟨hc_w1, hf_w1⟩ := bcell hb_w1
      have hs_w1 := hb_w1.size
      go_wp2_with fail
      refine Calls.mono (spec_l01In) ?_
      rintro e _ ⟨rfl, rfl⟩
      rw [HB.out]
      go_wp2
      go_ret
      exact ⟨ret_int (by rw [rdC, HT.out, HB.out]; rfl), by repeat (first | exact Below.refl _ _ | assumption | refine below_allocS ?_ _ | refine below_callS ?_ (by assumption) | (refine Below.alloc ?_ (by first | omega | (simp; done) | (simp; omega)) _) | (refine Below.setCell ?_ (by first | omega | (simp; done) | (simp; omega)) _) | refine Below.drew ?_ | refine below_drewN ?_ _ | (refine below_call ?_ (by assumption) (by first | omega | (simp; done) | (simp; omega))) | (refine Below.trans ?_ (by assumption)))⟩
set_option maxHeartbeats 1000000 in
theorem impl_rideCode {b bud : Int} {a : Option Addr} {n c : Nat} {l : List Int} {w : World} (hI : Ints w a n c l) (hn : n ≤ 1048576) :
    Calls Tryd.prog 53 #[.agg #[.int .i64 b, .slice a n c], .int .i64 bud] w fun e w' => e = .returned (.int .i64 (rdC b l bud)) ∧ Below w.heap.size w w' := by
  have k1 := fun (wx : World) (hb : Below w.heap.size w wx) => impl_IsTraffic (b := b) (hI.keep hb) hn
  cases ht : trafB b l
  · rw [ht] at k1
    have K1 := Lib.hid k1
    have HT := Lib.hid ht
    clear k1 ht hI
    go_enter Tryd.func53, Tryd.ntmps53
    go_wp2_with fail
    refine Calls.mono (K1.out _ (by repeat (first | exact Below.refl _ _ | assumption | refine below_allocS ?_ _ | refine below_callS ?_ (by assumption) | (refine Below.alloc ?_ (by first | omega | (simp; done) | (simp; omega)) _) | (refine Below.setCell ?_ (by first | omega | (simp; done) | (simp; omega)) _) | refine Below.drew ?_ | refine below_drewN ?_ _ | (refine below_call ?_ (by assumption) (by first | omega | (simp; done) | (simp; omega))) | (refine Below.trans ?_ (by assumption))))) ?_
    rintro e w1 ⟨rfl, hb_w1⟩
    obtain ⟨hc_w1, hf_w1⟩ := bcell hb_w1
    have hs_w1 := hb_w1.size
    go_wp2
    go_ret
    exact ⟨ret_int (by rw [rdC, HT.out]; rfl), by repeat (first | exact Below.refl _ _ | assumption | refine below_allocS ?_ _ | refine below_callS ?_ (by assumption) | (refine Below.alloc ?_ (by first | omega | (simp; done) | (simp; omega)) _) | (refine Below.setCell ?_ (by first | omega | (simp; done) | (simp; omega)) _) | refine Below.drew ?_ | refine below_drewN ?_ _ | (refine below_call ?_ (by assumption) (by first | omega | (simp; done) | (simp; omega))) | (refine Below.trans ?_ (by assumption)))⟩
  · rw [ht] at k1
    have K1 := Lib.hid k1
    have HT := Lib.hid ht
    clear k1 ht hI
    cases hb : inB bud 0 2
    all_goals
      have HB := Lib.hid hb
      clear hb
      go_enter Tryd.func53, Tryd.ntmps53
      go_wp2_with fail
      refine Calls.mono (K1.out _ (by repeat (first | exact Below.refl _ _ | assumption | refine below_allocS ?_ _ | refine below_callS ?_ (by assumption) | (refine Below.alloc ?_ (by first | omega | (simp; done) | (simp; omega)) _) | (refine Below.setCell ?_ (by first | omega | (simp; done) | (simp; omega)) _) | refine Below.drew ?_ | refine below_drewN ?_ _ | (refine below_call ?_ (by assumption) (by first | omega | (simp; done) | (simp; omega))) | (refine Below.trans ?_ (by assumption))))) ?_
      rintro e w1 ⟨rfl, hb_w1⟩
      obtain ⟨hc_w1, hf_w1⟩ := bcell hb_w1
      have hs_w1 := hb_w1.size
      go_wp2_with fail
      refine Calls.mono (impl_within) ?_
      rintro e _ ⟨rfl, rfl⟩
      rw [HB.out]
      go_wp2
      go_ret
      exact ⟨ret_int (by rw [rdC, HT.out, HB.out]; rfl), by repeat (first | exact Below.refl _ _ | assumption | refine below_allocS ?_ _ | refine below_callS ?_ (by assumption) | (refine Below.alloc ?_ (by first | omega | (simp; done) | (simp; omega)) _) | (refine Below.setCell ?_ (by first | omega | (simp; done) | (simp; omega)) _) | refine Below.drew ?_ | refine below_drewN ?_ _ | (refine below_call ?_ (by assumption) (by first | omega | (simp; done) | (simp; omega))) | (refine Below.trans ?_ (by assumption)))⟩
def rdL (b : Int) (l : List Int) (bud : Int) (sec : Bool) : List I3 := kindsL l.length b.toNat bud.toNat sec
def rrC (b : Int) (l : List Int) (bud : Int) (sec : Bool) (r : Int) : Int := if rdC b l bud = 0 then (if inB r 0 ((rdL b l bud sec).length - 1) = true then 0 else 4) else rdC b l bud
def rrX (b : Int) (l : List Int) (bud : Int) (sec : Bool) (r : Int) : I3 := if rrC b l bud sec r = 0 then (rdL b l bud sec).getD r.toNat ⟨0, 0, 0⟩ else ⟨0, 0, 0⟩
theorem rdC_ok {b bud : Int} {l : List Int} (h : rdC b l bud = 0) : 2 ≤ b ∧ b ≤ 8 ∧ 1 ≤ l.length ∧ l.length ≤ 4 ∧ 0 ≤ bud ∧ bud ≤ 2 := by
  unfold rdC at h
  split at h
  · omega
  · rename_i ht
    split at h
    · omega
    · rename_i hb
      have h1 := trafB_split (by simpa using ht)
      have h2 : inB bud 0 2 = true := by simpa using hb
      simp [inB] at h2
      exact ⟨h1.1, h1.2.1, h1.2.2.1, h1.2.2.2.1, h2.1, h2.2⟩
theorem ret_i4 {a b c d a' b' c' d' : Int} (h1 : a = a') (h2 : b = b') (h3 : c = c') (h4 : d = d') : Ending.returned (.tuple #[.int .i64 a, .int .i64 b, .int .i64 c, .int .i64 d]) = .returned (.tuple #[.int .i64 a', .int .i64 b', .int .i64 c', .int .i64 d']) := by rw [h1, h2, h3, h4]
set_option maxHeartbeats 1000000 in
theorem spec_RideRule {b bud r : Int} {a : Option Addr} {n c : Nat} {l : List Int} {sec : Bool} {w : World} (hI : Ints w a n c l) (hn : n ≤ 1048576) :
    Calls Tryd.prog 16 #[.agg #[.int .i64 b, .slice a n c], .int .i64 bud, .bool sec, .int .i64 r] w fun e w' => e = .returned (.tuple #[.int .i64 (rrX b l bud sec r).a, .int .i64 (rrX b l bud sec r).b, .int .i64 (rrX b l bud sec r).c, .int .i64 (rrC b l bud sec r)]) ∧ Below w.heap.size w w' := by
  have k1 := fun (wx : World) (hb : Below w.heap.size w wx) => spec_l24Code (b := b) (bud := bud) (hI.keep hb) hn
  have hl := hI.len
  by_cases h0 : rdC b l bud = 0
  · obtain ⟨g1, g2, g3, g4, g5, g6⟩ := rdC_ok h0
    obtain ⟨B, rfl⟩ := Int.eq_ofNat_of_zero_le (show 0 ≤ b by omega)
    obtain ⟨D, rfl⟩ := Int.eq_ofNat_of_zero_le g5
    rw [h0] at k1
    have K1 := Lib.hid k1
    have k2 := fun (wx : World) => spec_l24Kinds (B := B) (bud := D) (n := n) (c := c) (a := a) (sec := sec) (w := wx) (by omega) (by omega) (by omega)
    have hL : rdL (B : Int) l (D : Int) sec = kindsL n B D sec := by rw [rdL, hl]; rfl
    have hC : rrC (B : Int) l (D : Int) sec r = if inB r 0 ((kindsL n B D sec).length - 1) = true then 0 else 4 := by rw [rrC, if_pos h0, hL]
    have hX : rrX (B : Int) l (D : Int) sec r = if inB r 0 ((kindsL n B D sec).length - 1) = true then (kindsL n B D sec).getD r.toNat ⟨0, 0, 0⟩ else ⟨0, 0, 0⟩ := by
      rw [rrX, hC, hL]
      cases inB r 0 ((kindsL n B D sec).length - 1) <;> rfl
    generalize rrC (B : Int) l (D : Int) sec r = C at *
    generalize rrX (B : Int) l (D : Int) sec r = Y at *
    generalize kindsL n B D sec = L at *
    have K2 := Lib.hid k2
    have HC := Lib.hid hC
    have HX := Lib.hid hX
    clear k1 k2 hC hX hL h0 hI hl
    go_enter Tryd.func16, Tryd.ntmps16
    go_wp2_with fail
    refine Calls.mono (K1.out _ (by repeat (first | exact Below.refl _ _ | assumption | refine below_allocS ?_ _ | refine below_callS ?_ (by assumption) | (refine Below.alloc ?_ (by first | omega | (simp; done) | (simp; omega)) _) | (refine Below.setCell ?_ (by first | omega | (simp; done) | (simp; omega)) _) | refine Below.drew ?_ | refine below_drewN ?_ _ | (refine below_call ?_ (by assumption) (by first | omega | (simp; done) | (simp; omega))) | (refine Below.trans ?_ (by assumption))))) ?_
    rintro e w1 ⟨rfl, hb_w1⟩
    obtain ⟨hc_w1, hf_w1⟩ := bcell hb_w1
    have hs_w1 := hb_w1.size
    simp at hs_w1
    have hz1 : w.heap.size < w1.heap.size := by omega
    go_wp2_with fail
    refine Calls.mono (K2.out _) ?_
    rintro e w2 ⟨a2, m, c2, rfl, ho, hm, hb_w2⟩
    obtain ⟨hc_w2, hf_w2⟩ := bcell hb_w2
    have hs_w2 := hb_w2.size
    have hlen := ho.len
    have O := Lib.hid ho.flats
    clear ho
    have hm1 : IntKind.i64.wrap ((m : Int) - 1) = (m : Int) - 1 := IntWalk.i64_in _ (by omega)
    rw [hlen] at HC HX
    have HC' := Lib.hid HC.out
    cases hr : inB r 0 ((m : Int) - 1)
    · have HR := Lib.hid hr
      clear hr
      go_wp2_with fail
      refine Calls.mono (spec_l01In) ?_
      rintro e _ ⟨rfl, rfl⟩
      rw [HR.out]
      go_wp2
      exact bodyPost_ret (v := .tuple #[.int .i64 0, .int .i64 0, .int .i64 0, .int .i64 4]) (by simp [results, Tryd.results16, go_sem]) rfl ⟨ret_i4 (by rw [HX.out, HR.out]; rfl) (by rw [HX.out, HR.out]; rfl) (by rw [HX.out, HR.out]; rfl) (by rw [HC.out, HR.out]; rfl), by repeat (first | exact Below.refl _ _ | assumption | refine below_allocS ?_ _ | refine below_callS ?_ (by assumption) | (refine Below.alloc ?_ (by first | omega | (simp; done) | (simp; omega)) _) | (refine Below.setCell ?_ (by first | omega | (simp; done) | (simp; omega)) _) | refine Below.drew ?_ | refine below_drewN ?_ _ | (refine below_call ?_ (by assumption) (by first | omega | (simp; done) | (simp; omega))) | (refine Below.trans ?_ (by assumption)))⟩
    · have HR := Lib.hid hr
      have hr2 := hr
      simp [inB] at hr2
      obtain ⟨q, rfl⟩ := Int.eq_ofNat_of_zero_le hr2.1
      clear hr
      obtain ⟨bb, off, x, rfl, hbb, hx, hwf, c0, c1, c2'⟩ := F3.get O.out (i := q) (by omega)
      have Hx := Lib.hid hx
      clear hx
      have hq0 : (0 : Int) ≤ (q : Int) := by omega
      have hq1 : (q : Int) < (m : Int) := by omega
      go_wp2_with fail
      refine Calls.mono (spec_l01In) ?_
      rintro e _ ⟨rfl, rfl⟩
      rw [HR.out]
      go_wp2
      go_quiet (fail)
      go_wp2
      have hY : Y = x := by rw [HX.out, HR.out, if_pos rfl, Int.toNat_natCast, List.getD_eq_getElem?_getD, Hx.out]; rfl
      have hb2 : Below w.heap.size w w2 := by repeat (first | exact Below.refl _ _ | assumption | refine below_allocS ?_ _ | refine below_callS ?_ (by assumption) | (refine Below.alloc ?_ (by first | omega | (simp; done) | (simp; omega)) _) | (refine Below.setCell ?_ (by first | omega | (simp; done) | (simp; omega)) _) | refine Below.drew ?_ | refine below_drewN ?_ _ | (refine below_call ?_ (by assumption) (by first | omega | (simp; done) | (simp; omega))) | (refine Below.trans ?_ (by assumption)))
      exact bodyPost_ret (v := .tuple #[.int .i64 x.a, .int .i64 x.b, .int .i64 x.c, .int .i64 0]) (by simp [results, Tryd.results16, go_sem]) rfl ⟨ret_i4 (by rw [hY]) (by rw [hY]) (by rw [hY]) (by rw [HC.out, HR.out]; rfl), below_drewN hb2 _⟩
  · have hC : rrC b l bud sec r = rdC b l bud := by rw [rrC, if_neg h0]
    have hX : rrX b l bud sec r = ⟨0, 0, 0⟩ := by rw [rrX, hC, if_neg h0]
    rw [hC, hX]
    generalize rdC b l bud = C at *
    have K1 := Lib.hid k1
    have hC' : (C != 0) = true := by simpa using h0
    clear k1 hC hX h0 hI hl
    go_enter Tryd.func16, Tryd.ntmps16
    go_wp2_with fail
    refine Calls.mono (K1.out _ (by repeat (first | exact Below.refl _ _ | assumption | refine below_allocS ?_ _ | refine below_callS ?_ (by assumption) | (refine Below.alloc ?_ (by first | omega | (simp; done) | (simp; omega)) _) | (refine Below.setCell ?_ (by first | omega | (simp; done) | (simp; omega)) _) | refine Below.drew ?_ | refine below_drewN ?_ _ | (refine below_call ?_ (by assumption) (by first | omega | (simp; done) | (simp; omega))) | (refine Below.trans ?_ (by assumption))))) ?_
    rintro e w1 ⟨rfl, hb_w1⟩
    obtain ⟨hc_w1, hf_w1⟩ := bcell hb_w1
    have hs_w1 := hb_w1.size
    go_wp2
    exact bodyPost_ret (v := .tuple #[.int .i64 0, .int .i64 0, .int .i64 0, .int .i64 C]) (by simp [results, Tryd.results16, go_sem]) rfl ⟨rfl, by repeat (first | exact Below.refl _ _ | assumption | refine below_allocS ?_ _ | refine below_callS ?_ (by assumption) | (refine Below.alloc ?_ (by first | omega | (simp; done) | (simp; omega)) _) | (refine Below.setCell ?_ (by first | omega | (simp; done) | (simp; omega)) _) | refine Below.drew ?_ | refine below_drewN ?_ _ | (refine below_call ?_ (by assumption) (by first | omega | (simp; done) | (simp; omega))) | (refine Below.trans ?_ (by assumption)))⟩
end Go.Proofs.YtfhogleillgcgaaDoor
