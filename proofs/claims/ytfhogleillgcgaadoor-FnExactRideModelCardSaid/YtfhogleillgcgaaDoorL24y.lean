/- What a rule of a ride model is: the program's function, walked; the law. -/
import Derived.Test.YtfhogleillgcgaaDoorL24x
import Derived.Test.YtfhogleillgcgaaDoorL24r
namespace Go.Proofs.YtfhogleillgcgaaDoor
open Go.RowKit
set_option linter.unusedVariables false
set_option linter.unusedSimpArgs false
theorem RDs.get {w : World} {base : Nat} {L : List RR} {S : List RS} (h : RDs w base L S) {K : List I3} (hK : S.map (·.x) = K) {q : Nat} {r : RR} (hr : L[q]? = some r) : K[q]? = some r.x := by
  rw [← hK, ← h.xs, List.getElem?_map, hr]; rfl
theorem F6.get {ok : RR → Prop} {w : World} {a : Option Addr} {n c : Nat} {l : List RR} (h : Flats 6 RR.enc ok w a n c l) {i : Nat} (hi : i < n) :
    ∃ b off x, a = some ⟨b, off, none⟩ ∧ b < w.heap.size ∧ l[i]? = some x ∧ w.cell? ⟨b, off + i * 6, none⟩ = some (.string x.nm) ∧ w.cell? ⟨b, off + i * 6 + 1, none⟩ = some (.slice x.ga x.gn x.gc) ∧ w.cell? ⟨b, off + i * 6 + 2, none⟩ = some (.slice x.ea x.en x.ec) ∧ w.cell? ⟨b, off + i * 6 + 3, none⟩ = some (.int .i64 x.x.a) ∧ w.cell? ⟨b, off + i * 6 + 4, none⟩ = some (.int .i64 x.x.b) ∧ w.cell? ⟨b, off + i * 6 + 5, none⟩ = some (.int .i64 x.x.c) := by
  obtain ⟨b, off, x, h1, h2, h3, h4, h5⟩ := h.at hi
  exact ⟨b, off, x, h1, h2, h3, h5 0 _ rfl, h5 1 _ rfl, h5 2 _ rfl, h5 3 _ rfl, h5 4 _ rfl, h5 5 _ rfl⟩
set_option maxHeartbeats 1000000 in
theorem impl_RideRule {b bud r : Int} {a : Option Addr} {n c : Nat} {l : List Int} {sec : Bool} {w : World} (hT : Tab w 2 (strsCells ruleNm)) (hI : Ints w a n c l) (hn : n ≤ 1048576) :
    Calls Tryd.prog 18 #[.agg #[.int .i64 b, .slice a n c], .int .i64 bud, .bool sec, .int .i64 r] w fun e w' => e = .returned (.tuple #[.int .i64 (rrX b l bud sec r).a, .int .i64 (rrX b l bud sec r).b, .int .i64 (rrX b l bud sec r).c, .int .i64 (rrC b l bud sec r)]) ∧ Below w.heap.size w w' := by
  have HT := Lib.hid hT
  have k1 := fun (wx : World) (hb : Below w.heap.size w wx) => impl_rideCode (b := b) (bud := bud) (hI.keep hb) hn
  have hl := hI.len
  by_cases h0 : rdC b l bud = 0
  · obtain ⟨g1, g2, g3, g4, g5, g6⟩ := rdC_ok h0
    obtain ⟨B, rfl⟩ := Int.eq_ofNat_of_zero_le (show 0 ≤ b by omega)
    obtain ⟨D, rfl⟩ := Int.eq_ofNat_of_zero_le g5
    rw [h0] at k1
    have K1 := Lib.hid k1
    have k2 := fun (wx : World) (hb : Below w.heap.size w wx) => impl_rules (B := B) (bud := D) (n := n) (c := c) (a := a) (sec := sec) (w := wx) (HT.out.keep hb) (by omega) (by omega) (by omega) (by omega)
    have hX0 := rulesS_x n B D sec
    have hL : rdL (B : Int) l (D : Int) sec = kindsL n B D sec := by rw [rdL, hl]; rfl
    have hC : rrC (B : Int) l (D : Int) sec r = if inB r 0 ((kindsL n B D sec).length - 1) = true then 0 else 4 := by rw [rrC, if_pos h0, hL]
    have hX : rrX (B : Int) l (D : Int) sec r = if inB r 0 ((kindsL n B D sec).length - 1) = true then (kindsL n B D sec).getD r.toNat ⟨0, 0, 0⟩ else ⟨0, 0, 0⟩ := by
      rw [rrX, hC, hL]
      cases inB r 0 ((kindsL n B D sec).length - 1) <;> rfl
    generalize rrC (B : Int) l (D : Int) sec r = C at *
    generalize rrX (B : Int) l (D : Int) sec r = Y at *
    generalize kindsL n B D sec = KL at *
    generalize rulesS n B D sec = S at *
    have HX0 := Lib.hid hX0
    have K2 := Lib.hid k2
    have HC := Lib.hid hC
    have HX := Lib.hid hX
    clear k1 k2 hC hX hL h0 hI hl hX0 hT
    go_enter Tryd.func18, Tryd.ntmps18
    go_wp2_with fail
    refine Calls.mono (K1.out _ (by repeat (first | exact Below.refl _ _ | assumption | refine below_allocS ?_ _ | refine below_callS ?_ (by assumption) | (refine Below.alloc ?_ (by first | omega | (simp; done) | (simp; omega)) _) | (refine Below.setCell ?_ (by first | omega | (simp; done) | (simp; omega)) _) | refine Below.drew ?_ | refine below_drewN ?_ _ | (refine below_call ?_ (by assumption) (by first | omega | (simp; done) | (simp; omega))) | (refine Below.trans ?_ (by assumption))))) ?_
    rintro e w1 ⟨rfl, hb_w1⟩
    obtain ⟨hc_w1, hf_w1⟩ := bcell hb_w1
    have hs_w1 := hb_w1.size
    simp at hs_w1
    have hz1 : w.heap.size < w1.heap.size := by omega
    go_wp2_with fail
    refine Calls.mono (K2.out _ (by repeat (first | exact Below.refl _ _ | assumption | refine below_allocS ?_ _ | refine below_callS ?_ (by assumption) | (refine Below.alloc ?_ (by first | omega | (simp; done) | (simp; omega)) _) | (refine Below.setCell ?_ (by first | omega | (simp; done) | (simp; omega)) _) | refine Below.drew ?_ | refine below_drewN ?_ _ | (refine below_call ?_ (by assumption) (by first | omega | (simp; done) | (simp; omega))) | (refine Below.trans ?_ (by assumption))))) ?_
    rintro e w2 ⟨a2, m, c2, L, rfl, hR, hm, hb_w2⟩
    obtain ⟨hc_w2, hf_w2⟩ := bcell hb_w2
    have hs_w2 := hb_w2.size
    have hlen := hR.own.len
    have hlk : KL.length = m := by rw [← hlen, ← HX0.out, List.length_map, hR.rds.len]
    have O := Lib.hid hR.own.flats
    have R := Lib.hid hR.rds
    clear hR
    have hm1 : IntKind.i64.wrap ((m : Int) - 1) = (m : Int) - 1 := IntWalk.i64_in _ (by omega)
    rw [hlk] at HC HX
    have HC' := Lib.hid HC.out
    have HLK := Lib.hid hlk
    clear hlk
    cases hr : inB r 0 ((m : Int) - 1)
    · have HR := Lib.hid hr
      clear hr
      go_wp2_with fail
      refine Calls.mono (impl_length_rr) ?_
      rintro e _ ⟨rfl, rfl⟩
      go_wp2_with fail
      refine Calls.mono (impl_within) ?_
      rintro e _ ⟨rfl, rfl⟩
      rw [HR.out]
      go_wp2
      exact bodyPost_ret (v := .tuple #[.int .i64 0, .int .i64 0, .int .i64 0, .int .i64 4]) (by simp [results, Tryd.results18, go_sem]) rfl ⟨ret_i4 (by rw [HX.out, HR.out]; rfl) (by rw [HX.out, HR.out]; rfl) (by rw [HX.out, HR.out]; rfl) (by rw [HC.out, HR.out]; rfl), by repeat (first | exact Below.refl _ _ | assumption | refine below_allocS ?_ _ | refine below_callS ?_ (by assumption) | (refine Below.alloc ?_ (by first | omega | (simp; done) | (simp; omega)) _) | (refine Below.setCell ?_ (by first | omega | (simp; done) | (simp; omega)) _) | refine Below.drew ?_ | refine below_drewN ?_ _ | (refine below_call ?_ (by assumption) (by first | omega | (simp; done) | (simp; omega))) | (refine Below.trans ?_ (by assumption)))⟩
    · have HR := Lib.hid hr
      have hr2 := hr
      simp [inB] at hr2
      obtain ⟨q, rfl⟩ := Int.eq_ofNat_of_zero_le hr2.1
      clear hr
      obtain ⟨bb, off, x, rfl, hbb, hx, c0, c1, c2', c3, c4, c5⟩ := F6.get O.out (i := q) (by omega)
      have Hx := Lib.hid (R.out.get HX0.out hx)
      clear hx
      have hq0 : (0 : Int) ≤ (q : Int) := by omega
      have hq1 : (q : Int) < (m : Int) := by omega
      go_wp2_with fail
      refine Calls.mono (impl_length_rr) ?_
      rintro e _ ⟨rfl, rfl⟩
      go_wp2_with fail
      refine Calls.mono (impl_within) ?_
      rintro e _ ⟨rfl, rfl⟩
      rw [HR.out]
      go_wp2
      go_quiet (fail)
      go_wp2
      have hY : Y = x.x := by rw [HX.out, HR.out, if_pos rfl, Int.toNat_natCast, List.getD_eq_getElem?_getD, Hx.out]; rfl
      have hb2 : Below w.heap.size w w2 := by repeat (first | exact Below.refl _ _ | assumption | refine below_allocS ?_ _ | refine below_callS ?_ (by assumption) | (refine Below.alloc ?_ (by first | omega | (simp; done) | (simp; omega)) _) | (refine Below.setCell ?_ (by first | omega | (simp; done) | (simp; omega)) _) | refine Below.drew ?_ | refine below_drewN ?_ _ | (refine below_call ?_ (by assumption) (by first | omega | (simp; done) | (simp; omega))) | (refine Below.trans ?_ (by assumption)))
      exact bodyPost_ret (v := .tuple #[.int .i64 x.x.a, .int .i64 x.x.b, .int .i64 x.x.c, .int .i64 0]) (by simp [results, Tryd.results18, go_sem]) rfl ⟨ret_i4 (by rw [hY]) (by rw [hY]) (by rw [hY]) (by rw [HC.out, HR.out]; rfl), below_drewN hb2 _⟩
  · have hC : rrC b l bud sec r = rdC b l bud := by rw [rrC, if_neg h0]
    have hX : rrX b l bud sec r = ⟨0, 0, 0⟩ := by rw [rrX, hC, if_neg h0]
    rw [hC, hX]
    generalize rdC b l bud = C at *
    have K1 := Lib.hid k1
    have hC' : (C != 0) = true := by simpa using h0
    clear k1 hC hX h0 hI hl hT
    go_enter Tryd.func18, Tryd.ntmps18
    go_wp2_with fail
    refine Calls.mono (K1.out _ (by repeat (first | exact Below.refl _ _ | assumption | refine below_allocS ?_ _ | refine below_callS ?_ (by assumption) | (refine Below.alloc ?_ (by first | omega | (simp; done) | (simp; omega)) _) | (refine Below.setCell ?_ (by first | omega | (simp; done) | (simp; omega)) _) | refine Below.drew ?_ | refine below_drewN ?_ _ | (refine below_call ?_ (by assumption) (by first | omega | (simp; done) | (simp; omega))) | (refine Below.trans ?_ (by assumption))))) ?_
    rintro e w1 ⟨rfl, hb_w1⟩
    obtain ⟨hc_w1, hf_w1⟩ := bcell hb_w1
    have hs_w1 := hb_w1.size
    go_wp2
    exact bodyPost_ret (v := .tuple #[.int .i64 0, .int .i64 0, .int .i64 0, .int .i64 C]) (by simp [results, Tryd.results18, go_sem]) rfl ⟨rfl, by repeat (first | exact Below.refl _ _ | assumption | refine below_allocS ?_ _ | refine below_callS ?_ (by assumption) | (refine Below.alloc ?_ (by first | omega | (simp; done) | (simp; omega)) _) | (refine Below.setCell ?_ (by first | omega | (simp; done) | (simp; omega)) _) | refine Below.drew ?_ | refine below_drewN ?_ _ | (refine below_call ?_ (by assumption) (by first | omega | (simp; done) | (simp; omega))) | (refine Below.trans ?_ (by assumption)))⟩
end Go.Proofs.YtfhogleillgcgaaDoor
