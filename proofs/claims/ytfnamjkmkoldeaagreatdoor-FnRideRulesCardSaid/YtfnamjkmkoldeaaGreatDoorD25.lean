/- The draw of a ride model with a trace, walked. -/
import Derived.Test.YtfnamjkmkoldeaaGreatDoorQz
import Derived.Test.YtfnamjkmkoldeaaGreatDoorSb
import Derived.Test.YtfnamjkmkoldeaaGreatDoorQo
import Derived.Test.YtfnamjkmkoldeaaGreatDoorRs
namespace Go.Proofs.YtfnamjkmkoldeaaGreatDoor
open Go.RowKit
set_option linter.unusedVariables false
set_option linter.unusedSimpArgs false
theorem enabI_mem {rs : List RuD} {v : List Int} {j : Nat} {x : Int} (h : x ∈ enabI rs v j) : ∃ k : Nat, x = (k : Int) ∧ k < j := by
  rw [enabI] at h
  obtain ⟨k, hk, rfl⟩ := List.mem_map.1 h
  exact ⟨k, rfl, List.mem_range.1 (List.mem_filter.1 hk).1⟩
/-- nothing below B is written -/
theorem Only.lowB {B : Nat} {w w' : World} (h : Below B w w') : Only B w'.heap.size w w' :=
  ⟨h.os, h.tape, h.output, h.size, fun k hk hr => h.block k (by have := h.size; omega)⟩
theorem SOw.keep {w w' : World} {lo : Nat} {sa : Option Addr} {sn sc : Nat} {ta : Option Addr} {tn tc : Nat} {ra : Option Addr} {rn rc : Nat} {sz st : List Int} {rs : List RuD} (h : SOw w lo sa sn sc ta tn tc ra rn rc sz st rs) (hb : Below w.heap.size w w') : SOw w' lo sa sn sc ta tn tc ra rn rc sz st rs :=
  ⟨h.s.keep hb, h.t.keep hb, h.r.keep hb, h.sn, h.tn, h.rn⟩
set_option maxRecDepth 100000 in
set_option maxHeartbeats 8000000 in
theorem spec_l25DrawTrace {b lo : Nat} {w0 w : World} (hS : Dw 134 lo b w0 w) :
    Calls Tryz.prog 68 #[.pointer (some ⟨b, 0, none⟩)] w fun e w' => ∃ B a n c l bud sec ta tn tc tr, e = .returned (.tuple #[.agg #[.int .i64 B, .slice a n c], .int .i64 bud, .bool sec, .slice ta tn tc]) ∧ OwnI 2 w' w.heap.size a n c l ∧ n ≤ 5 ∧ 1 ≤ B ∧ B ≤ 9 ∧ -1 ≤ bud ∧ bud ≤ 3 ∧ OwnI 2 w' w.heap.size ta tn tc tr ∧ tn ≤ 300 ∧ Dw 134 lo b w w' := by
  have HD := Lib.hid hS.start
  have hbw := hS.src.lt.2
  clear hS
  have R := Lib.hid (Blk.made w #[.int .i64 0, .slice none 0 0] 28)
  go_enter Tryz.func68, Tryz.ntmps68
  go_wp2_with fail
  refine Calls.mono (spec_l24Draw (HD.out.below (show Below w.heap.size w (w.alloc (.cells #[.int .i64 0, .slice none 0 0] 28)) by repeat (first | exact Below.refl _ _ | assumption | refine below_allocS ?_ _ | refine below_callS ?_ (by assumption) | (refine Below.alloc ?_ (by first | omega | (simp; done) | (simp; omega)) _) | (refine Below.setCell ?_ (by first | omega | (simp; done) | (simp; omega)) _) | refine Below.drew ?_ | refine below_drewN ?_ _ | (refine below_call ?_ (by assumption) (by first | omega | (simp; done) | (simp; omega))) | (refine Below.trans ?_ (by assumption)))))) ?_
  rintro e w1 ⟨B, a1, n1, c1, l1, bu, sec, rfl, ho, hn1, hB1, hB9, hm1, hm2, hd⟩
  have hs1 := hd.size
  simp at hs1
  replace R := Lib.hid (R.out.dw hd (by omega))
  replace HD := Lib.hid ((HD.out.below (show Below w.heap.size w (w.alloc (.cells #[.int .i64 0, .slice none 0 0] 28)) by repeat (first | exact Below.refl _ _ | assumption | refine below_allocS ?_ _ | refine below_callS ?_ (by assumption) | (refine Below.alloc ?_ (by first | omega | (simp; done) | (simp; omega)) _) | (refine Below.setCell ?_ (by first | omega | (simp; done) | (simp; omega)) _) | refine Below.drew ?_ | refine below_drewN ?_ _ | (refine below_call ?_ (by assumption) (by first | omega | (simp; done) | (simp; omega))) | (refine Below.trans ?_ (by assumption))))).trans hd)
  have ho1 := ho.le (show w.heap.size + 1 ≤ _ by simp)
  have OT := Lib.hid ho1.own
  obtain ⟨W, hW⟩ : ∃ W, W = (w1.alloc (.cells #[.int .i64 B, .slice a1 n1 c1] 28)).alloc (.cells #[] 2) := ⟨_, rfl⟩
  have hbW : Below w1.heap.size w1 W := by rw [hW]; repeat (first | exact Below.refl _ _ | assumption | refine below_allocS ?_ _ | refine below_callS ?_ (by assumption) | (refine Below.alloc ?_ (by first | omega | (simp; done) | (simp; omega)) _) | (refine Below.setCell ?_ (by first | omega | (simp; done) | (simp; omega)) _) | refine Below.drew ?_ | refine below_drewN ?_ _ | (refine below_call ?_ (by assumption) (by first | omega | (simp; done) | (simp; omega))) | (refine Below.trans ?_ (by assumption)))
  have hsW : W.heap.size = w1.heap.size + 2 := by rw [hW]; simp
  have X := Lib.hid (show Blk W w1.heap.size #[.int .i64 B, .slice a1 n1 c1] 28 by rw [hW]; exact (Blk.made w1 _ _).keep (by repeat (first | exact Below.refl _ _ | assumption | refine below_allocS ?_ _ | refine below_callS ?_ (by assumption) | (refine Below.alloc ?_ (by first | omega | (simp; done) | (simp; omega)) _) | (refine Below.setCell ?_ (by first | omega | (simp; done) | (simp; omega)) _) | refine Below.drew ?_ | refine below_drewN ?_ _ | (refine below_call ?_ (by assumption) (by first | omega | (simp; done) | (simp; omega))) | (refine Below.trans ?_ (by assumption)))))
  have O := Lib.hid (show OwnI 2 W (w1.heap.size + 1) (some ⟨w1.heap.size + 1, 0, none⟩) 0 0 [] by
    have h := OwnI.empty (E := 2) (w1.alloc (.cells #[.int .i64 B, .slice a1 n1 c1] 28)) (base := w1.heap.size + 1) (by simp)
    rw [hW]; simpa using h)
  have IW := Lib.hid (ho1.ints.keep hbW)
  replace R := Lib.hid (R.out.keep hbW)
  replace OT := Lib.hid (OT.out.keep hbW)
  replace HD := Lib.hid (HD.out.below hbW)
  clear hd ho ho1 hbW
  have K1 := Lib.hid (spec_l24Code (b := B) (bud := bu) IW.out (by omega))
  by_cases h0 : rdC B l1 bu = 0
  · obtain ⟨g1, g2, g3, g4, g5, g6⟩ := rdC_ok h0
    rw [h0] at K1
    obtain ⟨B, rfl⟩ := Int.eq_ofNat_of_zero_le (show 0 ≤ B by omega)
    obtain ⟨D, rfl⟩ := Int.eq_ofNat_of_zero_le g5
    have htr : trafB (B : Int) l1 = true := by
      cases ht : trafB (B : Int) l1 with
      | true => rfl
      | false => rw [rdC, if_pos ht] at h0; cases h0
    have hl1 := IW.out.len
    have HSV := Lib.hid (st_sv (B := B) (bud := D) hl1 (trafB_split htr).2.2.2.2)
    have HRV := Lib.hid (fun r hr => ruV_of (rideRs_ok (n := n1) (B := B) (bud := D) (sec := sec) (by omega) (by omega) (by omega) (by omega) r hr))
    have HZL := Lib.hid (sz_len n1 B D)
    have hRL := rideRs_len (n := n1) (B := B) (bud := D) (sec := sec) (by omega) (by omega) (by omega)
    clear h0 htr
    go_wp2_with fail
    rw [← hW]
    clear hW
    refine Calls.mono K1.out ?_
    rintro e w2 ⟨rfl, hb2⟩
    have hs2 := hb2.size
    replace R := Lib.hid (R.out.keep hb2)
    replace X := Lib.hid (X.out.keep hb2)
    replace OT := Lib.hid (OT.out.keep hb2)
    replace O := Lib.hid (O.out.keep hb2)
    replace HD := Lib.hid (HD.out.below hb2)
    have I2 := Lib.hid (IW.out.keep hb2)
    clear hb2 K1 IW
    have x0 := X.out.cell 0
    have x1 := X.out.cell 1
    have xl := X.out.lt
    simp at x0 x1
    go_wp2_with fail
    refine Calls.mono (spec_l24Model I2.out (by omega) (by omega) (by omega) (by omega)) ?_
    rintro e w3 ⟨sa, sn, sc, ta, tn, tc, ra, rn, rc, rfl, hso, hb3⟩
    have hs3 := hb3.size
    replace R := Lib.hid (R.out.keep hb3)
    replace X := Lib.hid (X.out.keep hb3)
    replace OT := Lib.hid (OT.out.keep hb3)
    replace O := Lib.hid (O.out.keep hb3)
    replace HD := Lib.hid (HD.out.below hb3)
    have SO := Lib.hid ((hso.le (show w2.heap.size ≤ w2.heap.size + 2 by omega)).own (Nat.le_refl _))
    have HTN := Lib.hid (show tn = n1 + B + 1 by rw [← hso.t.len, HSV.out.1, HZL.out])
    have htl : tn ≤ 20 := by have := HTN.out; omega
    have T3 := Lib.hid hso.t.ints
    clear hso hb3 x0 x1 xl I2
    have M := Lib.hid (Blk.made w3 #[.slice sa sn sc, .slice ta tn tc, .slice ra rn rc] 44)
    have hb4 : Below w3.heap.size w3 (w3.alloc (.cells #[.slice sa sn sc, .slice ta tn tc, .slice ra rn rc] 44)) := by repeat (first | exact Below.refl _ _ | assumption | refine below_allocS ?_ _ | refine below_callS ?_ (by assumption) | (refine Below.alloc ?_ (by first | omega | (simp; done) | (simp; omega)) _) | (refine Below.setCell ?_ (by first | omega | (simp; done) | (simp; omega)) _) | refine Below.drew ?_ | refine below_drewN ?_ _ | (refine below_call ?_ (by assumption) (by first | omega | (simp; done) | (simp; omega))) | (refine Below.trans ?_ (by assumption)))
    replace R := Lib.hid (R.out.keep hb4)
    replace X := Lib.hid (X.out.keep hb4)
    replace OT := Lib.hid (OT.out.keep hb4)
    replace O := Lib.hid (O.out.keep hb4)
    replace SO := Lib.hid (SO.out.keep hb4)
    replace HD := Lib.hid (HD.out.below hb4)
    replace T3 := Lib.hid (T3.out.keep hb4)
    go_wp2_with fail
    refine Calls.mono (spec_l01Own0 T3.out (by omega)) ?_
    rintro e w5 ⟨va, vc, rfl, hb5, hv5⟩
    have hs5 := hb5.size
    simp at hs5
    replace R := Lib.hid (R.out.keep hb5)
    replace X := Lib.hid (X.out.keep hb5)
    replace M := Lib.hid (M.out.keep hb5)
    replace OT := Lib.hid (OT.out.keep hb5)
    replace O := Lib.hid (O.out.keep hb5)
    replace SO := Lib.hid (SO.out.keep hb5)
    replace HD := Lib.hid (HD.out.below hb5)
    have V := Lib.hid (hv5.le (show w3.heap.size + 1 ≤ _ by simp)).own
    clear hb5 hb4 hv5 T3
    go_wp2_with fail
    refine Calls.mono (dw_next (b := b) (lo := lo) (by repeat (first | exact HD.out.src | with_reducible refine Src.alloc ?_ _ | with_reducible refine Src.drew ?_ | with_reducible refine Src.drewN ?_ _)) (by decide)) ?_
    rintro e w6 ⟨r6, rfl, h60, h61, hd⟩
    have hs6 := hd.size
    replace R := Lib.hid (R.out.dw hd (by omega))
    replace X := Lib.hid (X.out.dw hd (by omega))
    replace M := Lib.hid (M.out.dw hd (by omega))
    replace OT := Lib.hid (OT.out.apart hd.only (.inr (by omega)))
    replace O := Lib.hid (O.out.dw hd (by omega))
    replace SO := Lib.hid (SO.out.apart hd.only (.inr (by omega)))
    replace V := Lib.hid (V.out.apart hd.only (.inr (by omega)))
    replace HD := Lib.hid (HD.out.trans hd)
    obtain ⟨N, rfl⟩ := Int.eq_ofNat_of_zero_le h60
    have hN : N ≤ 13 := by omega
    clear hd h60 h61
    go_wp2_with fail
    go_loopw [9, 11, 12, 13, 14] (fun s9 s11 s12 _ _ wr => ∃ (go m co vc k v0 v1 : Nat) (va : Option Addr) (lo' v : List Int), s9 = .slice (some ⟨go, 0, none⟩) m co ∧ s11 = .slice va tn vc ∧ s12 = .int .i64 (k : Int) ∧ m + k ≤ 13 ∧ (go < w2.heap.size ∨ w3.heap.size ≤ go) ∧ (go < v0 ∨ v1 ≤ go) ∧ w5.heap.size ≤ wr.heap.size ∧ w3.heap.size + 1 ≤ v0 ∧ Hid (Blk wr w.heap.size #[.int .i64 0, .slice none 0 0] 28) ∧ Hid (Blk wr w1.heap.size #[.int .i64 (B : Int), .slice a1 n1 c1] 28) ∧ Hid (Blk wr w3.heap.size #[.slice sa sn sc, .slice ta tn tc, .slice ra rn rc] 44) ∧ Hid (Own (fun W => OwnI 2 W (w.heap.size + 1) a1 n1 c1 l1) (w.heap.size + 1) w1.heap.size wr) ∧ Hid (OwnI 2 wr (w1.heap.size + 1) (some ⟨go, 0, none⟩) m co lo') ∧ Hid (Own (fun W => SOb W w2.heap.size w3.heap.size sa sn sc ta tn tc ra rn rc (rideSz n1 B D) (rideSt l1 B D) (rideRs n1 B D sec)) w2.heap.size w3.heap.size wr) ∧ Hid (Own (fun W => OwnI 2 W v0 va tn vc v) v0 v1 wr) ∧ Hid (SV (rideSz n1 B D) v) ∧ Hid (Dw 134 lo b w wr)) (fun _ _ s12 _ _ _ => (intOf s12).toNat)
    case atStart => exact ⟨_, 0, _, _, N, _, _, _, _, _, rfl, rfl, rfl, by omega, by omega, by omega, by omega, by omega, R, X, M, OT, O, SO, V, HSV, HD⟩
    case round =>
      clear R X M OT O SO V HD
      obtain ⟨go, m, co, vc, k, v0, v1, va, lo', v, rfl, rfl, rfl, hmk, hgo1, hgo2, hsr, hv0, R, X, M, OT, O, SO, V, HV, HD⟩ := hrel
      have hv1 := V.out.upto
      have hgl := O.out.lt
      have hrn := SO.out.fact.rn
      by_cases hk : 0 < k
      · have hk' : (0 : Int) < (k : Int) := by omega
        obtain ⟨lr, hF, hLR⟩ := SO.out.fact.rd.r
        have hrl : (rideRs n1 B D sec).length = rn := by rw [← hLR, List.length_map]; exact hF.len
        have hrv : ∀ x ∈ lr, RuV (rideSz n1 B D) x.2 := fun x hx => HRV.out _ (by rw [← hLR]; exact List.mem_map_of_mem hx)
        have hzl := HZL.out
        have KE := Lib.hid (spec_l20Enabled (sa := sa) (sn := sn) (sc := sc) (ta := ta) (tn := tn) (tc := tc) (Below.refl _ _) hF (by omega) V.out.fact.ints (fun x hx t ht => by have := (hrv x hx).1 t ht; rw [hzl] at this; have := HTN.out; omega) (fun x hx => by obtain ⟨q1, q2, q3, q4, q5, q6⟩ := hF.wf x hx; exact q4))
        rw [hLR] at KE
        have HRL := Lib.hid hrl
        have x0 := M.out.cell 0
        have x1 := M.out.cell 1
        have x2 := M.out.cell 2
        have xl := M.out.lt
        simp at x0 x1 x2
        clear hF hrl hrv
        go_wp2_with fail
        refine Calls.mono KE.out ?_
        rintro e w8 ⟨ae, ne, ce, rfl, hoe, hne8, hb8⟩
        have hs8 := hb8.size
        replace R := Lib.hid (R.out.keep hb8)
        replace X := Lib.hid (X.out.keep hb8)
        replace M := Lib.hid (M.out.keep hb8)
        replace OT := Lib.hid (OT.out.keep hb8)
        replace O := Lib.hid (O.out.keep hb8)
        replace SO := Lib.hid (SO.out.keep hb8)
        replace V := Lib.hid (V.out.keep hb8)
        replace HD := Lib.hid (HD.out.below hb8)
        have OE := Lib.hid hoe
        clear hoe hb8 x0 x1 x2 xl KE
        by_cases he : ne = 0
        · subst he
          have hD5 := HD.out.size
          go_wp2_with fail
          refine Calls.mono (dw_next (b := b) (lo := lo) (by repeat (first | exact HD.out.src | with_reducible refine Src.alloc ?_ _ | with_reducible refine Src.drew ?_ | with_reducible refine Src.drewN ?_ _)) (by decide)) ?_
          rintro e wt ⟨rt, rfl, ht0, ht1, hd⟩
          have hst := hd.size
          replace R := Lib.hid (R.out.dw hd (by omega))
          replace X := Lib.hid (X.out.dw hd (by omega))
          replace M := Lib.hid (M.out.dw hd (by omega))
          replace OT := Lib.hid (OT.out.apart hd.only (.inr (by omega)))
          replace O := Lib.hid (O.out.dw hd (by omega))
          replace HD := Lib.hid (HD.out.trans hd)
          clear hd
          by_cases qt : rt = 0
          · subst qt
            have m2 := M.out.cell 2
            have ml := M.out.lt
            simp at m2
            go_wp2_with fail
            clear m2 ml
            refine Calls.mono (dw_pick3 (b := b) (lo := lo) (by repeat (first | exact HD.out.src | with_reducible refine Src.alloc ?_ _ | with_reducible refine Src.drew ?_ | with_reducible refine Src.drewN ?_ _)) (by first | rfl | (simp; done)) (by decide) (by first | assumption | decide | (unfold I64; omega)) (by decide)) ?_
            rintro e wp ⟨pk, rfl, hm, hi64, hd⟩
            clear hm
            have hsp := hd.size
            (try simp at hsp)
            replace R := Lib.hid ((R.out.keep (by repeat (first | exact Below.refl _ _ | assumption | refine below_allocS ?_ _ | refine below_callS ?_ (by assumption) | (refine Below.alloc ?_ (by first | omega | (simp; done) | (simp; omega)) _) | (refine Below.setCell ?_ (by first | omega | (simp; done) | (simp; omega)) _) | refine Below.drew ?_ | refine below_drewN ?_ _ | (refine below_call ?_ (by assumption) (by first | omega | (simp; done) | (simp; omega))) | (refine Below.trans ?_ (by assumption))))).dw hd (by omega))
            replace X := Lib.hid ((X.out.keep (by repeat (first | exact Below.refl _ _ | assumption | refine below_allocS ?_ _ | refine below_callS ?_ (by assumption) | (refine Below.alloc ?_ (by first | omega | (simp; done) | (simp; omega)) _) | (refine Below.setCell ?_ (by first | omega | (simp; done) | (simp; omega)) _) | refine Below.drew ?_ | refine below_drewN ?_ _ | (refine below_call ?_ (by assumption) (by first | omega | (simp; done) | (simp; omega))) | (refine Below.trans ?_ (by assumption))))).dw hd (by omega))
            replace OT := Lib.hid ((OT.out.keep (by repeat (first | exact Below.refl _ _ | assumption | refine below_allocS ?_ _ | refine below_callS ?_ (by assumption) | (refine Below.alloc ?_ (by first | omega | (simp; done) | (simp; omega)) _) | (refine Below.setCell ?_ (by first | omega | (simp; done) | (simp; omega)) _) | refine Below.drew ?_ | refine below_drewN ?_ _ | (refine below_call ?_ (by assumption) (by first | omega | (simp; done) | (simp; omega))) | (refine Below.trans ?_ (by assumption))))).apart hd.only (.inr (by omega)))
            replace O := Lib.hid ((O.out.keep (by repeat (first | exact Below.refl _ _ | assumption | refine below_allocS ?_ _ | refine below_callS ?_ (by assumption) | (refine Below.alloc ?_ (by first | omega | (simp; done) | (simp; omega)) _) | (refine Below.setCell ?_ (by first | omega | (simp; done) | (simp; omega)) _) | refine Below.drew ?_ | refine below_drewN ?_ _ | (refine below_call ?_ (by assumption) (by first | omega | (simp; done) | (simp; omega))) | (refine Below.trans ?_ (by assumption))))).dw hd (by omega))
            replace HD := Lib.hid ((HD.out.below (by repeat (first | exact Below.refl _ _ | assumption | refine below_allocS ?_ _ | refine below_callS ?_ (by assumption) | (refine Below.alloc ?_ (by first | omega | (simp; done) | (simp; omega)) _) | (refine Below.setCell ?_ (by first | omega | (simp; done) | (simp; omega)) _) | refine Below.drew ?_ | refine below_drewN ?_ _ | (refine below_call ?_ (by assumption) (by first | omega | (simp; done) | (simp; omega))) | (refine Below.trans ?_ (by assumption))))).trans hd)
            clear hd
            go_wp2_with (at_builtin; refine appI1 rfl _ _ rfl Tryz.underlying22 Tryz.infoi64 (w1.heap.size + 1) _ _ _ _ O.out rfl _ rfl (by first | rfl | (simp; done)) hi64 (by omega) (by omega) ?_; intro g2 c9 wn ho hb ht hat hsn; replace R := Lib.hid (R.out.keepB hb (by omega)); replace X := Lib.hid (X.out.keepB hb (by omega)); replace OT := Lib.hid (OT.out.apart (Only.lowB hb) (.inl (by omega))); have O9 := Lib.hid ho; replace HD := Lib.hid (HD.out.own hb (by omega)); clear ho hb ht; refine Hid.out ?_)
            refine Lib.hid ?_
            have r0 := R.out.cell 0
            have r1' := R.out.cell 1
            have rf := R.out.free
            have rl := R.out.lt
            have x0 := X.out.cell 0
            have x1 := X.out.cell 1
            have xl := X.out.lt
            simp at r0 r1' x0 x1
            have hne : w1.heap.size ≠ w.heap.size := by omega
            go_wp2
            refine bodyPost_ret (v := .tuple #[.agg #[.int .i64 (B : Int), .slice a1 n1 c1], .int .i64 (D : Int), .bool sec, .slice (some ⟨g2, 0, none⟩) (m + 1) c9]) (by simp [results, Tryz.results68, go_sem, *]) rfl ⟨_, _, _, _, l1, _, _, _, _, _, (lo' ++ [pk]), rfl, ?_, by omega, by omega, by omega, by omega, by omega, ?_, by omega, (HD.out.set (Nat.le_refl _) _ _).set (Nat.le_refl _) _ _⟩
            · exact (OT.out.fact.only (((Only.refl w.heap.size (w.heap.size + 1) _).set ⟨Nat.le_refl _, Nat.lt_succ_self _⟩ 0 _).set ⟨Nat.le_refl _, Nat.lt_succ_self _⟩ 1 _) (fun g hg => .inr (by have := (OT.out.fact.blk g hg).1; omega))).le (by omega)
            · exact (O9.out.only (((Only.refl w.heap.size (w.heap.size + 1) _).set ⟨Nat.le_refl _, Nat.lt_succ_self _⟩ 0 _).set ⟨Nat.le_refl _, Nat.lt_succ_self _⟩ 1 _) (fun g hg => .inr (by have := (O9.out.blk g hg).1; omega))).le (by omega)
          · have qt' : (rt == 0) = false := by simpa using qt
            by_cases q1 : rt = 1
            · subst q1
              clear qt
              go_wp2_with fail
              refine Calls.mono (dw_next (b := b) (lo := lo) (by repeat (first | exact HD.out.src | with_reducible refine Src.alloc ?_ _ | with_reducible refine Src.drew ?_ | with_reducible refine Src.drewN ?_ _)) (by decide)) ?_
              rintro e wp ⟨rq, rfl, hq0, hq1, hd⟩
              have hsp := hd.size
              replace R := Lib.hid (R.out.dw hd (by omega))
              replace X := Lib.hid (X.out.dw hd (by omega))
              replace OT := Lib.hid (OT.out.apart hd.only (.inr (by omega)))
              replace HD := Lib.hid (HD.out.trans hd)
              clear hd
              obtain ⟨q, rfl⟩ := Int.eq_ofNat_of_zero_le hq0
              obtain ⟨i0, hi, hz0, hz1, hz2⟩ := info_parts Tryz.infoi64
              obtain ⟨wm, hmk, hown, hgr⟩ := run_make_full (P := Tryz.prog) wp wp.heap.size 22 2 i0 (.int .i64 0) 1 Tryz.underlying22 hi hz0 hz1 .i64 .i64 (200 + q) (by rw [hz2]; omega) (by unfold maxLen; omega) (Nat.le_refl _)
              have hbm : Below wp.heap.size wp wm := (Below.refl _ _).grown hgr (Nat.le_refl _) (fun k h => by cases h)
              have hom : OwnI 2 wm wp.heap.size (some ⟨wp.heap.size, 0, none⟩) (200 + q) (200 + q) (List.replicate (200 + q) 0) := by
                refine ⟨?_, fun x hx => ?_⟩
                · have : (madeCells (Value.cells (.int .i64 0)) ((200 + q) * 1)).toList = (List.replicate (200 + q) 0).map (Value.int .i64) := by
                    rw [Nat.mul_one, show Value.cells (.int .i64 0) = #[.int .i64 0] from rfl, toList_madeCells_one]; simp
                  rw [this] at hown; exact hown
                · rw [(List.mem_replicate.1 hx).2]; exact ⟨by omega, by omega⟩
              have O9 := Lib.hid hom
              replace R := Lib.hid (R.out.keep hbm)
              replace X := Lib.hid (X.out.keep hbm)
              replace OT := Lib.hid (OT.out.keep hbm)
              replace HD := Lib.hid (HD.out.below hbm)
              have hsm := hbm.size
              clear hom hown hgr hi hz0 hz1 hz2 hbm
              push_cast at hmk
              have i200 : IntKind.i64.wrap (200 + (q : Int)) = 200 + (q : Int) := IntWalk.i64_in _ (by omega)
              have r0 := R.out.cell 0
              have r1' := R.out.cell 1
              have rf := R.out.free
              have rl := R.out.lt
              have x0 := X.out.cell 0
              have x1 := X.out.cell 1
              have xl := X.out.lt
              simp at r0 r1' x0 x1
              have hne : w1.heap.size ≠ w.heap.size := by omega
              go_wp2
              refine bodyPost_ret (v := .tuple #[.agg #[.int .i64 (B : Int), .slice a1 n1 c1], .int .i64 (D : Int), .bool sec, .slice (some ⟨wp.heap.size, 0, none⟩) (200 + q) (200 + q)]) (by simp [results, Tryz.results68, go_sem, *]) rfl ⟨_, _, _, _, l1, _, _, _, _, _, (List.replicate (200 + q) 0), rfl, ?_, by omega, by omega, by omega, by omega, by omega, ?_, by omega, (HD.out.set (Nat.le_refl _) _ _).set (Nat.le_refl _) _ _⟩
              · exact (OT.out.fact.only (((Only.refl w.heap.size (w.heap.size + 1) _).set ⟨Nat.le_refl _, Nat.lt_succ_self _⟩ 0 _).set ⟨Nat.le_refl _, Nat.lt_succ_self _⟩ 1 _) (fun g hg => .inr (by have := (OT.out.fact.blk g hg).1; omega))).le (by omega)
              · exact (O9.out.only (((Only.refl w.heap.size (w.heap.size + 1) _).set ⟨Nat.le_refl _, Nat.lt_succ_self _⟩ 0 _).set ⟨Nat.le_refl _, Nat.lt_succ_self _⟩ 1 _) (fun g hg => .inr (by have := (O9.out.blk g hg).1; omega))).le (by omega)
            · have q1' : (rt == 1) = false := by simpa using q1
              clear qt q1
              have r0 := R.out.cell 0
              have r1' := R.out.cell 1
              have rf := R.out.free
              have rl := R.out.lt
              have x0 := X.out.cell 0
              have x1 := X.out.cell 1
              have xl := X.out.lt
              simp at r0 r1' x0 x1
              have hne : w1.heap.size ≠ w.heap.size := by omega
              go_wp2
              refine bodyPost_ret (v := .tuple #[.agg #[.int .i64 (B : Int), .slice a1 n1 c1], .int .i64 (D : Int), .bool sec, .slice (some ⟨go, 0, none⟩) m co]) (by simp [results, Tryz.results68, go_sem, *]) rfl ⟨_, _, _, _, l1, _, _, _, _, _, lo', rfl, ?_, by omega, by omega, by omega, by omega, by omega, ?_, by omega, (HD.out.set (Nat.le_refl _) _ _).set (Nat.le_refl _) _ _⟩
              · exact (OT.out.fact.only (((Only.refl w.heap.size (w.heap.size + 1) _).set ⟨Nat.le_refl _, Nat.lt_succ_self _⟩ 0 _).set ⟨Nat.le_refl _, Nat.lt_succ_self _⟩ 1 _) (fun g hg => .inr (by have := (OT.out.fact.blk g hg).1; omega))).le (by omega)
              · exact (O.out.only (((Only.refl w.heap.size (w.heap.size + 1) _).set ⟨Nat.le_refl _, Nat.lt_succ_self _⟩ 0 _).set ⟨Nat.le_refl _, Nat.lt_succ_self _⟩ 1 _) (fun g hg => .inr (by have := (O.out.blk g hg).1; omega))).le (by omega)
        · have he' : ((ne : Int) == 0) = false := by simp; omega
          have hen : ¬ (ne : Int) = 0 := by omega
          go_wp2_with fail
          refine Calls.mono (dw_next (b := b) (lo := lo) (n := (ne : Int)) (by repeat (first | exact HD.out.src | with_reducible refine Src.alloc ?_ _ | with_reducible refine Src.drew ?_ | with_reducible refine Src.drewN ?_ _)) (by unfold I64; omega)) ?_
          rintro e w9 ⟨rk, rfl, hk0, hk1, hd⟩
          obtain ⟨q, rfl⟩ := Int.eq_ofNat_of_zero_le hk0
          have hqn : q < ne := by omega
          have hs9 := hd.size
          replace R := Lib.hid (R.out.dw hd (by omega))
          replace X := Lib.hid (X.out.dw hd (by omega))
          replace M := Lib.hid (M.out.dw hd (by omega))
          replace OT := Lib.hid (OT.out.apart hd.only (.inr (by omega)))
          replace O := Lib.hid (O.out.dw hd (by omega))
          replace SO := Lib.hid (SO.out.apart hd.only (.inr (by omega)))
          replace V := Lib.hid (V.out.apart hd.only (.inr (by omega)))
          replace OE := Lib.hid (OE.out.dw hd (by omega))
          replace HD := Lib.hid (HD.out.trans hd)
          clear hd hk0 hk1
          obtain ⟨be, oe, z, rfl, hbe, hz, hcz, hz64⟩ := OE.out.ints.at hqn
          obtain ⟨kk, rfl, hkk⟩ := enabI_mem (List.mem_of_getElem? hz)
          have hq0 : (0 : Int) ≤ (q : Int) := by omega
          have hqn' : (q : Int) < (ne : Int) := by omega
          clear hz OE
          go_wp2_with (at_builtin; refine appI1 rfl _ _ rfl Tryz.underlying22 Tryz.infoi64 (w1.heap.size + 1) _ _ _ _ O.out rfl _ rfl (by first | rfl | (simp; done)) hz64 (by omega) (by omega) ?_; intro g2 c9 wn ho hb ht hat hsn; have hty := fun {g : Nat} (e : (some (⟨go, 0, none⟩ : Addr)) = some ⟨g, 0, none⟩) => O.out.typ e; replace M := Lib.hid (M.out.keepA ht (blk_ne M.out hty (by decide))); replace R := Lib.hid (R.out.keepB hb (by omega)); replace X := Lib.hid (X.out.keepB hb (by omega)); have hon := ht.only (lo := go) (hi := go + 1) (fun g e => by cases e; omega); replace OT := Lib.hid (OT.out.apart hon (.inl (by omega))); replace SO := Lib.hid (SO.out.apart hon (by omega)); replace V := Lib.hid (V.out.apart hon (by omega)); replace HD := Lib.hid (HD.out.own hb (by omega)); replace O := Lib.hid ho; clear ho hb ht hcz hbe hty hon; refine Hid.out ?_)
          have hgl2 := O.out.lt
          have hg2 : g2 = go ∨ g2 = w9.heap.size + 1 := hat.imp (fun h => by cases h; rfl) id
          obtain ⟨lr, hF, hLR⟩ := SO.out.fact.rd.r
          obtain ⟨xr, hxr⟩ : ∃ xr, lr[kk]? = some xr := ⟨_, List.getElem?_eq_getElem (by rw [hF.len]; omega)⟩
          have hruv := HRV.out xr.2 (by rw [← hLR]; exact List.mem_map_of_mem (List.mem_of_getElem? hxr))
          have hzl := HZL.out
          have KA := Lib.hid (spec_l20Apply (sa := sa) (sn := sn) (sc := sc) (ta := ta) (tn := tn) (tc := tc) (R := xr.1) (r := xr.2) (Below.refl _ _) hF hxr V.out.fact.ints (by omega) (fun a ha => by have := hruv.2 a ha; rw [hzl] at this; have := HTN.out; omega))
          have HV2 := Lib.hid (sv_apply HV.out fun a ha z hz => (hruv.2 a ha).2.2 z hz)
          have x0 := M.out.cell 0
          have x1 := M.out.cell 1
          have x2 := M.out.cell 2
          have xl := M.out.lt
          simp at x0 x1 x2
          clear hF hruv hxr hat
          refine Lib.hid ?_
          go_wp2_with fail
          refine Calls.mono KA.out ?_
          rintro e wa ⟨va2, vc2, rfl, hva, hba⟩
          have hsa := hba.size
          replace R := Lib.hid (R.out.keep hba)
          replace X := Lib.hid (X.out.keep hba)
          replace M := Lib.hid (M.out.keep hba)
          replace OT := Lib.hid (OT.out.keep hba)
          replace O := Lib.hid (O.out.keep hba)
          replace SO := Lib.hid (SO.out.keep hba)
          replace HD := Lib.hid (HD.out.below hba)
          have V2 := Lib.hid hva.own
          clear hva hba x0 x1 x2 xl KA V
          go_wp2
          go_roundw
          case rel => exact ⟨g2, m + 1, c9, vc2, k - 1, _, _, va2, _, _, rfl, rfl, by rw [show ((k - 1 : Nat) : Int) = (k : Int) - 1 from by omega], by omega, by omega, by omega, by omega, by omega, R, X, M, OT, O, SO, V2, HV2, HD⟩
          case measure => simp [intOf]; omega
      · obtain rfl : k = 0 := by omega
        have hD5 := HD.out.size
        go_wp2_with fail
        refine Calls.mono (dw_next (b := b) (lo := lo) (by repeat (first | exact HD.out.src | with_reducible refine Src.alloc ?_ _ | with_reducible refine Src.drew ?_ | with_reducible refine Src.drewN ?_ _)) (by decide)) ?_
        rintro e wt ⟨rt, rfl, ht0, ht1, hd⟩
        have hst := hd.size
        replace R := Lib.hid (R.out.dw hd (by omega))
        replace X := Lib.hid (X.out.dw hd (by omega))
        replace M := Lib.hid (M.out.dw hd (by omega))
        replace OT := Lib.hid (OT.out.apart hd.only (.inr (by omega)))
        replace O := Lib.hid (O.out.dw hd (by omega))
        replace HD := Lib.hid (HD.out.trans hd)
        clear hd
        by_cases qt : rt = 0
        · subst qt
          have m2 := M.out.cell 2
          have ml := M.out.lt
          simp at m2
          go_wp2_with fail
          clear m2 ml
          refine Calls.mono (dw_pick3 (b := b) (lo := lo) (by repeat (first | exact HD.out.src | with_reducible refine Src.alloc ?_ _ | with_reducible refine Src.drew ?_ | with_reducible refine Src.drewN ?_ _)) (by first | rfl | (simp; done)) (by decide) (by first | assumption | decide | (unfold I64; omega)) (by decide)) ?_
          rintro e wp ⟨pk, rfl, hm, hi64, hd⟩
          clear hm
          have hsp := hd.size
          (try simp at hsp)
          replace R := Lib.hid ((R.out.keep (by repeat (first | exact Below.refl _ _ | assumption | refine below_allocS ?_ _ | refine below_callS ?_ (by assumption) | (refine Below.alloc ?_ (by first | omega | (simp; done) | (simp; omega)) _) | (refine Below.setCell ?_ (by first | omega | (simp; done) | (simp; omega)) _) | refine Below.drew ?_ | refine below_drewN ?_ _ | (refine below_call ?_ (by assumption) (by first | omega | (simp; done) | (simp; omega))) | (refine Below.trans ?_ (by assumption))))).dw hd (by omega))
          replace X := Lib.hid ((X.out.keep (by repeat (first | exact Below.refl _ _ | assumption | refine below_allocS ?_ _ | refine below_callS ?_ (by assumption) | (refine Below.alloc ?_ (by first | omega | (simp; done) | (simp; omega)) _) | (refine Below.setCell ?_ (by first | omega | (simp; done) | (simp; omega)) _) | refine Below.drew ?_ | refine below_drewN ?_ _ | (refine below_call ?_ (by assumption) (by first | omega | (simp; done) | (simp; omega))) | (refine Below.trans ?_ (by assumption))))).dw hd (by omega))
          replace OT := Lib.hid ((OT.out.keep (by repeat (first | exact Below.refl _ _ | assumption | refine below_allocS ?_ _ | refine below_callS ?_ (by assumption) | (refine Below.alloc ?_ (by first | omega | (simp; done) | (simp; omega)) _) | (refine Below.setCell ?_ (by first | omega | (simp; done) | (simp; omega)) _) | refine Below.drew ?_ | refine below_drewN ?_ _ | (refine below_call ?_ (by assumption) (by first | omega | (simp; done) | (simp; omega))) | (refine Below.trans ?_ (by assumption))))).apart hd.only (.inr (by omega)))
          replace O := Lib.hid ((O.out.keep (by repeat (first | exact Below.refl _ _ | assumption | refine below_allocS ?_ _ | refine below_callS ?_ (by assumption) | (refine Below.alloc ?_ (by first | omega | (simp; done) | (simp; omega)) _) | (refine Below.setCell ?_ (by first | omega | (simp; done) | (simp; omega)) _) | refine Below.drew ?_ | refine below_drewN ?_ _ | (refine below_call ?_ (by assumption) (by first | omega | (simp; done) | (simp; omega))) | (refine Below.trans ?_ (by assumption))))).dw hd (by omega))
          replace HD := Lib.hid ((HD.out.below (by repeat (first | exact Below.refl _ _ | assumption | refine below_allocS ?_ _ | refine below_callS ?_ (by assumption) | (refine Below.alloc ?_ (by first | omega | (simp; done) | (simp; omega)) _) | (refine Below.setCell ?_ (by first | omega | (simp; done) | (simp; omega)) _) | refine Below.drew ?_ | refine below_drewN ?_ _ | (refine below_call ?_ (by assumption) (by first | omega | (simp; done) | (simp; omega))) | (refine Below.trans ?_ (by assumption))))).trans hd)
          clear hd
          go_wp2_with (at_builtin; refine appI1 rfl _ _ rfl Tryz.underlying22 Tryz.infoi64 (w1.heap.size + 1) _ _ _ _ O.out rfl _ rfl (by first | rfl | (simp; done)) hi64 (by omega) (by omega) ?_; intro g2 c9 wn ho hb ht hat hsn; replace R := Lib.hid (R.out.keepB hb (by omega)); replace X := Lib.hid (X.out.keepB hb (by omega)); replace OT := Lib.hid (OT.out.apart (Only.lowB hb) (.inl (by omega))); have O9 := Lib.hid ho; replace HD := Lib.hid (HD.out.own hb (by omega)); clear ho hb ht; refine Hid.out ?_)
          refine Lib.hid ?_
          have r0 := R.out.cell 0
          have r1' := R.out.cell 1
          have rf := R.out.free
          have rl := R.out.lt
          have x0 := X.out.cell 0
          have x1 := X.out.cell 1
          have xl := X.out.lt
          simp at r0 r1' x0 x1
          have hne : w1.heap.size ≠ w.heap.size := by omega
          go_wp2
          refine bodyPost_ret (v := .tuple #[.agg #[.int .i64 (B : Int), .slice a1 n1 c1], .int .i64 (D : Int), .bool sec, .slice (some ⟨g2, 0, none⟩) (m + 1) c9]) (by simp [results, Tryz.results68, go_sem, *]) rfl ⟨_, _, _, _, l1, _, _, _, _, _, (lo' ++ [pk]), rfl, ?_, by omega, by omega, by omega, by omega, by omega, ?_, by omega, (HD.out.set (Nat.le_refl _) _ _).set (Nat.le_refl _) _ _⟩
          · exact (OT.out.fact.only (((Only.refl w.heap.size (w.heap.size + 1) _).set ⟨Nat.le_refl _, Nat.lt_succ_self _⟩ 0 _).set ⟨Nat.le_refl _, Nat.lt_succ_self _⟩ 1 _) (fun g hg => .inr (by have := (OT.out.fact.blk g hg).1; omega))).le (by omega)
          · exact (O9.out.only (((Only.refl w.heap.size (w.heap.size + 1) _).set ⟨Nat.le_refl _, Nat.lt_succ_self _⟩ 0 _).set ⟨Nat.le_refl _, Nat.lt_succ_self _⟩ 1 _) (fun g hg => .inr (by have := (O9.out.blk g hg).1; omega))).le (by omega)
        · have qt' : (rt == 0) = false := by simpa using qt
          by_cases q1 : rt = 1
          · subst q1
            clear qt
            go_wp2_with fail
            refine Calls.mono (dw_next (b := b) (lo := lo) (by repeat (first | exact HD.out.src | with_reducible refine Src.alloc ?_ _ | with_reducible refine Src.drew ?_ | with_reducible refine Src.drewN ?_ _)) (by decide)) ?_
            rintro e wp ⟨rq, rfl, hq0, hq1, hd⟩
            have hsp := hd.size
            replace R := Lib.hid (R.out.dw hd (by omega))
            replace X := Lib.hid (X.out.dw hd (by omega))
            replace OT := Lib.hid (OT.out.apart hd.only (.inr (by omega)))
            replace HD := Lib.hid (HD.out.trans hd)
            clear hd
            obtain ⟨q, rfl⟩ := Int.eq_ofNat_of_zero_le hq0
            obtain ⟨i0, hi, hz0, hz1, hz2⟩ := info_parts Tryz.infoi64
            obtain ⟨wm, hmk, hown, hgr⟩ := run_make_full (P := Tryz.prog) wp wp.heap.size 22 2 i0 (.int .i64 0) 1 Tryz.underlying22 hi hz0 hz1 .i64 .i64 (200 + q) (by rw [hz2]; omega) (by unfold maxLen; omega) (Nat.le_refl _)
            have hbm : Below wp.heap.size wp wm := (Below.refl _ _).grown hgr (Nat.le_refl _) (fun k h => by cases h)
            have hom : OwnI 2 wm wp.heap.size (some ⟨wp.heap.size, 0, none⟩) (200 + q) (200 + q) (List.replicate (200 + q) 0) := by
              refine ⟨?_, fun x hx => ?_⟩
              · have : (madeCells (Value.cells (.int .i64 0)) ((200 + q) * 1)).toList = (List.replicate (200 + q) 0).map (Value.int .i64) := by
                  rw [Nat.mul_one, show Value.cells (.int .i64 0) = #[.int .i64 0] from rfl, toList_madeCells_one]; simp
                rw [this] at hown; exact hown
              · rw [(List.mem_replicate.1 hx).2]; exact ⟨by omega, by omega⟩
            have O9 := Lib.hid hom
            replace R := Lib.hid (R.out.keep hbm)
            replace X := Lib.hid (X.out.keep hbm)
            replace OT := Lib.hid (OT.out.keep hbm)
            replace HD := Lib.hid (HD.out.below hbm)
            have hsm := hbm.size
            clear hom hown hgr hi hz0 hz1 hz2 hbm
            push_cast at hmk
            have i200 : IntKind.i64.wrap (200 + (q : Int)) = 200 + (q : Int) := IntWalk.i64_in _ (by omega)
            have r0 := R.out.cell 0
            have r1' := R.out.cell 1
            have rf := R.out.free
            have rl := R.out.lt
            have x0 := X.out.cell 0
            have x1 := X.out.cell 1
            have xl := X.out.lt
            simp at r0 r1' x0 x1
            have hne : w1.heap.size ≠ w.heap.size := by omega
            go_wp2
            refine bodyPost_ret (v := .tuple #[.agg #[.int .i64 (B : Int), .slice a1 n1 c1], .int .i64 (D : Int), .bool sec, .slice (some ⟨wp.heap.size, 0, none⟩) (200 + q) (200 + q)]) (by simp [results, Tryz.results68, go_sem, *]) rfl ⟨_, _, _, _, l1, _, _, _, _, _, (List.replicate (200 + q) 0), rfl, ?_, by omega, by omega, by omega, by omega, by omega, ?_, by omega, (HD.out.set (Nat.le_refl _) _ _).set (Nat.le_refl _) _ _⟩
            · exact (OT.out.fact.only (((Only.refl w.heap.size (w.heap.size + 1) _).set ⟨Nat.le_refl _, Nat.lt_succ_self _⟩ 0 _).set ⟨Nat.le_refl _, Nat.lt_succ_self _⟩ 1 _) (fun g hg => .inr (by have := (OT.out.fact.blk g hg).1; omega))).le (by omega)
            · exact (O9.out.only (((Only.refl w.heap.size (w.heap.size + 1) _).set ⟨Nat.le_refl _, Nat.lt_succ_self _⟩ 0 _).set ⟨Nat.le_refl _, Nat.lt_succ_self _⟩ 1 _) (fun g hg => .inr (by have := (O9.out.blk g hg).1; omega))).le (by omega)
          · have q1' : (rt == 1) = false := by simpa using q1
            clear qt q1
            have r0 := R.out.cell 0
            have r1' := R.out.cell 1
            have rf := R.out.free
            have rl := R.out.lt
            have x0 := X.out.cell 0
            have x1 := X.out.cell 1
            have xl := X.out.lt
            simp at r0 r1' x0 x1
            have hne : w1.heap.size ≠ w.heap.size := by omega
            go_wp2
            refine bodyPost_ret (v := .tuple #[.agg #[.int .i64 (B : Int), .slice a1 n1 c1], .int .i64 (D : Int), .bool sec, .slice (some ⟨go, 0, none⟩) m co]) (by simp [results, Tryz.results68, go_sem, *]) rfl ⟨_, _, _, _, l1, _, _, _, _, _, lo', rfl, ?_, by omega, by omega, by omega, by omega, by omega, ?_, by omega, (HD.out.set (Nat.le_refl _) _ _).set (Nat.le_refl _) _ _⟩
            · exact (OT.out.fact.only (((Only.refl w.heap.size (w.heap.size + 1) _).set ⟨Nat.le_refl _, Nat.lt_succ_self _⟩ 0 _).set ⟨Nat.le_refl _, Nat.lt_succ_self _⟩ 1 _) (fun g hg => .inr (by have := (OT.out.fact.blk g hg).1; omega))).le (by omega)
            · exact (O.out.only (((Only.refl w.heap.size (w.heap.size + 1) _).set ⟨Nat.le_refl _, Nat.lt_succ_self _⟩ 0 _).set ⟨Nat.le_refl _, Nat.lt_succ_self _⟩ 1 _) (fun g hg => .inr (by have := (O.out.blk g hg).1; omega))).le (by omega)
  · generalize rdC B l1 bu = C at *
    have hC' : (C != 0) = true := by simpa using h0
    clear h0
    go_wp2_with fail
    rw [← hW]
    clear hW
    refine Calls.mono K1.out ?_
    rintro e w2 ⟨rfl, hb2⟩
    have hs2 := hb2.size
    replace R := Lib.hid (R.out.keep hb2)
    replace X := Lib.hid (X.out.keep hb2)
    replace OT := Lib.hid (OT.out.keep hb2)
    replace HD := Lib.hid (HD.out.below hb2)
    clear hb2 K1 IW O
    have r0 := R.out.cell 0
    have r1' := R.out.cell 1
    have rf := R.out.free
    have rl := R.out.lt
    have x0 := X.out.cell 0
    have x1 := X.out.cell 1
    have xl := X.out.lt
    simp at r0 r1' x0 x1
    have hne : w1.heap.size ≠ w.heap.size := by omega
    go_wp2
    refine bodyPost_ret (v := .tuple #[.agg #[.int .i64 B, .slice a1 n1 c1], .int .i64 bu, .bool sec, .slice (some ⟨w2.heap.size, 0, none⟩) 1 1]) (by simp [results, Tryz.results68, go_sem, *]) rfl ⟨_, _, _, _, l1, _, _, _, _, _, (List.replicate 1 0), rfl, ?_, by omega, by omega, by omega, by omega, by omega, ?_, by omega, ((HD.out.set (Nat.le_refl _) _ _).set (Nat.le_refl _) _ _).alloc _⟩
    · exact ((OT.out.fact.only (((Only.refl w.heap.size (w.heap.size + 1) _).set ⟨Nat.le_refl _, Nat.lt_succ_self _⟩ 0 _).set ⟨Nat.le_refl _, Nat.lt_succ_self _⟩ 1 _) (fun g hg => .inr (by have := (OT.out.fact.blk g hg).1; omega))).keep (by repeat (first | exact Below.refl _ _ | assumption | refine below_allocS ?_ _ | refine below_callS ?_ (by assumption) | (refine Below.alloc ?_ (by first | omega | (simp; done) | (simp; omega)) _) | (refine Below.setCell ?_ (by first | omega | (simp; done) | (simp; omega)) _) | refine Below.drew ?_ | refine below_drewN ?_ _ | (refine below_call ?_ (by assumption) (by first | omega | (simp; done) | (simp; omega))) | (refine Below.trans ?_ (by assumption))))).le (by omega)
    · have h := OwnI.zeros (E := 2) (m := 1) (base := w.heap.size) (cs := #[.int .i64 0]) ((w2.setCell ⟨w.heap.size, 0, none⟩ (.int .i64 B)).setCell ⟨w.heap.size, 1, none⟩ (.slice a1 n1 c1)) (by simp; omega) (by decide) rfl
      simpa using h
set_option maxHeartbeats 1000000 in
theorem spec_DrawEventsOfTrace {a : Option Addr} {n c : Nat} {w : World} (hB : Byts w a n c) (hn : n ≤ 4096) :
    Calls Tryz.prog 26 #[.slice a n c] w fun e w' => ∃ B a n c l bud sec ta tn tc tr, e = .returned (.tuple #[.agg #[.int .i64 B, .slice a n c], .int .i64 bud, .bool sec, .slice ta tn tc]) ∧ Ints w' a n c l ∧ n ≤ 5 ∧ 1 ≤ B ∧ B ≤ 9 ∧ -1 ≤ bud ∧ bud ≤ 3 ∧ Ints w' ta tn tc tr ∧ tn ≤ 300 ∧ Below w.heap.size w w' := by
  have HB := Lib.hid hB
  clear hB
  go_enter Tryz.func26, Tryz.ntmps26
  go_wp2_with fail
  refine Calls.mono (dw_l01From HB.out (show Below w.heap.size w (w.alloc (.cells #[.int .i64 0, .slice none 0 0] 28)) by repeat (first | exact Below.refl _ _ | assumption | refine below_allocS ?_ _ | refine below_callS ?_ (by assumption) | (refine Below.alloc ?_ (by first | omega | (simp; done) | (simp; omega)) _) | (refine Below.setCell ?_ (by first | omega | (simp; done) | (simp; omega)) _) | refine Below.drew ?_ | refine below_drewN ?_ _ | (refine below_call ?_ (by assumption) (by first | omega | (simp; done) | (simp; omega))) | (refine Below.trans ?_ (by assumption)))) hn) ?_
  rintro e w1 ⟨b, rfl, hb1, hlo, hd⟩
  simp at hlo
  have R := Lib.hid ((Blk.made w #[.int .i64 0, .slice none 0 0] 28).keep hb1)
  have hbl : Below w.heap.size w w1 := below_callS (show Below w.heap.size w (w.alloc (.cells #[.int .i64 0, .slice none 0 0] 28)) by repeat (first | exact Below.refl _ _ | assumption | refine below_allocS ?_ _ | refine below_callS ?_ (by assumption) | (refine Below.alloc ?_ (by first | omega | (simp; done) | (simp; omega)) _) | (refine Below.setCell ?_ (by first | omega | (simp; done) | (simp; omega)) _) | refine Below.drew ?_ | refine below_drewN ?_ _ | (refine below_call ?_ (by assumption) (by first | omega | (simp; done) | (simp; omega))) | (refine Below.trans ?_ (by assumption)))) hb1
  have hbw := hd.lt
  have hs1 := hb1.size
  simp at hs1
  have HD := Lib.hid hd
  clear hd hb1
  go_wp2_with fail
  refine Calls.mono (spec_l25DrawTrace HD.out) ?_
  rintro e w2 ⟨B, a1, n1, c1, l1, bu, sec, ta, tn, tc, tr, rfl, ho, hn1, hB1, hB9, hm1, hm2, ht, htn, hd⟩
  have O := Lib.hid ho
  have OT := Lib.hid ht
  have hs2 := hd.size
  replace R := Lib.hid (R.out.dw hd (by omega))
  replace HD := Lib.hid (HD.out.trans hd)
  have hfin := HD.out.fin hbl (by omega)
  clear ho ht hd
  have r0 := R.out.cell 0
  have r1' := R.out.cell 1
  have rf := R.out.free
  have rl := R.out.lt
  simp at r0 r1'
  go_wp2
  refine bodyPost_ret (v := .tuple #[.agg #[.int .i64 B, .slice a1 n1 c1], .int .i64 bu, .bool sec, .slice ta tn tc]) (by simp [results, Tryz.results26, go_sem, *]) rfl ⟨_, _, _, _, l1, _, _, _, _, _, tr, rfl, O.out.skip (by omega) _ _, hn1, hB1, hB9, hm1, hm2, OT.out.skip (by omega) _ _, htn, by repeat (first | exact Below.refl _ _ | assumption | refine below_allocS ?_ _ | refine below_callS ?_ (by assumption) | (refine Below.alloc ?_ (by first | omega | (simp; done) | (simp; omega)) _) | (refine Below.setCell ?_ (by first | omega | (simp; done) | (simp; omega)) _) | refine Below.drew ?_ | refine below_drewN ?_ _ | (refine below_call ?_ (by assumption) (by first | omega | (simp; done) | (simp; omega))) | (refine Below.trans ?_ (by assumption)))⟩
end Go.Proofs.YtfnamjkmkoldeaaGreatDoor
