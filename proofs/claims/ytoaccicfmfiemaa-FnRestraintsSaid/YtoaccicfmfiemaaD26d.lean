/- Draws of layer 26, walked: steps, from the code. -/
import Derived.Test.YtoaccicfmfiemaaD26
import Derived.Test.YtoaccicfmfiemaaDb
import Derived.Test.YtoaccicfmfiemaaL26d
namespace Go.Proofs.Ytoaccicfmfiemaa
open Go.RowKit
set_option linter.unusedVariables false
set_option linter.unusedSimpArgs false
theorem OwnI.belowB {E : TypeId} {w w' : World} {base B : Nat} {a : Option Addr} {n c : Nat} {l : List Int} (h : OwnI E w base a n c l) (hb : Below B w w') (hg : ∀ g, a = some ⟨g, 0, none⟩ → g < B) : OwnI E w' base a n c l :=
  h.only (lo := B) (hi := w.heap.size) ⟨hb.os, hb.tape, hb.output, hb.size, fun k hk hr => hb.block k (by omega)⟩ fun g e => .inl (hg g e)
def StepDraw (w : World) (e : Ending) (w' : World) : Prop := ∃ a n c l, ∃ x : I2, e = .returned (.tuple #[.slice a n c, .agg #[.int .i64 x.a, .int .i64 x.b]]) ∧ Ints w' a n c l ∧ n ≤ 13 ∧ x.ok ∧ Below w.heap.size w w'
set_option maxRecDepth 100000 in
set_option maxHeartbeats 1000000 in
theorem spec_DrawStepRestraints {a : Option Addr} {n c : Nat} {w : World} (hB : Byts w a n c) (hn : n ≤ 4096) :
    Calls Try.prog 33 #[.slice a n c] w (StepDraw w) := by
  have HB := Lib.hid hB
  clear hB
  go_enter Try.func33, Try.ntmps33
  go_wp2_with fail
  refine Calls.mono (dw_l01From HB.out (show Below w.heap.size w (w.alloc (.cells #[.int .i64 0, .int .i64 0] 51)) by repeat (first | exact Below.refl _ _ | assumption | refine below_allocS ?_ _ | refine below_callS ?_ (by assumption) | (refine Below.alloc ?_ (by first | omega | (simp; done) | (simp; omega)) _) | (refine Below.setCell ?_ (by first | omega | (simp; done) | (simp; omega)) _) | refine Below.drew ?_ | refine below_drewN ?_ _ | (refine below_call ?_ (by assumption) (by first | omega | (simp; done) | (simp; omega))) | (refine Below.trans ?_ (by assumption)))) hn) ?_
  rintro e w1 ⟨b, rfl, hb1, hlo, hd⟩
  simp at hlo
  have R := Lib.hid ((Blk.made w #[.int .i64 0, .int .i64 0] 51).keep hb1)
  have hbl : Below w.heap.size w w1 := below_callS (show Below w.heap.size w (w.alloc (.cells #[.int .i64 0, .int .i64 0] 51)) by repeat (first | exact Below.refl _ _ | assumption | refine below_allocS ?_ _ | refine below_callS ?_ (by assumption) | (refine Below.alloc ?_ (by first | omega | (simp; done) | (simp; omega)) _) | (refine Below.setCell ?_ (by first | omega | (simp; done) | (simp; omega)) _) | refine Below.drew ?_ | refine below_drewN ?_ _ | (refine below_call ?_ (by assumption) (by first | omega | (simp; done) | (simp; omega))) | (refine Below.trans ?_ (by assumption)))) hb1
  have hbw := hd.lt
  have hs1 := hb1.size
  simp at hs1
  have HD := Lib.hid hd
  clear hd hb1
  go_wp2_with fail
  refine Calls.mono (spec_l26Draw HD.out) ?_
  rintro e w2 ⟨a1, n1, c1, l1, rfl, ho, hn1, hd⟩
  have O := Lib.hid ho
  have hs2 := hd.size
  replace R := Lib.hid (R.out.dw hd (by omega))
  replace HD := Lib.hid (HD.out.trans hd)
  clear ho hd
  go_wp2_with fail
  refine Calls.mono (spec_l26DrawStep (m := n1) HD.out (by omega)) ?_
  rintro e w3 ⟨x, rfl, hx, hd⟩
  replace O := Lib.hid (O.out.dw hd hbw)
  replace R := Lib.hid (R.out.dw hd (by omega))
  replace HD := Lib.hid (HD.out.trans hd)
  clear hd
  have r0 := R.out.cell 0
  have r1 := R.out.cell 1
  have rf := R.out.free
  have rl := R.out.lt
  simp at r0 r1
  have hfin := HD.out.fin hbl (by omega)
  go_wp2
  refine bodyPost_ret (v := .tuple #[.slice a1 n1 c1, .agg #[.int .i64 x.a, .int .i64 x.b]]) (by simp [results, Try.results33, go_sem, *]) rfl ⟨a1, n1, c1, l1, x, rfl, ?_, hn1, hx, by repeat (first | exact Below.refl _ _ | assumption | refine below_allocS ?_ _ | refine below_callS ?_ (by assumption) | (refine Below.alloc ?_ (by first | omega | (simp; done) | (simp; omega)) _) | (refine Below.setCell ?_ (by first | omega | (simp; done) | (simp; omega)) _) | refine Below.drew ?_ | refine below_drewN ?_ _ | (refine below_call ?_ (by assumption) (by first | omega | (simp; done) | (simp; omega))) | (refine Below.trans ?_ (by assumption)))⟩
  exact (O.out.only (((Only.refl w.heap.size (w.heap.size + 1) _).set ⟨Nat.le_refl _, Nat.lt_succ_self _⟩ 0 _).set ⟨Nat.le_refl _, Nat.lt_succ_self _⟩ 1 _) (fun g hg => .inr (by have := (O.out.blk g hg).1; omega))).ints
theorem mkr200 (w : World) : (Instr.makeSlice 45 (.int .i64 200) (.int .i64 200)).run Try.prog w = .ok (.slice (some ⟨w.heap.size, 0, none⟩) 200 200) (w.alloc (.cells ((List.replicate 200 (⟨0, 0⟩ : I2)).flatMap I2.enc).toArray 51)) := by kernel_rfl
theorem mkr201 (w : World) : (Instr.makeSlice 45 (.int .i64 201) (.int .i64 201)).run Try.prog w = .ok (.slice (some ⟨w.heap.size, 0, none⟩) 201 201) (w.alloc (.cells ((List.replicate 201 (⟨0, 0⟩ : I2)).flatMap I2.enc).toArray 51)) := by kernel_rfl
def RunDraw (w : World) (e : Ending) (w' : World) : Prop := ∃ a n c l a2 n2 c2 l2, e = .returned (.tuple #[.slice a n c, .slice a2 n2 c2]) ∧ Ints w' a n c l ∧ n ≤ 13 ∧ F2 w' a2 n2 c2 l2 ∧ n2 ≤ 201 ∧ Below w.heap.size w w'
set_option maxRecDepth 100000 in
set_option maxHeartbeats 2000000 in
theorem spec_DrawRunRestraints {a : Option Addr} {n c : Nat} {w : World} (hB : Byts w a n c) (hn : n ≤ 4096) :
    Calls Try.prog 30 #[.slice a n c] w (RunDraw w) := by
  have HB := Lib.hid hB
  clear hB
  go_enter Try.func30, Try.ntmps30
  go_wp2_with fail
  refine Calls.mono (dw_l01From HB.out (Below.refl _ _) hn) ?_
  rintro e w1 ⟨b, rfl, hbl, hlo, hd⟩
  have hbw := hd.lt
  have HD := Lib.hid hd
  clear hd
  go_wp2_with fail
  refine Calls.mono (spec_l26Draw HD.out) ?_
  rintro e w2 ⟨a1, n1, c1, l1, rfl, ho, hn1, hd⟩
  have O := Lib.hid ho
  have hs2 := hd.size
  have hba := Lib.hid ho.blk
  have hba2 := Lib.hid (fun g e => (ho.blk g e).2)
  replace HD := Lib.hid (HD.out.trans hd)
  clear ho hd
  go_wp2_with fail
  refine Calls.mono (dw_next (b := b) (lo := w.heap.size) (by repeat (first | exact HD.out.src | with_reducible refine Src.alloc ?_ _ | with_reducible refine Src.drew ?_ | with_reducible refine Src.drewN ?_ _)) (by decide)) ?_
  rintro e w3 ⟨r, rfl, h0, h1, hd⟩
  have hr : r < 12 := by omega
  have hs3 := hd.size
  simp at hs3
  replace O := Lib.hid ((O.out.keep (by repeat (first | exact Below.refl _ _ | assumption | refine below_allocS ?_ _ | refine below_callS ?_ (by assumption) | (refine Below.alloc ?_ (by first | omega | (simp; done) | (simp; omega)) _) | (refine Below.setCell ?_ (by first | omega | (simp; done) | (simp; omega)) _) | refine Below.drew ?_ | refine below_drewN ?_ _ | (refine below_call ?_ (by assumption) (by first | omega | (simp; done) | (simp; omega))) | (refine Below.trans ?_ (by assumption))))).dw hd hbw)
  replace HD := Lib.hid ((HD.out.below (by repeat (first | exact Below.refl _ _ | assumption | refine below_allocS ?_ _ | refine below_callS ?_ (by assumption) | (refine Below.alloc ?_ (by first | omega | (simp; done) | (simp; omega)) _) | (refine Below.setCell ?_ (by first | omega | (simp; done) | (simp; omega)) _) | refine Below.drew ?_ | refine below_drewN ?_ _ | (refine below_call ?_ (by assumption) (by first | omega | (simp; done) | (simp; omega))) | (refine Below.trans ?_ (by assumption))))).trans hd)
  have O2 := Lib.hid ((OwnF.emp (k := 2) (E := 51) (enc := I2.enc) (ok := I2.ok) (base := w2.heap.size) w2 (Nat.le_refl _) (fun _ => rfl)).dw hd (by omega))
  clear h1
  obtain ⟨k0, rfl⟩ := Int.eq_ofNat_of_zero_le h0
  have hk0 : k0 < 12 := by omega
  have HA0 := Lib.hid (show Apart a1 (some ⟨w2.heap.size, 0, none⟩) from fun g e e' => by have := (hba.out g e).2; first | (simp at e'; omega) | (simp at e'))
  go_wp2_with fail
  go_loopw [6, 7, 8] (fun s6 s7 s8 wr => ∃ (an ao : Option Addr) (nn cn no co k : Nat) (ln : List Int) (lo' : List I2), s6 = .slice an nn cn ∧ s7 = .slice ao no co ∧ s8 = .int .i64 k ∧ nn ≤ 13 ∧ no + k ≤ 12 ∧ w2.heap.size ≤ wr.heap.size ∧ Hid (OwnI 2 wr w1.heap.size a1 n1 c1 l1) ∧ Hid (OwnI 2 wr w1.heap.size an nn cn ln) ∧ Hid (OwnF 2 I2.enc I2.ok 51 wr w2.heap.size ao no co lo') ∧ Hid (Apart an ao) ∧ Hid (Dw 147 w.heap.size b w1 wr)) (fun _ _ s8 _ => (intOf s8).toNat)
  case atStart => exact ⟨_, _, _, _, 0, 0, k0, _, _, rfl, rfl, rfl, by omega, by omega, by omega, O, O, O2, HA0, HD⟩
  case round =>
    clear O O2 HD HA0
    obtain ⟨an, ao, nn, cn, no, co, k, ln, lo', rfl, rfl, rfl, hnn, hno, hsr2, O, ON, O2, HA, HD⟩ := hrel
    have hsr := HD.out.size
    by_cases hk : 0 < k
    · have hk' : (0 : Int) < (k : Int) := by omega
      go_wp2_with fail
      refine Calls.mono (spec_l26DrawStep (m := n1) HD.out (by omega)) ?_
      rintro e w4 ⟨x, rfl, hx, hd⟩
      have hs4 := hd.size
      (try simp at hs4)
      replace O := Lib.hid ((O.out.keep (by repeat (first | exact Below.refl _ _ | assumption | refine below_allocS ?_ _ | refine below_callS ?_ (by assumption) | (refine Below.alloc ?_ (by first | omega | (simp; done) | (simp; omega)) _) | (refine Below.setCell ?_ (by first | omega | (simp; done) | (simp; omega)) _) | refine Below.drew ?_ | refine below_drewN ?_ _ | (refine below_call ?_ (by assumption) (by first | omega | (simp; done) | (simp; omega))) | (refine Below.trans ?_ (by assumption))))).dw hd hbw)
      replace ON := Lib.hid ((ON.out.keep (by repeat (first | exact Below.refl _ _ | assumption | refine below_allocS ?_ _ | refine below_callS ?_ (by assumption) | (refine Below.alloc ?_ (by first | omega | (simp; done) | (simp; omega)) _) | (refine Below.setCell ?_ (by first | omega | (simp; done) | (simp; omega)) _) | refine Below.drew ?_ | refine below_drewN ?_ _ | (refine below_call ?_ (by assumption) (by first | omega | (simp; done) | (simp; omega))) | (refine Below.trans ?_ (by assumption))))).dw hd hbw)
      replace O2 := Lib.hid ((O2.out.keep (by repeat (first | exact Below.refl _ _ | assumption | refine below_allocS ?_ _ | refine below_callS ?_ (by assumption) | (refine Below.alloc ?_ (by first | omega | (simp; done) | (simp; omega)) _) | (refine Below.setCell ?_ (by first | omega | (simp; done) | (simp; omega)) _) | refine Below.drew ?_ | refine below_drewN ?_ _ | (refine below_call ?_ (by assumption) (by first | omega | (simp; done) | (simp; omega))) | (refine Below.trans ?_ (by assumption))))).dw hd (by omega))
      replace HD := Lib.hid ((HD.out.below (by repeat (first | exact Below.refl _ _ | assumption | refine below_allocS ?_ _ | refine below_callS ?_ (by assumption) | (refine Below.alloc ?_ (by first | omega | (simp; done) | (simp; omega)) _) | (refine Below.setCell ?_ (by first | omega | (simp; done) | (simp; omega)) _) | refine Below.drew ?_ | refine below_drewN ?_ _ | (refine below_call ?_ (by assumption) (by first | omega | (simp; done) | (simp; omega))) | (refine Below.trans ?_ (by assumption))))).trans hd)
      clear hd
      have HX := Lib.hid hx
      clear hx
      have X := Lib.hid (Blk.made w4 #[.int .i64 x.a, .int .i64 x.b] 51)
      go_wp2_with fail
      refine Calls.mono (spec_AreRestraints (ON.out.ints.keep (by repeat (first | exact Below.refl _ _ | assumption | refine below_allocS ?_ _ | refine below_callS ?_ (by assumption) | (refine Below.alloc ?_ (by first | omega | (simp; done) | (simp; omega)) _) | (refine Below.setCell ?_ (by first | omega | (simp; done) | (simp; omega)) _) | refine Below.drew ?_ | refine below_drewN ?_ _ | (refine below_call ?_ (by assumption) (by first | omega | (simp; done) | (simp; omega))) | (refine Below.trans ?_ (by assumption))))) (by omega)) ?_
      rintro e _ ⟨rfl, rfl⟩
      cases hA : areRes ln
      · clear hA
        have x0 := X.out.cell 0
        have x1 := X.out.cell 1
        have xl := X.out.lt
        simp at x0 x1
        go_wp2_with (at_builtin; refine appI2n (lo := w.heap.size) (b := b) (w0 := w1) rfl _ _ rfl Try.underlying45 Try.infoRestraintStep rfl (by decide) w2.heap.size w1.heap.size _ _ _ _ _ _ _ _ (O2.out.keep (by repeat (first | exact Below.refl _ _ | assumption | refine below_allocS ?_ _ | refine below_callS ?_ (by assumption) | (refine Below.alloc ?_ (by first | omega | (simp; done) | (simp; omega)) _) | (refine Below.setCell ?_ (by first | omega | (simp; done) | (simp; omega)) _) | refine Below.drew ?_ | refine below_drewN ?_ _ | (refine below_call ?_ (by assumption) (by first | omega | (simp; done) | (simp; omega))) | (refine Below.trans ?_ (by assumption))))) (ON.out.keep (by repeat (first | exact Below.refl _ _ | assumption | refine below_allocS ?_ _ | refine below_callS ?_ (by assumption) | (refine Below.alloc ?_ (by first | omega | (simp; done) | (simp; omega)) _) | (refine Below.setCell ?_ (by first | omega | (simp; done) | (simp; omega)) _) | refine Below.drew ?_ | refine below_drewN ?_ _ | (refine below_call ?_ (by assumption) (by first | omega | (simp; done) | (simp; omega))) | (refine Below.trans ?_ (by assumption))))) HA.out rfl _ rfl (by first | rfl | (simp; done)) HX.out.1 HX.out.2 (by omega) (HD.out.below (by repeat (first | exact Below.refl _ _ | assumption | refine below_allocS ?_ _ | refine below_callS ?_ (by assumption) | (refine Below.alloc ?_ (by first | omega | (simp; done) | (simp; omega)) _) | (refine Below.setCell ?_ (by first | omega | (simp; done) | (simp; omega)) _) | refine Below.drew ?_ | refine below_drewN ?_ _ | (refine below_call ?_ (by assumption) (by first | omega | (simp; done) | (simp; omega))) | (refine Below.trans ?_ (by assumption))))) (by omega) (by (try simp); omega) ?_; intro a' c' wn h1 h2 h3 h4 h5; have O := Lib.hid ((O.out.keep (by repeat (first | exact Below.refl _ _ | assumption | refine below_allocS ?_ _ | refine below_callS ?_ (by assumption) | (refine Below.alloc ?_ (by first | omega | (simp; done) | (simp; omega)) _) | (refine Below.setCell ?_ (by first | omega | (simp; done) | (simp; omega)) _) | refine Below.drew ?_ | refine below_drewN ?_ _ | (refine below_call ?_ (by assumption) (by first | omega | (simp; done) | (simp; omega))) | (refine Below.trans ?_ (by assumption))))).belowB h4 hba2.out); have ON := Lib.hid h2; have O2 := Lib.hid h1; have HA := Lib.hid h3; replace HD := Lib.hid h5; have hsn := h4.size; clear h1 h2 h3 h4 h5)
        go_roundw
        case rel => exact ⟨_, _, _, _, _, _, k - 1, _, _, rfl, rfl, by rw [show ((k - 1 : Nat) : Int) = (k : Int) - 1 from by omega], by omega, by omega, by (try simp at hsn); omega, O, ON, O2, HA, HD⟩
        case measure => simp [intOf]; omega
      · have hA1 := Lib.hid hA
        clear hA
        go_wp2_with fail
        refine Calls.mono (spec_l26Step (n := nn) (x := x) (by omega)) ?_
        rintro e w5 ⟨rfl, hb5⟩
        have hs5 := hb5.size
        simp at hs5
        replace X := Lib.hid (X.out.keep hb5)
        replace O := Lib.hid ((O.out.keep (show Below w4.heap.size w4 (w4.alloc (.cells #[.int .i64 x.a, .int .i64 x.b] 51)) by repeat (first | exact Below.refl _ _ | assumption | refine below_allocS ?_ _ | refine below_callS ?_ (by assumption) | (refine Below.alloc ?_ (by first | omega | (simp; done) | (simp; omega)) _) | (refine Below.setCell ?_ (by first | omega | (simp; done) | (simp; omega)) _) | refine Below.drew ?_ | refine below_drewN ?_ _ | (refine below_call ?_ (by assumption) (by first | omega | (simp; done) | (simp; omega))) | (refine Below.trans ?_ (by assumption))))).keep hb5)
        replace ON := Lib.hid ((ON.out.keep (show Below w4.heap.size w4 (w4.alloc (.cells #[.int .i64 x.a, .int .i64 x.b] 51)) by repeat (first | exact Below.refl _ _ | assumption | refine below_allocS ?_ _ | refine below_callS ?_ (by assumption) | (refine Below.alloc ?_ (by first | omega | (simp; done) | (simp; omega)) _) | (refine Below.setCell ?_ (by first | omega | (simp; done) | (simp; omega)) _) | refine Below.drew ?_ | refine below_drewN ?_ _ | (refine below_call ?_ (by assumption) (by first | omega | (simp; done) | (simp; omega))) | (refine Below.trans ?_ (by assumption))))).keep hb5)
        replace O2 := Lib.hid ((O2.out.keep (show Below w4.heap.size w4 (w4.alloc (.cells #[.int .i64 x.a, .int .i64 x.b] 51)) by repeat (first | exact Below.refl _ _ | assumption | refine below_allocS ?_ _ | refine below_callS ?_ (by assumption) | (refine Below.alloc ?_ (by first | omega | (simp; done) | (simp; omega)) _) | (refine Below.setCell ?_ (by first | omega | (simp; done) | (simp; omega)) _) | refine Below.drew ?_ | refine below_drewN ?_ _ | (refine below_call ?_ (by assumption) (by first | omega | (simp; done) | (simp; omega))) | (refine Below.trans ?_ (by assumption))))).keep hb5)
        replace HD := Lib.hid ((HD.out.alloc _).below hb5)
        clear hb5
        cases hS : stepOk nn x
        · clear hS
          have x0 := X.out.cell 0
          have x1 := X.out.cell 1
          have xl := X.out.lt
          simp at x0 x1
          go_wp2_with (at_builtin; refine appI2n (lo := w.heap.size) (b := b) (w0 := w1) rfl _ _ rfl Try.underlying45 Try.infoRestraintStep rfl (by decide) w2.heap.size w1.heap.size _ _ _ _ _ _ _ _ (O2.out.keep (by repeat (first | exact Below.refl _ _ | assumption | refine below_allocS ?_ _ | refine below_callS ?_ (by assumption) | (refine Below.alloc ?_ (by first | omega | (simp; done) | (simp; omega)) _) | (refine Below.setCell ?_ (by first | omega | (simp; done) | (simp; omega)) _) | refine Below.drew ?_ | refine below_drewN ?_ _ | (refine below_call ?_ (by assumption) (by first | omega | (simp; done) | (simp; omega))) | (refine Below.trans ?_ (by assumption))))) (ON.out.keep (by repeat (first | exact Below.refl _ _ | assumption | refine below_allocS ?_ _ | refine below_callS ?_ (by assumption) | (refine Below.alloc ?_ (by first | omega | (simp; done) | (simp; omega)) _) | (refine Below.setCell ?_ (by first | omega | (simp; done) | (simp; omega)) _) | refine Below.drew ?_ | refine below_drewN ?_ _ | (refine below_call ?_ (by assumption) (by first | omega | (simp; done) | (simp; omega))) | (refine Below.trans ?_ (by assumption))))) HA.out rfl _ rfl (by first | rfl | (simp; done)) HX.out.1 HX.out.2 (by omega) (HD.out.below (by repeat (first | exact Below.refl _ _ | assumption | refine below_allocS ?_ _ | refine below_callS ?_ (by assumption) | (refine Below.alloc ?_ (by first | omega | (simp; done) | (simp; omega)) _) | (refine Below.setCell ?_ (by first | omega | (simp; done) | (simp; omega)) _) | refine Below.drew ?_ | refine below_drewN ?_ _ | (refine below_call ?_ (by assumption) (by first | omega | (simp; done) | (simp; omega))) | (refine Below.trans ?_ (by assumption))))) (by omega) (by (try simp); omega) ?_; intro a' c' wn h1 h2 h3 h4 h5; have O := Lib.hid ((O.out.keep (by repeat (first | exact Below.refl _ _ | assumption | refine below_allocS ?_ _ | refine below_callS ?_ (by assumption) | (refine Below.alloc ?_ (by first | omega | (simp; done) | (simp; omega)) _) | (refine Below.setCell ?_ (by first | omega | (simp; done) | (simp; omega)) _) | refine Below.drew ?_ | refine below_drewN ?_ _ | (refine below_call ?_ (by assumption) (by first | omega | (simp; done) | (simp; omega))) | (refine Below.trans ?_ (by assumption))))).belowB h4 hba2.out); have ON := Lib.hid h2; have O2 := Lib.hid h1; have HA := Lib.hid h3; replace HD := Lib.hid h5; have hsn := h4.size; clear h1 h2 h3 h4 h5)
          go_roundw
          case rel => exact ⟨_, _, _, _, _, _, k - 1, _, _, rfl, rfl, by rw [show ((k - 1 : Nat) : Int) = (k : Int) - 1 from by omega], by omega, by omega, by (try simp at hsn); omega, O, ON, O2, HA, HD⟩
          case measure => simp [intOf]; omega
        · have hS1 := Lib.hid hS
          clear hS
          have x0 := X.out.cell 0
          have x1 := X.out.cell 1
          have xl := X.out.lt
          simp at x0 x1
          go_wp2_with fail
          refine Calls.mono (spec_l26Apply (x := x) ON.out.ints (by omega) (by have h := hA1.out; simp only [areRes, Bool.and_eq_true, inB, decide_eq_true_eq] at h; have h2 := ON.out.len; omega) (by have h := hA1.out; simp only [areRes, Bool.and_eq_true] at h; exact h.1) hS1.out) ?_
          rintro e w6 ⟨n', a', c', rfl, hb6, hst⟩
          have hs6 := hb6.size
          clear x0 x1 xl
          have ha5 := Lib.hid O2.out.blk
          replace X := Lib.hid (X.out.keep hb6)
          replace O := Lib.hid (O.out.keep hb6)
          replace ON := Lib.hid (ON.out.keep hb6)
          replace O2 := Lib.hid (O2.out.keep hb6)
          replace HD := Lib.hid (HD.out.below hb6)
          clear hb6
          cases hq : stepR ln x with
          | none =>
            clear hst hq
            go_wp2_with fail
            refine Calls.mono (dw_next (b := b) (lo := w.heap.size) (by repeat (first | exact HD.out.src | with_reducible refine Src.alloc ?_ _ | with_reducible refine Src.drew ?_ | with_reducible refine Src.drewN ?_ _)) (by decide)) ?_
            rintro e w7 ⟨r2, rfl, h02, h12, hd⟩
            have hs7 := hd.size
            (try simp at hs7)
            replace X := Lib.hid (X.out.dw hd (by omega))
            replace O := Lib.hid ((O.out.keep (by repeat (first | exact Below.refl _ _ | assumption | refine below_allocS ?_ _ | refine below_callS ?_ (by assumption) | (refine Below.alloc ?_ (by first | omega | (simp; done) | (simp; omega)) _) | (refine Below.setCell ?_ (by first | omega | (simp; done) | (simp; omega)) _) | refine Below.drew ?_ | refine below_drewN ?_ _ | (refine below_call ?_ (by assumption) (by first | omega | (simp; done) | (simp; omega))) | (refine Below.trans ?_ (by assumption))))).dw hd hbw)
            replace ON := Lib.hid ((ON.out.keep (by repeat (first | exact Below.refl _ _ | assumption | refine below_allocS ?_ _ | refine below_callS ?_ (by assumption) | (refine Below.alloc ?_ (by first | omega | (simp; done) | (simp; omega)) _) | (refine Below.setCell ?_ (by first | omega | (simp; done) | (simp; omega)) _) | refine Below.drew ?_ | refine below_drewN ?_ _ | (refine below_call ?_ (by assumption) (by first | omega | (simp; done) | (simp; omega))) | (refine Below.trans ?_ (by assumption))))).dw hd hbw)
            replace O2 := Lib.hid ((O2.out.keep (by repeat (first | exact Below.refl _ _ | assumption | refine below_allocS ?_ _ | refine below_callS ?_ (by assumption) | (refine Below.alloc ?_ (by first | omega | (simp; done) | (simp; omega)) _) | (refine Below.setCell ?_ (by first | omega | (simp; done) | (simp; omega)) _) | refine Below.drew ?_ | refine below_drewN ?_ _ | (refine below_call ?_ (by assumption) (by first | omega | (simp; done) | (simp; omega))) | (refine Below.trans ?_ (by assumption))))).dw hd (by omega))
            replace HD := Lib.hid ((HD.out.below (by repeat (first | exact Below.refl _ _ | assumption | refine below_allocS ?_ _ | refine below_callS ?_ (by assumption) | (refine Below.alloc ?_ (by first | omega | (simp; done) | (simp; omega)) _) | (refine Below.setCell ?_ (by first | omega | (simp; done) | (simp; omega)) _) | refine Below.drew ?_ | refine below_drewN ?_ _ | (refine below_call ?_ (by assumption) (by first | omega | (simp; done) | (simp; omega))) | (refine Below.trans ?_ (by assumption))))).trans hd)
            clear hd
            by_cases hc : 0 < r2
            · go_wp2_with fail
              go_roundw
              case rel => exact ⟨_, _, _, _, _, _, k - 1, _, _, rfl, rfl, by rw [show ((k - 1 : Nat) : Int) = (k : Int) - 1 from by omega], by omega, by omega, by omega, O, ON, O2, HA, HD⟩
              case measure => simp [intOf]; omega
            · skip
              have x0 := X.out.cell 0
              have x1 := X.out.cell 1
              have xl := X.out.lt
              simp at x0 x1
              go_wp2_with (at_builtin; refine appI2n (lo := w.heap.size) (b := b) (w0 := w1) rfl _ _ rfl Try.underlying45 Try.infoRestraintStep rfl (by decide) w2.heap.size w1.heap.size _ _ _ _ _ _ _ _ (O2.out.keep (by repeat (first | exact Below.refl _ _ | assumption | refine below_allocS ?_ _ | refine below_callS ?_ (by assumption) | (refine Below.alloc ?_ (by first | omega | (simp; done) | (simp; omega)) _) | (refine Below.setCell ?_ (by first | omega | (simp; done) | (simp; omega)) _) | refine Below.drew ?_ | refine below_drewN ?_ _ | (refine below_call ?_ (by assumption) (by first | omega | (simp; done) | (simp; omega))) | (refine Below.trans ?_ (by assumption))))) (ON.out.keep (by repeat (first | exact Below.refl _ _ | assumption | refine below_allocS ?_ _ | refine below_callS ?_ (by assumption) | (refine Below.alloc ?_ (by first | omega | (simp; done) | (simp; omega)) _) | (refine Below.setCell ?_ (by first | omega | (simp; done) | (simp; omega)) _) | refine Below.drew ?_ | refine below_drewN ?_ _ | (refine below_call ?_ (by assumption) (by first | omega | (simp; done) | (simp; omega))) | (refine Below.trans ?_ (by assumption))))) HA.out rfl _ rfl (by first | rfl | (simp; done)) HX.out.1 HX.out.2 (by omega) (HD.out.below (by repeat (first | exact Below.refl _ _ | assumption | refine below_allocS ?_ _ | refine below_callS ?_ (by assumption) | (refine Below.alloc ?_ (by first | omega | (simp; done) | (simp; omega)) _) | (refine Below.setCell ?_ (by first | omega | (simp; done) | (simp; omega)) _) | refine Below.drew ?_ | refine below_drewN ?_ _ | (refine below_call ?_ (by assumption) (by first | omega | (simp; done) | (simp; omega))) | (refine Below.trans ?_ (by assumption))))) (by omega) (by (try simp); omega) ?_; intro a' c' wn h1 h2 h3 h4 h5; have O := Lib.hid ((O.out.keep (by repeat (first | exact Below.refl _ _ | assumption | refine below_allocS ?_ _ | refine below_callS ?_ (by assumption) | (refine Below.alloc ?_ (by first | omega | (simp; done) | (simp; omega)) _) | (refine Below.setCell ?_ (by first | omega | (simp; done) | (simp; omega)) _) | refine Below.drew ?_ | refine below_drewN ?_ _ | (refine below_call ?_ (by assumption) (by first | omega | (simp; done) | (simp; omega))) | (refine Below.trans ?_ (by assumption))))).belowB h4 hba2.out); have ON := Lib.hid h2; have O2 := Lib.hid h1; have HA := Lib.hid h3; replace HD := Lib.hid h5; have hsn := h4.size; clear h1 h2 h3 h4 h5)
              go_roundw
              case rel => exact ⟨_, _, _, _, _, _, k - 1, _, _, rfl, rfl, by rw [show ((k - 1 : Nat) : Int) = (k : Int) - 1 from by omega], by omega, by omega, by (try simp at hsn); omega, O, ON, O2, HA, HD⟩
              case measure => simp [intOf]; omega
          | some l' =>
            obtain ⟨hn', ho'⟩ := hst l' hq
            subst hn'
            replace HA := Lib.hid (show Apart a' ao from fun g e e' => by have h1 := (ho'.blk g e).1; have h2 := (ha5.out g e').2; omega)
            replace ON := Lib.hid (ho'.le (base' := w1.heap.size) (by omega))
            clear hst hq ho'
            have x0 := X.out.cell 0
            have x1 := X.out.cell 1
            have xl := X.out.lt
            simp at x0 x1
            go_wp2_with (at_builtin; refine appI2n (lo := w.heap.size) (b := b) (w0 := w1) rfl _ _ rfl Try.underlying45 Try.infoRestraintStep rfl (by decide) w2.heap.size w1.heap.size _ _ _ _ _ _ _ _ (O2.out.keep (by repeat (first | exact Below.refl _ _ | assumption | refine below_allocS ?_ _ | refine below_callS ?_ (by assumption) | (refine Below.alloc ?_ (by first | omega | (simp; done) | (simp; omega)) _) | (refine Below.setCell ?_ (by first | omega | (simp; done) | (simp; omega)) _) | refine Below.drew ?_ | refine below_drewN ?_ _ | (refine below_call ?_ (by assumption) (by first | omega | (simp; done) | (simp; omega))) | (refine Below.trans ?_ (by assumption))))) (ON.out.keep (by repeat (first | exact Below.refl _ _ | assumption | refine below_allocS ?_ _ | refine below_callS ?_ (by assumption) | (refine Below.alloc ?_ (by first | omega | (simp; done) | (simp; omega)) _) | (refine Below.setCell ?_ (by first | omega | (simp; done) | (simp; omega)) _) | refine Below.drew ?_ | refine below_drewN ?_ _ | (refine below_call ?_ (by assumption) (by first | omega | (simp; done) | (simp; omega))) | (refine Below.trans ?_ (by assumption))))) HA.out rfl _ rfl (by first | rfl | (simp; done)) HX.out.1 HX.out.2 (by omega) (HD.out.below (by repeat (first | exact Below.refl _ _ | assumption | refine below_allocS ?_ _ | refine below_callS ?_ (by assumption) | (refine Below.alloc ?_ (by first | omega | (simp; done) | (simp; omega)) _) | (refine Below.setCell ?_ (by first | omega | (simp; done) | (simp; omega)) _) | refine Below.drew ?_ | refine below_drewN ?_ _ | (refine below_call ?_ (by assumption) (by first | omega | (simp; done) | (simp; omega))) | (refine Below.trans ?_ (by assumption))))) (by omega) (by (try simp); omega) ?_; intro a' c' wn h1 h2 h3 h4 h5; have O := Lib.hid ((O.out.keep (by repeat (first | exact Below.refl _ _ | assumption | refine below_allocS ?_ _ | refine below_callS ?_ (by assumption) | (refine Below.alloc ?_ (by first | omega | (simp; done) | (simp; omega)) _) | (refine Below.setCell ?_ (by first | omega | (simp; done) | (simp; omega)) _) | refine Below.drew ?_ | refine below_drewN ?_ _ | (refine below_call ?_ (by assumption) (by first | omega | (simp; done) | (simp; omega))) | (refine Below.trans ?_ (by assumption))))).belowB h4 hba2.out); have ON := Lib.hid h2; have O2 := Lib.hid h1; have HA := Lib.hid h3; replace HD := Lib.hid h5; have hsn := h4.size; clear h1 h2 h3 h4 h5)
            go_roundw
            case rel => exact ⟨_, _, _, _, _, _, k - 1, _, _, rfl, rfl, by rw [show ((k - 1 : Nat) : Int) = (k : Int) - 1 from by omega], by omega, by omega, by (try simp at hsn); omega, O, ON, O2, HA, HD⟩
            case measure => simp [intOf]; omega
    · obtain rfl : k = 0 := by omega
      clear ON HA
      go_wp2_with fail
      refine Calls.mono (dw_next (b := b) (lo := w.heap.size) (by repeat (first | exact HD.out.src | with_reducible refine Src.alloc ?_ _ | with_reducible refine Src.drew ?_ | with_reducible refine Src.drewN ?_ _)) (by decide)) ?_
      rintro e w4 ⟨r3, rfl, h03, h13, hd⟩
      have hs4 := hd.size
      replace O := Lib.hid (O.out.dw hd hbw)
      replace O2 := Lib.hid (O2.out.dw hd (by omega))
      replace HD := Lib.hid (HD.out.trans hd)
      clear hd
      by_cases q0 : r3 = 0
      · subst q0
        go_wp2_with fail
        refine Calls.mono (dw_next (b := b) (lo := w.heap.size) (by repeat (first | exact HD.out.src | with_reducible refine Src.alloc ?_ _ | with_reducible refine Src.drew ?_ | with_reducible refine Src.drewN ?_ _)) (by decide)) ?_
        rintro e w5 ⟨r4, rfl, h04, h14, hd⟩
        replace O := Lib.hid (O.out.dw hd hbw)
        replace HD := Lib.hid (HD.out.trans hd)
        clear hd O2
        have hfin := HD.out.fin hbl hlo
        obtain rfl | rfl : r4 = 0 ∨ r4 = 1 := by omega
        · have hmk := mkr200
          go_wp2
          go_ret2
          exact ⟨a1, n1, c1, l1, _, 200, 200, _, rfl, O.out.ints.keep (by repeat (first | exact Below.refl _ _ | assumption | refine below_allocS ?_ _ | refine below_callS ?_ (by assumption) | (refine Below.alloc ?_ (by first | omega | (simp; done) | (simp; omega)) _) | (refine Below.setCell ?_ (by first | omega | (simp; done) | (simp; omega)) _) | refine Below.drew ?_ | refine below_drewN ?_ _ | (refine below_call ?_ (by assumption) (by first | omega | (simp; done) | (simp; omega))) | (refine Below.trans ?_ (by assumption)))), hn1, (OwnF.zeros (k := 2) (m := 200) (enc := I2.enc) (ok := I2.ok) (base := 0) w5 ⟨0, 0⟩ (Nat.zero_le _) (by decide) (fun _ => rfl) (by exact ⟨by decide, by decide⟩) rfl).flats, by decide, by repeat (first | exact Below.refl _ _ | assumption | refine below_allocS ?_ _ | refine below_callS ?_ (by assumption) | (refine Below.alloc ?_ (by first | omega | (simp; done) | (simp; omega)) _) | (refine Below.setCell ?_ (by first | omega | (simp; done) | (simp; omega)) _) | refine Below.drew ?_ | refine below_drewN ?_ _ | (refine below_call ?_ (by assumption) (by first | omega | (simp; done) | (simp; omega))) | (refine Below.trans ?_ (by assumption)))⟩
        · have hmk := mkr201
          go_wp2
          go_ret2
          exact ⟨a1, n1, c1, l1, _, 201, 201, _, rfl, O.out.ints.keep (by repeat (first | exact Below.refl _ _ | assumption | refine below_allocS ?_ _ | refine below_callS ?_ (by assumption) | (refine Below.alloc ?_ (by first | omega | (simp; done) | (simp; omega)) _) | (refine Below.setCell ?_ (by first | omega | (simp; done) | (simp; omega)) _) | refine Below.drew ?_ | refine below_drewN ?_ _ | (refine below_call ?_ (by assumption) (by first | omega | (simp; done) | (simp; omega))) | (refine Below.trans ?_ (by assumption)))), hn1, (OwnF.zeros (k := 2) (m := 201) (enc := I2.enc) (ok := I2.ok) (base := 0) w5 ⟨0, 0⟩ (Nat.zero_le _) (by decide) (fun _ => rfl) (by exact ⟨by decide, by decide⟩) rfl).flats, by decide, by repeat (first | exact Below.refl _ _ | assumption | refine below_allocS ?_ _ | refine below_callS ?_ (by assumption) | (refine Below.alloc ?_ (by first | omega | (simp; done) | (simp; omega)) _) | (refine Below.setCell ?_ (by first | omega | (simp; done) | (simp; omega)) _) | refine Below.drew ?_ | refine below_drewN ?_ _ | (refine below_call ?_ (by assumption) (by first | omega | (simp; done) | (simp; omega))) | (refine Below.trans ?_ (by assumption)))⟩
      · have q0' : (r3 == 0) = false := by simpa using q0
        clear q0
        have hfin := HD.out.fin hbl hlo
        go_wp2
        go_ret2
        exact ⟨a1, n1, c1, l1, _, _, _, _, rfl, O.out.ints, hn1, O2.out.flats, by omega, hfin⟩
end Go.Proofs.Ytoaccicfmfiemaa
