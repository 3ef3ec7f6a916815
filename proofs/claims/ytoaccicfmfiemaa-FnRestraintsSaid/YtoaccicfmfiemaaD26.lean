/- Draws of layer 26, walked. -/
import Derived.Test.YtoaccicfmfiemaaDa
namespace Go.Proofs.Ytoaccicfmfiemaa
open Go.RowKit
set_option linter.unusedVariables false
set_option linter.unusedSimpArgs false
theorem mk12 (w : World) : (Instr.makeSlice 32 (.int .i64 12) (.int .i64 12)).run Try.prog w = .ok (.slice (some ⟨w.heap.size, 0, none⟩) 12 12) (w.alloc (.cells (List.replicate 12 (Value.int .i64 0)).toArray 2)) := by kernel_rfl
theorem mk13 (w : World) : (Instr.makeSlice 32 (.int .i64 13) (.int .i64 13)).run Try.prog w = .ok (.slice (some ⟨w.heap.size, 0, none⟩) 13 13) (w.alloc (.cells (List.replicate 13 (Value.int .i64 0)).toArray 2)) := by kernel_rfl
set_option maxRecDepth 100000 in
set_option maxHeartbeats 1000000 in
theorem spec_l26Draw {b lo : Nat} {w0 w : World} (hS : Dw 147 lo b w0 w) :
    Calls Try.prog 92 #[.pointer (some ⟨b, 0, none⟩)] w fun e w' => ∃ a n c l, e = .returned (.slice a n c) ∧ OwnI 2 w' w.heap.size a n c l ∧ n ≤ 13 ∧ Dw 147 lo b w w' := by
  have HD := Lib.hid hS.start
  have hbw := hS.src.lt.2
  clear hS
  have O := Lib.hid (OwnI.empty (E := 2) (base := w.heap.size) w (Nat.le_refl _))
  go_enter Try.func92, Try.ntmps92
  go_wp2_with (go_at_call 93; refine Calls.mono (dw_next (b := b) (lo := lo) (by repeat (first | exact HD.out.src | with_reducible refine Src.alloc ?_ _ | with_reducible refine Src.drew ?_ | with_reducible refine Src.drewN ?_ _)) (by first | assumption | decide | (unfold I64; omega))) ?_; rintro e wn ⟨r, rfl, h0, h1, hd⟩; (try replace h1 := h1.resolve_right (by decide)); replace O := Lib.hid ((O.out.keep (by repeat (first | exact Below.refl _ _ | assumption | refine below_allocS ?_ _ | refine below_callS ?_ (by assumption) | (refine Below.alloc ?_ (by first | omega | (simp; done) | (simp; omega)) _) | (refine Below.setCell ?_ (by first | omega | (simp; done) | (simp; omega)) _) | refine Below.drew ?_ | refine below_drewN ?_ _ | (refine below_call ?_ (by assumption) (by first | omega | (simp; done) | (simp; omega))) | (refine Below.trans ?_ (by assumption))))).dw hd (by omega)); replace HD := Lib.hid ((HD.out.below (by repeat (first | exact Below.refl _ _ | assumption | refine below_allocS ?_ _ | refine below_callS ?_ (by assumption) | (refine Below.alloc ?_ (by first | omega | (simp; done) | (simp; omega)) _) | (refine Below.setCell ?_ (by first | omega | (simp; done) | (simp; omega)) _) | refine Below.drew ?_ | refine below_drewN ?_ _ | (refine below_call ?_ (by assumption) (by first | omega | (simp; done) | (simp; omega))) | (refine Below.trans ?_ (by assumption))))).trans hd); have hsz := HD.out.size; clear hd)
  go_loopw [3, 5] (fun s3 s5 wr => ∃ (a : Option Addr) (n c k : Nat) (l : List Int), s3 = .slice a n c ∧ s5 = .int .i64 k ∧ n + k ≤ 6 ∧ 1 ≤ n + k ∧ Hid (OwnI 2 wr w.heap.size a n c l) ∧ Hid (Dw 147 lo b w wr)) (fun _ s5 _ => (intOf s5).toNat)
  case atStart => exact ⟨_, 0, 0, (1 + r).toNat, [], rfl, by rw [show (((1 + r).toNat : Nat) : Int) = 1 + r from by omega], by omega, by omega, O, HD⟩
  case round =>
    clear O HD
    obtain ⟨a, n, c, k, l, rfl, rfl, hk1, hk2, O, HD⟩ := hrel
    have hsz := HD.out.size
    by_cases hk : 0 < k
    · have hk' : (0 : Int) < (k : Int) := by omega
      go_wp2_with (first | (go_at_call 93; refine Calls.mono (dw_next (b := b) (lo := lo) (by repeat (first | exact HD.out.src | with_reducible refine Src.alloc ?_ _ | with_reducible refine Src.drew ?_ | with_reducible refine Src.drewN ?_ _)) (by first | assumption | decide | (unfold I64; omega))) ?_; rintro e wn ⟨r, rfl, h0, h1, hd⟩; (try replace h1 := h1.resolve_right (by decide)); replace O := Lib.hid ((O.out.keep (by repeat (first | exact Below.refl _ _ | assumption | refine below_allocS ?_ _ | refine below_callS ?_ (by assumption) | (refine Below.alloc ?_ (by first | omega | (simp; done) | (simp; omega)) _) | (refine Below.setCell ?_ (by first | omega | (simp; done) | (simp; omega)) _) | refine Below.drew ?_ | refine below_drewN ?_ _ | (refine below_call ?_ (by assumption) (by first | omega | (simp; done) | (simp; omega))) | (refine Below.trans ?_ (by assumption))))).dw hd (by omega)); replace HD := Lib.hid ((HD.out.below (by repeat (first | exact Below.refl _ _ | assumption | refine below_allocS ?_ _ | refine below_callS ?_ (by assumption) | (refine Below.alloc ?_ (by first | omega | (simp; done) | (simp; omega)) _) | (refine Below.setCell ?_ (by first | omega | (simp; done) | (simp; omega)) _) | refine Below.drew ?_ | refine below_drewN ?_ _ | (refine below_call ?_ (by assumption) (by first | omega | (simp; done) | (simp; omega))) | (refine Below.trans ?_ (by assumption))))).trans hd); have hsz := HD.out.size; clear hd) | (at_builtin; refine app1 (lo := lo) (b := b) (w0 := w) rfl _ _ rfl Try.underlying32 Try.infoi64 (w.heap.size) _ _ _ _ (O.out.keep (by repeat (first | exact Below.refl _ _ | assumption | refine below_allocS ?_ _ | refine below_callS ?_ (by assumption) | (refine Below.alloc ?_ (by first | omega | (simp; done) | (simp; omega)) _) | (refine Below.setCell ?_ (by first | omega | (simp; done) | (simp; omega)) _) | refine Below.drew ?_ | refine below_drewN ?_ _ | (refine below_call ?_ (by assumption) (by first | omega | (simp; done) | (simp; omega))) | (refine Below.trans ?_ (by assumption))))) rfl _ rfl (by first | rfl | (simp; done)) (by first | assumption | decide | (unfold I64; omega)) (by omega) (HD.out.below (by repeat (first | exact Below.refl _ _ | assumption | refine below_allocS ?_ _ | refine below_callS ?_ (by assumption) | (refine Below.alloc ?_ (by first | omega | (simp; done) | (simp; omega)) _) | (refine Below.setCell ?_ (by first | omega | (simp; done) | (simp; omega)) _) | refine Below.drew ?_ | refine below_drewN ?_ _ | (refine below_call ?_ (by assumption) (by first | omega | (simp; done) | (simp; omega))) | (refine Below.trans ?_ (by assumption))))) (by omega) (by have hh := HD.out.size; (try simp); omega) ?_; intro a' c' wn ho hb hd; have O := Lib.hid ho; replace HD := Lib.hid hd; have hsz := HD.out.size; clear ho hb hd))
      all_goals
        go_roundw
        case rel => exact ⟨_, _, _, k - 1, _, rfl, by rw [show ((k - 1 : Nat) : Int) = (k : Int) - 1 from by omega], by omega, by omega, O, HD⟩
        case measure => simp [intOf]; omega
    · obtain rfl : k = 0 := by omega
      go_wp2_with (go_at_call 93; refine Calls.mono (dw_next (b := b) (lo := lo) (by repeat (first | exact HD.out.src | with_reducible refine Src.alloc ?_ _ | with_reducible refine Src.drew ?_ | with_reducible refine Src.drewN ?_ _)) (by first | assumption | decide | (unfold I64; omega))) ?_; rintro e wn ⟨r, rfl, h0, h1, hd⟩; (try replace h1 := h1.resolve_right (by decide)); replace O := Lib.hid ((O.out.keep (by repeat (first | exact Below.refl _ _ | assumption | refine below_allocS ?_ _ | refine below_callS ?_ (by assumption) | (refine Below.alloc ?_ (by first | omega | (simp; done) | (simp; omega)) _) | (refine Below.setCell ?_ (by first | omega | (simp; done) | (simp; omega)) _) | refine Below.drew ?_ | refine below_drewN ?_ _ | (refine below_call ?_ (by assumption) (by first | omega | (simp; done) | (simp; omega))) | (refine Below.trans ?_ (by assumption))))).dw hd (by omega)); replace HD := Lib.hid ((HD.out.below (by repeat (first | exact Below.refl _ _ | assumption | refine below_allocS ?_ _ | refine below_callS ?_ (by assumption) | (refine Below.alloc ?_ (by first | omega | (simp; done) | (simp; omega)) _) | (refine Below.setCell ?_ (by first | omega | (simp; done) | (simp; omega)) _) | refine Below.drew ?_ | refine below_drewN ?_ _ | (refine below_call ?_ (by assumption) (by first | omega | (simp; done) | (simp; omega))) | (refine Below.trans ?_ (by assumption))))).trans hd); have hsz := HD.out.size; clear hd)
      · (go_at_call 128; (first | (refine Calls.mono (dw_pick2 (b := b) (lo := lo) (by repeat (first | exact HD.out.src | with_reducible refine Src.alloc ?_ _ | with_reducible refine Src.drew ?_ | with_reducible refine Src.drewN ?_ _)) (by first | rfl | (simp; done)) (by first | assumption | decide | (unfold I64; omega)) (by first | assumption | decide | (unfold I64; omega))) ?_) | (refine Calls.mono (dw_pick3 (b := b) (lo := lo) (by repeat (first | exact HD.out.src | with_reducible refine Src.alloc ?_ _ | with_reducible refine Src.drew ?_ | with_reducible refine Src.drewN ?_ _)) (by first | rfl | (simp; done)) (by first | assumption | decide | (unfold I64; omega)) (by first | assumption | decide | (unfold I64; omega)) (by first | assumption | decide | (unfold I64; omega))) ?_) | (refine Calls.mono (dw_pick4 (b := b) (lo := lo) (by repeat (first | exact HD.out.src | with_reducible refine Src.alloc ?_ _ | with_reducible refine Src.drew ?_ | with_reducible refine Src.drewN ?_ _)) (by first | rfl | (simp; done)) (by first | assumption | decide | (unfold I64; omega)) (by first | assumption | decide | (unfold I64; omega)) (by first | assumption | decide | (unfold I64; omega)) (by first | assumption | decide | (unfold I64; omega))) ?_) | (refine Calls.mono (dw_pick5 (b := b) (lo := lo) (by repeat (first | exact HD.out.src | with_reducible refine Src.alloc ?_ _ | with_reducible refine Src.drew ?_ | with_reducible refine Src.drewN ?_ _)) (by first | rfl | (simp; done)) (by first | assumption | decide | (unfold I64; omega)) (by first | assumption | decide | (unfold I64; omega)) (by first | assumption | decide | (unfold I64; omega)) (by first | assumption | decide | (unfold I64; omega)) (by first | assumption | decide | (unfold I64; omega))) ?_)); rintro e wn ⟨r, rfl, hm, hi, hd⟩; replace O := Lib.hid ((O.out.keep (by repeat (first | exact Below.refl _ _ | assumption | refine below_allocS ?_ _ | refine below_callS ?_ (by assumption) | (refine Below.alloc ?_ (by first | omega | (simp; done) | (simp; omega)) _) | (refine Below.setCell ?_ (by first | omega | (simp; done) | (simp; omega)) _) | refine Below.drew ?_ | refine below_drewN ?_ _ | (refine below_call ?_ (by assumption) (by first | omega | (simp; done) | (simp; omega))) | (refine Below.trans ?_ (by assumption))))).dw hd (by omega)); replace HD := Lib.hid ((HD.out.below (by repeat (first | exact Below.refl _ _ | assumption | refine below_allocS ?_ _ | refine below_callS ?_ (by assumption) | (refine Below.alloc ?_ (by first | omega | (simp; done) | (simp; omega)) _) | (refine Below.setCell ?_ (by first | omega | (simp; done) | (simp; omega)) _) | refine Below.drew ?_ | refine below_drewN ?_ _ | (refine below_call ?_ (by assumption) (by first | omega | (simp; done) | (simp; omega))) | (refine Below.trans ?_ (by assumption))))).trans hd); have hsz := HD.out.size; clear hd)
        obtain ⟨g, rfl⟩ := O.out.shape (by omega)
        obtain ⟨x, hx, hxw, hcell⟩ := O.out.cell (k := 0) (by omega)
        have hfz := O.out.free 0
        have hgl := O.out.lt
        have hgl2 := hgl.2
        clear hx
        go_wp2
        go_ret
        exact ⟨_, _, _, _, rfl, O.out.set 0 hi, by omega, HD.out.set hgl.1 _ _⟩
      · obtain rfl | rfl : r = 0 ∨ r = 1 := by omega
        · rw [show (12 : Int) + 0 = 12 from rfl, mk12]
          go_wp2
          go_ret
          exact ⟨_, _, _, _, rfl, OwnI.zeros (m := 12) _ (by omega) (by decide) rfl, by decide, HD.out.alloc _⟩
        · rw [show (12 : Int) + 1 = 13 from rfl, mk13]
          go_wp2
          go_ret
          exact ⟨_, _, _, _, rfl, OwnI.zeros (m := 13) _ (by omega) (by decide) rfl, by decide, HD.out.alloc _⟩
      · go_ret
        exact ⟨_, _, _, _, rfl, OwnI.nil _ _ _, by omega, HD.out⟩
      · go_ret
        exact ⟨_, _, _, _, rfl, O.out, by omega, HD.out⟩
set_option maxRecDepth 100000 in
set_option maxHeartbeats 1000000 in
theorem spec_l26DrawStep {b lo : Nat} {m : Nat} {w0 w : World} (hS : Dw 147 lo b w0 w) (hm : m ≤ 1000) :
    Calls Try.prog 94 #[.pointer (some ⟨b, 0, none⟩), .int .i64 (m : Int)] w fun e w' => ∃ x : I2, e = .returned (.agg #[.int .i64 x.a, .int .i64 x.b]) ∧ x.ok ∧ Dw 147 lo b w w' := by
  have HD := Lib.hid hS.start
  have hbw := hS.src.lt.2
  clear hS
  have B := Lib.hid (Blk.made w #[.int .i64 0, .int .i64 0] 51)
  go_enter Try.func94, Try.ntmps94
  go_wp2_with fail
  refine Calls.mono (dw_next (b := b) (lo := lo) (by repeat (first | exact HD.out.src | with_reducible refine Src.alloc ?_ _ | with_reducible refine Src.drew ?_ | with_reducible refine Src.drewN ?_ _)) (by first | assumption | decide | (unfold I64; omega))) ?_
  rintro e w1 ⟨r1, rfl, h0, h1, hd⟩
  replace B := Lib.hid (B.out.dw hd (by omega))
  replace HD := Lib.hid ((HD.out.below (by repeat (first | exact Below.refl _ _ | assumption | refine below_allocS ?_ _ | refine below_callS ?_ (by assumption) | (refine Below.alloc ?_ (by first | omega | (simp; done) | (simp; omega)) _) | (refine Below.setCell ?_ (by first | omega | (simp; done) | (simp; omega)) _) | refine Below.drew ?_ | refine below_drewN ?_ _ | (refine below_call ?_ (by assumption) (by first | omega | (simp; done) | (simp; omega))) | (refine Below.trans ?_ (by assumption))))).trans hd)
  have hs1 := hd.size
  simp at hs1
  clear hd
  have h4 : r1 < 4 := by omega
  by_cases h2 : r1 < 2
  · go_wp2_with fail
    refine Calls.mono (dw_next (b := b) (lo := lo) (by repeat (first | exact HD.out.src | with_reducible refine Src.alloc ?_ _ | with_reducible refine Src.drew ?_ | with_reducible refine Src.drewN ?_ _)) (by first | assumption | decide | (unfold I64; omega))) ?_
    rintro e w2 ⟨r2, rfl, h02, h12, hd⟩
    have X := Lib.hid ((Blk.made w1 #[.int .i64 r1, .int .i64 0] 51).dw hd (by omega))
    replace B := Lib.hid ((B.out.keep (by repeat (first | exact Below.refl _ _ | assumption | refine below_allocS ?_ _ | refine below_callS ?_ (by assumption) | (refine Below.alloc ?_ (by first | omega | (simp; done) | (simp; omega)) _) | (refine Below.setCell ?_ (by first | omega | (simp; done) | (simp; omega)) _) | refine Below.drew ?_ | refine below_drewN ?_ _ | (refine below_call ?_ (by assumption) (by first | omega | (simp; done) | (simp; omega))) | (refine Below.trans ?_ (by assumption))))).dw hd (by omega))
    replace HD := Lib.hid ((HD.out.below (by repeat (first | exact Below.refl _ _ | assumption | refine below_allocS ?_ _ | refine below_callS ?_ (by assumption) | (refine Below.alloc ?_ (by first | omega | (simp; done) | (simp; omega)) _) | (refine Below.setCell ?_ (by first | omega | (simp; done) | (simp; omega)) _) | refine Below.drew ?_ | refine below_drewN ?_ _ | (refine below_call ?_ (by assumption) (by first | omega | (simp; done) | (simp; omega))) | (refine Below.trans ?_ (by assumption))))).trans hd)
    have hs2 := hd.size
    simp at hs2
    clear hd
    have hx : w1.heap.size < w2.heap.size := by omega
    have x0 := X.out.cell 0
    have x1 := X.out.cell 1
    have xf := X.out.free
    simp at x0 x1
    have hne : w1.heap.size ≠ w.heap.size := by omega
    replace X := Lib.hid (show Blk (w2.setCell ⟨w1.heap.size, 1, none⟩ (.int .i64 r2)) w1.heap.size #[.int .i64 r1, .int .i64 r2] 51 from X.out.set 1 (.int .i64 r2))
    replace B := Lib.hid (B.out.keepG (set_grown w1.heap.size 1 (.int .i64 r2)) (by simp; omega))
    replace HD := Lib.hid (HD.out.set (g := w1.heap.size) (by omega) 1 (.int .i64 r2))
    have hr2 : I64 r2 := (by first | assumption | decide | (unfold I64; omega))
    go_wp2_with fail
    refine Calls.mono (dw_next (b := b) (lo := lo) (by repeat (first | exact HD.out.src | with_reducible refine Src.alloc ?_ _ | with_reducible refine Src.drew ?_ | with_reducible refine Src.drewN ?_ _)) (by first | assumption | decide | (unfold I64; omega))) ?_
    rintro e w3 ⟨r3, rfl, h03, h13, hd⟩
    replace B := Lib.hid ((B.out.keep (by repeat (first | exact Below.refl _ _ | assumption | refine below_allocS ?_ _ | refine below_callS ?_ (by assumption) | (refine Below.alloc ?_ (by first | omega | (simp; done) | (simp; omega)) _) | (refine Below.setCell ?_ (by first | omega | (simp; done) | (simp; omega)) _) | refine Below.drew ?_ | refine below_drewN ?_ _ | (refine below_call ?_ (by assumption) (by first | omega | (simp; done) | (simp; omega))) | (refine Below.trans ?_ (by assumption))))).dw hd (by omega))
    replace X := Lib.hid (X.out.dw hd (by omega))
    replace HD := Lib.hid (HD.out.trans hd)
    have hs3 := hd.size
    (try simp at hs3)
    clear hd
    have h40 : r3 < 40 := by omega
    by_cases q0 : r3 = 0
    · subst q0
      go_wp2_with fail
      refine Calls.mono (dw_pick3 (b := b) (lo := lo) (by repeat (first | exact HD.out.src | with_reducible refine Src.alloc ?_ _ | with_reducible refine Src.drew ?_ | with_reducible refine Src.drewN ?_ _)) (by first | rfl | (simp; done)) (by first | assumption | decide | (unfold I64; omega)) (by first | assumption | decide | (unfold I64; omega)) (by first | assumption | decide | (unfold I64; omega))) ?_
      rintro e w4 ⟨r4, rfl, hm4, hi4, hd⟩
      replace B := Lib.hid ((B.out.keep (by repeat (first | exact Below.refl _ _ | assumption | refine below_allocS ?_ _ | refine below_callS ?_ (by assumption) | (refine Below.alloc ?_ (by first | omega | (simp; done) | (simp; omega)) _) | (refine Below.setCell ?_ (by first | omega | (simp; done) | (simp; omega)) _) | refine Below.drew ?_ | refine below_drewN ?_ _ | (refine below_call ?_ (by assumption) (by first | omega | (simp; done) | (simp; omega))) | (refine Below.trans ?_ (by assumption))))).dw hd (by omega))
      replace X := Lib.hid ((X.out.keep (by repeat (first | exact Below.refl _ _ | assumption | refine below_allocS ?_ _ | refine below_callS ?_ (by assumption) | (refine Below.alloc ?_ (by first | omega | (simp; done) | (simp; omega)) _) | (refine Below.setCell ?_ (by first | omega | (simp; done) | (simp; omega)) _) | refine Below.drew ?_ | refine below_drewN ?_ _ | (refine below_call ?_ (by assumption) (by first | omega | (simp; done) | (simp; omega))) | (refine Below.trans ?_ (by assumption))))).dw hd (by omega))
      replace HD := Lib.hid (HD.out.trans hd)
      have hs4 := hd.size
      (try simp at hs4)
      clear hd hm4
      have x0 := X.out.cell 0
      have x1 := X.out.cell 1
      have xf := X.out.free
      have xl := X.out.lt
      have b0 := B.out.cell 0
      have b1 := B.out.cell 1
      have bf := B.out.free
      have bl := B.out.lt
      simp at x0 x1 b0 b1
      go_wp2_with fail
      refine bodyPost_ret (v := .agg #[.int .i64 r4, .int .i64 r2]) (by simp [results, Try.results94, go_sem, *]) rfl ⟨⟨r4, r2⟩, rfl, ⟨hi4, (show I64 r2 from (by first | assumption | decide | (unfold I64; omega)))⟩, ?_⟩
      exact ((HD.out.set (by omega) _ _).set (by omega) _ _).set (by omega) _ _
    · by_cases q1 : r3 = 1
      · subst q1
        go_wp2_with fail
        refine Calls.mono (dw_pick3 (b := b) (lo := lo) (by repeat (first | exact HD.out.src | with_reducible refine Src.alloc ?_ _ | with_reducible refine Src.drew ?_ | with_reducible refine Src.drewN ?_ _)) (by first | rfl | (simp; done)) (by first | assumption | decide | (unfold I64; omega)) (by first | assumption | decide | (unfold I64; omega)) (by first | assumption | decide | (unfold I64; omega))) ?_
        rintro e w4 ⟨r4, rfl, hm4, hi4, hd⟩
        replace B := Lib.hid ((B.out.keep (by repeat (first | exact Below.refl _ _ | assumption | refine below_allocS ?_ _ | refine below_callS ?_ (by assumption) | (refine Below.alloc ?_ (by first | omega | (simp; done) | (simp; omega)) _) | (refine Below.setCell ?_ (by first | omega | (simp; done) | (simp; omega)) _) | refine Below.drew ?_ | refine below_drewN ?_ _ | (refine below_call ?_ (by assumption) (by first | omega | (simp; done) | (simp; omega))) | (refine Below.trans ?_ (by assumption))))).dw hd (by omega))
        replace X := Lib.hid ((X.out.keep (by repeat (first | exact Below.refl _ _ | assumption | refine below_allocS ?_ _ | refine below_callS ?_ (by assumption) | (refine Below.alloc ?_ (by first | omega | (simp; done) | (simp; omega)) _) | (refine Below.setCell ?_ (by first | omega | (simp; done) | (simp; omega)) _) | refine Below.drew ?_ | refine below_drewN ?_ _ | (refine below_call ?_ (by assumption) (by first | omega | (simp; done) | (simp; omega))) | (refine Below.trans ?_ (by assumption))))).dw hd (by omega))
        replace HD := Lib.hid (HD.out.trans hd)
        have hs4 := hd.size
        (try simp at hs4)
        clear hd hm4
        have x0 := X.out.cell 0
        have x1 := X.out.cell 1
        have xf := X.out.free
        have xl := X.out.lt
        have b0 := B.out.cell 0
        have b1 := B.out.cell 1
        have bf := B.out.free
        have bl := B.out.lt
        simp at x0 x1 b0 b1
        go_wp2_with fail
        refine bodyPost_ret (v := .agg #[.int .i64 r1, .int .i64 r4]) (by simp [results, Try.results94, go_sem, *]) rfl ⟨⟨r1, r4⟩, rfl, ⟨(show I64 r1 from (by first | assumption | decide | (unfold I64; omega))), hi4⟩, ?_⟩
        exact ((HD.out.set (by omega) _ _).set (by omega) _ _).set (by omega) _ _
      · have q0' : (r3 == 0) = false := by simpa using q0
        have q1' : (r3 == 1) = false := by simpa using q1
        clear q0 q1
        have x0 := X.out.cell 0
        have x1 := X.out.cell 1
        have xf := X.out.free
        have xl := X.out.lt
        have b0 := B.out.cell 0
        have b1 := B.out.cell 1
        have bf := B.out.free
        have bl := B.out.lt
        simp at x0 x1 b0 b1
        go_wp2_with fail
        refine bodyPost_ret (v := .agg #[.int .i64 r1, .int .i64 r2]) (by simp [results, Try.results94, go_sem, *]) rfl ⟨⟨r1, r2⟩, rfl, ⟨(show I64 r1 from (by first | assumption | decide | (unfold I64; omega))), (show I64 r2 from (by first | assumption | decide | (unfold I64; omega)))⟩, ?_⟩
        exact (HD.out.set (by omega) _ _).set (by omega) _ _
  · have X := Lib.hid (Blk.made w1 #[.int .i64 r1, .int .i64 0] 51)
    replace B := Lib.hid (B.out.keep (show Below w1.heap.size w1 (w1.alloc (.cells #[.int .i64 r1, .int .i64 0] 51)) by repeat (first | exact Below.refl _ _ | assumption | refine below_allocS ?_ _ | refine below_callS ?_ (by assumption) | (refine Below.alloc ?_ (by first | omega | (simp; done) | (simp; omega)) _) | (refine Below.setCell ?_ (by first | omega | (simp; done) | (simp; omega)) _) | refine Below.drew ?_ | refine below_drewN ?_ _ | (refine below_call ?_ (by assumption) (by first | omega | (simp; done) | (simp; omega))) | (refine Below.trans ?_ (by assumption)))))
    replace HD := Lib.hid (HD.out.alloc (.cells #[.int .i64 r1, .int .i64 0] 51))
    have hz0 : w1.heap.size + 1 = (w1.alloc (.cells #[.int .i64 r1, .int .i64 0] 51)).heap.size := by simp
    have hz1 := Lib.hid hz0
    clear hz0
    go_wp2_with fail
    refine Calls.mono (dw_next (b := b) (lo := lo) (by repeat (first | exact HD.out.src | with_reducible refine Src.alloc ?_ _ | with_reducible refine Src.drew ?_ | with_reducible refine Src.drewN ?_ _)) (by first | assumption | decide | (unfold I64; omega))) ?_
    rintro e w3 ⟨r3, rfl, h03, h13, hd⟩
    replace B := Lib.hid ((B.out.keep (by repeat (first | exact Below.refl _ _ | assumption | refine below_allocS ?_ _ | refine below_callS ?_ (by assumption) | (refine Below.alloc ?_ (by first | omega | (simp; done) | (simp; omega)) _) | (refine Below.setCell ?_ (by first | omega | (simp; done) | (simp; omega)) _) | refine Below.drew ?_ | refine below_drewN ?_ _ | (refine below_call ?_ (by assumption) (by first | omega | (simp; done) | (simp; omega))) | (refine Below.trans ?_ (by assumption))))).dw hd (by omega))
    replace X := Lib.hid (X.out.dw hd (by omega))
    replace HD := Lib.hid (HD.out.trans hd)
    have hs3 := hd.size
    (try simp at hs3)
    clear hd
    have h40 : r3 < 40 := by omega
    by_cases q0 : r3 = 0
    · subst q0
      go_wp2_with fail
      refine Calls.mono (dw_pick3 (b := b) (lo := lo) (by repeat (first | exact HD.out.src | with_reducible refine Src.alloc ?_ _ | with_reducible refine Src.drew ?_ | with_reducible refine Src.drewN ?_ _)) (by first | rfl | (simp; done)) (by first | assumption | decide | (unfold I64; omega)) (by first | assumption | decide | (unfold I64; omega)) (by first | assumption | decide | (unfold I64; omega))) ?_
      rintro e w4 ⟨r4, rfl, hm4, hi4, hd⟩
      replace B := Lib.hid ((B.out.keep (by repeat (first | exact Below.refl _ _ | assumption | refine below_allocS ?_ _ | refine below_callS ?_ (by assumption) | (refine Below.alloc ?_ (by first | omega | (simp; done) | (simp; omega)) _) | (refine Below.setCell ?_ (by first | omega | (simp; done) | (simp; omega)) _) | refine Below.drew ?_ | refine below_drewN ?_ _ | (refine below_call ?_ (by assumption) (by first | omega | (simp; done) | (simp; omega))) | (refine Below.trans ?_ (by assumption))))).dw hd (by omega))
      replace X := Lib.hid ((X.out.keep (by repeat (first | exact Below.refl _ _ | assumption | refine below_allocS ?_ _ | refine below_callS ?_ (by assumption) | (refine Below.alloc ?_ (by first | omega | (simp; done) | (simp; omega)) _) | (refine Below.setCell ?_ (by first | omega | (simp; done) | (simp; omega)) _) | refine Below.drew ?_ | refine below_drewN ?_ _ | (refine below_call ?_ (by assumption) (by first | omega | (simp; done) | (simp; omega))) | (refine Below.trans ?_ (by assumption))))).dw hd (by omega))
      replace HD := Lib.hid (HD.out.trans hd)
      have hs4 := hd.size
      (try simp at hs4)
      clear hd hm4
      have x0 := X.out.cell 0
      have x1 := X.out.cell 1
      have xf := X.out.free
      have xl := X.out.lt
      have b0 := B.out.cell 0
      have b1 := B.out.cell 1
      have bf := B.out.free
      have bl := B.out.lt
      simp at x0 x1 b0 b1
      go_wp2_with fail
      refine bodyPost_ret (v := .agg #[.int .i64 r4, .int .i64 0]) (by simp [results, Try.results94, go_sem, *]) rfl ⟨⟨r4, 0⟩, rfl, ⟨hi4, (show I64 0 from (by first | assumption | decide | (unfold I64; omega)))⟩, ?_⟩
      exact ((HD.out.set (by omega) _ _).set (by omega) _ _).set (by omega) _ _
    · by_cases q1 : r3 = 1
      · subst q1
        go_wp2_with fail
        refine Calls.mono (dw_pick3 (b := b) (lo := lo) (by repeat (first | exact HD.out.src | with_reducible refine Src.alloc ?_ _ | with_reducible refine Src.drew ?_ | with_reducible refine Src.drewN ?_ _)) (by first | rfl | (simp; done)) (by first | assumption | decide | (unfold I64; omega)) (by first | assumption | decide | (unfold I64; omega)) (by first | assumption | decide | (unfold I64; omega))) ?_
        rintro e w4 ⟨r4, rfl, hm4, hi4, hd⟩
        replace B := Lib.hid ((B.out.keep (by repeat (first | exact Below.refl _ _ | assumption | refine below_allocS ?_ _ | refine below_callS ?_ (by assumption) | (refine Below.alloc ?_ (by first | omega | (simp; done) | (simp; omega)) _) | (refine Below.setCell ?_ (by first | omega | (simp; done) | (simp; omega)) _) | refine Below.drew ?_ | refine below_drewN ?_ _ | (refine below_call ?_ (by assumption) (by first | omega | (simp; done) | (simp; omega))) | (refine Below.trans ?_ (by assumption))))).dw hd (by omega))
        replace X := Lib.hid ((X.out.keep (by repeat (first | exact Below.refl _ _ | assumption | refine below_allocS ?_ _ | refine below_callS ?_ (by assumption) | (refine Below.alloc ?_ (by first | omega | (simp; done) | (simp; omega)) _) | (refine Below.setCell ?_ (by first | omega | (simp; done) | (simp; omega)) _) | refine Below.drew ?_ | refine below_drewN ?_ _ | (refine below_call ?_ (by assumption) (by first | omega | (simp; done) | (simp; omega))) | (refine Below.trans ?_ (by assumption))))).dw hd (by omega))
        replace HD := Lib.hid (HD.out.trans hd)
        have hs4 := hd.size
        (try simp at hs4)
        clear hd hm4
        have x0 := X.out.cell 0
        have x1 := X.out.cell 1
        have xf := X.out.free
        have xl := X.out.lt
        have b0 := B.out.cell 0
        have b1 := B.out.cell 1
        have bf := B.out.free
        have bl := B.out.lt
        simp at x0 x1 b0 b1
        go_wp2_with fail
        refine bodyPost_ret (v := .agg #[.int .i64 r1, .int .i64 r4]) (by simp [results, Try.results94, go_sem, *]) rfl ⟨⟨r1, r4⟩, rfl, ⟨(show I64 r1 from (by first | assumption | decide | (unfold I64; omega))), hi4⟩, ?_⟩
        exact ((HD.out.set (by omega) _ _).set (by omega) _ _).set (by omega) _ _
      · have q0' : (r3 == 0) = false := by simpa using q0
        have q1' : (r3 == 1) = false := by simpa using q1
        clear q0 q1
        have x0 := X.out.cell 0
        have x1 := X.out.cell 1
        have xf := X.out.free
        have xl := X.out.lt
        have b0 := B.out.cell 0
        have b1 := B.out.cell 1
        have bf := B.out.free
        have bl := B.out.lt
        simp at x0 x1 b0 b1
        go_wp2_with fail
        refine bodyPost_ret (v := .agg #[.int .i64 r1, .int .i64 0]) (by simp [results, Try.results94, go_sem, *]) rfl ⟨⟨r1, 0⟩, rfl, ⟨(show I64 r1 from (by first | assumption | decide | (unfold I64; omega))), (show I64 0 from (by first | assumption | decide | (unfold I64; omega)))⟩, ?_⟩
        exact (HD.out.set (by omega) _ _).set (by omega) _ _
end Go.Proofs.Ytoaccicfmfiemaa
