/- Draws of layer 24, walked. -/
import Derived.Test.YtoaccicfmfiemaaD10
namespace Go.Proofs.Ytoaccicfmfiemaa
open Go.RowKit
set_option linter.unusedVariables false
set_option linter.unusedSimpArgs false
set_option maxRecDepth 100000 in
set_option maxHeartbeats 2000000 in
theorem spec_l24DrawState {b lo : Nat} {B : Int} {a0 : Option Addr} {n0 c0 : Nat} {w0 w : World} (hS : Dw 147 lo b w0 w) (hB1 : 1 ≤ B) (hB9 : B ≤ 9) (hn0 : n0 ≤ 5) :
    Calls Try.prog 143 #[.pointer (some ⟨b, 0, none⟩), .agg #[.int .i64 B, .slice a0 n0 c0]] w fun e w' => ∃ a n c l, e = .returned (.slice a n c) ∧ OwnI 2 w' w.heap.size a n c l ∧ n ≤ 20 ∧ Dw 147 lo b w w' := by
  have HD := Lib.hid (hS.start.alloc (.cells #[.int .i64 B, .slice a0 n0 c0] 66))
  have hbw := hS.src.lt.2
  clear hS
  have X := Lib.hid (Blk.made w #[.int .i64 B, .slice a0 n0 c0] 66)
  obtain ⟨wA, hwA⟩ : ∃ wA : World, wA = w.alloc (.cells #[.int .i64 B, .slice a0 n0 c0] 66) := ⟨_, rfl⟩
  have hsA : w.heap.size + 1 = wA.heap.size := by rw [hwA]; simp
  rw [← hwA] at X HD
  have O := Lib.hid (OwnI.empty (E := 2) (base := w.heap.size + 1) wA (by omega))
  have HwA := Lib.hid hwA
  clear hwA
  go_enter Try.func143, Try.ntmps143
  go_wp2_with fail
  rw [← HwA.out]
  clear HwA
  go_loopw [5, 6] (fun s5 s6 wr => ∃ (a : Option Addr) (n c : Nat) (l : List Int), s5 = .slice a n c ∧ s6 = .int .i64 n ∧ n ≤ n0 ∧ w.heap.size + 1 ≤ wr.heap.size ∧ Hid (OwnI 2 wr (w.heap.size + 1) a n c l) ∧ Hid (Blk wr w.heap.size #[.int .i64 B, .slice a0 n0 c0] 66) ∧ Hid (Dw 147 lo b w wr)) (fun _ s6 _ => n0 - (intOf s6).toNat)
  case atStart => exact ⟨_, 0, 0, [], rfl, rfl, by omega, by (try simp); omega, O, Lib.hid (X.out.keep (by repeat (first | exact Below.refl _ _ | assumption | refine below_allocS ?_ _ | refine below_callS ?_ (by assumption) | (refine Below.alloc ?_ (by first | omega | (simp; done) | (simp; omega)) _) | (refine Below.setCell ?_ (by first | omega | (simp; done) | (simp; omega)) _) | refine Below.drew ?_ | refine below_drewN ?_ _ | (refine below_call ?_ (by assumption) (by first | omega | (simp; done) | (simp; omega))) | (refine Below.trans ?_ (by assumption))))), Lib.hid (HD.out.alloc _)⟩
  case round =>
    clear O X HD
    obtain ⟨a, n, c, l, rfl, rfl, hn, hsr, O, X, HD⟩ := hrel
    have hbr := HD.out.size
    have x0 := X.out.cell 0
    have x1 := X.out.cell 1
    have xl := X.out.lt
    simp at x0 x1
    by_cases hk : n < n0
    · have hk' : (n : Int) < (n0 : Int) := by omega
      go_wp2_with fail
      refine Calls.mono (dw_next (b := b) (lo := lo) (by repeat (first | exact HD.out.src | with_reducible refine Src.alloc ?_ _ | with_reducible refine Src.drew ?_ | with_reducible refine Src.drewN ?_ _)) (by first | assumption | decide | (unfold I64; omega))) ?_
      rintro e w5 ⟨r, rfl, h0, h1, hd⟩
      have hr : r ≤ 27 := by omega
      clear h1 x0 x1 xl
      have hs5 := hd.size
      (try simp at hs5)
      replace X := Lib.hid ((X.out.keep (by repeat (first | exact Below.refl _ _ | assumption | refine below_allocS ?_ _ | refine below_callS ?_ (by assumption) | (refine Below.alloc ?_ (by first | omega | (simp; done) | (simp; omega)) _) | (refine Below.setCell ?_ (by first | omega | (simp; done) | (simp; omega)) _) | refine Below.drew ?_ | refine below_drewN ?_ _ | (refine below_call ?_ (by assumption) (by first | omega | (simp; done) | (simp; omega))) | (refine Below.trans ?_ (by assumption))))).dw hd (by omega))
      replace O := Lib.hid ((O.out.keep (by repeat (first | exact Below.refl _ _ | assumption | refine below_allocS ?_ _ | refine below_callS ?_ (by assumption) | (refine Below.alloc ?_ (by first | omega | (simp; done) | (simp; omega)) _) | (refine Below.setCell ?_ (by first | omega | (simp; done) | (simp; omega)) _) | refine Below.drew ?_ | refine below_drewN ?_ _ | (refine below_call ?_ (by assumption) (by first | omega | (simp; done) | (simp; omega))) | (refine Below.trans ?_ (by assumption))))).dw hd (by omega))
      replace HD := Lib.hid ((HD.out.below (by repeat (first | exact Below.refl _ _ | assumption | refine below_allocS ?_ _ | refine below_callS ?_ (by assumption) | (refine Below.alloc ?_ (by first | omega | (simp; done) | (simp; omega)) _) | (refine Below.setCell ?_ (by first | omega | (simp; done) | (simp; omega)) _) | refine Below.drew ?_ | refine below_drewN ?_ _ | (refine below_call ?_ (by assumption) (by first | omega | (simp; done) | (simp; omega))) | (refine Below.trans ?_ (by assumption))))).trans hd)
      clear hd
      go_wp2_with (at_builtin; refine app1 (lo := lo) (b := b) (w0 := w) rfl _ _ rfl Try.underlying32 Try.infoi64 (w.heap.size + 1) _ _ _ _ (O.out.keep (by repeat (first | exact Below.refl _ _ | assumption | refine below_allocS ?_ _ | refine below_callS ?_ (by assumption) | (refine Below.alloc ?_ (by first | omega | (simp; done) | (simp; omega)) _) | (refine Below.setCell ?_ (by first | omega | (simp; done) | (simp; omega)) _) | refine Below.drew ?_ | refine below_drewN ?_ _ | (refine below_call ?_ (by assumption) (by first | omega | (simp; done) | (simp; omega))) | (refine Below.trans ?_ (by assumption))))) rfl _ rfl (by first | rfl | (simp; done)) (by first | assumption | decide | (unfold I64; omega)) (by omega) (HD.out.below (by repeat (first | exact Below.refl _ _ | assumption | refine below_allocS ?_ _ | refine below_callS ?_ (by assumption) | (refine Below.alloc ?_ (by first | omega | (simp; done) | (simp; omega)) _) | (refine Below.setCell ?_ (by first | omega | (simp; done) | (simp; omega)) _) | refine Below.drew ?_ | refine below_drewN ?_ _ | (refine below_call ?_ (by assumption) (by first | omega | (simp; done) | (simp; omega))) | (refine Below.trans ?_ (by assumption))))) (by omega) (by (try simp); omega) ?_; intro a' c' wn ho hb hd; have O := Lib.hid ho; have X := Lib.hid ((X.out.keep (by repeat (first | exact Below.refl _ _ | assumption | refine below_allocS ?_ _ | refine below_callS ?_ (by assumption) | (refine Below.alloc ?_ (by first | omega | (simp; done) | (simp; omega)) _) | (refine Below.setCell ?_ (by first | omega | (simp; done) | (simp; omega)) _) | refine Below.drew ?_ | refine below_drewN ?_ _ | (refine below_call ?_ (by assumption) (by first | omega | (simp; done) | (simp; omega))) | (refine Below.trans ?_ (by assumption))))).keepB hb (by omega)); replace HD := Lib.hid hd; have hsn := hb.size; clear ho hb hd)
      go_roundw
      case rel => exact ⟨_, n + 1, _, _, rfl, by go_num, by omega, by (try simp at hsn); omega, O, X, HD⟩
      case measure => simp [intOf]; omega
    · obtain rfl : n0 = n := by omega
      have hk' : ¬ (n0 : Int) < (n0 : Int) := by omega
      go_wp2_with fail
      clear x0 x1 xl
      go_loopw [5, 7] (fun s5 s7 wr => ∃ (a : Option Addr) (n c k : Nat) (l : List Int), s5 = .slice a n c ∧ s7 = .int .i64 k ∧ n = n0 + k ∧ k ≤ 9 ∧ w.heap.size + 1 ≤ wr.heap.size ∧ Hid (OwnI 2 wr (w.heap.size + 1) a n c l) ∧ Hid (Blk wr w.heap.size #[.int .i64 B, .slice a0 n0 c0] 66) ∧ Hid (Dw 147 lo b w wr)) (fun _ s7 _ => 9 - (intOf s7).toNat)
      case atStart => exact ⟨_, n0, _, 0, _, rfl, rfl, by omega, by omega, by omega, O, X, HD⟩
      case round =>
        clear O X HD
        obtain ⟨a, n, c, k, l, rfl, rfl, hnk, hk9, hsr, O, X, HD⟩ := hrel
        have hn14 : n ≤ 14 := by omega
        have Hnk := Lib.hid hnk
        clear hnk
        have hbr := HD.out.size
        have x0 := X.out.cell 0
        have x1 := X.out.cell 1
        have xl := X.out.lt
        simp at x0 x1
        have hmin : min B 9 = B := by omega
        by_cases hkB : (k : Int) < B
        · go_wp2_with fail
          clear x0 x1 xl
          refine Calls.mono (dw_pick5 (b := b) (lo := lo) (by repeat (first | exact HD.out.src | with_reducible refine Src.alloc ?_ _ | with_reducible refine Src.drew ?_ | with_reducible refine Src.drewN ?_ _)) (by first | rfl | (simp; done)) (by first | assumption | decide | (unfold I64; omega)) (by first | assumption | decide | (unfold I64; omega)) (by first | assumption | decide | (unfold I64; omega)) (by first | assumption | decide | (unfold I64; omega)) (by first | assumption | decide | (unfold I64; omega))) ?_
          rintro e w5 ⟨r, rfl, hm, hi, hd⟩
          clear hm
          have hs5 := hd.size
          (try simp at hs5)
          replace X := Lib.hid ((X.out.keep (by repeat (first | exact Below.refl _ _ | assumption | refine below_allocS ?_ _ | refine below_callS ?_ (by assumption) | (refine Below.alloc ?_ (by first | omega | (simp; done) | (simp; omega)) _) | (refine Below.setCell ?_ (by first | omega | (simp; done) | (simp; omega)) _) | refine Below.drew ?_ | refine below_drewN ?_ _ | (refine below_call ?_ (by assumption) (by first | omega | (simp; done) | (simp; omega))) | (refine Below.trans ?_ (by assumption))))).dw hd (by omega))
          replace O := Lib.hid ((O.out.keep (by repeat (first | exact Below.refl _ _ | assumption | refine below_allocS ?_ _ | refine below_callS ?_ (by assumption) | (refine Below.alloc ?_ (by first | omega | (simp; done) | (simp; omega)) _) | (refine Below.setCell ?_ (by first | omega | (simp; done) | (simp; omega)) _) | refine Below.drew ?_ | refine below_drewN ?_ _ | (refine below_call ?_ (by assumption) (by first | omega | (simp; done) | (simp; omega))) | (refine Below.trans ?_ (by assumption))))).dw hd (by omega))
          replace HD := Lib.hid ((HD.out.below (by repeat (first | exact Below.refl _ _ | assumption | refine below_allocS ?_ _ | refine below_callS ?_ (by assumption) | (refine Below.alloc ?_ (by first | omega | (simp; done) | (simp; omega)) _) | (refine Below.setCell ?_ (by first | omega | (simp; done) | (simp; omega)) _) | refine Below.drew ?_ | refine below_drewN ?_ _ | (refine below_call ?_ (by assumption) (by first | omega | (simp; done) | (simp; omega))) | (refine Below.trans ?_ (by assumption))))).trans hd)
          clear hd
          go_wp2_with (at_builtin; refine app1 (lo := lo) (b := b) (w0 := w) rfl _ _ rfl Try.underlying32 Try.infoi64 (w.heap.size + 1) _ _ _ _ (O.out.keep (by repeat (first | exact Below.refl _ _ | assumption | refine below_allocS ?_ _ | refine below_callS ?_ (by assumption) | (refine Below.alloc ?_ (by first | omega | (simp; done) | (simp; omega)) _) | (refine Below.setCell ?_ (by first | omega | (simp; done) | (simp; omega)) _) | refine Below.drew ?_ | refine below_drewN ?_ _ | (refine below_call ?_ (by assumption) (by first | omega | (simp; done) | (simp; omega))) | (refine Below.trans ?_ (by assumption))))) rfl _ rfl (by first | rfl | (simp; done)) (by first | assumption | decide | (unfold I64; omega)) (by omega) (HD.out.below (by repeat (first | exact Below.refl _ _ | assumption | refine below_allocS ?_ _ | refine below_callS ?_ (by assumption) | (refine Below.alloc ?_ (by first | omega | (simp; done) | (simp; omega)) _) | (refine Below.setCell ?_ (by first | omega | (simp; done) | (simp; omega)) _) | refine Below.drew ?_ | refine below_drewN ?_ _ | (refine below_call ?_ (by assumption) (by first | omega | (simp; done) | (simp; omega))) | (refine Below.trans ?_ (by assumption))))) (by omega) (by (try simp); omega) ?_; intro a' c' wn ho hb hd; have O := Lib.hid ho; have X := Lib.hid ((X.out.keep (by repeat (first | exact Below.refl _ _ | assumption | refine below_allocS ?_ _ | refine below_callS ?_ (by assumption) | (refine Below.alloc ?_ (by first | omega | (simp; done) | (simp; omega)) _) | (refine Below.setCell ?_ (by first | omega | (simp; done) | (simp; omega)) _) | refine Below.drew ?_ | refine below_drewN ?_ _ | (refine below_call ?_ (by assumption) (by first | omega | (simp; done) | (simp; omega))) | (refine Below.trans ?_ (by assumption))))).keepB hb (by omega)); replace HD := Lib.hid hd; have hsn := hb.size; clear ho hb hd)
          go_roundw
          case rel => exact ⟨_, n + 1, _, k + 1, _, rfl, by go_num, by have := Hnk.out; omega, by omega, by (try simp at hsn); omega, O, X, HD⟩
          case measure => simp [intOf]; omega
        · clear Hnk
          go_wp2_with fail
          clear x0 x1 xl
          refine Calls.mono (dw_next (b := b) (lo := lo) (by repeat (first | exact HD.out.src | with_reducible refine Src.alloc ?_ _ | with_reducible refine Src.drew ?_ | with_reducible refine Src.drewN ?_ _)) (by decide)) ?_
          rintro e w5 ⟨r, rfl, h0, h1, hd⟩
          have hr : r < 3 := by omega
          clear h1
          have hs5 := hd.size
          (try simp at hs5)
          replace X := Lib.hid ((X.out.keep (by repeat (first | exact Below.refl _ _ | assumption | refine below_allocS ?_ _ | refine below_callS ?_ (by assumption) | (refine Below.alloc ?_ (by first | omega | (simp; done) | (simp; omega)) _) | (refine Below.setCell ?_ (by first | omega | (simp; done) | (simp; omega)) _) | refine Below.drew ?_ | refine below_drewN ?_ _ | (refine below_call ?_ (by assumption) (by first | omega | (simp; done) | (simp; omega))) | (refine Below.trans ?_ (by assumption))))).dw hd (by omega))
          replace O := Lib.hid ((O.out.keep (by repeat (first | exact Below.refl _ _ | assumption | refine below_allocS ?_ _ | refine below_callS ?_ (by assumption) | (refine Below.alloc ?_ (by first | omega | (simp; done) | (simp; omega)) _) | (refine Below.setCell ?_ (by first | omega | (simp; done) | (simp; omega)) _) | refine Below.drew ?_ | refine below_drewN ?_ _ | (refine below_call ?_ (by assumption) (by first | omega | (simp; done) | (simp; omega))) | (refine Below.trans ?_ (by assumption))))).dw hd (by omega))
          replace HD := Lib.hid ((HD.out.below (by repeat (first | exact Below.refl _ _ | assumption | refine below_allocS ?_ _ | refine below_callS ?_ (by assumption) | (refine Below.alloc ?_ (by first | omega | (simp; done) | (simp; omega)) _) | (refine Below.setCell ?_ (by first | omega | (simp; done) | (simp; omega)) _) | refine Below.drew ?_ | refine below_drewN ?_ _ | (refine below_call ?_ (by assumption) (by first | omega | (simp; done) | (simp; omega))) | (refine Below.trans ?_ (by assumption))))).trans hd)
          clear hd
          go_wp2_with (at_builtin; refine app1 (lo := lo) (b := b) (w0 := w) rfl _ _ rfl Try.underlying32 Try.infoi64 (w.heap.size + 1) _ _ _ _ (O.out.keep (by repeat (first | exact Below.refl _ _ | assumption | refine below_allocS ?_ _ | refine below_callS ?_ (by assumption) | (refine Below.alloc ?_ (by first | omega | (simp; done) | (simp; omega)) _) | (refine Below.setCell ?_ (by first | omega | (simp; done) | (simp; omega)) _) | refine Below.drew ?_ | refine below_drewN ?_ _ | (refine below_call ?_ (by assumption) (by first | omega | (simp; done) | (simp; omega))) | (refine Below.trans ?_ (by assumption))))) rfl _ rfl (by first | rfl | (simp; done)) (by first | assumption | decide | (unfold I64; omega)) (by omega) (HD.out.below (by repeat (first | exact Below.refl _ _ | assumption | refine below_allocS ?_ _ | refine below_callS ?_ (by assumption) | (refine Below.alloc ?_ (by first | omega | (simp; done) | (simp; omega)) _) | (refine Below.setCell ?_ (by first | omega | (simp; done) | (simp; omega)) _) | refine Below.drew ?_ | refine below_drewN ?_ _ | (refine below_call ?_ (by assumption) (by first | omega | (simp; done) | (simp; omega))) | (refine Below.trans ?_ (by assumption))))) (by omega) (by (try simp); omega) ?_; intro a' c' wn ho hb hd; have O := Lib.hid ho; have X := Lib.hid ((X.out.keep (by repeat (first | exact Below.refl _ _ | assumption | refine below_allocS ?_ _ | refine below_callS ?_ (by assumption) | (refine Below.alloc ?_ (by first | omega | (simp; done) | (simp; omega)) _) | (refine Below.setCell ?_ (by first | omega | (simp; done) | (simp; omega)) _) | refine Below.drew ?_ | refine below_drewN ?_ _ | (refine below_call ?_ (by assumption) (by first | omega | (simp; done) | (simp; omega))) | (refine Below.trans ?_ (by assumption))))).keepB hb (by omega)); replace HD := Lib.hid hd; have hsn := hb.size; clear ho hb hd)
          refine Calls.mono (dw_next (b := b) (lo := lo) (by repeat (first | exact HD.out.src | with_reducible refine Src.alloc ?_ _ | with_reducible refine Src.drew ?_ | with_reducible refine Src.drewN ?_ _)) (by decide)) ?_
          rintro e w6 ⟨r5, rfl, h50, h51, hd⟩
          have hs6 := hd.size
          (try simp at hs6 hsn)
          replace X := Lib.hid ((X.out.keep (by repeat (first | exact Below.refl _ _ | assumption | refine below_allocS ?_ _ | refine below_callS ?_ (by assumption) | (refine Below.alloc ?_ (by first | omega | (simp; done) | (simp; omega)) _) | (refine Below.setCell ?_ (by first | omega | (simp; done) | (simp; omega)) _) | refine Below.drew ?_ | refine below_drewN ?_ _ | (refine below_call ?_ (by assumption) (by first | omega | (simp; done) | (simp; omega))) | (refine Below.trans ?_ (by assumption))))).dw hd (by omega))
          replace O := Lib.hid ((O.out.keep (by repeat (first | exact Below.refl _ _ | assumption | refine below_allocS ?_ _ | refine below_callS ?_ (by assumption) | (refine Below.alloc ?_ (by first | omega | (simp; done) | (simp; omega)) _) | (refine Below.setCell ?_ (by first | omega | (simp; done) | (simp; omega)) _) | refine Below.drew ?_ | refine below_drewN ?_ _ | (refine below_call ?_ (by assumption) (by first | omega | (simp; done) | (simp; omega))) | (refine Below.trans ?_ (by assumption))))).dw hd (by omega))
          replace HD := Lib.hid ((HD.out.below (by repeat (first | exact Below.refl _ _ | assumption | refine below_allocS ?_ _ | refine below_callS ?_ (by assumption) | (refine Below.alloc ?_ (by first | omega | (simp; done) | (simp; omega)) _) | (refine Below.setCell ?_ (by first | omega | (simp; done) | (simp; omega)) _) | refine Below.drew ?_ | refine below_drewN ?_ _ | (refine below_call ?_ (by assumption) (by first | omega | (simp; done) | (simp; omega))) | (refine Below.trans ?_ (by assumption))))).trans hd)
          clear hd h51
          by_cases q0 : r5 = 0
          · subst q0
            go_wp2_with (at_builtin; refine app1 (lo := lo) (b := b) (w0 := w) rfl _ _ rfl Try.underlying32 Try.infoi64 (w.heap.size + 1) _ _ _ _ (O.out.keep (by repeat (first | exact Below.refl _ _ | assumption | refine below_allocS ?_ _ | refine below_callS ?_ (by assumption) | (refine Below.alloc ?_ (by first | omega | (simp; done) | (simp; omega)) _) | (refine Below.setCell ?_ (by first | omega | (simp; done) | (simp; omega)) _) | refine Below.drew ?_ | refine below_drewN ?_ _ | (refine below_call ?_ (by assumption) (by first | omega | (simp; done) | (simp; omega))) | (refine Below.trans ?_ (by assumption))))) rfl _ rfl (by first | rfl | (simp; done)) (by first | assumption | decide | (unfold I64; omega)) (by omega) (HD.out.below (by repeat (first | exact Below.refl _ _ | assumption | refine below_allocS ?_ _ | refine below_callS ?_ (by assumption) | (refine Below.alloc ?_ (by first | omega | (simp; done) | (simp; omega)) _) | (refine Below.setCell ?_ (by first | omega | (simp; done) | (simp; omega)) _) | refine Below.drew ?_ | refine below_drewN ?_ _ | (refine below_call ?_ (by assumption) (by first | omega | (simp; done) | (simp; omega))) | (refine Below.trans ?_ (by assumption))))) (by omega) (by (try simp); omega) ?_; intro a' c' wn ho hb hd; have O := Lib.hid ho; have X := Lib.hid ((X.out.keep (by repeat (first | exact Below.refl _ _ | assumption | refine below_allocS ?_ _ | refine below_callS ?_ (by assumption) | (refine Below.alloc ?_ (by first | omega | (simp; done) | (simp; omega)) _) | (refine Below.setCell ?_ (by first | omega | (simp; done) | (simp; omega)) _) | refine Below.drew ?_ | refine below_drewN ?_ _ | (refine below_call ?_ (by assumption) (by first | omega | (simp; done) | (simp; omega))) | (refine Below.trans ?_ (by assumption))))).keepB hb (by omega)); replace HD := Lib.hid hd; have hsn := hb.size; clear ho hb hd)
            go_ret
            exact ⟨_, _, _, _, rfl, O.out.le (by omega), by omega, HD.out⟩
          · have q0' : (r5 == 0) = false := by simpa using q0
            by_cases q1 : r5 = 1
            · subst q1
              clear q0
              have hd0 : Dw 147 lo b w6 w6 := HD.out.start
              have hbw6 := hd0.lt
              have x0 := X.out.cell 0
              have xl := X.out.lt
              simp at x0
              have ew : IntKind.i64.wrap (3 * B) = 3 * B := IntWalk.i64_in _ (by omega)
              go_wp2_with fail
              refine wp_region_noPanic ?_
              refine wp_region_held_drew (S := fun wx => wx.cell? ⟨w.heap.size, 0, none⟩ = some (.int .i64 B) ∧ w.heap.size < wx.heap.size) (by kernel_rfl) ⟨cell_drew x0, lt_drew xl⟩ (fun hHeld => ?_)
              refine wpAnyH_take (i := 0) (v := ?_) (by simp only [List.getElem?_toArray, List.getElem?_cons_succ, List.getElem?_cons_zero] <;> rfl) (by kernel_rfl) (by kernel_rfl) (by kernel_rfl) (fun _ _ _ h => h) (Or.inl ⟨by rfl, ?_⟩) (by assumption) ?_
              rotate_left
              · (intro wq hSw; (try dsimp only at hSw); go_simp; try with_reducible rfl)
              try simp only [Act.put, List.setIfInBounds_toArray, List.set_cons_zero, List.set_cons_succ]
              refine wpAnyH_take (i := 1) (v := ?_) (by simp only [List.getElem?_toArray, List.getElem?_cons_succ, List.getElem?_cons_zero] <;> rfl) (by kernel_rfl) (by kernel_rfl) (by kernel_rfl) (fun _ _ _ h => h) (Or.inl ⟨by rfl, ?_⟩) (by assumption) ?_
              rotate_left
              · (intro wq hSw; (try dsimp only at hSw); go_simp; try with_reducible rfl)
              try simp only [Act.put, List.setIfInBounds_toArray, List.set_cons_zero, List.set_cons_succ]
              refine wpAnyH_take (i := 2) (v := ?_) (by simp only [List.getElem?_toArray, List.getElem?_cons_succ, List.getElem?_cons_zero] <;> rfl) (by kernel_rfl) (by kernel_rfl) (by kernel_rfl) (fun _ _ _ h => h) (Or.inl ⟨by rfl, ?_⟩) (by assumption) ?_
              rotate_left
              · (intro wq hSw; (try dsimp only at hSw); go_simp; try with_reducible rfl)
              try simp only [Act.put, List.setIfInBounds_toArray, List.set_cons_zero, List.set_cons_succ]
              refine wpAnyH_take (i := 3) (v := ?_) (by simp only [List.getElem?_toArray, List.getElem?_cons_succ, List.getElem?_cons_zero] <;> rfl) (by kernel_rfl) (by kernel_rfl) (by kernel_rfl) (fun _ _ _ h => h) (Or.inl ⟨by rfl, ?_⟩) (by assumption) ?_
              rotate_left
              · (intro wq hSw; (try dsimp only at hSw); go_simp; try with_reducible rfl)
              try simp only [Act.put, List.setIfInBounds_toArray, List.set_cons_zero, List.set_cons_succ]
              refine wpAnyH_take (i := 5) (v := ?_) (by simp only [List.getElem?_toArray, List.getElem?_cons_succ, List.getElem?_cons_zero] <;> rfl) (by kernel_rfl) (by kernel_rfl) (by kernel_rfl) (fun _ _ _ h => h) (Or.inl ⟨by rfl, ?_⟩) (by assumption) ?_
              rotate_left
              · (intro wq hSw; (try dsimp only at hSw); go_simp; try with_reducible rfl)
              try simp only [Act.put, List.setIfInBounds_toArray, List.set_cons_zero, List.set_cons_succ]
              refine wpAnyH_take (i := 6) (v := ?_) (by simp only [List.getElem?_toArray, List.getElem?_cons_succ, List.getElem?_cons_zero] <;> rfl) (by kernel_rfl) (by kernel_rfl) (by kernel_rfl) (fun _ _ _ h => h) (Or.inl ⟨by rfl, ?_⟩) (by assumption) ?_
              rotate_left
              · (intro wq hSw; (try dsimp only at hSw); go_simp; try with_reducible rfl)
              try simp only [Act.put, List.setIfInBounds_toArray, List.set_cons_zero, List.set_cons_succ]
              refine wpAnyH_take (i := 7) (v := ?_) (by simp only [List.getElem?_toArray, List.getElem?_cons_succ, List.getElem?_cons_zero] <;> rfl) (by kernel_rfl) (by kernel_rfl) (by kernel_rfl) (fun _ _ _ h => h) (Or.inl ⟨by rfl, ?_⟩) (by assumption) ?_
              rotate_left
              · intro wq hSw
                have hq0 := hSw.1
                go_simp
                try with_reducible rfl
              try simp only [Act.put, List.setIfInBounds_toArray, List.set_cons_zero, List.set_cons_succ]
              refine wpAnyH_take (i := 8) (v := ?_) (by simp only [List.getElem?_toArray, List.getElem?_cons_succ, List.getElem?_cons_zero] <;> rfl) (by kernel_rfl) (by kernel_rfl) (by kernel_rfl) (fun _ _ _ h => h) (Or.inl ⟨by rfl, ?_⟩) (by assumption) ?_
              rotate_left
              · (intro wq hSw; (try dsimp only at hSw); go_simp; try with_reducible rfl)
              try simp only [Act.put, List.setIfInBounds_toArray, List.set_cons_zero, List.set_cons_succ]
              refine wpAnyH_ready (rs := [4, 9]) (by kernel_rfl) (by simp) ?_
              refine AllReadyH.cons rfl (fun K hK => ?_) (AllReadyH.cons rfl (fun K hK => ?_) AllReadyH.nil)
              · go_simp
                refine Calls.mono (dw_next (b := b) (lo := lo) HD.out.drew.src (by first | assumption | decide | (unfold I64; omega))) ?_
                rintro e w7 ⟨r6, rfl, h60, h61, hdx⟩
                have hr6 : r6 < (n : Int) + 1 := by omega
                have hc7 := (ocell hdx.only _ 0 hHeld.2 (by omega)).trans hHeld.1
                have hs7 : w6.heap.size ≤ w7.heap.size := hdx.size
                have O := Lib.hid ((O.out.keep (show Below w6.heap.size w6 w6.drew from Below.drew (Below.refl _ _))).dw hdx (by omega))
                have HD := Lib.hid ((HD.out.drew).trans hdx)
                go_wp2_with fail
                refine hK.out _ _ ⟨hc7, by omega⟩ (fun hHeld => ?_)
                clear hK K
                try simp only [Act.put, List.setIfInBounds_toArray, List.set_cons_zero, List.set_cons_succ]
                refine wpAnyH_ready (rs := [9]) (by kernel_rfl) (by simp) ?_
                refine AllReadyH.cons rfl (fun K hK => ?_) AllReadyH.nil
                go_simp
                refine hK.out _ _ ⟨cell_alloc hHeld.1, lt_alloc hHeld.2⟩ (fun hHeld => ?_)
                clear hK K
                try simp only [Act.put, List.setIfInBounds_toArray, List.set_cons_zero, List.set_cons_succ]
                refine wpAnyH_ready (rs := [10]) (by kernel_rfl) (by simp) ?_
                refine AllReadyH.cons rfl (fun K hK => ?_) AllReadyH.nil
                go_simp
                refine Calls.mono (dw_pick4 (b := b) (lo := lo) HD.out.src (by first | rfl | (simp; done)) (by first | assumption | decide | (unfold I64; omega)) (by first | assumption | decide | (unfold I64; omega)) (by first | assumption | decide | (unfold I64; omega)) (by first | assumption | decide | (unfold I64; omega))) ?_
                rintro e w8 ⟨r7, rfl, hm7, hi7, hdx8⟩
                have hc8 := (ocell hdx8.only _ 0 (show w.heap.size < w7.heap.size by omega) (by omega)).trans hc7
                have hs8 := hdx8.size
                clear hm7
                have O := Lib.hid (O.out.dw hdx8 (by omega))
                have HD := Lib.hid (HD.out.trans hdx8)
                go_wp2_with fail
                refine hK.out _ _ ⟨hc8, by omega⟩ (fun hHeld => ?_)
                clear hK K
                try simp only [Act.put, List.setIfInBounds_toArray, List.set_cons_zero, List.set_cons_succ]
                obtain ⟨q, rfl⟩ := Int.eq_ofNat_of_zero_le h60
                have hq : q < n + 1 := by omega
                have hq0 : (0 : Int) ≤ (q : Int) := by omega
                have hq1 : (q : Int) < (n : Int) + 1 := by omega
                have hnc := O.out.ints.cap
                have hq2 : (n : Int) + 1 ≤ (c' : Int) := by omega
                obtain ⟨g, rfl⟩ := O.out.shape (by omega)
                obtain ⟨z, hz, hzw, hcell⟩ := O.out.cell hq
                have hfz := O.out.free q
                have hgl := O.out.lt
                have hgl2 := hgl.2
                clear hz
                refine wpAnyH_take (i := 11) (v := ?_) (by simp only [List.getElem?_toArray, List.getElem?_cons_succ, List.getElem?_cons_zero] <;> rfl) (by kernel_rfl) (by kernel_rfl) (by kernel_rfl) (fun _ _ _ h => h) (Or.inl ⟨by rfl, ?_⟩) (by assumption) ?_
                rotate_left
                · (intro wq hSw; (try dsimp only at hSw); go_simp; try with_reducible rfl)
                try simp only [Act.put, List.setIfInBounds_toArray, List.set_cons_zero, List.set_cons_succ]
                refine wpAnyH_ready (rs := [12]) (by kernel_rfl) (by simp) ?_
                refine AllReadyH.cons rfl (fun K hK => ?_) AllReadyH.nil
                go_simp
                have hOn := O.out.set q hi7
                have hDn := HD.out.set (g := g) (by omega) q (.int .i64 r7)
                refine hK.out _ _ ⟨cell_set hHeld.1 (by omega), lt_set hHeld.2⟩ (fun hHeld => ?_)
                clear hK K
                try simp only [Act.put, List.setIfInBounds_toArray, List.set_cons_zero, List.set_cons_succ]
                refine wpAnyH_done (by kernel_rfl) ?_ _
                refine NoPanic.normal ?_
                go_wp2
                go_ret
                exact ⟨_, _, _, _, rfl, hOn.le (by omega), by omega, hDn⟩
              · go_simp
                refine hK.out _ _ ⟨cell_drew (cell_alloc x0), lt_drew (lt_alloc xl)⟩ (fun hHeld => ?_)
                clear hK K
                try simp only [Act.put, List.setIfInBounds_toArray, List.set_cons_zero, List.set_cons_succ]
                have hIl := (ints_lit w6 2 [-1, 3, 4, 3 * B] (by repeat' (first | exact trivial | decide | (unfold I64; omega) | refine ⟨?_, ?_⟩))).keep (show Below (w6.alloc (.cells (([-1, 3, 4, 3 * B] : List Int).map (Value.int .i64)).toArray 2)).heap.size _ (w6.alloc (.cells (([-1, 3, 4, 3 * B] : List Int).map (Value.int .i64)).toArray 2)).drew from Below.drew (Below.refl _ _))
                refine wpAnyH_ready (rs := [4]) (by kernel_rfl) (by simp) ?_
                refine AllReadyH.cons rfl (fun K hK => ?_) AllReadyH.nil
                go_simp
                have hDa := (HD.out.alloc (.cells (([-1, 3, 4, 3 * B] : List Int).map (Value.int .i64)).toArray 2)).drew
                refine Calls.mono (dw_next (b := b) (lo := lo) hDa.src (by first | assumption | decide | (unfold I64; omega))) ?_
                rintro e w7 ⟨r6, rfl, h60, h61, hdx⟩
                have hr6 : r6 < (n : Int) + 1 := by omega
                have hc7 := (ocell hdx.only _ 0 hHeld.2 (by omega)).trans hHeld.1
                have hs7 : w6.heap.size + 1 ≤ w7.heap.size := by have h := hdx.size; simp at h; omega
                have O := Lib.hid ((O.out.keep (show Below w6.heap.size w6 (w6.alloc (.cells (([-1, 3, 4, 3 * B] : List Int).map (Value.int .i64)).toArray 2)).drew from Below.drew ((Below.refl _ _).alloc (Nat.le_refl _) _))).dw hdx (by omega))
                have HD := Lib.hid (hDa.trans hdx)
                have hI7 := hIl.dw hdx (by intro g off e; simp at e; omega)
                have HI7 := Lib.hid hI7
                clear hI7 hIl hDa
                go_wp2_with fail
                refine hK.out _ _ ⟨hc7, by omega⟩ (fun hHeld => ?_)
                clear hK K
                try simp only [Act.put, List.setIfInBounds_toArray, List.set_cons_zero, List.set_cons_succ]
                refine wpAnyH_ready (rs := [10]) (by kernel_rfl) (by simp) ?_
                refine AllReadyH.cons rfl (fun K hK => ?_) AllReadyH.nil
                go_simp
                refine Calls.mono (dw_l01Pick (b := b) (lo := lo) HD.out HI7.out (by decide) (by decide) (by intro g off e; simp at e; omega)) ?_
                rintro e w8 ⟨r7, rfl, hm7, hi7, hdx8⟩
                have hc8 := (ocell hdx8.only _ 0 (show w.heap.size < w7.heap.size by omega) (by omega)).trans hc7
                have hs8 := hdx8.size
                clear hm7
                have O := Lib.hid (O.out.dw hdx8 (by omega))
                have HD := Lib.hid (HD.out.trans hdx8)
                go_wp2_with fail
                refine hK.out _ _ ⟨hc8, by omega⟩ (fun hHeld => ?_)
                clear hK K
                try simp only [Act.put, List.setIfInBounds_toArray, List.set_cons_zero, List.set_cons_succ]
                obtain ⟨q, rfl⟩ := Int.eq_ofNat_of_zero_le h60
                have hq : q < n + 1 := by omega
                have hq0 : (0 : Int) ≤ (q : Int) := by omega
                have hq1 : (q : Int) < (n : Int) + 1 := by omega
                have hnc := O.out.ints.cap
                have hq2 : (n : Int) + 1 ≤ (c' : Int) := by omega
                obtain ⟨g, rfl⟩ := O.out.shape (by omega)
                obtain ⟨z, hz, hzw, hcell⟩ := O.out.cell hq
                have hfz := O.out.free q
                have hgl := O.out.lt
                have hgl2 := hgl.2
                clear hz
                refine wpAnyH_take (i := 11) (v := ?_) (by simp only [List.getElem?_toArray, List.getElem?_cons_succ, List.getElem?_cons_zero] <;> rfl) (by kernel_rfl) (by kernel_rfl) (by kernel_rfl) (fun _ _ _ h => h) (Or.inl ⟨by rfl, ?_⟩) (by assumption) ?_
                rotate_left
                · (intro wq hSw; (try dsimp only at hSw); go_simp; try with_reducible rfl)
                try simp only [Act.put, List.setIfInBounds_toArray, List.set_cons_zero, List.set_cons_succ]
                refine wpAnyH_ready (rs := [12]) (by kernel_rfl) (by simp) ?_
                refine AllReadyH.cons rfl (fun K hK => ?_) AllReadyH.nil
                go_simp
                have hOn := O.out.set q hi7
                have hDn := HD.out.set (g := g) (by omega) q (.int .i64 r7)
                refine hK.out _ _ ⟨cell_set hHeld.1 (by omega), lt_set hHeld.2⟩ (fun hHeld => ?_)
                clear hK K
                try simp only [Act.put, List.setIfInBounds_toArray, List.set_cons_zero, List.set_cons_succ]
                refine wpAnyH_done (by kernel_rfl) ?_ _
                refine NoPanic.normal ?_
                go_wp2
                go_ret
                exact ⟨_, _, _, _, rfl, hOn.le (by omega), by omega, hDn⟩
            · have q1' : (r5 == 1) = false := by simpa using q1
              clear q0 q1
              go_wp2_with fail
              go_ret
              exact ⟨_, _, _, _, rfl, O.out.le (by omega), by omega, HD.out⟩
end Go.Proofs.Ytoaccicfmfiemaa
