/- Draws of layers 10 and 24, walked.; The draw of a ride, walked. -/
import Derived.Test.YtfnamjkmkoldeaaGreatDoorQc
namespace Go.Proofs.YtfnamjkmkoldeaaGreatDoor
open Go.RowKit
set_option linter.unusedVariables false
set_option linter.unusedSimpArgs false
theorem mk4 (w : World) : (Instr.makeSlice 22 (.int .i64 4) (.int .i64 4)).run Tryz.prog w = .ok (.slice (some ⟨w.heap.size, 0, none⟩) 4 4) (w.alloc (.cells #[.int .i64 0, .int .i64 0, .int .i64 0, .int .i64 0] 2)) := by kernel_rfl
theorem mk5 (w : World) : (Instr.makeSlice 22 (.int .i64 5) (.int .i64 5)).run Tryz.prog w = .ok (.slice (some ⟨w.heap.size, 0, none⟩) 5 5) (w.alloc (.cells #[.int .i64 0, .int .i64 0, .int .i64 0, .int .i64 0, .int .i64 0] 2)) := by kernel_rfl
set_option maxRecDepth 100000 in
set_option maxHeartbeats 2000000 in
theorem spec_l10Draw {b lo : Nat} {w0 w : World} (hS : Dw 134 lo b w0 w) :
    Calls Tryz.prog 86 #[.pointer (some ⟨b, 0, none⟩)] w fun e w' => ∃ B a n c l, e = .returned (.agg #[.int .i64 B, .slice a n c]) ∧ OwnI 2 w' w.heap.size a n c l ∧ n ≤ 5 ∧ 1 ≤ B ∧ B ≤ 9 ∧ Dw 134 lo b w w' := by
  have HD := Lib.hid hS.start
  have hbw := hS.src.lt.2
  clear hS
  have R := Lib.hid (Blk.made w #[.int .i64 0, .slice none 0 0] 28)
  go_enter Tryz.func86, Tryz.ntmps86
  go_wp2_with fail
  refine Calls.mono (dw_next (b := b) (lo := lo) (by repeat (first | exact HD.out.src | with_reducible refine Src.alloc ?_ _ | with_reducible refine Src.drew ?_ | with_reducible refine Src.drewN ?_ _)) (by decide)) ?_
  rintro e w1 ⟨r1, rfl, h10, h11, hd⟩
  have hr1 : r1 < 5 := by omega
  have hs1 := hd.size
  simp at hs1
  replace R := Lib.hid ((R.out.keep (by repeat (first | exact Below.refl _ _ | assumption | refine below_allocS ?_ _ | refine below_callS ?_ (by assumption) | (refine Below.alloc ?_ (by first | omega | (simp; done) | (simp; omega)) _) | (refine Below.setCell ?_ (by first | omega | (simp; done) | (simp; omega)) _) | refine Below.drew ?_ | refine below_drewN ?_ _ | (refine below_call ?_ (by assumption) (by first | omega | (simp; done) | (simp; omega))) | (refine Below.trans ?_ (by assumption))))).dw hd (by omega))
  replace HD := Lib.hid ((HD.out.below (by repeat (first | exact Below.refl _ _ | assumption | refine below_allocS ?_ _ | refine below_callS ?_ (by assumption) | (refine Below.alloc ?_ (by first | omega | (simp; done) | (simp; omega)) _) | (refine Below.setCell ?_ (by first | omega | (simp; done) | (simp; omega)) _) | refine Below.drew ?_ | refine below_drewN ?_ _ | (refine below_call ?_ (by assumption) (by first | omega | (simp; done) | (simp; omega))) | (refine Below.trans ?_ (by assumption))))).trans hd)
  have O := Lib.hid (OwnI.empty (E := 2) (base := w1.heap.size) w1 (Nat.le_refl _))
  clear hd h11
  obtain ⟨B, hB⟩ : ∃ B, 2 + r1 = B := ⟨_, rfl⟩
  have hB2 : 2 ≤ B := by omega
  have hB6 : B ≤ 6 := by omega
  go_wp2_with fail
  clear hB
  refine Calls.mono (dw_next (b := b) (lo := lo) (by repeat (first | exact HD.out.src | with_reducible refine Src.alloc ?_ _ | with_reducible refine Src.drew ?_ | with_reducible refine Src.drewN ?_ _)) (by first | assumption | decide | (unfold I64; omega))) ?_
  rintro e w2 ⟨r2, rfl, h20, h21, hd⟩
  have hr2 : r2 < 6 := by omega
  have hs2 := hd.size
  simp at hs2
  replace R := Lib.hid ((R.out.keep (by repeat (first | exact Below.refl _ _ | assumption | refine below_allocS ?_ _ | refine below_callS ?_ (by assumption) | (refine Below.alloc ?_ (by first | omega | (simp; done) | (simp; omega)) _) | (refine Below.setCell ?_ (by first | omega | (simp; done) | (simp; omega)) _) | refine Below.drew ?_ | refine below_drewN ?_ _ | (refine below_call ?_ (by assumption) (by first | omega | (simp; done) | (simp; omega))) | (refine Below.trans ?_ (by assumption))))).dw hd (by omega))
  replace O := Lib.hid (O.out.dw hd (by omega))
  replace HD := Lib.hid ((HD.out.below (by repeat (first | exact Below.refl _ _ | assumption | refine below_allocS ?_ _ | refine below_callS ?_ (by assumption) | (refine Below.alloc ?_ (by first | omega | (simp; done) | (simp; omega)) _) | (refine Below.setCell ?_ (by first | omega | (simp; done) | (simp; omega)) _) | refine Below.drew ?_ | refine below_drewN ?_ _ | (refine below_call ?_ (by assumption) (by first | omega | (simp; done) | (simp; omega))) | (refine Below.trans ?_ (by assumption))))).trans hd)
  clear hd h21
  go_wp2_with fail
  refine Calls.mono (dw_next (b := b) (lo := lo) (by repeat (first | exact HD.out.src | with_reducible refine Src.alloc ?_ _ | with_reducible refine Src.drew ?_ | with_reducible refine Src.drewN ?_ _)) (by first | assumption | decide | (unfold I64; omega))) ?_
  rintro e w3 ⟨r3, rfl, h30, h31, hd⟩
  have hr3 : r3 < 4 := by omega
  have hs3 := hd.size
  replace R := Lib.hid (R.out.dw hd (by omega))
  replace O := Lib.hid (O.out.dw hd (by omega))
  replace HD := Lib.hid (HD.out.trans hd)
  clear hd h31
  go_wp2_with fail
  go_loopw [4, 5, 6] (fun s4 s5 s6 wr => ∃ (a : Option Addr) (n c k : Nat) (at' : Int) (l : List Int), s4 = .slice a n c ∧ s5 = .int .i64 at' ∧ s6 = .int .i64 k ∧ 0 ≤ at' ∧ at' + 3 * k ≤ 30 ∧ n + k ≤ 4 ∧ 1 ≤ n + k ∧ w1.heap.size ≤ wr.heap.size ∧ Hid (OwnI 2 wr w1.heap.size a n c l) ∧ Hid (Blk wr w.heap.size #[.int .i64 0, .slice none 0 0] 28) ∧ Hid (Dw 134 lo b w wr)) (fun _ _ s6 _ => (intOf s6).toNat)
  case atStart => exact ⟨_, 0, 0, (1 + r3).toNat, r2, [], rfl, rfl, by rw [show (((1 + r3).toNat : Nat) : Int) = 1 + r3 from by omega], by omega, by omega, by omega, by omega, by omega, O, R, HD⟩
  case round =>
    clear O R HD
    obtain ⟨a, n, c, k, at', l, rfl, rfl, rfl, ha0, ha1, hk1, hk2, hsr, O, R, HD⟩ := hrel
    have hbr := HD.out.size
    by_cases hk : 0 < k
    · have hk' : (0 : Int) < (k : Int) := by omega
      have hB0 : ¬ B = 0 := by omega
      have hm0 : 0 ≤ at' % B := Int.emod_nonneg _ (by omega)
      have hm1 : at' % B < B := Int.emod_lt_of_pos _ (by omega)
      go_wp2_with fail
      refine Calls.mono (dw_pick4 (b := b) (lo := lo) (by repeat (first | exact HD.out.src | with_reducible refine Src.alloc ?_ _ | with_reducible refine Src.drew ?_ | with_reducible refine Src.drewN ?_ _)) (by first | rfl | (simp; done)) (by first | assumption | decide | (unfold I64; omega)) (by first | assumption | decide | (unfold I64; omega)) (by first | assumption | decide | (unfold I64; omega)) (by first | assumption | decide | (unfold I64; omega))) ?_
      rintro e w5 ⟨ph, rfl, hph, hi, hd⟩
      have hp0 : 0 ≤ ph := by omega
      have hp1 : ph ≤ 2 := by omega
      clear hph
      have hs5 := hd.size
      (try simp at hs5)
      replace R := Lib.hid ((R.out.keep (by repeat (first | exact Below.refl _ _ | assumption | refine below_allocS ?_ _ | refine below_callS ?_ (by assumption) | (refine Below.alloc ?_ (by first | omega | (simp; done) | (simp; omega)) _) | (refine Below.setCell ?_ (by first | omega | (simp; done) | (simp; omega)) _) | refine Below.drew ?_ | refine below_drewN ?_ _ | (refine below_call ?_ (by assumption) (by first | omega | (simp; done) | (simp; omega))) | (refine Below.trans ?_ (by assumption))))).dw hd (by omega))
      replace O := Lib.hid ((O.out.keep (by repeat (first | exact Below.refl _ _ | assumption | refine below_allocS ?_ _ | refine below_callS ?_ (by assumption) | (refine Below.alloc ?_ (by first | omega | (simp; done) | (simp; omega)) _) | (refine Below.setCell ?_ (by first | omega | (simp; done) | (simp; omega)) _) | refine Below.drew ?_ | refine below_drewN ?_ _ | (refine below_call ?_ (by assumption) (by first | omega | (simp; done) | (simp; omega))) | (refine Below.trans ?_ (by assumption))))).dw hd (by omega))
      replace HD := Lib.hid ((HD.out.below (by repeat (first | exact Below.refl _ _ | assumption | refine below_allocS ?_ _ | refine below_callS ?_ (by assumption) | (refine Below.alloc ?_ (by first | omega | (simp; done) | (simp; omega)) _) | (refine Below.setCell ?_ (by first | omega | (simp; done) | (simp; omega)) _) | refine Below.drew ?_ | refine below_drewN ?_ _ | (refine below_call ?_ (by assumption) (by first | omega | (simp; done) | (simp; omega))) | (refine Below.trans ?_ (by assumption))))).trans hd)
      clear hd
      go_wp2_with (at_builtin; refine app1 (lo := lo) (b := b) (w0 := w) rfl _ _ rfl Tryz.underlying22 Tryz.infoi64 w1.heap.size _ _ _ _ (O.out.keep (by repeat (first | exact Below.refl _ _ | assumption | refine below_allocS ?_ _ | refine below_callS ?_ (by assumption) | (refine Below.alloc ?_ (by first | omega | (simp; done) | (simp; omega)) _) | (refine Below.setCell ?_ (by first | omega | (simp; done) | (simp; omega)) _) | refine Below.drew ?_ | refine below_drewN ?_ _ | (refine below_call ?_ (by assumption) (by first | omega | (simp; done) | (simp; omega))) | (refine Below.trans ?_ (by assumption))))) rfl _ rfl (by first | rfl | (simp; done)) (by first | assumption | decide | (unfold I64; omega)) (by omega) (HD.out.below (by repeat (first | exact Below.refl _ _ | assumption | refine below_allocS ?_ _ | refine below_callS ?_ (by assumption) | (refine Below.alloc ?_ (by first | omega | (simp; done) | (simp; omega)) _) | (refine Below.setCell ?_ (by first | omega | (simp; done) | (simp; omega)) _) | refine Below.drew ?_ | refine below_drewN ?_ _ | (refine below_call ?_ (by assumption) (by first | omega | (simp; done) | (simp; omega))) | (refine Below.trans ?_ (by assumption))))) (by omega) (by (try simp); omega) ?_; intro a' c' wn ho hb hd; have O := Lib.hid ho; have R := Lib.hid ((R.out.keep (by repeat (first | exact Below.refl _ _ | assumption | refine below_allocS ?_ _ | refine below_callS ?_ (by assumption) | (refine Below.alloc ?_ (by first | omega | (simp; done) | (simp; omega)) _) | (refine Below.setCell ?_ (by first | omega | (simp; done) | (simp; omega)) _) | refine Below.drew ?_ | refine below_drewN ?_ _ | (refine below_call ?_ (by assumption) (by first | omega | (simp; done) | (simp; omega))) | (refine Below.trans ?_ (by assumption))))).keepB hb (by omega)); replace HD := Lib.hid hd; have hsn := hb.size; clear ho hb hd)
      refine Calls.mono (dw_next (b := b) (lo := lo) (by repeat (first | exact HD.out.src | with_reducible refine Src.alloc ?_ _ | with_reducible refine Src.drew ?_ | with_reducible refine Src.drewN ?_ _)) (by decide)) ?_
      rintro e w6 ⟨r4, rfl, h40, h41, hd⟩
      have hr4 : r4 < 3 := by omega
      have hs6 := hd.size
      (try simp at hs6 hsn)
      replace R := Lib.hid ((R.out.keep (by repeat (first | exact Below.refl _ _ | assumption | refine below_allocS ?_ _ | refine below_callS ?_ (by assumption) | (refine Below.alloc ?_ (by first | omega | (simp; done) | (simp; omega)) _) | (refine Below.setCell ?_ (by first | omega | (simp; done) | (simp; omega)) _) | refine Below.drew ?_ | refine below_drewN ?_ _ | (refine below_call ?_ (by assumption) (by first | omega | (simp; done) | (simp; omega))) | (refine Below.trans ?_ (by assumption))))).dw hd (by omega))
      replace O := Lib.hid ((O.out.keep (by repeat (first | exact Below.refl _ _ | assumption | refine below_allocS ?_ _ | refine below_callS ?_ (by assumption) | (refine Below.alloc ?_ (by first | omega | (simp; done) | (simp; omega)) _) | (refine Below.setCell ?_ (by first | omega | (simp; done) | (simp; omega)) _) | refine Below.drew ?_ | refine below_drewN ?_ _ | (refine below_call ?_ (by assumption) (by first | omega | (simp; done) | (simp; omega))) | (refine Below.trans ?_ (by assumption))))).dw hd (by omega))
      replace HD := Lib.hid ((HD.out.below (by repeat (first | exact Below.refl _ _ | assumption | refine below_allocS ?_ _ | refine below_callS ?_ (by assumption) | (refine Below.alloc ?_ (by first | omega | (simp; done) | (simp; omega)) _) | (refine Below.setCell ?_ (by first | omega | (simp; done) | (simp; omega)) _) | refine Below.drew ?_ | refine below_drewN ?_ _ | (refine below_call ?_ (by assumption) (by first | omega | (simp; done) | (simp; omega))) | (refine Below.trans ?_ (by assumption))))).trans hd)
      clear hd h41
      go_wp2_with fail
      go_roundw
      case rel => exact ⟨_, _, _, k - 1, _, _, rfl, rfl, by rw [show ((k - 1 : Nat) : Int) = (k : Int) - 1 from by omega], by omega, by omega, by omega, by omega, by omega, O, R, HD⟩
      case measure => simp [intOf]; omega
    · obtain rfl : k = 0 := by omega
      go_wp2_with fail
      refine Calls.mono (dw_next (b := b) (lo := lo) (by repeat (first | exact HD.out.src | with_reducible refine Src.alloc ?_ _ | with_reducible refine Src.drew ?_ | with_reducible refine Src.drewN ?_ _)) (by decide)) ?_
      rintro e w4 ⟨r5, rfl, h50, h51, hd⟩
      have hs5 := hd.size
      (try simp at hs5)
      replace R := Lib.hid ((R.out.keep (by repeat (first | exact Below.refl _ _ | assumption | refine below_allocS ?_ _ | refine below_callS ?_ (by assumption) | (refine Below.alloc ?_ (by first | omega | (simp; done) | (simp; omega)) _) | (refine Below.setCell ?_ (by first | omega | (simp; done) | (simp; omega)) _) | refine Below.drew ?_ | refine below_drewN ?_ _ | (refine below_call ?_ (by assumption) (by first | omega | (simp; done) | (simp; omega))) | (refine Below.trans ?_ (by assumption))))).dw hd (by omega))
      replace O := Lib.hid ((O.out.keep (by repeat (first | exact Below.refl _ _ | assumption | refine below_allocS ?_ _ | refine below_callS ?_ (by assumption) | (refine Below.alloc ?_ (by first | omega | (simp; done) | (simp; omega)) _) | (refine Below.setCell ?_ (by first | omega | (simp; done) | (simp; omega)) _) | refine Below.drew ?_ | refine below_drewN ?_ _ | (refine below_call ?_ (by assumption) (by first | omega | (simp; done) | (simp; omega))) | (refine Below.trans ?_ (by assumption))))).dw hd (by omega))
      replace HD := Lib.hid ((HD.out.below (by repeat (first | exact Below.refl _ _ | assumption | refine below_allocS ?_ _ | refine below_callS ?_ (by assumption) | (refine Below.alloc ?_ (by first | omega | (simp; done) | (simp; omega)) _) | (refine Below.setCell ?_ (by first | omega | (simp; done) | (simp; omega)) _) | refine Below.drew ?_ | refine below_drewN ?_ _ | (refine below_call ?_ (by assumption) (by first | omega | (simp; done) | (simp; omega))) | (refine Below.trans ?_ (by assumption))))).trans hd)
      clear hd
      by_cases q0 : r5 = 0
      · subst q0
        go_wp2_with fail
        refine Calls.mono (dw_pick3 (b := b) (lo := lo) (by repeat (first | exact HD.out.src | with_reducible refine Src.alloc ?_ _ | with_reducible refine Src.drew ?_ | with_reducible refine Src.drewN ?_ _)) (by first | rfl | (simp; done)) (by first | assumption | decide | (unfold I64; omega)) (by first | assumption | decide | (unfold I64; omega)) (by first | assumption | decide | (unfold I64; omega))) ?_
        rintro e w5 ⟨B', rfl, hm, hi, hd⟩
        have hB0 : 1 ≤ B' := by omega
        have hB1 : B' ≤ 9 := by omega
        clear hm
        have hs5 := hd.size
        (try simp at hs5)
        replace R := Lib.hid ((R.out.keep (by repeat (first | exact Below.refl _ _ | assumption | refine below_allocS ?_ _ | refine below_callS ?_ (by assumption) | (refine Below.alloc ?_ (by first | omega | (simp; done) | (simp; omega)) _) | (refine Below.setCell ?_ (by first | omega | (simp; done) | (simp; omega)) _) | refine Below.drew ?_ | refine below_drewN ?_ _ | (refine below_call ?_ (by assumption) (by first | omega | (simp; done) | (simp; omega))) | (refine Below.trans ?_ (by assumption))))).dw hd (by omega))
        replace O := Lib.hid ((O.out.keep (by repeat (first | exact Below.refl _ _ | assumption | refine below_allocS ?_ _ | refine below_callS ?_ (by assumption) | (refine Below.alloc ?_ (by first | omega | (simp; done) | (simp; omega)) _) | (refine Below.setCell ?_ (by first | omega | (simp; done) | (simp; omega)) _) | refine Below.drew ?_ | refine below_drewN ?_ _ | (refine below_call ?_ (by assumption) (by first | omega | (simp; done) | (simp; omega))) | (refine Below.trans ?_ (by assumption))))).dw hd (by omega))
        replace HD := Lib.hid ((HD.out.below (by repeat (first | exact Below.refl _ _ | assumption | refine below_allocS ?_ _ | refine below_callS ?_ (by assumption) | (refine Below.alloc ?_ (by first | omega | (simp; done) | (simp; omega)) _) | (refine Below.setCell ?_ (by first | omega | (simp; done) | (simp; omega)) _) | refine Below.drew ?_ | refine below_drewN ?_ _ | (refine below_call ?_ (by assumption) (by first | omega | (simp; done) | (simp; omega))) | (refine Below.trans ?_ (by assumption))))).trans hd)
        clear hd
        have r0 := R.out.cell 0
        have r1' := R.out.cell 1
        have rf := R.out.free
        have rl := R.out.lt
        simp at r0 r1'
        go_wp2
        refine bodyPost_ret (v := .agg #[.int .i64 B', .slice a n c]) (by simp [results, Tryz.results86, go_sem, *]) rfl ⟨_, _, _, _, l, rfl, ?_, by omega, by omega, by omega, (HD.out.set (Nat.le_refl _) _ _).set (Nat.le_refl _) _ _⟩
        exact (O.out.only (((Only.refl w.heap.size (w.heap.size + 1) _).set ⟨Nat.le_refl _, Nat.lt_succ_self _⟩ 0 _).set ⟨Nat.le_refl _, Nat.lt_succ_self _⟩ 1 _) (fun g hg => .inr (by have := (O.out.blk g hg).1; omega))).le (by omega)
      · have q0' : (r5 == 0) = false := by simpa using q0
        by_cases q1 : r5 = 1
        · subst q1
          clear q0
          go_wp2_with fail
          refine Calls.mono (dw_pick3 (b := b) (lo := lo) (by repeat (first | exact HD.out.src | with_reducible refine Src.alloc ?_ _ | with_reducible refine Src.drew ?_ | with_reducible refine Src.drewN ?_ _)) (by first | rfl | (simp; done)) (by first | assumption | decide | (unfold I64; omega)) (by first | assumption | decide | (unfold I64; omega)) (by first | assumption | decide | (unfold I64; omega))) ?_
          rintro e w5 ⟨r6, rfl, hm, hi, hd⟩
          clear hm
          have hs5 := hd.size
          (try simp at hs5)
          replace R := Lib.hid ((R.out.keep (by repeat (first | exact Below.refl _ _ | assumption | refine below_allocS ?_ _ | refine below_callS ?_ (by assumption) | (refine Below.alloc ?_ (by first | omega | (simp; done) | (simp; omega)) _) | (refine Below.setCell ?_ (by first | omega | (simp; done) | (simp; omega)) _) | refine Below.drew ?_ | refine below_drewN ?_ _ | (refine below_call ?_ (by assumption) (by first | omega | (simp; done) | (simp; omega))) | (refine Below.trans ?_ (by assumption))))).dw hd (by omega))
          replace O := Lib.hid ((O.out.keep (by repeat (first | exact Below.refl _ _ | assumption | refine below_allocS ?_ _ | refine below_callS ?_ (by assumption) | (refine Below.alloc ?_ (by first | omega | (simp; done) | (simp; omega)) _) | (refine Below.setCell ?_ (by first | omega | (simp; done) | (simp; omega)) _) | refine Below.drew ?_ | refine below_drewN ?_ _ | (refine below_call ?_ (by assumption) (by first | omega | (simp; done) | (simp; omega))) | (refine Below.trans ?_ (by assumption))))).dw hd (by omega))
          replace HD := Lib.hid ((HD.out.below (by repeat (first | exact Below.refl _ _ | assumption | refine below_allocS ?_ _ | refine below_callS ?_ (by assumption) | (refine Below.alloc ?_ (by first | omega | (simp; done) | (simp; omega)) _) | (refine Below.setCell ?_ (by first | omega | (simp; done) | (simp; omega)) _) | refine Below.drew ?_ | refine below_drewN ?_ _ | (refine below_call ?_ (by assumption) (by first | omega | (simp; done) | (simp; omega))) | (refine Below.trans ?_ (by assumption))))).trans hd)
          clear hd
          obtain ⟨g, rfl⟩ := O.out.shape (by omega)
          obtain ⟨x, hx, hxw, hcell⟩ := O.out.cell (k := 0) (by omega)
          have hfz := O.out.free 0
          have hgl := O.out.lt
          have hgl2 := hgl.2
          clear hx
          have r0 := R.out.cell 0
          have r1' := R.out.cell 1
          have rf := R.out.free
          have rl := R.out.lt
          simp at r0 r1'
          have hne : w.heap.size ≠ g := by omega
          have hne' : g ≠ w.heap.size := by omega
          go_wp2
          refine bodyPost_ret (v := .agg #[.int .i64 B, .slice (some ⟨g, 0, none⟩) n c]) (by simp [results, Tryz.results86, go_sem, *]) rfl ⟨_, _, _, _, (l.set 0 r6), rfl, ?_, by omega, by omega, by omega, ((HD.out.set (by omega) _ _).set (Nat.le_refl _) _ _).set (Nat.le_refl _) _ _⟩
          have O2 := O.out.set 0 hi
          exact (O2.only (((Only.refl w.heap.size (w.heap.size + 1) _).set ⟨Nat.le_refl _, Nat.lt_succ_self _⟩ 0 _).set ⟨Nat.le_refl _, Nat.lt_succ_self _⟩ 1 _) (fun g hg => .inr (by have := (O2.blk g hg).1; omega))).le (by omega)
        · have q1' : (r5 == 1) = false := by simpa using q1
          by_cases q2 : r5 = 2
          · subst q2
            clear q0 q1
            go_wp2_with fail
            refine Calls.mono (dw_next (b := b) (lo := lo) (by repeat (first | exact HD.out.src | with_reducible refine Src.alloc ?_ _ | with_reducible refine Src.drew ?_ | with_reducible refine Src.drewN ?_ _)) (by decide)) ?_
            rintro e w5 ⟨r6, rfl, h60, h61, hd⟩
            have hs5 := hd.size
            (try simp at hs5)
            replace R := Lib.hid ((R.out.keep (by repeat (first | exact Below.refl _ _ | assumption | refine below_allocS ?_ _ | refine below_callS ?_ (by assumption) | (refine Below.alloc ?_ (by first | omega | (simp; done) | (simp; omega)) _) | (refine Below.setCell ?_ (by first | omega | (simp; done) | (simp; omega)) _) | refine Below.drew ?_ | refine below_drewN ?_ _ | (refine below_call ?_ (by assumption) (by first | omega | (simp; done) | (simp; omega))) | (refine Below.trans ?_ (by assumption))))).dw hd (by omega))
            replace O := Lib.hid ((O.out.keep (by repeat (first | exact Below.refl _ _ | assumption | refine below_allocS ?_ _ | refine below_callS ?_ (by assumption) | (refine Below.alloc ?_ (by first | omega | (simp; done) | (simp; omega)) _) | (refine Below.setCell ?_ (by first | omega | (simp; done) | (simp; omega)) _) | refine Below.drew ?_ | refine below_drewN ?_ _ | (refine below_call ?_ (by assumption) (by first | omega | (simp; done) | (simp; omega))) | (refine Below.trans ?_ (by assumption))))).dw hd (by omega))
            replace HD := Lib.hid ((HD.out.below (by repeat (first | exact Below.refl _ _ | assumption | refine below_allocS ?_ _ | refine below_callS ?_ (by assumption) | (refine Below.alloc ?_ (by first | omega | (simp; done) | (simp; omega)) _) | (refine Below.setCell ?_ (by first | omega | (simp; done) | (simp; omega)) _) | refine Below.drew ?_ | refine below_drewN ?_ _ | (refine below_call ?_ (by assumption) (by first | omega | (simp; done) | (simp; omega))) | (refine Below.trans ?_ (by assumption))))).trans hd)
            clear hd
            obtain rfl | rfl : r6 = 0 ∨ r6 = 1 := by omega
            · have hmk := mk4
              replace O := Lib.hid (OwnI.zeros (E := 2) (m := 4) (base := w1.heap.size) w5 (by omega) (by decide) rfl)
              replace R := Lib.hid (R.out.keep (show Below w5.heap.size w5 (w5.alloc (.cells #[.int .i64 0, .int .i64 0, .int .i64 0, .int .i64 0] 2)) by repeat (first | exact Below.refl _ _ | assumption | refine below_allocS ?_ _ | refine below_callS ?_ (by assumption) | (refine Below.alloc ?_ (by first | omega | (simp; done) | (simp; omega)) _) | (refine Below.setCell ?_ (by first | omega | (simp; done) | (simp; omega)) _) | refine Below.drew ?_ | refine below_drewN ?_ _ | (refine below_call ?_ (by assumption) (by first | omega | (simp; done) | (simp; omega))) | (refine Below.trans ?_ (by assumption)))))
              replace HD := Lib.hid (HD.out.alloc (.cells #[.int .i64 0, .int .i64 0, .int .i64 0, .int .i64 0] 2))
              have r0 := R.out.cell 0
              have r1' := R.out.cell 1
              have rf := R.out.free
              have rl := R.out.lt
              simp at r0 r1'
              go_wp2
              refine bodyPost_ret (v := .agg #[.int .i64 B, .slice (some ⟨w5.heap.size, 0, none⟩) 4 4]) (by simp [results, Tryz.results86, go_sem, *]) rfl ⟨_, _, _, _, (List.replicate 4 0), rfl, ?_, by omega, by omega, by omega, (HD.out.set (Nat.le_refl _) _ _).set (Nat.le_refl _) _ _⟩
              exact (O.out.only (((Only.refl w.heap.size (w.heap.size + 1) _).set ⟨Nat.le_refl _, Nat.lt_succ_self _⟩ 0 _).set ⟨Nat.le_refl _, Nat.lt_succ_self _⟩ 1 _) (fun g hg => .inr (by have := (O.out.blk g hg).1; omega))).le (by omega)
            · have hmk := mk5
              replace O := Lib.hid (OwnI.zeros (E := 2) (m := 5) (base := w1.heap.size) w5 (by omega) (by decide) rfl)
              replace R := Lib.hid (R.out.keep (show Below w5.heap.size w5 (w5.alloc (.cells #[.int .i64 0, .int .i64 0, .int .i64 0, .int .i64 0, .int .i64 0] 2)) by repeat (first | exact Below.refl _ _ | assumption | refine below_allocS ?_ _ | refine below_callS ?_ (by assumption) | (refine Below.alloc ?_ (by first | omega | (simp; done) | (simp; omega)) _) | (refine Below.setCell ?_ (by first | omega | (simp; done) | (simp; omega)) _) | refine Below.drew ?_ | refine below_drewN ?_ _ | (refine below_call ?_ (by assumption) (by first | omega | (simp; done) | (simp; omega))) | (refine Below.trans ?_ (by assumption)))))
              replace HD := Lib.hid (HD.out.alloc (.cells #[.int .i64 0, .int .i64 0, .int .i64 0, .int .i64 0, .int .i64 0] 2))
              have r0 := R.out.cell 0
              have r1' := R.out.cell 1
              have rf := R.out.free
              have rl := R.out.lt
              simp at r0 r1'
              go_wp2
              refine bodyPost_ret (v := .agg #[.int .i64 B, .slice (some ⟨w5.heap.size, 0, none⟩) 5 5]) (by simp [results, Tryz.results86, go_sem, *]) rfl ⟨_, _, _, _, (List.replicate 5 0), rfl, ?_, by omega, by omega, by omega, (HD.out.set (Nat.le_refl _) _ _).set (Nat.le_refl _) _ _⟩
              exact (O.out.only (((Only.refl w.heap.size (w.heap.size + 1) _).set ⟨Nat.le_refl _, Nat.lt_succ_self _⟩ 0 _).set ⟨Nat.le_refl _, Nat.lt_succ_self _⟩ 1 _) (fun g hg => .inr (by have := (O.out.blk g hg).1; omega))).le (by omega)
          · have q2' : (r5 == 2) = false := by simpa using q2
            by_cases q3 : r5 = 3
            · subst q3
              clear q0 q1 q2
              replace O := Lib.hid (OwnI.nil 2 w4 w1.heap.size)
              have r0 := R.out.cell 0
              have r1' := R.out.cell 1
              have rf := R.out.free
              have rl := R.out.lt
              simp at r0 r1'
              go_wp2
              refine bodyPost_ret (v := .agg #[.int .i64 B, .slice none 0 0]) (by simp [results, Tryz.results86, go_sem, *]) rfl ⟨_, _, _, _, [], rfl, ?_, by omega, by omega, by omega, (HD.out.set (Nat.le_refl _) _ _).set (Nat.le_refl _) _ _⟩
              exact (O.out.only (((Only.refl w.heap.size (w.heap.size + 1) _).set ⟨Nat.le_refl _, Nat.lt_succ_self _⟩ 0 _).set ⟨Nat.le_refl _, Nat.lt_succ_self _⟩ 1 _) (fun g hg => .inr (by have := (O.out.blk g hg).1; omega))).le (by omega)
            · have q3' : (r5 == 3) = false := by simpa using q3
              clear q0 q1 q2 q3
              have r0 := R.out.cell 0
              have r1' := R.out.cell 1
              have rf := R.out.free
              have rl := R.out.lt
              simp at r0 r1'
              go_wp2
              refine bodyPost_ret (v := .agg #[.int .i64 B, .slice a n c]) (by simp [results, Tryz.results86, go_sem, *]) rfl ⟨_, _, _, _, l, rfl, ?_, by omega, by omega, by omega, (HD.out.set (Nat.le_refl _) _ _).set (Nat.le_refl _) _ _⟩
              exact (O.out.only (((Only.refl w.heap.size (w.heap.size + 1) _).set ⟨Nat.le_refl _, Nat.lt_succ_self _⟩ 0 _).set ⟨Nat.le_refl _, Nat.lt_succ_self _⟩ 1 _) (fun g hg => .inr (by have := (O.out.blk g hg).1; omega))).le (by omega)
end Go.Proofs.YtfnamjkmkoldeaaGreatDoor
namespace Go.Proofs.YtfnamjkmkoldeaaGreatDoor
open Go.RowKit
set_option linter.unusedVariables false
set_option linter.unusedSimpArgs false
set_option maxRecDepth 100000 in
set_option maxHeartbeats 2000000 in
theorem spec_l24Draw {b lo : Nat} {w0 w : World} (hS : Dw 134 lo b w0 w) :
    Calls Tryz.prog 50 #[.pointer (some ⟨b, 0, none⟩)] w fun e w' => ∃ B a n c l bud sec, e = .returned (.tuple #[.agg #[.int .i64 B, .slice a n c], .int .i64 bud, .bool sec]) ∧ OwnI 2 w' w.heap.size a n c l ∧ n ≤ 5 ∧ 1 ≤ B ∧ B ≤ 9 ∧ -1 ≤ bud ∧ bud ≤ 3 ∧ Dw 134 lo b w w' := by
  have HD := Lib.hid hS.start
  have hbw := hS.src.lt.2
  clear hS
  have R := Lib.hid (Blk.made w #[.int .i64 0, .slice none 0 0] 28)
  go_enter Tryz.func50, Tryz.ntmps50
  go_wp2_with fail
  refine Calls.mono (dw_next (b := b) (lo := lo) (by repeat (first | exact HD.out.src | with_reducible refine Src.alloc ?_ _ | with_reducible refine Src.drew ?_ | with_reducible refine Src.drewN ?_ _)) (by decide)) ?_
  rintro e w1 ⟨r1, rfl, h10, h11, hd⟩
  have hs1 := hd.size
  simp at hs1
  replace R := Lib.hid ((R.out.keep (by repeat (first | exact Below.refl _ _ | assumption | refine below_allocS ?_ _ | refine below_callS ?_ (by assumption) | (refine Below.alloc ?_ (by first | omega | (simp; done) | (simp; omega)) _) | (refine Below.setCell ?_ (by first | omega | (simp; done) | (simp; omega)) _) | refine Below.drew ?_ | refine below_drewN ?_ _ | (refine below_call ?_ (by assumption) (by first | omega | (simp; done) | (simp; omega))) | (refine Below.trans ?_ (by assumption))))).dw hd (by omega))
  replace HD := Lib.hid ((HD.out.below (by repeat (first | exact Below.refl _ _ | assumption | refine below_allocS ?_ _ | refine below_callS ?_ (by assumption) | (refine Below.alloc ?_ (by first | omega | (simp; done) | (simp; omega)) _) | (refine Below.setCell ?_ (by first | omega | (simp; done) | (simp; omega)) _) | refine Below.drew ?_ | refine below_drewN ?_ _ | (refine below_call ?_ (by assumption) (by first | omega | (simp; done) | (simp; omega))) | (refine Below.trans ?_ (by assumption))))).trans hd)
  clear hd h11
  by_cases q0 : r1 = 0
  · subst q0
    go_wp2_with fail
    refine Calls.mono (spec_l10Draw HD.out) ?_
    rintro e w2 ⟨B, a1, n1, c1, l1, rfl, ho, hn1, hB1, hB9, hd⟩
    have O := Lib.hid ho
    have hs2 := hd.size
    replace R := Lib.hid (R.out.dw hd (by omega))
    replace HD := Lib.hid (HD.out.trans hd)
    clear ho hd
    go_wp2_with fail
    refine Calls.mono (dw_pick4 (b := b) (lo := lo) (by repeat (first | exact HD.out.src | with_reducible refine Src.alloc ?_ _ | with_reducible refine Src.drew ?_ | with_reducible refine Src.drewN ?_ _)) (by first | rfl | (simp; done)) (by first | assumption | decide | (unfold I64; omega)) (by first | assumption | decide | (unfold I64; omega)) (by first | assumption | decide | (unfold I64; omega)) (by first | assumption | decide | (unfold I64; omega))) ?_
    rintro e w5 ⟨bu, rfl, hm, hi, hd⟩
    have hm1 : -1 ≤ bu := by omega
    have hm2 : bu ≤ 3 := by omega
    clear hm
    have hs5 := hd.size
    (try simp at hs5)
    replace R := Lib.hid ((R.out.keep (by repeat (first | exact Below.refl _ _ | assumption | refine below_allocS ?_ _ | refine below_callS ?_ (by assumption) | (refine Below.alloc ?_ (by first | omega | (simp; done) | (simp; omega)) _) | (refine Below.setCell ?_ (by first | omega | (simp; done) | (simp; omega)) _) | refine Below.drew ?_ | refine below_drewN ?_ _ | (refine below_call ?_ (by assumption) (by first | omega | (simp; done) | (simp; omega))) | (refine Below.trans ?_ (by assumption))))).dw hd (by omega))
    replace O := Lib.hid ((O.out.keep (by repeat (first | exact Below.refl _ _ | assumption | refine below_allocS ?_ _ | refine below_callS ?_ (by assumption) | (refine Below.alloc ?_ (by first | omega | (simp; done) | (simp; omega)) _) | (refine Below.setCell ?_ (by first | omega | (simp; done) | (simp; omega)) _) | refine Below.drew ?_ | refine below_drewN ?_ _ | (refine below_call ?_ (by assumption) (by first | omega | (simp; done) | (simp; omega))) | (refine Below.trans ?_ (by assumption))))).dw hd (by omega))
    replace HD := Lib.hid ((HD.out.below (by repeat (first | exact Below.refl _ _ | assumption | refine below_allocS ?_ _ | refine below_callS ?_ (by assumption) | (refine Below.alloc ?_ (by first | omega | (simp; done) | (simp; omega)) _) | (refine Below.setCell ?_ (by first | omega | (simp; done) | (simp; omega)) _) | refine Below.drew ?_ | refine below_drewN ?_ _ | (refine below_call ?_ (by assumption) (by first | omega | (simp; done) | (simp; omega))) | (refine Below.trans ?_ (by assumption))))).trans hd)
    clear hd
    have r0 := R.out.cell 0
    have r1' := R.out.cell 1
    have rf := R.out.free
    have rl := R.out.lt
    simp at r0 r1'
    go_wp2
    refine bodyPost_ret (v := .tuple #[.agg #[.int .i64 B, .slice a1 n1 c1], .int .i64 bu, .bool false]) (by simp [results, Tryz.results50, go_sem, *]) rfl ⟨_, _, _, _, l1, _, _, rfl, ?_, hn1, hB1, hB9, hm1, hm2, (HD.out.set (Nat.le_refl _) _ _).set (Nat.le_refl _) _ _⟩
    exact (O.out.only (((Only.refl w.heap.size (w.heap.size + 1) _).set ⟨Nat.le_refl _, Nat.lt_succ_self _⟩ 0 _).set ⟨Nat.le_refl _, Nat.lt_succ_self _⟩ 1 _) (fun g hg => .inr (by have := (O.out.blk g hg).1; omega))).le (by omega)
  · have q0' : (r1 == 0) = false := by simpa using q0
    clear q0
    go_wp2_with fail
    refine Calls.mono (dw_next (b := b) (lo := lo) (by repeat (first | exact HD.out.src | with_reducible refine Src.alloc ?_ _ | with_reducible refine Src.drew ?_ | with_reducible refine Src.drewN ?_ _)) (by decide)) ?_
    rintro e w2 ⟨r2, rfl, h20, h21, hd⟩
    have hr2 : r2 < 2 := by omega
    have hs2 := hd.size
    replace R := Lib.hid (R.out.dw hd (by omega))
    replace HD := Lib.hid (HD.out.trans hd)
    clear hd h21
    obtain ⟨B, hB⟩ : ∃ B, 2 + r2 = B := ⟨_, rfl⟩
    have hB2 : 2 ≤ B := by omega
    have hB6 : B ≤ 3 := by omega
    go_wp2_with fail
    clear hB
    refine Calls.mono (dw_next (b := b) (lo := lo) (by repeat (first | exact HD.out.src | with_reducible refine Src.alloc ?_ _ | with_reducible refine Src.drew ?_ | with_reducible refine Src.drewN ?_ _)) (by first | assumption | decide | (unfold I64; omega))) ?_
    rintro e w3 ⟨at', rfl, h30, h31, hd⟩
    have hr3 : at' < 3 := by omega
    have hs3 := hd.size
    replace R := Lib.hid (R.out.dw hd (by omega))
    replace HD := Lib.hid (HD.out.trans hd)
    clear hd h31
    go_wp2_with fail
    refine Calls.mono (dw_next (b := b) (lo := lo) (by repeat (first | exact HD.out.src | with_reducible refine Src.alloc ?_ _ | with_reducible refine Src.drew ?_ | with_reducible refine Src.drewN ?_ _)) (by decide)) ?_
    rintro e w4 ⟨r4, rfl, h40, h41, hd⟩
    have hr4 : r4 < 3 := by omega
    have hs4 := hd.size
    replace R := Lib.hid (R.out.dw hd (by omega))
    replace HD := Lib.hid (HD.out.trans hd)
    clear hd h41
    have O := Lib.hid (OwnF.lit (enc := enc1) (ok := I64) (E := 2) (base := w4.heap.size) (cs := #[.int .i64 (3 * at' + r4)]) w4 [3 * at' + r4] (Nat.le_refl _) rfl (by simp) (fun _ => rfl) (fun x hx => by simp at hx; subst hx; unfold I64; omega) rfl)
    go_wp2_with fail
    refine Calls.mono (dw_next (b := b) (lo := lo) (by repeat (first | exact HD.out.src | with_reducible refine Src.alloc ?_ _ | with_reducible refine Src.drew ?_ | with_reducible refine Src.drewN ?_ _)) (by decide)) ?_
    rintro e w5 ⟨r5, rfl, h50, h51, hd⟩
    have hr5 : r5 < 3 := by omega
    have hs5 := hd.size
    (try simp at hs5)
    replace R := Lib.hid ((R.out.keep (by repeat (first | exact Below.refl _ _ | assumption | refine below_allocS ?_ _ | refine below_callS ?_ (by assumption) | (refine Below.alloc ?_ (by first | omega | (simp; done) | (simp; omega)) _) | (refine Below.setCell ?_ (by first | omega | (simp; done) | (simp; omega)) _) | refine Below.drew ?_ | refine below_drewN ?_ _ | (refine below_call ?_ (by assumption) (by first | omega | (simp; done) | (simp; omega))) | (refine Below.trans ?_ (by assumption))))).dw hd (by omega))
    replace O := Lib.hid (O.out.dw hd (by omega))
    replace HD := Lib.hid ((HD.out.below (by repeat (first | exact Below.refl _ _ | assumption | refine below_allocS ?_ _ | refine below_callS ?_ (by assumption) | (refine Below.alloc ?_ (by first | omega | (simp; done) | (simp; omega)) _) | (refine Below.setCell ?_ (by first | omega | (simp; done) | (simp; omega)) _) | refine Below.drew ?_ | refine below_drewN ?_ _ | (refine below_call ?_ (by assumption) (by first | omega | (simp; done) | (simp; omega))) | (refine Below.trans ?_ (by assumption))))).trans hd)
    clear hd h51
    by_cases q1 : 0 < r5
    · have hB0 : ¬ B = 0 := by omega
      have i1 : IntKind.i64.wrap (at' + 1) = at' + 1 := IntWalk.i64_in _ (by omega)
      go_wp2_with fail
      refine wp_region_noPanic ?_
      refine wp_region_held_drew (S := fun _ => True) (by kernel_rfl) trivial (fun hHeld => ?_)
      refine wpAnyH_take (i := 0) (v := ?_) (by simp only [List.getElem?_toArray, List.getElem?_cons_succ, List.getElem?_cons_zero] <;> rfl) (by kernel_rfl) (by kernel_rfl) (by kernel_rfl) (fun _ _ _ h => h) (Or.inl ⟨by rfl, ?_⟩) (by assumption) ?_
      rotate_left
      · (intro wq hSw; (try dsimp only at hSw); go_simp; try with_reducible rfl)
      try simp only [Act.put, List.setIfInBounds_toArray, List.set_cons_zero, List.set_cons_succ]
      refine wpAnyH_take (i := 1) (v := ?_) (by simp only [List.getElem?_toArray, List.getElem?_cons_succ, List.getElem?_cons_zero] <;> rfl) (by kernel_rfl) (by kernel_rfl) (by kernel_rfl) (fun _ _ _ h => h) (Or.inl ⟨by rfl, ?_⟩) (by assumption) ?_
      rotate_left
      · (intro wq hSw; (try dsimp only at hSw); go_simp; try with_reducible rfl)
      try simp only [Act.put, List.setIfInBounds_toArray, List.set_cons_zero, List.set_cons_succ]
      refine wpAnyH_take (i := 2) (v := ?_) (by simp only [List.getElem?_toArray, List.getElem?_cons_succ, List.getElem?_cons_zero] <;> rfl) (by kernel_rfl) (by kernel_rfl) (by kernel_rfl) (fun _ _ _ h => h) (Or.inl ⟨by rfl, ?_⟩) (by assumption) ?_
      rotate_left
      · (intro wq hSw; (try dsimp only at hSw); go_simp; try with_reducible rfl)
      try simp only [Act.put, List.setIfInBounds_toArray, List.set_cons_zero, List.set_cons_succ]
      try simp only [i1]
      refine wpAnyH_take (i := 3) (v := ?_) (by simp only [List.getElem?_toArray, List.getElem?_cons_succ, List.getElem?_cons_zero] <;> rfl) (by kernel_rfl) (by kernel_rfl) (by kernel_rfl) (fun _ _ _ h => h) (Or.inl ⟨by rfl, ?_⟩) (by assumption) ?_
      rotate_left
      · (intro wq hSw; (try dsimp only at hSw); go_simp; try with_reducible rfl)
      try simp only [Act.put, List.setIfInBounds_toArray, List.set_cons_zero, List.set_cons_succ]
      refine wpAnyH_take (i := 6) (v := ?_) (by simp only [List.getElem?_toArray, List.getElem?_cons_succ, List.getElem?_cons_zero] <;> rfl) (by kernel_rfl) (by kernel_rfl) (by kernel_rfl) (fun _ _ _ h => h) (Or.inl ⟨by rfl, ?_⟩) (by assumption) ?_
      rotate_left
      · (intro wq hSw; (try dsimp only at hSw); go_simp; try with_reducible rfl)
      try simp only [Act.put, List.setIfInBounds_toArray, List.set_cons_zero, List.set_cons_succ]
      refine wpAnyH_take (i := 9) (v := ?_) (by simp only [List.getElem?_toArray, List.getElem?_cons_succ, List.getElem?_cons_zero] <;> rfl) (by kernel_rfl) (by kernel_rfl) (by kernel_rfl) (fun _ _ _ h => h) (Or.inl ⟨by rfl, ?_⟩) (by assumption) ?_
      rotate_left
      · (intro wq hSw; (try dsimp only at hSw); go_simp; try with_reducible rfl)
      try simp only [Act.put, List.setIfInBounds_toArray, List.set_cons_zero, List.set_cons_succ]
      refine wpAnyH_ready (rs := [4]) (by kernel_rfl) (by simp) ?_
      refine AllReadyH.cons rfl (fun K hK => ?_) AllReadyH.nil
      go_simp
      refine Calls.mono (dw_next (b := b) (lo := lo) (by repeat (first | exact HD.out.src | with_reducible refine Src.alloc ?_ _ | with_reducible refine Src.drew ?_ | with_reducible refine Src.drewN ?_ _)) (by decide)) ?_
      rintro e w6 ⟨r6, rfl, h60, h61, hd⟩
      have hr6 : r6 < 2 := by omega
      have hs6 := hd.size
      (try simp at hs6)
      replace R := Lib.hid ((R.out.keep (by repeat (first | exact Below.refl _ _ | assumption | refine below_allocS ?_ _ | refine below_callS ?_ (by assumption) | (refine Below.alloc ?_ (by first | omega | (simp; done) | (simp; omega)) _) | (refine Below.setCell ?_ (by first | omega | (simp; done) | (simp; omega)) _) | refine Below.drew ?_ | refine below_drewN ?_ _ | (refine below_call ?_ (by assumption) (by first | omega | (simp; done) | (simp; omega))) | (refine Below.trans ?_ (by assumption))))).dw hd (by omega))
      replace O := Lib.hid ((O.out.keep (by repeat (first | exact Below.refl _ _ | assumption | refine below_allocS ?_ _ | refine below_callS ?_ (by assumption) | (refine Below.alloc ?_ (by first | omega | (simp; done) | (simp; omega)) _) | (refine Below.setCell ?_ (by first | omega | (simp; done) | (simp; omega)) _) | refine Below.drew ?_ | refine below_drewN ?_ _ | (refine below_call ?_ (by assumption) (by first | omega | (simp; done) | (simp; omega))) | (refine Below.trans ?_ (by assumption))))).dw hd (by omega))
      replace HD := Lib.hid ((HD.out.below (by repeat (first | exact Below.refl _ _ | assumption | refine below_allocS ?_ _ | refine below_callS ?_ (by assumption) | (refine Below.alloc ?_ (by first | omega | (simp; done) | (simp; omega)) _) | (refine Below.setCell ?_ (by first | omega | (simp; done) | (simp; omega)) _) | refine Below.drew ?_ | refine below_drewN ?_ _ | (refine below_call ?_ (by assumption) (by first | omega | (simp; done) | (simp; omega))) | (refine Below.trans ?_ (by assumption))))).trans hd)
      clear hd h61
      go_wp2_with fail
      refine hK.out _ _ trivial (fun hHeld => ?_)
      clear hK K
      try simp only [Act.put, List.setIfInBounds_toArray, List.set_cons_zero, List.set_cons_succ]
      have i2 : IntKind.i64.wrap (at' + 1 + r6) = at' + 1 + r6 := IntWalk.i64_in _ (by omega)
      have m0 : 0 ≤ (at' + 1 + r6) % B := Int.emod_nonneg _ (by omega)
      have m1 : (at' + 1 + r6) % B < B := Int.emod_lt_of_pos _ (by omega)
      refine wpAnyH_take (i := 5) (v := ?_) (by simp only [List.getElem?_toArray, List.getElem?_cons_succ, List.getElem?_cons_zero] <;> rfl) (by kernel_rfl) (by kernel_rfl) (by kernel_rfl) (fun _ _ _ h => h) (Or.inl ⟨by rfl, ?_⟩) (by assumption) ?_
      rotate_left
      · (intro wq hSw; (try dsimp only at hSw); go_simp; try with_reducible rfl)
      try simp only [Act.put, List.setIfInBounds_toArray, List.set_cons_zero, List.set_cons_succ]
      try simp only [i2]
      refine wpAnyH_take (i := 7) (v := ?_) (by simp only [List.getElem?_toArray, List.getElem?_cons_succ, List.getElem?_cons_zero] <;> rfl) (by kernel_rfl) (by kernel_rfl) (by kernel_rfl) (fun _ _ _ h => h) (Or.inl ⟨by rfl, ?_⟩) (by assumption) ?_
      rotate_left
      · (intro wq hSw; (try dsimp only at hSw); go_simp; try with_reducible rfl)
      try simp only [Act.put, List.setIfInBounds_toArray, List.set_cons_zero, List.set_cons_succ]
      refine wpAnyH_take (i := 8) (v := ?_) (by simp only [List.getElem?_toArray, List.getElem?_cons_succ, List.getElem?_cons_zero] <;> rfl) (by kernel_rfl) (by kernel_rfl) (by kernel_rfl) (fun _ _ _ h => h) (Or.inl ⟨by rfl, ?_⟩) (by assumption) ?_
      rotate_left
      · (intro wq hSw; (try dsimp only at hSw); go_simp; try with_reducible rfl)
      try simp only [Act.put, List.setIfInBounds_toArray, List.set_cons_zero, List.set_cons_succ]
      refine wpAnyH_ready (rs := [10]) (by kernel_rfl) (by simp) ?_
      refine AllReadyH.cons rfl (fun K hK => ?_) AllReadyH.nil
      go_simp
      refine Calls.mono (dw_next (b := b) (lo := lo) (by repeat (first | exact HD.out.src | with_reducible refine Src.alloc ?_ _ | with_reducible refine Src.drew ?_ | with_reducible refine Src.drewN ?_ _)) (by decide)) ?_
      rintro e w7 ⟨r7, rfl, h70, h71, hd⟩
      have hr7 : r7 < 2 := by omega
      have hs7 := hd.size
      (try simp at hs7)
      replace R := Lib.hid ((R.out.keep (by repeat (first | exact Below.refl _ _ | assumption | refine below_allocS ?_ _ | refine below_callS ?_ (by assumption) | (refine Below.alloc ?_ (by first | omega | (simp; done) | (simp; omega)) _) | (refine Below.setCell ?_ (by first | omega | (simp; done) | (simp; omega)) _) | refine Below.drew ?_ | refine below_drewN ?_ _ | (refine below_call ?_ (by assumption) (by first | omega | (simp; done) | (simp; omega))) | (refine Below.trans ?_ (by assumption))))).dw hd (by omega))
      replace O := Lib.hid ((O.out.keep (by repeat (first | exact Below.refl _ _ | assumption | refine below_allocS ?_ _ | refine below_callS ?_ (by assumption) | (refine Below.alloc ?_ (by first | omega | (simp; done) | (simp; omega)) _) | (refine Below.setCell ?_ (by first | omega | (simp; done) | (simp; omega)) _) | refine Below.drew ?_ | refine below_drewN ?_ _ | (refine below_call ?_ (by assumption) (by first | omega | (simp; done) | (simp; omega))) | (refine Below.trans ?_ (by assumption))))).dw hd (by omega))
      replace HD := Lib.hid ((HD.out.below (by repeat (first | exact Below.refl _ _ | assumption | refine below_allocS ?_ _ | refine below_callS ?_ (by assumption) | (refine Below.alloc ?_ (by first | omega | (simp; done) | (simp; omega)) _) | (refine Below.setCell ?_ (by first | omega | (simp; done) | (simp; omega)) _) | refine Below.drew ?_ | refine below_drewN ?_ _ | (refine below_call ?_ (by assumption) (by first | omega | (simp; done) | (simp; omega))) | (refine Below.trans ?_ (by assumption))))).trans hd)
      clear hd h71
      go_wp2_with fail
      refine hK.out _ _ trivial (fun hHeld => ?_)
      clear hK K
      try simp only [Act.put, List.setIfInBounds_toArray, List.set_cons_zero, List.set_cons_succ]
      have ht : (at' + 1 + r6).tmod B = (at' + 1 + r6) % B := Int.tmod_eq_emod_of_nonneg (by omega)
      obtain ⟨q, hq⟩ : ∃ q, (at' + 1 + r6) % B = q := ⟨_, rfl⟩
      rw [hq] at m0 m1 ht
      try simp only [ht]
      have i3 : IntKind.i64.wrap (3 * q) = 3 * q := IntWalk.i64_in _ (by omega)
      have i4 : IntKind.i64.wrap (3 * q + r7) = 3 * q + r7 := IntWalk.i64_in _ (by omega)
      clear hq ht
      try simp only [i3]
      refine wpAnyH_take (i := 11) (v := ?_) (by simp only [List.getElem?_toArray, List.getElem?_cons_succ, List.getElem?_cons_zero] <;> rfl) (by kernel_rfl) (by kernel_rfl) (by kernel_rfl) (fun _ _ _ h => h) (Or.inl ⟨by rfl, ?_⟩) (by assumption) ?_
      rotate_left
      · (intro wq hSw; (try dsimp only at hSw); go_simp; try with_reducible rfl)
      try simp only [Act.put, List.setIfInBounds_toArray, List.set_cons_zero, List.set_cons_succ]
      try simp only [i4]
      refine wpAnyH_ready (rs := [12]) (by kernel_rfl) (by simp) ?_
      refine AllReadyH.cons rfl (fun K hK => ?_) AllReadyH.nil
      go_simp
      refine hK.out _ _ trivial (fun hHeld => ?_)
      clear hK K
      try simp only [Act.put, List.setIfInBounds_toArray, List.set_cons_zero, List.set_cons_succ]
      refine wpAnyH_ready (rs := [13]) (by kernel_rfl) (by simp) ?_
      refine AllReadyH.cons rfl (fun K hK => ?_) AllReadyH.nil
      refine wp_appAtL (k := 1) (m := 1) (enc := enc1) (ok := I64) _ _ rfl Tryz.underlying22 Tryz.infoi64 rfl (by decide) (by decide) (fun y u hu => by simp [enc1] at hu; subst hu; rfl) w4.heap.size (some ⟨w4.heap.size, 0, none⟩) 1 1 [3 * at' + r4] [3 * q + r7] (O.out.keep (by repeat (first | exact Below.refl _ _ | assumption | refine below_allocS ?_ _ | refine below_callS ?_ (by assumption) | (refine Below.alloc ?_ (by first | omega | (simp; done) | (simp; omega)) _) | (refine Below.setCell ?_ (by first | omega | (simp; done) | (simp; omega)) _) | refine Below.drew ?_ | refine below_drewN ?_ _ | (refine below_call ?_ (by assumption) (by first | omega | (simp; done) | (simp; omega))) | (refine Below.trans ?_ (by assumption))))) rfl _ rfl (Blk.made _ _ _) rfl rfl (fun x hx => by simp at hx; subst hx; unfold I64; omega) (by decide) (by omega) (by decide) (by (try simp); omega) ?_
      intro g' c' w8 h1 h2 h3
      replace R := Lib.hid ((R.out.keep (by repeat (first | exact Below.refl _ _ | assumption | refine below_allocS ?_ _ | refine below_callS ?_ (by assumption) | (refine Below.alloc ?_ (by first | omega | (simp; done) | (simp; omega)) _) | (refine Below.setCell ?_ (by first | omega | (simp; done) | (simp; omega)) _) | refine Below.drew ?_ | refine below_drewN ?_ _ | (refine below_call ?_ (by assumption) (by first | omega | (simp; done) | (simp; omega))) | (refine Below.trans ?_ (by assumption))))).keepB h2 (by omega))
      replace HD := Lib.hid ((HD.out.alloc (.cells #[.int .i64 (3 * q + r7)] 2)).own h2 (by omega))
      have O1 := Lib.hid h1
      have hs8 := h2.size
      (try simp at hs8)
      clear h1 h2 h3 O
      refine hK.out _ _ trivial (fun hHeld => ?_)
      clear hK K
      try simp only [Act.put, List.setIfInBounds_toArray, List.set_cons_zero, List.set_cons_succ]
      refine wpAnyH_take (i := 14) (v := ?_) (by simp only [List.getElem?_toArray, List.getElem?_cons_succ, List.getElem?_cons_zero] <;> rfl) (by kernel_rfl) (by kernel_rfl) (by kernel_rfl) (fun _ _ _ h => h) (Or.inl ⟨by rfl, ?_⟩) (by assumption) ?_
      rotate_left
      · (intro wq hSw; (try dsimp only at hSw); go_simp; try with_reducible rfl)
      try simp only [Act.put, List.setIfInBounds_toArray, List.set_cons_zero, List.set_cons_succ]
      refine wpAnyH_done (by kernel_rfl) ?_ _
      refine NoPanic.normal ?_
      go_wp2_with fail
      refine Calls.mono (dw_pick4 (b := b) (lo := lo) (by repeat (first | exact HD.out.src | with_reducible refine Src.alloc ?_ _ | with_reducible refine Src.drew ?_ | with_reducible refine Src.drewN ?_ _)) (by first | rfl | (simp; done)) (by first | assumption | decide | (unfold I64; omega)) (by first | assumption | decide | (unfold I64; omega)) (by first | assumption | decide | (unfold I64; omega)) (by first | assumption | decide | (unfold I64; omega))) ?_
      rintro e wp ⟨bu, rfl, hm, hi, hd⟩
      have hm1 : -1 ≤ bu := by omega
      have hm2 : bu ≤ 3 := by omega
      clear hm
      have hsp := hd.size
      (try simp at hsp)
      replace R := Lib.hid ((R.out.keep (by repeat (first | exact Below.refl _ _ | assumption | refine below_allocS ?_ _ | refine below_callS ?_ (by assumption) | (refine Below.alloc ?_ (by first | omega | (simp; done) | (simp; omega)) _) | (refine Below.setCell ?_ (by first | omega | (simp; done) | (simp; omega)) _) | refine Below.drew ?_ | refine below_drewN ?_ _ | (refine below_call ?_ (by assumption) (by first | omega | (simp; done) | (simp; omega))) | (refine Below.trans ?_ (by assumption))))).dw hd (by omega))
      replace O1 := Lib.hid ((O1.out.keep (by repeat (first | exact Below.refl _ _ | assumption | refine below_allocS ?_ _ | refine below_callS ?_ (by assumption) | (refine Below.alloc ?_ (by first | omega | (simp; done) | (simp; omega)) _) | (refine Below.setCell ?_ (by first | omega | (simp; done) | (simp; omega)) _) | refine Below.drew ?_ | refine below_drewN ?_ _ | (refine below_call ?_ (by assumption) (by first | omega | (simp; done) | (simp; omega))) | (refine Below.trans ?_ (by assumption))))).dw hd (by omega))
      replace HD := Lib.hid ((HD.out.below (by repeat (first | exact Below.refl _ _ | assumption | refine below_allocS ?_ _ | refine below_callS ?_ (by assumption) | (refine Below.alloc ?_ (by first | omega | (simp; done) | (simp; omega)) _) | (refine Below.setCell ?_ (by first | omega | (simp; done) | (simp; omega)) _) | refine Below.drew ?_ | refine below_drewN ?_ _ | (refine below_call ?_ (by assumption) (by first | omega | (simp; done) | (simp; omega))) | (refine Below.trans ?_ (by assumption))))).trans hd)
      clear hd
      go_wp2_with fail
      refine Calls.mono (dw_next (b := b) (lo := lo) (by repeat (first | exact HD.out.src | with_reducible refine Src.alloc ?_ _ | with_reducible refine Src.drew ?_ | with_reducible refine Src.drewN ?_ _)) (by decide)) ?_
      rintro e wn ⟨r9, rfl, h90, h91, hd⟩
      have hsn := hd.size
      (try simp at hsn)
      replace R := Lib.hid ((R.out.keep (by repeat (first | exact Below.refl _ _ | assumption | refine below_allocS ?_ _ | refine below_callS ?_ (by assumption) | (refine Below.alloc ?_ (by first | omega | (simp; done) | (simp; omega)) _) | (refine Below.setCell ?_ (by first | omega | (simp; done) | (simp; omega)) _) | refine Below.drew ?_ | refine below_drewN ?_ _ | (refine below_call ?_ (by assumption) (by first | omega | (simp; done) | (simp; omega))) | (refine Below.trans ?_ (by assumption))))).dw hd (by omega))
      replace O1 := Lib.hid ((O1.out.keep (by repeat (first | exact Below.refl _ _ | assumption | refine below_allocS ?_ _ | refine below_callS ?_ (by assumption) | (refine Below.alloc ?_ (by first | omega | (simp; done) | (simp; omega)) _) | (refine Below.setCell ?_ (by first | omega | (simp; done) | (simp; omega)) _) | refine Below.drew ?_ | refine below_drewN ?_ _ | (refine below_call ?_ (by assumption) (by first | omega | (simp; done) | (simp; omega))) | (refine Below.trans ?_ (by assumption))))).dw hd (by omega))
      replace HD := Lib.hid ((HD.out.below (by repeat (first | exact Below.refl _ _ | assumption | refine below_allocS ?_ _ | refine below_callS ?_ (by assumption) | (refine Below.alloc ?_ (by first | omega | (simp; done) | (simp; omega)) _) | (refine Below.setCell ?_ (by first | omega | (simp; done) | (simp; omega)) _) | refine Below.drew ?_ | refine below_drewN ?_ _ | (refine below_call ?_ (by assumption) (by first | omega | (simp; done) | (simp; omega))) | (refine Below.trans ?_ (by assumption))))).trans hd)
      clear hd
      have r0 := R.out.cell 0
      have r1' := R.out.cell 1
      have rf := R.out.free
      have rl := R.out.lt
      simp at r0 r1'
      cases q9 : (r9 == 0)
      all_goals
        go_wp2
        refine bodyPost_ret (v := .tuple #[.agg #[.int .i64 B, .slice (some ⟨g', 0, none⟩) (1 + 1) c'], .int .i64 bu, .bool _]) (by simp [results, Tryz.results50, go_sem, *] <;> rfl) rfl ⟨_, _, _, _, [3 * at' + r4] ++ [3 * q + r7], _, _, rfl, ?_, by omega, by omega, by omega, hm1, hm2, (HD.out.set (Nat.le_refl _) _ _).set (Nat.le_refl _) _ _⟩
        exact (O1.out.i1.only (((Only.refl w.heap.size (w.heap.size + 1) _).set ⟨Nat.le_refl _, Nat.lt_succ_self _⟩ 0 _).set ⟨Nat.le_refl _, Nat.lt_succ_self _⟩ 1 _) (fun g hg => .inr (by have := (O1.out.blk g hg).1; omega))).le (by omega)
    · go_wp2_with fail
      refine Calls.mono (dw_pick4 (b := b) (lo := lo) (by repeat (first | exact HD.out.src | with_reducible refine Src.alloc ?_ _ | with_reducible refine Src.drew ?_ | with_reducible refine Src.drewN ?_ _)) (by first | rfl | (simp; done)) (by first | assumption | decide | (unfold I64; omega)) (by first | assumption | decide | (unfold I64; omega)) (by first | assumption | decide | (unfold I64; omega)) (by first | assumption | decide | (unfold I64; omega))) ?_
      rintro e wp ⟨bu, rfl, hm, hi, hd⟩
      have hm1 : -1 ≤ bu := by omega
      have hm2 : bu ≤ 3 := by omega
      clear hm
      have hsp := hd.size
      (try simp at hsp)
      replace R := Lib.hid ((R.out.keep (by repeat (first | exact Below.refl _ _ | assumption | refine below_allocS ?_ _ | refine below_callS ?_ (by assumption) | (refine Below.alloc ?_ (by first | omega | (simp; done) | (simp; omega)) _) | (refine Below.setCell ?_ (by first | omega | (simp; done) | (simp; omega)) _) | refine Below.drew ?_ | refine below_drewN ?_ _ | (refine below_call ?_ (by assumption) (by first | omega | (simp; done) | (simp; omega))) | (refine Below.trans ?_ (by assumption))))).dw hd (by omega))
      replace O := Lib.hid ((O.out.keep (by repeat (first | exact Below.refl _ _ | assumption | refine below_allocS ?_ _ | refine below_callS ?_ (by assumption) | (refine Below.alloc ?_ (by first | omega | (simp; done) | (simp; omega)) _) | (refine Below.setCell ?_ (by first | omega | (simp; done) | (simp; omega)) _) | refine Below.drew ?_ | refine below_drewN ?_ _ | (refine below_call ?_ (by assumption) (by first | omega | (simp; done) | (simp; omega))) | (refine Below.trans ?_ (by assumption))))).dw hd (by omega))
      replace HD := Lib.hid ((HD.out.below (by repeat (first | exact Below.refl _ _ | assumption | refine below_allocS ?_ _ | refine below_callS ?_ (by assumption) | (refine Below.alloc ?_ (by first | omega | (simp; done) | (simp; omega)) _) | (refine Below.setCell ?_ (by first | omega | (simp; done) | (simp; omega)) _) | refine Below.drew ?_ | refine below_drewN ?_ _ | (refine below_call ?_ (by assumption) (by first | omega | (simp; done) | (simp; omega))) | (refine Below.trans ?_ (by assumption))))).trans hd)
      clear hd
      go_wp2_with fail
      refine Calls.mono (dw_next (b := b) (lo := lo) (by repeat (first | exact HD.out.src | with_reducible refine Src.alloc ?_ _ | with_reducible refine Src.drew ?_ | with_reducible refine Src.drewN ?_ _)) (by decide)) ?_
      rintro e wn ⟨r9, rfl, h90, h91, hd⟩
      have hsn := hd.size
      (try simp at hsn)
      replace R := Lib.hid ((R.out.keep (by repeat (first | exact Below.refl _ _ | assumption | refine below_allocS ?_ _ | refine below_callS ?_ (by assumption) | (refine Below.alloc ?_ (by first | omega | (simp; done) | (simp; omega)) _) | (refine Below.setCell ?_ (by first | omega | (simp; done) | (simp; omega)) _) | refine Below.drew ?_ | refine below_drewN ?_ _ | (refine below_call ?_ (by assumption) (by first | omega | (simp; done) | (simp; omega))) | (refine Below.trans ?_ (by assumption))))).dw hd (by omega))
      replace O := Lib.hid ((O.out.keep (by repeat (first | exact Below.refl _ _ | assumption | refine below_allocS ?_ _ | refine below_callS ?_ (by assumption) | (refine Below.alloc ?_ (by first | omega | (simp; done) | (simp; omega)) _) | (refine Below.setCell ?_ (by first | omega | (simp; done) | (simp; omega)) _) | refine Below.drew ?_ | refine below_drewN ?_ _ | (refine below_call ?_ (by assumption) (by first | omega | (simp; done) | (simp; omega))) | (refine Below.trans ?_ (by assumption))))).dw hd (by omega))
      replace HD := Lib.hid ((HD.out.below (by repeat (first | exact Below.refl _ _ | assumption | refine below_allocS ?_ _ | refine below_callS ?_ (by assumption) | (refine Below.alloc ?_ (by first | omega | (simp; done) | (simp; omega)) _) | (refine Below.setCell ?_ (by first | omega | (simp; done) | (simp; omega)) _) | refine Below.drew ?_ | refine below_drewN ?_ _ | (refine below_call ?_ (by assumption) (by first | omega | (simp; done) | (simp; omega))) | (refine Below.trans ?_ (by assumption))))).trans hd)
      clear hd
      have r0 := R.out.cell 0
      have r1' := R.out.cell 1
      have rf := R.out.free
      have rl := R.out.lt
      simp at r0 r1'
      cases q9 : (r9 == 0)
      all_goals
        go_wp2
        refine bodyPost_ret (v := .tuple #[.agg #[.int .i64 B, .slice (some ⟨w4.heap.size, 0, none⟩) 1 1], .int .i64 bu, .bool _]) (by simp [results, Tryz.results50, go_sem, *] <;> rfl) rfl ⟨_, _, _, _, [3 * at' + r4], _, _, rfl, ?_, by omega, by omega, by omega, hm1, hm2, (HD.out.set (Nat.le_refl _) _ _).set (Nat.le_refl _) _ _⟩
        exact (O.out.i1.only (((Only.refl w.heap.size (w.heap.size + 1) _).set ⟨Nat.le_refl _, Nat.lt_succ_self _⟩ 0 _).set ⟨Nat.le_refl _, Nat.lt_succ_self _⟩ 1 _) (fun g hg => .inr (by have := (O.out.blk g hg).1; omega))).le (by omega)
/-- a traffic, a budget and a flag that a draw has made -/
def RideDraw (w : World) (e : Ending) (w' : World) : Prop := ∃ B a n c l bud sec, e = .returned (.tuple #[.agg #[.int .i64 B, .slice a n c], .int .i64 bud, .bool sec]) ∧ Ints w' a n c l ∧ n ≤ 5 ∧ 1 ≤ B ∧ B ≤ 9 ∧ -1 ≤ bud ∧ bud ≤ 3 ∧ Below w.heap.size w w'
theorem OwnI.skip {E : TypeId} {w : World} {base g : Nat} {a : Option Addr} {n c : Nat} {l : List Int} (h : OwnI E w base a n c l) (hg : g < base) (v0 v1 : Value) : Ints ((w.setCell ⟨g, 0, none⟩ v0).setCell ⟨g, 1, none⟩ v1) a n c l :=
  (h.only (((Only.refl g (g + 1) _).set ⟨Nat.le_refl _, Nat.lt_succ_self _⟩ 0 _).set ⟨Nat.le_refl _, Nat.lt_succ_self _⟩ 1 _) (fun q hq => .inr (by have := (h.blk q hq).1; omega))).ints
set_option maxHeartbeats 1000000 in
theorem spec_DrawIsRideSafe {a : Option Addr} {n c : Nat} {w : World} (hB : Byts w a n c) (hn : n ≤ 4096) :
    Calls Tryz.prog 17 #[.slice a n c] w (RideDraw w) := by
  have HB := Lib.hid hB
  clear hB
  go_enter Tryz.func17, Tryz.ntmps17
  go_wp2_with fail
  refine Calls.mono (dw_l01From HB.out (show Below w.heap.size w (w.alloc (.cells #[.int .i64 0, .slice none 0 0] 28)) by repeat (first | exact Below.refl _ _ | assumption | refine below_allocS ?_ _ | refine below_callS ?_ (by assumption) | (refine Below.alloc ?_ (by first | omega | (simp; done) | (simp; omega)) _) | (refine Below.setCell ?_ (by first | omega | (simp; done) | (simp; omega)) _) | refine Below.drew ?_ | refine below_drewN ?_ _ | (refine below_call ?_ (by assumption) (by first | omega | (simp; done) | (simp; omega))) | (refine Below.trans ?_ (by assumption)))) hn) ?_
  rintro e w1 ⟨b, rfl, hb1, hlo, hd⟩
  simp at hlo
  have R := Lib.hid ((Blk.made w #[.int .i64 0, .slice none 0 0] 28).keep hb1)
  have hbl : Below w.heap.size w w1 := below_callS (show Below w.heap.size w (w.alloc (.cells #[.int .i64 0, .slice none 0 0] 28)) by repeat (first | exact Below.refl _ _ | assumption | refine below_allocS ?_ _ | refine below_callS ?_ (by assumption) | (refine Below.alloc ?_ (by first | omega | (simp; done) | (simp; omega)) _) | (refine Below.setCell ?_ (by first | omega | (simp; done) | (simp; omega)) _) | refine Below.drew ?_ | refine below_drewN ?_ _ | (refine below_call ?_ (by assumption) (by first | omega | (simp; done) | (simp; omega))) | (refine Below.trans ?_ (by assumption)))) hb1
  have hbw := hd.lt
  have hs1 := hb1.size
  simp at hs1
  have HD := Lib.hid hd
  clear hd hb1
  go_wp2_with fail
  refine Calls.mono (spec_l24Draw HD.out) ?_
  rintro e w2 ⟨B, a1, n1, c1, l1, bu, sec, rfl, ho, hn1, hB1, hB9, hm1, hm2, hd⟩
  have O := Lib.hid ho
  have hs2 := hd.size
  replace R := Lib.hid (R.out.dw hd (by omega))
  replace HD := Lib.hid (HD.out.trans hd)
  have hfin := HD.out.fin hbl (by omega)
  clear ho hd
  have r0 := R.out.cell 0
  have r1' := R.out.cell 1
  have rf := R.out.free
  have rl := R.out.lt
  simp at r0 r1'
  go_wp2
  refine bodyPost_ret (v := .tuple #[.agg #[.int .i64 B, .slice a1 n1 c1], .int .i64 bu, .bool sec]) (by simp [results, Tryz.results17, go_sem, *]) rfl ⟨_, _, _, _, l1, _, _, rfl, O.out.skip (by omega) _ _, hn1, hB1, hB9, hm1, hm2, by repeat (first | exact Below.refl _ _ | assumption | refine below_allocS ?_ _ | refine below_callS ?_ (by assumption) | (refine Below.alloc ?_ (by first | omega | (simp; done) | (simp; omega)) _) | (refine Below.setCell ?_ (by first | omega | (simp; done) | (simp; omega)) _) | refine Below.drew ?_ | refine below_drewN ?_ _ | (refine below_call ?_ (by assumption) (by first | omega | (simp; done) | (simp; omega))) | (refine Below.trans ?_ (by assumption)))⟩
set_option maxHeartbeats 1000000 in
theorem spec_DrawFirstUnsafeTrace {a : Option Addr} {n c : Nat} {w : World} (hB : Byts w a n c) (hn : n ≤ 4096) :
    Calls Tryz.prog 19 #[.slice a n c] w (RideDraw w) := by
  have HB := Lib.hid hB
  clear hB
  go_enter Tryz.func19, Tryz.ntmps19
  go_wp2_with fail
  refine Calls.mono (dw_l01From HB.out (show Below w.heap.size w (w.alloc (.cells #[.int .i64 0, .slice none 0 0] 28)) by repeat (first | exact Below.refl _ _ | assumption | refine below_allocS ?_ _ | refine below_callS ?_ (by assumption) | (refine Below.alloc ?_ (by first | omega | (simp; done) | (simp; omega)) _) | (refine Below.setCell ?_ (by first | omega | (simp; done) | (simp; omega)) _) | refine Below.drew ?_ | refine below_drewN ?_ _ | (refine below_call ?_ (by assumption) (by first | omega | (simp; done) | (simp; omega))) | (refine Below.trans ?_ (by assumption)))) hn) ?_
  rintro e w1 ⟨b, rfl, hb1, hlo, hd⟩
  simp at hlo
  have R := Lib.hid ((Blk.made w #[.int .i64 0, .slice none 0 0] 28).keep hb1)
  have hbl : Below w.heap.size w w1 := below_callS (show Below w.heap.size w (w.alloc (.cells #[.int .i64 0, .slice none 0 0] 28)) by repeat (first | exact Below.refl _ _ | assumption | refine below_allocS ?_ _ | refine below_callS ?_ (by assumption) | (refine Below.alloc ?_ (by first | omega | (simp; done) | (simp; omega)) _) | (refine Below.setCell ?_ (by first | omega | (simp; done) | (simp; omega)) _) | refine Below.drew ?_ | refine below_drewN ?_ _ | (refine below_call ?_ (by assumption) (by first | omega | (simp; done) | (simp; omega))) | (refine Below.trans ?_ (by assumption)))) hb1
  have hbw := hd.lt
  have hs1 := hb1.size
  simp at hs1
  have HD := Lib.hid hd
  clear hd hb1
  go_wp2_with fail
  refine Calls.mono (spec_l24Draw HD.out) ?_
  rintro e w2 ⟨B, a1, n1, c1, l1, bu, sec, rfl, ho, hn1, hB1, hB9, hm1, hm2, hd⟩
  have O := Lib.hid ho
  have hs2 := hd.size
  replace R := Lib.hid (R.out.dw hd (by omega))
  replace HD := Lib.hid (HD.out.trans hd)
  have hfin := HD.out.fin hbl (by omega)
  clear ho hd
  have r0 := R.out.cell 0
  have r1' := R.out.cell 1
  have rf := R.out.free
  have rl := R.out.lt
  simp at r0 r1'
  go_wp2
  refine bodyPost_ret (v := .tuple #[.agg #[.int .i64 B, .slice a1 n1 c1], .int .i64 bu, .bool sec]) (by simp [results, Tryz.results19, go_sem, *]) rfl ⟨_, _, _, _, l1, _, _, rfl, O.out.skip (by omega) _ _, hn1, hB1, hB9, hm1, hm2, by repeat (first | exact Below.refl _ _ | assumption | refine below_allocS ?_ _ | refine below_callS ?_ (by assumption) | (refine Below.alloc ?_ (by first | omega | (simp; done) | (simp; omega)) _) | (refine Below.setCell ?_ (by first | omega | (simp; done) | (simp; omega)) _) | refine Below.drew ?_ | refine below_drewN ?_ _ | (refine below_call ?_ (by assumption) (by first | omega | (simp; done) | (simp; omega))) | (refine Below.trans ?_ (by assumption)))⟩
set_option maxHeartbeats 1000000 in
theorem spec_DrawRideModel {a : Option Addr} {n c : Nat} {w : World} (hB : Byts w a n c) (hn : n ≤ 4096) :
    Calls Tryz.prog 35 #[.slice a n c] w (RideDraw w) := by
  have HB := Lib.hid hB
  clear hB
  go_enter Tryz.func35, Tryz.ntmps35
  go_wp2_with fail
  refine Calls.mono (dw_l01From HB.out (show Below w.heap.size w (w.alloc (.cells #[.int .i64 0, .slice none 0 0] 28)) by repeat (first | exact Below.refl _ _ | assumption | refine below_allocS ?_ _ | refine below_callS ?_ (by assumption) | (refine Below.alloc ?_ (by first | omega | (simp; done) | (simp; omega)) _) | (refine Below.setCell ?_ (by first | omega | (simp; done) | (simp; omega)) _) | refine Below.drew ?_ | refine below_drewN ?_ _ | (refine below_call ?_ (by assumption) (by first | omega | (simp; done) | (simp; omega))) | (refine Below.trans ?_ (by assumption)))) hn) ?_
  rintro e w1 ⟨b, rfl, hb1, hlo, hd⟩
  simp at hlo
  have R := Lib.hid ((Blk.made w #[.int .i64 0, .slice none 0 0] 28).keep hb1)
  have hbl : Below w.heap.size w w1 := below_callS (show Below w.heap.size w (w.alloc (.cells #[.int .i64 0, .slice none 0 0] 28)) by repeat (first | exact Below.refl _ _ | assumption | refine below_allocS ?_ _ | refine below_callS ?_ (by assumption) | (refine Below.alloc ?_ (by first | omega | (simp; done) | (simp; omega)) _) | (refine Below.setCell ?_ (by first | omega | (simp; done) | (simp; omega)) _) | refine Below.drew ?_ | refine below_drewN ?_ _ | (refine below_call ?_ (by assumption) (by first | omega | (simp; done) | (simp; omega))) | (refine Below.trans ?_ (by assumption)))) hb1
  have hbw := hd.lt
  have hs1 := hb1.size
  simp at hs1
  have HD := Lib.hid hd
  clear hd hb1
  go_wp2_with fail
  refine Calls.mono (dw_next (b := b) (lo := w.heap.size) (by repeat (first | exact HD.out.src | with_reducible refine Src.alloc ?_ _ | with_reducible refine Src.drew ?_ | with_reducible refine Src.drewN ?_ _)) (by decide)) ?_
  rintro e w2 ⟨r1, rfl, h10, h11, hd⟩
  have hs2 := hd.size
  replace R := Lib.hid (R.out.dw hd (by omega))
  replace HD := Lib.hid (HD.out.trans hd)
  clear hd h11
  by_cases q0 : r1 = 0
  · subst q0
    go_wp2_with fail
    refine Calls.mono (spec_l10Draw HD.out) ?_
    rintro e w3 ⟨B, a1, n1, c1, l1, rfl, ho, hn1, hB1, hB9, hd⟩
    have O := Lib.hid ho
    have hs3 := hd.size
    replace R := Lib.hid (R.out.dw hd (by omega))
    replace HD := Lib.hid (HD.out.trans hd)
    clear ho hd
    go_wp2_with fail
    refine Calls.mono (dw_next (b := b) (lo := w.heap.size) (by repeat (first | exact HD.out.src | with_reducible refine Src.alloc ?_ _ | with_reducible refine Src.drew ?_ | with_reducible refine Src.drewN ?_ _)) (by decide)) ?_
    rintro e w4 ⟨bu, rfl, hm0, hm1, hd⟩
    have hm2 : bu < 3 := by omega
    have hs4 := hd.size
    replace R := Lib.hid (R.out.dw hd (by omega))
    replace O := Lib.hid (O.out.dw hd (by omega))
    replace HD := Lib.hid (HD.out.trans hd)
    clear hd hm1
    go_wp2_with fail
    refine Calls.mono (dw_next (b := b) (lo := w.heap.size) (by repeat (first | exact HD.out.src | with_reducible refine Src.alloc ?_ _ | with_reducible refine Src.drew ?_ | with_reducible refine Src.drewN ?_ _)) (by decide)) ?_
    rintro e w5 ⟨r9, rfl, h90, h91, hd⟩
    have hs5 := hd.size
    replace R := Lib.hid (R.out.dw hd (by omega))
    replace O := Lib.hid (O.out.dw hd (by omega))
    replace HD := Lib.hid (HD.out.trans hd)
    have hfin := HD.out.fin hbl (by omega)
    clear hd
    have r0 := R.out.cell 0
    have r1' := R.out.cell 1
    have rf := R.out.free
    have rl := R.out.lt
    simp at r0 r1'
    cases q9 : (r9 == 0)
    all_goals
      go_wp2
      refine bodyPost_ret (v := .tuple #[.agg #[.int .i64 B, .slice a1 n1 c1], .int .i64 bu, .bool _]) (by simp [results, Tryz.results35, go_sem, *] <;> rfl) rfl ⟨_, _, _, _, l1, _, _, rfl, O.out.skip (by omega) _ _, hn1, hB1, hB9, by omega, by omega, by repeat (first | exact Below.refl _ _ | assumption | refine below_allocS ?_ _ | refine below_callS ?_ (by assumption) | (refine Below.alloc ?_ (by first | omega | (simp; done) | (simp; omega)) _) | (refine Below.setCell ?_ (by first | omega | (simp; done) | (simp; omega)) _) | refine Below.drew ?_ | refine below_drewN ?_ _ | (refine below_call ?_ (by assumption) (by first | omega | (simp; done) | (simp; omega))) | (refine Below.trans ?_ (by assumption)))⟩
  · have q0' : (r1 == 0) = false := by simpa using q0
    clear q0
    go_wp2_with fail
    refine Calls.mono (spec_l24Draw HD.out) ?_
    rintro e w3 ⟨B, a1, n1, c1, l1, bu, sec, rfl, ho, hn1, hB1, hB9, hm1, hm2, hd⟩
    have O := Lib.hid ho
    have hs3 := hd.size
    replace R := Lib.hid (R.out.dw hd (by omega))
    replace HD := Lib.hid (HD.out.trans hd)
    have hfin := HD.out.fin hbl (by omega)
    clear ho hd
    have r0 := R.out.cell 0
    have r1' := R.out.cell 1
    have rf := R.out.free
    have rl := R.out.lt
    simp at r0 r1'
    go_wp2
    refine bodyPost_ret (v := .tuple #[.agg #[.int .i64 B, .slice a1 n1 c1], .int .i64 bu, .bool sec]) (by simp [results, Tryz.results35, go_sem, *]) rfl ⟨_, _, _, _, l1, _, _, rfl, O.out.skip (by omega) _ _, hn1, hB1, hB9, hm1, hm2, by repeat (first | exact Below.refl _ _ | assumption | refine below_allocS ?_ _ | refine below_callS ?_ (by assumption) | (refine Below.alloc ?_ (by first | omega | (simp; done) | (simp; omega)) _) | (refine Below.setCell ?_ (by first | omega | (simp; done) | (simp; omega)) _) | refine Below.drew ?_ | refine below_drewN ?_ _ | (refine below_call ?_ (by assumption) (by first | omega | (simp; done) | (simp; omega))) | (refine Below.trans ?_ (by assumption)))⟩
end Go.Proofs.YtfnamjkmkoldeaaGreatDoor
