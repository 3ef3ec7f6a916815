/- Draws of layers 10 and 24, walked. -/
import Derived.Test.YtipkncjjkkijfaaGreatDoorZ7
namespace Go.Proofs.YtipkncjjkkijfaaGreatDoor
open Go.RowKit
set_option linter.unusedVariables false
set_option linter.unusedSimpArgs false
theorem mk4 (w : World) : (Instr.makeSlice 24 (.int .i64 4) (.int .i64 4)).run Tryz.prog w = .ok (.slice (some ⟨w.heap.size, 0, none⟩) 4 4) (w.alloc (.cells #[.int .i64 0, .int .i64 0, .int .i64 0, .int .i64 0] 2)) := by kernel_rfl
theorem mk5 (w : World) : (Instr.makeSlice 24 (.int .i64 5) (.int .i64 5)).run Tryz.prog w = .ok (.slice (some ⟨w.heap.size, 0, none⟩) 5 5) (w.alloc (.cells #[.int .i64 0, .int .i64 0, .int .i64 0, .int .i64 0, .int .i64 0] 2)) := by kernel_rfl
set_option maxRecDepth 100000 in
set_option maxHeartbeats 2000000 in
theorem spec_l10Draw {b lo : Nat} {w0 w : World} (hS : Dw 65 lo b w0 w) :
    Calls Tryz.prog 33 #[.pointer (some ⟨b, 0, none⟩)] w fun e w' => ∃ B a n c l, e = .returned (.agg #[.int .i64 B, .slice a n c]) ∧ OwnI 2 w' w.heap.size a n c l ∧ n ≤ 5 ∧ 1 ≤ B ∧ B ≤ 9 ∧ Dw 65 lo b w w' := by
  have HD := Lib.hid hS.start
  have hbw := hS.src.lt.2
  clear hS
  have R := Lib.hid (Blk.made w #[.int .i64 0, .slice none 0 0] 26)
  go_enter Tryz.func33, Tryz.ntmps33
  go_wp2_with fail
  refine Calls.mono (dw_next (b := b) (lo := lo) (by repeat (first | exact HD.out.src | with_reducible refine Src.alloc ?_ _ | with_reducible refine Src.drew ?_ | with_reducible refine Src.drewN ?_ _)) (by decide)) ?_
  rintro e w1 ⟨r1, rfl, h10, h11, hd⟩
  have hr1 : r1 < 5 := by omega
  have hs1 := hd.size
  simp at hs1
  replace R := Lib.hid ((R.out.keep bel).dw hd (by omega))
  replace HD := Lib.hid ((HD.out.below bel).trans hd)
  have O := Lib.hid (OwnI.empty (E := 2) (base := w1.heap.size) w1 (Nat.le_refl _))
  clear hd h11
  obtain ⟨B, hB⟩ : ∃ B, 2 + r1 = B := ⟨_, rfl⟩
  have hB2 : 2 ≤ B := by omega
  have hB6 : B ≤ 6 := by omega
  go_wp2_with fail
  clear hB
  refine Calls.mono (dw_next (b := b) (lo := lo) (by repeat (first | exact HD.out.src | with_reducible refine Src.alloc ?_ _ | with_reducible refine Src.drew ?_ | with_reducible refine Src.drewN ?_ _)) (by first | assumption | decide | (unfold I64; omega))) ?_
  rintro e w2 ⟨r2, rfl, h20, h21, hd⟩
  have hr2 : r2 < 6 := by omega
  have hs2 := hd.size
  simp at hs2
  replace R := Lib.hid ((R.out.keep bel).dw hd (by omega))
  replace O := Lib.hid (O.out.dw hd (by omega))
  replace HD := Lib.hid ((HD.out.below bel).trans hd)
  clear hd h21
  go_wp2_with fail
  refine Calls.mono (dw_next (b := b) (lo := lo) (by repeat (first | exact HD.out.src | with_reducible refine Src.alloc ?_ _ | with_reducible refine Src.drew ?_ | with_reducible refine Src.drewN ?_ _)) (by first | assumption | decide | (unfold I64; omega))) ?_
  rintro e w3 ⟨r3, rfl, h30, h31, hd⟩
  have hr3 : r3 < 4 := by omega
  have hs3 := hd.size
  replace R := Lib.hid (R.out.dw hd (by omega))
  replace O := Lib.hid (O.out.dw hd (by omega))
  replace HD := Lib.hid (HD.out.trans hd)
  clear hd h31
  go_wp2_with fail
  go_loopw [4, 5, 6] (fun s4 s5 s6 wr => ∃ (a : Option Addr) (n c k : Nat) (at' : Int) (l : List Int), s4 = .slice a n c ∧ s5 = .int .i64 at' ∧ s6 = .int .i64 k ∧ 0 ≤ at' ∧ at' + 3 * k ≤ 30 ∧ n + k ≤ 4 ∧ 1 ≤ n + k ∧ w1.heap.size ≤ wr.heap.size ∧ Hid (OwnI 2 wr w1.heap.size a n c l) ∧ Hid (Blk wr w.heap.size #[.int .i64 0, .slice none 0 0] 26) ∧ Hid (Dw 65 lo b w wr)) (fun _ _ s6 _ => (intOf s6).toNat)
  case atStart => exact ⟨_, 0, 0, (1 + r3).toNat, r2, [], rfl, rfl, by rw [show (((1 + r3).toNat : Nat) : Int) = 1 + r3 from by omega], by omega, by omega, by omega, by omega, by omega, O, R, HD⟩
  case round =>
    clear O R HD
    obtain ⟨a, n, c, k, at', l, rfl, rfl, rfl, ha0, ha1, hk1, hk2, hsr, O, R, HD⟩ := hrel
    have hbr := HD.out.size
    by_cases hk : 0 < k
    · have hk' : (0 : Int) < (k : Int) := by omega
      have hB0 : ¬ B = 0 := by omega
      have hm0 : 0 ≤ at' % B := Int.emod_nonneg _ (by omega)
      have hm1 : at' % B < B := Int.emod_lt_of_pos _ (by omega)
      go_wp2_with fail
      refine Calls.mono (dw_pick4 (b := b) (lo := lo) (by repeat (first | exact HD.out.src | with_reducible refine Src.alloc ?_ _ | with_reducible refine Src.drew ?_ | with_reducible refine Src.drewN ?_ _)) (by first | rfl | (simp; done)) (by first | assumption | decide | (unfold I64; omega)) (by first | assumption | decide | (unfold I64; omega)) (by first | assumption | decide | (unfold I64; omega)) (by first | assumption | decide | (unfold I64; omega))) ?_
      rintro e w5 ⟨ph, rfl, hph, hi, hd⟩
      have hp0 : 0 ≤ ph := by omega
      have hp1 : ph ≤ 2 := by omega
      clear hph
      have hs5 := hd.size
      (try simp at hs5)
      replace R := Lib.hid ((R.out.keep bel).dw hd (by omega))
      replace O := Lib.hid ((O.out.keep bel).dw hd (by omega))
      replace HD := Lib.hid ((HD.out.below bel).trans hd)
      clear hd
      go_wp2_with (at_builtin; refine app1 (lo := lo) (b := b) (w0 := w) rfl _ _ rfl Tryz.underlying24 Tryz.infoi64 w1.heap.size _ _ _ _ (O.out.keep bel) rfl _ rfl (by first | rfl | (simp; done)) (by first | assumption | decide | (unfold I64; omega)) (by omega) (HD.out.below bel) (by omega) (by (try simp); omega) ?_; intro a' c' wn ho hb hd; have O := Lib.hid ho; have R := Lib.hid ((R.out.keep bel).keepB hb (by omega)); replace HD := Lib.hid hd; have hsn := hb.size; clear ho hb hd)
      refine Calls.mono (dw_next (b := b) (lo := lo) (by repeat (first | exact HD.out.src | with_reducible refine Src.alloc ?_ _ | with_reducible refine Src.drew ?_ | with_reducible refine Src.drewN ?_ _)) (by decide)) ?_
      rintro e w6 ⟨r4, rfl, h40, h41, hd⟩
      have hr4 : r4 < 3 := by omega
      have hs6 := hd.size
      (try simp at hs6 hsn)
      replace R := Lib.hid ((R.out.keep bel).dw hd (by omega))
      replace O := Lib.hid ((O.out.keep bel).dw hd (by omega))
      replace HD := Lib.hid ((HD.out.below bel).trans hd)
      clear hd h41
      go_wp2_with fail
      go_roundw
      case rel => exact ⟨_, _, _, k - 1, _, _, rfl, rfl, by rw [show ((k - 1 : Nat) : Int) = (k : Int) - 1 from by omega], by omega, by omega, by omega, by omega, by omega, O, R, HD⟩
      case measure => simp [intOf]; omega
    · obtain rfl : k = 0 := by omega
      go_wp2_with fail
      refine Calls.mono (dw_next (b := b) (lo := lo) (by repeat (first | exact HD.out.src | with_reducible refine Src.alloc ?_ _ | with_reducible refine Src.drew ?_ | with_reducible refine Src.drewN ?_ _)) (by decide)) ?_
      rintro e w4 ⟨r5, rfl, h50, h51, hd⟩
      have hs5 := hd.size
      (try simp at hs5)
      replace R := Lib.hid ((R.out.keep bel).dw hd (by omega))
      replace O := Lib.hid ((O.out.keep bel).dw hd (by omega))
      replace HD := Lib.hid ((HD.out.below bel).trans hd)
      clear hd
      by_cases q0 : r5 = 0
      · subst q0
        go_wp2_with fail
        refine Calls.mono (dw_pick3 (b := b) (lo := lo) (by repeat (first | exact HD.out.src | with_reducible refine Src.alloc ?_ _ | with_reducible refine Src.drew ?_ | with_reducible refine Src.drewN ?_ _)) (by first | rfl | (simp; done)) (by first | assumption | decide | (unfold I64; omega)) (by first | assumption | decide | (unfold I64; omega)) (by first | assumption | decide | (unfold I64; omega))) ?_
        rintro e w5 ⟨B', rfl, hm, hi, hd⟩
        have hB0 : 1 ≤ B' := by omega
        have hB1 : B' ≤ 9 := by omega
        clear hm
        have hs5 := hd.size
        (try simp at hs5)
        replace R := Lib.hid ((R.out.keep bel).dw hd (by omega))
        replace O := Lib.hid ((O.out.keep bel).dw hd (by omega))
        replace HD := Lib.hid ((HD.out.below bel).trans hd)
        clear hd
        have r0 := R.out.cell 0
        have r1' := R.out.cell 1
        have rf := R.out.free
        have rl := R.out.lt
        simp at r0 r1'
        go_wp2
        refine bodyPost_ret (v := .agg #[.int .i64 B', .slice a n c]) (by simp [results, Tryz.results33, go_sem, *]) rfl ⟨_, _, _, _, l, rfl, ?_, by omega, by omega, by omega, (HD.out.set (Nat.le_refl _) _ _).set (Nat.le_refl _) _ _⟩
        exact (O.out.only (((Only.refl w.heap.size (w.heap.size + 1) _).set ⟨Nat.le_refl _, Nat.lt_succ_self _⟩ 0 _).set ⟨Nat.le_refl _, Nat.lt_succ_self _⟩ 1 _) (fun g hg => .inr (by have := (O.out.blk g hg).1; omega))).le (by omega)
      · have q0' : (r5 == 0) = false := by simpa using q0
        by_cases q1 : r5 = 1
        · subst q1
          clear q0
          go_wp2_with fail
          refine Calls.mono (dw_pick3 (b := b) (lo := lo) (by repeat (first | exact HD.out.src | with_reducible refine Src.alloc ?_ _ | with_reducible refine Src.drew ?_ | with_reducible refine Src.drewN ?_ _)) (by first | rfl | (simp; done)) (by first | assumption | decide | (unfold I64; omega)) (by first | assumption | decide | (unfold I64; omega)) (by first | assumption | decide | (unfold I64; omega))) ?_
          rintro e w5 ⟨r6, rfl, hm, hi, hd⟩
          clear hm
          have hs5 := hd.size
          (try simp at hs5)
          replace R := Lib.hid ((R.out.keep bel).dw hd (by omega))
          replace O := Lib.hid ((O.out.keep bel).dw hd (by omega))
          replace HD := Lib.hid ((HD.out.below bel).trans hd)
          clear hd
          obtain ⟨g, rfl⟩ := O.out.shape (by omega)
          obtain ⟨x, hx, hxw, hcell⟩ := O.out.cell (k := 0) (by omega)
          have hfz := O.out.free 0
          have hgl := O.out.lt
          have hgl2 := hgl.2
          clear hx
          have r0 := R.out.cell 0
          have r1' := R.out.cell 1
          have rf := R.out.free
          have rl := R.out.lt
          simp at r0 r1'
          have hne : w.heap.size ≠ g := by omega
          have hne' : g ≠ w.heap.size := by omega
          go_wp2
          refine bodyPost_ret (v := .agg #[.int .i64 B, .slice (some ⟨g, 0, none⟩) n c]) (by simp [results, Tryz.results33, go_sem, *]) rfl ⟨_, _, _, _, (l.set 0 r6), rfl, ?_, by omega, by omega, by omega, ((HD.out.set (by omega) _ _).set (Nat.le_refl _) _ _).set (Nat.le_refl _) _ _⟩
          have O2 := O.out.set 0 hi
          exact (O2.only (((Only.refl w.heap.size (w.heap.size + 1) _).set ⟨Nat.le_refl _, Nat.lt_succ_self _⟩ 0 _).set ⟨Nat.le_refl _, Nat.lt_succ_self _⟩ 1 _) (fun g hg => .inr (by have := (O2.blk g hg).1; omega))).le (by omega)
        · have q1' : (r5 == 1) = false := by simpa using q1
          by_cases q2 : r5 = 2
          · subst q2
            clear q0 q1
            go_wp2_with fail
            refine Calls.mono (dw_next (b := b) (lo := lo) (by repeat (first | exact HD.out.src | with_reducible refine Src.alloc ?_ _ | with_reducible refine Src.drew ?_ | with_reducible refine Src.drewN ?_ _)) (by decide)) ?_
            rintro e w5 ⟨r6, rfl, h60, h61, hd⟩
            have hs5 := hd.size
            (try simp at hs5)
            replace R := Lib.hid ((R.out.keep bel).dw hd (by omega))
            replace O := Lib.hid ((O.out.keep bel).dw hd (by omega))
            replace HD := Lib.hid ((HD.out.below bel).trans hd)
            clear hd
            obtain rfl | rfl : r6 = 0 ∨ r6 = 1 := by omega
            · have hmk := mk4
              replace O := Lib.hid (OwnI.zeros (E := 2) (m := 4) (base := w1.heap.size) w5 (by omega) (by decide) rfl)
              replace R := Lib.hid (R.out.keep (show Below w5.heap.size w5 (w5.alloc (.cells #[.int .i64 0, .int .i64 0, .int .i64 0, .int .i64 0] 2)) from bel))
              replace HD := Lib.hid (HD.out.alloc (.cells #[.int .i64 0, .int .i64 0, .int .i64 0, .int .i64 0] 2))
              have r0 := R.out.cell 0
              have r1' := R.out.cell 1
              have rf := R.out.free
              have rl := R.out.lt
              simp at r0 r1'
              go_wp2
              refine bodyPost_ret (v := .agg #[.int .i64 B, .slice (some ⟨w5.heap.size, 0, none⟩) 4 4]) (by simp [results, Tryz.results33, go_sem, *]) rfl ⟨_, _, _, _, (List.replicate 4 0), rfl, ?_, by omega, by omega, by omega, (HD.out.set (Nat.le_refl _) _ _).set (Nat.le_refl _) _ _⟩
              exact (O.out.only (((Only.refl w.heap.size (w.heap.size + 1) _).set ⟨Nat.le_refl _, Nat.lt_succ_self _⟩ 0 _).set ⟨Nat.le_refl _, Nat.lt_succ_self _⟩ 1 _) (fun g hg => .inr (by have := (O.out.blk g hg).1; omega))).le (by omega)
            · have hmk := mk5
              replace O := Lib.hid (OwnI.zeros (E := 2) (m := 5) (base := w1.heap.size) w5 (by omega) (by decide) rfl)
              replace R := Lib.hid (R.out.keep (show Below w5.heap.size w5 (w5.alloc (.cells #[.int .i64 0, .int .i64 0, .int .i64 0, .int .i64 0, .int .i64 0] 2)) from bel))
              replace HD := Lib.hid (HD.out.alloc (.cells #[.int .i64 0, .int .i64 0, .int .i64 0, .int .i64 0, .int .i64 0] 2))
              have r0 := R.out.cell 0
              have r1' := R.out.cell 1
              have rf := R.out.free
              have rl := R.out.lt
              simp at r0 r1'
              go_wp2
              refine bodyPost_ret (v := .agg #[.int .i64 B, .slice (some ⟨w5.heap.size, 0, none⟩) 5 5]) (by simp [results, Tryz.results33, go_sem, *]) rfl ⟨_, _, _, _, (List.replicate 5 0), rfl, ?_, by omega, by omega, by omega, (HD.out.set (Nat.le_refl _) _ _).set (Nat.le_refl _) _ _⟩
              exact (O.out.only (((Only.refl w.heap.size (w.heap.size + 1) _).set ⟨Nat.le_refl _, Nat.lt_succ_self _⟩ 0 _).set ⟨Nat.le_refl _, Nat.lt_succ_self _⟩ 1 _) (fun g hg => .inr (by have := (O.out.blk g hg).1; omega))).le (by omega)
          · have q2' : (r5 == 2) = false := by simpa using q2
            by_cases q3 : r5 = 3
            · subst q3
              clear q0 q1 q2
              replace O := Lib.hid (OwnI.nil 2 w4 w1.heap.size)
              have r0 := R.out.cell 0
              have r1' := R.out.cell 1
              have rf := R.out.free
              have rl := R.out.lt
              simp at r0 r1'
              go_wp2
              refine bodyPost_ret (v := .agg #[.int .i64 B, .slice none 0 0]) (by simp [results, Tryz.results33, go_sem, *]) rfl ⟨_, _, _, _, [], rfl, ?_, by omega, by omega, by omega, (HD.out.set (Nat.le_refl _) _ _).set (Nat.le_refl _) _ _⟩
              exact (O.out.only (((Only.refl w.heap.size (w.heap.size + 1) _).set ⟨Nat.le_refl _, Nat.lt_succ_self _⟩ 0 _).set ⟨Nat.le_refl _, Nat.lt_succ_self _⟩ 1 _) (fun g hg => .inr (by have := (O.out.blk g hg).1; omega))).le (by omega)
            · have q3' : (r5 == 3) = false := by simpa using q3
              clear q0 q1 q2 q3
              have r0 := R.out.cell 0
              have r1' := R.out.cell 1
              have rf := R.out.free
              have rl := R.out.lt
              simp at r0 r1'
              go_wp2
              refine bodyPost_ret (v := .agg #[.int .i64 B, .slice a n c]) (by simp [results, Tryz.results33, go_sem, *]) rfl ⟨_, _, _, _, l, rfl, ?_, by omega, by omega, by omega, (HD.out.set (Nat.le_refl _) _ _).set (Nat.le_refl _) _ _⟩
              exact (O.out.only (((Only.refl w.heap.size (w.heap.size + 1) _).set ⟨Nat.le_refl _, Nat.lt_succ_self _⟩ 0 _).set ⟨Nat.le_refl _, Nat.lt_succ_self _⟩ 1 _) (fun g hg => .inr (by have := (O.out.blk g hg).1; omega))).le (by omega)
end Go.Proofs.YtipkncjjkkijfaaGreatDoor
