/- Draws of diagrams, walked: from the code. -/
import Derived.Test.YtkaikbaagajckaaDf
import Derived.Test.YtkaikbaagajckaaBg
namespace Go.Proofs.Ytkaikbaagajckaa
open Go.RowKit
set_option linter.unusedVariables false
set_option linter.unusedSimpArgs false
/-- a diagram that was drawn -/
def DiaDraw (w : World) (e : Ending) (w' : World) : Prop := ∃ n' da dc D rt, e = .returned (.agg #[.int .i64 n', .slice da (D : List I3).length dc, .int .i64 rt]) ∧ I64 n' ∧ D.length ≤ 200 ∧ I64 rt ∧ OwnF 3 I3.enc I3.ok 76 w' w.heap.size da D.length dc D ∧ Below w.heap.size w w'
set_option maxHeartbeats 2000000 in
theorem spec_DrawIsDiagram {a : Option Addr} {n c : Nat} {w : World} (hB : Byts w a n c) (hn : n ≤ 4096) :
    Calls Try.prog 52 #[.slice a n c] w (DiaDraw w) := by
  have HB := Lib.hid hB
  clear hB
  go_enter Try.func52, Try.ntmps52
  go_wp2_with fail
  have hb0 := below_alloc1 (Below.refl w.heap.size w) (.cells #[.int .i64 0, .slice none 0 0, .int .i64 0] 26)
  refine Calls.mono (dw_l01From HB.out hb0 hn) ?_
  rintro e w1 ⟨b, rfl, hb1, hlb, hd⟩
  simp at hlb
  have X := Lib.hid ((Blk.made w #[.int .i64 0, .slice none 0 0, .int .i64 0] 26).keep hb1)
  have hbw := below_callS hb0 hb1
  have HD := Lib.hid hd
  clear hd hb1 hb0
  go_wp2_with fail
  refine Calls.mono (dw_next (b := b) (lo := w.heap.size) (n := 6) HD.out.src (by unfold I64; omega)) ?_
  rintro e w2 ⟨m, rfl, hm0, hm1, hd⟩
  replace hm1 : m < 6 := by omega
  replace X := Lib.hid (X.out.dw hd (by omega))
  replace HD := Lib.hid (HD.out.trans hd)
  clear hd
  have hx2 := X.out.lt
  go_wp2_with fail
  refine Calls.mono (spec_l22Draw HD.out hm0 (by omega)) ?_
  rintro e w3 ⟨n', da, dc, D, rt, rfl, hi, hl, hr, hO, hd⟩
  replace X := Lib.hid (X.out.dw hd (by omega))
  replace HD := Lib.hid (HD.out.trans hd)
  have hs2 := HD.out.size
  have hs3 := hd.size
  have O := Lib.hid hO
  clear hd hO
  have x0 := X.out.cell 0
  have x1 := X.out.cell 1
  have x2 := X.out.cell 2
  have xl := X.out.lt
  have xf := X.out.free
  simp only [List.getElem?_toArray, List.getElem?_cons_succ, List.getElem?_cons_zero] at x0 x1 x2
  go_wp2
  have hne : ∀ q, da = some ⟨q, 0, none⟩ → (some w.heap.size : Option Nat) ≠ some q := fun q e e' => by
    have := (O.out.blk q e).1
    simp at e'
    omega
  have hfin := HD.out.fin hbw (by omega)
  refine bodyPost_ret (v := .agg #[.int .i64 n', .slice da D.length dc, .int .i64 rt]) (by simp [results, Try.results52, go_sem, *]) rfl ⟨n', da, dc, D, rt, rfl, hi, hl, hr, ?_, ?_⟩
  · exact (((O.out.keepG (set_grown _ _ _) hne).keepG (set_grown _ _ _) hne).keepG (set_grown _ _ _) hne).le (by omega)
  · repeat (first | exact Below.refl _ _ | assumption | refine below_allocS ?_ _ | refine below_callS ?_ (by assumption) | (refine Below.alloc ?_ (by first | omega | (simp; done) | (simp; omega)) _) | (refine Below.setCell ?_ (by first | omega | (simp; done) | (simp; omega)) _) | refine Below.drew ?_ | refine below_drewN ?_ _ | (refine below_call ?_ (by assumption) (by first | omega | (simp; done) | (simp; omega))) | (refine Below.trans ?_ (by assumption)))
set_option maxHeartbeats 2000000 in
theorem spec_DrawFirstOne {a : Option Addr} {n c : Nat} {w : World} (hB : Byts w a n c) (hn : n ≤ 4096) :
    Calls Try.prog 8 #[.slice a n c] w (DiaDraw w) := by
  have HB := Lib.hid hB
  clear hB
  go_enter Try.func8, Try.ntmps8
  go_wp2_with fail
  have hb0 := below_alloc1 (Below.refl w.heap.size w) (.cells #[.int .i64 0, .slice none 0 0, .int .i64 0] 26)
  refine Calls.mono (spec_DrawIsDiagram (HB.out.keep hb0) hn) ?_
  rintro e w1 ⟨n', da, dc, D, rt, rfl, hi, hl, hr, hO, hb1⟩
  have X := Lib.hid ((Blk.made w #[.int .i64 0, .slice none 0 0, .int .i64 0] 26).keep hb1)
  have hbw := below_callS hb0 hb1
  have O := Lib.hid hO
  clear hO hb0
  have x0 := X.out.cell 0
  have x1 := X.out.cell 1
  have x2 := X.out.cell 2
  have xl := X.out.lt
  have xf := X.out.free
  simp only [List.getElem?_toArray, List.getElem?_cons_succ, List.getElem?_cons_zero] at x0 x1 x2
  go_wp2
  have hne : ∀ q, da = some ⟨q, 0, none⟩ → (some w.heap.size : Option Nat) ≠ some q := fun q e e' => by
    have := (O.out.blk q e).1
    simp at e' this
    omega
  refine bodyPost_ret (v := .agg #[.int .i64 n', .slice da D.length dc, .int .i64 rt]) (by simp [results, Try.results8, go_sem, *]) rfl ⟨n', da, dc, D, rt, rfl, hi, hl, hr, ?_, ?_⟩
  · exact (((O.out.keepG (set_grown _ _ _) hne).keepG (set_grown _ _ _) hne).keepG (set_grown _ _ _) hne).le (by simp)
  · repeat (first | exact Below.refl _ _ | assumption | refine below_allocS ?_ _ | refine below_callS ?_ (by assumption) | (refine Below.alloc ?_ (by first | omega | (simp; done) | (simp; omega)) _) | (refine Below.setCell ?_ (by first | omega | (simp; done) | (simp; omega)) _) | refine Below.drew ?_ | refine below_drewN ?_ _ | (refine below_call ?_ (by assumption) (by first | omega | (simp; done) | (simp; omega))) | (refine Below.trans ?_ (by assumption)))
set_option maxHeartbeats 1000000 in
theorem spec_l22DrawInputs {b lo : Nat} {w0 w : World} (hD : Dw 136 lo b w0 w) :
    Calls Try.prog 57 #[.pointer (some ⟨b, 0, none⟩)] w fun e w' => ∃ r, e = .returned (.int .i64 r) ∧ -1 ≤ r ∧ r ≤ 21 ∧ Dw 136 lo b w w' := by
  have HD := Lib.hid hD.start
  clear hD
  go_enter Try.func57, Try.ntmps57
  go_wp2_with fail
  refine Calls.mono (dw_next (b := b) (lo := lo) (n := 8) HD.out.src (by unfold I64; omega)) ?_
  rintro e w1 ⟨m, rfl, hm0, hm1, hd⟩
  replace hm1 : m < 8 := by omega
  replace HD := Lib.hid (HD.out.trans hd)
  clear hd
  by_cases h : m = 0
  · subst h
    go_wp2_with fail
    refine Calls.mono (dw_pick4 (b := b) (lo := lo) HD.out.src rfl (by unfold I64; omega) (by unfold I64; omega) (by unfold I64; omega) (by unfold I64; omega)) ?_
    rintro e w2 ⟨r, rfl, hr, hri, hd⟩
    replace HD := Lib.hid (HD.out.trans hd)
    have h1 : -1 ≤ r := by omega
    have h2 : r ≤ 21 := by omega
    clear hr hd
    go_wp2
    go_ret
    exact ⟨r, rfl, h1, h2, HD.out⟩
  · have h' : (m == 0) = false := by simpa using h
    clear h
    go_wp2_with fail
    refine Calls.mono (dw_next (b := b) (lo := lo) (n := 8) HD.out.src (by unfold I64; omega)) ?_
    rintro e w2 ⟨r, rfl, hr0, hr1, hd⟩
    replace hr1 : r < 8 := by omega
    replace HD := Lib.hid (HD.out.trans hd)
    clear hd
    have e1 : IntKind.i64.wrap (1 + r) = 1 + r := IntWalk.i64_in _ (by omega)
    go_wp2
    go_ret
    exact ⟨1 + r, rfl, by omega, by omega, HD.out⟩
set_option maxHeartbeats 1000000 in
theorem spec_DrawConstantDiagram {a : Option Addr} {n c : Nat} {w : World} (hB : Byts w a n c) (hn : n ≤ 4096) :
    Calls Try.prog 13 #[.slice a n c] w fun e w' => ∃ (k : Int) (v : Bool), e = .returned (.tuple #[.int .i64 k, .bool v]) ∧ Below w.heap.size w w' := by
  have HB := Lib.hid hB
  clear hB
  go_enter Try.func13, Try.ntmps13
  go_wp2_with fail
  refine Calls.mono (dw_l01From HB.out (Below.refl _ _) hn) ?_
  rintro e w1 ⟨b, rfl, hb1, hlb, hd⟩
  have HD := Lib.hid hd
  clear hd
  go_wp2_with fail
  refine Calls.mono (spec_l22DrawInputs HD.out) ?_
  rintro e w2 ⟨k, rfl, hk0, hk1, hd⟩
  replace HD := Lib.hid (HD.out.trans hd)
  clear hd
  go_wp2_with fail
  refine Calls.mono (dw_next (b := b) (lo := w.heap.size) (n := 2) HD.out.src (by unfold I64; omega)) ?_
  rintro e w3 ⟨m, rfl, hm0, hm1, hd⟩
  replace HD := Lib.hid (HD.out.trans hd)
  clear hd hm1
  have hfin := HD.out.fin hb1 (by omega)
  go_wp2
  go_ret2
  exact ⟨k, _, rfl, hfin⟩
set_option maxHeartbeats 1000000 in
theorem spec_DrawInputDiagram {a : Option Addr} {n c : Nat} {w : World} (hB : Byts w a n c) (hn : n ≤ 4096) :
    Calls Try.prog 16 #[.slice a n c] w fun e w' => ∃ (k i : Int), e = .returned (.tuple #[.int .i64 k, .int .i64 i]) ∧ I64 k ∧ I64 i ∧ Below w.heap.size w w' := by
  have HB := Lib.hid hB
  clear hB
  go_enter Try.func16, Try.ntmps16
  go_wp2_with fail
  refine Calls.mono (dw_l01From HB.out (Below.refl _ _) hn) ?_
  rintro e w1 ⟨b, rfl, hb1, hlb, hd⟩
  have HD := Lib.hid hd
  clear hd
  go_wp2_with fail
  refine Calls.mono (spec_l22DrawInputs HD.out) ?_
  rintro e w2 ⟨k, rfl, hk0, hk1, hd⟩
  replace HD := Lib.hid (HD.out.trans hd)
  clear hd
  have e1 : IntKind.i64.wrap (k + 1) = k + 1 := IntWalk.i64_in _ (by omega)
  go_wp2_with fail
  refine Calls.mono (dw_next (b := b) (lo := w.heap.size) (n := k + 1) HD.out.src (by unfold I64; omega)) ?_
  rintro e w3 ⟨m, rfl, hm0, hm1, hd⟩
  replace hm1 : m ≤ 30 := by omega
  replace HD := Lib.hid (HD.out.trans hd)
  clear hd
  go_wp2_with fail
  refine Calls.mono (dw_next (b := b) (lo := w.heap.size) (n := 16) HD.out.src (by unfold I64; omega)) ?_
  rintro e w4 ⟨t, rfl, ht0, ht1, hd⟩
  replace ht1 : t < 16 := by omega
  replace HD := Lib.hid (HD.out.trans hd)
  clear hd
  have eq : IntKind.i64.wrap (t.tdiv 15) = t / 15 := IntWalk.i64_quo _ _ ⟨by omega, by omega, by omega⟩
  have e2 : IntKind.i64.wrap (m - t / 15) = m - t / 15 := IntWalk.i64_in _ (by omega)
  have hfin := HD.out.fin hb1 (by omega)
  go_wp2
  go_ret2
  exact ⟨k, m - t / 15, rfl, by unfold I64; omega, by unfold I64; omega, hfin⟩
end Go.Proofs.Ytkaikbaagajckaa
