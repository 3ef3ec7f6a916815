/- The diagram of tests, with its code: the program, walked. (Printed by mkwj.py.) -/
import Derived.Test.YtkaikbaagajckaaVz
namespace Go.Proofs.Ytkaikbaagajckaa
open Go.RowKit
set_option linter.unusedVariables false
set_option linter.unusedSimpArgs false
attribute [local go_sem ↓] Go.wp_at_zero Go.wp_at_succ
/-- a diagram (inputs, nodes, root) with a code that a call returns -/
def DgR (w : World) (C : Int × List I3 × Int × Int) (e : Ending) (w' : World) : Prop := ∃ da dc, e = .returned (.tuple #[.agg #[.int .i64 C.1, .slice da C.2.1.length dc, .int .i64 C.2.2.1], .int .i64 C.2.2.2]) ∧ OwnF 3 I3.enc I3.ok 76 w' w.heap.size da C.2.1.length dc C.2.1 ∧ Below w.heap.size w w'
def tdC (sz st : List Int) (l : List (RM × RuD)) (g : List I2b) : Int × List I3 × Int × Int := if modelB sz st l = false then (0, [], 0, 1) else if testsB sz g = false then (0, [], 0, 2) else if smB sz = false then (0, [], 0, 3) else ((offN sz sz.length : Int), (tsN sz g).1, (tsN sz g).2, 0)
theorem tdC_1 {sz st : List Int} {l : List (RM × RuD)} {g : List I2b} (h : modelB sz st l = false) : tdC sz st l g = (0, [], 0, 1) := if_pos h
theorem tdC_2 {sz st : List Int} {l : List (RM × RuD)} {g : List I2b} (h : modelB sz st l = true) (h2 : testsB sz g = false) : tdC sz st l g = (0, [], 0, 2) := by rw [tdC, if_neg (by simp [h]), if_pos h2]
theorem tdC_3 {sz st : List Int} {l : List (RM × RuD)} {g : List I2b} (h : modelB sz st l = true) (h2 : testsB sz g = true) (h3 : smB sz = false) : tdC sz st l g = (0, [], 0, 3) := by rw [tdC, if_neg (by simp [h]), if_neg (by simp [h2]), if_pos h3]
theorem tdC_4 {sz st : List Int} {l : List (RM × RuD)} {g : List I2b} (h : modelB sz st l = true) (h2 : testsB sz g = true) (h3 : smB sz = true) : tdC sz st l g = ((offN sz sz.length : Int), (tsN sz g).1, (tsN sz g).2, 0) := by rw [tdC, if_neg (by simp [h]), if_neg (by simp [h2]), if_neg (by simp [h3])]
set_option maxRecDepth 100000 in
set_option maxHeartbeats 8000000 in
theorem impl_TestDiagram {sa ta ra ga : Option Addr} {sn sc tn tc rn rc gn gc : Nat} {sz st : List Int} {l : List (RM × RuD)} {g : List I2b} {w : World} (hI : Ints w sa sn sc sz) (hn : sn ≤ 1048576) (hT : Ints w ta tn tc st) (ht : tn ≤ 1048576) (hR : FR w w ra rn rc l) (hr : rn ≤ 1048576) (hG : F2b w ga gn gc g) (hg : gn ≤ 1048576) :
    Calls Try.prog 34 #[.agg #[.slice sa sn sc, .slice ta tn tc, .slice ra rn rc], .slice ga gn gc] w (DgR w (tdC sz st l g)) := by
  have hb0 : Below w.heap.size w ((w.alloc (.cells #[.slice sa sn sc, .slice ta tn tc, .slice ra rn rc] 59)).alloc (.cells #[.int .i64 0, .slice none 0 0, .int .i64 0] 26)) := by repeat (first | exact Below.refl _ _ | assumption | refine below_allocS ?_ _ | refine below_callS ?_ (by assumption) | (refine Below.alloc ?_ (by first | omega | (simp; done) | (simp; omega)) _) | (refine Below.setCell ?_ (by first | omega | (simp; done) | (simp; omega)) _) | refine Below.drew ?_ | refine below_drewN ?_ _ | (refine below_call ?_ (by assumption) (by first | omega | (simp; done) | (simp; omega))) | (refine Below.trans ?_ (by assumption)))
  have X := Lib.hid ((Blk.made w #[.slice sa sn sc, .slice ta tn tc, .slice ra rn rc] 59).keep (below_alloc1 (Below.refl _ _) (.cells #[.int .i64 0, .slice none 0 0, .int .i64 0] 26)))
  have R := Lib.hid (Blk.made1 w (.cells #[.slice sa sn sc, .slice ta tn tc, .slice ra rn rc] 59) #[.int .i64 0, .slice none 0 0, .int .i64 0] 26)
  have KM := fun (wx : World) (hb : Below w.heap.size w wx) => impl_IsModel (hI.keep hb) hn (hT.keep hb) ht (hR.self hb) hr
  cases hm : modelB sz st l
  · simp only [hm] at KM
    have K1 := Lib.hid KM
    have HC := Lib.hid (tdC_1 (g := g) hm)
    clear KM hm hI hT hR hG
    go_enter Try.func34, Try.ntmps34
    go_wp2_with fail
    refine Calls.mono (K1.out _ hb0) ?_
    rintro e w1 ⟨rfl, hb⟩
    have X1 := Lib.hid (X.out.keep hb)
    have R1 := Lib.hid (R.out.keep hb)
    have HB1 := Lib.hid (below_callS hb0 hb)
    clear hb X R
    clear hb0
    have r0 := R1.out.cell 0
    have r1 := R1.out.cell 1
    have r2 := R1.out.cell 2
    have rl := R1.out.lt
    have rf := R1.out.free
    simp only [List.getElem?_toArray, List.getElem?_cons_zero, List.getElem?_cons_succ] at r0 r1 r2
    have hbz : Below w.heap.size w w1 := HB1.out
    go_wp2
    refine bodyPost_ret (v := .tuple #[.agg #[.int .i64 0, .slice none 0 0, .int .i64 0], .int .i64 1]) (by simp [results, Try.results34, go_sem, *]) rfl ⟨none, 0, by rw [HC.out]; rfl, by rw [HC.out]; exact ⟨World.ownsRow_nil _ _ _ 3, (fun _ h => by cases h), rfl, fun _ => rfl⟩, by repeat (first | exact Below.refl _ _ | assumption | refine below_allocS ?_ _ | refine below_callS ?_ (by assumption) | (refine Below.alloc ?_ (by first | omega | (simp; done) | (simp; omega)) _) | (refine Below.setCell ?_ (by first | omega | (simp; done) | (simp; omega)) _) | refine Below.drew ?_ | refine below_drewN ?_ _ | (refine below_call ?_ (by assumption) (by first | omega | (simp; done) | (simp; omega))) | (refine Below.trans ?_ (by assumption)))⟩
  · simp only [hm] at KM
    have K1 := Lib.hid KM
    have hs := modelB_all hm
    have KT := fun (wx : World) (hb : Below w.heap.size w wx) => impl_areTests (ta := ta) (tn := tn) (tc := tc) (ra := ra) (rn := rn) (rc := rc) (hI.keep hb) hn hs (hG.keep hb) hg
    cases htt : testsB sz g
    · simp only [htt] at KT
      have K2 := Lib.hid KT
      have HC := Lib.hid (tdC_2 hm htt)
      clear KM KT hm htt hs hI hT hR hG
      go_enter Try.func34, Try.ntmps34
      go_wp2_with fail
      refine Calls.mono (K1.out _ hb0) ?_
      rintro e w1 ⟨rfl, hb⟩
      have X1 := Lib.hid (X.out.keep hb)
      have R1 := Lib.hid (R.out.keep hb)
      have HB1 := Lib.hid (below_callS hb0 hb)
      clear hb X R
      clear hb0
      have x0 := X1.out.cell 0
      have x1 := X1.out.cell 1
      have x2 := X1.out.cell 2
      have xl := X1.out.lt
      simp only [List.getElem?_toArray, List.getElem?_cons_zero, List.getElem?_cons_succ] at x0 x1 x2
      go_wp2_with fail
      refine Calls.mono (K2.out _ HB1.out) ?_
      rintro e w2 ⟨rfl, hb⟩
      have X2 := Lib.hid (X1.out.keep hb)
      have R2 := Lib.hid (R1.out.keep hb)
      have HB2 := Lib.hid (below_callS HB1.out hb)
      clear hb X1 R1
      try clear x0 x1 x2 xl
      have r0 := R2.out.cell 0
      have r1 := R2.out.cell 1
      have r2 := R2.out.cell 2
      have rl := R2.out.lt
      have rf := R2.out.free
      simp only [List.getElem?_toArray, List.getElem?_cons_zero, List.getElem?_cons_succ] at r0 r1 r2
      have hbz : Below w.heap.size w w2 := HB2.out
      go_wp2
      refine bodyPost_ret (v := .tuple #[.agg #[.int .i64 0, .slice none 0 0, .int .i64 0], .int .i64 2]) (by simp [results, Try.results34, go_sem, *]) rfl ⟨none, 0, by rw [HC.out]; rfl, by rw [HC.out]; exact ⟨World.ownsRow_nil _ _ _ 3, (fun _ h => by cases h), rfl, fun _ => rfl⟩, by repeat (first | exact Below.refl _ _ | assumption | refine below_allocS ?_ _ | refine below_callS ?_ (by assumption) | (refine Below.alloc ?_ (by first | omega | (simp; done) | (simp; omega)) _) | (refine Below.setCell ?_ (by first | omega | (simp; done) | (simp; omega)) _) | refine Below.drew ?_ | refine below_drewN ?_ _ | (refine below_call ?_ (by assumption) (by first | omega | (simp; done) | (simp; omega))) | (refine Below.trans ?_ (by assumption)))⟩
    · simp only [htt] at KT
      have K2 := Lib.hid KT
      have KS := fun (wx : World) (hb : Below w.heap.size w wx) => impl_isSmall (ta := ta) (tn := tn) (tc := tc) (ra := ra) (rn := rn) (rc := rc) (hI.keep hb) hn hs
      cases hq : smB sz
      · simp only [hq] at KS
        have K3 := Lib.hid KS
        have HC := Lib.hid (tdC_3 hm htt hq)
        clear KM KT KS hm htt hs hq hI hT hR hG
        go_enter Try.func34, Try.ntmps34
        go_wp2_with fail
        refine Calls.mono (K1.out _ hb0) ?_
        rintro e w1 ⟨rfl, hb⟩
        have X1 := Lib.hid (X.out.keep hb)
        have R1 := Lib.hid (R.out.keep hb)
        have HB1 := Lib.hid (below_callS hb0 hb)
        clear hb X R
        clear hb0
        have x0 := X1.out.cell 0
        have x1 := X1.out.cell 1
        have x2 := X1.out.cell 2
        have xl := X1.out.lt
        simp only [List.getElem?_toArray, List.getElem?_cons_zero, List.getElem?_cons_succ] at x0 x1 x2
        go_wp2_with fail
        refine Calls.mono (K2.out _ HB1.out) ?_
        rintro e w2 ⟨rfl, hb⟩
        have X2 := Lib.hid (X1.out.keep hb)
        have R2 := Lib.hid (R1.out.keep hb)
        have HB2 := Lib.hid (below_callS HB1.out hb)
        clear hb X1 R1
        try clear x0 x1 x2 xl
        have x0 := X2.out.cell 0
        have x1 := X2.out.cell 1
        have x2 := X2.out.cell 2
        have xl := X2.out.lt
        simp only [List.getElem?_toArray, List.getElem?_cons_zero, List.getElem?_cons_succ] at x0 x1 x2
        go_wp2_with fail
        refine Calls.mono (K3.out _ HB2.out) ?_
        rintro e w3 ⟨rfl, hb⟩
        have X3 := Lib.hid (X2.out.keep hb)
        have R3 := Lib.hid (R2.out.keep hb)
        have HB3 := Lib.hid (below_callS HB2.out hb)
        clear hb X2 R2
        try clear x0 x1 x2 xl
        have r0 := R3.out.cell 0
        have r1 := R3.out.cell 1
        have r2 := R3.out.cell 2
        have rl := R3.out.lt
        have rf := R3.out.free
        simp only [List.getElem?_toArray, List.getElem?_cons_zero, List.getElem?_cons_succ] at r0 r1 r2
        have hbz : Below w.heap.size w w3 := HB3.out
        go_wp2
        refine bodyPost_ret (v := .tuple #[.agg #[.int .i64 0, .slice none 0 0, .int .i64 0], .int .i64 3]) (by simp [results, Try.results34, go_sem, *]) rfl ⟨none, 0, by rw [HC.out]; rfl, by rw [HC.out]; exact ⟨World.ownsRow_nil _ _ _ 3, (fun _ h => by cases h), rfl, fun _ => rfl⟩, by repeat (first | exact Below.refl _ _ | assumption | refine below_allocS ?_ _ | refine below_callS ?_ (by assumption) | (refine Below.alloc ?_ (by first | omega | (simp; done) | (simp; omega)) _) | (refine Below.setCell ?_ (by first | omega | (simp; done) | (simp; omega)) _) | refine Below.drew ?_ | refine below_drewN ?_ _ | (refine below_call ?_ (by assumption) (by first | omega | (simp; done) | (simp; omega))) | (refine Below.trans ?_ (by assumption)))⟩
      · simp only [hq] at KS
        have K3 := Lib.hid KS
        have HC := Lib.hid (tdC_4 hm htt hq)
        have hn16 : sn ≤ 16 := by have := modelB_len hm; have := hI.len; omega
        have hfew := ts_few (g := g) hs (modelB_len hm)
        have hsum := (off_sum hs (modelB_len hm)).1
        have K4 := Lib.hid (fun (wx : World) (hb : Below w.heap.size w wx) => impl_testDiagram (ta := ta) (tn := tn) (tc := tc) (ra := ra) (rn := rn) (rc := rc) (hI.keep hb) hn16 hs (hG.keep hb) hg)
        obtain ⟨⟨TL, TR⟩, hTS⟩ : ∃ x, tsN sz g = x := ⟨_, rfl⟩
        rw [hTS] at HC hfew
        rw [hTS, hsum] at K4
        simp only at HC hfew K4
        clear KM KT KS hm htt hs hq hI hT hR hG hsum hTS
        go_enter Try.func34, Try.ntmps34
        go_wp2_with fail
        refine Calls.mono (K1.out _ hb0) ?_
        rintro e w1 ⟨rfl, hb⟩
        have X1 := Lib.hid (X.out.keep hb)
        have R1 := Lib.hid (R.out.keep hb)
        have HB1 := Lib.hid (below_callS hb0 hb)
        clear hb X R
        clear hb0
        have x0 := X1.out.cell 0
        have x1 := X1.out.cell 1
        have x2 := X1.out.cell 2
        have xl := X1.out.lt
        simp only [List.getElem?_toArray, List.getElem?_cons_zero, List.getElem?_cons_succ] at x0 x1 x2
        go_wp2_with fail
        refine Calls.mono (K2.out _ HB1.out) ?_
        rintro e w2 ⟨rfl, hb⟩
        have X2 := Lib.hid (X1.out.keep hb)
        have R2 := Lib.hid (R1.out.keep hb)
        have HB2 := Lib.hid (below_callS HB1.out hb)
        clear hb X1 R1
        try clear x0 x1 x2 xl
        have x0 := X2.out.cell 0
        have x1 := X2.out.cell 1
        have x2 := X2.out.cell 2
        have xl := X2.out.lt
        simp only [List.getElem?_toArray, List.getElem?_cons_zero, List.getElem?_cons_succ] at x0 x1 x2
        go_wp2_with fail
        refine Calls.mono (K3.out _ HB2.out) ?_
        rintro e w3 ⟨rfl, hb⟩
        have X3 := Lib.hid (X2.out.keep hb)
        have R3 := Lib.hid (R2.out.keep hb)
        have HB3 := Lib.hid (below_callS HB2.out hb)
        clear hb X2 R2
        try clear x0 x1 x2 xl
        have x0 := X3.out.cell 0
        have x1 := X3.out.cell 1
        have x2 := X3.out.cell 2
        have xl := X3.out.lt
        simp only [List.getElem?_toArray, List.getElem?_cons_zero, List.getElem?_cons_succ] at x0 x1 x2
        go_wp2_with fail
        refine Calls.mono (K4.out _ HB3.out) ?_
        rintro e w4 ⟨da, dc, rfl, hO, hb⟩
        have R4 := Lib.hid (R3.out.keep hb)
        have HB4 := Lib.hid (below_callS HB3.out hb)
        have hs4 := hb.size
        have hs3 := HB3.out.size
        have O4 := Lib.hid hO
        have hrl3 := R3.out.lt
        clear hb hO X3 R3 x0 x1 x2 xl
        have r0 := R4.out.cell 0
        have r1 := R4.out.cell 1
        have r2 := R4.out.cell 2
        have rl := R4.out.lt
        have rf := R4.out.free
        simp only [List.getElem?_toArray, List.getElem?_cons_zero, List.getElem?_cons_succ] at r0 r1 r2
        have hgt : ¬ (2000 : Int) < (TL.length : Int) := by omega
        go_wp2
        have hne : ∀ y, da = some ⟨y, 0, none⟩ → (some (w.heap.size + 1) : Option Nat) ≠ some y := fun y e e' => by
          have := (O4.out.blk y e).1
          have h3 := R4.out
          simp at e'
          have h9 := rl
          have h8 := hrl3
          omega
        have hbz : Below w.heap.size w w4 := HB4.out
        refine bodyPost_ret (v := .tuple #[.agg #[.int .i64 (offN sz sz.length : Int), .slice da TL.length dc, .int .i64 TR], .int .i64 0]) (by simp [results, Try.results34, go_sem, *]) rfl ⟨da, dc, by rw [HC.out], ?_, ?_⟩
        · rw [HC.out]
          exact ((((O4.out.keepG (set_grown _ _ _) hne).keepG (set_grown _ _ _) hne).keepG (set_grown _ _ _) hne).keep (below_alloc1 (Below.refl _ _) _)).le (by omega)
        · repeat (first | exact Below.refl _ _ | assumption | refine below_allocS ?_ _ | refine below_callS ?_ (by assumption) | (refine Below.alloc ?_ (by first | omega | (simp; done) | (simp; omega)) _) | (refine Below.setCell ?_ (by first | omega | (simp; done) | (simp; omega)) _) | refine Below.drew ?_ | refine below_drewN ?_ _ | (refine below_call ?_ (by assumption) (by first | omega | (simp; done) | (simp; omega))) | (refine Below.trans ?_ (by assumption)))
end Go.Proofs.Ytkaikbaagajckaa
