/- The diagram of tests, with its code: the reference, walked. (Printed by mkwo.py.) -/
import Derived.Test.YtkaikbaagajckaaWn
namespace Go.Proofs.Ytkaikbaagajckaa
open Go.RowKit
set_option linter.unusedVariables false
set_option linter.unusedSimpArgs false
attribute [local go_sem ↓] Go.wp_at_zero Go.wp_at_succ
/-- a diagram that is not too large, or a code -/
def lmC (n : Int) (L : List I3) (rt : Int) : Int × List I3 × Int × Int := if L.length ≤ 2000 then (n, L, rt, 0) else (0, [], 0, 3)
theorem lmC_yes {n : Int} {L : List I3} {rt : Int} (h : L.length ≤ 2000) : lmC n L rt = (n, L, rt, 0) := if_pos h
theorem lmC_no {n : Int} {L : List I3} {rt : Int} (h : ¬ L.length ≤ 2000) : lmC n L rt = (0, [], 0, 3) := if_neg h
set_option maxHeartbeats 2000000 in
theorem spec_l22Small {base n c : Nat} {a : Option Addr} {L : List I3} {inp rt : Int} {w : World} (hO : OwnF 3 I3.enc I3.ok 76 w base a n c L) (hn : n ≤ 1048576) (hbase : base ≤ w.heap.size) :
    Calls Try.prog 85 #[.agg #[.int .i64 inp, .slice a n c, .int .i64 rt]] w fun e w' => ∃ da dc, e = .returned (.tuple #[.agg #[.int .i64 (lmC inp L rt).1, .slice da (lmC inp L rt).2.1.length dc, .int .i64 (lmC inp L rt).2.2.1], .int .i64 (lmC inp L rt).2.2.2]) ∧ OwnF 3 I3.enc I3.ok 76 w' base da (lmC inp L rt).2.1.length dc (lmC inp L rt).2.1 ∧ Below w.heap.size w w' := by
  obtain rfl : L.length = n := hO.len
  have O := Lib.hid hO
  have hal : ∀ g, a = some ⟨g, 0, none⟩ → g < w.heap.size := fun g e => (hO.blk g e).2
  clear hO
  by_cases h2 : L.length ≤ 2000
  · have HC := Lib.hid (lmC_yes (n := inp) (rt := rt) h2)
    have h2' : ¬ (2000 : Int) < (L.length : Int) := by omega
    go_enter Try.func85, Try.ntmps85
    go_wp2
    have hne : ∀ y, a = some ⟨y, 0, none⟩ → (some (w.heap.size + 1) : Option Nat) ≠ some y := fun y e e' => by
      have := hal y e
      simp at e'
      omega
    refine bodyPost_ret (v := .tuple #[.agg #[.int .i64 inp, .slice a L.length c, .int .i64 rt], .int .i64 0]) (by simp [results, Try.results85, go_sem, *]) rfl ⟨a, c, by rw [HC.out], by rw [HC.out]; exact O.out.keep (by repeat (first | exact Below.refl _ _ | assumption | refine below_allocS ?_ _ | refine below_callS ?_ (by assumption) | (refine Below.alloc ?_ (by first | omega | (simp; done) | (simp; omega)) _) | (refine Below.setCell ?_ (by first | omega | (simp; done) | (simp; omega)) _) | refine Below.drew ?_ | refine below_drewN ?_ _ | (refine below_call ?_ (by assumption) (by first | omega | (simp; done) | (simp; omega))) | (refine Below.trans ?_ (by assumption)))), by repeat (first | exact Below.refl _ _ | assumption | refine below_allocS ?_ _ | refine below_callS ?_ (by assumption) | (refine Below.alloc ?_ (by first | omega | (simp; done) | (simp; omega)) _) | (refine Below.setCell ?_ (by first | omega | (simp; done) | (simp; omega)) _) | refine Below.drew ?_ | refine below_drewN ?_ _ | (refine below_call ?_ (by assumption) (by first | omega | (simp; done) | (simp; omega))) | (refine Below.trans ?_ (by assumption)))⟩
  · have HC := Lib.hid (lmC_no (n := inp) (rt := rt) h2)
    have h2' : (2000 : Int) < (L.length : Int) := by omega
    go_enter Try.func85, Try.ntmps85
    go_wp2
    refine bodyPost_ret (v := .tuple #[.agg #[.int .i64 0, .slice none 0 0, .int .i64 0], .int .i64 3]) (by simp [results, Try.results85, go_sem, *]) rfl ⟨none, 0, by rw [HC.out]; rfl, by rw [HC.out]; exact ⟨World.ownsRow_nil _ _ _ 3, (fun _ h => by cases h), rfl, fun _ => rfl⟩, by repeat (first | exact Below.refl _ _ | assumption | refine below_allocS ?_ _ | refine below_callS ?_ (by assumption) | (refine Below.alloc ?_ (by first | omega | (simp; done) | (simp; omega)) _) | (refine Below.setCell ?_ (by first | omega | (simp; done) | (simp; omega)) _) | refine Below.drew ?_ | refine below_drewN ?_ _ | (refine below_call ?_ (by assumption) (by first | omega | (simp; done) | (simp; omega))) | (refine Below.trans ?_ (by assumption)))⟩
set_option maxRecDepth 100000 in
set_option maxHeartbeats 8000000 in
theorem spec_TestDiagram {sa ta ra ga : Option Addr} {sn sc tn tc rn rc gn gc : Nat} {sz st : List Int} {l : List (RM × RuD)} {g : List I2b} {w : World} (hI : Ints w sa sn sc sz) (hn : sn ≤ 1048576) (hT : Ints w ta tn tc st) (ht : tn ≤ 1048576) (hR : FR w w ra rn rc l) (hr : rn ≤ 1048576) (hG : F2b w ga gn gc g) (hg : gn ≤ 1048576) :
    Calls Try.prog 31 #[.agg #[.slice sa sn sc, .slice ta tn tc, .slice ra rn rc], .slice ga gn gc] w (DgR w (tdC sz st l g)) := by
  have hb0 : Below w.heap.size w ((w.alloc (.cells #[.slice sa sn sc, .slice ta tn tc, .slice ra rn rc] 59)).alloc (.cells #[.int .i64 0, .slice none 0 0, .int .i64 0] 26)) := by repeat (first | exact Below.refl _ _ | assumption | refine below_allocS ?_ _ | refine below_callS ?_ (by assumption) | (refine Below.alloc ?_ (by first | omega | (simp; done) | (simp; omega)) _) | (refine Below.setCell ?_ (by first | omega | (simp; done) | (simp; omega)) _) | refine Below.drew ?_ | refine below_drewN ?_ _ | (refine below_call ?_ (by assumption) (by first | omega | (simp; done) | (simp; omega))) | (refine Below.trans ?_ (by assumption)))
  have X := Lib.hid ((Blk.made w #[.slice sa sn sc, .slice ta tn tc, .slice ra rn rc] 59).keep (below_alloc1 (Below.refl _ _) (.cells #[.int .i64 0, .slice none 0 0, .int .i64 0] 26)))
  have R := Lib.hid (Blk.made1 w (.cells #[.slice sa sn sc, .slice ta tn tc, .slice ra rn rc] 59) #[.int .i64 0, .slice none 0 0, .int .i64 0] 26)
  have KM := fun (wx : World) (hb : Below w.heap.size w wx) => spec_IsModel (hI.keep hb) hn (hT.keep hb) ht (hR.self hb) hr
  cases hm : modelB sz st l
  · simp only [hm] at KM
    have K1 := Lib.hid KM
    have HC := Lib.hid (tdC_1 (g := g) hm)
    clear KM hm hI hT hR hG
    go_enter Try.func31, Try.ntmps31
    go_wp2_with fail
    refine Calls.mono (K1.out _ hb0) ?_
    rintro e w1 ⟨rfl, hb⟩
    have X1 := Lib.hid (X.out.keep hb)
    have R1 := Lib.hid (R.out.keep hb)
    have HB1 := Lib.hid (below_callS hb0 hb)
    clear hb X R
    clear hb0
    have r0 := R1.out.cell 0
    have r1 := R1.out.cell 1
    have r2 := R1.out.cell 2
    have rl := R1.out.lt
    have rf := R1.out.free
    simp only [List.getElem?_toArray, List.getElem?_cons_zero, List.getElem?_cons_succ] at r0 r1 r2
    have hbz : Below w.heap.size w w1 := HB1.out
    go_wp2
    refine bodyPost_ret (v := .tuple #[.agg #[.int .i64 0, .slice none 0 0, .int .i64 0], .int .i64 1]) (by simp [results, Try.results31, go_sem, *]) rfl ⟨none, 0, by rw [HC.out]; rfl, by rw [HC.out]; exact ⟨World.ownsRow_nil _ _ _ 3, (fun _ h => by cases h), rfl, fun _ => rfl⟩, by repeat (first | exact Below.refl _ _ | assumption | refine below_allocS ?_ _ | refine below_callS ?_ (by assumption) | (refine Below.alloc ?_ (by first | omega | (simp; done) | (simp; omega)) _) | (refine Below.setCell ?_ (by first | omega | (simp; done) | (simp; omega)) _) | refine Below.drew ?_ | refine below_drewN ?_ _ | (refine below_call ?_ (by assumption) (by first | omega | (simp; done) | (simp; omega))) | (refine Below.trans ?_ (by assumption)))⟩
  · simp only [hm] at KM
    have K1 := Lib.hid KM
    have hs := modelB_all hm
    have KT := fun (wx : World) (hb : Below w.heap.size w wx) => spec_l20Tests (ta := ta) (tn := tn) (tc := tc) (ra := ra) (rn := rn) (rc := rc) (hI.keep hb) hn hs (hG.keep hb) hg
    cases htt : testsB sz g
    · simp only [htt] at KT
      have K2 := Lib.hid KT
      have HC := Lib.hid (tdC_2 hm htt)
      clear KM KT hm htt hs hI hT hR hG
      go_enter Try.func31, Try.ntmps31
      go_wp2_with fail
      refine Calls.mono (K1.out _ hb0) ?_
      rintro e w1 ⟨rfl, hb⟩
      have X1 := Lib.hid (X.out.keep hb)
      have R1 := Lib.hid (R.out.keep hb)
      have HB1 := Lib.hid (below_callS hb0 hb)
      clear hb X R
      clear hb0
      have x0 := X1.out.cell 0
      have x1 := X1.out.cell 1
      have x2 := X1.out.cell 2
      have xl := X1.out.lt
      simp only [List.getElem?_toArray, List.getElem?_cons_zero, List.getElem?_cons_succ] at x0 x1 x2
      go_wp2_with fail
      refine Calls.mono (K2.out _ HB1.out) ?_
      rintro e w2 ⟨rfl, hb⟩
      have X2 := Lib.hid (X1.out.keep hb)
      have R2 := Lib.hid (R1.out.keep hb)
      have HB2 := Lib.hid (below_callS HB1.out hb)
      clear hb X1 R1
      try clear x0 x1 x2 xl
      have r0 := R2.out.cell 0
      have r1 := R2.out.cell 1
      have r2 := R2.out.cell 2
      have rl := R2.out.lt
      have rf := R2.out.free
      simp only [List.getElem?_toArray, List.getElem?_cons_zero, List.getElem?_cons_succ] at r0 r1 r2
      have hbz : Below w.heap.size w w2 := HB2.out
      go_wp2
      refine bodyPost_ret (v := .tuple #[.agg #[.int .i64 0, .slice none 0 0, .int .i64 0], .int .i64 2]) (by simp [results, Try.results31, go_sem, *]) rfl ⟨none, 0, by rw [HC.out]; rfl, by rw [HC.out]; exact ⟨World.ownsRow_nil _ _ _ 3, (fun _ h => by cases h), rfl, fun _ => rfl⟩, by repeat (first | exact Below.refl _ _ | assumption | refine below_allocS ?_ _ | refine below_callS ?_ (by assumption) | (refine Below.alloc ?_ (by first | omega | (simp; done) | (simp; omega)) _) | (refine Below.setCell ?_ (by first | omega | (simp; done) | (simp; omega)) _) | refine Below.drew ?_ | refine below_drewN ?_ _ | (refine below_call ?_ (by assumption) (by first | omega | (simp; done) | (simp; omega))) | (refine Below.trans ?_ (by assumption)))⟩
    · simp only [htt] at KT
      have K2 := Lib.hid KT
      have KS := fun (wx : World) (hb : Below w.heap.size w wx) => spec_l23Small (ta := ta) (tn := tn) (tc := tc) (ra := ra) (rn := rn) (rc := rc) (hI.keep hb) hn hs
      cases hq : smB sz
      · simp only [smC, hq] at KS
        have K3 := Lib.hid KS
        have HC := Lib.hid (tdC_3 hm htt hq)
        clear KM KT KS hm htt hs hq hI hT hR hG
        go_enter Try.func31, Try.ntmps31
        go_wp2_with fail
        refine Calls.mono (K1.out _ hb0) ?_
        rintro e w1 ⟨rfl, hb⟩
        have X1 := Lib.hid (X.out.keep hb)
        have R1 := Lib.hid (R.out.keep hb)
        have HB1 := Lib.hid (below_callS hb0 hb)
        clear hb X R
        clear hb0
        have x0 := X1.out.cell 0
        have x1 := X1.out.cell 1
        have x2 := X1.out.cell 2
        have xl := X1.out.lt
        simp only [List.getElem?_toArray, List.getElem?_cons_zero, List.getElem?_cons_succ] at x0 x1 x2
        go_wp2_with fail
        refine Calls.mono (K2.out _ HB1.out) ?_
        rintro e w2 ⟨rfl, hb⟩
        have X2 := Lib.hid (X1.out.keep hb)
        have R2 := Lib.hid (R1.out.keep hb)
        have HB2 := Lib.hid (below_callS HB1.out hb)
        clear hb X1 R1
        try clear x0 x1 x2 xl
        have x0 := X2.out.cell 0
        have x1 := X2.out.cell 1
        have x2 := X2.out.cell 2
        have xl := X2.out.lt
        simp only [List.getElem?_toArray, List.getElem?_cons_zero, List.getElem?_cons_succ] at x0 x1 x2
        go_wp2_with fail
        refine Calls.mono (K3.out _ HB2.out) ?_
        rintro e w3 ⟨rfl, hb⟩
        have X3 := Lib.hid (X2.out.keep hb)
        have R3 := Lib.hid (R2.out.keep hb)
        have HB3 := Lib.hid (below_callS HB2.out hb)
        clear hb X2 R2
        try clear x0 x1 x2 xl
        have r0 := R3.out.cell 0
        have r1 := R3.out.cell 1
        have r2 := R3.out.cell 2
        have rl := R3.out.lt
        have rf := R3.out.free
        simp only [List.getElem?_toArray, List.getElem?_cons_zero, List.getElem?_cons_succ] at r0 r1 r2
        have hbz : Below w.heap.size w w3 := HB3.out
        go_wp2
        refine bodyPost_ret (v := .tuple #[.agg #[.int .i64 0, .slice none 0 0, .int .i64 0], .int .i64 3]) (by simp [results, Try.results31, go_sem, *]) rfl ⟨none, 0, by rw [HC.out]; rfl, by rw [HC.out]; exact ⟨World.ownsRow_nil _ _ _ 3, (fun _ h => by cases h), rfl, fun _ => rfl⟩, by repeat (first | exact Below.refl _ _ | assumption | refine below_allocS ?_ _ | refine below_callS ?_ (by assumption) | (refine Below.alloc ?_ (by first | omega | (simp; done) | (simp; omega)) _) | (refine Below.setCell ?_ (by first | omega | (simp; done) | (simp; omega)) _) | refine Below.drew ?_ | refine below_drewN ?_ _ | (refine below_call ?_ (by assumption) (by first | omega | (simp; done) | (simp; omega))) | (refine Below.trans ?_ (by assumption)))⟩
      · simp only [smC, hq] at KS
        have K3 := Lib.hid KS
        have HC := Lib.hid (tdC_4 hm htt hq)
        have hlen := modelB_len hm
        obtain rfl : sz.length = sn := hI.len
        have hfew := ts_few (g := g) hs hlen
        have hsum := (off_sum hs hlen).1
        have hofl := (off_sum hs hlen).2 sz.length (Nat.le_refl _)
        have HI := Lib.hid hI
        have HS := Lib.hid hs
        have KA := Lib.hid (fun (wx : World) (hb : Below w.heap.size w wx) => spec_l23Allowed (ta := ta) (tn := tn) (tc := tc) (ra := ra) (rn := rn) (rc := rc) (hI.keep hb) hlen hs (hG.keep hb) hg)
        have KTT := fun (wx : World) (hb : Below w.heap.size w wx) => spec_l23Total (ta := ta) (tn := tn) (tc := tc) (ra := ra) (rn := rn) (rc := rc) (hI.keep hb) hn hs
        rw [hsum] at KTT
        have KTT := Lib.hid KTT
        obtain ⟨i1, i2, _, i4, _⟩ := td_inv (g := g) hs sz.length (Nat.le_refl _)
        have HFR := Lib.hid i1.redu.frst
        have HTS := Lib.hid (show tsN sz g = canN mkN (tdN sz g sz.length).1 (tdN sz g sz.length).2 from rfl)
        obtain ⟨⟨TL, TR⟩, hTS⟩ : ∃ x, tsN sz g = x := ⟨_, rfl⟩
        rw [hTS] at HC hfew HTS
        simp only at HC hfew
        clear KM KT KS hm htt hs hq hI hT hR hG hsum hTS i1
        go_enter Try.func31, Try.ntmps31
        go_wp2_with fail
        refine Calls.mono (K1.out _ hb0) ?_
        rintro e w1 ⟨rfl, hb⟩
        have X1 := Lib.hid (X.out.keep hb)
        have R1 := Lib.hid (R.out.keep hb)
        have HB1 := Lib.hid (below_callS hb0 hb)
        clear hb X R
        clear hb0
        have x0 := X1.out.cell 0
        have x1 := X1.out.cell 1
        have x2 := X1.out.cell 2
        have xl := X1.out.lt
        simp only [List.getElem?_toArray, List.getElem?_cons_zero, List.getElem?_cons_succ] at x0 x1 x2
        go_wp2_with fail
        refine Calls.mono (K2.out _ HB1.out) ?_
        rintro e w2 ⟨rfl, hb⟩
        have X2 := Lib.hid (X1.out.keep hb)
        have R2 := Lib.hid (R1.out.keep hb)
        have HB2 := Lib.hid (below_callS HB1.out hb)
        clear hb X1 R1
        try clear x0 x1 x2 xl
        have x0 := X2.out.cell 0
        have x1 := X2.out.cell 1
        have x2 := X2.out.cell 2
        have xl := X2.out.lt
        simp only [List.getElem?_toArray, List.getElem?_cons_zero, List.getElem?_cons_succ] at x0 x1 x2
        go_wp2_with fail
        refine Calls.mono (K3.out _ HB2.out) ?_
        rintro e w3 ⟨rfl, hb⟩
        have X3 := Lib.hid (X2.out.keep hb)
        have R3 := Lib.hid (R2.out.keep hb)
        have HB3 := Lib.hid (below_callS HB2.out hb)
        clear hb X2 R2
        try clear x0 x1 x2 xl
        have x0 := X3.out.cell 0
        have x1 := X3.out.cell 1
        have x2 := X3.out.cell 2
        have xl := X3.out.lt
        simp only [List.getElem?_toArray, List.getElem?_cons_zero, List.getElem?_cons_succ] at x0 x1 x2
        have hrl3 := R3.out.lt
        have hs3 := HB3.out.size
        go_wp2_with fail
        obtain ⟨W, hW⟩ : ∃ W, W = w3.alloc (.cells #[.slice none 0 0] 100) := ⟨_, rfl⟩
        have hbW : Below w3.heap.size w3 W := by rw [hW]; exact below_alloc1 (Below.refl _ _) _
        have B4 := Lib.hid (show BldA W w3.heap.size w3.heap.size none 0 [] by rw [hW]; exact ⟨Blk.made _ _ _, ⟨World.ownsRow_nil _ _ _ 3, (fun _ h => by cases h), rfl, fun _ => rfl⟩, Nat.le_refl _⟩)
        have X4 := Lib.hid (X3.out.keep hbW)
        have R4 := Lib.hid (R3.out.keep hbW)
        have HB4 := Lib.hid (below_callS HB3.out hbW)
        have hs4 := hbW.size
        rw [← hW]
        clear hW hbW x0 x1 x2 xl X3 R3
        have x0 := X4.out.cell 0
        have x1 := X4.out.cell 1
        have x2 := X4.out.cell 2
        have xl := X4.out.lt
        simp only [List.getElem?_toArray, List.getElem?_cons_zero, List.getElem?_cons_succ] at x0 x1 x2
        refine wp_region_noPanic ?_
        refine wp_region_M (L := 5) (S := fun wx => Below W.heap.size W wx) (by kernel_rfl) ?_ (fun hHeld => ?_)
        · exact (Below.refl _ _).drew
        refine wpAnyM_take (i := 0) (v := ?_) (by simp only [List.getElem?_toArray, List.getElem?_cons_succ, List.getElem?_cons_zero] <;> rfl) (by kernel_rfl) (by kernel_rfl) (by kernel_rfl) (by kernel_rfl) (by kernel_rfl) (fun _ _ _ h => h) (Or.inl ⟨by rfl, ?_⟩) (by assumption) ?_
        rotate_left
        · (intro wv hSw; (try dsimp only at hSw); obtain ⟨hcq, _⟩ := bcell hSw; have hsq := Below.size hSw; go_simp; try with_reducible rfl)
        try simp only [Act.put, List.setIfInBounds_toArray, List.set_cons_zero, List.set_cons_succ]
        refine wpAnyM_take (i := 3) (v := ?_) (by simp only [List.getElem?_toArray, List.getElem?_cons_succ, List.getElem?_cons_zero] <;> rfl) (by kernel_rfl) (by kernel_rfl) (by kernel_rfl) (by kernel_rfl) (by kernel_rfl) (fun _ _ _ h => h) (Or.inl ⟨by rfl, ?_⟩) (by assumption) ?_
        rotate_left
        · (intro wv hSw; (try dsimp only at hSw); obtain ⟨hcq, _⟩ := bcell hSw; have hsq := Below.size hSw; go_simp; try with_reducible rfl)
        try simp only [Act.put, List.setIfInBounds_toArray, List.set_cons_zero, List.set_cons_succ]
        refine wpAnyM_take (i := 1) (v := ?_) (by simp only [List.getElem?_toArray, List.getElem?_cons_succ, List.getElem?_cons_zero] <;> rfl) (by kernel_rfl) (by kernel_rfl) (by kernel_rfl) (by kernel_rfl) (by kernel_rfl) (fun _ _ _ h => h) (Or.inl ⟨by rfl, ?_⟩) (by assumption) ?_
        rotate_left
        · (intro wv hSw; (try dsimp only at hSw); obtain ⟨hcq, _⟩ := bcell hSw; have hsq := Below.size hSw; have p0 := (hcq _ _ xl).trans x0; have p1 := (hcq _ _ xl).trans x1; have p2 := (hcq _ _ xl).trans x2; have pl := Nat.lt_of_lt_of_le xl hsq; go_simp; try with_reducible rfl)
        try simp only [Act.put, List.setIfInBounds_toArray, List.set_cons_zero, List.set_cons_succ]
        refine wpAnyM_take (i := 2) (v := ?_) (by simp only [List.getElem?_toArray, List.getElem?_cons_succ, List.getElem?_cons_zero] <;> rfl) (by kernel_rfl) (by kernel_rfl) (by kernel_rfl) (by kernel_rfl) (by kernel_rfl) (fun _ _ _ h => h) (Or.inl ⟨by rfl, ?_⟩) (by assumption) ?_
        rotate_left
        · (intro wv hSw; (try dsimp only at hSw); obtain ⟨hcq, _⟩ := bcell hSw; have hsq := Below.size hSw; have p0 := (hcq _ _ xl).trans x0; have p1 := (hcq _ _ xl).trans x1; have p2 := (hcq _ _ xl).trans x2; have pl := Nat.lt_of_lt_of_le xl hsq; go_simp; try with_reducible rfl)
        try simp only [Act.put, List.setIfInBounds_toArray, List.set_cons_zero, List.set_cons_succ]
        refine wpAnyM_ready (rs := [4]) (by kernel_rfl) (by simp) ?_
        refine AllReadyM.cons rfl (fun K hK => ?_) AllReadyM.nil
        go_simp
        refine Calls.mono (KA.out _ (below_callS HB4.out hHeld)) ?_
        rintro e w5 ⟨aT, cT, Tb, rfl, hTb, hTm, hb5⟩
        have hb5' := below_callS hHeld hb5
        have TB := Lib.hid (hTb.le (show w.heap.size ≤ _ by have := Below.size hHeld; omega))
        have HTM := Lib.hid hTm
        clear hTb hTm
        go_wp2_with fail
        refine hK.out _ _ hb5' (fun hHeld => ?_)
        clear hK K
        try simp only [Act.put, List.setIfInBounds_toArray, List.set_cons_zero, List.set_cons_succ]
        refine wpAnyM_ready (rs := [5]) (by kernel_rfl) (by simp) ?_
        refine AllReadyM.last rfl (fun K hK => ?_)
        go_simp
        have e0 : ((sz.length - sz.length : Nat) : Int) = 0 := by omega
        have e1 : (offN sz (sz.length - sz.length) : Int) = 0 := by rw [Nat.sub_self]; rfl
        have hkp := spec_l23Product (lo := w3.heap.size) (p := w3.heap.size) (base := w.heap.size) (a := aT) (c := cT) (ta := ta) (ra := ra) (tn := tn) (tc := tc) (rn := rn) (rc := rc) (g := g) (Tb := Tb) HI.out hlen HS.out (by omega) HTM.out sz.length w5 (Nat.le_refl _) (below_callS HB4.out hb5') ⟨_, _, B4.out.keep hb5'⟩ TB.out (by have := hb5'.size; omega)
        rw [e0, e1] at hkp
        refine Calls.mono hkp ?_
        clear hkp e0 e1
        rintro e w6 ⟨rfl, hB6, hf6⟩
        have hb56 : Below w3.heap.size W w6 := (hb5'.mono hs4).trans (hf6.below (Below.refl _ _) (by have := hb5'.size; omega) (Nat.le_refl _) (Nat.le_refl _) (Nat.le_refl _))
        have X6 := Lib.hid (X4.out.keepB hb56 (by omega))
        have R6 := Lib.hid (R4.out.keepB hb56 (by omega))
        have HB6 := Lib.hid (HB4.out.trans (hb56.mono hs3))
        obtain ⟨na, nc, hB6⟩ := hB6
        have B6 := Lib.hid hB6
        have hs6 := hb56.size
        clear hB6 hf6 hb56 hb5 hb5' x0 x1 x2 xl X4 R4 B4 TB
        go_wp2_with fail
        refine hK.out _ _ ?_
        clear hK K
        try simp only [Act.put, List.setIfInBounds_toArray, List.set_cons_zero, List.set_cons_succ]
        refine wpAnyM_ready (rs := [6]) (by kernel_rfl) (by simp) ?_
        refine AllReadyM.then (by kernel_rfl) rfl (fun K hK => ?_)
        go_simp
        refine hK.out _ _ ?_
        clear hK K
        try simp only [Act.put, List.setIfInBounds_toArray, List.set_cons_zero, List.set_cons_succ]
        refine wpAnyM_done (by kernel_rfl) ?_ _
        refine NoPanic.normal ?_
        clear hHeld
        have x0 := X6.out.cell 0
        have x1 := X6.out.cell 1
        have x2 := X6.out.cell 2
        have xl := X6.out.lt
        have p0 := B6.out.blk.cell 0
        have pl := B6.out.blk.lt
        simp only [List.getElem?_toArray, List.getElem?_cons_zero, List.getElem?_cons_succ] at x0 x1 x2 p0
        go_wp2_with fail
        refine wp_region_noPanic ?_
        refine wp_region_M (L := 11) (S := fun wx => Below w6.heap.size w6 wx) (by kernel_rfl) ?_ (fun hHeld => ?_)
        · exact (Below.refl _ _).drew
        refine wpAnyM_take (i := 0) (v := ?_) (by simp only [List.getElem?_toArray, List.getElem?_cons_succ, List.getElem?_cons_zero] <;> rfl) (by kernel_rfl) (by kernel_rfl) (by kernel_rfl) (by kernel_rfl) (by kernel_rfl) (fun _ _ _ h => h) (Or.inl ⟨by rfl, ?_⟩) (by assumption) ?_
        rotate_left
        · (intro wv hSw; (try dsimp only at hSw); obtain ⟨hcq, _⟩ := bcell hSw; have hsq := Below.size hSw; have q0 := (hcq _ _ xl).trans x0; have q1 := (hcq _ _ xl).trans x1; have q2 := (hcq _ _ xl).trans x2; have ql := Nat.lt_of_lt_of_le xl hsq; go_simp; try with_reducible rfl)
        try simp only [Act.put, List.setIfInBounds_toArray, List.set_cons_zero, List.set_cons_succ]
        refine wpAnyM_take (i := 2) (v := ?_) (by simp only [List.getElem?_toArray, List.getElem?_cons_succ, List.getElem?_cons_zero] <;> rfl) (by kernel_rfl) (by kernel_rfl) (by kernel_rfl) (by kernel_rfl) (by kernel_rfl) (fun _ _ _ h => h) (Or.inl ⟨by rfl, ?_⟩) (by assumption) ?_
        rotate_left
        · (intro wv hSw; (try dsimp only at hSw); obtain ⟨hcq, _⟩ := bcell hSw; have hsq := Below.size hSw; go_simp; try with_reducible rfl)
        try simp only [Act.put, List.setIfInBounds_toArray, List.set_cons_zero, List.set_cons_succ]
        refine wpAnyM_take (i := 3) (v := ?_) (by simp only [List.getElem?_toArray, List.getElem?_cons_succ, List.getElem?_cons_zero] <;> rfl) (by kernel_rfl) (by kernel_rfl) (by kernel_rfl) (by kernel_rfl) (by kernel_rfl) (fun _ _ _ h => h) (Or.inl ⟨by rfl, ?_⟩) (by assumption) ?_
        rotate_left
        · (intro wv hSw; (try dsimp only at hSw); obtain ⟨hcq, _⟩ := bcell hSw; have hsq := Below.size hSw; go_simp; try with_reducible rfl)
        try simp only [Act.put, List.setIfInBounds_toArray, List.set_cons_zero, List.set_cons_succ]
        refine wpAnyM_take (i := 4) (v := ?_) (by simp only [List.getElem?_toArray, List.getElem?_cons_succ, List.getElem?_cons_zero] <;> rfl) (by kernel_rfl) (by kernel_rfl) (by kernel_rfl) (by kernel_rfl) (by kernel_rfl) (fun _ _ _ h => h) (Or.inl ⟨by rfl, ?_⟩) (by assumption) ?_
        rotate_left
        · (intro wv hSw; (try dsimp only at hSw); obtain ⟨hcq, _⟩ := bcell hSw; have hsq := Below.size hSw; go_simp; try with_reducible rfl)
        try simp only [Act.put, List.setIfInBounds_toArray, List.set_cons_zero, List.set_cons_succ]
        refine wpAnyM_take (i := 5) (v := ?_) (by simp only [List.getElem?_toArray, List.getElem?_cons_succ, List.getElem?_cons_zero] <;> rfl) (by kernel_rfl) (by kernel_rfl) (by kernel_rfl) (by kernel_rfl) (by kernel_rfl) (fun _ _ _ h => h) (Or.inl ⟨by rfl, ?_⟩) (by assumption) ?_
        rotate_left
        · (intro wv hSw; (try dsimp only at hSw); obtain ⟨hcq, _⟩ := bcell hSw; have hsq := Below.size hSw; have q0 := (hcq _ _ pl).trans p0; have ql := Nat.lt_of_lt_of_le pl hsq; go_simp; try with_reducible rfl)
        try simp only [Act.put, List.setIfInBounds_toArray, List.set_cons_zero, List.set_cons_succ]
        refine wpAnyM_take (i := 6) (v := ?_) (by simp only [List.getElem?_toArray, List.getElem?_cons_succ, List.getElem?_cons_zero] <;> rfl) (by kernel_rfl) (by kernel_rfl) (by kernel_rfl) (by kernel_rfl) (by kernel_rfl) (fun _ _ _ h => h) (Or.inl ⟨by rfl, ?_⟩) (by assumption) ?_
        rotate_left
        · (intro wv hSw; (try dsimp only at hSw); obtain ⟨hcq, _⟩ := bcell hSw; have hsq := Below.size hSw; go_simp; try with_reducible rfl)
        try simp only [Act.put, List.setIfInBounds_toArray, List.set_cons_zero, List.set_cons_succ]
        refine wpAnyM_ready (rs := [1]) (by kernel_rfl) (by simp) ?_
        refine AllReadyM.cons rfl (fun K hK => ?_) AllReadyM.nil
        go_simp
        refine Calls.mono (KTT.out _ (below_callS HB6.out hHeld)) ?_
        rintro e w7 ⟨rfl, hb7⟩
        have hb7' := below_callS hHeld hb7
        go_wp2_with fail
        refine hK.out _ _ hb7' (fun hHeld => ?_)
        clear hK K
        try simp only [Act.put, List.setIfInBounds_toArray, List.set_cons_zero, List.set_cons_succ]
        refine wpAnyM_ready (rs := [7]) (by kernel_rfl) (by simp) ?_
        refine AllReadyM.cons rfl (fun K hK => ?_) AllReadyM.nil
        go_simp
        refine Calls.mono (spec_l22Canonical HFR.out (by omega) (B6.out.own.flats.keep hb7') i2) ?_
        rintro e w8 ⟨da, dc, rfl, hO, hb8⟩
        rw [← HTS.out] at hO ⊢
        have hb8' := below_callS hb7' hb8
        have O8 := Lib.hid hO
        have hs8 := hb8.size
        have hs7 := hb7'.size
        clear hO
        go_wp2_with fail
        refine hK.out _ _ hb8' (fun hHeld => ?_)
        clear hK K
        try simp only [Act.put, List.setIfInBounds_toArray, List.set_cons_zero, List.set_cons_succ]
        refine wpAnyM_ready (rs := [8]) (by kernel_rfl) (by simp) ?_
        refine AllReadyM.cons rfl (fun K hK => ?_) AllReadyM.nil
        go_simp
        refine Calls.mono (spec_l22Small O8.out (by omega) (by omega)) ?_
        rintro e w9 ⟨ea, ec, rfl, hO, hb9⟩
        rw [lmC_yes (show TL.length ≤ 2000 by omega)] at hO ⊢
        have hb9' := below_callS hb8' hb9
        have R9 := Lib.hid (R6.out.keep hb9')
        have HB9 := Lib.hid (below_callS HB6.out hb9')
        have O9 := Lib.hid hO
        clear hO x0 x1 x2 xl p0 pl
        go_wp2_with fail
        refine hK.out _ _ hb9' (fun hHeld => ?_)
        clear hK K
        try simp only [Act.put, List.setIfInBounds_toArray, List.set_cons_zero, List.set_cons_succ]
        have r0 := R9.out.cell 0
        have r1 := R9.out.cell 1
        have r2 := R9.out.cell 2
        have rl := R9.out.lt
        have rf := R9.out.free
        simp only [List.getElem?_toArray, List.getElem?_cons_zero, List.getElem?_cons_succ] at r0 r1 r2
        refine wpAnyM_take (i := 9) (v := ?_) (by simp only [List.getElem?_toArray, List.getElem?_cons_succ, List.getElem?_cons_zero] <;> rfl) (by kernel_rfl) (by kernel_rfl) (by kernel_rfl) (by kernel_rfl) (by kernel_rfl) (fun _ _ _ h => h) (Or.inl ⟨by rfl, ?_⟩) (by assumption) ?_
        rotate_left
        · (intro wv hSw; (try dsimp only at hSw); obtain ⟨hcq, _⟩ := bcell hSw; have hsq := Below.size hSw; go_simp; try with_reducible rfl)
        try simp only [Act.put, List.setIfInBounds_toArray, List.set_cons_zero, List.set_cons_succ]
        refine wpAnyM_take (i := 10) (v := ?_) (by simp only [List.getElem?_toArray, List.getElem?_cons_succ, List.getElem?_cons_zero] <;> rfl) (by kernel_rfl) (by kernel_rfl) (by kernel_rfl) (by kernel_rfl) (by kernel_rfl) (fun _ _ _ h => h) (Or.inl ⟨by rfl, ?_⟩) (by assumption) ?_
        rotate_left
        · (intro wv hSw; (try dsimp only at hSw); obtain ⟨hcq, _⟩ := bcell hSw; have hsq := Below.size hSw; go_simp; try with_reducible rfl)
        try simp only [Act.put, List.setIfInBounds_toArray, List.set_cons_zero, List.set_cons_succ]
        refine wpAnyM_ready (rs := [11]) (by kernel_rfl) (by simp) ?_
        refine AllReadyM.last rfl (fun K hK => ?_)
        go_simp
        refine hK.out _ _ ?_
        clear hK K
        try simp only [Act.put, List.setIfInBounds_toArray, List.set_cons_zero, List.set_cons_succ]
        refine wpAnyM_ready (rs := [12]) (by kernel_rfl) (by simp) ?_
        refine AllReadyM.then (by kernel_rfl) rfl (fun K hK => ?_)
        go_simp
        refine hK.out _ _ ?_
        clear hK K
        try simp only [Act.put, List.setIfInBounds_toArray, List.set_cons_zero, List.set_cons_succ]
        refine wpAnyM_done (by kernel_rfl) ?_ _
        refine NoPanic.normal ?_
        clear hHeld
        have hne : ∀ y, ea = some ⟨y, 0, none⟩ → (some (w.heap.size + 1) : Option Nat) ≠ some y := fun y e e' => by
          have := (O9.out.blk y e).1
          simp at e'
          omega
        have hbz : Below w.heap.size w w9 := HB9.out
        clear hb7 hb7' hb8 hb8' hb9 hb9'
        go_wp2
        refine bodyPost_ret (v := .tuple #[.agg #[.int .i64 (offN sz sz.length : Int), .slice ea TL.length ec, .int .i64 TR], .int .i64 0]) (by simp [results, Try.results31, go_sem, *]) rfl ⟨ea, ec, by rw [HC.out], ?_, ?_⟩
        · rw [HC.out]
          exact (((O9.out.keepG (set_grown _ _ _) hne).keepG (set_grown _ _ _) hne).keepG (set_grown _ _ _) hne).le (by omega)
        · repeat (first | exact Below.refl _ _ | assumption | refine below_allocS ?_ _ | refine below_callS ?_ (by assumption) | (refine Below.alloc ?_ (by first | omega | (simp; done) | (simp; omega)) _) | (refine Below.setCell ?_ (by first | omega | (simp; done) | (simp; omega)) _) | refine Below.drew ?_ | refine below_drewN ?_ _ | (refine below_call ?_ (by assumption) (by first | omega | (simp; done) | (simp; omega))) | (refine Below.trans ?_ (by assumption)))
end Go.Proofs.Ytkaikbaagajckaa
