/- The states of a diagram: the reference, walked.; The diagram of states: the reference, walked.; The next states of states, and their diagram: the reference, walked.; NextDiagram by what the model means. -/
import Derived.Test.YtkaikbaagajckaaGreatN34
import Derived.Test.YtkaikbaagajckaaGreatN25
import Derived.Test.YtkaikbaagajckaaGreatPu
import Derived.Test.YtkaikbaagajckaaGreatN24
import Derived.Test.YtkaikbaagajckaaGreatN32
import Derived.Test.YtkaikbaagajckaaGreatN22
import Derived.Test.YtkaikbaagajckaaGreatN21
import Derived.Test.YtkaikbaagajckaaGreatN13
namespace Go.Proofs.YtkaikbaagajckaaGreat
open Go.RowKit
set_option linter.unusedVariables false
set_option linter.unusedSimpArgs false
attribute [local go_sem ↓] Go.wp_at_zero Go.wp_at_succ
theorem sd_code {sz st : List Int} {l : List (RM × RuD)} {inp : Int} {L : List I3} {root : Int} (h : cdC sz st l inp L root ≠ 0) : sdC sz st l inp L root = ([], cdC sz st l inp L root) := by
  cases hm : modelB sz st l
  · rw [cdC_1 hm, sdC_1 hm]
  · cases hd : diaB inp L root
    · rw [cdC_2 hm hd, sdC_2 hm hd]
    · by_cases hi : inp = (offN sz sz.length : Int)
      · exact absurd (cdC_4 hm hd hi) h
      · rw [cdC_3 hm hd hi, sdC_3 hm hd hi]
theorem cd_zero {sz st : List Int} {l : List (RM × RuD)} {inp : Int} {L : List I3} {root : Int} (h : cdC sz st l inp L root = 0) : modelB sz st l = true ∧ diaB inp L root = true ∧ inp = (offN sz sz.length : Int) := by
  cases hm : modelB sz st l
  · rw [cdC_1 hm] at h; exact absurd h (by decide)
  · cases hd : diaB inp L root
    · rw [cdC_2 hm hd] at h; exact absurd h (by decide)
    · by_cases hi : inp = (offN sz sz.length : Int)
      · exact ⟨rfl, rfl, hi⟩
      · rw [cdC_3 hm hd hi] at h; exact absurd h (by decide)
theorem SRow.empty9 {lo : Nat} (w : World) (h : lo ≤ w.heap.size) : SRow (w.alloc (.cells #[] 22)) lo lo (some ⟨w.heap.size, 0, none⟩) 0 0 [] :=
  ⟨OwnF.lit w [] h rfl (by decide) encS_len (fun _ h => by cases h) rfl, fun _ h => by cases h⟩
set_option maxRecDepth 100000 in
set_option maxHeartbeats 8000000 in
theorem spec_l23States {sa ta ra da : Option Addr} {sn sc tn tc rn rc dc : Nat} {sz st : List Int} {l : List (RM × RuD)} {inp root : Int} {L : List I3} {w : World} (hI : Ints w sa sn sc sz) (hn : sn ≤ 1048576) (hT : Ints w ta tn tc st) (ht : tn ≤ 1048576) (hR : FR w w ra rn rc l) (hr : rn ≤ 1048576) (hD : F3 w da L.length dc L) (hdl : L.length ≤ maxLen) (hi64 : I64 inp) (hr64 : I64 root) :
    Calls Tryz.prog 49 #[.agg #[.slice sa sn sc, .slice ta tn tc, .slice ra rn rc], .agg #[.int .i64 inp, .slice da L.length dc, .int .i64 root]] w (SdR false w (sdC sz st l inp L root)) := by
  have hb0 : Below w.heap.size w ((w.alloc (.cells #[.slice sa sn sc, .slice ta tn tc, .slice ra rn rc] 36)).alloc (.cells #[.int .i64 inp, .slice da L.length dc, .int .i64 root] 40)) := bel
  have X := Lib.hid ((Blk.made w #[.slice sa sn sc, .slice ta tn tc, .slice ra rn rc] 36).keep (below_alloc1 (Below.refl _ _) (.cells #[.int .i64 inp, .slice da L.length dc, .int .i64 root] 40)))
  have D := Lib.hid (Blk.made1 w (.cells #[.slice sa sn sc, .slice ta tn tc, .slice ra rn rc] 36) #[.int .i64 inp, .slice da L.length dc, .int .i64 root] 40)
  have KC := spec_l23Code (inp := inp) (root := root) (hI.keep hb0) hn (hT.keep hb0) ht (hR.self hb0) hr (hD.keep hb0) hdl hi64 hr64 (sa := sa) (sc := sc) (ta := ta) (tc := tc) (ra := ra) (rc := rc) (da := da) (dc := dc)
  by_cases hc : cdC sz st l inp L root = 0
  · obtain ⟨hm, hd, hi⟩ := cd_zero hc
    rw [hc] at KC
    have K1 := Lib.hid KC
    subst hi
    have hsl : sz.length = sn := hI.len
    subst hsl
    have hs := modelB_all hm
    have h16 := modelB_len hm
    have hS := dia_snd hd
    obtain ⟨_, hrr, h0, h20, hll, _, _⟩ := dia_redu hd
    have KO := Lib.hid (fun (bO : Nat) (wx : World) (hb : Below w.heap.size w wx) (hG : OnW wx w.heap.size bO []) => spec_l23Ones (ta := ta) (tn := tn) (tc := tc) (ra := ra) (rn := rn) (rc := rc) (root := root) hI h16 hs hD hS hll (offN sz sz.length) 0 root [] [] none 0 wx hb hG (OwnI.nil _ _ _) rfl (fun x hx => by cases hx) (by omega) (beg_nil hs _) hrr (lvl_pos hS.ord (by omega) hrr) (by simp))
    obtain ⟨o1, o2⟩ := on_all hs hS hrr
    have HB0 := Lib.hid hb0
    have HC4 := Lib.hid (fun h4 => sdC_4 (st := st) (l := l) hm hd rfl h4)
    have HC5 := Lib.hid (fun h5 => sdC_5 (st := st) (l := l) hm hd rfl h5)
    generalize hON : onF sz (offN sz sz.length : Int) L (offN sz sz.length) (offN sz sz.length) root [] [] = A at *
    clear KC hc hm hd hI hT hR hD hb0 hS hrr hs
    have K0 := (show ∀ (wx : World), Below w.heap.size w wx → True from fun _ _ => trivial)
    clear K0 hON
    cases hA : A.2
    · rw [hA] at KO o1
      have h4 : ¬ (xsN sz L (offN sz sz.length) root []).length ≤ 4000 := of_decide_eq_false o1.symm
      have HC := Lib.hid (HC4.out h4)
      clear o1 o2 h4 HC4 HC5 hA
      go_enter Tryz.func49, Tryz.ntmps49
      go_wp2_with fail
      refine Calls.mono K1.out ?_
      rintro e w1 ⟨rfl, hb⟩
      have X1 := Lib.hid (X.out.keep hb)
      have D1 := Lib.hid (D.out.keep hb)
      have HB1 := Lib.hid (below_callS HB0.out hb)
      clear hb X D HB0 K1
      obtain ⟨w2, hw2⟩ : ∃ W, W = w1.alloc (.cells #[] 22) := ⟨_, rfl⟩
      obtain ⟨w3, hw3⟩ : ∃ W, W = w2.alloc (.cells #[.slice (some ⟨w1.heap.size, 0, none⟩) 0 0] 31) := ⟨_, rfl⟩
      have hb2 : Below w1.heap.size w1 w2 := by rw [hw2]; exact below_alloc1 (Below.refl _ _) _
      have hb3 : Below w2.heap.size w2 w3 := by rw [hw3]; exact below_alloc1 (Below.refl _ _) _
      have hs1 := HB1.out.size
      have hs2 := hb2.size
      have hz2 : w2.heap.size = w1.heap.size + 1 := by rw [hw2]; simp
      have GG := Lib.hid (show OnW w3 w.heap.size (w1.heap.size + 1) [] from ⟨⟨_, _, _, [], by rw [hw3, ← hz2]; exact Blk.made _ _ _, (show SRow w2 w.heap.size w.heap.size (some ⟨w1.heap.size, 0, none⟩) 0 0 [] by rw [hw2]; exact SRow.empty9 w1 hs1).keep hb3, rfl⟩, by omega, by have := hb3.size; omega⟩)
      have hb23 := below_callS hb2 hb3
      have X3 := Lib.hid (X1.out.keep hb23)
      have D3 := Lib.hid (D1.out.keep hb23)
      have HB3 := Lib.hid (below_callS HB1.out hb23)
      clear hb2 hb3 hb23 X1 D1 HB1 hs1 hs2 hz2
      have x0 := X3.out.cell 0
      have x1 := X3.out.cell 1
      have x2 := X3.out.cell 2
      have xl := X3.out.lt
      have y0 := D3.out.cell 0
      have y1 := D3.out.cell 1
      have y2 := D3.out.cell 2
      have yl := D3.out.lt
      simp only [List.getElem?_toArray, List.getElem?_cons_zero, List.getElem?_cons_succ] at x0 x1 x2 y0 y1 y2
      subst hw3 hw2
      go_wp2_with fail
      refine Calls.mono (KO.out _ _ HB3.out GG.out) ?_
      rintro e w6 ⟨rfl, hG6, hst, hb6⟩
      go_wp2
      go_ret2
      exact ⟨none, 0, [], by rw [HC.out]; rfl, by rw [HC.out]; exact SRow.nil _ _ _, by rw [HC.out]; rfl, hb6, fun _ => List.Pairwise.nil⟩
    · rw [hA] at KO o1
      have h4 : (xsN sz L (offN sz sz.length) root []).length ≤ 4000 := of_decide_eq_true o1.symm
      have HC := Lib.hid (HC5.out h4)
      have HX := Lib.hid (o2 hA)
      clear o1 o2 h4 HC4 HC5 hA
      go_enter Tryz.func49, Tryz.ntmps49
      go_wp2_with fail
      refine Calls.mono K1.out ?_
      rintro e w1 ⟨rfl, hb⟩
      have X1 := Lib.hid (X.out.keep hb)
      have D1 := Lib.hid (D.out.keep hb)
      have HB1 := Lib.hid (below_callS HB0.out hb)
      clear hb X D HB0 K1
      obtain ⟨w2, hw2⟩ : ∃ W, W = w1.alloc (.cells #[] 22) := ⟨_, rfl⟩
      obtain ⟨w3, hw3⟩ : ∃ W, W = w2.alloc (.cells #[.slice (some ⟨w1.heap.size, 0, none⟩) 0 0] 31) := ⟨_, rfl⟩
      have hb2 : Below w1.heap.size w1 w2 := by rw [hw2]; exact below_alloc1 (Below.refl _ _) _
      have hb3 : Below w2.heap.size w2 w3 := by rw [hw3]; exact below_alloc1 (Below.refl _ _) _
      have hs1 := HB1.out.size
      have hs2 := hb2.size
      have hz2 : w2.heap.size = w1.heap.size + 1 := by rw [hw2]; simp
      have GG := Lib.hid (show OnW w3 w.heap.size (w1.heap.size + 1) [] from ⟨⟨_, _, _, [], by rw [hw3, ← hz2]; exact Blk.made _ _ _, (show SRow w2 w.heap.size w.heap.size (some ⟨w1.heap.size, 0, none⟩) 0 0 [] by rw [hw2]; exact SRow.empty9 w1 hs1).keep hb3, rfl⟩, by omega, by have := hb3.size; omega⟩)
      have hb23 := below_callS hb2 hb3
      have X3 := Lib.hid (X1.out.keep hb23)
      have D3 := Lib.hid (D1.out.keep hb23)
      have HB3 := Lib.hid (below_callS HB1.out hb23)
      clear hb2 hb3 hb23 X1 D1 HB1 hs1 hs2 hz2
      have x0 := X3.out.cell 0
      have x1 := X3.out.cell 1
      have x2 := X3.out.cell 2
      have xl := X3.out.lt
      have y0 := D3.out.cell 0
      have y1 := D3.out.cell 1
      have y2 := D3.out.cell 2
      have yl := D3.out.lt
      simp only [List.getElem?_toArray, List.getElem?_cons_zero, List.getElem?_cons_succ] at x0 x1 x2 y0 y1 y2
      subst hw3 hw2
      go_wp2_with fail
      refine Calls.mono (KO.out _ _ HB3.out GG.out) ?_
      rintro e w6 ⟨rfl, hG6, hst, hb6⟩
      obtain ⟨a, q, cq, l2, hB, hRow, hmap⟩ := hG6.o
      have HB6 := Lib.hid hb6
      have HRow := Lib.hid hRow
      have HM := Lib.hid (hmap.trans HX.out)
      have hq : q = (xsN sz L (offN sz sz.length) root []).length := by rw [← HM.out, List.length_map, hRow.len]
      have HQ := Lib.hid hq
      have o0 := hB.cell 0
      have ol := hB.lt
      simp at o0
      clear hq hB hRow hmap hb6 hst hG6 x0 x1 x2 xl y0 y1 y2 yl
      go_wp2
      go_ret2
      refine ⟨a, cq, l2, by rw [HC.out, HQ.out]; rfl, ?_, by rw [HC.out]; exact HM.out, HB6.out, fun h => by cases h⟩
      rw [HC.out]
      have := HRow.out
      rw [HQ.out] at this
      exact this
  · have HC := Lib.hid (sd_code hc)
    have K1 := Lib.hid KC
    obtain ⟨v, hv⟩ : ∃ v, v = cdC sz st l inp L root := ⟨_, rfl⟩
    rw [← hv] at K1 HC hc
    have hv0 : (v != 0) = true := by simpa using hc
    clear KC hI hT hR hD hv hc
    go_enter Tryz.func49, Tryz.ntmps49
    go_wp2_with fail
    refine Calls.mono K1.out ?_
    rintro e w1 ⟨rfl, hb⟩
    go_wp2
    go_ret2
    exact ⟨none, 0, [], by rw [HC.out]; rfl, by rw [HC.out]; exact SRow.nil _ _ _, by rw [HC.out]; rfl, below_callS hb0 hb, fun _ => List.Pairwise.nil⟩
end Go.Proofs.YtkaikbaagajckaaGreat
namespace Go.Proofs.YtkaikbaagajckaaGreat
open Go.RowKit
set_option linter.unusedVariables false
set_option linter.unusedSimpArgs false
attribute [local go_sem ↓] Go.wp_at_zero Go.wp_at_succ
/-- a list of states that are read -/
def StsF (w : World) (sz : List Int) (a : Option Addr) (n c : Nat) (ls : List (QM × List Int)) : Prop :=
  Flats 1 encS (fun x => Ints w x.1.a x.1.n x.1.c x.2 ∧ stateB sz x.2 = true) w a n c ls
theorem StsF.keep {w w' : World} {sz : List Int} {a : Option Addr} {n c : Nat} {ls : List (QM × List Int)} (h : StsF w sz a n c ls) (hb : Below w.heap.size w w') : StsF w' sz a n c ls := by
  have h1 := Flats.keep h hb
  exact ⟨h1.len, h1.cap, h1.pos, fun x hx => ⟨(h.wf x hx).1.keep hb, (h.wf x hx).2⟩, h1.nil⟩
theorem StsF.get {w : World} {sz : List Int} {a : Option Addr} {n c : Nat} {ls : List (QM × List Int)} (h : StsF w sz a n c ls) {i : Nat} (hi : i < n) :
    ∃ b off R v, a = some ⟨b, off, none⟩ ∧ b < w.heap.size ∧ ls[i]? = some (R, v) ∧ Ints w R.a R.n R.c v ∧ stateB sz v = true ∧ w.cell? ⟨b, off + i, none⟩ = some (.slice R.a R.n R.c) := by
  obtain ⟨b, off, x, h1, h2, h3, h4, h5⟩ := Flats.at h hi
  have := h5 0 _ rfl
  rw [Nat.mul_one] at this
  exact ⟨b, off, x.1, x.2, h1, h2, h3, h4.1, h4.2, by simpa using this⟩
set_option maxRecDepth 100000 in
set_option maxHeartbeats 8000000 in
theorem spec_l23Diagram {sa ta ra a : Option Addr} {sn sc tn tc rn rc n c : Nat} {sz : List Int} {ls : List (QM × List Int)} {w : World} (hI : Ints w sa sn sc sz) (hn : sn ≤ 16) (hs : allIn 1 32 sz = true) (hsm : smB sz = true) (hK : StsF w sz a n c ls) (hn' : n ≤ 1048576) :
    Calls Tryz.prog 64 #[.agg #[.slice sa sn sc, .slice ta tn tc, .slice ra rn rc], .slice a n c] w (DgR w (sdgN sz (ls.map (·.2)))) := by
  obtain rfl : sz.length = sn := hI.len
  have hsum := (off_sum hs hn).1
  have hofl := sm_off hs hsm
  have HI := Lib.hid hI
  have HK := Lib.hid hK
  have HS := Lib.hid hs
  have hln := Flats.len hK
  have KB := Lib.hid (fun (R : QM) (v : List Int) (wx : World) (hb : Below w.heap.size w wx) (hv : Ints wx R.a R.n R.c v) (hst : stateB sz v = true) => spec_l23Bits (ta := ta) (tn := tn) (tc := tc) (ra := ra) (rn := rn) (rc := rc) (hI.keep hb) hv hn hs hst)
  have KT := fun (wx : World) (hb : Below w.heap.size w wx) => spec_l23Total (ta := ta) (tn := tn) (tc := tc) (ra := ra) (rn := rn) (rc := rc) (hI.keep hb) (by omega) hs
  rw [hsum] at KT
  have KT := Lib.hid KT
  obtain ⟨w1, hw1⟩ : ∃ w1, w1 = (w.alloc (.cells #[.slice sa sz.length sc, .slice ta tn tc, .slice ra rn rc] 36)).alloc (.cells #[.int .i64 0, .slice none 0 0, .int .i64 0] 40) := ⟨_, rfl⟩
  have hbA : Below w.heap.size w w1 := by rw [hw1]; exact below_alloc1 (below_alloc1 (Below.refl _ _) _) _
  have hsA : w1.heap.size = w.heap.size + 1 + 1 := by rw [hw1]; simp
  have XA := Lib.hid (show Blk w1 w.heap.size #[.slice sa sz.length sc, .slice ta tn tc, .slice ra rn rc] 36 by rw [hw1]; exact (Blk.made _ _ _).keep (below_alloc1 (Below.refl _ _) _))
  have RA := Lib.hid (show Blk w1 (w.heap.size + 1) #[.int .i64 0, .slice none 0 0, .int .i64 0] 40 by rw [hw1]; exact Blk.made1 _ _ _ _)
  obtain ⟨W, hW⟩ : ∃ W, W = w1.alloc (.cells #[] 22) := ⟨_, rfl⟩
  have hbW1 : Below w1.heap.size w1 W := by rw [hW]; exact below_alloc1 (Below.refl _ _) _
  have hbW := below_callS hbA hbW1
  have X0 := Lib.hid (XA.out.keep hbW1)
  have R0 := Lib.hid (RA.out.keep hbW1)
  have S0 := Lib.hid (show SRow W w1.heap.size w.heap.size (some ⟨w.heap.size + 1 + 1, 0, none⟩) 0 0 [] by rw [hW, ← hsA]; exact SRow.e1)
  have HBW := Lib.hid hbW
  have hsW := hbW.size
  have hsW1 := hbW1.size
  clear hI hs hsm hK hsum XA RA hbA hbW hbW1
  go_enter Tryz.func64, Tryz.ntmps64
  go_wp2_with fail
  rw [← hw1, ← hW]
  clear hw1 hW
  go_loopw [6, 7] (fun s6 s7 wr => ∃ (j cd : Nat) (ad : Option Addr) (ld : List (QM × List Int)), s6 = .slice ad j cd ∧ s7 = .int .i64 j ∧ j ≤ n ∧ W.heap.size ≤ wr.heap.size ∧ Hid (Below w.heap.size w wr) ∧ Hid (Blk wr w.heap.size #[.slice sa sz.length sc, .slice ta tn tc, .slice ra rn rc] 36) ∧ Hid (Blk wr (w.heap.size + 1) #[.int .i64 0, .slice none 0 0, .int .i64 0] 40) ∧ Hid (SRow wr w1.heap.size w.heap.size ad j cd ld) ∧ Hid (ld.map (·.2) = (ls.take j).map fun x => stBits sz x.2)) (fun _ s7 _ => n - (intOf s7).toNat)
  case atStart => exact ⟨0, 0, _, [], rfl, rfl, by omega, Nat.le_refl _, HBW, X0, R0, S0, Lib.hid (by simp)⟩
  case round =>
    clear HBW X0 R0 S0
    obtain ⟨j, cd, ad, ld, rfl, rfl, hj, hsr, HB, X, R, SD, A⟩ := hrel
    by_cases hlt : j < n
    · have hlt' : (j : Int) < (n : Int) := by omega
      have hj0 : (0 : Int) ≤ (j : Int) := by omega
      obtain ⟨b, off, Q, v, rfl, hb, hx, hv, hst, hc⟩ := (HK.out.keep HB.out).get hlt
      have HA := Lib.hid (show ∀ q : QM, (ld ++ [(q, stBits sz v)]).map (·.2) = (ls.take (j + 1)).map fun x => stBits sz x.2 from fun q => by rw [List.map_append, A.out, take_at hx, List.map_append]; rfl)
      have HV := Lib.hid hv
      have HST := Lib.hid hst
      have x0 := X.out.cell 0
      have x1 := X.out.cell 1
      have x2 := X.out.cell 2
      have xl := X.out.lt
      simp only [List.getElem?_toArray, List.getElem?_cons_zero, List.getElem?_cons_succ] at x0 x1 x2
      clear hx hv hst A
      go_wp2_with fail
      refine wp_region_noPanic ?_
      refine wp_region_M (L := 8) (S := (fun wx => Below wr.heap.size wr wx)) (by kernel_rfl) ?_ (fun hHeld => ?_)
      · exact (Below.refl _ _).drew
      refine tkM0 0 (v := ?_) ?_ ?_
      rotate_left
      · (intro wv hSw; (try dsimp only at hSw); obtain ⟨hcq, _⟩ := bcell hSw; have hsq := Below.size hSw; have q0 := (hcq _ _ xl).trans x0; have q1 := (hcq _ _ xl).trans x1; have q2 := (hcq _ _ xl).trans x2; have ql := Nat.lt_of_lt_of_le xl hsq; have r0 := (hcq _ _ hb).trans hc; have rl := Nat.lt_of_lt_of_le hb hsq; go_simp; try with_reducible rfl)
      try simp only [pu]
      refine tkM0 1 (v := ?_) ?_ ?_
      rotate_left
      · (intro wv hSw; (try dsimp only at hSw); obtain ⟨hcq, _⟩ := bcell hSw; have hsq := Below.size hSw; have q0 := (hcq _ _ xl).trans x0; have q1 := (hcq _ _ xl).trans x1; have q2 := (hcq _ _ xl).trans x2; have ql := Nat.lt_of_lt_of_le xl hsq; have r0 := (hcq _ _ hb).trans hc; have rl := Nat.lt_of_lt_of_le hb hsq; go_simp; try with_reducible rfl)
      try simp only [pu]
      refine tkM0 2 (v := ?_) ?_ ?_
      rotate_left
      · (intro wv hSw; (try dsimp only at hSw); obtain ⟨hcq, _⟩ := bcell hSw; have hsq := Below.size hSw; have q0 := (hcq _ _ xl).trans x0; have q1 := (hcq _ _ xl).trans x1; have q2 := (hcq _ _ xl).trans x2; have ql := Nat.lt_of_lt_of_le xl hsq; have r0 := (hcq _ _ hb).trans hc; have rl := Nat.lt_of_lt_of_le hb hsq; go_simp; try with_reducible rfl)
      try simp only [pu]
      refine tkM0 3 (v := ?_) ?_ ?_
      rotate_left
      · (intro wv hSw; (try dsimp only at hSw); obtain ⟨hcq, _⟩ := bcell hSw; have hsq := Below.size hSw; have q0 := (hcq _ _ xl).trans x0; have q1 := (hcq _ _ xl).trans x1; have q2 := (hcq _ _ xl).trans x2; have ql := Nat.lt_of_lt_of_le xl hsq; have r0 := (hcq _ _ hb).trans hc; have rl := Nat.lt_of_lt_of_le hb hsq; go_simp; try with_reducible rfl)
      try simp only [pu]
      refine tkM0 4 (v := ?_) ?_ ?_
      rotate_left
      · (intro wv hSw; (try dsimp only at hSw); obtain ⟨hcq, _⟩ := bcell hSw; have hsq := Below.size hSw; have q0 := (hcq _ _ xl).trans x0; have q1 := (hcq _ _ xl).trans x1; have q2 := (hcq _ _ xl).trans x2; have ql := Nat.lt_of_lt_of_le xl hsq; have r0 := (hcq _ _ hb).trans hc; have rl := Nat.lt_of_lt_of_le hb hsq; go_simp; try with_reducible rfl)
      try simp only [pu]
      refine tkM0 5 (v := ?_) ?_ ?_
      rotate_left
      · (intro wv hSw; (try dsimp only at hSw); obtain ⟨hcq, _⟩ := bcell hSw; have hsq := Below.size hSw; have q0 := (hcq _ _ xl).trans x0; have q1 := (hcq _ _ xl).trans x1; have q2 := (hcq _ _ xl).trans x2; have ql := Nat.lt_of_lt_of_le xl hsq; have r0 := (hcq _ _ hb).trans hc; have rl := Nat.lt_of_lt_of_le hb hsq; go_simp; try with_reducible rfl)
      try simp only [pu]
      refine wpAnyM_ready (rs := [6]) (by kernel_rfl) (by simp) ?_
      refine AllReadyM.cons rfl (fun K hK => ?_) AllReadyM.nil
      go_simp
      refine Calls.mono (KB.out Q v _ (below_call HB.out hHeld HB.out.size) (HV.out.keep hHeld) HST.out) ?_
      rintro e w6 ⟨m6, a6, c6, rfl, hb6, ho6, hm6⟩
      have hb6' := below_callS hHeld hb6
      have O6 := Lib.hid (ho6.le (show w.heap.size ≤ _ by have := Below.size hHeld; omega))
      clear ho6 hb6 x0 x1 x2 xl hb hc
      go_wp2_with fail
      refine hK.out _ _ hb6' (fun hHeld => ?_)
      clear hK K
      try simp only [pu]
      refine wpAnyM_ready (rs := [7]) (by kernel_rfl) (by simp) ?_
      refine AllReadyM.cons rfl (fun K hK => ?_) AllReadyM.nil
      go_simp
      have hb7 : Below w6.heap.size w6 (w6.alloc (.cells #[.slice a6 m6 c6] 22)) := below_alloc1 (Below.refl _ _) _
      have hb7' := below_callS hb6' hb7
      have O7 := Lib.hid (O6.out.keep hb7)
      refine hK.out _ _ hb7' (fun hHeld => ?_)
      clear hK K
      try simp only [pu]
      have S7 := Lib.hid (SD.out.keep hb7')
      have X7 := Lib.hid (X.out.keep hb7')
      have R7 := Lib.hid (R.out.keep hb7')
      have HB7 := Lib.hid (below_call HB.out hb7' HB.out.size)
      have hs7 := hb7'.size
      refine wpAnyM_ready (rs := [8]) (by kernel_rfl) (by simp) ?_
      refine AllReadyM.last rfl (fun K hK => ?_)
      refine wp_appSL _ _ rfl w1.heap.size w.heap.size _ _ _ _ S7.out rfl _ _ _ [(⟨a6, m6, c6⟩, stBits sz v)] rfl Flats.lit1 (fun y hy => by simp at hy; rw [hy]; exact O7.out) (by omega) (by omega) (by omega) ?_
      intro a8 c8 w8 hS8 hb8 ht8
      have S8 := Lib.hid hS8
      have X8 := Lib.hid (X7.out.keepA ht8 (blk_ne X7.out (fun {g} e => S7.out.row.typ e) (by decide)))
      have R8 := Lib.hid (R7.out.keepA ht8 (blk_ne R7.out (fun {g} e => S7.out.row.typ e) (by decide)))
      have HB8 := Lib.hid (HB7.out.trans (hb8.mono (by omega)))
      have hs8 := hb8.size
      clear hS8 hb8 ht8 hb6' hb7 hb7' O6 O7 S7 X7 R7 HB7 X R SD HB hHeld
      refine hK.out _ _ ?_
      clear hK K
      try simp only [pu]
      refine wpAnyM_ready (rs := [9]) (by kernel_rfl) (by simp) ?_
      refine AllReadyM.then (by kernel_rfl) rfl (fun K hK => ?_)
      go_simp
      refine hK.out _ _ ?_
      clear hK K
      try simp only [pu]
      refine wpAnyM_done (by kernel_rfl) ?_ _
      refine NoPanic.normal ?_
      go_wp2
      go_roundw
      case rel => exact ⟨j + 1, c8, a8, _, by go_num, by go_num, by omega, by omega, HB8, X8, R8, S8, Lib.hid (HA.out _)⟩
      case measure => simp [intOf]; omega
    · have hlt' : ¬ (j : Int) < (n : Int) := by omega
      obtain rfl : n = j := by omega
      have hA := A.out
      rw [List.take_of_length_le (by rw [hln]; exact Nat.le_refl _)] at hA
      have hAm : ld.map (·.2) = (ls.map (·.2)).map (stBits sz) := by rw [hA, List.map_map]; rfl
      have hld : ∀ x ∈ ld, x.2.length = offN sz sz.length ∧ ∀ z ∈ x.2, z = 0 ∨ z = 1 := fun x hx => by
        have h1 : x.2 ∈ ld.map (·.2) := List.mem_map_of_mem hx
        rw [hA] at h1
        obtain ⟨y, hy, e⟩ := List.mem_map.1 h1
        have h2 := stv_of HS.out (HK.out.wf y hy).2
        rw [← e]
        exact ⟨stb_len h2, stb_01 h2⟩
      have HAM := Lib.hid hAm
      have HLD := Lib.hid hld
      obtain ⟨i1, i2, _, _⟩ := st_inv (n := offN sz sz.length) (offN sz sz.length) 0 ((ls.map (·.2)).map (stBits sz)) [] (Snd.nil _) (by omega)
      have i3 := (st_ref (offN sz sz.length) 0 ((ls.map (·.2)).map (stBits sz)) []).2.2
      have h20 : 2 ^ offN sz sz.length ≤ 1048576 := Nat.le_trans (Nat.pow_le_pow_right (by decide) hofl) (by decide)
      have hsd : sdgN sz (ls.map (·.2)) = lmC (offN sz sz.length : Int) (canN mkN (stN (offN sz sz.length) 0 ((ls.map (·.2)).map (stBits sz)) []).1 (stN (offN sz sz.length) 0 ((ls.map (·.2)).map (stBits sz)) []).2).1 (canN mkN (stN (offN sz sz.length) 0 ((ls.map (·.2)).map (stBits sz)) []).1 (stN (offN sz sz.length) 0 ((ls.map (·.2)).map (stBits sz)) []).2).2 := rfl
      obtain ⟨⟨P1, P2⟩, hP⟩ : ∃ x, stN (offN sz sz.length) 0 ((ls.map (·.2)).map (stBits sz)) [] = x := ⟨_, rfl⟩
      rw [hP] at i1 i2 i3 hsd
      simp only at i1 i2 i3 hsd
      have hcl := can_length i1.redu i2
      obtain ⟨⟨C1, C2⟩, hC⟩ : ∃ x, canN mkN P1 P2 = x := ⟨_, rfl⟩
      rw [hC] at hsd hcl
      simp only at hsd hcl
      have HFR := Lib.hid i1.redu.frst
      have HP := Lib.hid hP
      have HC := Lib.hid hC
      have HSD := Lib.hid hsd
      simp only [List.length_nil, Nat.zero_add] at i3
      clear hP hC hsd
      clear hA hAm hld A i1
      have x0 := X.out.cell 0
      have x1 := X.out.cell 1
      have x2 := X.out.cell 2
      have xl := X.out.lt
      simp only [List.getElem?_toArray, List.getElem?_cons_zero, List.getElem?_cons_succ] at x0 x1 x2
      go_wp2_with fail
      obtain ⟨W4, hW4⟩ : ∃ W, W = wr.alloc (.cells #[.slice none 0 0] 110) := ⟨_, rfl⟩
      have hbW4 : Below wr.heap.size wr W4 := by rw [hW4]; exact below_alloc1 (Below.refl _ _) _
      have B4 := Lib.hid (show BldA W4 wr.heap.size wr.heap.size none 0 [] by rw [hW4]; exact ⟨Blk.made _ _ _, ⟨World.ownsRow_nil _ _ _ 3, (fun _ h => by cases h), rfl, fun _ => rfl⟩, Nat.le_refl _⟩)
      have X4 := Lib.hid (X.out.keep hbW4)
      have R4 := Lib.hid (R.out.keep hbW4)
      have A4 := Lib.hid (SD.out.lsA.keep hbW4)
      have HB4 := Lib.hid (below_call HB.out hbW4 HB.out.size)
      have hs4 := hbW4.size
      have hxr : w.heap.size + 1 < wr.heap.size := R.out.lt
      rw [← hW4]
      clear hW4 hbW4 x0 x1 x2 xl X R SD HB
      have x0 := X4.out.cell 0
      have x1 := X4.out.cell 1
      have x2 := X4.out.cell 2
      have xl := X4.out.lt
      simp only [List.getElem?_toArray, List.getElem?_cons_zero, List.getElem?_cons_succ] at x0 x1 x2
      refine Calls.mono (KT.out _ HB4.out) ?_
      rintro e w5 ⟨rfl, hb5⟩
      have X5 := Lib.hid (X4.out.keep hb5)
      have R5 := Lib.hid (R4.out.keep hb5)
      have B5 := Lib.hid (B4.out.keep hb5)
      have A5 := Lib.hid (A4.out.keep (hb5.mono hs4))
      have HB5 := Lib.hid (below_call HB4.out hb5 (by omega))
      have hs5 := hb5.size
      clear hb5 X4 R4 B4 A4 HB4 x0 x1 x2 xl
      go_wp2_with fail
      refine Calls.mono (spec_l23Set (N := offN sz sz.length) (offN sz sz.length) 0 ld [] ad n cd w5 A5.out HLD.out ⟨_, _, B5.out⟩ (by omega) hofl (by omega) (by simp; omega) (by omega)) ?_
      rintro e w6 ⟨rfl, ⟨na6, nc6, hF6⟩, hf6⟩
      have hb6 := hf6.below (Below.refl wr.heap.size w5) (by omega) (Nat.le_refl _) (Nat.le_refl _) (Nat.le_refl _)
      have X6 := Lib.hid (X5.out.keepB hb6 (by omega))
      have R6 := Lib.hid (R5.out.keepB hb6 (by omega))
      have HB6 := Lib.hid (HB5.out.trans (hb6.mono (by omega)))
      rw [HAM.out, HP.out] at hF6 ⊢
      have B6 := Lib.hid hF6
      have hs6 := hf6.size
      clear hF6 hf6 hb6 X5 R5 B5 A5 HB5
      have x0 := X6.out.cell 0
      have x1 := X6.out.cell 1
      have x2 := X6.out.cell 2
      have xl := X6.out.lt
      have p0 := B6.out.blk.cell 0
      have pl := B6.out.blk.lt
      simp only [List.getElem?_toArray, List.getElem?_cons_zero, List.getElem?_cons_succ] at x0 x1 x2 p0
      go_wp2_with fail
      refine wp_region_noPanic ?_
      refine wp_region_M (L := 11) (S := fun wx => Below w6.heap.size w6 wx) (by kernel_rfl) ?_ (fun hHeld => ?_)
      · exact (Below.refl _ _).drew
      refine tkM0 0 (v := ?_) ?_ ?_
      rotate_left
      · (intro wv hSw; (try dsimp only at hSw); obtain ⟨hcq, _⟩ := bcell hSw; have hsq := Below.size hSw; have q0 := (hcq _ _ xl).trans x0; have q1 := (hcq _ _ xl).trans x1; have q2 := (hcq _ _ xl).trans x2; have ql := Nat.lt_of_lt_of_le xl hsq; go_simp; try with_reducible rfl)
      try simp only [pu]
      refine tkMB 2 ?_
      try simp only [pu]
      refine tkMB 3 ?_
      try simp only [pu]
      refine tkMB 4 ?_
      try simp only [pu]
      refine tkM0 5 (v := ?_) ?_ ?_
      rotate_left
      · (intro wv hSw; (try dsimp only at hSw); obtain ⟨hcq, _⟩ := bcell hSw; have hsq := Below.size hSw; have q0 := (hcq _ _ pl).trans p0; have ql := Nat.lt_of_lt_of_le pl hsq; go_simp; try with_reducible rfl)
      try simp only [pu]
      refine tkMB 6 ?_
      try simp only [pu]
      refine wpAnyM_ready (rs := [1]) (by kernel_rfl) (by simp) ?_
      refine AllReadyM.cons rfl (fun K hK => ?_) AllReadyM.nil
      go_simp
      refine Calls.mono (KT.out _ (below_call HB6.out hHeld (by omega))) ?_
      rintro e w7 ⟨rfl, hb7⟩
      have hb7' := below_callS hHeld hb7
      go_wp2_with fail
      refine hK.out _ _ hb7' (fun hHeld => ?_)
      clear hK K
      try simp only [pu]
      refine wpAnyM_ready (rs := [7]) (by kernel_rfl) (by simp) ?_
      refine AllReadyM.cons rfl (fun K hK => ?_) AllReadyM.nil
      go_simp
      refine Calls.mono (spec_l22Canonical HFR.out (by omega) (B6.out.own.flats.keep hb7') i2) ?_
      rintro e w8 ⟨da, dc, rfl, hO, hb8⟩
      rw [HC.out] at hO ⊢
      have hb8' := below_callS hb7' hb8
      have O8 := Lib.hid hO
      have hs8 := hb8.size
      have hs7 := hb7'.size
      clear hO
      go_wp2_with fail
      refine hK.out _ _ hb8' (fun hHeld => ?_)
      clear hK K
      try simp only [pu]
      refine wpAnyM_ready (rs := [8]) (by kernel_rfl) (by simp) ?_
      refine AllReadyM.cons rfl (fun K hK => ?_) AllReadyM.nil
      go_simp
      refine Calls.mono (spec_l22Small (L := C1) (rt := C2) O8.out (by omega) (by omega)) ?_
      rintro e w9 ⟨ea, ec, rfl, hO, hb9⟩
      rw [← HSD.out] at hO ⊢
      have hb9' := below_callS hb8' hb9
      have R9 := Lib.hid (R6.out.keep hb9')
      have HB9 := Lib.hid (below_call HB6.out hb9' (by omega))
      have O9 := Lib.hid hO
      have hrl6 := R6.out.lt
      clear hO x0 x1 x2 xl p0 pl
      go_wp2_with fail
      refine hK.out _ _ hb9' (fun hHeld => ?_)
      clear hK K
      try simp only [pu]
      have r0 := R9.out.cell 0
      have r1 := R9.out.cell 1
      have r2 := R9.out.cell 2
      have rl := R9.out.lt
      have rf := R9.out.free
      simp only [List.getElem?_toArray, List.getElem?_cons_zero, List.getElem?_cons_succ] at r0 r1 r2
      obtain ⟨⟨D1, D2, D3, D4⟩, hD⟩ : ∃ D, sdgN sz (ls.map (·.2)) = D := ⟨_, rfl⟩
      rw [hD] at O9 ⊢
      simp only at O9
      have HD := Lib.hid hD
      clear hD HSD
      refine tkMB 9 ?_
      try simp only [pu]
      refine tkMB 10 ?_
      try simp only [pu]
      refine wpAnyM_ready (rs := [11]) (by kernel_rfl) (by simp) ?_
      refine AllReadyM.last rfl (fun K hK => ?_)
      go_simp
      refine hK.out _ _ ?_
      clear hK K
      try simp only [pu]
      refine wpAnyM_ready (rs := [12]) (by kernel_rfl) (by simp) ?_
      refine AllReadyM.then (by kernel_rfl) rfl (fun K hK => ?_)
      go_simp
      refine hK.out _ _ ?_
      clear hK K
      try simp only [pu]
      refine wpAnyM_done (by kernel_rfl) ?_ _
      refine NoPanic.normal ?_
      clear hHeld
      have hne : ∀ y, ea = some ⟨y, 0, none⟩ → (some (w.heap.size + 1) : Option Nat) ≠ some y := fun y e e' => by
        have := (O9.out.blk y e).1
        simp at e'
        omega
      have hbz : Below w.heap.size w w9 := HB9.out
      clear hb7 hb7' hb8 hb8' hb9 hb9'
      go_wp2
      refine bodyPost_ret (v := .tuple #[.agg #[.int .i64 D1, .slice ea D2.length ec, .int .i64 D3], .int .i64 D4]) (by simp [results, Tryz.results64, go_sem, *]) rfl ⟨ea, ec, by rw [HD.out], ?_, ?_⟩
      · rw [HD.out]
        exact (((O9.out.keepG (set_grown _ _ _) hne).keepG (set_grown _ _ _) hne).keepG (set_grown _ _ _) hne).le (by omega)
      · exact bel
end Go.Proofs.YtkaikbaagajckaaGreat
namespace Go.Proofs.YtkaikbaagajckaaGreat
open Go.RowKit
set_option linter.unusedVariables false
set_option linter.unusedSimpArgs false
attribute [local go_sem ↓] Go.wp_at_zero Go.wp_at_succ
theorem plc_uniq {m : Nat} {K : List (List Int)} {x : List Int} {p q : Nat} (h : AscS m K) (hp : Plc K x p) (hq : Plc K x q) : p = q := by
  rcases Nat.lt_trichotomy p q with h1 | h1 | h1
  · have hl : p < K.length := by have := hq.1; omega
    have a := hq.2.1 p _ (List.getElem?_eq_getElem hl) h1
    have b := hp.2.2 p _ (List.getElem?_eq_getElem hl) (Nat.le_refl _)
    omega
  · exact h1
  · have hl : q < K.length := by have := hp.1; omega
    have a := hp.2.1 q _ (List.getElem?_eq_getElem hl) h1
    have b := hq.2.2 q _ (List.getElem?_eq_getElem hl) (Nat.le_refl _)
    omega
theorem ins_at {m : Nat} {K : List (List Int)} {x : List Int} {p : Nat} (h : AscS m K) (hx : x.length = m) (hn : x ∉ K) (hp : Plc K x p) : insS K x = K.take p ++ [x] ++ K.drop p := by
  have e := plc_uniq h hp (tw_plc h hx)
  rw [insS, if_neg hn, e, tw_take, tw_drop]
theorem ins_len (K : List (List Int)) (x : List Int) : (insS K x).length ≤ K.length + 1 := by
  rw [insS]
  split
  · omega
  · have h := congrArg List.length (List.takeWhile_append_dropWhile (p := fun a => decide (cmpL a x < 0)) (l := K))
    rw [List.length_append] at h
    rw [List.length_append, List.length_append, List.length_singleton]
    omega
theorem nx_mem1 {rs : List RuD} {xs : List (List Int)} {i : Nat} {x : List Int} (h : x ∈ nxL rs (xs.take i)) : x ∈ nxL rs xs := by
  rw [nxL, List.mem_flatMap] at h ⊢
  obtain ⟨u, hu, h2⟩ := h
  exact ⟨u, List.mem_of_mem_take hu, h2⟩
theorem nx_mem2 {rs : List RuD} {xs : List (List Int)} {i k : Nat} {v x : List Int} (hv : xs[i]? = some v) (h : x ∈ ((nextP rs v).take k).map (·.2)) : x ∈ nxL rs xs := by
  rw [nxL, List.mem_flatMap]
  obtain ⟨q, hq, rfl⟩ := List.mem_map.1 h
  exact ⟨v, List.mem_of_getElem? hv, List.mem_map_of_mem (List.mem_of_mem_take hq)⟩
theorem srt_snoc (xs : List (List Int)) (x : List Int) : srtS (xs ++ [x]) = insS (srtS xs) x := by rw [srtS, List.foldl_append]; rfl
set_option maxHeartbeats 2000000 in
theorem spec_l20InsertA {lo l2 n c m vn vc : Nat} {a va : Option Addr} {l : List (QM × List Int)} {v : List Int} {w : World} (hL : SRow w lo l2 a n c l) (hV : OwnI 2 w l2 va vn vc v) (hA : AscS m (l.map (·.2))) (hvm : v.length = m) (hm : m ≤ 1048576) (hn : n ≤ 1048576) (hlo : lo ≤ w.heap.size) :
    Calls Tryz.prog 94 #[.slice a n c, .slice va vn vc] w fun e w' => ∃ a' n' c' l', e = .returned (.slice a' n' c') ∧ SRow w' lo l2 a' n' c' l' ∧ l'.map (·.2) = insS (l.map (·.2)) v ∧ Below w.heap.size w w' := by
  by_cases hin : v ∈ l.map (·.2)
  · have K1 := Lib.hid (spec_l20Place hL hV.ints hA hvm hm hn)
    have HL := Lib.hid hL
    have HIN := Lib.hid hin
    clear hL hV hA hvm
    have hd : decide (v ∈ l.map (·.2)) = true := decide_eq_true hin
    rw [hd] at K1
    clear hin hd
    go_enter Tryz.func94, Tryz.ntmps94
    go_wp2_with fail
    refine Calls.mono K1.out ?_
    rintro e w1 ⟨p, rfl, _, hb1⟩
    have L1 := Lib.hid (HL.out.keep hb1)
    have HB1 := Lib.hid hb1
    clear hb1 K1
    go_wp2
    go_ret
    refine ⟨a, n, c, l, ?_⟩
    exact ⟨rfl, L1.out, by rw [insS, if_pos HIN.out], HB1.out⟩
  · refine (spec_l20Insert hL hV hA hvm hm hn hin).mono ?_
    rintro e w' ⟨p, a', c', rfl, hp, hS, hb⟩
    refine ⟨a', n + 1, c', _, rfl, hS.le hlo (Nat.le_refl _), ?_, hb⟩
    rw [ins_at hA hvm hin hp, List.map_append, List.map_append, List.map_take, List.map_drop]; rfl
set_option maxRecDepth 100000 in
set_option maxHeartbeats 8000000 in
theorem spec_NextDiagram {sa ta ra da : Option Addr} {sn sc tn tc rn rc dc : Nat} {sz st : List Int} {l : List (RM × RuD)} {inp root : Int} {D : List I3} {w : World} (hI : Ints w sa sn sc sz) (hn : sn ≤ 1048576) (hT : Ints w ta tn tc st) (ht : tn ≤ 1048576) (hR : FR w w ra rn rc l) (hr : rn ≤ 1048576) (hD : F3 w da D.length dc D) (hdl : D.length ≤ maxLen) (hi64 : I64 inp) (hr64 : I64 root) :
    Calls Tryz.prog 39 #[.agg #[.slice sa sn sc, .slice ta tn tc, .slice ra rn rc], .agg #[.int .i64 inp, .slice da D.length dc, .int .i64 root]] w (DgR w (ndC sz st l inp D root)) := by
  obtain ⟨w0, hw0⟩ : ∃ w0, w0 = ((w.alloc (.cells #[.slice sa sn sc, .slice ta tn tc, .slice ra rn rc] 36)).alloc (.cells #[.int .i64 inp, .slice da D.length dc, .int .i64 root] 40)).alloc (.cells #[.int .i64 0, .slice none 0 0, .int .i64 0] 40) := ⟨_, rfl⟩
  have hb0 : Below w.heap.size w w0 := by rw [hw0]; exact below_alloc1 (below_alloc1 (below_alloc1 (Below.refl _ _) _) _) _
  have hs0 : w0.heap.size = w.heap.size + 1 + 1 + 1 := by rw [hw0]; simp
  have X := Lib.hid (show Blk w0 w.heap.size #[.slice sa sn sc, .slice ta tn tc, .slice ra rn rc] 36 by rw [hw0]; exact (Blk.made _ _ _).keep (below_alloc1 (below_alloc1 (Below.refl _ _) _) _))
  have DD := Lib.hid (show Blk w0 (w.heap.size + 1) #[.int .i64 inp, .slice da D.length dc, .int .i64 root] 40 by rw [hw0]; exact (Blk.made1 _ _ _ _).keep (below_alloc1 (Below.refl _ _) _))
  have R := Lib.hid (show Blk w0 (w.heap.size + 1 + 1) #[.int .i64 0, .slice none 0 0, .int .i64 0] 40 by rw [hw0]; exact Blk.made2 _ _ _ _ _)
  have K1 := Lib.hid (spec_l23States (sc := sc) (tc := tc) (rc := rc) (dc := dc) (hI.keep hb0) hn (hT.keep hb0) ht (hR.self hb0) hr (hD.keep hb0) hdl hi64 hr64)
  have x0 := X.out.cell 0
  have x1 := X.out.cell 1
  have x2 := X.out.cell 2
  have xl := X.out.lt
  have d0 := DD.out.cell 0
  have d1 := DD.out.cell 1
  have d2 := DD.out.cell 2
  have dl := DD.out.lt
  simp only [List.getElem?_toArray, List.getElem?_cons_zero, List.getElem?_cons_succ] at x0 x1 x2 d0 d1 d2
  by_cases h0 : (sdC sz st l inp D root).2 = 0
  · obtain ⟨hm, hq, hvs, hlen4⟩ := sd_ok h0
    have hnd : ndC sz st l inp D root = sdgN sz (srtS (nxL (l.map (·.2)) (sdC sz st l inp D root).1)) := by rw [ndC, if_neg (by simp [h0])]
    obtain ⟨g1, g2, g3, g4, g5, g6⟩ := model_gives hm
    have hgn : ∀ x ∈ l, x.1.gn ≤ 1048576 ∧ x.1.en ≤ 1048576 := fun x hx => by
      have h := hR.wf x hx
      exact ⟨h.2.2.2.1, h.2.2.2.2.2⟩
    have hil := hI.len
    have hrl := hR.len
    obtain ⟨⟨xs, cd⟩, hC⟩ : ∃ C, sdC sz st l inp D root = C := ⟨_, rfl⟩
    rw [hC] at K1 hvs hlen4 hnd h0
    simp only at K1 hvs hlen4 hnd h0
    subst h0
    have hnv := nx_states g3 hvs
    have KE := Lib.hid (fun (wx : World) (hb : Below w.heap.size w wx) (va : Option Addr) (vc : Nat) (v : List Int) (hv : Ints wx va sn vc v) => spec_l20Enabled (sa := sa) (sn := sn) (sc := sc) (ta := ta) (tn := tn) (tc := tc) (w0 := wx) (Below.refl _ _) (hR.self hb) hr hv (fun x hx t ht => by
      have := (g3 x.2 (List.mem_map_of_mem hx)).1 t ht
      rw [← hil]; exact this) (fun x hx => (hgn x hx).1))
    have KA := Lib.hid (fun (wx : World) (hb : Below w.heap.size w wx) (va : Option Addr) (vc q : Nat) (v : List Int) (RR : RM) (r : RuD) (hq : l[q]? = some (RR, r)) (hv : Ints wx va sn vc v) => spec_l20Apply (sa := sa) (sn := sn) (sc := sc) (ta := ta) (tn := tn) (tc := tc) (w0 := wx) (Below.refl _ _) (hR.self hb) hq hv hn (fun a ha => by
      have := (g3 r (List.mem_map_of_mem (f := fun x : RM × RuD => x.2) (List.mem_of_getElem? hq))).2 a ha
      rw [← hil]; exact ⟨this.1, this.2.1⟩))
    have HI := Lib.hid hI
    have HVS := Lib.hid hvs
    have HNV := Lib.hid hnv
    have HND := Lib.hid hnd
    have HQ := Lib.hid hq
    have HS := Lib.hid g6
    have HG3 := Lib.hid g3
    have HRL := Lib.hid (show (l.map (·.2)).length = rn by rw [List.length_map]; exact hrl)
    have hr200 : rn ≤ 200 := by omega
    clear hI hT hR hD hC hm hq hvs hnd g1 g2 g3 g6 hgn hnv
    go_enter Tryz.func39, Tryz.ntmps39
    go_wp2_with fail
    rw [← hw0]
    clear hw0
    refine Calls.mono K1.out ?_
    rintro e w1 ⟨a1, c1, l1, rfl, hS1, hl1, hb1, _⟩
    obtain ⟨w2, hw2⟩ : ∃ w2, w2 = w1.alloc (.cells #[] 22) := ⟨_, rfl⟩
    have hb2 : Below w1.heap.size w1 w2 := by rw [hw2]; exact below_alloc1 (Below.refl _ _) _
    have S1 := Lib.hid (hS1.keep hb2)
    have HL1 := Lib.hid hl1
    have X1 := Lib.hid ((X.out.keep hb1).keep hb2)
    have R1 := Lib.hid ((R.out.keep hb1).keep hb2)
    have HB1 := Lib.hid (below_callS (below_callS hb0 hb1) hb2)
    have L0 := Lib.hid (show SRow w2 w1.heap.size w1.heap.size (some ⟨w1.heap.size, 0, none⟩) 0 0 [] by rw [hw2]; exact SRow.e1)
    have hs1 := hb1.size
    have hs2 := hb2.size
    obtain ⟨n1, hn1⟩ : ∃ n, xs.length = n := ⟨_, rfl⟩
    have HN1 := Lib.hid hn1
    simp only [hn1] at S1 hlen4 ⊢
    clear hS1 hl1 hb1 hb2 hn1 x0 x1 x2 xl d0 d1 d2 dl X DD R K1 hb0
    go_wp2_with fail
    rw [← hw2]
    clear hw2
    have hw2 : w2.heap.size ≤ w2.heap.size := Nat.le_refl _
    have B0 := Lib.hid (Below.refl w2.heap.size w2)
    go_loopw [8, 9, 10, 11] (fun s8 s9 _ _ wr => ∃ (i nd cd : Nat) (ad : Option Addr) (ld : List (QM × List Int)), s8 = .slice ad nd cd ∧ s9 = .int .i64 i ∧ i ≤ n1 ∧ nd ≤ i * 200 ∧ w2.heap.size ≤ wr.heap.size ∧ Hid (Below w2.heap.size w2 wr) ∧ Hid (SRow wr w1.heap.size w1.heap.size ad nd cd ld) ∧ Hid (ld.map (·.2) = srtS (nxL (l.map (·.2)) (xs.take i)))) (fun _ s9 _ _ _ => n1 - (intOf s9).toNat)
    case atStart => exact ⟨0, 0, 0, _, [], rfl, rfl, by omega, by omega, hw2, B0, L0, Lib.hid rfl⟩
    case round =>
      clear L0 B0
      obtain ⟨i, nd, cd, ad, ld, rfl, rfl, hi, hnd, hsr, HB, SD, A⟩ := hrel
      have X2 := Lib.hid (X1.out.keep HB.out)
      have x0 := X2.out.cell 0
      have x1 := X2.out.cell 1
      have x2 := X2.out.cell 2
      have xl := X2.out.lt
      simp only [List.getElem?_toArray, List.getElem?_cons_zero, List.getElem?_cons_succ] at x0 x1 x2
      by_cases hlt : i < n1
      · have hlt' : (i : Int) < (n1 : Int) := by omega
        have hi0 : (0 : Int) ≤ (i : Int) := by omega
        obtain ⟨b, off, Q, v, rfl, hb, hx, hv, hc⟩ := (S1.out.keep HB.out).get hlt
        have hxv : xs[i]? = some v := by rw [← HL1.out, List.getElem?_map, hx]; rfl
        have hsv := sv_of_stateB (HVS.out v (List.mem_of_getElem? hxv))
        have hvn : Q.n = sn := by rw [← hv.ints.len, hsv.1, hil]
        have hvi := hv.ints
        rw [hvn] at hvi hc
        have HVI := Lib.hid hvi
        have HXV := Lib.hid hxv
        have HBr := Lib.hid (HB1.out.trans (HB.out.mono (show w.heap.size ≤ w2.heap.size by omega)))
        clear hx hv hxv hsv hvi hvn
        go_wp2_with fail
        refine wp_region_noPanic ?_
        refine wp_region_M (L := 6) (S := fun wx => Below wr.heap.size wr wx) (by kernel_rfl) ?_ (fun hHeld => ?_)
        · exact (Below.refl _ _).drew
        refine tkM0 0 (v := ?_) ?_ ?_
        rotate_left
        · (intro wv hSw; (try dsimp only at hSw); obtain ⟨hcq, _⟩ := bcell hSw; have hsq := Below.size hSw; have q0 := (hcq _ _ xl).trans x0; have q1 := (hcq _ _ xl).trans x1; have q2 := (hcq _ _ xl).trans x2; have ql := Nat.lt_of_lt_of_le xl hsq; go_simp; try with_reducible rfl)
        try simp only [pu]
        refine tkMB 1 ?_
        try simp only [pu]
        refine tkMB 2 ?_
        try simp only [pu]
        refine tkMB 3 ?_
        try simp only [pu]
        refine tkM0 4 (v := ?_) ?_ ?_
        rotate_left
        · (intro wv hSw; (try dsimp only at hSw); obtain ⟨hcq, _⟩ := bcell hSw; have hsq := Below.size hSw; have q0 := (hcq _ _ hb).trans hc; have ql := Nat.lt_of_lt_of_le hb hsq; go_simp; try with_reducible rfl)
        try simp only [pu]
        refine wpAnyM_ready (rs := [5]) (by kernel_rfl) (by simp) ?_
        refine AllReadyM.cons rfl (fun K hK => ?_) AllReadyM.nil
        go_simp
        refine Calls.mono (KE.out _ (below_call HBr.out hHeld (by omega)) _ _ v (HVI.out.keep hHeld)) ?_
        rintro e w6 ⟨ae, ne, ce, rfl, hoe, hne, hb6⟩
        have hb6' := below_callS hHeld hb6
        have OE := Lib.hid hoe
        have hel : (enabI (l.map (·.2)) v rn).length = ne := hoe.ints.len
        have HEL := Lib.hid hel
        clear hoe hel hb6
        go_wp2_with fail
        refine hK.out _ _ hb6' (fun hHeld => ?_)
        clear hK K
        try simp only [pu]
        refine wpAnyM_ready (rs := [6]) (by kernel_rfl) (by simp) ?_
        refine AllReadyM.last rfl (fun K hK => ?_)
        go_simp
        refine hK.out _ _ ?_
        clear hK K
        try simp only [pu]
        refine wpAnyM_done (by kernel_rfl) ?_ _
        refine NoPanic.normal ?_
        clear hHeld
        have X6 := Lib.hid (X2.out.keep hb6')
        have S6 := Lib.hid (SD.out.keep hb6')
        have HV6 := Lib.hid (HVI.out.keep hb6')
        have hc6 := ((bcell hb6').1 _ _ hb).trans hc
        have hl6 := Nat.lt_of_lt_of_le hb hb6'.size
        have HB6 := Lib.hid (below_call HB.out hb6' (by omega))
        have HBr6 := Lib.hid (below_call HBr.out hb6' (by omega))
        have hs6 := hb6'.size
        have A6 := Lib.hid (show ld.map (·.2) = srtS (nxL (l.map (·.2)) (xs.take i) ++ ((nextP (l.map (·.2)) v).take 0).map (·.2)) by rw [A.out, List.take_zero, List.map_nil, List.append_nil])
        have B6 := Lib.hid (Below.refl w6.heap.size w6)
        have hs66 : w6.heap.size ≤ w6.heap.size := Nat.le_refl _
        clear hb6' hb hc x0 x1 x2 xl X2 SD HB A HVI HBr
        go_wp2_with fail
        go_loopw [8, 11] (fun s8 s11 wi => ∃ (k nd cd : Nat) (ad : Option Addr) (ld : List (QM × List Int)), s8 = .slice ad nd cd ∧ s11 = .int .i64 k ∧ k ≤ ne ∧ nd ≤ i * 200 + k ∧ w6.heap.size ≤ wi.heap.size ∧ Hid (Below w6.heap.size w6 wi) ∧ Hid (SRow wi w1.heap.size w1.heap.size ad nd cd ld) ∧ Hid (ld.map (·.2) = srtS (nxL (l.map (·.2)) (xs.take i) ++ ((nextP (l.map (·.2)) v).take k).map (·.2)))) (fun _ s11 _ => ne - (intOf s11).toNat)
        case atStart => exact ⟨0, nd, cd, ad, ld, rfl, rfl, by omega, by omega, hs66, B6, S6, A6⟩
        case round =>
          clear S6 A6 B6
          obtain ⟨k, nd, cd, ad, ld, rfl, rfl, hk, hnd, hsr2, HB, SD, A⟩ := hrel
          have HBx := Lib.hid (HB6.out.trans (HB.out.mono (show w2.heap.size ≤ w6.heap.size by omega)))
          by_cases hltk : k < ne
          · have hltk' : (k : Int) < (ne : Int) := by omega
            have hk0 : (0 : Int) ≤ (k : Int) := by omega
            obtain ⟨be, oe, z, rfl, hbe, hz, hzc, hz64⟩ := (OE.out.ints.keep HB.out).at hltk
            rw [← HRL.out] at hz
            obtain ⟨q, r, rfl, hq, hrq, _, hnx⟩ := enabI_at hz
            obtain ⟨⟨RR, r'⟩, hlq⟩ : ∃ y, l[q]? = some y := by
              rw [List.length_map] at hq
              exact ⟨_, List.getElem?_eq_getElem hq⟩
            have hrr : r' = r := by
              rw [List.getElem?_map, hlq] at hrq
              simpa using hrq
            subst hrr
            have hnew : applyP v r'.e ∈ nxL (l.map (·.2)) xs := nx_mem2 (k := k + 1) HXV.out (by rw [take_at hnx, List.map_append]; simp)
            have hap : (applyP v r'.e).length = sz.length := stateB_len (HNV.out _ hnew)
            have hasc : AscS sz.length (ld.map (·.2)) := by
              rw [A.out]
              exact srt_asc fun x hx => stateB_len (HNV.out x ((List.mem_append.1 hx).elim nx_mem1 (nx_mem2 HXV.out)))
            have HASC := Lib.hid hasc
            have HAN := Lib.hid (show insS (ld.map (·.2)) (applyP v r'.e) = srtS (nxL (l.map (·.2)) (xs.take i) ++ ((nextP (l.map (·.2)) v).take (k + 1)).map (·.2)) by
              rw [take_at hnx, List.map_append, ← List.append_assoc, List.map_cons, List.map_nil, srt_snoc, ← A.out])
            have hinl := ins_len (ld.map (·.2)) (applyP v r'.e)
            rw [List.length_map, SD.out.len] at hinl
            have X7 := Lib.hid (X6.out.keep HB.out)
            have x0 := X7.out.cell 0
            have x1 := X7.out.cell 1
            have x2 := X7.out.cell 2
            have xl := X7.out.lt
            simp only [List.getElem?_toArray, List.getElem?_cons_zero, List.getElem?_cons_succ] at x0 x1 x2
            have hc7 := ((bcell HB.out).1 _ _ hl6).trans hc6
            have hl7 := Nat.lt_of_lt_of_le hl6 HB.out.size
            have HLQ := Lib.hid hlq
            clear hz hz64 hrq hnx hlq hnew hasc A
            go_wp2_with fail
            refine wp_region_noPanic ?_
            refine wp_region_M (L := 12) (S := fun wx => Below wr.heap.size wr wx) (by kernel_rfl) ?_ (fun hHeld => ?_)
            · exact (Below.refl _ _).drew
            refine tkMB 0 ?_
            try simp only [pu]
            refine tkM0 1 (v := ?_) ?_ ?_
            rotate_left
            · (intro wv hSw; (try dsimp only at hSw); obtain ⟨hcq, _⟩ := bcell hSw; have hsq := Below.size hSw; have q0 := (hcq _ _ xl).trans x0; have q1 := (hcq _ _ xl).trans x1; have q2 := (hcq _ _ xl).trans x2; have ql := Nat.lt_of_lt_of_le xl hsq; go_simp; try with_reducible rfl)
            try simp only [pu]
            refine tkMB 2 ?_
            try simp only [pu]
            refine tkMB 3 ?_
            try simp only [pu]
            refine tkMB 4 ?_
            try simp only [pu]
            refine tkM0 5 (v := ?_) ?_ ?_
            rotate_left
            · (intro wv hSw; (try dsimp only at hSw); obtain ⟨hcq, _⟩ := bcell hSw; have hsq := Below.size hSw; have q0 := (hcq _ _ hl7).trans hc7; have ql := Nat.lt_of_lt_of_le hl7 hsq; go_simp; try with_reducible rfl)
            try simp only [pu]
            refine tkMB 6 ?_
            try simp only [pu]
            refine tkMB 7 ?_
            try simp only [pu]
            refine tkMB 8 ?_
            try simp only [pu]
            refine tkM0 9 (v := ?_) ?_ ?_
            rotate_left
            · (intro wv hSw; (try dsimp only at hSw); obtain ⟨hcq, _⟩ := bcell hSw; have hsq := Below.size hSw; have q0 := (hcq _ _ hbe).trans hzc; have ql := Nat.lt_of_lt_of_le hbe hsq; go_simp; try with_reducible rfl)
            try simp only [pu]
            refine wpAnyM_ready (rs := [10]) (by kernel_rfl) (by simp) ?_
            refine AllReadyM.cons rfl (fun K hK => ?_) AllReadyM.nil
            go_simp
            refine Calls.mono (KA.out _ (below_call HBr6.out (below_call HB.out hHeld (by omega)) (by omega)) _ _ q v RR r' HLQ.out (HV6.out.keep (below_call HB.out hHeld (by omega)))) ?_
            rintro e w8 ⟨a8, c8, rfl, ho8, hb8⟩
            have hz8 := Below.size hHeld
            have hb8' := below_callS hHeld hb8
            have O8 := Lib.hid (ho8.le (show w1.heap.size ≤ _ by omega))
            have S8 := Lib.hid (SD.out.keep hb8')
            have hs8 := hb8'.size
            clear ho8 hb8 x0 x1 x2 xl X7 hc7 hl7 hzc hbe SD
            go_wp2_with fail
            refine hK.out _ _ hb8' (fun hHeld => ?_)
            clear hK K
            try simp only [pu]
            refine wpAnyM_ready (rs := [11]) (by kernel_rfl) (by simp) ?_
            refine AllReadyM.cons rfl (fun K hK => ?_) AllReadyM.nil
            go_simp
            refine Calls.mono (spec_l20InsertA S8.out O8.out HASC.out hap (by omega) (by omega) (by omega)) ?_
            rintro e w9 ⟨a9, n9, c9, l9, rfl, hS9, hl9, hb9⟩
            have hb9' := below_callS hb8' hb9
            have S9 := Lib.hid hS9
            have HA9 := Lib.hid (hl9.trans HAN.out)
            have hn9 : n9 ≤ nd + 1 := by
              rw [← hS9.len, ← List.length_map (f := fun x : QM × List Int => x.2), hl9]; exact hinl
            have HB9 := Lib.hid (below_call HB.out hb9' (by omega))
            have hs9 := hb9'.size
            clear hS9 hl9 hb9 S8 O8 HASC HAN hinl HBx
            go_wp2_with fail
            refine hK.out _ _ hb9' (fun hHeld => ?_)
            clear hK K
            try simp only [pu]
            refine wpAnyM_ready (rs := [12]) (by kernel_rfl) (by simp) ?_
            refine AllReadyM.last rfl (fun K hK => ?_)
            go_simp
            refine hK.out _ _ ?_
            clear hK K
            try simp only [pu]
            refine wpAnyM_done (by kernel_rfl) ?_ _
            refine NoPanic.normal ?_
            clear hHeld hb8' hb9'
            go_wp2
            go_roundw
            case rel => exact ⟨k + 1, n9, c9, a9, l9, by go_num, by go_num, by omega, by omega, by omega, HB9, S9, HA9⟩
            case measure => simp [intOf]; omega
          · have hltk' : ¬ (k : Int) < (ne : Int) := by omega
            obtain rfl : ne = k := by omega
            have HA := Lib.hid (show ld.map (·.2) = srtS (nxL (l.map (·.2)) (xs.take (i + 1))) by
              rw [A.out, nx_take HXV.out, List.take_of_length_le (l := nextP (l.map (·.2)) v) (i := ne) (by rw [nextP_len, HRL.out, HEL.out]; exact Nat.le_refl _)])
            go_wp2
            go_roundw
            case rel => exact ⟨i + 1, nd, cd, ad, ld, by go_num, by go_num, by omega, by omega, by omega, HBx, SD, HA⟩
            case measure => simp [intOf]; omega
      · have hlt' : ¬ (i : Int) < (n1 : Int) := by omega
        obtain rfl : n1 = i := by omega
        have hA := A.out
        rw [List.take_of_length_le (by rw [HN1.out]; exact Nat.le_refl _)] at hA
        have hsf : StsF wr sz ad nd cd ld := by
          have h1 := SD.out.row.flats
          refine ⟨h1.len, h1.cap, h1.pos, fun x hx => ⟨(SD.out.each x hx).ints, ?_⟩, h1.nil⟩
          have h2 : x.2 ∈ ld.map (·.2) := List.mem_map_of_mem hx
          rw [hA] at h2
          exact HNV.out x.2 ((srt_mem (m := sz.length) (fun y hy => stateB_len (HNV.out y hy)) x.2).1 h2)
        have HBx := Lib.hid (HB1.out.trans (HB.out.mono (show w.heap.size ≤ w2.heap.size by omega)))
        have KD := Lib.hid (spec_l23Diagram (ta := ta) (tn := tn) (tc := tc) (ra := ra) (rn := rn) (rc := rc) (HI.out.keep HBx.out) (by omega) HS.out HQ.out hsf (by omega))
        rw [hA, ← HND.out] at KD
        have R2 := Lib.hid (R1.out.keep HB.out)
        have hrl2 := R2.out.lt
        clear hA hsf A
        go_wp2_with fail
        refine Calls.mono KD.out ?_
        rintro e w5 ⟨ea, ec, rfl, hO5, hb5⟩
        have O5 := Lib.hid hO5
        have R5 := Lib.hid (R2.out.keep hb5)
        have HB5 := Lib.hid (below_call HBx.out hb5 (by omega))
        clear hO5 hb5 x0 x1 x2 xl X2 SD HB R2 KD HBx
        have r0 := R5.out.cell 0
        have r1 := R5.out.cell 1
        have r2 := R5.out.cell 2
        have rl := R5.out.lt
        have rf := R5.out.free
        simp only [List.getElem?_toArray, List.getElem?_cons_zero, List.getElem?_cons_succ] at r0 r1 r2
        obtain ⟨⟨D1, D2, D3, D4⟩, hE⟩ : ∃ E, ndC sz st l inp D root = E := ⟨_, rfl⟩
        rw [hE] at O5 ⊢
        simp only at O5
        have HE := Lib.hid hE
        clear hE HND
        have hne : ∀ y, ea = some ⟨y, 0, none⟩ → (some (w.heap.size + 1 + 1) : Option Nat) ≠ some y := fun y e e' => by
          have := (O5.out.blk y e).1
          simp at e'
          omega
        have hbz : Below w.heap.size w w5 := HB5.out
        go_wp2
        refine bodyPost_ret (v := .tuple #[.agg #[.int .i64 D1, .slice ea D2.length ec, .int .i64 D3], .int .i64 D4]) (by simp [results, Tryz.results39, go_sem, *]) rfl ⟨ea, ec, by rw [HE.out], ?_, ?_⟩
        · rw [HE.out]
          exact (((O5.out.keepG (set_grown _ _ _) hne).keepG (set_grown _ _ _) hne).keepG (set_grown _ _ _) hne).le (by omega)
        · exact bel
  · have hnd : ndC sz st l inp D root = (0, [], 0, (sdC sz st l inp D root).2) := by rw [ndC, if_pos h0]
    obtain ⟨⟨xs, cd⟩, hC⟩ : ∃ C, sdC sz st l inp D root = C := ⟨_, rfl⟩
    rw [hC] at K1 hnd h0
    simp only at K1 hnd h0
    have hne : (cd != 0) = true := by simpa using h0
    have HND := Lib.hid hnd
    clear hI hT hR hD hC h0 hnd
    go_enter Tryz.func39, Tryz.ntmps39
    go_wp2_with fail
    rw [← hw0]
    clear hw0
    refine Calls.mono K1.out ?_
    rintro e w1 ⟨a1, c1, l1, rfl, hS1, hl1, hb1, _⟩
    have R1 := Lib.hid (R.out.keep hb1)
    have hbz : Below w.heap.size w w1 := below_callS hb0 hb1
    clear hS1 hl1 hb1 x0 x1 x2 xl d0 d1 d2 dl X DD R K1 hb0
    have r0 := R1.out.cell 0
    have r1 := R1.out.cell 1
    have r2 := R1.out.cell 2
    have rl := R1.out.lt
    have rf := R1.out.free
    simp only [List.getElem?_toArray, List.getElem?_cons_zero, List.getElem?_cons_succ] at r0 r1 r2
    go_wp2
    refine bodyPost_ret (v := .tuple #[.agg #[.int .i64 0, .slice none 0 0, .int .i64 0], .int .i64 cd]) (by simp [results, Tryz.results39, go_sem, *]) rfl ⟨none, 0, by rw [HND.out]; rfl, by rw [HND.out]; exact ⟨World.ownsRow_nil _ _ _ 3, (fun _ h => by cases h), rfl, fun _ => rfl⟩, ?_⟩
    exact bel
end Go.Proofs.YtkaikbaagajckaaGreat
namespace Go.Proofs.YtkaikbaagajckaaGreat
open Go.RowKit
set_option linter.unusedVariables false
set_option linter.unusedSimpArgs false
theorem ndC_rs {sz st : List Int} {l : List (RM × RuD)} {rs : List RuD} {inp : Int} {L : List I3} {root : Int} (h : l.map (·.2) = rs) : ndC sz st l inp L root = ndC sz st (rsM rs) inp L root := by
  have h1 : sdC sz st l inp L root = sdC sz st (rsM rs) inp L root := by rw [sdC, sdC, modelB_rs h]
  rw [ndC, ndC, h1, h, rsM_map]
theorem ndC_len (sz st : List Int) (l : List (RM × RuD)) (inp : Int) (L : List I3) (root : Int) : (ndC sz st l inp L root).2.1.length ≤ 2000 := by
  rw [ndC]
  split
  · simp
  · rw [sdgN, lmC]
    split
    · rename_i h; exact h
    · simp
theorem spec_NextDiagram_r {sa ta ra da : Option Addr} {sn sc tn tc rn rc dn dc : Nat} {sz st : List Int} {rs : List RuD} {inp root : Int} {L : List I3} {w : World} (h : MRd w sa sn sc ta tn tc ra rn rc sz st rs) (hD : F3 w da dn dc L) (hdn : dn ≤ 1048576) (hi : I64 inp) (hr : I64 root) :
    Calls Tryz.prog 39 #[.agg #[.slice sa sn sc, .slice ta tn tc, .slice ra rn rc], .agg #[.int .i64 inp, .slice da dn dc, .int .i64 root]] w (DgQ w (ndC sz st (rsM rs) inp L root).1 (ndC sz st (rsM rs) inp L root).2.1 (ndC sz st (rsM rs) inp L root).2.2.1 (ndC sz st (rsM rs) inp L root).2.2.2) := by
  obtain ⟨l, h1, h2⟩ := h.r
  obtain rfl : L.length = dn := hD.len
  have h9 := spec_NextDiagram (sc := sc) (tc := tc) (rc := rc) (dc := dc) h.s h.sn h.t h.tn h1 h.rn hD (by unfold maxLen; omega) hi hr
  rw [ndC_rs h2] at h9
  exact h9.mono fun e w' h => h.q
theorem impl_NextDiagram_r {sa ta ra da : Option Addr} {sn sc tn tc rn rc dn dc : Nat} {sz st : List Int} {rs : List RuD} {inp root : Int} {L : List I3} {w : World} (h : MRd w sa sn sc ta tn tc ra rn rc sz st rs) (hD : F3 w da dn dc L) (hdn : dn ≤ 1048576) (hi : I64 inp) (hr : I64 root) :
    Calls Tryz.prog 40 #[.agg #[.slice sa sn sc, .slice ta tn tc, .slice ra rn rc], .agg #[.int .i64 inp, .slice da dn dc, .int .i64 root]] w (DgQ w (ndC sz st (rsM rs) inp L root).1 (ndC sz st (rsM rs) inp L root).2.1 (ndC sz st (rsM rs) inp L root).2.2.1 (ndC sz st (rsM rs) inp L root).2.2.2) := by
  obtain ⟨l, h1, h2⟩ := h.r
  obtain rfl : L.length = dn := hD.len
  have h9 := impl_NextDiagram (sc := sc) (tc := tc) (rc := rc) (dc := dc) h.s h.sn h.t h.tn h1 h.rn hD (by unfold maxLen; omega) hi hr
  rw [ndC_rs h2] at h9
  exact h9.mono fun e w' h => h.q
end Go.Proofs.YtkaikbaagajckaaGreat
