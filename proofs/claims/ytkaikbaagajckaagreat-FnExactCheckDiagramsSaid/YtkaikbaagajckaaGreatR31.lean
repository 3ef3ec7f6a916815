/- States with a code, as calls return them.; The states of a diagram: the reference, walked.; CheckDiagrams: the reference, walked. (Its beginning is cut out of the program's walk, Zo.); CheckDiagrams by what the model means. -/
import Derived.Test.YtkaikbaagajckaaGreatR15
import Derived.Test.YtkaikbaagajckaaGreatR30
import Derived.Test.YtkaikbaagajckaaGreatR27
import Derived.Test.YtkaikbaagajckaaGreatR21
import Derived.Test.YtkaikbaagajckaaGreatR25
import Derived.Test.YtkaikbaagajckaaGreatR23
namespace Go.Proofs.YtkaikbaagajckaaGreat
open Go.RowKit
set_option linter.unusedVariables false
set_option linter.unusedSimpArgs false
/-- states with a code that a call returns -/
def SdR (ap : Bool) (w : World) (C : List (List Int) × Int) (e : Ending) (w' : World) : Prop := ∃ a c l, e = .returned (.tuple #[.slice a C.1.length c, .int .i64 C.2]) ∧ SRow w' w.heap.size w.heap.size a C.1.length c l ∧ l.map (·.2) = C.1 ∧ Below w.heap.size w w' ∧ (ap = true → l.Pairwise fun x y => Apart x.1.a y.1.a)
end Go.Proofs.YtkaikbaagajckaaGreat
namespace Go.Proofs.YtkaikbaagajckaaGreat
open Go.RowKit
set_option linter.unusedVariables false
set_option linter.unusedSimpArgs false
attribute [local go_sem ↓] Go.wp_at_zero Go.wp_at_succ
theorem sd_code {sz st : List Int} {l : List (RM × RuD)} {inp : Int} {L : List I3} {root : Int} (h : cdC sz st l inp L root ≠ 0) : sdC sz st l inp L root = ([], cdC sz st l inp L root) := by
  cases hm : modelB sz st l
  · rw [cdC_1 hm, sdC_1 hm]
  · cases hd : diaB inp L root
    · rw [cdC_2 hm hd, sdC_2 hm hd]
    · by_cases hi : inp = (offN sz sz.length : Int)
      · exact absurd (cdC_4 hm hd hi) h
      · rw [cdC_3 hm hd hi, sdC_3 hm hd hi]
theorem cd_zero {sz st : List Int} {l : List (RM × RuD)} {inp : Int} {L : List I3} {root : Int} (h : cdC sz st l inp L root = 0) : modelB sz st l = true ∧ diaB inp L root = true ∧ inp = (offN sz sz.length : Int) := by
  cases hm : modelB sz st l
  · rw [cdC_1 hm] at h; exact absurd h (by decide)
  · cases hd : diaB inp L root
    · rw [cdC_2 hm hd] at h; exact absurd h (by decide)
    · by_cases hi : inp = (offN sz sz.length : Int)
      · exact ⟨rfl, rfl, hi⟩
      · rw [cdC_3 hm hd hi] at h; exact absurd h (by decide)
theorem SRow.empty9 {lo : Nat} (w : World) (h : lo ≤ w.heap.size) : SRow (w.alloc (.cells #[] 22)) lo lo (some ⟨w.heap.size, 0, none⟩) 0 0 [] :=
  ⟨OwnF.lit w [] h rfl (by decide) encS_len (fun _ h => by cases h) rfl, fun _ h => by cases h⟩
set_option maxRecDepth 100000 in
set_option maxHeartbeats 8000000 in
theorem spec_l23States {sa ta ra da : Option Addr} {sn sc tn tc rn rc dc : Nat} {sz st : List Int} {l : List (RM × RuD)} {inp root : Int} {L : List I3} {w : World} (hI : Ints w sa sn sc sz) (hn : sn ≤ 1048576) (hT : Ints w ta tn tc st) (ht : tn ≤ 1048576) (hR : FR w w ra rn rc l) (hr : rn ≤ 1048576) (hD : F3 w da L.length dc L) (hdl : L.length ≤ maxLen) (hi64 : I64 inp) (hr64 : I64 root) :
    Calls Tryz.prog 49 #[.agg #[.slice sa sn sc, .slice ta tn tc, .slice ra rn rc], .agg #[.int .i64 inp, .slice da L.length dc, .int .i64 root]] w (SdR false w (sdC sz st l inp L root)) := by
  have hb0 : Below w.heap.size w ((w.alloc (.cells #[.slice sa sn sc, .slice ta tn tc, .slice ra rn rc] 36)).alloc (.cells #[.int .i64 inp, .slice da L.length dc, .int .i64 root] 40)) := bel
  have X := Lib.hid ((Blk.made w #[.slice sa sn sc, .slice ta tn tc, .slice ra rn rc] 36).keep (below_alloc1 (Below.refl _ _) (.cells #[.int .i64 inp, .slice da L.length dc, .int .i64 root] 40)))
  have D := Lib.hid (Blk.made1 w (.cells #[.slice sa sn sc, .slice ta tn tc, .slice ra rn rc] 36) #[.int .i64 inp, .slice da L.length dc, .int .i64 root] 40)
  have KC := spec_l23Code (inp := inp) (root := root) (hI.keep hb0) hn (hT.keep hb0) ht (hR.self hb0) hr (hD.keep hb0) hdl hi64 hr64 (sa := sa) (sc := sc) (ta := ta) (tc := tc) (ra := ra) (rc := rc) (da := da) (dc := dc)
  by_cases hc : cdC sz st l inp L root = 0
  · obtain ⟨hm, hd, hi⟩ := cd_zero hc
    rw [hc] at KC
    have K1 := Lib.hid KC
    subst hi
    have hsl : sz.length = sn := hI.len
    subst hsl
    have hs := modelB_all hm
    have h16 := modelB_len hm
    have hS := dia_snd hd
    obtain ⟨_, hrr, h0, h20, hll, _, _⟩ := dia_redu hd
    have KO := Lib.hid (fun (bO : Nat) (wx : World) (hb : Below w.heap.size w wx) (hG : OnW wx w.heap.size bO []) => spec_l23Ones (ta := ta) (tn := tn) (tc := tc) (ra := ra) (rn := rn) (rc := rc) (root := root) hI h16 hs hD hS hll (offN sz sz.length) 0 root [] [] none 0 wx hb hG (OwnI.nil _ _ _) rfl (fun x hx => by cases hx) (by omega) (beg_nil hs _) hrr (lvl_pos hS.ord (by omega) hrr) (by simp))
    obtain ⟨o1, o2⟩ := on_all hs hS hrr
    have HB0 := Lib.hid hb0
    have HC4 := Lib.hid (fun h4 => sdC_4 (st := st) (l := l) hm hd rfl h4)
    have HC5 := Lib.hid (fun h5 => sdC_5 (st := st) (l := l) hm hd rfl h5)
    generalize hON : onF sz (offN sz sz.length : Int) L (offN sz sz.length) (offN sz sz.length) root [] [] = A at *
    clear KC hc hm hd hI hT hR hD hb0 hS hrr hs
    have K0 := (show ∀ (wx : World), Below w.heap.size w wx → True from fun _ _ => trivial)
    clear K0 hON
    cases hA : A.2
    · rw [hA] at KO o1
      have h4 : ¬ (xsN sz L (offN sz sz.length) root []).length ≤ 4000 := of_decide_eq_false o1.symm
      have HC := Lib.hid (HC4.out h4)
      clear o1 o2 h4 HC4 HC5 hA
      go_enter Tryz.func49, Tryz.ntmps49
      go_wp2_with fail
      refine Calls.mono K1.out ?_
      rintro e w1 ⟨rfl, hb⟩
      have X1 := Lib.hid (X.out.keep hb)
      have D1 := Lib.hid (D.out.keep hb)
      have HB1 := Lib.hid (below_callS HB0.out hb)
      clear hb X D HB0 K1
      obtain ⟨w2, hw2⟩ : ∃ W, W = w1.alloc (.cells #[] 22) := ⟨_, rfl⟩
      obtain ⟨w3, hw3⟩ : ∃ W, W = w2.alloc (.cells #[.slice (some ⟨w1.heap.size, 0, none⟩) 0 0] 31) := ⟨_, rfl⟩
      have hb2 : Below w1.heap.size w1 w2 := by rw [hw2]; exact below_alloc1 (Below.refl _ _) _
      have hb3 : Below w2.heap.size w2 w3 := by rw [hw3]; exact below_alloc1 (Below.refl _ _) _
      have hs1 := HB1.out.size
      have hs2 := hb2.size
      have hz2 : w2.heap.size = w1.heap.size + 1 := by rw [hw2]; simp
      have GG := Lib.hid (show OnW w3 w.heap.size (w1.heap.size + 1) [] from ⟨⟨_, _, _, [], by rw [hw3, ← hz2]; exact Blk.made _ _ _, (show SRow w2 w.heap.size w.heap.size (some ⟨w1.heap.size, 0, none⟩) 0 0 [] by rw [hw2]; exact SRow.empty9 w1 hs1).keep hb3, rfl⟩, by omega, by have := hb3.size; omega⟩)
      have hb23 := below_callS hb2 hb3
      have X3 := Lib.hid (X1.out.keep hb23)
      have D3 := Lib.hid (D1.out.keep hb23)
      have HB3 := Lib.hid (below_callS HB1.out hb23)
      clear hb2 hb3 hb23 X1 D1 HB1 hs1 hs2 hz2
      have x0 := X3.out.cell 0
      have x1 := X3.out.cell 1
      have x2 := X3.out.cell 2
      have xl := X3.out.lt
      have y0 := D3.out.cell 0
      have y1 := D3.out.cell 1
      have y2 := D3.out.cell 2
      have yl := D3.out.lt
      simp only [List.getElem?_toArray, List.getElem?_cons_zero, List.getElem?_cons_succ] at x0 x1 x2 y0 y1 y2
      subst hw3 hw2
      go_wp2_with fail
      refine Calls.mono (KO.out _ _ HB3.out GG.out) ?_
      rintro e w6 ⟨rfl, hG6, hst, hb6⟩
      go_wp2
      go_ret2
      exact ⟨none, 0, [], by rw [HC.out]; rfl, by rw [HC.out]; exact SRow.nil _ _ _, by rw [HC.out]; rfl, hb6, fun _ => List.Pairwise.nil⟩
    · rw [hA] at KO o1
      have h4 : (xsN sz L (offN sz sz.length) root []).length ≤ 4000 := of_decide_eq_true o1.symm
      have HC := Lib.hid (HC5.out h4)
      have HX := Lib.hid (o2 hA)
      clear o1 o2 h4 HC4 HC5 hA
      go_enter Tryz.func49, Tryz.ntmps49
      go_wp2_with fail
      refine Calls.mono K1.out ?_
      rintro e w1 ⟨rfl, hb⟩
      have X1 := Lib.hid (X.out.keep hb)
      have D1 := Lib.hid (D.out.keep hb)
      have HB1 := Lib.hid (below_callS HB0.out hb)
      clear hb X D HB0 K1
      obtain ⟨w2, hw2⟩ : ∃ W, W = w1.alloc (.cells #[] 22) := ⟨_, rfl⟩
      obtain ⟨w3, hw3⟩ : ∃ W, W = w2.alloc (.cells #[.slice (some ⟨w1.heap.size, 0, none⟩) 0 0] 31) := ⟨_, rfl⟩
      have hb2 : Below w1.heap.size w1 w2 := by rw [hw2]; exact below_alloc1 (Below.refl _ _) _
      have hb3 : Below w2.heap.size w2 w3 := by rw [hw3]; exact below_alloc1 (Below.refl _ _) _
      have hs1 := HB1.out.size
      have hs2 := hb2.size
      have hz2 : w2.heap.size = w1.heap.size + 1 := by rw [hw2]; simp
      have GG := Lib.hid (show OnW w3 w.heap.size (w1.heap.size + 1) [] from ⟨⟨_, _, _, [], by rw [hw3, ← hz2]; exact Blk.made _ _ _, (show SRow w2 w.heap.size w.heap.size (some ⟨w1.heap.size, 0, none⟩) 0 0 [] by rw [hw2]; exact SRow.empty9 w1 hs1).keep hb3, rfl⟩, by omega, by have := hb3.size; omega⟩)
      have hb23 := below_callS hb2 hb3
      have X3 := Lib.hid (X1.out.keep hb23)
      have D3 := Lib.hid (D1.out.keep hb23)
      have HB3 := Lib.hid (below_callS HB1.out hb23)
      clear hb2 hb3 hb23 X1 D1 HB1 hs1 hs2 hz2
      have x0 := X3.out.cell 0
      have x1 := X3.out.cell 1
      have x2 := X3.out.cell 2
      have xl := X3.out.lt
      have y0 := D3.out.cell 0
      have y1 := D3.out.cell 1
      have y2 := D3.out.cell 2
      have yl := D3.out.lt
      simp only [List.getElem?_toArray, List.getElem?_cons_zero, List.getElem?_cons_succ] at x0 x1 x2 y0 y1 y2
      subst hw3 hw2
      go_wp2_with fail
      refine Calls.mono (KO.out _ _ HB3.out GG.out) ?_
      rintro e w6 ⟨rfl, hG6, hst, hb6⟩
      obtain ⟨a, q, cq, l2, hB, hRow, hmap⟩ := hG6.o
      have HB6 := Lib.hid hb6
      have HRow := Lib.hid hRow
      have HM := Lib.hid (hmap.trans HX.out)
      have hq : q = (xsN sz L (offN sz sz.length) root []).length := by rw [← HM.out, List.length_map, hRow.len]
      have HQ := Lib.hid hq
      have o0 := hB.cell 0
      have ol := hB.lt
      simp at o0
      clear hq hB hRow hmap hb6 hst hG6 x0 x1 x2 xl y0 y1 y2 yl
      go_wp2
      go_ret2
      refine ⟨a, cq, l2, by rw [HC.out, HQ.out]; rfl, ?_, by rw [HC.out]; exact HM.out, HB6.out, fun h => by cases h⟩
      rw [HC.out]
      have := HRow.out
      rw [HQ.out] at this
      exact this
  · have HC := Lib.hid (sd_code hc)
    have K1 := Lib.hid KC
    obtain ⟨v, hv⟩ : ∃ v, v = cdC sz st l inp L root := ⟨_, rfl⟩
    rw [← hv] at K1 HC hc
    have hv0 : (v != 0) = true := by simpa using hc
    clear KC hI hT hR hD hv hc
    go_enter Tryz.func49, Tryz.ntmps49
    go_wp2_with fail
    refine Calls.mono K1.out ?_
    rintro e w1 ⟨rfl, hb⟩
    go_wp2
    go_ret2
    exact ⟨none, 0, [], by rw [HC.out]; rfl, by rw [HC.out]; exact SRow.nil _ _ _, by rw [HC.out]; rfl, below_callS hb0 hb, fun _ => List.Pairwise.nil⟩
end Go.Proofs.YtkaikbaagajckaaGreat
namespace Go.Proofs.YtkaikbaagajckaaGreat
open Go.RowKit
set_option linter.unusedVariables false
set_option linter.unusedSimpArgs false
attribute [local go_sem ↓] Go.wp_at_zero Go.wp_at_succ
set_option maxRecDepth 100000 in
set_option maxHeartbeats 4000000 in
theorem spec_CheckDiagrams {sa ta ra ga : Option Addr} {sn sc tn tc rn rc gn gc : Nat} {sz st : List Int} {l : List (RM × RuD)} {g : List I2b} {w : World} (hI : Ints w sa sn sc sz) (hn : sn ≤ 1048576) (hT : Ints w ta tn tc st) (ht : tn ≤ 1048576) (hR : FR w w ra rn rc l) (hr : rn ≤ 1048576) (hG : F2b w ga gn gc g) (hg : gn ≤ 1048576) :
    Calls Tryz.prog 28 #[.agg #[.slice sa sn sc, .slice ta tn tc, .slice ra rn rc], .slice ga gn gc] w fun e w' => e = .returned (.tuple #[.bool (ckC sz st l g).1, .int .i64 (ckC sz st l g).2]) ∧ Below w.heap.size w w' := by
  have hb0 : Below w.heap.size w (w.alloc (.cells #[.slice sa sn sc, .slice ta tn tc, .slice ra rn rc] 36)) := below_alloc1 (Below.refl _ _) _
  have X := Lib.hid (Blk.made w #[.slice sa sn sc, .slice ta tn tc, .slice ra rn rc] 36)
  have K1 := Lib.hid (fun (wx : World) (hb : Below w.heap.size w wx) => spec_ReachDiagram (hI.keep hb) hn (hT.keep hb) ht (hR.self hb) hr)
  have K2 := Lib.hid (fun (wx : World) (hb : Below w.heap.size w wx) => spec_TestDiagram (hI.keep hb) hn (hT.keep hb) ht (hR.self hb) hr (hG.keep hb) hg)
  have HI := Lib.hid hI
  have HT := Lib.hid hT
  have HR := Lib.hid hR
  have HG := Lib.hid hG
  clear hI hT hR hG
  by_cases h0 : (rcC sz st l).2.2.2 = 0
  · obtain ⟨L, hm, hq, hbf, hl, hrc⟩ := rc_ok h0
    obtain ⟨k1, k2⟩ := srt_gives hm hbf
    have hs := modelB_all hm
    have hlen := modelB_len hm
    have hofl := sm_off hs hq
    obtain ⟨a1, a2⟩ := rd_inv (sz := sz) (K := srtS (L.map (·.v)))
    by_cases h1 : (tdC sz st l g).2.2.2 = 0
    · obtain ⟨htt, htd⟩ := td_ok h1
      have hck := ckC_3 h0 h1
      rw [hbf] at hck
      simp only [Option.getD_some] at hck
      obtain ⟨x1', x2'⟩ := xs_states hs k1 k2
      have hL4 := bfs_few hbf
      have hKl : (srtS (L.map (·.v))).length ≤ 4000 := by
        obtain ⟨hsn, _⟩ := bfs_gives hm hbf
        rw [srt_len (m := sz.length) (fun y hy => stateB_len ((bfs_gives hm hbf).2 y hy)) hsn.nd, List.length_map]; exact hL4
      have hdia : diaB (offN sz sz.length : Int) (rdN (offN sz sz.length) ((srtS (L.map (·.v))).map (stBits sz))).1 (rdN (offN sz sz.length) ((srtS (L.map (·.v))).map (stBits sz))).2 = true := by
        obtain ⟨i1, i2, _, _⟩ := st_inv (n := offN sz sz.length) (offN sz sz.length) 0 ((srtS (L.map (·.v))).map (stBits sz)) [] (Snd.nil _) (by omega)
        exact can_dia i1 i2 (by omega) (by omega) hl
      have hsd := sdC_5 (st := st) (l := l) hm hdia rfl (by omega)
      have KS := fun (wx : World) (da : Option Addr) (dc : Nat) (hb : Below w.heap.size w wx) (hD : F3 wx da (rdN (offN sz sz.length) ((srtS (L.map (·.v))).map (stBits sz))).1.length dc (rdN (offN sz sz.length) ((srtS (L.map (·.v))).map (stBits sz))).1) => spec_l23States (inp := (offN sz sz.length : Int)) (root := (rdN (offN sz sz.length) ((srtS (L.map (·.v))).map (stBits sz))).2) (HI.out.keep hb) hn (HT.out.keep hb) ht (HR.out.self hb) hr hD (by unfold maxLen; omega) (by unfold I64; omega) (by have h1 := a2.1; have h2 := a2.2; unfold I64; omega)
      simp only [hsd] at KS
      rw [hrc] at K1
      rw [htd] at K2
      obtain ⟨⟨A1, A2⟩, hA⟩ : ∃ x, rdN (offN sz sz.length) ((srtS (L.map (·.v))).map (stBits sz)) = x := ⟨_, rfl⟩
      obtain ⟨⟨B1, B2⟩, hB⟩ : ∃ x, tsN sz g = x := ⟨_, rfl⟩
      rw [hA] at K1 hl x1' x2'
      simp only [hA] at KS
      rw [hB] at K2
      simp only at K1 K2 hl x1' x2'
      obtain ⟨xs, hxs⟩ : ∃ xs, xsN sz A1 (offN sz sz.length) A2 [] = xs := ⟨_, rfl⟩
      rw [hxs] at x1' x2'
      simp only [hxs] at KS
      have HKS := Lib.hid KS
      have hany : (srtS (L.map (·.v))).any (fun v => holdsP v g) = xs.any (fun v => holdsP v g) := by
        rw [Bool.eq_iff_iff, List.any_eq_true, List.any_eq_true]
        constructor
        · rintro ⟨v, hv, h⟩; exact ⟨v, (x1' v).2 hv, h⟩
        · rintro ⟨v, hv, h⟩; exact ⟨v, (x1' v).1 hv, h⟩
      rw [hany] at hck
      have HCD := Lib.hid hck
      have hxs4 : xs.length ≤ 4000 := by omega
      have HXS := Lib.hid (fun v hv => stateB_len (k1 v ((x1' v).1 hv)))
      have hgt : ∀ t ∈ g, 0 ≤ t.a ∧ t.a < (sz.length : Int) := fun t ht => by
        simp only [testsB, Bool.and_eq_true, decide_eq_true_eq, List.all_eq_true] at htt
        have := htt.2 t ht
        simp only [hasB, inB, Bool.and_eq_true, decide_eq_true_eq] at this
        omega
      have HGT := Lib.hid hgt
      clear h0 h1 hm hq hbf hrc k1 k2 a1 a2 htt htd hck hA hB hs hsd hdia hany hxs x1' x2' hKl KS hgt
      go_enter Tryz.func28, Tryz.ntmps28
      go_wp2_with fail
      refine Calls.mono (K1.out _ hb0) ?_
      rintro e w1 ⟨da, dc, rfl, hO, hb⟩
      have hb9 : Below w1.heap.size w1 (w1.alloc (.cells #[.int .i64 (offN sz sz.length : Int), .slice da A1.length dc, .int .i64 A2] 40)) := below_alloc1 (Below.refl _ _) _
      have XA := Lib.hid ((X.out.keep hb).keep hb9)
      have DA := Lib.hid (Blk.made w1 #[.int .i64 (offN sz sz.length : Int), .slice da A1.length dc, .int .i64 A2] 40)
      have OA := Lib.hid (hO.keep hb9)
      have HBA := Lib.hid (below_callS (below_callS hb0 hb) hb9)
      clear hO hb hb9 X hb0
      have x0 := XA.out.cell 0
      have x1 := XA.out.cell 1
      have x2 := XA.out.cell 2
      have xl := XA.out.lt
      simp only [List.getElem?_toArray, List.getElem?_cons_zero, List.getElem?_cons_succ] at x0 x1 x2
      go_wp2_with fail
      refine Calls.mono (K2.out _ HBA.out) ?_
      rintro e w2 ⟨ea, ec, rfl, hO, hb⟩
      have DA2 := Lib.hid (DA.out.keep hb)
      have OA2 := Lib.hid (OA.out.keep hb)
      have XA2 := Lib.hid (XA.out.keep hb)
      have HBB := Lib.hid (below_callS HBA.out hb)
      clear hO hb XA DA OA HBA x0 x1 x2 xl
      have p0 := DA2.out.cell 0
      have p1 := DA2.out.cell 1
      have p2 := DA2.out.cell 2
      have pl := DA2.out.lt
      have x0 := XA2.out.cell 0
      have x1 := XA2.out.cell 1
      have x2 := XA2.out.cell 2
      have xl := XA2.out.lt
      simp only [List.getElem?_toArray, List.getElem?_cons_zero, List.getElem?_cons_succ] at p0 p1 p2 x0 x1 x2
      go_wp2_with fail
      refine Calls.mono (HKS.out _ _ _ HBB.out OA2.out.flats) ?_
      rintro e w3 ⟨a3, c3, l3, rfl, hS3, hl3, hb3, _⟩
      have S3 := Lib.hid hS3
      have HL3 := Lib.hid hl3
      have HB3 := Lib.hid (below_callS HBB.out hb3)
      clear hS3 hl3 hb3 p0 p1 p2 pl x0 x1 x2 xl
      obtain ⟨n3, hn3⟩ : ∃ n, xs.length = n := ⟨_, rfl⟩
      have HN3 := Lib.hid hn3
      simp only [hn3] at S3 hxs4 ⊢
      clear hn3
      go_wp2_with fail
      go_loopw [10] (fun s10 wr => ∃ j : Nat, s10 = .int .i64 j ∧ j ≤ n3 ∧ Hid (Below w3.heap.size w3 wr) ∧ Hid ((xs.take j).any (fun v => holdsP v g) = false)) (fun s10 _ => n3 - (intOf s10).toNat)
      case atStart => exact ⟨0, rfl, by omega, Lib.hid (Below.refl _ _), Lib.hid (by simp)⟩
      case round =>
        obtain ⟨j, rfl, hj, HB, A⟩ := hrel
        by_cases hlt : j < n3
        · have hlt' : (j : Int) < (n3 : Int) := by omega
          have hj0 : (0 : Int) ≤ (j : Int) := by omega
          obtain ⟨b, off, R, v, rfl, hb, hx, hv, hc⟩ := (S3.out.keep HB.out).get hlt
          have hxv : xs[j]? = some v := by rw [← HL3.out, List.getElem?_map, hx]; rfl
          have hvl : R.n = sz.length := by rw [← hv.ints.len]; exact HXS.out v (List.mem_of_getElem? hxv)
          have KH := Lib.hid (spec_l20Holds hv.ints (HG.out.keep (below_callS HB3.out HB.out)) hg (by rw [hvl]; exact HGT.out))
          have HXV := Lib.hid hxv
          clear hx hv hxv hvl
          cases hh : holdsP v g with
          | true =>
            rw [hh] at KH
            have HF := Lib.hid (show xs.any (fun v => holdsP v g) = true from List.any_eq_true.2 ⟨v, List.mem_of_getElem? HXV.out, hh⟩)
            clear hh
            go_wp2_with fail
            refine Calls.mono KH.out ?_
            rintro e w4 ⟨rfl, hb4⟩
            have HB4 := Lib.hid (below_callS (below_callS HB3.out HB.out) hb4)
            clear hb4
            go_wp2
            go_ret2
            exact ⟨by rw [HCD.out, HF.out]; rfl, HB4.out⟩
          | false =>
            rw [hh] at KH
            have HA := Lib.hid (any_take_step (p := fun v => holdsP v g) HXV.out A.out hh)
            clear hh A
            go_wp2_with fail
            refine Calls.mono KH.out ?_
            rintro e w4 ⟨rfl, hb4⟩
            have HB4 := Lib.hid (below_callS HB.out hb4)
            clear hb4
            go_wp2
            go_roundw
            case rel => exact ⟨j + 1, by go_num, by omega, HB4, HA⟩
            case measure => simp [intOf]; omega
        · have hlt' : ¬ (j : Int) < (n3 : Int) := by omega
          have HF := Lib.hid (show xs.any (fun v => holdsP v g) = false by
            have h := A.out
            rw [List.take_of_length_le (by rw [HN3.out]; omega)] at h; exact h)
          have HBz := Lib.hid (below_callS HB3.out HB.out)
          go_wp2
          go_ret2
          exact ⟨by rw [HCD.out, HF.out]; rfl, HBz.out⟩
    · have hck := ckC_2 (g := g) h0 h1
      rw [hrc] at K1
      obtain ⟨⟨T1, T2, T3, T4⟩, hT⟩ : ∃ x, tdC sz st l g = x := ⟨_, rfl⟩
      rw [hT] at K2 hck h1
      simp only at K1 K2 hck h1
      have HCD := Lib.hid hck
      have hne : (T4 != 0) = true := by simpa using h1
      clear h0 hm hq hbf hrc k1 k2 a1 a2 hck hT hs h1
      go_enter Tryz.func28, Tryz.ntmps28
      go_wp2_with fail
      refine Calls.mono (K1.out _ hb0) ?_
      rintro e w1 ⟨da, dc, rfl, hO, hb⟩
      have hb9 := fun (o : Obj) => below_alloc1 (Below.refl w1.heap.size w1) o
      have XA := Lib.hid (fun (o : Obj) => (X.out.keep hb).keep (hb9 o))
      have HBA := Lib.hid (fun (o : Obj) => below_callS (below_callS hb0 hb) (hb9 o))
      clear hO hb hb9 X hb0
      have x0 := fun (o : Obj) => (XA.out o).cell 0
      have x1 := fun (o : Obj) => (XA.out o).cell 1
      have x2 := fun (o : Obj) => (XA.out o).cell 2
      have xl := fun (o : Obj) => (XA.out o).lt
      simp only [List.getElem?_toArray, List.getElem?_cons_zero, List.getElem?_cons_succ] at x0 x1 x2
      go_wp2_with fail
      refine Calls.mono (K2.out _ (HBA.out _)) ?_
      rintro e w2 ⟨ea, ec, rfl, hO, hb⟩
      have HBB := Lib.hid (below_callS (HBA.out _) hb)
      clear hO hb x0 x1 x2 xl XA
      have hbz : Below w.heap.size w w2 := HBB.out
      go_wp2
      go_ret2
      exact ⟨by rw [HCD.out]; rfl, bel⟩
  · have hck := ckC_1 (g := g) h0
    obtain ⟨⟨T1, T2, T3, T4⟩, hT⟩ : ∃ x, rcC sz st l = x := ⟨_, rfl⟩
    rw [hT] at K1 hck h0
    simp only at K1 hck h0
    have HCD := Lib.hid hck
    have hne : (T4 != 0) = true := by simpa using h0
    clear hck hT h0 K2
    go_enter Tryz.func28, Tryz.ntmps28
    go_wp2_with fail
    refine Calls.mono (K1.out _ hb0) ?_
    rintro e w1 ⟨da, dc, rfl, hO, hb⟩
    have hbz : Below w.heap.size w w1 := below_callS hb0 hb
    clear hO hb X hb0
    go_wp2
    go_ret2
    exact ⟨by rw [HCD.out]; rfl, bel⟩
end Go.Proofs.YtkaikbaagajckaaGreat
namespace Go.Proofs.YtkaikbaagajckaaGreat
open Go.RowKit
set_option linter.unusedVariables false
set_option linter.unusedSimpArgs false
theorem ckC_rs {sz st : List Int} {l : List (RM × RuD)} {rs : List RuD} {g : List I2b} (h : l.map (·.2) = rs) : ckC sz st l g = ckC sz st (rsM rs) g := by
  rw [ckC, ckC, rcC_rs h, tdC_rs h, h, rsM_map]
theorem spec_CheckDiagrams_r {sa ta ra ga : Option Addr} {sn sc tn tc rn rc gn gc : Nat} {sz st : List Int} {rs : List RuD} {g : List I2b} {w : World} (h : MRd w sa sn sc ta tn tc ra rn rc sz st rs) (hG : F2b w ga gn gc g) (hg : gn ≤ 1048576) :
    Calls Tryz.prog 28 #[.agg #[.slice sa sn sc, .slice ta tn tc, .slice ra rn rc], .slice ga gn gc] w fun e w' => e = .returned (.tuple #[.bool (ckC sz st (rsM rs) g).1, .int .i64 (ckC sz st (rsM rs) g).2]) ∧ Below w.heap.size w w' := by
  obtain ⟨l, h1, h2⟩ := h.r
  have := spec_CheckDiagrams h.s h.sn h.t h.tn h1 h.rn hG hg
  rw [ckC_rs h2] at this
  exact this
theorem impl_CheckDiagrams_r {sa ta ra ga : Option Addr} {sn sc tn tc rn rc gn gc : Nat} {sz st : List Int} {rs : List RuD} {g : List I2b} {w : World} (h : MRd w sa sn sc ta tn tc ra rn rc sz st rs) (hG : F2b w ga gn gc g) (hg : gn ≤ 1048576) :
    Calls Tryz.prog 27 #[.agg #[.slice sa sn sc, .slice ta tn tc, .slice ra rn rc], .slice ga gn gc] w fun e w' => e = .returned (.tuple #[.bool (ckC sz st (rsM rs) g).1, .int .i64 (ckC sz st (rsM rs) g).2]) ∧ Below w.heap.size w w' := by
  obtain ⟨l, h1, h2⟩ := h.r
  have := impl_CheckDiagrams h.s h.sn h.t h.tn h1 h.rn hG hg
  rw [ckC_rs h2] at this
  exact this
end Go.Proofs.YtkaikbaagajckaaGreat
