/- CheckDiagrams: what both answer; the program, walked. -/
import Derived.Test.YtkaikbaagajckaaGreatR26
import Derived.Test.YtkaikbaagajckaaGreatR23
import Derived.Test.YtkaikbaagajckaaGreatR24
namespace Go.Proofs.YtkaikbaagajckaaGreat
open Go.RowKit
set_option linter.unusedVariables false
set_option linter.unusedSimpArgs false
attribute [local go_sem ↓] Go.wp_at_zero Go.wp_at_succ
/-- whether the tests hold in no reachable state, and the code -/
def ckC (sz st : List Int) (l : List (RM × RuD)) (g : List I2b) : Bool × Int :=
  if (rcC sz st l).2.2.2 ≠ 0 then (false, (rcC sz st l).2.2.2) else if (tdC sz st l g).2.2.2 ≠ 0 then (false, (tdC sz st l g).2.2.2)
  else (!((srtS (((bfsP (l.map (·.2)) st).getD []).map (·.v))).any fun v => holdsP v g), 0)
section
variable {sz st : List Int} {l : List (RM × RuD)} {g : List I2b}
theorem ckC_1 (h : (rcC sz st l).2.2.2 ≠ 0) : ckC sz st l g = (false, (rcC sz st l).2.2.2) := if_pos h
theorem ckC_2 (h : (rcC sz st l).2.2.2 = 0) (h2 : (tdC sz st l g).2.2.2 ≠ 0) : ckC sz st l g = (false, (tdC sz st l g).2.2.2) := by rw [ckC, if_neg (by simp [h]), if_pos h2]
theorem ckC_3 (h : (rcC sz st l).2.2.2 = 0) (h2 : (tdC sz st l g).2.2.2 = 0) : ckC sz st l g = (!((srtS (((bfsP (l.map (·.2)) st).getD []).map (·.v))).any fun v => holdsP v g), 0) := by rw [ckC, if_neg (by simp [h]), if_neg (by simp [h2])]
theorem rc_ok (h : (rcC sz st l).2.2.2 = 0) : ∃ L, modelB sz st l = true ∧ smB sz = true ∧ bfsP (l.map (·.2)) st = some L ∧ (rdN (offN sz sz.length) ((srtS (L.map (·.v))).map (stBits sz))).1.length ≤ 2000 ∧
    rcC sz st l = ((offN sz sz.length : Int), (rdN (offN sz sz.length) ((srtS (L.map (·.v))).map (stBits sz))).1, (rdN (offN sz sz.length) ((srtS (L.map (·.v))).map (stBits sz))).2, 0) := by
  cases hm : modelB sz st l with
  | false => rw [rcC_1 hm] at h; cases h
  | true =>
    cases hq : smB sz with
    | false => rw [rcC_2 hm hq] at h; cases h
    | true =>
      cases hb : bfsP (l.map (·.2)) st with
      | none => rw [rcC_3 hm hq hb] at h; cases h
      | some L =>
        rw [rcC_4 hm hq hb, sdgN] at h
        by_cases hl : (rdN (offN sz sz.length) ((srtS (L.map (·.v))).map (stBits sz))).1.length ≤ 2000
        · exact ⟨L, rfl, rfl, rfl, hl, by rw [rcC_4 hm hq hb, sdgN, lmC_yes hl]⟩
        · rw [lmC_no hl] at h; cases h
theorem td_ok (h : (tdC sz st l g).2.2.2 = 0) : testsB sz g = true ∧ tdC sz st l g = ((offN sz sz.length : Int), (tsN sz g).1, (tsN sz g).2, 0) := by
  cases hm : modelB sz st l with
  | false => rw [tdC_1 hm] at h; cases h
  | true =>
    cases ht : testsB sz g with
    | false => rw [tdC_2 hm ht] at h; cases h
    | true =>
      cases hq : smB sz with
      | false => rw [tdC_3 hm ht hq] at h; cases h
      | true => exact ⟨rfl, tdC_4 hm ht hq⟩
/-- the states of a search, in order -/
theorem srt_gives {L : List SN} (hm : modelB sz st l = true) (h : bfsP (l.map (·.2)) st = some L) : (∀ v ∈ srtS (L.map (·.v)), stateB sz v = true) ∧ AscS sz.length (srtS (L.map (·.v))) := by
  obtain ⟨_, h2⟩ := bfs_gives hm h
  exact ⟨srt_states h2, srt_asc fun x hx => stateB_len (h2 x hx)⟩
end
set_option maxRecDepth 100000 in
set_option maxHeartbeats 4000000 in
theorem impl_CheckDiagrams {sa ta ra ga : Option Addr} {sn sc tn tc rn rc gn gc : Nat} {sz st : List Int} {l : List (RM × RuD)} {g : List I2b} {w : World} (hI : Ints w sa sn sc sz) (hn : sn ≤ 1048576) (hT : Ints w ta tn tc st) (ht : tn ≤ 1048576) (hR : FR w w ra rn rc l) (hr : rn ≤ 1048576) (hG : F2b w ga gn gc g) (hg : gn ≤ 1048576) :
    Calls Tryz.prog 27 #[.agg #[.slice sa sn sc, .slice ta tn tc, .slice ra rn rc], .slice ga gn gc] w fun e w' => e = .returned (.tuple #[.bool (ckC sz st l g).1, .int .i64 (ckC sz st l g).2]) ∧ Below w.heap.size w w' := by
  have hb0 : Below w.heap.size w (w.alloc (.cells #[.slice sa sn sc, .slice ta tn tc, .slice ra rn rc] 36)) := below_alloc1 (Below.refl _ _) _
  have X := Lib.hid (Blk.made w #[.slice sa sn sc, .slice ta tn tc, .slice ra rn rc] 36)
  have K1 := Lib.hid (fun (wx : World) (hb : Below w.heap.size w wx) => impl_ReachDiagram (hI.keep hb) hn (hT.keep hb) ht (hR.self hb) hr)
  have K2 := Lib.hid (fun (wx : World) (hb : Below w.heap.size w wx) => impl_TestDiagram (hI.keep hb) hn (hT.keep hb) ht (hR.self hb) hr (hG.keep hb) hg)
  clear hI hT hR hG
  by_cases h0 : (rcC sz st l).2.2.2 = 0
  · obtain ⟨L, hm, hq, hbf, hl, hrc⟩ := rc_ok h0
    obtain ⟨k1, k2⟩ := srt_gives hm hbf
    have hs := modelB_all hm
    have hlen := modelB_len hm
    have hofl := sm_off hs hq
    obtain ⟨a1, a2⟩ := rd_inv (sz := sz) (K := srtS (L.map (·.v)))
    by_cases h1 : (tdC sz st l g).2.2.2 = 0
    · obtain ⟨htt, htd⟩ := td_ok h1
      have hck := ckC_3 h0 h1
      rw [hbf] at hck
      simp only [Option.getD_some] at hck
      have hroot := cd_root hs hlen k1 k2 htt hl
      obtain ⟨t1, t2⟩ := ts_inv (g := g) hs
      have ht5 := ts_few (g := g) hs hlen
      rw [hrc] at K1
      rw [htd] at K2
      obtain ⟨⟨A1, A2⟩, hA⟩ : ∃ x, rdN (offN sz sz.length) ((srtS (L.map (·.v))).map (stBits sz)) = x := ⟨_, rfl⟩
      obtain ⟨⟨B1, B2⟩, hB⟩ : ∃ x, tsN sz g = x := ⟨_, rfl⟩
      rw [hA] at K1 a1 a2 hl hroot
      rw [hB] at K2 t1 t2 ht5 hroot
      simp only at K1 K2 a1 a2 hl hroot t1 t2 ht5
      have HJ := Lib.hid (fun (wx : World) (aA aB : Option Addr) (cA cB : Nat) (hIA : F3 wx aA A1.length cA A1) (hIB : F3 wx aB B1.length cB B1) => impl_joinAll (j := 0) (n := (offN sz sz.length : Int)) hIA hIB a1 t1 (by omega) (by omega) a2 t2 hl (by omega))
      have HCD := Lib.hid hck
      obtain ⟨Q, hQ⟩ : ∃ Q, (srtS (L.map (·.v))).any (fun v => holdsP v g) = Q := ⟨_, rfl⟩
      rw [hQ] at hroot hck
      have HCD := Lib.hid hck
      obtain ⟨J, hJ⟩ : ∃ J, (jnN 0 (offN sz sz.length : Int) A1 B1 A2 B2).2 = J := ⟨_, rfl⟩
      rw [hJ] at hroot
      have HJE := Lib.hid hJ
      have HRT := Lib.hid (show (J == 0) = !Q by
        cases Q with
        | false => simpa using hroot.2 rfl
        | true => simpa using fun e => absurd (hroot.1 e) (by simp))
      clear h0 h1 hm hq hbf hrc k1 k2 a1 a2 htt htd hck hroot t1 t2 hA hB hQ hJ hs
      go_enter Tryz.func27, Tryz.ntmps27
      go_wp2_with fail
      refine Calls.mono (K1.out _ hb0) ?_
      rintro e w1 ⟨da, dc, rfl, hO, hb⟩
      have hb9 : Below w1.heap.size w1 (w1.alloc (.cells #[.int .i64 (offN sz sz.length : Int), .slice da A1.length dc, .int .i64 A2] 40)) := below_alloc1 (Below.refl _ _) _
      have XA := Lib.hid ((X.out.keep hb).keep hb9)
      have DA := Lib.hid (Blk.made w1 #[.int .i64 (offN sz sz.length : Int), .slice da A1.length dc, .int .i64 A2] 40)
      have OA := Lib.hid (hO.keep hb9)
      have HBA := Lib.hid (below_callS (below_callS hb0 hb) hb9)
      clear hO hb hb9 X hb0
      have x0 := XA.out.cell 0
      have x1 := XA.out.cell 1
      have x2 := XA.out.cell 2
      have xl := XA.out.lt
      simp only [List.getElem?_toArray, List.getElem?_cons_zero, List.getElem?_cons_succ] at x0 x1 x2
      go_wp2_with fail
      refine Calls.mono (K2.out _ HBA.out) ?_
      rintro e w2 ⟨ea, ec, rfl, hO, hb⟩
      have hb9 : Below w2.heap.size w2 (w2.alloc (.cells #[.int .i64 (offN sz sz.length : Int), .slice ea B1.length ec, .int .i64 B2] 40)) := below_alloc1 (Below.refl _ _) _
      have DA2 := Lib.hid ((DA.out.keep hb).keep hb9)
      have DB := Lib.hid (Blk.made w2 #[.int .i64 (offN sz sz.length : Int), .slice ea B1.length ec, .int .i64 B2] 40)
      have OA2 := Lib.hid ((OA.out.keep hb).keep hb9)
      have OB := Lib.hid (hO.keep hb9)
      have HBB := Lib.hid (below_callS (below_callS HBA.out hb) hb9)
      clear hO hb hb9 XA DA OA HBA x0 x1 x2 xl
      have p0 := DA2.out.cell 0
      have p1 := DA2.out.cell 1
      have p2 := DA2.out.cell 2
      have pl := DA2.out.lt
      have q0 := DB.out.cell 0
      have q1 := DB.out.cell 1
      have q2 := DB.out.cell 2
      have ql := DB.out.lt
      simp only [List.getElem?_toArray, List.getElem?_cons_zero, List.getElem?_cons_succ] at p0 p1 p2 q0 q1 q2
      go_wp2_with fail
      refine Calls.mono (HJ.out _ _ _ _ _ OA2.out.flats OB.out.flats) ?_
      rintro e w3 ⟨lo, p, mb, na, nc, mn, rfl, _, _, hb⟩
      rw [HJE.out]
      have HB3 := Lib.hid (below_callS HBB.out hb)
      clear hb p0 p1 p2 pl q0 q1 q2 ql
      go_wp2
      go_ret2
      exact ⟨by rw [HCD.out]; show Ending.returned (.tuple #[.bool (J == 0), _]) = _; rw [HRT.out]; rfl, HB3.out⟩
    · have hck := ckC_2 (g := g) h0 h1
      rw [hrc] at K1
      obtain ⟨⟨T1, T2, T3, T4⟩, hT⟩ : ∃ x, tdC sz st l g = x := ⟨_, rfl⟩
      rw [hT] at K2 hck h1
      simp only at K1 K2 hck h1
      have HCD := Lib.hid hck
      have hne : (T4 != 0) = true := by simpa using h1
      clear h0 hm hq hbf hrc k1 k2 a1 a2 hck hT hs h1
      go_enter Tryz.func27, Tryz.ntmps27
      go_wp2_with fail
      refine Calls.mono (K1.out _ hb0) ?_
      rintro e w1 ⟨da, dc, rfl, hO, hb⟩
      have hb9 := fun (o : Obj) => below_alloc1 (Below.refl w1.heap.size w1) o
      have XA := Lib.hid (fun (o : Obj) => (X.out.keep hb).keep (hb9 o))
      have HBA := Lib.hid (fun (o : Obj) => below_callS (below_callS hb0 hb) (hb9 o))
      clear hO hb hb9 X hb0
      have x0 := fun (o : Obj) => (XA.out o).cell 0
      have x1 := fun (o : Obj) => (XA.out o).cell 1
      have x2 := fun (o : Obj) => (XA.out o).cell 2
      have xl := fun (o : Obj) => (XA.out o).lt
      simp only [List.getElem?_toArray, List.getElem?_cons_zero, List.getElem?_cons_succ] at x0 x1 x2
      go_wp2_with fail
      refine Calls.mono (K2.out _ (HBA.out _)) ?_
      rintro e w2 ⟨ea, ec, rfl, hO, hb⟩
      have HBB := Lib.hid (below_callS (HBA.out _) hb)
      clear hO hb x0 x1 x2 xl XA
      have hbz : Below w.heap.size w w2 := HBB.out
      go_wp2
      go_ret2
      exact ⟨by rw [HCD.out]; rfl, bel⟩
  · have hck := ckC_1 (g := g) h0
    obtain ⟨⟨T1, T2, T3, T4⟩, hT⟩ : ∃ x, rcC sz st l = x := ⟨_, rfl⟩
    rw [hT] at K1 hck h0
    simp only at K1 hck h0
    have HCD := Lib.hid hck
    have hne : (T4 != 0) = true := by simpa using h0
    clear hck hT h0 K2
    go_enter Tryz.func27, Tryz.ntmps27
    go_wp2_with fail
    refine Calls.mono (K1.out _ hb0) ?_
    rintro e w1 ⟨da, dc, rfl, hO, hb⟩
    have hbz : Below w.heap.size w w1 := below_callS hb0 hb
    clear hO hb X hb0
    go_wp2
    go_ret2
    exact ⟨by rw [HCD.out]; rfl, bel⟩
end Go.Proofs.YtkaikbaagajckaaGreat
