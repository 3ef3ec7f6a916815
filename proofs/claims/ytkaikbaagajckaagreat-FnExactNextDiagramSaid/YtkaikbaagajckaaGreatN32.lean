/- The states of a diagram: the program, walked.; The next states of states, and their diagram: the program, walked. -/
import Derived.Test.YtkaikbaagajckaaGreatPu
import Derived.Test.YtkaikbaagajckaaGreatN25
import Derived.Test.YtkaikbaagajckaaGreatN26
import Derived.Test.YtkaikbaagajckaaGreatN27
import Derived.Test.YtkaikbaagajckaaGreatN28
import Derived.Test.YtkaikbaagajckaaGreatN31
import Derived.Test.YtkaikbaagajckaaGreatN07
import Derived.Test.YtkaikbaagajckaaGreatN13
import Derived.Test.YtkaikbaagajckaaGreatN14
import Derived.Test.YtkaikbaagajckaaGreatN10
namespace Go.Proofs.YtkaikbaagajckaaGreat
open Go.RowKit
set_option linter.unusedVariables false
set_option linter.unusedSimpArgs false
attribute [local go_sem ↓] Go.wp_at_zero Go.wp_at_succ
set_option maxRecDepth 100000 in
set_option maxHeartbeats 8000000 in
theorem impl_diagramStates {sa ta ra da : Option Addr} {sn sc tn tc rn rc dc : Nat} {sz st : List Int} {l : List (RM × RuD)} {inp root : Int} {L : List I3} {w : World} (hI : Ints w sa sn sc sz) (hn : sn ≤ 1048576) (hT : Ints w ta tn tc st) (ht : tn ≤ 1048576) (hR : FR w w ra rn rc l) (hr : rn ≤ 1048576) (hD : F3 w da L.length dc L) (hdl : L.length ≤ maxLen) (hi64 : I64 inp) (hr64 : I64 root) :
    Calls Tryz.prog 53 #[.agg #[.slice sa sn sc, .slice ta tn tc, .slice ra rn rc], .agg #[.int .i64 inp, .slice da L.length dc, .int .i64 root]] w (SdR true w (sdC sz st l inp L root)) := by
  have hb0 : Below w.heap.size w ((w.alloc (.cells #[.slice sa sn sc, .slice ta tn tc, .slice ra rn rc] 36)).alloc (.cells #[.int .i64 inp, .slice da L.length dc, .int .i64 root] 40)) := bel
  have X := Lib.hid ((Blk.made w #[.slice sa sn sc, .slice ta tn tc, .slice ra rn rc] 36).keep (below_alloc1 (Below.refl _ _) (.cells #[.int .i64 inp, .slice da L.length dc, .int .i64 root] 40)))
  have D := Lib.hid (Blk.made1 w (.cells #[.slice sa sn sc, .slice ta tn tc, .slice ra rn rc] 36) #[.int .i64 inp, .slice da L.length dc, .int .i64 root] 40)
  have KM := fun (wx : World) (hb : Below w.heap.size w wx) => impl_IsModel (hI.keep hb) hn (hT.keep hb) ht (hR.self hb) hr
  have KD := fun (wx : World) (hb : Below w.heap.size w wx) => impl_IsDiagram (inp := inp) (root := root) (hD.keep hb) hi64 hr64 hdl
  cases hm : modelB sz st l
  · simp only [hm] at KM
    have K1 := Lib.hid KM
    have HC := Lib.hid (sdC_1 (inp := inp) (L := L) (root := root) hm)
    clear KM KD hm hI hT hR hD
    go_enter Tryz.func53, Tryz.ntmps53
    go_wp2_with fail
    refine Calls.mono (K1.out _ hb0) ?_
    rintro e w1 ⟨rfl, hb⟩
    go_wp2
    go_ret2
    exact ⟨none, 0, [], by rw [HC.out]; rfl, by rw [HC.out]; exact SRow.nil _ _ _, by rw [HC.out]; rfl, below_callS hb0 hb, fun _ => List.Pairwise.nil⟩
  simp only [hm] at KM
  have K1 := Lib.hid KM
  have hs := modelB_all hm
  have hs16 := modelB_len hm
  cases hd : diaB inp L root
  · simp only [hd] at KD
    have K2 := Lib.hid KD
    have HC := Lib.hid (sdC_2 hm hd)
    clear KM KD hm hd hs hI hT hR hD
    go_enter Tryz.func53, Tryz.ntmps53
    go_wp2_with fail
    refine Calls.mono (K1.out _ hb0) ?_
    rintro e w1 ⟨rfl, hb⟩
    have D1 := Lib.hid (D.out.keep hb)
    have HB1 := Lib.hid (below_callS hb0 hb)
    clear hb
    have x0 := D1.out.cell 0
    have x1 := D1.out.cell 1
    have x2 := D1.out.cell 2
    have xl := D1.out.lt
    simp only [List.getElem?_toArray, List.getElem?_cons_zero, List.getElem?_cons_succ] at x0 x1 x2
    go_wp2_with fail
    refine Calls.mono (K2.out _ HB1.out) ?_
    rintro e w2 ⟨rfl, hb⟩
    go_wp2
    go_ret2
    exact ⟨none, 0, [], by rw [HC.out]; rfl, by rw [HC.out]; exact SRow.nil _ _ _, by rw [HC.out]; rfl, below_callS HB1.out hb, fun _ => List.Pairwise.nil⟩
  simp only [hd] at KD
  have K2 := Lib.hid KD
  have hS := dia_snd hd
  obtain ⟨_, hrr, h0, h20, hll, _, _⟩ := dia_redu hd
  have KW := Lib.hid (fun (wx : World) (hb : Below w.heap.size w wx) => impl_widths (ta := ta) (tn := tn) (tc := tc) (ra := ra) (rn := rn) (rc := rc) (hI.keep hb) hn hs)
  have hfull := (offN_full hs).symm
  rw [hfull] at KW
  by_cases hin : inp = (offN sz sz.length : Int)
  · subst hin
    have hsl : sz.length = sn := hI.len
    subst hsl
    obtain ⟨t1, t2⟩ := ts_inv (g := []) hs
    obtain ⟨j1, j2, j3, _⟩ := ojN_inv hs hs16 hS hrr hll
    obtain ⟨o1, o2, o3, _⟩ := owN_inv hs hs16 hS hrr hll
    have hon := owL_ones hs hs16 hS hrr hll
    have BITS := Lib.hid (fun (s : List Int) (h : s ∈ owL sz L root) => owL_bits hs hs16 hS hrr hll h)
    have STS := Lib.hid (owL_states hs hs16 hS hrr hll)
    have hne : ((offN sz sz.length : Int) != (offN sz sz.length : Int)) = false := by simp
    have KT := (fun (wx : World) (hb : Below w.heap.size w wx) => impl_testDiagram (ta := ta) (tn := tn) (tc := tc) (ra := ra) (rn := rn) (rc := rc) (ga := none) (gn := 0) (gc := 0) (g := []) (hI.keep hb) hs16 hs ⟨rfl, Nat.le_refl _, .inl rfl, (fun x hx => by cases hx), fun _ => ⟨rfl, rfl⟩⟩ (by omega))
    rw [hfull] at KT
    have KJ := (fun (wx : World) (hb : Below w.heap.size w wx) (a2 : Option Addr) (c2 : Nat) (h2 : F3 wx a2 (tsN sz []).1.length c2 (tsN sz []).1) => impl_joinAll (j := 0) (hD.keep hb) h2 hS t1 (by omega) h20 hrr t2 hll (Nat.le_trans (ts_few hs hs16) (by omega)))
    rw [show jnN 0 (offN sz sz.length : Int) L (tsN sz []).1 root (tsN sz []).2 = ojN sz L root from rfl] at KJ
    have KC := (fun (wx : World) (lo p mb nc mn : Nat) (na : Option Addr) (h2 : ForA wx lo p mb (offN sz sz.length : Int) na nc mn (ojN sz L root).1) => impl_canonical h2 j1.redu (by omega) (by unfold I64; omega) j2)
    rw [show canN mkN (ojN sz L root).1 (ojN sz L root).2 = owN sz L root from rfl] at KC
    have KO := (fun (wx : World) (a2 : Option Addr) (c2 : Nat) (h2 : F3 wx a2 (owN sz L root).1.length c2 (owN sz L root).1) => impl_ones h2 (by omega) o1 o2 h0 h20)
    rw [hon] at KO
    have KL := (fun (h4 : (xsN sz L (offN sz sz.length) root []).length ≤ 4000) (wx : World) (a2 : Option Addr) (c2 : Nat) (h2 : F3 wx a2 (owN sz L root).1.length c2 (owN sz L root).1) => impl_lists h2 o1 (by omega) (by omega) o2 (by rw [← ones_ls o1 o2, hon]; omega))
    rw [show lsN (offN sz sz.length : Int) (owN sz L root).1 (offN sz sz.length) (owN sz L root).2 = owL sz L root from rfl] at KL
    have KV := Lib.hid (fun (wx : World) (hb : Below w.heap.size w wx) (q : QM) (v : List Int) (hv : v ∈ owL sz L root) (h2 : Ints wx q.a q.n q.c v) => impl_valuesOf (ta := ta) (tn := tn) (tc := tc) (ra := ra) (rn := rn) (rc := rc) (hI.keep hb) h2 hs16 hs (BITS.out v hv).2 (by rw [← (BITS.out v hv).1, h2.len]))
    have KT' := Lib.hid KT
    have KJ' := Lib.hid KJ
    have KC' := Lib.hid KC
    have KO' := Lib.hid KO
    have KL' := Lib.hid KL
    have hL4 : (owL sz L root).length = (xsN sz L (offN sz sz.length) root []).length := by rw [← STS.out, List.length_map]
    have HC4 := Lib.hid (fun h4 => sdC_4 (st := st) (l := l) hm hd rfl h4)
    have HC5 := Lib.hid (fun h5 => sdC_5 (st := st) (l := l) hm hd rfl h5)
    clear KM KD hm hd hs hI hT hR hD KT KJ KC KO KL hS t1 t2 j1 j2 o1 o2 hon hrr
    by_cases h4 : (xsN sz L (offN sz sz.length) root []).length ≤ 4000
    · have h4' : ¬ (4000 : Int) < ((xsN sz L (offN sz sz.length) root []).length : Int) := by omega
      have HC := Lib.hid (HC5.out h4)
      have hq4 : (owL sz L root).length ≤ 4000 := by omega
      clear HC4 HC5
      go_enter Tryz.func53, Tryz.ntmps53
      go_wp2_with fail
      refine Calls.mono (K1.out _ hb0) ?_
      rintro e w1 ⟨rfl, hb⟩
      have D1 := Lib.hid (D.out.keep hb)
      have X1 := Lib.hid (X.out.keep hb)
      have HB1 := Lib.hid (below_callS hb0 hb)
      clear hb D X hb0
      have x0 := D1.out.cell 0
      have x1 := D1.out.cell 1
      have x2 := D1.out.cell 2
      have xl := D1.out.lt
      simp only [List.getElem?_toArray, List.getElem?_cons_zero, List.getElem?_cons_succ] at x0 x1 x2
      go_wp2_with fail
      refine Calls.mono (K2.out _ HB1.out) ?_
      rintro e w2 ⟨rfl, hb⟩
      have D2 := Lib.hid (D1.out.keep hb)
      have X2 := Lib.hid (X1.out.keep hb)
      have HB2 := Lib.hid (below_callS HB1.out hb)
      clear hb x0 x1 x2 xl D1 X1 HB1
      have y0 := X2.out.cell 0
      have y1 := X2.out.cell 1
      have y2 := X2.out.cell 2
      have yl := X2.out.lt
      simp only [List.getElem?_toArray, List.getElem?_cons_zero, List.getElem?_cons_succ] at y0 y1 y2
      go_wp2_with fail
      refine Calls.mono (KW.out _ HB2.out) ?_
      rintro e w3 ⟨a3, c3, rfl, hb, ho⟩
      have D3 := Lib.hid (D2.out.keep hb)
      have X3 := Lib.hid (X2.out.keep hb)
      have HB3 := Lib.hid (below_callS HB2.out hb)
      clear hb ho y0 y1 y2 yl D2 X2 HB2
      have x0 := D3.out.cell 0
      have x1 := D3.out.cell 1
      have x2 := D3.out.cell 2
      have xl := D3.out.lt
      have y0 := X3.out.cell 0
      have y1 := X3.out.cell 1
      have y2 := X3.out.cell 2
      have yl := X3.out.lt
      simp only [List.getElem?_toArray, List.getElem?_cons_zero, List.getElem?_cons_succ] at x0 x1 x2 y0 y1 y2
      have hb3 := HB3.out
      go_wp2_with fail
      refine wp_region_noPanic ?_
      refine wp_region_held_drew (S := (fun wx => wx.cell? ⟨w.heap.size, 0, none⟩ = some (.slice sa sz.length sc) ∧ wx.cell? ⟨w.heap.size, 1, none⟩ = some (.slice ta tn tc) ∧ wx.cell? ⟨w.heap.size, 2, none⟩ = some (.slice ra rn rc) ∧ wx.cell? ⟨w.heap.size + 1, 0, none⟩ = some (.int .i64 (offN sz sz.length : Int)) ∧ wx.cell? ⟨w.heap.size + 1, 1, none⟩ = some (.slice da L.length dc) ∧ wx.cell? ⟨w.heap.size + 1, 2, none⟩ = some (.int .i64 root) ∧ w.heap.size < wx.heap.size ∧ w.heap.size + 1 < wx.heap.size ∧ Below w.heap.size w wx ∧ Below w3.heap.size w3 wx)) (by kernel_rfl) ?_ (fun hHeld => ?_)
      · (try dsimp only); (((try go_split_ands); (repeat' apply And.intro) <;> with_reducible (first | assumption | exact (hcx _ _ (by assumption)).trans (by assumption) | exact Nat.lt_of_lt_of_le (by assumption) hsx | exact below_callS (by assumption) hbx | exact Below.drew (by assumption) | exact cellR_drew (by assumption) | exact ltR_drew (by assumption) | exact (Below.refl _ _).drew)))
      refine tkH 0 ?_
      try simp only [pu]
      refine tkH 1 ?_
      try simp only [pu]
      refine wpAnyH_ready (rs := [2]) (by kernel_rfl) (by simp) ?_
      refine AllReadyH.cons rfl (fun K hK => ?_) AllReadyH.nil
      go_simp
      (go_at_call 76; refine Calls.mono (KT'.out _ (by first | assumption | (go_split_ands; assumption))) ?_; rintro e wx2 ⟨a4, c4, rfl, ho, hbx⟩; have T4 := Lib.hid ho.flats; clear ho; obtain ⟨hcx, hfx⟩ := bcell hbx; have hsx := hbx.size)
      go_wp2_with fail
      refine hK.out _ _ ?_ (fun hHeld => ?_)
      · (try dsimp only); (((try go_split_ands); (repeat' apply And.intro) <;> with_reducible (first | assumption | exact (hcx _ _ (by assumption)).trans (by assumption) | exact Nat.lt_of_lt_of_le (by assumption) hsx | exact below_callS (by assumption) hbx | exact Below.drew (by assumption) | exact cellR_drew (by assumption) | exact ltR_drew (by assumption) | exact (Below.refl _ _).drew)))
      clear hK K
      try simp only [pu]
      refine wpAnyH_ready (rs := [3]) (by kernel_rfl) (by simp) ?_
      refine AllReadyH.cons rfl (fun K hK => ?_) AllReadyH.nil
      go_simp
      (go_at_call 73; refine Calls.mono (KJ'.out _ (by first | assumption | (go_split_ands; assumption)) _ _ T4.out) ?_; rintro e wx2 ⟨lo, p, mb, na, nc, mn, rfl, hfor, _, hbx⟩; have F5 := Lib.hid hfor; clear hfor; obtain ⟨hcx, hfx⟩ := bcell hbx; have hsx := hbx.size)
      go_wp2_with fail
      refine hK.out _ _ ?_ (fun hHeld => ?_)
      · (try dsimp only); (((try go_split_ands); (repeat' apply And.intro) <;> with_reducible (first | assumption | exact (hcx _ _ (by assumption)).trans (by assumption) | exact Nat.lt_of_lt_of_le (by assumption) hsx | exact below_callS (by assumption) hbx | exact Below.drew (by assumption) | exact cellR_drew (by assumption) | exact ltR_drew (by assumption) | exact (Below.refl _ _).drew)))
      clear hK K
      try simp only [pu]
      refine tkH 4 ?_
      try simp only [pu]
      refine tkH 5 ?_
      try simp only [pu]
      refine tkH 6 ?_
      try simp only [pu]
      refine tkH 7 ?_
      try simp only [pu]
      refine tkH 8 ?_
      try simp only [pu]
      refine wpAnyH_done (by kernel_rfl) ?_ _
      refine NoPanic.normal ?_
      obtain ⟨y0', y1', y2', _, _, _, yl', _, hb5, hb35⟩ := hHeld
      have HB5 := Lib.hid hb5
      have X5 := Lib.hid (X3.out.keep hb35)
      clear x0 x1 x2 xl y0 y1 y2 yl y0' y1' y2' yl' hb5 hb35 hb3 D3 X3 HB3 KT' KJ' T4
      go_wp2_with fail
      refine Calls.mono (KC'.out _ _ _ _ _ _ _ F5.out) ?_
      rintro e w6 ⟨a6, c6, rfl, ho, hb⟩
      have O6 := Lib.hid ho.flats
      have HB6 := Lib.hid (below_callS HB5.out hb)
      have X6 := Lib.hid (X5.out.keep hb)
      clear ho hb F5 HB5 X5 KC'
      obtain ⟨w7, hw7⟩ : ∃ W, W = w6.alloc (.cells #[.int .i64 (offN sz sz.length : Int), .slice a6 (owN sz L root).1.length c6, .int .i64 (owN sz L root).2] 40) := ⟨_, rfl⟩
      have hb67 : Below w6.heap.size w6 w7 := by rw [hw7]; exact below_alloc1 (Below.refl _ _) _
      have W7 := Lib.hid (show Blk w7 w6.heap.size #[.int .i64 (offN sz sz.length : Int), .slice a6 (owN sz L root).1.length c6, .int .i64 (owN sz L root).2] 40 by rw [hw7]; exact Blk.made _ _ _)
      have O7 := Lib.hid (O6.out.keep hb67)
      have HB7 := Lib.hid (below_callS HB6.out hb67)
      have X7 := Lib.hid (X6.out.keep hb67)
      have z0 := W7.out.cell 0
      have z1 := W7.out.cell 1
      have z2 := W7.out.cell 2
      have zl := W7.out.lt
      simp only [List.getElem?_toArray, List.getElem?_cons_zero, List.getElem?_cons_succ] at z0 z1 z2
      clear hb67 O6 X6 HB6
      subst hw7
      go_wp2_with fail
      refine Calls.mono (KO'.out _ _ _ O7.out) ?_
      rintro e w8 ⟨rfl, hb⟩
      have W8 := Lib.hid (W7.out.keep hb)
      have O8 := Lib.hid (O7.out.keep hb)
      have X8 := Lib.hid (X7.out.keep hb)
      have HB8 := Lib.hid (below_callS HB7.out hb)
      clear hb z0 z1 z2 zl W7 O7 X7 HB7 KO'
      have z0 := W8.out.cell 0
      have z1 := W8.out.cell 1
      have z2 := W8.out.cell 2
      have zl := W8.out.lt
      simp only [List.getElem?_toArray, List.getElem?_cons_zero, List.getElem?_cons_succ] at z0 z1 z2
      go_wp2_with fail
      refine Calls.mono (KL'.out h4 _ _ _ O8.out) ?_
      rintro e w9 ⟨a9, q, c9, ll, rfl, hrow, hmap, hb⟩
      have X9 := Lib.hid (X8.out.keep hb)
      have HB9 := Lib.hid (below_callS HB8.out hb)
      have R9 := Lib.hid hrow
      have M9 := Lib.hid hmap
      have hql : q = (owL sz L root).length := by rw [← hrow.len, ← hmap, List.length_map]
      clear hb hrow hmap z0 z1 z2 zl W8 O8 X8 HB8 KL'
      go_wp2_with fail
      go_loopw [11, 47] (fun s11 s47 wr => ∃ (j c2 : Nat) (a2 : Option Addr) (l2 : List (QM × List Int)), s47 = .int .i64 j ∧ j ≤ q ∧ s11 = .slice a2 j c2 ∧ Hid (Below w9.heap.size w9 wr) ∧ Hid (SRow wr w9.heap.size w9.heap.size a2 j c2 l2) ∧ Hid (l2.map (·.2) = ((owL sz L root).take j).map (stV sz)) ∧ Hid (l2.Pairwise fun x y => Apart x.1.a y.1.a)) (fun _ s47 _ => q - (intOf s47).toNat)
      case atStart => exact ⟨0, 0, none, [], rfl, by omega, rfl, Lib.hid (Below.refl _ _), Lib.hid (SRow.nil _ _ _), Lib.hid (by simp), Lib.hid List.Pairwise.nil⟩
      case round =>
        obtain ⟨j, c2, a2, l2, rfl, hj, rfl, HBr, Rr, Mr, Pr⟩ := hrel
        by_cases hlt : j < q
        · have hlt' : (j : Int) < (q : Int) := by omega
          have hj0 : (0 : Int) ≤ (j : Int) := by omega
          obtain ⟨b, off, R, v, rfl, hb, hll, hov, hcell⟩ := (R9.out.keep HBr.out).get hlt
          have hv : (owL sz L root)[j]? = some v := by rw [← M9.out, List.getElem?_map, hll]; rfl
          have OV := Lib.hid hov
          have HV := Lib.hid hv
          have Xr := Lib.hid (X9.out.keep HBr.out)
          have y0 := Xr.out.cell 0
          have y1 := Xr.out.cell 1
          have y2 := Xr.out.cell 2
          have yl := Xr.out.lt
          simp only [List.getElem?_toArray, List.getElem?_cons_zero, List.getElem?_cons_succ] at y0 y1 y2
          have HBw := Lib.hid (below_callS HB9.out HBr.out)
          clear hll hov hv
          go_wp2_with fail
          refine Calls.mono (KV.out _ HBw.out R v (List.mem_of_getElem? HV.out) OV.out.ints) ?_
          rintro e w10 ⟨a10, c10, rfl, hb10, ho10⟩
          have hsr := HBr.out.size
          have O10 := Lib.hid (ho10.le hsr)
          have P10 := Lib.hid (show (l2 ++ [((⟨a10, sz.length, c10⟩ : QM), stV sz v)]).Pairwise (fun x y => Apart x.1.a y.1.a) from List.pairwise_append.2 ⟨Pr.out, List.pairwise_singleton _ _, fun x hx y hy => by
            simp only [List.mem_singleton] at hy
            subst hy
            exact Apart.of (fun g e => ((Rr.out.each x hx).blk g e).2) (fun g e => (ho10.blk g e).1)⟩)
          have R10 := Lib.hid (Rr.out.keep hb10)
          have HB10 := Lib.hid (below_callS HBr.out hb10)
          have hs10 := hb10.size
          clear hb10 ho10 y0 y1 y2 yl hcell
          go_wp2_with (at_builtin; refine appS rfl _ _ rfl w9.heap.size w9.heap.size _ _ _ _ R10.out rfl _ rfl rfl (⟨a10, _, c10⟩, stV sz v) O10.out _ rfl (by omega) (by omega) ?_; intro g2 oc2 w11 ho2 hb2 ht2 hat2 hs2; refine Hid.out ?_)
          have R11 := Lib.hid ho2
          have HB11 := Lib.hid (HB10.out.trans hb2)
          clear ho2 hb2 ht2 hat2 hs2
          refine Lib.hid ?_
          go_wp2_with fail
          go_roundw
          case rel => exact ⟨j + 1, _, _, _, by go_num, by omega, rfl, HB11, R11, Lib.hid (by
            rw [List.map_append, Mr.out, List.take_add_one, HV.out, List.map_append]; rfl), P10⟩
          case measure => simp [intOf]; omega
        · have hlt' : ¬ (j : Int) < (q : Int) := by omega
          have hjq : j = q := by omega
          subst hjq
          have hMr := Mr.out
          rw [hql, List.take_length, STS.out] at hMr
          have hln : j = (xsN sz L (offN sz sz.length) root []).length := by rw [hql, hL4]
          have HLN := Lib.hid hln
          clear hln
          go_wp2
          go_ret2
          have hln := HLN.out
          refine ⟨a2, c2, l2, by rw [HC.out]; (try rw [hln]); rfl, ?_, by rw [HC.out]; exact hMr, below_callS HB9.out HBr.out, fun _ => Pr.out⟩
          rw [HC.out]
          show SRow wr w.heap.size w.heap.size a2 (xsN sz L (offN sz sz.length) root []).length c2 l2
          rw [← hln]
          exact Rr.out.le HB9.out.size HB9.out.size
    · have h4' : (4000 : Int) < ((xsN sz L (offN sz sz.length) root []).length : Int) := by omega
      have HC := Lib.hid (HC4.out h4)
      clear HC4 HC5 KL' KV
      go_enter Tryz.func53, Tryz.ntmps53
      go_wp2_with fail
      refine Calls.mono (K1.out _ hb0) ?_
      rintro e w1 ⟨rfl, hb⟩
      have D1 := Lib.hid (D.out.keep hb)
      have X1 := Lib.hid (X.out.keep hb)
      have HB1 := Lib.hid (below_callS hb0 hb)
      clear hb D X hb0
      have x0 := D1.out.cell 0
      have x1 := D1.out.cell 1
      have x2 := D1.out.cell 2
      have xl := D1.out.lt
      simp only [List.getElem?_toArray, List.getElem?_cons_zero, List.getElem?_cons_succ] at x0 x1 x2
      go_wp2_with fail
      refine Calls.mono (K2.out _ HB1.out) ?_
      rintro e w2 ⟨rfl, hb⟩
      have D2 := Lib.hid (D1.out.keep hb)
      have X2 := Lib.hid (X1.out.keep hb)
      have HB2 := Lib.hid (below_callS HB1.out hb)
      clear hb x0 x1 x2 xl D1 X1 HB1
      have y0 := X2.out.cell 0
      have y1 := X2.out.cell 1
      have y2 := X2.out.cell 2
      have yl := X2.out.lt
      simp only [List.getElem?_toArray, List.getElem?_cons_zero, List.getElem?_cons_succ] at y0 y1 y2
      go_wp2_with fail
      refine Calls.mono (KW.out _ HB2.out) ?_
      rintro e w3 ⟨a3, c3, rfl, hb, ho⟩
      have D3 := Lib.hid (D2.out.keep hb)
      have X3 := Lib.hid (X2.out.keep hb)
      have HB3 := Lib.hid (below_callS HB2.out hb)
      clear hb ho y0 y1 y2 yl D2 X2 HB2
      have x0 := D3.out.cell 0
      have x1 := D3.out.cell 1
      have x2 := D3.out.cell 2
      have xl := D3.out.lt
      have y0 := X3.out.cell 0
      have y1 := X3.out.cell 1
      have y2 := X3.out.cell 2
      have yl := X3.out.lt
      simp only [List.getElem?_toArray, List.getElem?_cons_zero, List.getElem?_cons_succ] at x0 x1 x2 y0 y1 y2
      have hb3 := HB3.out
      go_wp2_with fail
      refine wp_region_noPanic ?_
      refine wp_region_held_drew (S := (fun wx => wx.cell? ⟨w.heap.size, 0, none⟩ = some (.slice sa sz.length sc) ∧ wx.cell? ⟨w.heap.size, 1, none⟩ = some (.slice ta tn tc) ∧ wx.cell? ⟨w.heap.size, 2, none⟩ = some (.slice ra rn rc) ∧ wx.cell? ⟨w.heap.size + 1, 0, none⟩ = some (.int .i64 (offN sz sz.length : Int)) ∧ wx.cell? ⟨w.heap.size + 1, 1, none⟩ = some (.slice da L.length dc) ∧ wx.cell? ⟨w.heap.size + 1, 2, none⟩ = some (.int .i64 root) ∧ w.heap.size < wx.heap.size ∧ w.heap.size + 1 < wx.heap.size ∧ Below w.heap.size w wx ∧ Below w3.heap.size w3 wx)) (by kernel_rfl) ?_ (fun hHeld => ?_)
      · (try dsimp only); (((try go_split_ands); (repeat' apply And.intro) <;> with_reducible (first | assumption | exact (hcx _ _ (by assumption)).trans (by assumption) | exact Nat.lt_of_lt_of_le (by assumption) hsx | exact below_callS (by assumption) hbx | exact Below.drew (by assumption) | exact cellR_drew (by assumption) | exact ltR_drew (by assumption) | exact (Below.refl _ _).drew)))
      refine tkH 0 ?_
      try simp only [pu]
      refine tkH 1 ?_
      try simp only [pu]
      refine wpAnyH_ready (rs := [2]) (by kernel_rfl) (by simp) ?_
      refine AllReadyH.cons rfl (fun K hK => ?_) AllReadyH.nil
      go_simp
      (go_at_call 76; refine Calls.mono (KT'.out _ (by first | assumption | (go_split_ands; assumption))) ?_; rintro e wx2 ⟨a4, c4, rfl, ho, hbx⟩; have T4 := Lib.hid ho.flats; clear ho; obtain ⟨hcx, hfx⟩ := bcell hbx; have hsx := hbx.size)
      go_wp2_with fail
      refine hK.out _ _ ?_ (fun hHeld => ?_)
      · (try dsimp only); (((try go_split_ands); (repeat' apply And.intro) <;> with_reducible (first | assumption | exact (hcx _ _ (by assumption)).trans (by assumption) | exact Nat.lt_of_lt_of_le (by assumption) hsx | exact below_callS (by assumption) hbx | exact Below.drew (by assumption) | exact cellR_drew (by assumption) | exact ltR_drew (by assumption) | exact (Below.refl _ _).drew)))
      clear hK K
      try simp only [pu]
      refine wpAnyH_ready (rs := [3]) (by kernel_rfl) (by simp) ?_
      refine AllReadyH.cons rfl (fun K hK => ?_) AllReadyH.nil
      go_simp
      (go_at_call 73; refine Calls.mono (KJ'.out _ (by first | assumption | (go_split_ands; assumption)) _ _ T4.out) ?_; rintro e wx2 ⟨lo, p, mb, na, nc, mn, rfl, hfor, _, hbx⟩; have F5 := Lib.hid hfor; clear hfor; obtain ⟨hcx, hfx⟩ := bcell hbx; have hsx := hbx.size)
      go_wp2_with fail
      refine hK.out _ _ ?_ (fun hHeld => ?_)
      · (try dsimp only); (((try go_split_ands); (repeat' apply And.intro) <;> with_reducible (first | assumption | exact (hcx _ _ (by assumption)).trans (by assumption) | exact Nat.lt_of_lt_of_le (by assumption) hsx | exact below_callS (by assumption) hbx | exact Below.drew (by assumption) | exact cellR_drew (by assumption) | exact ltR_drew (by assumption) | exact (Below.refl _ _).drew)))
      clear hK K
      try simp only [pu]
      refine tkH 4 ?_
      try simp only [pu]
      refine tkH 5 ?_
      try simp only [pu]
      refine tkH 6 ?_
      try simp only [pu]
      refine tkH 7 ?_
      try simp only [pu]
      refine tkH 8 ?_
      try simp only [pu]
      refine wpAnyH_done (by kernel_rfl) ?_ _
      refine NoPanic.normal ?_
      obtain ⟨y0', y1', y2', _, _, _, yl', _, hb5, hb35⟩ := hHeld
      have HB5 := Lib.hid hb5
      have X5 := Lib.hid (X3.out.keep hb35)
      clear x0 x1 x2 xl y0 y1 y2 yl y0' y1' y2' yl' hb5 hb35 hb3 D3 X3 HB3 KT' KJ' T4
      go_wp2_with fail
      refine Calls.mono (KC'.out _ _ _ _ _ _ _ F5.out) ?_
      rintro e w6 ⟨a6, c6, rfl, ho, hb⟩
      have O6 := Lib.hid ho.flats
      have HB6 := Lib.hid (below_callS HB5.out hb)
      have X6 := Lib.hid (X5.out.keep hb)
      clear ho hb F5 HB5 X5 KC'
      obtain ⟨w7, hw7⟩ : ∃ W, W = w6.alloc (.cells #[.int .i64 (offN sz sz.length : Int), .slice a6 (owN sz L root).1.length c6, .int .i64 (owN sz L root).2] 40) := ⟨_, rfl⟩
      have hb67 : Below w6.heap.size w6 w7 := by rw [hw7]; exact below_alloc1 (Below.refl _ _) _
      have W7 := Lib.hid (show Blk w7 w6.heap.size #[.int .i64 (offN sz sz.length : Int), .slice a6 (owN sz L root).1.length c6, .int .i64 (owN sz L root).2] 40 by rw [hw7]; exact Blk.made _ _ _)
      have O7 := Lib.hid (O6.out.keep hb67)
      have HB7 := Lib.hid (below_callS HB6.out hb67)
      have X7 := Lib.hid (X6.out.keep hb67)
      have z0 := W7.out.cell 0
      have z1 := W7.out.cell 1
      have z2 := W7.out.cell 2
      have zl := W7.out.lt
      simp only [List.getElem?_toArray, List.getElem?_cons_zero, List.getElem?_cons_succ] at z0 z1 z2
      clear hb67 O6 X6 HB6
      subst hw7
      go_wp2_with fail
      refine Calls.mono (KO'.out _ _ _ O7.out) ?_
      rintro e w8 ⟨rfl, hb⟩
      have W8 := Lib.hid (W7.out.keep hb)
      have O8 := Lib.hid (O7.out.keep hb)
      have X8 := Lib.hid (X7.out.keep hb)
      have HB8 := Lib.hid (below_callS HB7.out hb)
      clear hb z0 z1 z2 zl W7 O7 X7 HB7 KO'
      go_wp2
      go_ret2
      exact ⟨none, 0, [], by rw [HC.out]; rfl, by rw [HC.out]; exact SRow.nil _ _ _, by rw [HC.out]; rfl, HB8.out, fun _ => List.Pairwise.nil⟩
  · have HC := Lib.hid (sdC_3 hm hd hin)
    have hne : (inp != (offN sz sz.length : Int)) = true := by simpa using hin
    clear KM KD hm hd hs hI hT hR hD hin
    go_enter Tryz.func53, Tryz.ntmps53
    go_wp2_with fail
    refine Calls.mono (K1.out _ hb0) ?_
    rintro e w1 ⟨rfl, hb⟩
    have D1 := Lib.hid (D.out.keep hb)
    have X1 := Lib.hid (X.out.keep hb)
    have HB1 := Lib.hid (below_callS hb0 hb)
    clear hb
    have x0 := D1.out.cell 0
    have x1 := D1.out.cell 1
    have x2 := D1.out.cell 2
    have xl := D1.out.lt
    simp only [List.getElem?_toArray, List.getElem?_cons_zero, List.getElem?_cons_succ] at x0 x1 x2
    go_wp2_with fail
    refine Calls.mono (K2.out _ HB1.out) ?_
    rintro e w2 ⟨rfl, hb⟩
    have D2 := Lib.hid (D1.out.keep hb)
    have X2 := Lib.hid (X1.out.keep hb)
    have HB2 := Lib.hid (below_callS HB1.out hb)
    clear hb x0 x1 x2 xl
    have y0 := X2.out.cell 0
    have y1 := X2.out.cell 1
    have y2 := X2.out.cell 2
    have yl := X2.out.lt
    simp only [List.getElem?_toArray, List.getElem?_cons_zero, List.getElem?_cons_succ] at y0 y1 y2
    go_wp2_with fail
    refine Calls.mono (KW.out _ HB2.out) ?_
    rintro e w3 ⟨a3, c3, rfl, hb, ho⟩
    have D3 := Lib.hid (D2.out.keep hb)
    have HB3 := Lib.hid (below_callS HB2.out hb)
    clear hb ho y0 y1 y2 yl
    have x0 := D3.out.cell 0
    have xl := D3.out.lt
    simp only [List.getElem?_toArray, List.getElem?_cons_zero, List.getElem?_cons_succ] at x0
    go_wp2
    go_ret2
    exact ⟨none, 0, [], by rw [HC.out]; rfl, by rw [HC.out]; exact SRow.nil _ _ _, by rw [HC.out]; rfl, HB3.out, fun _ => List.Pairwise.nil⟩
end Go.Proofs.YtkaikbaagajckaaGreat
namespace Go.Proofs.YtkaikbaagajckaaGreat
open Go.RowKit
set_option linter.unusedVariables false
set_option linter.unusedSimpArgs false
attribute [local go_sem ↓] Go.wp_at_zero Go.wp_at_succ
/-- all states to which rules lead from states -/
def nxL (rs : List RuD) (xs : List (List Int)) : List (List Int) := xs.flatMap fun v => (nextP rs v).map (·.2)
theorem nx_take {rs : List RuD} {xs : List (List Int)} {k : Nat} {v : List Int} (h : xs[k]? = some v) : nxL rs (xs.take (k + 1)) = nxL rs (xs.take k) ++ (nextP rs v).map (·.2) := by
  rw [nxL, take_at h, List.flatMap_append]
  simp [nxL]
theorem nx_len {rs : List RuD} {m : Nat} (hm : rs.length ≤ m) : ∀ xs : List (List Int), (nxL rs xs).length ≤ xs.length * m
  | [] => by simp [nxL]
  | v :: xs => by
    have h1 := nx_len hm xs
    have h2 : (nextP rs v).length ≤ rs.length := by
      rw [nextP, List.length_map, enabP]
      exact Nat.le_trans (List.length_filter_le _ _) (by simp)
    rw [nxL, List.flatMap_cons, List.length_append, List.length_map, List.length_cons, Nat.succ_mul]
    rw [nxL] at h1
    omega
theorem nx_states {sz : List Int} {rs : List RuD} {xs : List (List Int)} (hr : ∀ r ∈ rs, RuV sz r) (hx : ∀ v ∈ xs, stateB sz v = true) : ∀ v ∈ nxL rs xs, stateB sz v = true := by
  intro v hv
  rw [nxL, List.mem_flatMap] at hv
  obtain ⟨u, hu, h2⟩ := hv
  obtain ⟨q, hq, rfl⟩ := List.mem_map.1 h2
  exact sv_stateB (next_sv hr (sv_of_stateB (hx u hu)) q hq)
/-- the diagram of the next states, with its code -/
def ndC (sz st : List Int) (l : List (RM × RuD)) (inp : Int) (D : List I3) (root : Int) : Int × List I3 × Int × Int :=
  if (sdC sz st l inp D root).2 ≠ 0 then (0, [], 0, (sdC sz st l inp D root).2) else sdgN sz (srtS (nxL (l.map (·.2)) (sdC sz st l inp D root).1))
theorem sd_ok {sz st : List Int} {l : List (RM × RuD)} {inp : Int} {D : List I3} {root : Int} (h : (sdC sz st l inp D root).2 = 0) : modelB sz st l = true ∧ smB sz = true ∧ (∀ v ∈ (sdC sz st l inp D root).1, stateB sz v = true) ∧ (sdC sz st l inp D root).1.length ≤ 4000 := by
  cases hm : modelB sz st l with
  | false => rw [sdC_1 hm] at h; cases h
  | true =>
    cases hd : diaB inp D root with
    | false => rw [sdC_2 hm hd] at h; cases h
    | true =>
      by_cases hi : inp = (offN sz sz.length : Int)
      · by_cases h4 : (xsN sz D (offN sz sz.length) root []).length ≤ 4000
        · rw [sdC_5 hm hd hi h4]
          refine ⟨rfl, ?_, fun v hv => ?_, h4⟩
          · obtain ⟨_, _, _, h20, _⟩ := dia_redu hd
            have h2 := offN_full (modelB_all hm)
            exact decide_eq_true (by omega)
          · rw [xsN, List.mem_map] at hv
            obtain ⟨s, hs, rfl⟩ := hv
            have := (List.mem_filter.1 hs).2
            rw [Bool.and_eq_true] at this
            exact this.2
        · rw [sdC_4 hm hd hi h4] at h; cases h
      · rw [sdC_3 hm hd hi] at h; cases h
set_option maxRecDepth 100000 in
set_option maxHeartbeats 4000000 in
theorem impl_nextStates {sa ta ra va : Option Addr} {sn sc tn tc rn rc vn vc : Nat} {sz v : List Int} {lr : List (RM × RuD)} {w0 w : World} (hb0 : Below w0.heap.size w0 w) (hR : FR w0 w ra rn rc lr) (hr : rn ≤ 65536) (hV : Ints w va vn vc v) (hvn : vn ≤ 65536)
    (hst : SV sz v) (hru : ∀ r ∈ lr.map (·.2), RuV sz r) (hg : ∀ x ∈ lr, x.1.gn ≤ 1048576 ∧ x.1.en ≤ 1048576) :
    Calls Tryz.prog 96 #[.agg #[.slice sa sn sc, .slice ta tn tc, .slice ra rn rc], .slice va vn vc] w fun e w' => ∃ a n c ls, e = .returned (.slice a n c) ∧ SRow w' w.heap.size w.heap.size a n c ls ∧ ls.map (·.2) = (nextP (lr.map (·.2)) v).map (·.2) ∧ (∀ x ∈ ls, x.1.n = vn) ∧ Below w.heap.size w w' := by
  have hvl : v.length = vn := hV.len
  have hrl := hR.len
  have hbA : Below w.heap.size w (w.alloc (.cells #[.slice sa sn sc, .slice ta tn tc, .slice ra rn rc] 36)) := below_alloc1 (Below.refl _ _) _
  have X := Lib.hid (Blk.made w #[.slice sa sn sc, .slice ta tn tc, .slice ra rn rc] 36)
  have K1 := Lib.hid (fun (wx : World) (hb : Below w.heap.size w wx) => impl_enabled (sa := sa) (sn := sn) (sc := sc) (ta := ta) (tn := tn) (tc := tc) (hb0.trans (hb.mono hb0.size)) (Flats.keep hR hb) (by omega) (hV.keep hb) (fun x hx t ht => by
    have := (hru x.2 (List.mem_map_of_mem hx)).1 t ht
    rw [← hvl, hst.1]; exact this) (fun x hx => (hg x hx).1))
  have HR := Lib.hid (fun (wx : World) (hb : Below w.heap.size w wx) => (Flats.keep hR hb : FR w0 wx ra rn rc lr))
  have HV := Lib.hid (fun (wx : World) (hb : Below w.heap.size w wx) => hV.keep hb)
  have HB0 := Lib.hid hb0
  have HRU := Lib.hid hru
  have HST := Lib.hid hst
  have HG := Lib.hid hg
  have HRL := Lib.hid (show (lr.map (·.2)).length = rn by rw [List.length_map]; exact hrl)
  clear hb0 hR hV hst hru hg
  have x0 := X.out.cell 0
  have x1 := X.out.cell 1
  have x2 := X.out.cell 2
  have xl := X.out.lt
  simp only [List.getElem?_toArray, List.getElem?_cons_zero, List.getElem?_cons_succ] at x0 x1 x2
  go_enter Tryz.func96, Tryz.ntmps96
  go_wp2_with fail
  refine Calls.mono (K1.out _ hbA) ?_
  rintro e w1 ⟨ae, ne, ce, rfl, hoe, hne, hb1⟩
  have hs1 := hb1.size
  simp at hs1
  have X1 := Lib.hid (X.out.keep hb1)
  have HB1 := Lib.hid (below_callS hbA hb1)
  have OE := Lib.hid (hoe.le (show w.heap.size ≤ _ by simp))
  have hel : (enabI (lr.map (·.2)) v rn).length = ne := hoe.ints.len
  have HEL := Lib.hid hel
  clear hoe hb1 hel x0 x1 x2 xl X K1 hbA
  go_wp2_with fail
  have L0 := Lib.hid (SRow.nil w1 w.heap.size w.heap.size)
  have B0 := Lib.hid (Below.refl w1.heap.size w1)
  have hw1 : w.heap.size + 1 ≤ w1.heap.size := by omega
  go_loopw [5, 7, 12] (fun s5 _ s12 wr => ∃ (j cd : Nat) (ad : Option Addr) (ld : List (QM × List Int)), s5 = .slice ad j cd ∧ s12 = .int .i64 j ∧ j ≤ ne ∧ w.heap.size + 1 ≤ wr.heap.size ∧ Hid (Below w.heap.size w wr) ∧ Hid (Blk wr w.heap.size #[.slice sa sn sc, .slice ta tn tc, .slice ra rn rc] 36) ∧ Hid (OwnI 2 wr w.heap.size ae ne ce (enabI (lr.map (·.2)) v rn)) ∧ Hid (SRow wr w.heap.size w.heap.size ad j cd ld) ∧ Hid (ld.map (·.2) = ((nextP (lr.map (·.2)) v).take j).map (·.2)) ∧ Hid (∀ x ∈ ld, x.1.n = vn)) (fun _ _ s12 _ => ne - (intOf s12).toNat)
  case atStart => exact ⟨0, 0, none, [], rfl, rfl, by omega, hw1, HB1, X1, OE, L0, Lib.hid (by simp), Lib.hid (fun x hx => by cases hx)⟩
  case round =>
    clear HB1 X1 OE L0 B0
    obtain ⟨j, cd, ad, ld, rfl, rfl, hj, hsr, HB, X, OE, SD, A, N⟩ := hrel
    by_cases hlt : j < ne
    · have hlt' : (j : Int) < (ne : Int) := by omega
      have hj0 : (0 : Int) ≤ (j : Int) := by omega
      obtain ⟨be, oe, z, rfl, hbe, hz, hzc, hz64⟩ := OE.out.ints.at hlt
      rw [← HRL.out] at hz
      obtain ⟨q, r, rfl, hq, hrq, _, hnx⟩ := enabI_at hz
      rw [HRL.out] at hq
      have hq0 : (0 : Int) ≤ (q : Int) := by omega
      have hqn : (q : Int) < (rn : Int) := by omega
      obtain ⟨br, or', R, r', rfl, hbr, hlq, hru2, e0, e1, e2⟩ := FR.get (HR.out wr HB.out) hq
      have hrr : r' = r := by
        rw [List.getElem?_map, hlq] at hrq
        simpa using hrq
      subst hrr
      have hxm := List.mem_of_getElem? hlq
      have hruv := HRU.out r' (List.mem_map_of_mem hxm)
      have hF2 := hru2.2.2.2.2.1
      have hen := hru2.2.2.2.2.2
      have hb0r : Below w0.heap.size w0 wr := HB0.out.trans (HB.out.mono HB0.out.size)
      have K9 := Lib.hid (impl_apply (ga := R.ga) (gn := R.gn) (gc := R.gc) (nm := R.nm) (hF2.keep hb0r) hen (HV.out wr HB.out) (by omega) (fun a ha => by
        have := hruv.2 a ha
        rw [← hvl, HST.out.1]; exact ⟨this.1, this.2.1⟩))
      have HA := Lib.hid (fun (qq : QM) => (show (ld ++ [(qq, applyP v r'.e)]).map (·.2) = ((nextP (lr.map (·.2)) v).take (j + 1)).map (·.2) by rw [List.map_append, A.out, take_at hnx, List.map_append]; rfl))
      have x0 := X.out.cell 0
      have x1 := X.out.cell 1
      have x2 := X.out.cell 2
      have xl := X.out.lt
      simp only [List.getElem?_toArray, List.getElem?_cons_zero, List.getElem?_cons_succ] at x0 x1 x2
      clear hz hz64 hrq hnx hlq hru2 hxm hruv hF2 hen hb0r A
      go_wp2_with fail
      refine Calls.mono K9.out ?_
      rintro e w6 ⟨a6, c6, rfl, ho6, hb6⟩
      have O6 := Lib.hid (ho6.le (show w.heap.size ≤ _ by omega))
      have S6 := Lib.hid (SD.out.keep hb6)
      have X6 := Lib.hid (X.out.keep hb6)
      have E6 := Lib.hid (OE.out.keep hb6)
      have HB6 := Lib.hid (below_callS HB.out hb6)
      have hs6 := hb6.size
      clear ho6 hb6 K9 SD X OE HB x0 x1 x2 xl hzc hbe e0 e1 e2 hbr
      go_wp2_with (at_builtin; refine appS rfl _ _ rfl w.heap.size w.heap.size _ _ _ _ S6.out rfl _ rfl (by first | rfl | (simp; done)) (⟨a6, vn, c6⟩, applyP v r'.e) O6.out _ rfl (by omega) (by (try simp); omega) ?_; intro g' c7 w7 h1 h2 h3 h4 h5; have S7 := Lib.hid h1; have HB7 := Lib.hid (HB6.out.trans h2); have X7 := Lib.hid (X6.out.keepA h3 (blk_ne X6.out (fun {g} e => S6.out.row.typ e) (by decide))); have E7 := Lib.hid (E6.out.keepT h3 (fun g e e' => typ_apart (fun {g} e => E6.out.typ e) (fun {g} e => S6.out.row.typ e) (by decide) g e e')); have hs7 := h2.size; clear h1 h2 h3 h4 h5)
      go_roundw
      case rel => exact ⟨j + 1, c7, _, _, by go_num, by go_num, by omega, by omega, HB7, X7, E7, S7, Lib.hid (HA.out _), Lib.hid (fun x hx => by
        rcases List.mem_append.1 hx with h | h
        · exact N.out x h
        · simp at h; rw [h])⟩
      case measure => simp [intOf]; omega
    · have hlt' : ¬ (j : Int) < (ne : Int) := by omega
      obtain rfl : ne = j := by omega
      have hA := A.out
      rw [List.take_of_length_le (by rw [nextP_len, HRL.out, HEL.out]; exact Nat.le_refl _)] at hA
      have HA := Lib.hid hA
      clear hA A
      go_wp2
      go_ret
      exact ⟨_, _, _, rfl, ld, SD.out, HA.out, (fun q b h => N.out (q, b) h), HB.out⟩
set_option maxRecDepth 100000 in
set_option maxHeartbeats 8000000 in
theorem impl_NextDiagram {sa ta ra da : Option Addr} {sn sc tn tc rn rc dc : Nat} {sz st : List Int} {l : List (RM × RuD)} {inp root : Int} {D : List I3} {w : World} (hI : Ints w sa sn sc sz) (hn : sn ≤ 1048576) (hT : Ints w ta tn tc st) (ht : tn ≤ 1048576) (hR : FR w w ra rn rc l) (hr : rn ≤ 1048576) (hD : F3 w da D.length dc D) (hdl : D.length ≤ maxLen) (hi64 : I64 inp) (hr64 : I64 root) :
    Calls Tryz.prog 40 #[.agg #[.slice sa sn sc, .slice ta tn tc, .slice ra rn rc], .agg #[.int .i64 inp, .slice da D.length dc, .int .i64 root]] w (DgR w (ndC sz st l inp D root)) := by
  obtain ⟨w0, hw0⟩ : ∃ w0, w0 = ((w.alloc (.cells #[.slice sa sn sc, .slice ta tn tc, .slice ra rn rc] 36)).alloc (.cells #[.int .i64 inp, .slice da D.length dc, .int .i64 root] 40)).alloc (.cells #[.int .i64 0, .slice none 0 0, .int .i64 0] 40) := ⟨_, rfl⟩
  have hb0 : Below w.heap.size w w0 := by rw [hw0]; exact below_alloc1 (below_alloc1 (below_alloc1 (Below.refl _ _) _) _) _
  have hs0 : w0.heap.size = w.heap.size + 1 + 1 + 1 := by rw [hw0]; simp
  have X := Lib.hid (show Blk w0 w.heap.size #[.slice sa sn sc, .slice ta tn tc, .slice ra rn rc] 36 by rw [hw0]; exact (Blk.made _ _ _).keep (below_alloc1 (below_alloc1 (Below.refl _ _) _) _))
  have DD := Lib.hid (show Blk w0 (w.heap.size + 1) #[.int .i64 inp, .slice da D.length dc, .int .i64 root] 40 by rw [hw0]; exact (Blk.made1 _ _ _ _).keep (below_alloc1 (Below.refl _ _) _))
  have R := Lib.hid (show Blk w0 (w.heap.size + 1 + 1) #[.int .i64 0, .slice none 0 0, .int .i64 0] 40 by rw [hw0]; exact Blk.made2 _ _ _ _ _)
  have K1 := Lib.hid (impl_diagramStates (sc := sc) (tc := tc) (rc := rc) (dc := dc) (hI.keep hb0) hn (hT.keep hb0) ht (hR.self hb0) hr (hD.keep hb0) hdl hi64 hr64)
  have x0 := X.out.cell 0
  have x1 := X.out.cell 1
  have x2 := X.out.cell 2
  have xl := X.out.lt
  have d0 := DD.out.cell 0
  have d1 := DD.out.cell 1
  have d2 := DD.out.cell 2
  have dl := DD.out.lt
  simp only [List.getElem?_toArray, List.getElem?_cons_zero, List.getElem?_cons_succ] at x0 x1 x2 d0 d1 d2
  by_cases h0 : (sdC sz st l inp D root).2 = 0
  · obtain ⟨hm, hq, hvs, hlen4⟩ := sd_ok h0
    have hnd : ndC sz st l inp D root = sdgN sz (srtS (nxL (l.map (·.2)) (sdC sz st l inp D root).1)) := by rw [ndC, if_neg (by simp [h0])]
    obtain ⟨g1, g2, g3, g4, g5, g6⟩ := model_gives hm
    have hgn : ∀ x ∈ l, x.1.gn ≤ 1048576 ∧ x.1.en ≤ 1048576 := fun x hx => by
      have h := hR.wf x hx
      exact ⟨h.2.2.2.1, h.2.2.2.2.2⟩
    have hil := hI.len
    have hrl := hR.len
    obtain ⟨⟨xs, cd⟩, hC⟩ : ∃ C, sdC sz st l inp D root = C := ⟨_, rfl⟩
    rw [hC] at K1 hvs hlen4 hnd h0
    simp only at K1 hvs hlen4 hnd h0
    subst h0
    have hnv := nx_states g3 hvs
    have hnl := nx_len (rs := l.map (·.2)) (m := 200) (by rw [List.length_map]; exact g5) xs
    have KN := Lib.hid (fun (wx : World) (hb : Below w.heap.size w wx) (va : Option Addr) (vc : Nat) (v : List Int) (hv : Ints wx va sn vc v) (hsv : SV sz v) => impl_nextStates (sa := sa) (sn := sn) (sc := sc) (ta := ta) (tn := tn) (tc := tc) (w0 := wx) (Below.refl _ _) (hR.self hb) (by omega) hv (by omega) hsv g3 hgn)
    have HI := Lib.hid hI
    have HVS := Lib.hid hvs
    have HNV := Lib.hid hnv
    have HND := Lib.hid hnd
    have HQ := Lib.hid hq
    have HS := Lib.hid g6
    have hlies : sn = 0 ∨ ∀ gg off, sa = some ⟨gg, off, none⟩ → gg < w.heap.size := by
      rcases hI.pos with h | ⟨b, o, ha, hb, _⟩
      · exact .inl h
      · refine .inr fun gg off e => ?_
        rw [ha] at e
        simp only [Option.some.injEq, Addr.mk.injEq] at e
        omega
    clear hI hT hR hD hC hm hq hvs hnd g1 g2 g3 g6 hgn hnv
    go_enter Tryz.func40, Tryz.ntmps40
    go_wp2_with fail
    rw [← hw0]
    clear hw0
    refine Calls.mono K1.out ?_
    rintro e w1 ⟨a1, c1, l1, rfl, hS1, hl1, hb1, _⟩
    have S1 := Lib.hid hS1
    have HL1 := Lib.hid hl1
    have X1 := Lib.hid (X.out.keep hb1)
    have R1 := Lib.hid (R.out.keep hb1)
    have HB1 := Lib.hid (below_callS hb0 hb1)
    have hs1 := hb1.size
    obtain ⟨n1, hn1⟩ : ∃ n, xs.length = n := ⟨_, rfl⟩
    have HN1 := Lib.hid hn1
    simp only [hn1] at S1 hlen4 hnl ⊢
    clear hS1 hl1 hb1 hn1 x0 x1 x2 xl d0 d1 d2 dl X DD R K1 hb0
    go_wp2_with fail
    have L0 := Lib.hid (SRow.nil w1 w1.heap.size w1.heap.size)
    have hw1 : w1.heap.size ≤ w1.heap.size := Nat.le_refl _
    have B0 := Lib.hid (Below.refl w1.heap.size w1)
    go_loopw [8, 10, 23] (fun s8 _ s23 wr => ∃ (j nd cd : Nat) (ad : Option Addr) (ld : List (QM × List Int)), s8 = .slice ad nd cd ∧ s23 = .int .i64 j ∧ j ≤ n1 ∧ nd ≤ j * 200 ∧ w1.heap.size ≤ wr.heap.size ∧ Hid (Below w1.heap.size w1 wr) ∧ Hid (SRow wr w1.heap.size w1.heap.size ad nd cd ld) ∧ Hid (ld.map (·.2) = nxL (l.map (·.2)) (xs.take j))) (fun _ _ s23 _ => n1 - (intOf s23).toNat)
    case atStart => exact ⟨0, 0, 0, none, [], rfl, rfl, by omega, by omega, hw1, B0, L0, Lib.hid rfl⟩
    case round =>
      clear L0 B0
      obtain ⟨j, nd, cd, ad, ld, rfl, rfl, hj, hnd, hsr, HB, SD, A⟩ := hrel
      have X2 := Lib.hid (X1.out.keep HB.out)
      have x0 := X2.out.cell 0
      have x1 := X2.out.cell 1
      have x2 := X2.out.cell 2
      have xl := X2.out.lt
      simp only [List.getElem?_toArray, List.getElem?_cons_zero, List.getElem?_cons_succ] at x0 x1 x2
      by_cases hlt : j < n1
      · have hlt' : (j : Int) < (n1 : Int) := by omega
        have hj0 : (0 : Int) ≤ (j : Int) := by omega
        obtain ⟨b, off, Q, v, rfl, hb, hx, hv, hc⟩ := (S1.out.keep HB.out).get hlt
        have hxv : xs[j]? = some v := by rw [← HL1.out, List.getElem?_map, hx]; rfl
        have hsv := sv_of_stateB (HVS.out v (List.mem_of_getElem? hxv))
        have hvn : Q.n = sn := by rw [← hv.ints.len, hsv.1, hil]
        have hvi := hv.ints
        rw [hvn] at hvi hc
        have KN2 := Lib.hid (KN.out wr (HB1.out.trans (HB.out.mono (by omega))) Q.a Q.c v hvi hsv)
        have HXV := Lib.hid hxv
        clear hx hv hxv hsv hvi hvn
        go_wp2_with fail
        refine Calls.mono KN2.out ?_
        rintro e w6 ⟨a6, n6, c6, l6, rfl, hS6, hl6, _, hb6⟩
        have S6 := Lib.hid (hS6.le (show w1.heap.size ≤ _ by omega) (show w1.heap.size ≤ _ by omega))
        have hn6 : n6 ≤ 200 := by
          have h1 := hS6.len
          have h2 : l6.length = (nextP (l.map (·.2)) v).length := by rw [← List.length_map (f := fun x : QM × List Int => x.2), hl6, List.length_map]
          rw [nextP_len, enabI_eq, List.length_map, enabP] at h2
          have h3 := List.length_filter_le (fun i => holdsP v ((l.map (·.2)).getD i zRu).g) (List.range (l.map (·.2)).length)
          rw [List.length_range, List.length_map] at h3
          rw [List.length_map] at h2
          omega
        have HA := Lib.hid (show (ld ++ l6).map (·.2) = nxL (l.map (·.2)) (xs.take (j + 1)) by rw [List.map_append, A.out, hl6, nx_take HXV.out])
        have SD6 := Lib.hid (SD.out.keep hb6)
        have HB6 := Lib.hid (below_call HB.out hb6 (by omega))
        have hs6 := hb6.size
        clear hS6 hl6 hb6 x0 x1 x2 xl X2 KN2 SD HB hc hb A
        go_wp2_with (at_builtin; refine appSL rfl _ _ rfl w1.heap.size w1.heap.size _ _ _ _ SD6.out rfl _ _ _ l6 rfl S6.out.row.flats (fun y hy => S6.out.each y hy) (by omega) (by omega) (by omega) ?_; intro a7 c7 w7 h1 h2 h3; have S7 := Lib.hid h1; have HB7 := Lib.hid (HB6.out.trans h2); have hs7 := h2.size; clear h1 h2 h3)
        go_roundw
        case rel => exact ⟨j + 1, nd + n6, c7, _, _, by go_num, by go_num, by omega, by omega, by omega, HB7, S7, HA⟩
        case measure => simp [intOf]; omega
      · have hlt' : ¬ (j : Int) < (n1 : Int) := by omega
        obtain rfl : n1 = j := by omega
        have hA := A.out
        rw [List.take_of_length_le (by rw [HN1.out]; exact Nat.le_refl _)] at hA
        have hld : ∀ x ∈ ld, stateB sz x.2 = true := fun x hx => HNV.out x.2 (by rw [← hA]; exact List.mem_map_of_mem hx)
        have HBx := Lib.hid (HB1.out.trans (HB.out.mono (show w.heap.size ≤ w1.heap.size by omega)))
        have KD := Lib.hid (impl_setDiagram (ta := ta) (tn := tn) (tc := tc) (ra := ra) (rn := rn) (rc := rc) (HI.out.keep HBx.out) (by omega) HS.out HQ.out SD.out hld (hlies.imp id (fun h gg off e => Nat.lt_of_lt_of_le (h gg off e) (by omega))) (by omega) hsr)
        rw [hA, ← HND.out] at KD
        have R2 := Lib.hid (R1.out.keep HB.out)
        clear hA hld A
        go_wp2_with fail
        refine Calls.mono KD.out ?_
        rintro e w5 ⟨ea, ec, rfl, hO5, hb5⟩
        have O5 := Lib.hid hO5
        have R5 := Lib.hid (R1.out.keep (HB.out.trans hb5))
        have HB5 := Lib.hid (HB1.out.trans ((HB.out.trans hb5).mono (show w.heap.size ≤ w1.heap.size by omega)))
        have hrl5 := R1.out.lt
        clear hO5 hb5 x0 x1 x2 xl X2 SD HB R2 KD HBx
        have r0 := R5.out.cell 0
        have r1 := R5.out.cell 1
        have r2 := R5.out.cell 2
        have rl := R5.out.lt
        have rf := R5.out.free
        simp only [List.getElem?_toArray, List.getElem?_cons_zero, List.getElem?_cons_succ] at r0 r1 r2
        obtain ⟨⟨D1, D2, D3, D4⟩, hE⟩ : ∃ E, ndC sz st l inp D root = E := ⟨_, rfl⟩
        rw [hE] at O5 ⊢
        simp only at O5
        have HE := Lib.hid hE
        clear hE HND
        have hne : ∀ y, ea = some ⟨y, 0, none⟩ → (some (w.heap.size + 1 + 1) : Option Nat) ≠ some y := fun y e e' => by
          have := (O5.out.blk y e).1
          simp at e'
          omega
        have hbz : Below w.heap.size w w5 := HB5.out
        go_wp2
        refine bodyPost_ret (v := .tuple #[.agg #[.int .i64 D1, .slice ea D2.length ec, .int .i64 D3], .int .i64 D4]) (by simp [results, Tryz.results40, go_sem, *]) rfl ⟨ea, ec, by rw [HE.out], ?_, ?_⟩
        · rw [HE.out]
          exact (((O5.out.keepG (set_grown _ _ _) hne).keepG (set_grown _ _ _) hne).keepG (set_grown _ _ _) hne).le (by omega)
        · exact bel
  · have hnd : ndC sz st l inp D root = (0, [], 0, (sdC sz st l inp D root).2) := by rw [ndC, if_pos h0]
    obtain ⟨⟨xs, cd⟩, hC⟩ : ∃ C, sdC sz st l inp D root = C := ⟨_, rfl⟩
    rw [hC] at K1 hnd h0
    simp only at K1 hnd h0
    have hne : (cd != 0) = true := by simpa using h0
    have HND := Lib.hid hnd
    clear hI hT hR hD hC h0 hnd
    go_enter Tryz.func40, Tryz.ntmps40
    go_wp2_with fail
    rw [← hw0]
    clear hw0
    refine Calls.mono K1.out ?_
    rintro e w1 ⟨a1, c1, l1, rfl, hS1, hl1, hb1, _⟩
    have R1 := Lib.hid (R.out.keep hb1)
    have hbz : Below w.heap.size w w1 := below_callS hb0 hb1
    clear hS1 hl1 hb1 x0 x1 x2 xl d0 d1 d2 dl X DD R K1 hb0
    have r0 := R1.out.cell 0
    have r1 := R1.out.cell 1
    have r2 := R1.out.cell 2
    have rl := R1.out.lt
    have rf := R1.out.free
    simp only [List.getElem?_toArray, List.getElem?_cons_zero, List.getElem?_cons_succ] at r0 r1 r2
    go_wp2
    refine bodyPost_ret (v := .tuple #[.agg #[.int .i64 0, .slice none 0 0, .int .i64 0], .int .i64 cd]) (by simp [results, Tryz.results40, go_sem, *]) rfl ⟨none, 0, by rw [HND.out]; rfl, by rw [HND.out]; exact ⟨World.ownsRow_nil _ _ _ 3, (fun _ h => by cases h), rfl, fun _ => rfl⟩, ?_⟩
    exact bel
end Go.Proofs.YtkaikbaagajckaaGreat
