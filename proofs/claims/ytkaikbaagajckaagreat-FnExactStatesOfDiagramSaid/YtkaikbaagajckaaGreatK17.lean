/- The states of a diagram: the program, walked.; The states of a diagram: the reference, walked.; Rows of numbers, all of one length, as the laws read, mark and look at them.; Rules and models of the exact laws: the size of a model.; Rules and models of the exact laws: copies. -/
import Derived.Test.YtkaikbaagajckaaGreatK10
import Derived.Test.YtkaikbaagajckaaGreatK14
import Derived.Test.YtkaikbaagajckaaGreatK15
import Derived.Test.YtkaikbaagajckaaGreatK16
import Derived.Test.YtkaikbaagajckaaGreatK11
import Derived.Test.YtkaikbaagajckaaGreatYk
import Derived.Test.YtkaikbaagajckaaGreatK06
import Derived.Test.YtkaikbaagajckaaGreatK09
import Derived.Test.YtkaikbaagajckaaGreatFl
namespace Go.Proofs.YtkaikbaagajckaaGreat
open Go.RowKit
set_option linter.unusedVariables false
set_option linter.unusedSimpArgs false
attribute [local go_sem ↓] Go.wp_at_zero Go.wp_at_succ
/-- states with a code that a call returns -/
def SdR (ap : Bool) (w : World) (C : List (List Int) × Int) (e : Ending) (w' : World) : Prop := ∃ a c l, e = .returned (.tuple #[.slice a C.1.length c, .int .i64 C.2]) ∧ SRow w' w.heap.size w.heap.size a C.1.length c l ∧ l.map (·.2) = C.1 ∧ Below w.heap.size w w' ∧ (ap = true → l.Pairwise fun x y => Apart x.1.a y.1.a)
set_option maxRecDepth 100000 in
set_option maxHeartbeats 8000000 in
theorem impl_diagramStates {sa ta ra da : Option Addr} {sn sc tn tc rn rc dc : Nat} {sz st : List Int} {l : List (RM × RuD)} {inp root : Int} {L : List I3} {w : World} (hI : Ints w sa sn sc sz) (hn : sn ≤ 1048576) (hT : Ints w ta tn tc st) (ht : tn ≤ 1048576) (hR : FR w w ra rn rc l) (hr : rn ≤ 1048576) (hD : F3 w da L.length dc L) (hdl : L.length ≤ maxLen) (hi64 : I64 inp) (hr64 : I64 root) :
    Calls Tryz.prog 53 #[.agg #[.slice sa sn sc, .slice ta tn tc, .slice ra rn rc], .agg #[.int .i64 inp, .slice da L.length dc, .int .i64 root]] w (SdR true w (sdC sz st l inp L root)) := by
  have hb0 : Below w.heap.size w ((w.alloc (.cells #[.slice sa sn sc, .slice ta tn tc, .slice ra rn rc] 36)).alloc (.cells #[.int .i64 inp, .slice da L.length dc, .int .i64 root] 40)) := bel
  have X := Lib.hid ((Blk.made w #[.slice sa sn sc, .slice ta tn tc, .slice ra rn rc] 36).keep (below_alloc1 (Below.refl _ _) (.cells #[.int .i64 inp, .slice da L.length dc, .int .i64 root] 40)))
  have D := Lib.hid (Blk.made1 w (.cells #[.slice sa sn sc, .slice ta tn tc, .slice ra rn rc] 36) #[.int .i64 inp, .slice da L.length dc, .int .i64 root] 40)
  have KM := fun (wx : World) (hb : Below w.heap.size w wx) => impl_IsModel (hI.keep hb) hn (hT.keep hb) ht (hR.self hb) hr
  have KD := fun (wx : World) (hb : Below w.heap.size w wx) => impl_IsDiagram (inp := inp) (root := root) (hD.keep hb) hi64 hr64 hdl
  cases hm : modelB sz st l
  · simp only [hm] at KM
    have K1 := Lib.hid KM
    have HC := Lib.hid (sdC_1 (inp := inp) (L := L) (root := root) hm)
    clear KM KD hm hI hT hR hD
    go_enter Tryz.func53, Tryz.ntmps53
    go_wp2_with fail
    refine Calls.mono (K1.out _ hb0) ?_
    rintro e w1 ⟨rfl, hb⟩
    go_wp2
    go_ret2
    exact ⟨none, 0, [], by rw [HC.out]; rfl, by rw [HC.out]; exact SRow.nil _ _ _, by rw [HC.out]; rfl, below_callS hb0 hb, fun _ => List.Pairwise.nil⟩
  simp only [hm] at KM
  have K1 := Lib.hid KM
  have hs := modelB_all hm
  have hs16 := modelB_len hm
  cases hd : diaB inp L root
  · simp only [hd] at KD
    have K2 := Lib.hid KD
    have HC := Lib.hid (sdC_2 hm hd)
    clear KM KD hm hd hs hI hT hR hD
    go_enter Tryz.func53, Tryz.ntmps53
    go_wp2_with fail
    refine Calls.mono (K1.out _ hb0) ?_
    rintro e w1 ⟨rfl, hb⟩
    have D1 := Lib.hid (D.out.keep hb)
    have HB1 := Lib.hid (below_callS hb0 hb)
    clear hb
    have x0 := D1.out.cell 0
    have x1 := D1.out.cell 1
    have x2 := D1.out.cell 2
    have xl := D1.out.lt
    simp only [List.getElem?_toArray, List.getElem?_cons_zero, List.getElem?_cons_succ] at x0 x1 x2
    go_wp2_with fail
    refine Calls.mono (K2.out _ HB1.out) ?_
    rintro e w2 ⟨rfl, hb⟩
    go_wp2
    go_ret2
    exact ⟨none, 0, [], by rw [HC.out]; rfl, by rw [HC.out]; exact SRow.nil _ _ _, by rw [HC.out]; rfl, below_callS HB1.out hb, fun _ => List.Pairwise.nil⟩
  simp only [hd] at KD
  have K2 := Lib.hid KD
  have hS := dia_snd hd
  obtain ⟨_, hrr, h0, h20, hll, _, _⟩ := dia_redu hd
  have KW := Lib.hid (fun (wx : World) (hb : Below w.heap.size w wx) => impl_widths (ta := ta) (tn := tn) (tc := tc) (ra := ra) (rn := rn) (rc := rc) (hI.keep hb) hn hs)
  have hfull := (offN_full hs).symm
  rw [hfull] at KW
  by_cases hin : inp = (offN sz sz.length : Int)
  · subst hin
    have hsl : sz.length = sn := hI.len
    subst hsl
    obtain ⟨t1, t2⟩ := ts_inv (g := []) hs
    obtain ⟨j1, j2, j3, _⟩ := ojN_inv hs hs16 hS hrr hll
    obtain ⟨o1, o2, o3, _⟩ := owN_inv hs hs16 hS hrr hll
    have hon := owL_ones hs hs16 hS hrr hll
    have BITS := Lib.hid (fun (s : List Int) (h : s ∈ owL sz L root) => owL_bits hs hs16 hS hrr hll h)
    have STS := Lib.hid (owL_states hs hs16 hS hrr hll)
    have hne : ((offN sz sz.length : Int) != (offN sz sz.length : Int)) = false := by simp
    have KT := (fun (wx : World) (hb : Below w.heap.size w wx) => impl_testDiagram (ta := ta) (tn := tn) (tc := tc) (ra := ra) (rn := rn) (rc := rc) (ga := none) (gn := 0) (gc := 0) (g := []) (hI.keep hb) hs16 hs ⟨rfl, Nat.le_refl _, .inl rfl, (fun x hx => by cases hx), fun _ => ⟨rfl, rfl⟩⟩ (by omega))
    rw [hfull] at KT
    have KJ := (fun (wx : World) (hb : Below w.heap.size w wx) (a2 : Option Addr) (c2 : Nat) (h2 : F3 wx a2 (tsN sz []).1.length c2 (tsN sz []).1) => impl_joinAll (j := 0) (hD.keep hb) h2 hS t1 (by omega) h20 hrr t2 hll (Nat.le_trans (ts_few hs hs16) (by omega)))
    rw [show jnN 0 (offN sz sz.length : Int) L (tsN sz []).1 root (tsN sz []).2 = ojN sz L root from rfl] at KJ
    have KC := (fun (wx : World) (lo p mb nc mn : Nat) (na : Option Addr) (h2 : ForA wx lo p mb (offN sz sz.length : Int) na nc mn (ojN sz L root).1) => impl_canonical h2 j1.redu (by omega) (by unfold I64; omega) j2)
    rw [show canN mkN (ojN sz L root).1 (ojN sz L root).2 = owN sz L root from rfl] at KC
    have KO := (fun (wx : World) (a2 : Option Addr) (c2 : Nat) (h2 : F3 wx a2 (owN sz L root).1.length c2 (owN sz L root).1) => impl_ones h2 (by omega) o1 o2 h0 h20)
    rw [hon] at KO
    have KL := (fun (h4 : (xsN sz L (offN sz sz.length) root []).length ≤ 4000) (wx : World) (a2 : Option Addr) (c2 : Nat) (h2 : F3 wx a2 (owN sz L root).1.length c2 (owN sz L root).1) => impl_lists h2 o1 (by omega) (by omega) o2 (by rw [← ones_ls o1 o2, hon]; omega))
    rw [show lsN (offN sz sz.length : Int) (owN sz L root).1 (offN sz sz.length) (owN sz L root).2 = owL sz L root from rfl] at KL
    have KV := Lib.hid (fun (wx : World) (hb : Below w.heap.size w wx) (q : QM) (v : List Int) (hv : v ∈ owL sz L root) (h2 : Ints wx q.a q.n q.c v) => impl_valuesOf (ta := ta) (tn := tn) (tc := tc) (ra := ra) (rn := rn) (rc := rc) (hI.keep hb) h2 hs16 hs (BITS.out v hv).2 (by rw [← (BITS.out v hv).1, h2.len]))
    have KT' := Lib.hid KT
    have KJ' := Lib.hid KJ
    have KC' := Lib.hid KC
    have KO' := Lib.hid KO
    have KL' := Lib.hid KL
    have hL4 : (owL sz L root).length = (xsN sz L (offN sz sz.length) root []).length := by rw [← STS.out, List.length_map]
    have HC4 := Lib.hid (fun h4 => sdC_4 (st := st) (l := l) hm hd rfl h4)
    have HC5 := Lib.hid (fun h5 => sdC_5 (st := st) (l := l) hm hd rfl h5)
    clear KM KD hm hd hs hI hT hR hD KT KJ KC KO KL hS t1 t2 j1 j2 o1 o2 hon hrr
    by_cases h4 : (xsN sz L (offN sz sz.length) root []).length ≤ 4000
    · have h4' : ¬ (4000 : Int) < ((xsN sz L (offN sz sz.length) root []).length : Int) := by omega
      have HC := Lib.hid (HC5.out h4)
      have hq4 : (owL sz L root).length ≤ 4000 := by omega
      clear HC4 HC5
      go_enter Tryz.func53, Tryz.ntmps53
      go_wp2_with fail
      refine Calls.mono (K1.out _ hb0) ?_
      rintro e w1 ⟨rfl, hb⟩
      have D1 := Lib.hid (D.out.keep hb)
      have X1 := Lib.hid (X.out.keep hb)
      have HB1 := Lib.hid (below_callS hb0 hb)
      clear hb D X hb0
      have x0 := D1.out.cell 0
      have x1 := D1.out.cell 1
      have x2 := D1.out.cell 2
      have xl := D1.out.lt
      simp only [List.getElem?_toArray, List.getElem?_cons_zero, List.getElem?_cons_succ] at x0 x1 x2
      go_wp2_with fail
      refine Calls.mono (K2.out _ HB1.out) ?_
      rintro e w2 ⟨rfl, hb⟩
      have D2 := Lib.hid (D1.out.keep hb)
      have X2 := Lib.hid (X1.out.keep hb)
      have HB2 := Lib.hid (below_callS HB1.out hb)
      clear hb x0 x1 x2 xl D1 X1 HB1
      have y0 := X2.out.cell 0
      have y1 := X2.out.cell 1
      have y2 := X2.out.cell 2
      have yl := X2.out.lt
      simp only [List.getElem?_toArray, List.getElem?_cons_zero, List.getElem?_cons_succ] at y0 y1 y2
      go_wp2_with fail
      refine Calls.mono (KW.out _ HB2.out) ?_
      rintro e w3 ⟨a3, c3, rfl, hb, ho⟩
      have D3 := Lib.hid (D2.out.keep hb)
      have X3 := Lib.hid (X2.out.keep hb)
      have HB3 := Lib.hid (below_callS HB2.out hb)
      clear hb ho y0 y1 y2 yl D2 X2 HB2
      have x0 := D3.out.cell 0
      have x1 := D3.out.cell 1
      have x2 := D3.out.cell 2
      have xl := D3.out.lt
      have y0 := X3.out.cell 0
      have y1 := X3.out.cell 1
      have y2 := X3.out.cell 2
      have yl := X3.out.lt
      simp only [List.getElem?_toArray, List.getElem?_cons_zero, List.getElem?_cons_succ] at x0 x1 x2 y0 y1 y2
      have hb3 := HB3.out
      go_wp2_with fail
      refine wp_region_noPanic ?_
      refine wp_region_held_drew (S := (fun wx => wx.cell? ⟨w.heap.size, 0, none⟩ = some (.slice sa sz.length sc) ∧ wx.cell? ⟨w.heap.size, 1, none⟩ = some (.slice ta tn tc) ∧ wx.cell? ⟨w.heap.size, 2, none⟩ = some (.slice ra rn rc) ∧ wx.cell? ⟨w.heap.size + 1, 0, none⟩ = some (.int .i64 (offN sz sz.length : Int)) ∧ wx.cell? ⟨w.heap.size + 1, 1, none⟩ = some (.slice da L.length dc) ∧ wx.cell? ⟨w.heap.size + 1, 2, none⟩ = some (.int .i64 root) ∧ w.heap.size < wx.heap.size ∧ w.heap.size + 1 < wx.heap.size ∧ Below w.heap.size w wx ∧ Below w3.heap.size w3 wx)) (by kernel_rfl) ?_ (fun hHeld => ?_)
      · (try dsimp only); (((try go_split_ands); (repeat' apply And.intro) <;> first | (with_reducible assumption) | (with_reducible exact (hcx _ _ (by assumption)).trans (by assumption)) | (with_reducible exact Nat.lt_of_lt_of_le (by assumption) hsx) | (with_reducible exact below_callS (by assumption) hbx) | (with_reducible exact Below.drew (by assumption)) | (with_reducible exact Go.Proofs.YtkaikbaagajckaaGreat.cellR_drew (by assumption)) | (with_reducible exact Go.Proofs.YtkaikbaagajckaaGreat.ltR_drew (by assumption)) | (with_reducible exact (Below.refl _ _).drew)))
      refine tkH 0 ?_
      try simp only [Act.put, s1, s2, s3]
      refine tkH 1 ?_
      try simp only [Act.put, s1, s2, s3]
      refine wpAnyH_ready (rs := [2]) (by kernel_rfl) (by simp) ?_
      refine AllReadyH.cons rfl (fun K hK => ?_) AllReadyH.nil
      go_simp
      (go_at_call 76; refine Calls.mono (KT'.out _ (by first | assumption | (go_split_ands; assumption))) ?_; rintro e wx2 ⟨a4, c4, rfl, ho, hbx⟩; have T4 := Lib.hid ho.flats; clear ho; obtain ⟨hcx, hfx⟩ := bcell hbx; have hsx := hbx.size)
      go_wp2_with fail
      refine hK.out _ _ ?_ (fun hHeld => ?_)
      · (try dsimp only); (((try go_split_ands); (repeat' apply And.intro) <;> first | (with_reducible assumption) | (with_reducible exact (hcx _ _ (by assumption)).trans (by assumption)) | (with_reducible exact Nat.lt_of_lt_of_le (by assumption) hsx) | (with_reducible exact below_callS (by assumption) hbx) | (with_reducible exact Below.drew (by assumption)) | (with_reducible exact Go.Proofs.YtkaikbaagajckaaGreat.cellR_drew (by assumption)) | (with_reducible exact Go.Proofs.YtkaikbaagajckaaGreat.ltR_drew (by assumption)) | (with_reducible exact (Below.refl _ _).drew)))
      clear hK K
      try simp only [Act.put, s1, s2, s3]
      refine wpAnyH_ready (rs := [3]) (by kernel_rfl) (by simp) ?_
      refine AllReadyH.cons rfl (fun K hK => ?_) AllReadyH.nil
      go_simp
      (go_at_call 73; refine Calls.mono (KJ'.out _ (by first | assumption | (go_split_ands; assumption)) _ _ T4.out) ?_; rintro e wx2 ⟨lo, p, mb, na, nc, mn, rfl, hfor, _, hbx⟩; have F5 := Lib.hid hfor; clear hfor; obtain ⟨hcx, hfx⟩ := bcell hbx; have hsx := hbx.size)
      go_wp2_with fail
      refine hK.out _ _ ?_ (fun hHeld => ?_)
      · (try dsimp only); (((try go_split_ands); (repeat' apply And.intro) <;> first | (with_reducible assumption) | (with_reducible exact (hcx _ _ (by assumption)).trans (by assumption)) | (with_reducible exact Nat.lt_of_lt_of_le (by assumption) hsx) | (with_reducible exact below_callS (by assumption) hbx) | (with_reducible exact Below.drew (by assumption)) | (with_reducible exact Go.Proofs.YtkaikbaagajckaaGreat.cellR_drew (by assumption)) | (with_reducible exact Go.Proofs.YtkaikbaagajckaaGreat.ltR_drew (by assumption)) | (with_reducible exact (Below.refl _ _).drew)))
      clear hK K
      try simp only [Act.put, s1, s2, s3]
      refine tkH 4 ?_
      try simp only [Act.put, s1, s2, s3]
      refine tkH 5 ?_
      try simp only [Act.put, s1, s2, s3]
      refine tkH 6 ?_
      try simp only [Act.put, s1, s2, s3]
      refine tkH 7 ?_
      try simp only [Act.put, s1, s2, s3]
      refine tkH 8 ?_
      try simp only [Act.put, s1, s2, s3]
      refine wpAnyH_done (by kernel_rfl) ?_ _
      refine NoPanic.normal ?_
      obtain ⟨y0', y1', y2', _, _, _, yl', _, hb5, hb35⟩ := hHeld
      have HB5 := Lib.hid hb5
      have X5 := Lib.hid (X3.out.keep hb35)
      clear x0 x1 x2 xl y0 y1 y2 yl y0' y1' y2' yl' hb5 hb35 hb3 D3 X3 HB3 KT' KJ' T4
      go_wp2_with fail
      refine Calls.mono (KC'.out _ _ _ _ _ _ _ F5.out) ?_
      rintro e w6 ⟨a6, c6, rfl, ho, hb⟩
      have O6 := Lib.hid ho.flats
      have HB6 := Lib.hid (below_callS HB5.out hb)
      have X6 := Lib.hid (X5.out.keep hb)
      clear ho hb F5 HB5 X5 KC'
      obtain ⟨w7, hw7⟩ : ∃ W, W = w6.alloc (.cells #[.int .i64 (offN sz sz.length : Int), .slice a6 (owN sz L root).1.length c6, .int .i64 (owN sz L root).2] 40) := ⟨_, rfl⟩
      have hb67 : Below w6.heap.size w6 w7 := by rw [hw7]; exact below_alloc1 (Below.refl _ _) _
      have W7 := Lib.hid (show Blk w7 w6.heap.size #[.int .i64 (offN sz sz.length : Int), .slice a6 (owN sz L root).1.length c6, .int .i64 (owN sz L root).2] 40 by rw [hw7]; exact Blk.made _ _ _)
      have O7 := Lib.hid (O6.out.keep hb67)
      have HB7 := Lib.hid (below_callS HB6.out hb67)
      have X7 := Lib.hid (X6.out.keep hb67)
      have z0 := W7.out.cell 0
      have z1 := W7.out.cell 1
      have z2 := W7.out.cell 2
      have zl := W7.out.lt
      simp only [List.getElem?_toArray, List.getElem?_cons_zero, List.getElem?_cons_succ] at z0 z1 z2
      clear hb67 O6 X6 HB6
      subst hw7
      go_wp2_with fail
      refine Calls.mono (KO'.out _ _ _ O7.out) ?_
      rintro e w8 ⟨rfl, hb⟩
      have W8 := Lib.hid (W7.out.keep hb)
      have O8 := Lib.hid (O7.out.keep hb)
      have X8 := Lib.hid (X7.out.keep hb)
      have HB8 := Lib.hid (below_callS HB7.out hb)
      clear hb z0 z1 z2 zl W7 O7 X7 HB7 KO'
      have z0 := W8.out.cell 0
      have z1 := W8.out.cell 1
      have z2 := W8.out.cell 2
      have zl := W8.out.lt
      simp only [List.getElem?_toArray, List.getElem?_cons_zero, List.getElem?_cons_succ] at z0 z1 z2
      go_wp2_with fail
      refine Calls.mono (KL'.out h4 _ _ _ O8.out) ?_
      rintro e w9 ⟨a9, q, c9, ll, rfl, hrow, hmap, hb⟩
      have X9 := Lib.hid (X8.out.keep hb)
      have HB9 := Lib.hid (below_callS HB8.out hb)
      have R9 := Lib.hid hrow
      have M9 := Lib.hid hmap
      have hql : q = (owL sz L root).length := by rw [← hrow.len, ← hmap, List.length_map]
      clear hb hrow hmap z0 z1 z2 zl W8 O8 X8 HB8 KL'
      go_wp2_with fail
      go_loopw [11, 47] (fun s11 s47 wr => ∃ (j c2 : Nat) (a2 : Option Addr) (l2 : List (QM × List Int)), s47 = .int .i64 j ∧ j ≤ q ∧ s11 = .slice a2 j c2 ∧ Hid (Below w9.heap.size w9 wr) ∧ Hid (SRow wr w9.heap.size w9.heap.size a2 j c2 l2) ∧ Hid (l2.map (·.2) = ((owL sz L root).take j).map (stV sz)) ∧ Hid (l2.Pairwise fun x y => Apart x.1.a y.1.a)) (fun _ s47 _ => q - (intOf s47).toNat)
      case atStart => exact ⟨0, 0, none, [], rfl, by omega, rfl, Lib.hid (Below.refl _ _), Lib.hid (SRow.nil _ _ _), Lib.hid (by simp), Lib.hid List.Pairwise.nil⟩
      case round =>
        obtain ⟨j, c2, a2, l2, rfl, hj, rfl, HBr, Rr, Mr, Pr⟩ := hrel
        by_cases hlt : j < q
        · have hlt' : (j : Int) < (q : Int) := by omega
          have hj0 : (0 : Int) ≤ (j : Int) := by omega
          obtain ⟨b, off, R, v, rfl, hb, hll, hov, hcell⟩ := (R9.out.keep HBr.out).get hlt
          have hv : (owL sz L root)[j]? = some v := by rw [← M9.out, List.getElem?_map, hll]; rfl
          have OV := Lib.hid hov
          have HV := Lib.hid hv
          have Xr := Lib.hid (X9.out.keep HBr.out)
          have y0 := Xr.out.cell 0
          have y1 := Xr.out.cell 1
          have y2 := Xr.out.cell 2
          have yl := Xr.out.lt
          simp only [List.getElem?_toArray, List.getElem?_cons_zero, List.getElem?_cons_succ] at y0 y1 y2
          have HBw := Lib.hid (below_callS HB9.out HBr.out)
          clear hll hov hv
          go_wp2_with fail
          refine Calls.mono (KV.out _ HBw.out R v (List.mem_of_getElem? HV.out) OV.out.ints) ?_
          rintro e w10 ⟨a10, c10, rfl, hb10, ho10⟩
          have hsr := HBr.out.size
          have O10 := Lib.hid (ho10.le hsr)
          have P10 := Lib.hid (show (l2 ++ [((⟨a10, sz.length, c10⟩ : QM), stV sz v)]).Pairwise (fun x y => Apart x.1.a y.1.a) from List.pairwise_append.2 ⟨Pr.out, List.pairwise_singleton _ _, fun x hx y hy => by
            simp only [List.mem_singleton] at hy
            subst hy
            exact Apart.of (fun g e => ((Rr.out.each x hx).blk g e).2) (fun g e => (ho10.blk g e).1)⟩)
          have R10 := Lib.hid (Rr.out.keep hb10)
          have HB10 := Lib.hid (below_callS HBr.out hb10)
          have hs10 := hb10.size
          clear hb10 ho10 y0 y1 y2 yl hcell
          go_wp2_with (at_builtin; refine appS rfl _ _ rfl w9.heap.size w9.heap.size _ _ _ _ R10.out rfl _ rfl rfl (⟨a10, _, c10⟩, stV sz v) O10.out _ rfl (by omega) (by omega) ?_; intro g2 oc2 w11 ho2 hb2 ht2 hat2 hs2; refine Hid.out ?_)
          have R11 := Lib.hid ho2
          have HB11 := Lib.hid (HB10.out.trans hb2)
          clear ho2 hb2 ht2 hat2 hs2
          refine Lib.hid ?_
          go_wp2_with fail
          go_roundw
          case rel => exact ⟨j + 1, _, _, _, by go_num, by omega, rfl, HB11, R11, Lib.hid (by
            rw [List.map_append, Mr.out, List.take_add_one, HV.out, List.map_append]; rfl), P10⟩
          case measure => simp [intOf]; omega
        · have hlt' : ¬ (j : Int) < (q : Int) := by omega
          have hjq : j = q := by omega
          subst hjq
          have hMr := Mr.out
          rw [hql, List.take_length, STS.out] at hMr
          have hln : j = (xsN sz L (offN sz sz.length) root []).length := by rw [hql, hL4]
          have HLN := Lib.hid hln
          clear hln
          go_wp2
          go_ret2
          have hln := HLN.out
          refine ⟨a2, c2, l2, by rw [HC.out]; (try rw [hln]); rfl, ?_, by rw [HC.out]; exact hMr, below_callS HB9.out HBr.out, fun _ => Pr.out⟩
          rw [HC.out]
          show SRow wr w.heap.size w.heap.size a2 (xsN sz L (offN sz sz.length) root []).length c2 l2
          rw [← hln]
          exact Rr.out.le HB9.out.size HB9.out.size
    · have h4' : (4000 : Int) < ((xsN sz L (offN sz sz.length) root []).length : Int) := by omega
      have HC := Lib.hid (HC4.out h4)
      clear HC4 HC5 KL' KV
      go_enter Tryz.func53, Tryz.ntmps53
      go_wp2_with fail
      refine Calls.mono (K1.out _ hb0) ?_
      rintro e w1 ⟨rfl, hb⟩
      have D1 := Lib.hid (D.out.keep hb)
      have X1 := Lib.hid (X.out.keep hb)
      have HB1 := Lib.hid (below_callS hb0 hb)
      clear hb D X hb0
      have x0 := D1.out.cell 0
      have x1 := D1.out.cell 1
      have x2 := D1.out.cell 2
      have xl := D1.out.lt
      simp only [List.getElem?_toArray, List.getElem?_cons_zero, List.getElem?_cons_succ] at x0 x1 x2
      go_wp2_with fail
      refine Calls.mono (K2.out _ HB1.out) ?_
      rintro e w2 ⟨rfl, hb⟩
      have D2 := Lib.hid (D1.out.keep hb)
      have X2 := Lib.hid (X1.out.keep hb)
      have HB2 := Lib.hid (below_callS HB1.out hb)
      clear hb x0 x1 x2 xl D1 X1 HB1
      have y0 := X2.out.cell 0
      have y1 := X2.out.cell 1
      have y2 := X2.out.cell 2
      have yl := X2.out.lt
      simp only [List.getElem?_toArray, List.getElem?_cons_zero, List.getElem?_cons_succ] at y0 y1 y2
      go_wp2_with fail
      refine Calls.mono (KW.out _ HB2.out) ?_
      rintro e w3 ⟨a3, c3, rfl, hb, ho⟩
      have D3 := Lib.hid (D2.out.keep hb)
      have X3 := Lib.hid (X2.out.keep hb)
      have HB3 := Lib.hid (below_callS HB2.out hb)
      clear hb ho y0 y1 y2 yl D2 X2 HB2
      have x0 := D3.out.cell 0
      have x1 := D3.out.cell 1
      have x2 := D3.out.cell 2
      have xl := D3.out.lt
      have y0 := X3.out.cell 0
      have y1 := X3.out.cell 1
      have y2 := X3.out.cell 2
      have yl := X3.out.lt
      simp only [List.getElem?_toArray, List.getElem?_cons_zero, List.getElem?_cons_succ] at x0 x1 x2 y0 y1 y2
      have hb3 := HB3.out
      go_wp2_with fail
      refine wp_region_noPanic ?_
      refine wp_region_held_drew (S := (fun wx => wx.cell? ⟨w.heap.size, 0, none⟩ = some (.slice sa sz.length sc) ∧ wx.cell? ⟨w.heap.size, 1, none⟩ = some (.slice ta tn tc) ∧ wx.cell? ⟨w.heap.size, 2, none⟩ = some (.slice ra rn rc) ∧ wx.cell? ⟨w.heap.size + 1, 0, none⟩ = some (.int .i64 (offN sz sz.length : Int)) ∧ wx.cell? ⟨w.heap.size + 1, 1, none⟩ = some (.slice da L.length dc) ∧ wx.cell? ⟨w.heap.size + 1, 2, none⟩ = some (.int .i64 root) ∧ w.heap.size < wx.heap.size ∧ w.heap.size + 1 < wx.heap.size ∧ Below w.heap.size w wx ∧ Below w3.heap.size w3 wx)) (by kernel_rfl) ?_ (fun hHeld => ?_)
      · (try dsimp only); (((try go_split_ands); (repeat' apply And.intro) <;> first | (with_reducible assumption) | (with_reducible exact (hcx _ _ (by assumption)).trans (by assumption)) | (with_reducible exact Nat.lt_of_lt_of_le (by assumption) hsx) | (with_reducible exact below_callS (by assumption) hbx) | (with_reducible exact Below.drew (by assumption)) | (with_reducible exact Go.Proofs.YtkaikbaagajckaaGreat.cellR_drew (by assumption)) | (with_reducible exact Go.Proofs.YtkaikbaagajckaaGreat.ltR_drew (by assumption)) | (with_reducible exact (Below.refl _ _).drew)))
      refine tkH 0 ?_
      try simp only [Act.put, s1, s2, s3]
      refine tkH 1 ?_
      try simp only [Act.put, s1, s2, s3]
      refine wpAnyH_ready (rs := [2]) (by kernel_rfl) (by simp) ?_
      refine AllReadyH.cons rfl (fun K hK => ?_) AllReadyH.nil
      go_simp
      (go_at_call 76; refine Calls.mono (KT'.out _ (by first | assumption | (go_split_ands; assumption))) ?_; rintro e wx2 ⟨a4, c4, rfl, ho, hbx⟩; have T4 := Lib.hid ho.flats; clear ho; obtain ⟨hcx, hfx⟩ := bcell hbx; have hsx := hbx.size)
      go_wp2_with fail
      refine hK.out _ _ ?_ (fun hHeld => ?_)
      · (try dsimp only); (((try go_split_ands); (repeat' apply And.intro) <;> first | (with_reducible assumption) | (with_reducible exact (hcx _ _ (by assumption)).trans (by assumption)) | (with_reducible exact Nat.lt_of_lt_of_le (by assumption) hsx) | (with_reducible exact below_callS (by assumption) hbx) | (with_reducible exact Below.drew (by assumption)) | (with_reducible exact Go.Proofs.YtkaikbaagajckaaGreat.cellR_drew (by assumption)) | (with_reducible exact Go.Proofs.YtkaikbaagajckaaGreat.ltR_drew (by assumption)) | (with_reducible exact (Below.refl _ _).drew)))
      clear hK K
      try simp only [Act.put, s1, s2, s3]
      refine wpAnyH_ready (rs := [3]) (by kernel_rfl) (by simp) ?_
      refine AllReadyH.cons rfl (fun K hK => ?_) AllReadyH.nil
      go_simp
      (go_at_call 73; refine Calls.mono (KJ'.out _ (by first | assumption | (go_split_ands; assumption)) _ _ T4.out) ?_; rintro e wx2 ⟨lo, p, mb, na, nc, mn, rfl, hfor, _, hbx⟩; have F5 := Lib.hid hfor; clear hfor; obtain ⟨hcx, hfx⟩ := bcell hbx; have hsx := hbx.size)
      go_wp2_with fail
      refine hK.out _ _ ?_ (fun hHeld => ?_)
      · (try dsimp only); (((try go_split_ands); (repeat' apply And.intro) <;> first | (with_reducible assumption) | (with_reducible exact (hcx _ _ (by assumption)).trans (by assumption)) | (with_reducible exact Nat.lt_of_lt_of_le (by assumption) hsx) | (with_reducible exact below_callS (by assumption) hbx) | (with_reducible exact Below.drew (by assumption)) | (with_reducible exact Go.Proofs.YtkaikbaagajckaaGreat.cellR_drew (by assumption)) | (with_reducible exact Go.Proofs.YtkaikbaagajckaaGreat.ltR_drew (by assumption)) | (with_reducible exact (Below.refl _ _).drew)))
      clear hK K
      try simp only [Act.put, s1, s2, s3]
      refine tkH 4 ?_
      try simp only [Act.put, s1, s2, s3]
      refine tkH 5 ?_
      try simp only [Act.put, s1, s2, s3]
      refine tkH 6 ?_
      try simp only [Act.put, s1, s2, s3]
      refine tkH 7 ?_
      try simp only [Act.put, s1, s2, s3]
      refine tkH 8 ?_
      try simp only [Act.put, s1, s2, s3]
      refine wpAnyH_done (by kernel_rfl) ?_ _
      refine NoPanic.normal ?_
      obtain ⟨y0', y1', y2', _, _, _, yl', _, hb5, hb35⟩ := hHeld
      have HB5 := Lib.hid hb5
      have X5 := Lib.hid (X3.out.keep hb35)
      clear x0 x1 x2 xl y0 y1 y2 yl y0' y1' y2' yl' hb5 hb35 hb3 D3 X3 HB3 KT' KJ' T4
      go_wp2_with fail
      refine Calls.mono (KC'.out _ _ _ _ _ _ _ F5.out) ?_
      rintro e w6 ⟨a6, c6, rfl, ho, hb⟩
      have O6 := Lib.hid ho.flats
      have HB6 := Lib.hid (below_callS HB5.out hb)
      have X6 := Lib.hid (X5.out.keep hb)
      clear ho hb F5 HB5 X5 KC'
      obtain ⟨w7, hw7⟩ : ∃ W, W = w6.alloc (.cells #[.int .i64 (offN sz sz.length : Int), .slice a6 (owN sz L root).1.length c6, .int .i64 (owN sz L root).2] 40) := ⟨_, rfl⟩
      have hb67 : Below w6.heap.size w6 w7 := by rw [hw7]; exact below_alloc1 (Below.refl _ _) _
      have W7 := Lib.hid (show Blk w7 w6.heap.size #[.int .i64 (offN sz sz.length : Int), .slice a6 (owN sz L root).1.length c6, .int .i64 (owN sz L root).2] 40 by rw [hw7]; exact Blk.made _ _ _)
      have O7 := Lib.hid (O6.out.keep hb67)
      have HB7 := Lib.hid (below_callS HB6.out hb67)
      have X7 := Lib.hid (X6.out.keep hb67)
      have z0 := W7.out.cell 0
      have z1 := W7.out.cell 1
      have z2 := W7.out.cell 2
      have zl := W7.out.lt
      simp only [List.getElem?_toArray, List.getElem?_cons_zero, List.getElem?_cons_succ] at z0 z1 z2
      clear hb67 O6 X6 HB6
      subst hw7
      go_wp2_with fail
      refine Calls.mono (KO'.out _ _ _ O7.out) ?_
      rintro e w8 ⟨rfl, hb⟩
      have W8 := Lib.hid (W7.out.keep hb)
      have O8 := Lib.hid (O7.out.keep hb)
      have X8 := Lib.hid (X7.out.keep hb)
      have HB8 := Lib.hid (below_callS HB7.out hb)
      clear hb z0 z1 z2 zl W7 O7 X7 HB7 KO'
      go_wp2
      go_ret2
      exact ⟨none, 0, [], by rw [HC.out]; rfl, by rw [HC.out]; exact SRow.nil _ _ _, by rw [HC.out]; rfl, HB8.out, fun _ => List.Pairwise.nil⟩
  · have HC := Lib.hid (sdC_3 hm hd hin)
    have hne : (inp != (offN sz sz.length : Int)) = true := by simpa using hin
    clear KM KD hm hd hs hI hT hR hD hin
    go_enter Tryz.func53, Tryz.ntmps53
    go_wp2_with fail
    refine Calls.mono (K1.out _ hb0) ?_
    rintro e w1 ⟨rfl, hb⟩
    have D1 := Lib.hid (D.out.keep hb)
    have X1 := Lib.hid (X.out.keep hb)
    have HB1 := Lib.hid (below_callS hb0 hb)
    clear hb
    have x0 := D1.out.cell 0
    have x1 := D1.out.cell 1
    have x2 := D1.out.cell 2
    have xl := D1.out.lt
    simp only [List.getElem?_toArray, List.getElem?_cons_zero, List.getElem?_cons_succ] at x0 x1 x2
    go_wp2_with fail
    refine Calls.mono (K2.out _ HB1.out) ?_
    rintro e w2 ⟨rfl, hb⟩
    have D2 := Lib.hid (D1.out.keep hb)
    have X2 := Lib.hid (X1.out.keep hb)
    have HB2 := Lib.hid (below_callS HB1.out hb)
    clear hb x0 x1 x2 xl
    have y0 := X2.out.cell 0
    have y1 := X2.out.cell 1
    have y2 := X2.out.cell 2
    have yl := X2.out.lt
    simp only [List.getElem?_toArray, List.getElem?_cons_zero, List.getElem?_cons_succ] at y0 y1 y2
    go_wp2_with fail
    refine Calls.mono (KW.out _ HB2.out) ?_
    rintro e w3 ⟨a3, c3, rfl, hb, ho⟩
    have D3 := Lib.hid (D2.out.keep hb)
    have HB3 := Lib.hid (below_callS HB2.out hb)
    clear hb ho y0 y1 y2 yl
    have x0 := D3.out.cell 0
    have xl := D3.out.lt
    simp only [List.getElem?_toArray, List.getElem?_cons_zero, List.getElem?_cons_succ] at x0
    go_wp2
    go_ret2
    exact ⟨none, 0, [], by rw [HC.out]; rfl, by rw [HC.out]; exact SRow.nil _ _ _, by rw [HC.out]; rfl, HB3.out, fun _ => List.Pairwise.nil⟩
set_option maxHeartbeats 1000000 in
theorem impl_StatesOfDiagram {sa ta ra da : Option Addr} {sn sc tn tc rn rc dc : Nat} {sz st : List Int} {l : List (RM × RuD)} {inp root : Int} {L : List I3} {w : World} (hI : Ints w sa sn sc sz) (hn : sn ≤ 1048576) (hT : Ints w ta tn tc st) (ht : tn ≤ 1048576) (hR : FR w w ra rn rc l) (hr : rn ≤ 1048576) (hD : F3 w da L.length dc L) (hdl : L.length ≤ maxLen) (hi64 : I64 inp) (hr64 : I64 root) :
    Calls Tryz.prog 14 #[.agg #[.slice sa sn sc, .slice ta tn tc, .slice ra rn rc], .agg #[.int .i64 inp, .slice da L.length dc, .int .i64 root]] w (SdR true w (sdC sz st l inp L root)) := by
  have hb0 : Below w.heap.size w ((w.alloc (.cells #[.slice sa sn sc, .slice ta tn tc, .slice ra rn rc] 36)).alloc (.cells #[.int .i64 inp, .slice da L.length dc, .int .i64 root] 40)) := bel
  have K := Lib.hid (impl_diagramStates (sa := sa) (sc := sc) (ta := ta) (tc := tc) (ra := ra) (rc := rc) (da := da) (dc := dc) (inp := inp) (root := root) (hI.keep hb0) hn (hT.keep hb0) ht (hR.self hb0) hr (hD.keep hb0) hdl hi64 hr64)
  have hs := hb0.size
  clear hI hT hR hD
  go_enter Tryz.func14, Tryz.ntmps14
  go_wp2_with fail
  refine Calls.mono K.out ?_
  rintro e w1 ⟨a, c, l2, rfl, hrow, hmap, hb, hpw⟩
  go_wp2
  go_ret2
  exact ⟨a, c, l2, rfl, hrow.le hs hs, hmap, below_callS hb0 hb, fun _ => hpw trivial⟩
end Go.Proofs.YtkaikbaagajckaaGreat
namespace Go.Proofs.YtkaikbaagajckaaGreat
open Go.RowKit
set_option linter.unusedVariables false
set_option linter.unusedSimpArgs false
attribute [local go_sem ↓] Go.wp_at_zero Go.wp_at_succ
theorem sd_code {sz st : List Int} {l : List (RM × RuD)} {inp : Int} {L : List I3} {root : Int} (h : cdC sz st l inp L root ≠ 0) : sdC sz st l inp L root = ([], cdC sz st l inp L root) := by
  cases hm : modelB sz st l
  · rw [cdC_1 hm, sdC_1 hm]
  · cases hd : diaB inp L root
    · rw [cdC_2 hm hd, sdC_2 hm hd]
    · by_cases hi : inp = (offN sz sz.length : Int)
      · exact absurd (cdC_4 hm hd hi) h
      · rw [cdC_3 hm hd hi, sdC_3 hm hd hi]
theorem cd_zero {sz st : List Int} {l : List (RM × RuD)} {inp : Int} {L : List I3} {root : Int} (h : cdC sz st l inp L root = 0) : modelB sz st l = true ∧ diaB inp L root = true ∧ inp = (offN sz sz.length : Int) := by
  cases hm : modelB sz st l
  · rw [cdC_1 hm] at h; exact absurd h (by decide)
  · cases hd : diaB inp L root
    · rw [cdC_2 hm hd] at h; exact absurd h (by decide)
    · by_cases hi : inp = (offN sz sz.length : Int)
      · exact ⟨rfl, rfl, hi⟩
      · rw [cdC_3 hm hd hi] at h; exact absurd h (by decide)
theorem SRow.empty9 {lo : Nat} (w : World) (h : lo ≤ w.heap.size) : SRow (w.alloc (.cells #[] 22)) lo lo (some ⟨w.heap.size, 0, none⟩) 0 0 [] :=
  ⟨OwnF.lit w [] h rfl (by decide) encS_len (fun _ h => by cases h) rfl, fun _ h => by cases h⟩
set_option maxRecDepth 100000 in
set_option maxHeartbeats 8000000 in
theorem spec_l23States {sa ta ra da : Option Addr} {sn sc tn tc rn rc dc : Nat} {sz st : List Int} {l : List (RM × RuD)} {inp root : Int} {L : List I3} {w : World} (hI : Ints w sa sn sc sz) (hn : sn ≤ 1048576) (hT : Ints w ta tn tc st) (ht : tn ≤ 1048576) (hR : FR w w ra rn rc l) (hr : rn ≤ 1048576) (hD : F3 w da L.length dc L) (hdl : L.length ≤ maxLen) (hi64 : I64 inp) (hr64 : I64 root) :
    Calls Tryz.prog 49 #[.agg #[.slice sa sn sc, .slice ta tn tc, .slice ra rn rc], .agg #[.int .i64 inp, .slice da L.length dc, .int .i64 root]] w (SdR false w (sdC sz st l inp L root)) := by
  have hb0 : Below w.heap.size w ((w.alloc (.cells #[.slice sa sn sc, .slice ta tn tc, .slice ra rn rc] 36)).alloc (.cells #[.int .i64 inp, .slice da L.length dc, .int .i64 root] 40)) := bel
  have X := Lib.hid ((Blk.made w #[.slice sa sn sc, .slice ta tn tc, .slice ra rn rc] 36).keep (below_alloc1 (Below.refl _ _) (.cells #[.int .i64 inp, .slice da L.length dc, .int .i64 root] 40)))
  have D := Lib.hid (Blk.made1 w (.cells #[.slice sa sn sc, .slice ta tn tc, .slice ra rn rc] 36) #[.int .i64 inp, .slice da L.length dc, .int .i64 root] 40)
  have KC := spec_l23Code (inp := inp) (root := root) (hI.keep hb0) hn (hT.keep hb0) ht (hR.self hb0) hr (hD.keep hb0) hdl hi64 hr64 (sa := sa) (sc := sc) (ta := ta) (tc := tc) (ra := ra) (rc := rc) (da := da) (dc := dc)
  by_cases hc : cdC sz st l inp L root = 0
  · obtain ⟨hm, hd, hi⟩ := cd_zero hc
    rw [hc] at KC
    have K1 := Lib.hid KC
    subst hi
    have hsl : sz.length = sn := hI.len
    subst hsl
    have hs := modelB_all hm
    have h16 := modelB_len hm
    have hS := dia_snd hd
    obtain ⟨_, hrr, h0, h20, hll, _, _⟩ := dia_redu hd
    have KO := Lib.hid (fun (bO : Nat) (wx : World) (hb : Below w.heap.size w wx) (hG : OnW wx w.heap.size bO []) => spec_l23Ones (ta := ta) (tn := tn) (tc := tc) (ra := ra) (rn := rn) (rc := rc) (root := root) hI h16 hs hD hS hll (offN sz sz.length) 0 root [] [] none 0 wx hb hG (OwnI.nil _ _ _) rfl (fun x hx => by cases hx) (by omega) (beg_nil hs _) hrr (lvl_pos hS.ord (by omega) hrr) (by simp))
    obtain ⟨o1, o2⟩ := on_all hs hS hrr
    have HB0 := Lib.hid hb0
    have HC4 := Lib.hid (fun h4 => sdC_4 (st := st) (l := l) hm hd rfl h4)
    have HC5 := Lib.hid (fun h5 => sdC_5 (st := st) (l := l) hm hd rfl h5)
    generalize hON : onF sz (offN sz sz.length : Int) L (offN sz sz.length) (offN sz sz.length) root [] [] = A at *
    clear KC hc hm hd hI hT hR hD hb0 hS hrr hs
    have K0 := (show ∀ (wx : World), Below w.heap.size w wx → True from fun _ _ => trivial)
    clear K0 hON
    cases hA : A.2
    · rw [hA] at KO o1
      have h4 : ¬ (xsN sz L (offN sz sz.length) root []).length ≤ 4000 := of_decide_eq_false o1.symm
      have HC := Lib.hid (HC4.out h4)
      clear o1 o2 h4 HC4 HC5 hA
      go_enter Tryz.func49, Tryz.ntmps49
      go_wp2_with fail
      refine Calls.mono K1.out ?_
      rintro e w1 ⟨rfl, hb⟩
      have X1 := Lib.hid (X.out.keep hb)
      have D1 := Lib.hid (D.out.keep hb)
      have HB1 := Lib.hid (below_callS HB0.out hb)
      clear hb X D HB0 K1
      obtain ⟨w2, hw2⟩ : ∃ W, W = w1.alloc (.cells #[] 22) := ⟨_, rfl⟩
      obtain ⟨w3, hw3⟩ : ∃ W, W = w2.alloc (.cells #[.slice (some ⟨w1.heap.size, 0, none⟩) 0 0] 31) := ⟨_, rfl⟩
      have hb2 : Below w1.heap.size w1 w2 := by rw [hw2]; exact below_alloc1 (Below.refl _ _) _
      have hb3 : Below w2.heap.size w2 w3 := by rw [hw3]; exact below_alloc1 (Below.refl _ _) _
      have hs1 := HB1.out.size
      have hs2 := hb2.size
      have hz2 : w2.heap.size = w1.heap.size + 1 := by rw [hw2]; simp
      have GG := Lib.hid (show OnW w3 w.heap.size (w1.heap.size + 1) [] from ⟨⟨_, _, _, [], by rw [hw3, ← hz2]; exact Blk.made _ _ _, (show SRow w2 w.heap.size w.heap.size (some ⟨w1.heap.size, 0, none⟩) 0 0 [] by rw [hw2]; exact SRow.empty9 w1 hs1).keep hb3, rfl⟩, by omega, by have := hb3.size; omega⟩)
      have hb23 := below_callS hb2 hb3
      have X3 := Lib.hid (X1.out.keep hb23)
      have D3 := Lib.hid (D1.out.keep hb23)
      have HB3 := Lib.hid (below_callS HB1.out hb23)
      clear hb2 hb3 hb23 X1 D1 HB1 hs1 hs2 hz2
      have x0 := X3.out.cell 0
      have x1 := X3.out.cell 1
      have x2 := X3.out.cell 2
      have xl := X3.out.lt
      have y0 := D3.out.cell 0
      have y1 := D3.out.cell 1
      have y2 := D3.out.cell 2
      have yl := D3.out.lt
      simp only [List.getElem?_toArray, List.getElem?_cons_zero, List.getElem?_cons_succ] at x0 x1 x2 y0 y1 y2
      subst hw3 hw2
      go_wp2_with fail
      refine Calls.mono (KO.out _ _ HB3.out GG.out) ?_
      rintro e w6 ⟨rfl, hG6, hst, hb6⟩
      go_wp2
      go_ret2
      exact ⟨none, 0, [], by rw [HC.out]; rfl, by rw [HC.out]; exact SRow.nil _ _ _, by rw [HC.out]; rfl, hb6, fun _ => List.Pairwise.nil⟩
    · rw [hA] at KO o1
      have h4 : (xsN sz L (offN sz sz.length) root []).length ≤ 4000 := of_decide_eq_true o1.symm
      have HC := Lib.hid (HC5.out h4)
      have HX := Lib.hid (o2 hA)
      clear o1 o2 h4 HC4 HC5 hA
      go_enter Tryz.func49, Tryz.ntmps49
      go_wp2_with fail
      refine Calls.mono K1.out ?_
      rintro e w1 ⟨rfl, hb⟩
      have X1 := Lib.hid (X.out.keep hb)
      have D1 := Lib.hid (D.out.keep hb)
      have HB1 := Lib.hid (below_callS HB0.out hb)
      clear hb X D HB0 K1
      obtain ⟨w2, hw2⟩ : ∃ W, W = w1.alloc (.cells #[] 22) := ⟨_, rfl⟩
      obtain ⟨w3, hw3⟩ : ∃ W, W = w2.alloc (.cells #[.slice (some ⟨w1.heap.size, 0, none⟩) 0 0] 31) := ⟨_, rfl⟩
      have hb2 : Below w1.heap.size w1 w2 := by rw [hw2]; exact below_alloc1 (Below.refl _ _) _
      have hb3 : Below w2.heap.size w2 w3 := by rw [hw3]; exact below_alloc1 (Below.refl _ _) _
      have hs1 := HB1.out.size
      have hs2 := hb2.size
      have hz2 : w2.heap.size = w1.heap.size + 1 := by rw [hw2]; simp
      have GG := Lib.hid (show OnW w3 w.heap.size (w1.heap.size + 1) [] from ⟨⟨_, _, _, [], by rw [hw3, ← hz2]; exact Blk.made _ _ _, (show SRow w2 w.heap.size w.heap.size (some ⟨w1.heap.size, 0, none⟩) 0 0 [] by rw [hw2]; exact SRow.empty9 w1 hs1).keep hb3, rfl⟩, by omega, by have := hb3.size; omega⟩)
      have hb23 := below_callS hb2 hb3
      have X3 := Lib.hid (X1.out.keep hb23)
      have D3 := Lib.hid (D1.out.keep hb23)
      have HB3 := Lib.hid (below_callS HB1.out hb23)
      clear hb2 hb3 hb23 X1 D1 HB1 hs1 hs2 hz2
      have x0 := X3.out.cell 0
      have x1 := X3.out.cell 1
      have x2 := X3.out.cell 2
      have xl := X3.out.lt
      have y0 := D3.out.cell 0
      have y1 := D3.out.cell 1
      have y2 := D3.out.cell 2
      have yl := D3.out.lt
      simp only [List.getElem?_toArray, List.getElem?_cons_zero, List.getElem?_cons_succ] at x0 x1 x2 y0 y1 y2
      subst hw3 hw2
      go_wp2_with fail
      refine Calls.mono (KO.out _ _ HB3.out GG.out) ?_
      rintro e w6 ⟨rfl, hG6, hst, hb6⟩
      obtain ⟨a, q, cq, l2, hB, hRow, hmap⟩ := hG6.o
      have HB6 := Lib.hid hb6
      have HRow := Lib.hid hRow
      have HM := Lib.hid (hmap.trans HX.out)
      have hq : q = (xsN sz L (offN sz sz.length) root []).length := by rw [← HM.out, List.length_map, hRow.len]
      have HQ := Lib.hid hq
      have o0 := hB.cell 0
      have ol := hB.lt
      simp at o0
      clear hq hB hRow hmap hb6 hst hG6 x0 x1 x2 xl y0 y1 y2 yl
      go_wp2
      go_ret2
      refine ⟨a, cq, l2, by rw [HC.out, HQ.out]; rfl, ?_, by rw [HC.out]; exact HM.out, HB6.out, fun h => by cases h⟩
      rw [HC.out]
      have := HRow.out
      rw [HQ.out] at this
      exact this
  · have HC := Lib.hid (sd_code hc)
    have K1 := Lib.hid KC
    obtain ⟨v, hv⟩ : ∃ v, v = cdC sz st l inp L root := ⟨_, rfl⟩
    rw [← hv] at K1 HC hc
    have hv0 : (v != 0) = true := by simpa using hc
    clear KC hI hT hR hD hv hc
    go_enter Tryz.func49, Tryz.ntmps49
    go_wp2_with fail
    refine Calls.mono K1.out ?_
    rintro e w1 ⟨rfl, hb⟩
    go_wp2
    go_ret2
    exact ⟨none, 0, [], by rw [HC.out]; rfl, by rw [HC.out]; exact SRow.nil _ _ _, by rw [HC.out]; rfl, below_callS hb0 hb, fun _ => List.Pairwise.nil⟩
set_option maxHeartbeats 1000000 in
theorem spec_StatesOfDiagram {sa ta ra da : Option Addr} {sn sc tn tc rn rc dc : Nat} {sz st : List Int} {l : List (RM × RuD)} {inp root : Int} {L : List I3} {w : World} (hI : Ints w sa sn sc sz) (hn : sn ≤ 1048576) (hT : Ints w ta tn tc st) (ht : tn ≤ 1048576) (hR : FR w w ra rn rc l) (hr : rn ≤ 1048576) (hD : F3 w da L.length dc L) (hdl : L.length ≤ maxLen) (hi64 : I64 inp) (hr64 : I64 root) :
    Calls Tryz.prog 11 #[.agg #[.slice sa sn sc, .slice ta tn tc, .slice ra rn rc], .agg #[.int .i64 inp, .slice da L.length dc, .int .i64 root]] w (SdR false w (sdC sz st l inp L root)) := by
  have hb0 : Below w.heap.size w ((w.alloc (.cells #[.slice sa sn sc, .slice ta tn tc, .slice ra rn rc] 36)).alloc (.cells #[.int .i64 inp, .slice da L.length dc, .int .i64 root] 40)) := bel
  have K := Lib.hid (spec_l23States (sa := sa) (sc := sc) (ta := ta) (tc := tc) (ra := ra) (rc := rc) (da := da) (dc := dc) (inp := inp) (root := root) (hI.keep hb0) hn (hT.keep hb0) ht (hR.self hb0) hr (hD.keep hb0) hdl hi64 hr64)
  have hs := hb0.size
  clear hI hT hR hD
  go_enter Tryz.func11, Tryz.ntmps11
  go_wp2_with fail
  refine Calls.mono K.out ?_
  rintro e w1 ⟨a, c, l2, rfl, hrow, hmap, hb, _⟩
  go_wp2
  go_ret2
  exact ⟨a, c, l2, rfl, hrow.le hs hs, hmap, below_callS hb0 hb, fun h => by cases h⟩
end Go.Proofs.YtkaikbaagajckaaGreat
namespace Go.Proofs.YtkaikbaagajckaaGreat
open Go.RowKit
set_option linter.unusedVariables false
set_option linter.unusedSimpArgs false
def encR9 (q : QM) : List Value := [.slice q.a q.n q.c]
theorem ret_int9 {x y : Int} (h : x = y) : Ending.returned (.int .i64 x) = Ending.returned (.int .i64 y) := by rw [h]
/-- rows of m numbers each, a call's own, in the blocks from lo on below hi; apart from each other if ap -/
def SsO (ap : Bool) (w : World) (lo hi : Nat) (a : Option Addr) (n c m : Nat) (f : Nat → List Int) : Prop :=
  ∃ R : List QM, OwnF 1 encR9 (fun _ => True) 22 w lo a n c R ∧ (∀ (j : Nat) (q : QM), R[j]? = some q → q.n = m ∧ OwnI 2 w lo q.a q.n q.c (f j) ∧ ∀ g, q.a = some ⟨g, 0, none⟩ → g < hi) ∧
    (ap = true → ∀ (i j : Nat) (x y : QM), i ≠ j → R[i]? = some x → R[j]? = some y → Apart x.a y.a) ∧ ∀ g, a = some ⟨g, 0, none⟩ → g < hi
section
variable {ap : Bool} {w w' : World} {lo hi : Nat} {a : Option Addr} {n c m : Nat} {f f' : Nat → List Int}
theorem SsO.keep (h : SsO ap w lo hi a n c m f) (hb : Below w.heap.size w w') : SsO ap w' lo hi a n c m f := by
  obtain ⟨R, h1, h2, h3, h4⟩ := h
  exact ⟨R, h1.keep hb, fun j q hq => ⟨(h2 j q hq).1, (h2 j q hq).2.1.keep hb, (h2 j q hq).2.2⟩, h3, h4⟩
theorem SsO.here (w1 w2 : World) (hk : ∀ k, lo ≤ k → k < hi → w2.heap[k]? = w1.heap[k]?) (h : SsO ap w1 lo hi a n c m f) : SsO ap w2 lo hi a n c m f := by
  obtain ⟨R, h1, h2, h3, h4⟩ := h
  exact ⟨R, OwnF.here (fun g hg => ⟨(h1.blk g hg).1, h4 g hg⟩) w1 w2 hk h1, fun j q hq => ⟨(h2 j q hq).1, OwnI.here (fun g hg => ⟨((h2 j q hq).2.1.blk g hg).1, (h2 j q hq).2.2 g hg⟩) w1 w2 hk (h2 j q hq).2.1, (h2 j q hq).2.2⟩, h3, h4⟩
theorem SsO.own (h : SsO ap w lo hi a n c m f) (hh : hi ≤ w.heap.size) : Own (fun w => SsO ap w lo hi a n c m f) lo hi w := ⟨h, hh, SsO.here⟩
theorem SsO.rdS (h : SsO ap w lo hi a n c m f) : SsO ap w lo hi a n c m f := h
theorem SsO.get (h : SsO ap w lo hi a n c m f) {j : Nat} (hj : j < n) : ∃ (b off : Nat) (q : QM), a = some ⟨b, off, none⟩ ∧ b < w.heap.size ∧ w.cell? ⟨b, off + j, none⟩ = some (.slice q.a m q.c) ∧ Ints w q.a m q.c (f j) := by
  obtain ⟨R, h1, h2, h3, h4⟩ := h
  obtain ⟨b, off, x, e1, e2, e3, _, e5⟩ := h1.flats.at hj
  obtain ⟨q1, q2, _⟩ := h2 j x e3
  have := e5 0 _ rfl
  rw [Nat.mul_one] at this
  rw [q1] at this q2
  exact ⟨b, off, x, e1, e2, this, q2.ints⟩
theorem SsO.congr (h : SsO ap w lo hi a n c m f) (hf : ∀ j, j < n → f j = f' j) : SsO ap w lo hi a n c m f' := by
  obtain ⟨R, h1, h2, h3, h4⟩ := h
  refine ⟨R, h1, fun j q hq => ?_, h3, h4⟩
  have hj : j < n := by
    have := h1.flats.len
    have := (List.getElem?_eq_some_iff.1 hq).1
    omega
  rw [← hf j hj]
  exact h2 j q hq
end
/-- one row is written anew -/
theorem SsO.step {w w' : World} {lo hi : Nat} {a : Option Addr} {n c m : Nat} {f : Nat → List Int} {R : List QM} {j k : Nat} {x : QM} {v : List Int} (h1 : OwnF 1 encR9 (fun _ => True) 22 w lo a n c R) (h2 : ∀ (j : Nat) (q : QM), R[j]? = some q → q.n = m ∧ OwnI 2 w lo q.a q.n q.c (f j) ∧ ∀ g, q.a = some ⟨g, 0, none⟩ → g < hi)
    (h3 : ∀ (i j : Nat) (x y : QM), i ≠ j → R[i]? = some x → R[j]? = some y → Apart x.a y.a) (h4 : ∀ g, a = some ⟨g, 0, none⟩ → g < hi) (hx : R[j]? = some x) (ht : Touch w w' k x.a) (hv : OwnI 2 w' lo x.a x.n x.c v) :
    SsO true w' lo hi a n c m (fun i => if i = j then v else f i) := by
  refine ⟨R, h1.keepT ht fun g e e' => typ_apart (fun {g} e => h1.typ e) (fun {g} e => (h2 j x hx).2.1.typ e) (by decide) g e e', fun i q hq => ?_, fun _ => h3, h4⟩
  refine ⟨(h2 i q hq).1, ?_, (h2 i q hq).2.2⟩
  by_cases hij : i = j
  · subst hij
    rw [hx] at hq
    cases hq
    show OwnI 2 w' lo x.a x.n x.c (if i = i then v else f i)
    rw [if_pos rfl]
    exact hv
  · show OwnI 2 w' lo q.a q.n q.c (if i = j then v else f i)
    rw [if_neg hij]
    exact (h2 i q hq).2.1.keepT ht fun g e e' => h3 i j q x hij hq hx g e e'
set_option maxRecDepth 100000 in
set_option maxHeartbeats 2000000 in
theorem laws_eqInt64SS {ap ap' : Bool} {lo hi lo' hi' : Nat} {a a' : Option Addr} {n c c' m : Nat} {f : Nat → List Int} {w : World} (h : SsO ap w lo hi a n c m f) (h' : SsO ap' w lo' hi' a' n c' m f) (hn : n ≤ 1048576) (hm : m ≤ 1048576) :
    Calls Tryz.prog 15 #[.slice a n c, .slice a' n c'] w fun e w' => e = .returned (.bool true) ∧ Below w.heap.size w w' := by
  have H := Lib.hid h
  have H' := Lib.hid h'
  clear h h'
  have hq : ((n : Int) != (n : Int)) = false := by simp
  go_enter Tryz.func15, Tryz.ntmps15
  go_wp2
  go_loopw [5] (fun i wr => ∃ k : Nat, k ≤ n ∧ i = .int .i64 k ∧ Hid (Below w.heap.size w wr)) (fun i _ => n - (intOf i).toNat)
  case atStart => exact ⟨0, Nat.zero_le _, rfl, Lib.hid (Below.refl _ _)⟩
  case round =>
    obtain ⟨k, hk, rfl, HB⟩ := hrel
    by_cases hlt : k < n
    · obtain ⟨b, off, q, rfl, hb, hc, hi9⟩ := (H.out.keep HB.out).get hlt
      obtain ⟨b', off', q', rfl, hb', hc', hi9'⟩ := (H'.out.keep HB.out).get hlt
      have I1 := Lib.hid hi9
      have I2 := Lib.hid hi9'
      clear hi9 hi9'
      have hlt' : (k : Int) < (n : Int) := by omega
      have hpos : (0 : Int) ≤ (k : Int) := by omega
      have KE := Lib.hid (fun (wx : World) (hx : Below wr.heap.size wr wx) => laws_eqInt64S (I1.out.keep hx) (I2.out.keep hx) hm hm)
      simp only [decide_true] at KE
      have hbr : Below wr.heap.size wr wr := Below.refl _ _
      go_wp2_with fail
      refine wp_region_noPanic ?_
      refine wp_region_held_drew (S := (fun wx => wx.cell? ⟨b, off + k, none⟩ = some (.slice q.a m q.c) ∧ wx.cell? ⟨b', off' + k, none⟩ = some (.slice q'.a m q'.c) ∧ b < wx.heap.size ∧ b' < wx.heap.size ∧ Below wr.heap.size wr wx)) (by kernel_rfl) ?_ (fun hHeld => ?_)
      · (try dsimp only); (((try go_split_ands); (repeat' apply And.intro) <;> first | (with_reducible assumption) | (with_reducible exact (hcx _ _ (by assumption)).trans (by assumption)) | (with_reducible exact Nat.lt_of_lt_of_le (by assumption) hsx) | (with_reducible exact below_callS (by assumption) hbx) | (with_reducible exact Below.drew (by assumption)) | (with_reducible exact Go.Proofs.YtkaikbaagajckaaGreat.cellR_drew (by assumption)) | (with_reducible exact Go.Proofs.YtkaikbaagajckaaGreat.ltR_drew (by assumption)) | (with_reducible exact (Below.refl _ _).drew)))
      refine tkH 0 ?_
      try simp only [Act.put, s1, s2, s3]
      refine tkH 1 ?_
      try simp only [Act.put, s1, s2, s3]
      refine tkH 2 ?_
      try simp only [Act.put, s1, s2, s3]
      refine tkH 3 ?_
      try simp only [Act.put, s1, s2, s3]
      refine tkH 4 ?_
      try simp only [Act.put, s1, s2, s3]
      refine tkH 5 ?_
      try simp only [Act.put, s1, s2, s3]
      refine tkH 6 ?_
      try simp only [Act.put, s1, s2, s3]
      refine tkH 7 ?_
      try simp only [Act.put, s1, s2, s3]
      refine wpAnyH_ready (rs := [8]) (by kernel_rfl) (by simp) ?_
      refine AllReadyH.cons rfl (fun K hK => ?_) AllReadyH.nil
      go_simp
      (go_at_call 54; refine Calls.mono (KE.out _ (by first | assumption | (go_split_ands; assumption))) ?_; rintro e wx2 ⟨rfl, hbx⟩; obtain ⟨hcx, hfx⟩ := bcell hbx; have hsx := hbx.size)
      go_wp2_with fail
      refine hK.out _ _ ?_ (fun hHeld => ?_)
      · (try dsimp only); (((try go_split_ands); (repeat' apply And.intro) <;> first | (with_reducible assumption) | (with_reducible exact (hcx _ _ (by assumption)).trans (by assumption)) | (with_reducible exact Nat.lt_of_lt_of_le (by assumption) hsx) | (with_reducible exact below_callS (by assumption) hbx) | (with_reducible exact Below.drew (by assumption)) | (with_reducible exact Go.Proofs.YtkaikbaagajckaaGreat.cellR_drew (by assumption)) | (with_reducible exact Go.Proofs.YtkaikbaagajckaaGreat.ltR_drew (by assumption)) | (with_reducible exact (Below.refl _ _).drew)))
      clear hK K
      try simp only [Act.put, s1, s2, s3]
      refine tkH 9 ?_
      try simp only [Act.put, s1, s2, s3]
      refine wpAnyH_done (by kernel_rfl) ?_ _
      refine NoPanic.normal ?_
      obtain ⟨_, _, _, _, hb5⟩ := hHeld
      have HB5 := Lib.hid (below_callS HB.out hb5)
      clear hb5
      go_wp2_with fail
      go_roundw
      case rel => exact ⟨k + 1, by omega, by go_num, HB5⟩
      case measure => simp [intOf]; omega
    · go_wp2
      go_ret
      exact ⟨rfl, HB.out⟩
set_option maxRecDepth 100000 in
set_option maxHeartbeats 2000000 in
theorem laws_markInt64SS {lo hi : Nat} {a : Option Addr} {n c m T : Nat} {f : Nat → List Int} {q : Int} {w : World} (h : SsO true w lo hi a n c m f) (hn : n ≤ 1048576) (hm : m ≤ 1048576) (hT : n * m = T) (hq0 : 0 ≤ q) (hq1 : q + (T : Int) ≤ 1099511627776) :
    Calls Tryz.prog 20 #[.slice a n c, .int .i64 q] w fun e w' => e = .returned (.int .i64 (q + (T : Int))) ∧ Only lo hi w w' ∧ SsO true w' lo hi a n c m (fun i => marksI (q + ((i * m : Nat) : Int)) m) := by
  have H := Lib.hid h
  clear h
  go_enter Tryz.func20, Tryz.ntmps20
  go_wp2
  go_loopw [1, 5] (fun s1 s5 wr => ∃ j t : Nat, j ≤ n ∧ j * m = t ∧ s1 = .int .i64 (q + (t : Int)) ∧ s5 = .int .i64 j ∧ Hid (Only lo hi w wr) ∧ Hid (SsO true wr lo hi a n c m (fun i => if i < j then marksI (q + ((i * m : Nat) : Int)) m else f i))) (fun _ s5 _ => n - (intOf s5).toNat)
  case atStart => exact ⟨0, 0, Nat.zero_le _, by simp, by simp, rfl, Lib.hid (Only.refl _ _ _), Lib.hid (H.out.congr fun j _ => by simp)⟩
  case round =>
    obtain ⟨j, t, hj, ht9, rfl, rfl, HO, HS⟩ := hrel
    have htT : t ≤ T := by rw [← hT, ← ht9]; exact Nat.mul_le_mul_right _ hj
    by_cases hlt : j < n
    · have hlt' : (j : Int) < (n : Int) := by omega
      have hj0 : (0 : Int) ≤ (j : Int) := by omega
      have hnx : (j + 1) * m = t + m := by rw [Nat.succ_mul, ht9]
      have hnT : t + m ≤ T := by rw [← hT, ← hnx]; exact Nat.mul_le_mul_right _ hlt
      obtain ⟨R, h1, h2, h3, h4⟩ := HS.out
      obtain ⟨b, off, x, rfl, hb, hx, _, hc⟩ := h1.flats.at hlt
      have hcell := hc 0 _ rfl
      rw [Nat.mul_one] at hcell
      have hcell : wr.cell? ⟨b, off + j, none⟩ = some (.slice x.a x.n x.c) := hcell
      have hxm := (h2 j x hx).1
      have R1 := Lib.hid h1
      have R2 := Lib.hid h2
      have R3 := Lib.hid (h3 rfl)
      have R4 := Lib.hid h4
      have HX := Lib.hid hx
      have KM := Lib.hid (laws_markInt64S (q := q + (t : Int)) (h2 j x hx).2.1 (by omega) (by omega) (by omega))
      have HXM := Lib.hid hxm
      clear h1 h2 h3 h4 hx hc hxm
      go_wp2_with fail
      refine Calls.mono KM.out ?_
      rintro e w3 ⟨rfl, ht3, ho3⟩
      have hst := SsO.step R1.out R2.out R3.out R4.out HX.out ht3 ho3
      have hon : Only lo hi wr w3 := ht3.only (fun g hg => ⟨((R2.out j x HX.out).2.1.blk g hg).1, (R2.out j x HX.out).2.2 g hg⟩)
      have HS3 := Lib.hid hst
      have HO3 := Lib.hid (HO.out.trans hon)
      clear hst hon ht3 ho3
      have hxn : (x.n : Int) = (m : Int) := by have := HXM.out; omega
      rw [hxn]
      go_wp2_with fail
      go_roundw
      case rel => exact ⟨j + 1, t + m, by omega, hnx, by go_num, by go_num, HO3, Lib.hid (HS3.out.congr fun i hi => by
        by_cases h5 : i = j
        · subst h5
          rw [if_pos rfl, if_pos (by omega), HXM.out, ht9]
        · rw [if_neg h5]
          by_cases h6 : i < j
          · rw [if_pos h6, if_pos (by omega)]
          · rw [if_neg h6, if_neg (by omega)])⟩
      case measure => simp [intOf]; omega
    · have hjn : j = n := by omega
      subst hjn
      have htT2 : t = T := by rw [← hT, ← ht9]
      go_wp2
      go_ret
      exact ⟨ret_int9 (by rw [htT2]), HO.out, HS.out.congr fun i hi => by rw [if_pos hi]⟩
set_option maxRecDepth 100000 in
set_option maxHeartbeats 2000000 in
theorem laws_heldInt64SS {ap : Bool} {lo hi : Nat} {a : Option Addr} {n c m T : Nat} {q : Int} {w : World} (h : SsO ap w lo hi a n c m (fun i => marksI (q + ((i * m : Nat) : Int)) m)) (hn : n ≤ 1048576) (hm : m ≤ 1048576) (hT : n * m = T) (hq0 : 0 ≤ q) (hq1 : q + (T : Int) ≤ 1099511627776) :
    Calls Tryz.prog 21 #[.slice a n c, .int .i64 q] w fun e w' => e = .returned (.int .i64 (q + (T : Int))) ∧ Below w.heap.size w w' := by
  have H := Lib.hid h
  clear h
  go_enter Tryz.func21, Tryz.ntmps21
  go_wp2
  go_loopw [1, 5] (fun s1 s5 wr => ∃ j t : Nat, j ≤ n ∧ j * m = t ∧ s1 = .int .i64 (q + (t : Int)) ∧ s5 = .int .i64 j ∧ Hid (Below w.heap.size w wr)) (fun _ s5 _ => n - (intOf s5).toNat)
  case atStart => exact ⟨0, 0, Nat.zero_le _, by simp, by simp, rfl, Lib.hid (Below.refl _ _)⟩
  case round =>
    obtain ⟨j, t, hj, ht9, rfl, rfl, HB⟩ := hrel
    have htT : t ≤ T := by rw [← hT, ← ht9]; exact Nat.mul_le_mul_right _ hj
    by_cases hlt : j < n
    · have hlt' : (j : Int) < (n : Int) := by omega
      have hj0 : (0 : Int) ≤ (j : Int) := by omega
      have hnx : (j + 1) * m = t + m := by rw [Nat.succ_mul, ht9]
      have hnT : t + m ≤ T := by rw [← hT, ← hnx]; exact Nat.mul_le_mul_right _ hlt
      obtain ⟨b, off, x, rfl, hb, hcell, hI⟩ := (H.out.keep HB.out).get hlt
      simp only [ht9] at hI
      have KH := Lib.hid (laws_heldInt64S (q := q + (t : Int)) hI hm (by omega) (by omega))
      clear hI
      go_wp2_with fail
      refine Calls.mono KH.out ?_
      rintro e _ ⟨rfl, rfl⟩
      have hneg : ¬ (q + (t : Int) + (m : Int) < 0) := by omega
      go_wp2_with fail
      go_roundw
      case rel => exact ⟨j + 1, t + m, by omega, hnx, by go_num, by go_num, HB⟩
      case measure => simp [intOf]; omega
    · have hjn : j = n := by omega
      subst hjn
      have htT2 : t = T := by rw [← hT, ← ht9]
      go_wp2
      go_ret
      exact ⟨ret_int9 (by rw [htT2]), HB.out⟩
end Go.Proofs.YtkaikbaagajckaaGreat
namespace Go.Proofs.YtkaikbaagajckaaGreat
open Go.RowKit
set_option linter.unusedVariables false
set_option linter.unusedSimpArgs false
theorem laws_szInt64S {a : Option Addr} {n c : Nat} {m : Int} {w : World} (hn : (n : Int) ≤ 9223372036854775807) (hm : 0 ≤ m) (hm' : m ≤ 1048576) : Calls Tryz.prog 46 #[.slice a n c, .int .i64 m] w fun e w' => e = .returned (.int .i64 (if m < n then -1 else m - n)) ∧ w = w' := by
  by_cases h : m < (n : Int)
  · rw [if_pos h]
    have h' : m - (n : Int) < 0 := by omega
    go_enter Tryz.func46, Tryz.ntmps46
    go_wp2
    go_ret
    exact ⟨rfl, rfl⟩
  · rw [if_neg h]
    have h' : ¬ m - (n : Int) < 0 := by omega
    go_enter Tryz.func46, Tryz.ntmps46
    go_wp2
    go_ret
    exact ⟨rfl, rfl⟩
set_option maxHeartbeats 1000000 in
theorem laws_szModel {sa ta ra : Option Addr} {sn sc tn tc rn rc : Nat} {l : List (RM × RuD)} {m : Int} {w : World} (hR : FX w w ra rn rc l) (hs : (sn : Int) ≤ 9223372036854775807) (ht : (tn : Int) ≤ 9223372036854775807) (hr : (rn : Int) ≤ 9223372036854775807) (hm : 0 ≤ m) (hm' : m ≤ 1048576) :
    Calls Tryz.prog 9 #[.agg #[.slice sa sn sc, .slice ta tn tc, .slice ra rn rc], .int .i64 m] w fun e w' => e = .returned (.int .i64 (szN m (sn + tn + (rn + need l)))) ∧ Below w.heap.size w w' := by
  have k1 := fun (wx : World) => laws_szInt64S (a := sa) (n := sn) (c := sc) (m := m) (w := wx) hs hm hm'
  by_cases h1 : m < (sn : Int)
  · have HR := Lib.hid (szN_lt (m := m) (x := sn + tn + (rn + need l)) (by omega))
    simp only [if_pos h1] at k1
    have K1 := Lib.hid k1
    clear k1 hR
    go_enter Tryz.func9, Tryz.ntmps9
    go_wp2_with fail
    go_wp2_with fail
    refine Calls.mono ((K1.out _)) ?_
    rintro e _ ⟨rfl, rfl⟩
    go_wp2
    go_ret
    exact ⟨ret_int HR.out.symm, bel⟩
  · simp only [if_neg h1] at k1
    have K1 := Lib.hid k1
    have h1' : ¬ m - (sn : Int) < 0 := by omega
    have k2 := fun (wx : World) => laws_szInt64S (a := ta) (n := tn) (c := tc) (m := m - sn) (w := wx) ht (by omega) (by omega)
    clear k1
    by_cases h2 : m - (sn : Int) < (tn : Int)
    · have HR := Lib.hid (szN_lt (m := m) (x := sn + tn + (rn + need l)) (by omega))
      simp only [if_pos h2] at k2
      have K2 := Lib.hid k2
      clear k2 hR
      go_enter Tryz.func9, Tryz.ntmps9
      go_wp2_with fail
      go_wp2_with fail
      refine Calls.mono ((K1.out _)) ?_
      rintro e _ ⟨rfl, rfl⟩
      go_wp2_with fail
      go_wp2_with fail
      refine Calls.mono ((K2.out _)) ?_
      rintro e _ ⟨rfl, rfl⟩
      go_wp2
      go_ret
      exact ⟨ret_int HR.out.symm, bel⟩
    · simp only [if_neg h2] at k2
      have K2 := Lib.hid k2
      have h2' : ¬ m - (sn : Int) - (tn : Int) < 0 := by omega
      have hFX := hR.keep ((Below.refl _ _).alloc (Nat.le_refl _) (.cells #[.slice sa sn sc, .slice ta tn tc, .slice ra rn rc] 25))
      have hFX2 : FX (w.alloc (.cells #[.slice sa sn sc, .slice ta tn tc, .slice ra rn rc] 25)) (w.alloc (.cells #[.slice sa sn sc, .slice ta tn tc, .slice ra rn rc] 25)) ra rn rc l := by
        refine ⟨hFX.len, hFX.cap, hFX.pos, fun x hx => ?_, hFX.nil⟩
        obtain ⟨q1, q2, q3, q4, q5, q6⟩ := hFX.wf x hx
        exact ⟨q1, q2, q3.keep ((Below.refl _ _).alloc (Nat.le_refl _) _), q4, q5.keep ((Below.refl _ _).alloc (Nat.le_refl _) _), q6⟩
      have k3 := laws_szRuleS (m := m - sn - tn) hFX2 hr (by omega) (by omega)
      have HR := Lib.hid (show szN m (sn + tn + (rn + need l)) = szN (m - sn - tn) (rn + need l) by unfold szN; split <;> split <;> omega)
      have hneg : szN (m - sn - tn) (rn + need l) < 0 ∨ ¬ szN (m - sn - tn) (rn + need l) < 0 := by omega
      have hneg2 : szN (m - sn - tn) (rn + need l) < 0 → szN (m - sn - tn) (rn + need l) = -1 := by unfold szN; split <;> omega
      generalize szN (m - sn - tn) (rn + need l) = q at *
      have K3 := Lib.hid k3
      clear k2 k3 hR hFX hFX2
      rcases hneg with hq | hq
      · obtain rfl := hneg2 hq
        clear hneg2 hq
        go_enter Tryz.func9, Tryz.ntmps9
        go_wp2_with fail
        go_wp2_with fail
        refine Calls.mono ((K1.out _)) ?_
        rintro e _ ⟨rfl, rfl⟩
        go_wp2_with fail
        go_wp2_with fail
        refine Calls.mono ((K2.out _)) ?_
        rintro e _ ⟨rfl, rfl⟩
        go_wp2_with fail
        refine Calls.mono K3.out ?_
        rintro e w1 ⟨rfl, hb1⟩
        go_wp2
        go_ret
        exact ⟨ret_int HR.out.symm, bel⟩
      · clear hneg2
        go_enter Tryz.func9, Tryz.ntmps9
        go_wp2_with fail
        go_wp2_with fail
        refine Calls.mono ((K1.out _)) ?_
        rintro e _ ⟨rfl, rfl⟩
        go_wp2_with fail
        go_wp2_with fail
        refine Calls.mono ((K2.out _)) ?_
        rintro e _ ⟨rfl, rfl⟩
        go_wp2_with fail
        refine Calls.mono K3.out ?_
        rintro e w1 ⟨rfl, hb1⟩
        go_wp2
        go_ret
        exact ⟨ret_int HR.out.symm, bel⟩
end Go.Proofs.YtkaikbaagajckaaGreat
namespace Go.Proofs.YtkaikbaagajckaaGreat
open Go.RowKit
set_option linter.unusedVariables false
set_option linter.unusedSimpArgs false
set_option maxHeartbeats 2000000 in
theorem laws_toRule {R : RM} {r : RuD} {w : World} (h : RuM w (R, r)) :
    Calls Tryz.prog 106 #[.agg #[.string R.nm, .slice R.ga R.gn R.gc, .slice R.ea R.en R.ec]] w fun e w' => ∃ R' : RM, e = .returned (.agg #[.string R'.nm, .slice R'.ga R'.gn R'.gc, .slice R'.ea R'.en R'.ec]) ∧ Below w.heap.size w w' ∧ R'.nm = r.nm ∧ OwnF 3 I2b.enc I2b.ok 127 w' w.heap.size R'.ga R'.gn R'.gc r.g ∧ OwnF 2 I2.enc I2.ok 199 w' w.heap.size R'.ea R'.en R'.ec r.e := by
  obtain ⟨nm, ga, gn, gc, ea, en, ec⟩ := R
  obtain ⟨e1, h2, hg, hgn, he, hen⟩ := h
  simp only at e1 h2 hg hgn he hen ⊢
  have HG := Lib.hid hg
  have HE := Lib.hid he
  have HN := Lib.hid e1
  clear hg he e1 h2
  go_enter Tryz.func106, Tryz.ntmps106
  go_wp2_with fail
  refine Calls.mono (laws_toTestS (HG.out.keep bel) hgn) ?_
  rintro e w1 ⟨rfl, hb_w1, ho⟩
  obtain ⟨hc_w1, hf_w1⟩ := bcell hb_w1
  have hs_w1 := hb_w1.size
  simp at hs_w1
  have HO := Lib.hid ho
  clear ho
  have hz1 : w.heap.size < w1.heap.size := by omega
  have hz2 : w.heap.size + 1 < w1.heap.size := by omega
  have hz3 : w.heap.size + 1 + 1 < w1.heap.size := by omega
  go_wp2_with fail
  obtain ⟨wB, hwB⟩ : ∃ wB : World, wB = w1.setCell ⟨w.heap.size + 1 + 1, 1, none⟩ (.slice (some ⟨w.heap.size + 1 + 1 + 1, 0, none⟩) gn gn) := ⟨_, rfl⟩
  have hbB : Below w.heap.size w wB := by rw [hwB]; exact bel
  have hsB : wB.heap.size = w1.heap.size := by rw [hwB]; simp
  have ho1 := HO.out
  simp at ho1
  refine Calls.mono (laws_toAssignS (HE.out.keep (by rw [hwB] at hbB; exact hbB)) hen) ?_
  rintro e w2 ⟨rfl, hb_w2, ho2⟩
  obtain ⟨hc_w2, hf_w2⟩ := bcell hb_w2
  have hs_w2 := hb_w2.size
  simp at hs_w2
  have HO2 := Lib.hid ho2
  clear ho2
  go_wp2
  have hz4 : w.heap.size + 1 < w2.heap.size := by omega
  have hz5 : w.heap.size + 1 + 1 < w2.heap.size := by omega
  have hz6 : w.heap.size < w2.heap.size := by omega
  refine bodyPost_ret (v := .agg #[.string nm, .slice (some ⟨w.heap.size + 1 + 1 + 1, 0, none⟩) gn gn, .slice (some ⟨w1.heap.size, 0, none⟩) en en]) (by simp [results, Tryz.results106, go_sem, hc_w1, hf_w1, hc_w2, hf_w2, hz1, hz2, hz3, hz4, hz5, hz6]) rfl ⟨⟨nm, some ⟨w.heap.size + 1 + 1 + 1, 0, none⟩, gn, gn, some ⟨w1.heap.size, 0, none⟩, en, en⟩, rfl, bel, HN.out, ?_, ?_⟩
  · refine OwnF.le (base := w.heap.size + 1 + 1 + 1) ?_ (by omega)
    repeat (refine OwnF.keepG ?_ (set_grown _ _ _) (by intro g hg; simp at hg ⊢; omega))
    refine OwnF.keep ?_ hb_w2
    repeat (refine OwnF.keepG ?_ (set_grown _ _ _) (by intro g hg; simp at hg ⊢; omega))
    exact ho1
  · have h := HO2.out
    simp at h
    refine OwnF.le (base := w1.heap.size) ?_ (by omega)
    repeat (refine OwnF.keepG ?_ (set_grown _ _ _) (by intro g hg; simp at hg ⊢; omega))
    exact h
end Go.Proofs.YtkaikbaagajckaaGreat
