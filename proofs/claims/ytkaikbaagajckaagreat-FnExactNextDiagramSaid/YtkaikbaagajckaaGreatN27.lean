/- The join of two diagrams: the program, walked: all pairs.; The join of two diagrams: the program, walked.; The states of a diagram: what both sides answer.; Tests as diagrams: the program, walked. -/
import Derived.Test.YtkaikbaagajckaaGreatPu
import Derived.Test.YtkaikbaagajckaaGreatN25
import Derived.BigQuiet
import Derived.Laws.EntriesVeiled
import Derived.Test.YtkaikbaagajckaaGreatN24
import Derived.Test.YtkaikbaagajckaaGreatN17
import Derived.Test.YtkaikbaagajckaaGreatN20
namespace Go.Proofs.YtkaikbaagajckaaGreat
open Go.RowKit
set_option linter.unusedVariables false
set_option linter.unusedSimpArgs false
attribute [local go_sem ↓] Go.wp_at_zero Go.wp_at_succ
set_option maxRecDepth 100000 in
set_option maxHeartbeats 8000000 in
theorem impl_joinVisit {lo bJ bM mm bA bB bF p mb bV : Nat} {j n : Int} {aA aB : Option Addr} {cA cB : Nat} {A B : List I3} {rA rB : Int} (hA : Snd n A) (hB : Snd n B) (n0 : 0 ≤ n) (n20 : n ≤ 20) (hA2 : A.length ≤ 2000) (hB2 : B.length ≤ 2000) :
    ∀ (f : Nat) (a b : Int) (L : List I3) (M : Mem) (w : World), JnW w lo bJ bM mm bA bB bF p mb bV j n aA aB cA cB A B rA rB L M → RefB a A.length → RefB b B.length → a.toNat + b.toNat ≤ f →
    Calls Tryz.prog 137 #[.int .i64 a, .int .i64 b, .pointer (some ⟨bJ, 0, none⟩), .pointer (some ⟨bM, 0, none⟩), .pointer (some ⟨bA, 0, none⟩), .pointer (some ⟨bB, 0, none⟩), .pointer (some ⟨bF, 0, none⟩), .pointer (some ⟨bV, 0, none⟩)] w fun e w' => e = .returned (.int .i64 (jnF j n A B f (L, M) a b).2.2) ∧ JnW w' lo bJ bM mm bA bB bF p mb bV j n aA aB cA cB A B rA rB (jnF j n A B f (L, M) a b).1 (jnF j n A B f (L, M) a b).2.1 ∧ Below lo w w' := by
  intro f
  induction f with
  | zero =>
    intro a b L M w hW ha hb hf
    exact impl_join_low hW ha hb (by have := ha.1; have := hb.1; omega)
  | succ f ih =>
    intro a b L M w hW ha hb hf
    have ha0 := ha.1
    have hb0 := hb.1
    have ha1 := ha.2
    have hb1 := hb.2
    by_cases h0 : a < 2 ∧ b < 2
    · exact impl_join_low hW ha hb h0
    cases hm : M a b with
    | some r => exact impl_join_old hW (by unfold I64; omega) (by unfold I64; omega) h0 hm
    | none =>
      obtain ⟨i, hi⟩ : ∃ i, min (lvlN n A a) (lvlN n B b) = i := ⟨_, rfl⟩
      obtain ⟨c1, c2, c3, c4, d1, d2, hin, hi0⟩ := ch_down hA.redu.frst hB.redu.frst hA.ord hB.ord ha hb h0 hi
      replace hi0 := hi0 n0
      obtain ⟨u, hu⟩ : ∃ u, jnF j n A B f (L, M) (chN n A a i).1 (chN n B b i).1 = u := ⟨_, rfl⟩
      obtain ⟨v, hv⟩ : ∃ v, jnF j n A B f (u.1, u.2.1) (chN n A a i).2 (chN n B b i).2 = v := ⟨_, rfl⟩
      have HJ := Lib.hid (jn_new f (L, M) h0 hm hi hu hv)
      have hev1 := jn_ev (j := j) hA.redu.frst hB.redu.frst hA.ord hB.ord n0 f L M _ _ c1 c3 (by omega) hW.inv
      rw [hu] at hev1
      obtain ⟨v1, v2, _, _, _⟩ := hev1
      have hev2 := jn_ev (j := j) hA.redu.frst hB.redu.frst hA.ord hB.ord n0 f u.1 u.2.1 _ _ c2 c4 (by omega) v1
      rw [hv] at hev2
      obtain ⟨_, w2r, _, _, ⟨tt, htt⟩⟩ := hev2
      have hev3 := jn_ev (j := j) hA.redu.frst hB.redu.frst hA.ord hB.ord n0 (f + 1) L M a b ha hb hf hW.inv
      have HEV := Lib.hid hev3.1
      have hfar : v.2.1 a b = none := by
        obtain ⟨cnt, S, _, hk, _⟩ := hW.pl
        obtain ⟨⟨S1, k1⟩, k2⟩ := jn_cnt (j := j) hA.redu.frst hB.redu.frst hA.ord hB.ord f L M S _ _ c1 c3 (by omega) hk
        rw [hu] at k1 k2
        obtain ⟨⟨S2, k3⟩, k4⟩ := jn_cnt (j := j) hA.redu.frst hB.redu.frst hA.ord hB.ord f u.1 u.2.1 S1 _ _ c2 c4 (by omega) k1
        rw [hv] at k4
        rw [k4 a b (by omega), k2 a b (by omega), hm]
      have K1 := Lib.hid (fun (wx : World) (h : JnW wx lo bJ bM mm bA bB bF p mb bV j n aA aB cA cB A B rA rB L M) => ih (chN n A a i).1 (chN n B b i).1 L M wx h c1 c3 (by omega))
      have K2 := Lib.hid (fun (wx : World) (h : JnW wx lo bJ bM mm bA bB bF p mb bV j n aA aB cA cB A B rA rB u.1 u.2.1) => ih (chN n A a i).2 (chN n B b i).2 u.1 u.2.1 wx h c2 c4 (by omega))
      rw [hu] at K1
      rw [hv] at K2
      obtain ⟨u1, u2, u3⟩ := u
      obtain ⟨x1, x2, x3⟩ := v
      simp only at K1 K2 v2 w2r htt hfar HJ
      have hlo := hW.lows.1
      have hlm := hW.lows.2.1
      have A0 := hW.a.cell 0
      have A1 := hW.a.cell 1
      have A2 := hW.a.cell 2
      have Al := hW.a.lt
      have B0 := hW.b.cell 0
      have B1 := hW.b.cell 1
      have B2 := hW.b.cell 2
      have Bl := hW.b.lt
      have m0 := hW.m.cell 0
      have ml := hW.m.lt
      simp only [List.getElem?_toArray, List.getElem?_cons_zero, List.getElem?_cons_succ] at A0 A1 A2 B0 B1 B2 m0
      have hlk : (Instr.lookup 178 (.map (some mm)) (.agg #[.int .i64 a, .int .i64 b]) true).run Tryz.prog w = .ok (.tuple #[.int .i64 0, .bool false]) w := by
        obtain ⟨cnt, S, hpl, _, _⟩ := hW.pl
        have hl := hpl.look keyP Tryz.underlying178 (x := ⟨a, b⟩) ⟨(by show I64 a; unfold I64; omega), (by show I64 b; unfold I64; omega)⟩ true
        simp only [hm] at hl
        exact hl
      have KA := Lib.hid (fun (wx : World) (h : Below w.heap.size w wx) => impl_inputOf (inp := n) (root := rA) (hW.nA.keep h) (by omega) ha)
      have KB := Lib.hid (fun (wx : World) (h : Below w.heap.size w wx) => impl_inputOf (inp := n) (root := rB) (hW.nB.keep h) (by omega) hb)
      have KC := Lib.hid (fun (wx : World) (h : Below w.heap.size w wx) => impl_children (inp := n) (root := rA) (input := i) (hW.nA.keep h) (by omega) ha (fun _ => by omega))
      have KD := Lib.hid (fun (wx : World) (h : Below w.heap.size w wx) => impl_children (inp := n) (root := rB) (input := i) (hW.nB.keep h) (by omega) hb (fun _ => by omega))
      have HW := Lib.hid hW
      have HI := Lib.hid hi
      have HFAR := Lib.hid hfar
      have HRA := Lib.hid ha
      have HRB := Lib.hid hb
      have hcase : ¬ a < 2 ∨ (a < 2 ∧ ¬ b < 2) := by omega
      clear hW hi hfar hu hv hev3 hm ih ha hb h0 c1 c2 c3 c4
      rcases hcase with h1 | ⟨h1, h2⟩
      · go_enter Tryz.func137, Tryz.ntmps137
        go_wp2_with fail
        clear hlk
        refine wp_region_noPanic ?_
        refine wp_region_M (L := 7) (S := fun wx => Below w.heap.size w wx) (by kernel_rfl) ?_ (fun hHeld => ?_)
        · exact (Below.refl _ _).drew
        refine tkMB 1 ?_
        try simp only [pu]
        refine tkMB 4 ?_
        try simp only [pu]
        refine tkM0 0 (v := ?_) ?_ ?_
        rotate_left
        · (intro wv hSw; (try dsimp only at hSw); obtain ⟨hcq, _⟩ := bcell hSw; have hsq := Below.size hSw; have q0 := (hcq _ _ Al).trans A0; have q1 := (hcq _ _ Al).trans A1; have q2 := (hcq _ _ Al).trans A2; have ql := Nat.lt_of_lt_of_le Al hsq; go_simp; try with_reducible rfl)
        try simp only [pu]
        refine tkM0 3 (v := ?_) ?_ ?_
        rotate_left
        · (intro wv hSw; (try dsimp only at hSw); obtain ⟨hcq, _⟩ := bcell hSw; have hsq := Below.size hSw; have q0 := (hcq _ _ Bl).trans B0; have q1 := (hcq _ _ Bl).trans B1; have q2 := (hcq _ _ Bl).trans B2; have ql := Nat.lt_of_lt_of_le Bl hsq; go_simp; try with_reducible rfl)
        try simp only [pu]
        refine wpAnyM_ready (rs := [2]) (by kernel_rfl) (by simp) ?_
        refine AllReadyM.cons rfl (fun K hK => ?_) AllReadyM.nil
        go_simp
        refine Calls.mono (KA.out _ hHeld) ?_
        rintro e w1 ⟨rfl, hb1⟩
        have hb1' := below_callS hHeld hb1
        go_wp2_with fail
        refine hK.out _ _ hb1' (fun hHeld => ?_)
        clear hK K
        try simp only [pu]
        refine wpAnyM_ready (rs := [5]) (by kernel_rfl) (by simp) ?_
        refine AllReadyM.cons rfl (fun K hK => ?_) AllReadyM.nil
        go_simp
        refine Calls.mono (KB.out _ hb1') ?_
        rintro e w2 ⟨rfl, hb2⟩
        have hb2' := below_callS hb1' hb2
        go_wp2_with fail
        refine hK.out _ _ hb2' (fun hHeld => ?_)
        clear hK K
        try simp only [pu]
        refine wpAnyM_ready (rs := [6]) (by kernel_rfl) (by simp) ?_
        refine AllReadyM.cons rfl (fun K hK => ?_) AllReadyM.nil
        go_simp
        refine hK.out _ _ hb2' (fun hHeld => ?_)
        clear hK K
        try simp only [pu]
        rw [HI.out]
        refine wpAnyM_ready (rs := [7]) (by kernel_rfl) (by simp) ?_
        refine AllReadyM.last rfl (fun K hK => ?_)
        go_simp
        refine hK.out _ _ ?_
        clear hK K
        try simp only [pu]
        refine wpAnyM_done (by kernel_rfl) ?_ _
        refine NoPanic.normal ?_
        clear hHeld A0 A1 A2 Al B0 B1 B2 Bl m0 ml
        have J2 := Lib.hid (HW.out.keep hb2')
        have A0 := J2.out.a.cell 0
        have A1 := J2.out.a.cell 1
        have A2 := J2.out.a.cell 2
        have Al := J2.out.a.lt
        simp only [List.getElem?_toArray, List.getElem?_cons_zero, List.getElem?_cons_succ] at A0 A1 A2
        go_wp2_with fail
        refine Calls.mono (KC.out _ hb2') ?_
        rintro e w3 ⟨rfl, hb3⟩
        have hb3' := below_callS hb2' hb3
        have J3 := Lib.hid (HW.out.keep hb3')
        clear A0 A1 A2 Al J2
        have B0 := J3.out.b.cell 0
        have B1 := J3.out.b.cell 1
        have B2 := J3.out.b.cell 2
        have Bl := J3.out.b.lt
        simp only [List.getElem?_toArray, List.getElem?_cons_zero, List.getElem?_cons_succ] at B0 B1 B2
        go_wp2_with fail
        refine Calls.mono (KD.out _ hb3') ?_
        rintro e w4 ⟨rfl, hb4⟩
        have hb4' := below_callS hb3' hb4
        have J4 := Lib.hid (HW.out.keep hb4')
        have HB4 := Lib.hid (hb4'.mono hlo)
        clear B0 B1 B2 Bl J3 hb1 hb1' hb2 hb2' hb3 hb3' hb4 hb4' KA KB KC KD
        have f0 := J4.out.f.cell 0
        have fl := J4.out.f.lt
        have v0 := J4.out.v.cell 0
        have vl := J4.out.v.lt
        simp only [List.getElem?_toArray, List.getElem?_cons_zero] at f0 v0
        go_wp2_with fail
        refine wp_region_noPanic ?_
        refine wp_region_M (L := 10) (S := (fun wx => wx.cell? ⟨bF, 0, none⟩ = some (.pointer (some ⟨p, 0, none⟩)) ∧ wx.cell? ⟨bV, 0, none⟩ = some (vFun bJ bM bA bB bF bV) ∧ bF < wx.heap.size ∧ bV < wx.heap.size)) (by kernel_rfl) ?_ (fun hHeld => ?_)
        · exact ⟨f0, v0, fl, vl⟩
        clear f0 fl v0 vl
        have J5 := Lib.hid (J4.out.keep (Below.refl _ _).drew)
        refine tkM0 0 (v := ?_) ?_ ?_
        rotate_left
        · (intro wv hSw; (try dsimp only at hSw); obtain ⟨h1', h2', h3', h4'⟩ := hSw; go_simp; try with_reducible rfl)
        try simp only [pu]
        refine tkM0 1 (v := ?_) ?_ ?_
        rotate_left
        · (intro wv hSw; (try dsimp only at hSw); obtain ⟨h1', h2', h3', h4'⟩ := hSw; go_simp; try with_reducible rfl)
        try simp only [pu]
        refine tkM0 2 (v := ?_) ?_ ?_
        rotate_left
        · (intro wv hSw; (try dsimp only at hSw); obtain ⟨h1', h2', h3', h4'⟩ := hSw; go_simp; try with_reducible rfl)
        try simp only [pu]
        refine tkM0 3 (v := ?_) ?_ ?_
        rotate_left
        · (intro wv hSw; (try dsimp only at hSw); obtain ⟨h1', h2', h3', h4'⟩ := hSw; go_simp; try with_reducible rfl)
        try simp only [pu]
        refine tkM0 4 (v := ?_) ?_ ?_
        rotate_left
        · (intro wv hSw; (try dsimp only at hSw); obtain ⟨h1', h2', h3', h4'⟩ := hSw; go_simp; try with_reducible rfl)
        try simp only [pu]
        refine tkM0 6 (v := ?_) ?_ ?_
        rotate_left
        · (intro wv hSw; (try dsimp only at hSw); obtain ⟨h1', h2', h3', h4'⟩ := hSw; go_simp; try with_reducible rfl)
        try simp only [pu]
        refine tkM0 7 (v := ?_) ?_ ?_
        rotate_left
        · (intro wv hSw; (try dsimp only at hSw); obtain ⟨h1', h2', h3', h4'⟩ := hSw; go_simp; try with_reducible rfl)
        try simp only [pu]
        refine tkM0 8 (v := ?_) ?_ ?_
        rotate_left
        · (intro wv hSw; (try dsimp only at hSw); obtain ⟨h1', h2', h3', h4'⟩ := hSw; go_simp; try with_reducible rfl)
        try simp only [pu]
        refine wpAnyM_ready (rs := [5]) (by kernel_rfl) (by simp) ?_
        refine AllReadyM.cons rfl (fun K hK => ?_) AllReadyM.nil
        go_simp
        refine Calls.mono (K1.out _ J5.out) ?_
        rintro e w5 ⟨rfl, hJ6, hb6⟩
        have J6 := Lib.hid hJ6
        have HB6 := Lib.hid (HB4.out.drew.trans hb6)
        clear hJ6 hb6 J5 J4
        go_wp2_with fail
        refine hK.out _ _ ⟨J6.out.f.cell 0, J6.out.v.cell 0, J6.out.f.lt, J6.out.v.lt⟩ (fun hHeld => ?_)
        clear hK K
        try simp only [pu]
        refine wpAnyM_ready (rs := [9]) (by kernel_rfl) (by simp) ?_
        refine AllReadyM.cons rfl (fun K hK => ?_) AllReadyM.nil
        go_simp
        refine Calls.mono (K2.out _ J6.out) ?_
        rintro e w6 ⟨rfl, hJ7, hb7⟩
        have J7 := Lib.hid hJ7
        have HB7 := Lib.hid (HB6.out.trans hb7)
        clear hJ7 hb7 J6 HB6 HB4
        go_wp2_with fail
        refine hK.out _ _ ⟨J7.out.f.cell 0, J7.out.v.cell 0, J7.out.f.lt, J7.out.v.lt⟩ (fun hHeld => ?_)
        clear hK K
        try simp only [pu]
        obtain ⟨na, nc, mn, hfor⟩ := J7.out.fo
        obtain ⟨cnt, S, hpl, hkk, hcs⟩ := J7.out.pl
        obtain ⟨hmost, hmost2⟩ := hkk.most hA2 hB2
        have v1' := v2.1
        have v2' := v2.2
        have w1' := w2r.1
        have w2' := w2r.2
        have hxl : u1.length ≤ x1.length := by rw [htt, List.length_append]; omega
        obtain ⟨hl7, hlm7, hmb7⟩ := J7.out.lows
        have hAdd := JnK.add hkk HRA.out HRB.out HFAR.out (i := i) (lo := u3) (hi := x3) (v := (mkN x1 i u3 x3).2)
        have hrv := mkN_rf (L := x1) (i := i) (lo := u3) (hi := x3) ⟨v1', by omega⟩
        obtain ⟨t9, ht9, ht91⟩ := mkN_pre x1 i u3 x3
        have hln : (mkN x1 i u3 x3).1.length ≤ 4008005 := by rw [ht9, List.length_append]; omega
        have hri : I64 (mkN x1 i u3 x3).2 := by have h1 := hrv.1; have h2 := hrv.2; unfold I64; omega
        refine wpAnyM_ready (rs := [10]) (by kernel_rfl) (by simp) ?_
        refine AllReadyM.last rfl (fun K hK => ?_)
        go_simp
        refine Calls.mono (impl_node hfor (by omega) (by unfold I64; omega) (by unfold I64; omega) (by unfold I64; omega) hl7) ?_
        rintro e w7 ⟨rfl, ⟨na7, nc7, mn7, hF8⟩, hf8⟩
        have hpm : p ≠ mm := blk_map_ne hfor.blk hpl.isMap
        have jx8 := Lib.hid (J7.out.jx.frf hf8 (blk_typ_ne J7.out.jx hfor.blk (by decide)) (by decide) (blk_map_ne J7.out.jx hfor.map.isMap))
        have m8 := Lib.hid (J7.out.m.frf hf8 (blk_typ_ne J7.out.m hfor.blk (by decide)) (by decide) (blk_map_ne J7.out.m hfor.map.isMap))
        have a8 := Lib.hid (J7.out.a.frf hf8 (blk_typ_ne J7.out.a hfor.blk (by decide)) (by decide) (blk_map_ne J7.out.a hfor.map.isMap))
        have b8 := Lib.hid (J7.out.b.frf hf8 (blk_typ_ne J7.out.b hfor.blk (by decide)) (by decide) (blk_map_ne J7.out.b hfor.map.isMap))
        have f8 := Lib.hid (J7.out.f.frf hf8 (blk_typ_ne J7.out.f hfor.blk (by decide)) (by decide) (blk_map_ne J7.out.f hfor.map.isMap))
        have v8 := Lib.hid (J7.out.v.frf hf8 (blk_typ_ne J7.out.v hfor.blk (by decide)) (by decide) (blk_map_ne J7.out.v hfor.map.isMap))
        have hb8 := hf8.below (Below.refl lo w6) hl7 (Nat.le_refl _) hfor.lop hfor.lom
        have nA8 := Lib.hid (J7.out.nA.keepB hb8 J7.out.lA)
        have nB8 := Lib.hid (J7.out.nB.keepB hb8 J7.out.lB)
        have pl8 := Lib.hid (hpl.at (hf8.block mm hpl.lt (fun e => hpm e.symm) hmb7 (.inr (fun cs l he => by
          obtain ⟨es, cl, hm⟩ := hpl.isMap
          rw [hm] at he
          cases he))))
        have HB8 := Lib.hid (HB7.out.trans hb8)
        have F8 := Lib.hid hF8
        have hs8 := hf8.size
        have HLA := Lib.hid J7.out.lA
        have HLB := Lib.hid J7.out.lB
        have HADD := Lib.hid hAdd
        clear hf8 hF8 hb8 J7 HB7 hfor hpl hkk hAdd hHeld ht9 htt
        go_wp2_with fail
        refine hK.out _ _ ?_
        clear hK K
        try simp only [pu]
        refine wpAnyM_ready (rs := [11]) (by kernel_rfl) (by simp) ?_
        refine AllReadyM.then (by kernel_rfl) rfl (fun K hK => ?_)
        go_simp
        refine hK.out _ _ ?_
        clear hK K
        try simp only [pu]
        refine wpAnyM_done (by kernel_rfl) ?_ _
        refine NoPanic.normal ?_
        have m0 := m8.out.cell 0
        have ml := m8.out.lt
        simp only [List.getElem?_toArray, List.getElem?_cons_zero] at m0
        go_wp2_with ((with_reducible show wpList _ _ _ (Oper.mk _ (Op.mapUpdate _ _ _ _) _ _ _ _ :: _) _ _); refine MapA.updL pl8.out keyP Tryz.underlying178 (by unfold maxLen; omega) (x := ⟨a, b⟩) ⟨(by show I64 a; unfold I64; omega), (by show I64 b; unfold I64; omega)⟩ (v := (mkN x1 i u3 x3).2) hri rfl _ _ _ rfl rfl rfl rfl ?_; intro w9 hm9 hg9; have PL9 := Lib.hid hm9; have HG9 := Lib.hid hg9; clear hm9 hg9)
        go_ret
        have hg := HG9.out
        have hb9 : Below lo w7 w9 := (Below.refl _ _).grown hg (by omega) (fun q hq => by cases hq; exact hlm7)
        have hmap := pl8.out.isMap
        refine ⟨by rw [HJ.out]; rfl, ?_, HB8.out.trans hb9⟩
        have hev := HEV.out
        rw [HJ.out] at hev ⊢
        refine ⟨jx8.out.keepN hg (fun e => blk_map_ne jx8.out hmap e.symm), m8.out.keepN hg (fun e => blk_map_ne m8.out hmap e.symm), ⟨cnt + 1, _, PL9.out.congr (fun y _ => ?_), HADD.out, by simp; omega⟩, a8.out.keepN hg (fun e => blk_map_ne a8.out hmap e.symm), b8.out.keepN hg (fun e => blk_map_ne b8.out hmap e.symm), f8.out.keepN hg (fun e => blk_map_ne f8.out hmap e.symm), ⟨na7, nc7, mn7, F8.out.blk.keepN hg (fun e => blk_map_ne F8.out.blk hmap e.symm), F8.out.own.keepG hg (fun g e e' => ?_), F8.out.map.keepG hg (fun e => hmb7 (Option.some.inj e)), F8.out.few, F8.out.lop, F8.out.lom⟩, v8.out.keepN hg (fun e => blk_map_ne v8.out hmap e.symm), nA8.out.keepB hb9 HLA.out, nB8.out.keepB hb9 HLB.out, hev, ⟨by have := hb9.size; omega, hlm7, hmb7⟩, HLA.out, HLB.out⟩
        · simp only
          by_cases hy : y = ⟨a, b⟩
          · rw [if_pos hy, hy, if_pos ⟨rfl, rfl⟩]
          · rw [if_neg hy, if_neg (fun h => hy (by cases y; obtain ⟨e1, e2⟩ := h; simp only at e1 e2; rw [e1, e2]))]
        · simp only [Option.some.injEq] at e'
          obtain ⟨cur, hc⟩ := F8.out.own.typN e
          obtain ⟨es, cl, hm⟩ := hmap
          rw [← e', hm] at hc
          cases hc
      · go_enter Tryz.func137, Tryz.ntmps137
        go_wp2_with fail
        clear hlk
        refine wp_region_noPanic ?_
        refine wp_region_M (L := 7) (S := fun wx => Below w.heap.size w wx) (by kernel_rfl) ?_ (fun hHeld => ?_)
        · exact (Below.refl _ _).drew
        refine tkMB 1 ?_
        try simp only [pu]
        refine tkMB 4 ?_
        try simp only [pu]
        refine tkM0 0 (v := ?_) ?_ ?_
        rotate_left
        · (intro wv hSw; (try dsimp only at hSw); obtain ⟨hcq, _⟩ := bcell hSw; have hsq := Below.size hSw; have q0 := (hcq _ _ Al).trans A0; have q1 := (hcq _ _ Al).trans A1; have q2 := (hcq _ _ Al).trans A2; have ql := Nat.lt_of_lt_of_le Al hsq; go_simp; try with_reducible rfl)
        try simp only [pu]
        refine tkM0 3 (v := ?_) ?_ ?_
        rotate_left
        · (intro wv hSw; (try dsimp only at hSw); obtain ⟨hcq, _⟩ := bcell hSw; have hsq := Below.size hSw; have q0 := (hcq _ _ Bl).trans B0; have q1 := (hcq _ _ Bl).trans B1; have q2 := (hcq _ _ Bl).trans B2; have ql := Nat.lt_of_lt_of_le Bl hsq; go_simp; try with_reducible rfl)
        try simp only [pu]
        refine wpAnyM_ready (rs := [2]) (by kernel_rfl) (by simp) ?_
        refine AllReadyM.cons rfl (fun K hK => ?_) AllReadyM.nil
        go_simp
        refine Calls.mono (KA.out _ hHeld) ?_
        rintro e w1 ⟨rfl, hb1⟩
        have hb1' := below_callS hHeld hb1
        go_wp2_with fail
        refine hK.out _ _ hb1' (fun hHeld => ?_)
        clear hK K
        try simp only [pu]
        refine wpAnyM_ready (rs := [5]) (by kernel_rfl) (by simp) ?_
        refine AllReadyM.cons rfl (fun K hK => ?_) AllReadyM.nil
        go_simp
        refine Calls.mono (KB.out _ hb1') ?_
        rintro e w2 ⟨rfl, hb2⟩
        have hb2' := below_callS hb1' hb2
        go_wp2_with fail
        refine hK.out _ _ hb2' (fun hHeld => ?_)
        clear hK K
        try simp only [pu]
        refine wpAnyM_ready (rs := [6]) (by kernel_rfl) (by simp) ?_
        refine AllReadyM.cons rfl (fun K hK => ?_) AllReadyM.nil
        go_simp
        refine hK.out _ _ hb2' (fun hHeld => ?_)
        clear hK K
        try simp only [pu]
        rw [HI.out]
        refine wpAnyM_ready (rs := [7]) (by kernel_rfl) (by simp) ?_
        refine AllReadyM.last rfl (fun K hK => ?_)
        go_simp
        refine hK.out _ _ ?_
        clear hK K
        try simp only [pu]
        refine wpAnyM_done (by kernel_rfl) ?_ _
        refine NoPanic.normal ?_
        clear hHeld A0 A1 A2 Al B0 B1 B2 Bl m0 ml
        have J2 := Lib.hid (HW.out.keep hb2')
        have A0 := J2.out.a.cell 0
        have A1 := J2.out.a.cell 1
        have A2 := J2.out.a.cell 2
        have Al := J2.out.a.lt
        simp only [List.getElem?_toArray, List.getElem?_cons_zero, List.getElem?_cons_succ] at A0 A1 A2
        go_wp2_with fail
        refine Calls.mono (KC.out _ hb2') ?_
        rintro e w3 ⟨rfl, hb3⟩
        have hb3' := below_callS hb2' hb3
        have J3 := Lib.hid (HW.out.keep hb3')
        clear A0 A1 A2 Al J2
        have B0 := J3.out.b.cell 0
        have B1 := J3.out.b.cell 1
        have B2 := J3.out.b.cell 2
        have Bl := J3.out.b.lt
        simp only [List.getElem?_toArray, List.getElem?_cons_zero, List.getElem?_cons_succ] at B0 B1 B2
        go_wp2_with fail
        refine Calls.mono (KD.out _ hb3') ?_
        rintro e w4 ⟨rfl, hb4⟩
        have hb4' := below_callS hb3' hb4
        have J4 := Lib.hid (HW.out.keep hb4')
        have HB4 := Lib.hid (hb4'.mono hlo)
        clear B0 B1 B2 Bl J3 hb1 hb1' hb2 hb2' hb3 hb3' hb4 hb4' KA KB KC KD
        have f0 := J4.out.f.cell 0
        have fl := J4.out.f.lt
        have v0 := J4.out.v.cell 0
        have vl := J4.out.v.lt
        simp only [List.getElem?_toArray, List.getElem?_cons_zero] at f0 v0
        go_wp2_with fail
        refine wp_region_noPanic ?_
        refine wp_region_M (L := 10) (S := (fun wx => wx.cell? ⟨bF, 0, none⟩ = some (.pointer (some ⟨p, 0, none⟩)) ∧ wx.cell? ⟨bV, 0, none⟩ = some (vFun bJ bM bA bB bF bV) ∧ bF < wx.heap.size ∧ bV < wx.heap.size)) (by kernel_rfl) ?_ (fun hHeld => ?_)
        · exact ⟨f0, v0, fl, vl⟩
        clear f0 fl v0 vl
        have J5 := Lib.hid (J4.out.keep (Below.refl _ _).drew)
        refine tkM0 0 (v := ?_) ?_ ?_
        rotate_left
        · (intro wv hSw; (try dsimp only at hSw); obtain ⟨h1', h2', h3', h4'⟩ := hSw; go_simp; try with_reducible rfl)
        try simp only [pu]
        refine tkM0 1 (v := ?_) ?_ ?_
        rotate_left
        · (intro wv hSw; (try dsimp only at hSw); obtain ⟨h1', h2', h3', h4'⟩ := hSw; go_simp; try with_reducible rfl)
        try simp only [pu]
        refine tkM0 2 (v := ?_) ?_ ?_
        rotate_left
        · (intro wv hSw; (try dsimp only at hSw); obtain ⟨h1', h2', h3', h4'⟩ := hSw; go_simp; try with_reducible rfl)
        try simp only [pu]
        refine tkM0 3 (v := ?_) ?_ ?_
        rotate_left
        · (intro wv hSw; (try dsimp only at hSw); obtain ⟨h1', h2', h3', h4'⟩ := hSw; go_simp; try with_reducible rfl)
        try simp only [pu]
        refine tkM0 4 (v := ?_) ?_ ?_
        rotate_left
        · (intro wv hSw; (try dsimp only at hSw); obtain ⟨h1', h2', h3', h4'⟩ := hSw; go_simp; try with_reducible rfl)
        try simp only [pu]
        refine tkM0 6 (v := ?_) ?_ ?_
        rotate_left
        · (intro wv hSw; (try dsimp only at hSw); obtain ⟨h1', h2', h3', h4'⟩ := hSw; go_simp; try with_reducible rfl)
        try simp only [pu]
        refine tkM0 7 (v := ?_) ?_ ?_
        rotate_left
        · (intro wv hSw; (try dsimp only at hSw); obtain ⟨h1', h2', h3', h4'⟩ := hSw; go_simp; try with_reducible rfl)
        try simp only [pu]
        refine tkM0 8 (v := ?_) ?_ ?_
        rotate_left
        · (intro wv hSw; (try dsimp only at hSw); obtain ⟨h1', h2', h3', h4'⟩ := hSw; go_simp; try with_reducible rfl)
        try simp only [pu]
        refine wpAnyM_ready (rs := [5]) (by kernel_rfl) (by simp) ?_
        refine AllReadyM.cons rfl (fun K hK => ?_) AllReadyM.nil
        go_simp
        refine Calls.mono (K1.out _ J5.out) ?_
        rintro e w5 ⟨rfl, hJ6, hb6⟩
        have J6 := Lib.hid hJ6
        have HB6 := Lib.hid (HB4.out.drew.trans hb6)
        clear hJ6 hb6 J5 J4
        go_wp2_with fail
        refine hK.out _ _ ⟨J6.out.f.cell 0, J6.out.v.cell 0, J6.out.f.lt, J6.out.v.lt⟩ (fun hHeld => ?_)
        clear hK K
        try simp only [pu]
        refine wpAnyM_ready (rs := [9]) (by kernel_rfl) (by simp) ?_
        refine AllReadyM.cons rfl (fun K hK => ?_) AllReadyM.nil
        go_simp
        refine Calls.mono (K2.out _ J6.out) ?_
        rintro e w6 ⟨rfl, hJ7, hb7⟩
        have J7 := Lib.hid hJ7
        have HB7 := Lib.hid (HB6.out.trans hb7)
        clear hJ7 hb7 J6 HB6 HB4
        go_wp2_with fail
        refine hK.out _ _ ⟨J7.out.f.cell 0, J7.out.v.cell 0, J7.out.f.lt, J7.out.v.lt⟩ (fun hHeld => ?_)
        clear hK K
        try simp only [pu]
        obtain ⟨na, nc, mn, hfor⟩ := J7.out.fo
        obtain ⟨cnt, S, hpl, hkk, hcs⟩ := J7.out.pl
        obtain ⟨hmost, hmost2⟩ := hkk.most hA2 hB2
        have v1' := v2.1
        have v2' := v2.2
        have w1' := w2r.1
        have w2' := w2r.2
        have hxl : u1.length ≤ x1.length := by rw [htt, List.length_append]; omega
        obtain ⟨hl7, hlm7, hmb7⟩ := J7.out.lows
        have hAdd := JnK.add hkk HRA.out HRB.out HFAR.out (i := i) (lo := u3) (hi := x3) (v := (mkN x1 i u3 x3).2)
        have hrv := mkN_rf (L := x1) (i := i) (lo := u3) (hi := x3) ⟨v1', by omega⟩
        obtain ⟨t9, ht9, ht91⟩ := mkN_pre x1 i u3 x3
        have hln : (mkN x1 i u3 x3).1.length ≤ 4008005 := by rw [ht9, List.length_append]; omega
        have hri : I64 (mkN x1 i u3 x3).2 := by have h1 := hrv.1; have h2 := hrv.2; unfold I64; omega
        refine wpAnyM_ready (rs := [10]) (by kernel_rfl) (by simp) ?_
        refine AllReadyM.last rfl (fun K hK => ?_)
        go_simp
        refine Calls.mono (impl_node hfor (by omega) (by unfold I64; omega) (by unfold I64; omega) (by unfold I64; omega) hl7) ?_
        rintro e w7 ⟨rfl, ⟨na7, nc7, mn7, hF8⟩, hf8⟩
        have hpm : p ≠ mm := blk_map_ne hfor.blk hpl.isMap
        have jx8 := Lib.hid (J7.out.jx.frf hf8 (blk_typ_ne J7.out.jx hfor.blk (by decide)) (by decide) (blk_map_ne J7.out.jx hfor.map.isMap))
        have m8 := Lib.hid (J7.out.m.frf hf8 (blk_typ_ne J7.out.m hfor.blk (by decide)) (by decide) (blk_map_ne J7.out.m hfor.map.isMap))
        have a8 := Lib.hid (J7.out.a.frf hf8 (blk_typ_ne J7.out.a hfor.blk (by decide)) (by decide) (blk_map_ne J7.out.a hfor.map.isMap))
        have b8 := Lib.hid (J7.out.b.frf hf8 (blk_typ_ne J7.out.b hfor.blk (by decide)) (by decide) (blk_map_ne J7.out.b hfor.map.isMap))
        have f8 := Lib.hid (J7.out.f.frf hf8 (blk_typ_ne J7.out.f hfor.blk (by decide)) (by decide) (blk_map_ne J7.out.f hfor.map.isMap))
        have v8 := Lib.hid (J7.out.v.frf hf8 (blk_typ_ne J7.out.v hfor.blk (by decide)) (by decide) (blk_map_ne J7.out.v hfor.map.isMap))
        have hb8 := hf8.below (Below.refl lo w6) hl7 (Nat.le_refl _) hfor.lop hfor.lom
        have nA8 := Lib.hid (J7.out.nA.keepB hb8 J7.out.lA)
        have nB8 := Lib.hid (J7.out.nB.keepB hb8 J7.out.lB)
        have pl8 := Lib.hid (hpl.at (hf8.block mm hpl.lt (fun e => hpm e.symm) hmb7 (.inr (fun cs l he => by
          obtain ⟨es, cl, hm⟩ := hpl.isMap
          rw [hm] at he
          cases he))))
        have HB8 := Lib.hid (HB7.out.trans hb8)
        have F8 := Lib.hid hF8
        have hs8 := hf8.size
        have HLA := Lib.hid J7.out.lA
        have HLB := Lib.hid J7.out.lB
        have HADD := Lib.hid hAdd
        clear hf8 hF8 hb8 J7 HB7 hfor hpl hkk hAdd hHeld ht9 htt
        go_wp2_with fail
        refine hK.out _ _ ?_
        clear hK K
        try simp only [pu]
        refine wpAnyM_ready (rs := [11]) (by kernel_rfl) (by simp) ?_
        refine AllReadyM.then (by kernel_rfl) rfl (fun K hK => ?_)
        go_simp
        refine hK.out _ _ ?_
        clear hK K
        try simp only [pu]
        refine wpAnyM_done (by kernel_rfl) ?_ _
        refine NoPanic.normal ?_
        have m0 := m8.out.cell 0
        have ml := m8.out.lt
        simp only [List.getElem?_toArray, List.getElem?_cons_zero] at m0
        go_wp2_with ((with_reducible show wpList _ _ _ (Oper.mk _ (Op.mapUpdate _ _ _ _) _ _ _ _ :: _) _ _); refine MapA.updL pl8.out keyP Tryz.underlying178 (by unfold maxLen; omega) (x := ⟨a, b⟩) ⟨(by show I64 a; unfold I64; omega), (by show I64 b; unfold I64; omega)⟩ (v := (mkN x1 i u3 x3).2) hri rfl _ _ _ rfl rfl rfl rfl ?_; intro w9 hm9 hg9; have PL9 := Lib.hid hm9; have HG9 := Lib.hid hg9; clear hm9 hg9)
        go_ret
        have hg := HG9.out
        have hb9 : Below lo w7 w9 := (Below.refl _ _).grown hg (by omega) (fun q hq => by cases hq; exact hlm7)
        have hmap := pl8.out.isMap
        refine ⟨by rw [HJ.out]; rfl, ?_, HB8.out.trans hb9⟩
        have hev := HEV.out
        rw [HJ.out] at hev ⊢
        refine ⟨jx8.out.keepN hg (fun e => blk_map_ne jx8.out hmap e.symm), m8.out.keepN hg (fun e => blk_map_ne m8.out hmap e.symm), ⟨cnt + 1, _, PL9.out.congr (fun y _ => ?_), HADD.out, by simp; omega⟩, a8.out.keepN hg (fun e => blk_map_ne a8.out hmap e.symm), b8.out.keepN hg (fun e => blk_map_ne b8.out hmap e.symm), f8.out.keepN hg (fun e => blk_map_ne f8.out hmap e.symm), ⟨na7, nc7, mn7, F8.out.blk.keepN hg (fun e => blk_map_ne F8.out.blk hmap e.symm), F8.out.own.keepG hg (fun g e e' => ?_), F8.out.map.keepG hg (fun e => hmb7 (Option.some.inj e)), F8.out.few, F8.out.lop, F8.out.lom⟩, v8.out.keepN hg (fun e => blk_map_ne v8.out hmap e.symm), nA8.out.keepB hb9 HLA.out, nB8.out.keepB hb9 HLB.out, hev, ⟨by have := hb9.size; omega, hlm7, hmb7⟩, HLA.out, HLB.out⟩
        · simp only
          by_cases hy : y = ⟨a, b⟩
          · rw [if_pos hy, hy, if_pos ⟨rfl, rfl⟩]
          · rw [if_neg hy, if_neg (fun h => hy (by cases y; obtain ⟨e1, e2⟩ := h; simp only at e1 e2; rw [e1, e2]))]
        · simp only [Option.some.injEq] at e'
          obtain ⟨cur, hc⟩ := F8.out.own.typN e
          obtain ⟨es, cl, hm⟩ := hmap
          rw [← e', hm] at hc
          cases hc
end Go.Proofs.YtkaikbaagajckaaGreat
namespace Go.Proofs.YtkaikbaagajckaaGreat
open Go.RowKit
set_option linter.unusedVariables false
set_option linter.unusedSimpArgs false
attribute [local go_sem ↓] Go.wp_at_zero Go.wp_at_succ
/-- the join: nodes, and the root's reference -/
def jnN (j n : Int) (A B : List I3) (rA rB : Int) : List I3 × Int := ((jnF j n A B (rA.toNat + rB.toNat) ([], fun _ _ => none) rA rB).1, (jnF j n A B (rA.toNat + rB.toNat) ([], fun _ _ => none) rA rB).2.2)
theorem jnN_inv {j n : Int} {A B : List I3} {rA rB : Int} (hA : Snd n A) (hB : Snd n B) (n0 : 0 ≤ n) (ha : RefB rA A.length) (hb : RefB rB B.length) (hA2 : A.length ≤ 2000) (hB2 : B.length ≤ 2000) :
    Snd n (jnN j n A B rA rB).1 ∧ RefB (jnN j n A B rA rB).2 (jnN j n A B rA rB).1.length ∧ (jnN j n A B rA rB).1.length ≤ 4008004 ∧ ∀ β, evR (jnN j n A B rA rB).1 β (jnN j n A B rA rB).2 = bopN j (evR A β rA) (evR B β rB) := by
  obtain ⟨h1, h2, _, h3, _⟩ := jn_ev (j := j) hA.redu.frst hB.redu.frst hA.ord hB.ord n0 (rA.toNat + rB.toNat) [] (fun _ _ => none) rA rB ha hb (Nat.le_refl _) (JnI.start j n A B)
  obtain ⟨⟨S, h4⟩, _⟩ := jn_cnt (j := j) hA.redu.frst hB.redu.frst hA.ord hB.ord (rA.toNat + rB.toNat) [] (fun _ _ => none) [] rA rB ha hb (Nat.le_refl _) (JnK.start A B)
  exact ⟨h1.snd, h2, (h4.most hA2 hB2).2, h3⟩
set_option maxRecDepth 100000 in
set_option maxHeartbeats 4000000 in
theorem impl_joinAll {aA aB : Option Addr} {cA cB : Nat} {A B : List I3} {j n rA rB : Int} {w : World} (hIA : F3 w aA A.length cA A) (hIB : F3 w aB B.length cB B) (hA : Snd n A) (hB : Snd n B) (n0 : 0 ≤ n) (n20 : n ≤ 20) (ha : RefB rA A.length) (hb : RefB rB B.length) (hA2 : A.length ≤ 2000) (hB2 : B.length ≤ 2000) :
    Calls Tryz.prog 73 #[.int .i64 j, .agg #[.int .i64 n, .slice aA A.length cA, .int .i64 rA], .agg #[.int .i64 n, .slice aB B.length cB, .int .i64 rB]] w fun e w' => ∃ lo p mb na nc mn, e = .returned (.tuple #[.pointer (some ⟨p, 0, none⟩), .int .i64 (jnN j n A B rA rB).2]) ∧ ForA w' lo p mb n na nc mn (jnN j n A B rA rB).1 ∧ w.heap.size ≤ lo ∧ Below w.heap.size w w' := by
  obtain ⟨w0, hw0⟩ : ∃ w0, w0 = ((w.alloc (.cells #[.int .i64 j] 2)).alloc (.cells #[.int .i64 n, .slice aA A.length cA, .int .i64 rA] 40)).alloc (.cells #[.int .i64 n, .slice aB B.length cB, .int .i64 rB] 40) := ⟨_, rfl⟩
  have hb0 : Below w.heap.size w w0 := by rw [hw0]; exact below_alloc1 (below_alloc1 (below_alloc1 (Below.refl _ _) _) _) _
  have J0 := Lib.hid (show Blk w0 w.heap.size #[.int .i64 j] 2 by rw [hw0]; exact (Blk.made _ _ _).keep (below_alloc1 (below_alloc1 (Below.refl _ _) _) _))
  have A0 := Lib.hid (show Blk w0 (w.heap.size + 1) #[.int .i64 n, .slice aA A.length cA, .int .i64 rA] 40 by rw [hw0]; exact (Blk.made1 _ _ _ _).keep (below_alloc1 (Below.refl _ _) _))
  have B0 := Lib.hid (show Blk w0 (w.heap.size + 1 + 1) #[.int .i64 n, .slice aB B.length cB, .int .i64 rB] 40 by rw [hw0]; exact Blk.made2 _ _ _ _ _)
  have hs0 : w0.heap.size = w.heap.size + 1 + 1 + 1 := by rw [hw0]; simp
  have HIA := Lib.hid hIA
  have HIB := Lib.hid hIB
  have HA := Lib.hid hA
  have HB := Lib.hid hB
  have HRA := Lib.hid ha
  have HRB := Lib.hid hb
  have hmm := @run_makeMap Tryz.prog
  have hlA : A.length = 0 ∨ ∀ g off, aA = some ⟨g, off, none⟩ → g < w.heap.size := hIA.lies
  have hlB : B.length = 0 ∨ ∀ g off, aB = some ⟨g, off, none⟩ → g < w.heap.size := hIB.lies
  have HLA := Lib.hid hlA
  have HLB := Lib.hid hlB
  have HB0 := Lib.hid hb0
  clear hIA hIB hA hB ha hb hlA hlB hb0
  go_enter Tryz.func73, Tryz.ntmps73
  go_wp2_with fail
  rw [← hw0]
  clear hw0
  refine Calls.mono impl_newForest ?_
  rintro e w1 ⟨p, mb, rfl, hFor, hb1, hp1⟩
  obtain ⟨lo, hlo⟩ : ∃ lo, lo = w0.heap.size := ⟨_, rfl⟩
  rw [← hlo] at hFor
  have hs1 := hb1.size
  obtain ⟨WF, hWF⟩ : ∃ W, W = w1.alloc (.cells #[.pointer (some ⟨p, 0, none⟩)] 101) := ⟨_, rfl⟩
  obtain ⟨WM, hWM⟩ : ∃ W, W = WF.alloc (.map #[] 0) := ⟨_, rfl⟩
  obtain ⟨WB, hWB⟩ : ∃ W, W = WM.alloc (.cells #[.map (some (w1.heap.size + 1))] 178) := ⟨_, rfl⟩
  obtain ⟨WV, hWV⟩ : ∃ W, W = WB.alloc (.cells #[vFun w.heap.size (w1.heap.size + 1 + 1) (w.heap.size + 1) (w.heap.size + 1 + 1) w1.heap.size (w1.heap.size + 1 + 1 + 1)] 179) := ⟨_, rfl⟩
  have hsF : WF.heap.size = w1.heap.size + 1 := by rw [hWF]; simp
  have hsM : WM.heap.size = w1.heap.size + 1 + 1 := by rw [hWM]; simp [hsF]
  have hsB : WB.heap.size = w1.heap.size + 1 + 1 + 1 := by rw [hWB]; simp [hsM]
  have hbF : Below w1.heap.size w1 WF := by rw [hWF]; exact below_alloc1 (Below.refl _ _) _
  have hbM : Below WF.heap.size WF WM := by rw [hWM]; exact below_alloc1 (Below.refl _ _) _
  have hbB : Below WM.heap.size WM WB := by rw [hWB]; exact below_alloc1 (Below.refl _ _) _
  have hbV : Below WB.heap.size WB WV := by rw [hWV]; exact below_alloc1 (Below.refl _ _) _
  have hbMB := below_callS hbM hbB
  have hbMV := below_callS hbMB hbV
  have hbBV := below_callS hbB hbV
  have hbFV := below_callS hbF hbMV
  have hb1V := below_callS hb1 hbFV
  have hbwV := below_callS HB0.out hb1V
  have Fb := (show Blk WF w1.heap.size #[.pointer (some ⟨p, 0, none⟩)] 101 by rw [hWF]; exact Blk.made _ _ _)
  have Mp := (show MapA 182 I2.ok litK2 WM (w1.heap.size + 1) 0 (fun _ => none) by rw [hWM, ← hsF]; exact MapA.made WF)
  have Mb := (show Blk WB (w1.heap.size + 1 + 1) #[.map (some (w1.heap.size + 1))] 178 by rw [hWB, ← hsM]; exact Blk.made _ _ _)
  have Vb := (show Blk WV (w1.heap.size + 1 + 1 + 1) #[vFun w.heap.size (w1.heap.size + 1 + 1) (w.heap.size + 1) (w.heap.size + 1 + 1) w1.heap.size (w1.heap.size + 1 + 1 + 1)] 179 by rw [hWV, ← hsB]; exact Blk.made _ _ _)
  have hmbne : w1.heap.size + 1 ≠ mb := by have := hFor.map.lt; omega
  have JW := Lib.hid (show JnW WV lo w.heap.size (w1.heap.size + 1 + 1) (w1.heap.size + 1) (w.heap.size + 1) (w.heap.size + 1 + 1) w1.heap.size p mb (w1.heap.size + 1 + 1 + 1) j n aA aB cA cB A B rA rB [] (fun _ _ => none) from
    ⟨(J0.out.keep hb1).keep hbFV, Mb.keep hbV, ⟨0, [], Mp.keep hbBV, JnK.start A B, Nat.le_refl _⟩, (A0.out.keep hb1).keep hbFV, (B0.out.keep hb1).keep hbFV, Fb.keep hbMV, ⟨_, _, _, hFor.keep hbFV⟩, Vb, HIA.out.keep hbwV, HIB.out.keep hbwV, JnI.start j n A B, ⟨by have := hb1V.size; omega, by omega, hmbne⟩, HLA.out.imp id (fun h g off e => by have := h g off e; omega), HLB.out.imp id (fun h g off e => by have := h g off e; omega)⟩)
  have hsV := hbFV.size
  have HBV := Lib.hid hbwV
  have hlow : w.heap.size ≤ lo := by omega
  have J1 := A0.out.keep hb1
  have a0 := J1.cell 0
  have xl := J1.lt
  simp only [List.getElem?_toArray, List.getElem?_cons_zero, List.getElem?_cons_succ] at a0
  clear hFor hb1 hbF hbM hbB hbV hbMB hbMV hbBV hbFV hb1V hbwV Fb Mp Mb Vb J0 A0 B0 J1 hmbne hp1
  subst hWV hWB hWM hWF
  have x2 := JW.out.a.cell 2
  have y2 := JW.out.b.cell 2
  simp only [List.getElem?_toArray, List.getElem?_cons_zero, List.getElem?_cons_succ] at x2 y2
  go_wp2_with fail
  refine Calls.mono (impl_joinVisit HA.out HB.out n0 n20 hA2 hB2 (rA.toNat + rB.toNat) rA rB [] (fun _ _ => none) _ JW.out HRA.out HRB.out (Nat.le_refl _)) ?_
  rintro e w5 ⟨rfl, hJ5, hb5⟩
  have J5 := Lib.hid hJ5
  have HB5 := Lib.hid (HBV.out.trans (hb5.mono hlow))
  clear hJ5 hb5 JW HBV x2 y2 a0 xl
  have f0 := J5.out.f.cell 0
  have fl := J5.out.f.lt
  simp only [List.getElem?_toArray, List.getElem?_cons_zero] at f0
  go_wp2
  go_ret2
  obtain ⟨na, nc, mn, hf⟩ := J5.out.fo
  exact ⟨lo, p, mb, na, nc, mn, by first | rfl | simp [jnN], hf, hlow, HB5.out⟩
end Go.Proofs.YtkaikbaagajckaaGreat
namespace Go.Proofs.YtkaikbaagajckaaGreat
open Go.RowKit
set_option linter.unusedVariables false
set_option linter.unusedSimpArgs false
theorem ts_inv {sz : List Int} {g : List I2b} (hs : allIn 1 32 sz = true) : Snd (offN sz sz.length : Int) (tsN sz g).1 ∧ RefB (tsN sz g).2 (tsN sz g).1.length := by
  obtain ⟨i1, i2, _, _, _⟩ := td_inv (g := g) hs sz.length (Nat.le_refl _)
  obtain ⟨h1, h2, _⟩ := can_snd i1 i2
  exact ⟨h1, h2⟩
/-- the join of a diagram with the diagram of all states -/
def ojN (sz : List Int) (L : List I3) (root : Int) : List I3 × Int := jnN 0 (offN sz sz.length : Int) L (tsN sz []).1 root (tsN sz []).2
/-- .. made canonical -/
def owN (sz : List Int) (L : List I3) (root : Int) : List I3 × Int := canN mkN (ojN sz L root).1 (ojN sz L root).2
theorem ojN_inv {sz : List Int} {L : List I3} {root : Int} (hs : allIn 1 32 sz = true) (hn : sz.length ≤ 16) (hS : Snd (offN sz sz.length : Int) L) (hr : RefB root L.length) (hl : L.length ≤ 2000) :
    Snd (offN sz sz.length : Int) (ojN sz L root).1 ∧ RefB (ojN sz L root).2 (ojN sz L root).1.length ∧ (ojN sz L root).1.length ≤ 4008004 ∧ ∀ β, evR (ojN sz L root).1 β (ojN sz L root).2 = (evR L β root && evR (tsN sz []).1 β (tsN sz []).2) := by
  obtain ⟨t1, t2⟩ := ts_inv (g := []) hs
  obtain ⟨h1, h2, h3, h4⟩ := jnN_inv (j := 0) hS t1 (by omega) hr t2 hl (Nat.le_trans (ts_few hs hn) (by omega))
  exact ⟨h1, h2, h3, fun β => by rw [ojN, h4, bopN, if_pos rfl]⟩
theorem owN_inv {sz : List Int} {L : List I3} {root : Int} (hs : allIn 1 32 sz = true) (hn : sz.length ≤ 16) (hS : Snd (offN sz sz.length : Int) L) (hr : RefB root L.length) (hl : L.length ≤ 2000) :
    Snd (offN sz sz.length : Int) (owN sz L root).1 ∧ RefB (owN sz L root).2 (owN sz L root).1.length ∧ (owN sz L root).1.length ≤ 4008004 ∧ ∀ β, evR (owN sz L root).1 β (owN sz L root).2 = (evR L β root && evR (tsN sz []).1 β (tsN sz []).2) := by
  obtain ⟨h1, h2, h3, h4⟩ := ojN_inv hs hn hS hr hl
  obtain ⟨g1, g2, _⟩ := can_snd h1 h2
  exact ⟨g1, g2, Nat.le_trans (can_length h1.redu h2) h3, fun β => by rw [owN, can_ev h1.redu h2, h4]⟩
/-- the lists of bits of the states -/
def owL (sz : List Int) (L : List I3) (root : Int) : List (List Int) := lsN (offN sz sz.length : Int) (owN sz L root).1 (offN sz sz.length) (owN sz L root).2
theorem owL_filter {sz : List Int} {L : List I3} {root : Int} (hs : allIn 1 32 sz = true) (hn : sz.length ≤ 16) (hS : Snd (offN sz sz.length : Int) L) (hr : RefB root L.length) (hl : L.length ≤ 2000) :
    owL sz L root = (allB (offN sz sz.length)).filter fun s => evR L (bitF 0 s) root && okB sz s := by
  obtain ⟨h1, h2, _, h4⟩ := owN_inv hs hn hS hr hl
  rw [owL, ls_filter h1.redu.frst h1.ord _ _ (Nat.le_refl _) h2 (by rw [Nat.sub_self]; exact lvl_pos h1.ord (by omega) h2)]
  refine List.filter_congr fun s hs' => ?_
  obtain ⟨q1, q2⟩ := allB_01 hs'
  rw [Nat.sub_self, h4, ts_ok hs q1 q2]
theorem owL_bits {sz : List Int} {L : List I3} {root : Int} (hs : allIn 1 32 sz = true) (hn : sz.length ≤ 16) (hS : Snd (offN sz sz.length : Int) L) (hr : RefB root L.length) (hl : L.length ≤ 2000) {s : List Int} (h : s ∈ owL sz L root) : s.length = offN sz sz.length ∧ allIn 0 1 s = true := by
  rw [owL_filter hs hn hS hr hl] at h
  obtain ⟨q1, q2⟩ := allB_01 (List.mem_filter.1 h).1
  refine ⟨q1, List.all_eq_true.2 fun x hx => ?_⟩
  rcases q2 x hx with rfl | rfl <;> rfl
theorem owL_states {sz : List Int} {L : List I3} {root : Int} (hs : allIn 1 32 sz = true) (hn : sz.length ≤ 16) (hS : Snd (offN sz sz.length : Int) L) (hr : RefB root L.length) (hl : L.length ≤ 2000) :
    (owL sz L root).map (stV sz) = xsN sz L (offN sz sz.length) root [] := by
  rw [owL_filter hs hn hS hr hl, xsN]
  simp
theorem owL_ones {sz : List Int} {L : List I3} {root : Int} (hs : allIn 1 32 sz = true) (hn : sz.length ≤ 16) (hS : Snd (offN sz sz.length : Int) L) (hr : RefB root L.length) (hl : L.length ≤ 2000) :
    onesN (offN sz sz.length : Int) (owN sz L root).1 (owN sz L root).2 = (xsN sz L (offN sz sz.length) root []).length := by
  obtain ⟨h1, h2, _, _⟩ := owN_inv hs hn hS hr hl
  rw [ones_ls h1 h2, ← owL_states hs hn hS hr hl, List.length_map, owL]
/-- what both answer: states, code -/
def sdC (sz st : List Int) (l : List (RM × RuD)) (inp : Int) (L : List I3) (root : Int) : List (List Int) × Int :=
  if modelB sz st l = false then ([], 1) else if diaB inp L root = false then ([], 1) else if inp ≠ (offN sz sz.length : Int) then ([], 2)
  else if (xsN sz L (offN sz sz.length) root []).length ≤ 4000 then (xsN sz L (offN sz sz.length) root [], 0) else ([], 3)
section
variable {sz st : List Int} {l : List (RM × RuD)} {inp : Int} {L : List I3} {root : Int}
theorem sdC_1 (h : modelB sz st l = false) : sdC sz st l inp L root = ([], 1) := if_pos h
theorem sdC_2 (h : modelB sz st l = true) (h2 : diaB inp L root = false) : sdC sz st l inp L root = ([], 1) := by rw [sdC, if_neg (by simp [h]), if_pos h2]
theorem sdC_3 (h : modelB sz st l = true) (h2 : diaB inp L root = true) (h3 : inp ≠ (offN sz sz.length : Int)) : sdC sz st l inp L root = ([], 2) := by rw [sdC, if_neg (by simp [h]), if_neg (by simp [h2]), if_pos h3]
theorem sdC_4 (h : modelB sz st l = true) (h2 : diaB inp L root = true) (h3 : inp = (offN sz sz.length : Int)) (h4 : ¬ (xsN sz L (offN sz sz.length) root []).length ≤ 4000) : sdC sz st l inp L root = ([], 3) := by rw [sdC, if_neg (by simp [h]), if_neg (by simp [h2]), if_neg (by simp [h3]), if_neg h4]
theorem sdC_5 (h : modelB sz st l = true) (h2 : diaB inp L root = true) (h3 : inp = (offN sz sz.length : Int)) (h4 : (xsN sz L (offN sz sz.length) root []).length ≤ 4000) : sdC sz st l inp L root = (xsN sz L (offN sz sz.length) root [], 0) := by rw [sdC, if_neg (by simp [h]), if_neg (by simp [h2]), if_neg (by simp [h3]), if_pos h4]
end
theorem valOf_zeros (k : Nat) : valOf (List.replicate k (0 : Int)) = 0 := by
  have key : ∀ (k : Nat), (List.replicate k (0 : Int)).foldl (fun a b => 2 * a + b) 0 = 0 := by
    intro k
    induction k with
    | zero => rfl
    | succ k ih => rw [List.replicate_succ, List.foldl_cons]; exact ih
  exact key k
/-- all zeros are a state's bits -/
theorem beg_nil {sz : List Int} (hs : allIn 1 32 sz = true) (n : Nat) : begB sz n [] = true := by
  rw [begB, List.nil_append, okB_iff (fun x hx => .inl (List.mem_replicate.1 hx).2)]
  intro j hj
  rw [List.drop_replicate, List.take_replicate, valOf_zeros]
  have h1 : sz.getD j 0 ∈ sz := by rw [List.getD_eq_getElem?_getD, List.getElem?_eq_getElem hj]; exact List.getElem_mem hj
  have h2 := List.all_eq_true.1 hs _ h1
  simp only [inB, Bool.and_eq_true, decide_eq_true_eq] at h2
  omega
theorem on_all {sz : List Int} {L : List I3} {root : Int} (hs : allIn 1 32 sz = true) (hS : Snd (offN sz sz.length : Int) L) (hr : RefB root L.length) :
    (onF sz (offN sz sz.length : Int) L (offN sz sz.length) (offN sz sz.length) root [] []).2 = decide ((xsN sz L (offN sz sz.length) root []).length ≤ 4000) ∧ ((onF sz (offN sz sz.length : Int) L (offN sz sz.length) (offN sz sz.length) root [] []).2 = true → (onF sz (offN sz sz.length : Int) L (offN sz sz.length) (offN sz sz.length) root [] []).1 = xsN sz L (offN sz sz.length) root []) := by
  have h := on_eq (sz := sz) hS.redu.frst hS.ord (offN sz sz.length) root [] [] (by simp) (fun x hx => by cases hx) (beg_nil hs _) hr (lvl_pos hS.ord (by omega) hr) (by simp)
  simpa using h
/-- what a function value g bound to lb answers at a number, while a forest grows -/
def PredV (g : Nat) (lb : Array Value) (al : Int → Bool) (lo p mb : Nat) (w : World) : Prop :=
  ∀ (W : World) (v : Int), 0 ≤ v → v ≤ 31 → FrF lo p mb w W → Calls Tryz.prog g (#[.int .i64 v] ++ lb) W fun e w' => e = .returned (.bool (al v)) ∧ Below W.heap.size W w'
theorem PredV.step {g : Nat} {lb : Array Value} {al : Int → Bool} {lo p mb : Nat} {w w' : World} (h : PredV g lb al lo p mb w) (hf : FrF lo p mb w w') : PredV g lb al lo p mb w' := fun W v h0 h1 hW => h W v h0 h1 (hf.trans hW)
set_option maxHeartbeats 4000000 in
theorem impl_valueTree {g : Nat} {lb : Array Value} {al : Int → Bool} {lo p mb : Nat} {inp : Int} (eg : ∀ args w, (callFunc g args).run Tryz.prog w = .ok (.enter g args) w) :
    ∀ (k : Nat) (v i rest : Int) (L : List I3) (w : World), PredV g lb al lo p mb w → (∃ na nc mn, ForA w lo p mb inp na nc mn L) → 0 ≤ v → (v + 1) * 2 ^ k ≤ 32 → k ≤ 5 → 0 ≤ i → i + k ≤ 1000 → RefB rest L.length → L.length + 2 ^ k ≤ 1048576 → lo ≤ w.heap.size →
    Calls Tryz.prog 147 #[.pointer (some ⟨p, 0, none⟩), .func (.func g) #[] lb, .int .i64 v, .int .i64 (k : Int), .int .i64 i, .int .i64 rest] w fun e w' => e = .returned (.int .i64 (vtN al k L v i rest).2) ∧ (∃ na nc mn, ForA w' lo p mb inp na nc mn (vtN al k L v i rest).1) ∧ FrF lo p mb w w' := by
  intro k
  induction k with
  | zero =>
    intro v i rest L w hP hF h0 h1 hk hi0 hi1 hr hL hlo
    rw [Int.pow_zero, Int.mul_one] at h1
    have hcall := hP w v h0 (by omega) (FrF.refl _ _ _ _)
    have HFO := Lib.hid hF
    clear hF hP
    cases ha : al v
    · rw [ha] at hcall
      have HA := Lib.hid ha
      clear ha
      go_enter Tryz.func147, Tryz.ntmps147
      go_wp2_with (go_at_fn g; refine hcall.mono ?_; rintro e w1 ⟨rfl, hb1⟩)
      go_ret
      refine ⟨ret_int (by rw [vtN, HA.out]; rfl), ?_, FrF.of_below hb1⟩
      obtain ⟨na, nc, mn, h⟩ := HFO.out
      exact ⟨na, nc, mn, h.keep hb1⟩
    · rw [ha] at hcall
      have HA := Lib.hid ha
      clear ha
      go_enter Tryz.func147, Tryz.ntmps147
      go_wp2_with (go_at_fn g; refine hcall.mono ?_; rintro e w1 ⟨rfl, hb1⟩)
      go_ret
      refine ⟨ret_int (by rw [vtN, HA.out]; rfl), ?_, FrF.of_below hb1⟩
      obtain ⟨na, nc, mn, h⟩ := HFO.out
      exact ⟨na, nc, mn, h.keep hb1⟩
  | succ k ih =>
    intro v i rest L w hP hF h0 h1 hk hi0 hi1 hr hL hlo
    have hpk : (1 : Int) ≤ 2 ^ k := by
      have := Nat.two_pow_pos k
      have h : ((1 : Nat) : Int) ≤ ((2 ^ k : Nat) : Int) := by exact_mod_cast this
      rw [Int.natCast_pow] at h; exact h
    have hv1 : (2 * v + 1) * 2 ^ k ≤ 32 := by
      have e : (v + 1) * 2 ^ (k + 1) = (2 * v + 1) * 2 ^ k + 2 ^ k := by rw [Int.pow_succ]; generalize (2 : Int) ^ k = q; rw [Int.add_mul, Int.add_mul, Int.one_mul, Int.one_mul, ← Int.mul_assoc, Int.mul_comm v q, Int.mul_comm (2 * v) q, ← Int.mul_assoc, Int.mul_comm (q * v) 2, Int.mul_comm q 2, ← Int.mul_assoc]; omega
      omega
    have hv2 : (2 * v + 1 + 1) * 2 ^ k ≤ 32 := by
      have e : (v + 1) * 2 ^ (k + 1) = (2 * v + 1 + 1) * 2 ^ k := by rw [Int.pow_succ, show 2 * v + 1 + 1 = 2 * (v + 1) by omega]; generalize (2 : Int) ^ k = q; rw [Int.mul_comm q 2, ← Int.mul_assoc, Int.mul_comm 2 (v + 1)]
      omega
    have hvs : v ≤ 31 := by
      have h3 : (v + 1) * 1 ≤ (v + 1) * 2 ^ (k + 1) := Int.mul_le_mul_of_nonneg_left (by
        have := Nat.two_pow_pos (k + 1)
        have h : ((1 : Nat) : Int) ≤ ((2 ^ (k + 1) : Nat) : Int) := by exact_mod_cast this
        rw [Int.natCast_pow] at h; exact h) (by omega)
      omega
    have e1 : IntKind.i64.wrap (2 * v) = 2 * v := IntWalk.i64_in _ (by omega)
    have e2 : IntKind.i64.wrap (2 * v + 1) = 2 * v + 1 := IntWalk.i64_in _ (by omega)
    have e3 : IntKind.i64.wrap (((k + 1 : Nat) : Int) - 1) = (k : Int) := by rw [IntWalk.i64_in _ (by omega)]; omega
    have e3' : IntKind.i64.wrap ((k : Int) + 1 - 1) = (k : Int) := by rw [IntWalk.i64_in _ (by omega)]; omega
    have e4 : IntKind.i64.wrap (i + 1) = i + 1 := IntWalk.i64_in _ (by omega)
    have e5 : (((k + 1 : Nat) : Int) == 0) = false := by simpa using (show ¬ ((k + 1 : Nat) : Int) = 0 by omega)
    have e5' : (((k : Int) + 1) == 0) = false := by simpa using (show ¬ (k : Int) + 1 = 0 by omega)
    have e6 : ¬ ((k : Int) + 1 = 0) := by omega
    have hpw : 2 ^ (k + 1) = 2 ^ k + 2 ^ k := by rw [Nat.pow_succ]; omega
    have HP := Lib.hid hP
    have HFO := Lib.hid hF
    have HR := Lib.hid hr
    obtain ⟨q1, q2, q3⟩ := vt_ref (al := al) k L (2 * v) (i + 1) rest hr
    obtain ⟨A, hA⟩ : ∃ A, vtN al k L (2 * v) (i + 1) rest = A := ⟨_, rfl⟩
    rw [hA] at q1 q2 q3
    obtain ⟨r1, r2, r3⟩ := vt_ref (al := al) k A.1 (2 * v + 1) (i + 1) rest (hr.mono q2)
    obtain ⟨B, hB⟩ : ∃ B, vtN al k A.1 (2 * v + 1) (i + 1) rest = B := ⟨_, rfl⟩
    rw [hB] at r1 r2 r3
    have HN := Lib.hid (vt_new hA hB)
    obtain ⟨A1, A2⟩ := A
    obtain ⟨B1, B2⟩ := B
    simp only at q1 q2 q3 r1 r2 r3
    have K1 := Lib.hid (ih (2 * v) (i + 1) rest L w hP hF (by omega) hv1 (by omega) (by omega) (by omega) hr (by omega) hlo)
    have K2 := Lib.hid (fun (w1 : World) (hf : FrF lo p mb w w1) (h : ∃ na nc mn, ForA w1 lo p mb inp na nc mn A1) => ih (2 * v + 1) (i + 1) rest A1 w1 (HP.out.step hf) h (by omega) hv2 (by omega) (by omega) (by omega) (HR.out.mono q2) (by omega) (by have := hf.size; omega))
    have HA := Lib.hid hA
    have HB := Lib.hid hB
    have hq1 : I64 A2 := by have h1 := q1.1; have h2 := q1.2; unfold I64; omega
    have hq2 : I64 B2 := by have h1 := r1.1; have h2 := r1.2; unfold I64; omega
    clear hA hB hF hP hr ih h1 hv1 hv2 hpk
    go_enter Tryz.func147, Tryz.ntmps147
    go_wp2_with fail
    refine Calls.mono K1.out ?_
    rintro e w1 ⟨rfl, hF1, hf1⟩
    rw [HA.out] at hF1 ⊢
    have HF1 := Lib.hid hF1
    have Hf1 := Lib.hid hf1
    clear hF1 hf1
    go_wp2_with fail
    refine Calls.mono (K2.out w1 Hf1.out HF1.out) ?_
    rintro e w2 ⟨rfl, hF2, hf2⟩
    rw [HB.out] at hF2 ⊢
    obtain ⟨na, nc, mn, hF2⟩ := hF2
    have HF2 := Lib.hid hF2
    have Hf2 := Lib.hid (Hf1.out.trans hf2)
    have hs2 := Hf2.out.size
    clear hF2 hf2
    go_wp2_with fail
    refine Calls.mono (impl_node HF2.out (by omega) (by unfold I64; omega) hq1 hq2 (by omega)) ?_
    rintro e w3 ⟨rfl, hF3, hf3⟩
    have HF3 := Lib.hid hF3
    have Hf3 := Lib.hid (Hf2.out.trans hf3)
    clear hF3 hf3
    go_wp2
    go_ret
    refine ⟨ret_int (by rw [HN.out]), ?_, Hf3.out⟩
    rw [HN.out]
    exact HF3.out
end Go.Proofs.YtkaikbaagajckaaGreat
