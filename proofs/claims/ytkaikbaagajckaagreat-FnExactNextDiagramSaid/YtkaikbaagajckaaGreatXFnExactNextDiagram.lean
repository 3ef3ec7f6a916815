/- The law FnExactNextDiagram, from the contracts of the two functions. -/
import Derived.Test.YtkaikbaagajckaaGreatPu
import Derived.Test.YtkaikbaagajckaaGreatN01
import Derived.Test.YtkaikbaagajckaaGreatN35
namespace Go.Proofs.YtkaikbaagajckaaGreat
open Go.RowKit
set_option linter.unusedVariables false
set_option linter.unusedSimpArgs false
theorem wp_join {P : Program} {c : Code} {Q : Exit → Act → World → Prop} {a : Act} {w : World} (R : Act → Act → World → Prop) (h : c.wp P (fun x a' w' => x = .normal ∧ R a a' w') a w) (h2 : ∀ a' w', R a a' w' → Q .normal a' w') : c.wp P Q a w :=
  Code.wp_mono (fun e a' w' hh => by obtain ⟨rfl, hr⟩ := hh; exact h2 a' w' hr) h
theorem Blk.put7 {w : World} {b : Nat} {cs : Array Value} {T : TypeId} (h : Blk w b cs T) (i : Nat) (v : Value) : Blk (w.setCell ⟨b, i, none⟩ v) b (cs.setIfInBounds i v) T := heap_setCell_same w b i cs T v h
set_option maxHeartbeats 8000000 in
theorem law_NextDiagram {a0_1 a0_2 a0_3 : Option Addr} {n0_1 c0_1 n0_2 c0_2 n0_3 c0_3 : Nat} {l0_1 l0_2 : List Int} {l0_3 : List (RM × RuD)} {b1 r1 : Int} {a1 : Option Addr} {n1 c1 : Nat} {l1 : List I3} {w : World} (hI0_1 : Ints w a0_1 n0_1 c0_1 l0_1) (hM0_1 : n0_1 ≤ maxLen) (hI0_2 : Ints w a0_2 n0_2 c0_2 l0_2) (hM0_2 : n0_2 ≤ maxLen) (hI0_3 : FX w w a0_3 n0_3 c0_3 l0_3) (hM0_3 : n0_3 ≤ maxLen) (i1 : I64 b1) (ir1 : I64 r1) (hI1 : F3 w a1 n1 c1 l1) (hM1 : n1 ≤ maxLen) :
    Calls Tryz.prog 7 #[.agg #[.slice a0_1 n0_1 c0_1, .slice a0_2 n0_2 c0_2, .slice a0_3 n0_3 c0_3], .agg #[.int .i64 b1, .slice a1 n1 c1, .int .i64 r1]] w fun e w' => e = .returned (.bool true) ∧ Below w.heap.size w w' := by
  have HS0 := Lib.hid hI0_1
  have hn90_1 : (n0_1 : Int) ≤ 9223372036854775807 := by unfold maxLen at hM0_1; omega
  have HT0 := Lib.hid hI0_2
  have hn90_2 : (n0_2 : Int) ≤ 9223372036854775807 := by unfold maxLen at hM0_2; omega
  have HR0 := Lib.hid hI0_3
  have hn90_3 : (n0_3 : Int) ≤ 9223372036854775807 := by unfold maxLen at hM0_3; omega
  obtain ⟨n0_5, hN0⟩ : ∃ N : Nat, n0_1 + n0_2 + (n0_3 + need l0_3) = N := ⟨_, rfl⟩
  clear hI0_1 hI0_2 hI0_3 hM0_1 hM0_2 hM0_3
  have HI1 := Lib.hid hI1
  have hn91 : (n1 : Int) ≤ 9223372036854775807 := by unfold maxLen at hM1; omega
  clear hM1
  by_cases hz0 : n0_5 ≤ 1048576
  · skip
    by_cases hz1 : (n1 : Int) ≤ 1048576 - (n0_5 : Int)
    · skip
      obtain ⟨rs0, hrs0⟩ : ∃ rs : List RuD, l0_3.map (·.2) = rs := ⟨_, rfl⟩
      obtain ⟨n0_4, hC0⟩ : ∃ N : Nat, cntRu rs0 = N := ⟨_, rfl⟩
      have hn0 : n0_4 ≤ 3145728 := by have h9 := cnt_of HR0.out hrs0 hN0; omega
      have HI0 := Lib.hid (mrd_of HS0.out HT0.out HR0.out hrs0 hN0 (by omega))
      have hn0_1 := HI0.out.sn
      have hn0_2 := HI0.out.tn
      have hn0_3 := HI0.out.rn
      have hn1 : n1 ≤ 1048576 := by omega
      have hspec := fun (wx : World)  (y0_1 y0_2 y0_3 : Option Addr) (y1 : Option Addr) (hX0 : MRd wx y0_1 n0_1 n0_1 y0_2 n0_2 n0_2 y0_3 n0_3 n0_3 l0_1 l0_2 rs0) (hX1 : F3 wx y1 n1 n1 l1) => spec_NextDiagram_r hX0 hX1 hn1 i1 ir1
      have himpl := fun (wx : World)  (y0_1 y0_2 y0_3 : Option Addr) (y1 : Option Addr) (hX0 : MRd wx y0_1 n0_1 n0_1 y0_2 n0_2 n0_2 y0_3 n0_3 n0_3 l0_1 l0_2 rs0) (hX1 : F3 wx y1 n1 n1 l1) => impl_NextDiagram_r hX0 hX1 hn1 i1 ir1
      have hlen := ndC_len l0_1 l0_2 (rsM rs0) b1 l1 r1
      generalize (ndC l0_1 l0_2 (rsM rs0) b1 l1 r1).1 = INP at *
      generalize (ndC l0_1 l0_2 (rsM rs0) b1 l1 r1).2.1 = L at *
      generalize (ndC l0_1 l0_2 (rsM rs0) b1 l1 r1).2.2.1 = RT at *
      generalize (ndC l0_1 l0_2 (rsM rs0) b1 l1 r1).2.2.2 = code at *
      have Hspec := Lib.hid hspec
      have Himpl := Lib.hid himpl
      clear hspec himpl
      have hcc : (code != code) = false := by simp
      go_enter Tryz.func7, Tryz.ntmps7
      have y_K0 : Blk ((w.alloc (.cells #[.slice a0_1 n0_1 c0_1, .slice a0_2 n0_2 c0_2, .slice a0_3 n0_3 c0_3] 25)).alloc (.cells #[.int .i64 b1, .slice a1 n1 c1, .int .i64 r1] 28)) (w.heap.size) #[.slice a0_1 n0_1 c0_1, .slice a0_2 n0_2 c0_2, .slice a0_3 n0_3 c0_3] 25 := by have hh := (Blk.made w #[.slice a0_1 n0_1 c0_1, .slice a0_2 n0_2 c0_2, .slice a0_3 n0_3 c0_3] 25).keep (show Below _ _ ((w.alloc (.cells #[.slice a0_1 n0_1 c0_1, .slice a0_2 n0_2 c0_2, .slice a0_3 n0_3 c0_3] 25)).alloc (.cells #[.int .i64 b1, .slice a1 n1 c1, .int .i64 r1] 28)) from bel); simpa using hh
      have u_K0_0 : ((w.alloc (.cells #[.slice a0_1 n0_1 c0_1, .slice a0_2 n0_2 c0_2, .slice a0_3 n0_3 c0_3] 25)).alloc (.cells #[.int .i64 b1, .slice a1 n1 c1, .int .i64 r1] 28)).cell? ⟨w.heap.size, 0, none⟩ = some (.slice a0_1 n0_1 c0_1) := y_K0.cell 0
      have u_K0_1 : ((w.alloc (.cells #[.slice a0_1 n0_1 c0_1, .slice a0_2 n0_2 c0_2, .slice a0_3 n0_3 c0_3] 25)).alloc (.cells #[.int .i64 b1, .slice a1 n1 c1, .int .i64 r1] 28)).cell? ⟨w.heap.size, 1, none⟩ = some (.slice a0_2 n0_2 c0_2) := y_K0.cell 1
      have u_K0_2 : ((w.alloc (.cells #[.slice a0_1 n0_1 c0_1, .slice a0_2 n0_2 c0_2, .slice a0_3 n0_3 c0_3] 25)).alloc (.cells #[.int .i64 b1, .slice a1 n1 c1, .int .i64 r1] 28)).cell? ⟨w.heap.size, 2, none⟩ = some (.slice a0_3 n0_3 c0_3) := y_K0.cell 2
      have v_K0 : w.heap.size < ((w.alloc (.cells #[.slice a0_1 n0_1 c0_1, .slice a0_2 n0_2 c0_2, .slice a0_3 n0_3 c0_3] 25)).alloc (.cells #[.int .i64 b1, .slice a1 n1 c1, .int .i64 r1] 28)).heap.size := y_K0.lt
      have y_K1 : Blk ((w.alloc (.cells #[.slice a0_1 n0_1 c0_1, .slice a0_2 n0_2 c0_2, .slice a0_3 n0_3 c0_3] 25)).alloc (.cells #[.int .i64 b1, .slice a1 n1 c1, .int .i64 r1] 28)) (w.heap.size + 1) #[.int .i64 b1, .slice a1 n1 c1, .int .i64 r1] 28 := by have hh := (Blk.made (w.alloc (.cells #[.slice a0_1 n0_1 c0_1, .slice a0_2 n0_2 c0_2, .slice a0_3 n0_3 c0_3] 25)) #[.int .i64 b1, .slice a1 n1 c1, .int .i64 r1] 28); simpa using hh
      have u_K1_0 : ((w.alloc (.cells #[.slice a0_1 n0_1 c0_1, .slice a0_2 n0_2 c0_2, .slice a0_3 n0_3 c0_3] 25)).alloc (.cells #[.int .i64 b1, .slice a1 n1 c1, .int .i64 r1] 28)).cell? ⟨w.heap.size + 1, 0, none⟩ = some (.int .i64 b1) := y_K1.cell 0
      have u_K1_1 : ((w.alloc (.cells #[.slice a0_1 n0_1 c0_1, .slice a0_2 n0_2 c0_2, .slice a0_3 n0_3 c0_3] 25)).alloc (.cells #[.int .i64 b1, .slice a1 n1 c1, .int .i64 r1] 28)).cell? ⟨w.heap.size + 1, 1, none⟩ = some (.slice a1 n1 c1) := y_K1.cell 1
      have u_K1_2 : ((w.alloc (.cells #[.slice a0_1 n0_1 c0_1, .slice a0_2 n0_2 c0_2, .slice a0_3 n0_3 c0_3] 25)).alloc (.cells #[.int .i64 b1, .slice a1 n1 c1, .int .i64 r1] 28)).cell? ⟨w.heap.size + 1, 2, none⟩ = some (.int .i64 r1) := y_K1.cell 2
      have v_K1 : w.heap.size + 1 < ((w.alloc (.cells #[.slice a0_1 n0_1 c0_1, .slice a0_2 n0_2 c0_2, .slice a0_3 n0_3 c0_3] 25)).alloc (.cells #[.int .i64 b1, .slice a1 n1 c1, .int .i64 r1] 28)).heap.size := y_K1.lt
      go_wp2_with fail
      refine Calls.mono (laws_szModelN (HR0.out.keepX bel) hn90_1 hn90_2 hn90_3 (by omega) (by omega) hN0) ?_
      rintro e w1 ⟨rfl, hb_w1⟩
      have hs_w1 := hb_w1.size
      simp at hs_w1
      clear y_K0 u_K0_0 u_K0_1 u_K0_2 v_K0 y_K1 u_K1_0 u_K1_1 u_K1_2 v_K1
      have hst : Below w.heap.size w w1 := bel
      have hB_w1 : Below w.heap.size w w1 := hst
      have K0 := Lib.hid (show Blk w1 (w.heap.size) #[.slice a0_1 n0_1 c0_1, .slice a0_2 n0_2 c0_2, .slice a0_3 n0_3 c0_3] 25 by have hh := ((Blk.made w #[.slice a0_1 n0_1 c0_1, .slice a0_2 n0_2 c0_2, .slice a0_3 n0_3 c0_3] 25).keep (show Below _ _ ((w.alloc (.cells #[.slice a0_1 n0_1 c0_1, .slice a0_2 n0_2 c0_2, .slice a0_3 n0_3 c0_3] 25)).alloc (.cells #[.int .i64 b1, .slice a1 n1 c1, .int .i64 r1] 28)) from bel)).keep hb_w1; simpa using hh)
      have K1 := Lib.hid (show Blk w1 (w.heap.size + 1) #[.int .i64 b1, .slice a1 n1 c1, .int .i64 r1] 28 by have hh := ((Blk.made (w.alloc (.cells #[.slice a0_1 n0_1 c0_1, .slice a0_2 n0_2 c0_2, .slice a0_3 n0_3 c0_3] 25)) #[.int .i64 b1, .slice a1 n1 c1, .int .i64 r1] 28)).keep hb_w1; simpa using hh)
      clear hst hb_w1
      have u_K0_0 : w1.cell? ⟨w.heap.size, 0, none⟩ = some (.slice a0_1 n0_1 c0_1) := (K0.out).cell 0
      have u_K0_1 : w1.cell? ⟨w.heap.size, 1, none⟩ = some (.slice a0_2 n0_2 c0_2) := (K0.out).cell 1
      have u_K0_2 : w1.cell? ⟨w.heap.size, 2, none⟩ = some (.slice a0_3 n0_3 c0_3) := (K0.out).cell 2
      have v_K0 : w.heap.size < w1.heap.size := (K0.out).lt
      have u_K1_0 : w1.cell? ⟨w.heap.size + 1, 0, none⟩ = some (.int .i64 b1) := (K1.out).cell 0
      have u_K1_1 : w1.cell? ⟨w.heap.size + 1, 1, none⟩ = some (.slice a1 n1 c1) := (K1.out).cell 1
      have u_K1_2 : w1.cell? ⟨w.heap.size + 1, 2, none⟩ = some (.int .i64 r1) := (K1.out).cell 2
      have v_K1 : w.heap.size + 1 < w1.heap.size := (K1.out).lt
      go_wp2_with fail
      refine Calls.mono (laws_szDiagram hn91 (by omega) (by omega)) ?_
      rintro e w2 ⟨rfl, hb_w2⟩
      have hs_w2 := hb_w2.size
      clear u_K0_0 u_K0_1 u_K0_2 v_K0 u_K1_0 u_K1_1 u_K1_2 v_K1
      have hst : Below w1.heap.size w1 w2 := bel
      have hB_w2 : Below w.heap.size w w2 := below_callS hB_w1 hst
      replace K0 := Lib.hid (K0.out.keep hst)
      replace K1 := Lib.hid (K1.out.keep hst)
      clear hst hb_w2 hB_w1
      go_wp2_with fail
      refine wp_join (fun A0 A1 wz => ∃ (p lo hi n9 c9 : Nat) (a9 : Option Addr) (u1 u3 : Value), A1 = ((((((((((A0.put (some 28) (.agg #[.slice a0_1 n0_1 c0_1, .slice a0_2 n0_2 c0_2, .slice a0_3 n0_3 c0_3])).put (some 29) (u1)).put (some 30) (.agg #[.int .i64 b1, .slice a1 n1 c1, .int .i64 r1])).put (some 31) (u3)).put (some 32) (.tuple #[.agg #[.int .i64 INP, .slice a9 n9 c9, .int .i64 RT], .int .i64 code])).put (some 27) (.tuple #[.agg #[.int .i64 INP, .slice a9 n9 c9, .int .i64 RT], .int .i64 code])).put (some 33) (.agg #[.int .i64 INP, .slice a9 n9 c9, .int .i64 RT])).put (some 34) (.int .i64 code)).put (some 6) (.pointer (some ⟨p, 0, none⟩))).put (some 7) (.int .i64 code)) ∧ Below w2.heap.size w2 wz ∧ Blk wz p #[.int .i64 INP, .slice a9 n9 c9, .int .i64 RT] 40 ∧ w2.heap.size ≤ p ∧ (p < lo ∨ hi ≤ p) ∧ w2.heap.size ≤ lo ∧ hi ≤ wz.heap.size ∧ L.length = n9 ∧ (∀ g, a9 = some ⟨g, 0, none⟩ → lo ≤ g ∧ g < hi) ∧ Own (fun w => OwnF 3 I3.enc I3.ok 117 w lo a9 n9 c9 L) lo hi wz) ?_ ?_
      · skip
        refine wp_region_noPanic ?_
        refine wp_region_held_drew (S := fun wx => Blk wx (w.heap.size) #[.slice a0_1 n0_1 c0_1, .slice a0_2 n0_2 c0_2, .slice a0_3 n0_3 c0_3] 25 ∧ Blk wx (w.heap.size + 1) #[.int .i64 b1, .slice a1 n1 c1, .int .i64 r1] 28) (by kernel_rfl) ?_ (fun hHeld => ?_)
        · exact ⟨K0.out.keep (Below.refl _ _).drew, K1.out.keep (Below.refl _ _).drew⟩
        have hx : Below w2.heap.size w2 w2.drew := (Below.refl _ _).drew
        refine tkH0 0 (v := ?_) ?_ ?_
        rotate_left
        · (intro wv hSw; obtain ⟨hq0, hq1⟩ := hSw; have q0_0 := hq0.cell 0; have q0_1 := hq0.cell 1; have q0_2 := hq0.cell 2; have q1_0 := hq1.cell 0; have q1_1 := hq1.cell 1; have q1_2 := hq1.cell 2; have z0 := hq0.lt; have z1 := hq1.lt; simp only [List.getElem?_toArray, List.getElem?_cons_zero, List.getElem?_cons_succ] at q0_0 q0_1 q0_2 q1_0 q1_1 q1_2; clear hq0 hq1; go_simp; try with_reducible rfl)
        try simp only [pu]
        refine tkH0 2 (v := ?_) ?_ ?_
        rotate_left
        · (intro wv hSw; obtain ⟨hq0, hq1⟩ := hSw; have q0_0 := hq0.cell 0; have q0_1 := hq0.cell 1; have q0_2 := hq0.cell 2; have q1_0 := hq1.cell 0; have q1_1 := hq1.cell 1; have q1_2 := hq1.cell 2; have z0 := hq0.lt; have z1 := hq1.lt; simp only [List.getElem?_toArray, List.getElem?_cons_zero, List.getElem?_cons_succ] at q0_0 q0_1 q0_2 q1_0 q1_1 q1_2; clear hq0 hq1; go_simp; try with_reducible rfl)
        try simp only [pu]
        refine wpAnyH_ready (rs := [1, 8]) (by kernel_rfl) (by simp) ?_
        refine AllReadyH.cons rfl (fun K hK => ?_) (AllReadyH.cons rfl (fun K hK => ?_) AllReadyH.nil)
        · skip
          go_simp
          refine Calls.mono (laws_toModel (HI0.out.keep (below_callS hB_w2 hx))) ?_
          rintro e w4 ⟨w4g1, w4g2, w4g3, rfl, hbn, ho⟩
          have C9_0 := Lib.hid ho.rd
          have hy_w4 := hbn.size
          replace hx := below_callS hx hbn
          clear ho hbn hHeld
          go_wp2_with fail
          refine hK.out _ _ ⟨K0.out.keep hx, K1.out.keep hx⟩ (fun hHeld => ?_)
          clear hK K
          try simp only [pu]
          refine wpAnyH_ready (rs := [3, 8]) (by kernel_rfl) (by simp) ?_
          refine AllReadyH.cons rfl (fun K hK => ?_) (AllReadyH.cons rfl (fun K hK => ?_) AllReadyH.nil)
          · skip
            go_simp
            refine Calls.mono (laws_toDiagram (HI1.out.keep (below_callS hB_w2 hx)) hn1) ?_
            rintro e w5 ⟨w5g, rfl, hbn, ho⟩
            replace C9_0 := Lib.hid (C9_0.out.keep hbn)
            have C9_1 := Lib.hid ho.flats
            have hy_w5 := hbn.size
            replace hx := below_callS hx hbn
            clear ho hbn hHeld
            go_wp2_with fail
            refine hK.out _ _ ⟨K0.out.keep hx, K1.out.keep hx⟩ (fun hHeld => ?_)
            clear hK K
            try simp only [pu]
            refine wpAnyH_ready (rs := [4, 8]) (by kernel_rfl) (by simp) ?_
            refine AllReadyH.cons rfl (fun K hK => ?_) (AllReadyH.cons rfl (fun K hK => ?_) AllReadyH.nil)
            · skip
              go_simp
              have hz3 := hx.size
              refine Calls.mono (Hspec.out _ _ _ _ _ C9_0.out C9_1.out) ?_
              rintro e w6 ⟨nw6, aw6, cw6, rfl, hbn, ho⟩
              have O9 := Lib.hid ho.own
              have ln9 := ho.len
              have bk9 := ho.blk
              clear C9_0 C9_1
              have hy_w6 := hbn.size
              replace hx := below_callS hx hbn
              clear ho hbn hHeld
              go_wp2_with fail
              refine hK.out _ _ ⟨K0.out.keep hx, K1.out.keep hx⟩ (fun hHeld => ?_)
              clear hK K
              try simp only [pu]
              refine tkH0 5 (v := ?_) ?_ ?_
              rotate_left
              · (intro wv hSw; clear hSw; go_simp; try with_reducible rfl)
              try simp only [pu]
              refine tkH0 6 (v := ?_) ?_ ?_
              rotate_left
              · (intro wv hSw; clear hSw; go_simp; try with_reducible rfl)
              try simp only [pu]
              refine tkH0 7 (v := ?_) ?_ ?_
              rotate_left
              · (intro wv hSw; clear hSw; go_simp; try with_reducible rfl)
              try simp only [pu]
              refine wpAnyH_ready (rs := [8]) (by kernel_rfl) (by simp) ?_
              refine AllReadyH.cons rfl (fun K hK => ?_) AllReadyH.nil
              go_simp
              have hp_w7 := hx.size
              obtain ⟨w7, hwa⟩ : ∃ v, v = World.alloc w6 (.cells #[.int .i64 0, .slice none 0 0, .int .i64 0] 40) := ⟨_, rfl⟩
              have hal : Below w6.heap.size w6 w7 := by rw [hwa]; exact below_alloc1 (Below.refl _ _) _
              have hs_w7 : w7.heap.size = w6.heap.size + 1 := by rw [hwa]; exact Array.size_push _
              have RZ := Lib.hid (show Blk w7 w6.heap.size #[.int .i64 0, .slice none 0 0, .int .i64 0] 40 by rw [hwa]; exact Blk.made w6 _ _)
              replace O9 := Lib.hid (O9.out.keep hal)
              replace hx := below_callS hx hal
              clear hHeld hal
              rw [← hwa]
              clear hwa
              go_wp2_with fail
              refine hK.out _ _ ⟨K0.out.keep hx, K1.out.keep hx⟩ (fun hHeld => ?_)
              clear hK K
              try simp only [pu]
              refine wpAnyH_ready (rs := [9]) (by kernel_rfl) (by simp) ?_
              refine AllReadyH.cons rfl (fun K hK => ?_) AllReadyH.nil
              have r0 := RZ.out.cell 0
              have r1 := RZ.out.cell 1
              have r2 := RZ.out.cell 2
              have rl := RZ.out.lt
              have rf := RZ.out.free
              simp only [List.getElem?_toArray, List.getElem?_cons_zero, List.getElem?_cons_succ] at r0 r1 r2
              go_simp
              obtain ⟨w8, hwz⟩ : ∃ v, v = (World.setCell (World.setCell (World.setCell w7 ⟨w6.heap.size, 0, none⟩ (.int .i64 INP)) ⟨w6.heap.size, 1, none⟩ (.slice aw6 nw6 cw6)) ⟨w6.heap.size, 2, none⟩ (.int .i64 RT)) := ⟨_, rfl⟩
              have hon : Only (w6.heap.size) (w6.heap.size + 1) w7 w8 := by rw [hwz]; exact ((((Only.refl (w6.heap.size) (w6.heap.size + 1) w7).set ⟨Nat.le_refl _, Nat.lt_succ_self _⟩ 0 _).set ⟨Nat.le_refl _, Nat.lt_succ_self _⟩ 1 _).set ⟨Nat.le_refl _, Nat.lt_succ_self _⟩ 2 _)
              have RB : Blk w8 (w6.heap.size) #[.int .i64 INP, .slice aw6 nw6 cw6, .int .i64 RT] 40 := by rw [hwz]; exact ((RZ.out.put7 0 _).put7 1 _).put7 2 _
              have hs_w8 := hon.size
              have hcz := hx.size
              replace hx := hon.below hx (by omega) (by omega)
              replace O9 := Lib.hid (O9.out.apart hon (by omega))
              clear r0 r1 r2 rl rf hHeld RZ hon
              rw [← hwz]
              clear hwz
              go_wp2_with fail
              refine hK.out _ _ ⟨K0.out.keep hx, K1.out.keep hx⟩ (fun hHeld => ?_)
              clear hK K
              try simp only [pu]
              refine tkH0 10 (v := ?_) ?_ ?_
              rotate_left
              · (intro wv hSw; clear hSw; go_simp; try with_reducible rfl)
              try simp only [pu]
              refine wpAnyH_done (by kernel_rfl) ?_ _
              refine NoPanic.normal ⟨rfl, w6.heap.size, w5.heap.size, w6.heap.size, nw6, cw6, aw6, .agg #[.slice (some ⟨w4g1, 0, none⟩) n0_1 n0_1, .slice (some ⟨w4g2, 0, none⟩) n0_2 n0_2, .slice (some ⟨w4g3, 0, none⟩) n0_3 n0_3], .agg #[.int .i64 b1, .slice (some ⟨w5g, 0, none⟩) n1 n1, .int .i64 r1], ?_, hx, RB, by omega, by omega, by omega, by omega, ln9, bk9, O9.out⟩
              simp only [Act.put, List.setIfInBounds_toArray, List.set_cons_zero, List.set_cons_succ]
            · skip
              go_simp
              have hp_w9 := hx.size
              obtain ⟨w9, hwa⟩ : ∃ v, v = World.alloc w5 (.cells #[.int .i64 0, .slice none 0 0, .int .i64 0] 40) := ⟨_, rfl⟩
              have hal : Below w5.heap.size w5 w9 := by rw [hwa]; exact below_alloc1 (Below.refl _ _) _
              have hs_w9 : w9.heap.size = w5.heap.size + 1 := by rw [hwa]; exact Array.size_push _
              have RZ := Lib.hid (show Blk w9 w5.heap.size #[.int .i64 0, .slice none 0 0, .int .i64 0] 40 by rw [hwa]; exact Blk.made w5 _ _)
              replace C9_0 := Lib.hid (C9_0.out.keep hal)
              replace C9_1 := Lib.hid (C9_1.out.keep hal)
              replace hx := below_callS hx hal
              clear hHeld hal
              rw [← hwa]
              clear hwa
              go_wp2_with fail
              refine hK.out _ _ ⟨K0.out.keep hx, K1.out.keep hx⟩ (fun hHeld => ?_)
              clear hK K
              try simp only [pu]
              refine wpAnyH_ready (rs := [4]) (by kernel_rfl) (by simp) ?_
              refine AllReadyH.cons rfl (fun K hK => ?_) AllReadyH.nil
              go_simp
              have hz3 := hx.size
              refine Calls.mono (Hspec.out _ _ _ _ _ C9_0.out C9_1.out) ?_
              rintro e w10 ⟨nw10, aw10, cw10, rfl, hbn, ho⟩
              have O9 := Lib.hid ho.own
              have ln9 := ho.len
              have bk9 := ho.blk
              clear C9_0 C9_1
              have hy_w10 := hbn.size
              replace RZ := Lib.hid (RZ.out.keep hbn)
              replace hx := below_callS hx hbn
              clear ho hbn hHeld
              go_wp2_with fail
              refine hK.out _ _ ⟨K0.out.keep hx, K1.out.keep hx⟩ (fun hHeld => ?_)
              clear hK K
              try simp only [pu]
              refine tkH0 5 (v := ?_) ?_ ?_
              rotate_left
              · (intro wv hSw; clear hSw; go_simp; try with_reducible rfl)
              try simp only [pu]
              refine tkH0 6 (v := ?_) ?_ ?_
              rotate_left
              · (intro wv hSw; clear hSw; go_simp; try with_reducible rfl)
              try simp only [pu]
              refine tkH0 7 (v := ?_) ?_ ?_
              rotate_left
              · (intro wv hSw; clear hSw; go_simp; try with_reducible rfl)
              try simp only [pu]
              refine wpAnyH_ready (rs := [9]) (by kernel_rfl) (by simp) ?_
              refine AllReadyH.cons rfl (fun K hK => ?_) AllReadyH.nil
              have r0 := RZ.out.cell 0
              have r1 := RZ.out.cell 1
              have r2 := RZ.out.cell 2
              have rl := RZ.out.lt
              have rf := RZ.out.free
              simp only [List.getElem?_toArray, List.getElem?_cons_zero, List.getElem?_cons_succ] at r0 r1 r2
              go_simp
              obtain ⟨w11, hwz⟩ : ∃ v, v = (World.setCell (World.setCell (World.setCell w10 ⟨w5.heap.size, 0, none⟩ (.int .i64 INP)) ⟨w5.heap.size, 1, none⟩ (.slice aw10 nw10 cw10)) ⟨w5.heap.size, 2, none⟩ (.int .i64 RT)) := ⟨_, rfl⟩
              have hon : Only (w5.heap.size) (w5.heap.size + 1) w10 w11 := by rw [hwz]; exact ((((Only.refl (w5.heap.size) (w5.heap.size + 1) w10).set ⟨Nat.le_refl _, Nat.lt_succ_self _⟩ 0 _).set ⟨Nat.le_refl _, Nat.lt_succ_self _⟩ 1 _).set ⟨Nat.le_refl _, Nat.lt_succ_self _⟩ 2 _)
              have RB : Blk w11 (w5.heap.size) #[.int .i64 INP, .slice aw10 nw10 cw10, .int .i64 RT] 40 := by rw [hwz]; exact ((RZ.out.put7 0 _).put7 1 _).put7 2 _
              have hs_w11 := hon.size
              have hcz := hx.size
              replace hx := hon.below hx (by omega) (by omega)
              replace O9 := Lib.hid (O9.out.apart hon (by omega))
              clear r0 r1 r2 rl rf hHeld RZ hon
              rw [← hwz]
              clear hwz
              go_wp2_with fail
              refine hK.out _ _ ⟨K0.out.keep hx, K1.out.keep hx⟩ (fun hHeld => ?_)
              clear hK K
              try simp only [pu]
              refine tkH0 10 (v := ?_) ?_ ?_
              rotate_left
              · (intro wv hSw; clear hSw; go_simp; try with_reducible rfl)
              try simp only [pu]
              refine wpAnyH_done (by kernel_rfl) ?_ _
              refine NoPanic.normal ⟨rfl, w5.heap.size, w9.heap.size, w10.heap.size, nw10, cw10, aw10, .agg #[.slice (some ⟨w4g1, 0, none⟩) n0_1 n0_1, .slice (some ⟨w4g2, 0, none⟩) n0_2 n0_2, .slice (some ⟨w4g3, 0, none⟩) n0_3 n0_3], .agg #[.int .i64 b1, .slice (some ⟨w5g, 0, none⟩) n1 n1, .int .i64 r1], ?_, hx, RB, by omega, by omega, by omega, by omega, ln9, bk9, O9.out⟩
              simp only [Act.put, List.setIfInBounds_toArray, List.set_cons_zero, List.set_cons_succ]
          · skip
            go_simp
            have hp_w12 := hx.size
            obtain ⟨w12, hwa⟩ : ∃ v, v = World.alloc w4 (.cells #[.int .i64 0, .slice none 0 0, .int .i64 0] 40) := ⟨_, rfl⟩
            have hal : Below w4.heap.size w4 w12 := by rw [hwa]; exact below_alloc1 (Below.refl _ _) _
            have hs_w12 : w12.heap.size = w4.heap.size + 1 := by rw [hwa]; exact Array.size_push _
            have RZ := Lib.hid (show Blk w12 w4.heap.size #[.int .i64 0, .slice none 0 0, .int .i64 0] 40 by rw [hwa]; exact Blk.made w4 _ _)
            replace C9_0 := Lib.hid (C9_0.out.keep hal)
            replace hx := below_callS hx hal
            clear hHeld hal
            rw [← hwa]
            clear hwa
            go_wp2_with fail
            refine hK.out _ _ ⟨K0.out.keep hx, K1.out.keep hx⟩ (fun hHeld => ?_)
            clear hK K
            try simp only [pu]
            refine wpAnyH_ready (rs := [3]) (by kernel_rfl) (by simp) ?_
            refine AllReadyH.cons rfl (fun K hK => ?_) AllReadyH.nil
            go_simp
            refine Calls.mono (laws_toDiagram (HI1.out.keep (below_callS hB_w2 hx)) hn1) ?_
            rintro e w13 ⟨w13g, rfl, hbn, ho⟩
            replace C9_0 := Lib.hid (C9_0.out.keep hbn)
            have C9_1 := Lib.hid ho.flats
            have hy_w13 := hbn.size
            replace RZ := Lib.hid (RZ.out.keep hbn)
            replace hx := below_callS hx hbn
            clear ho hbn hHeld
            go_wp2_with fail
            refine hK.out _ _ ⟨K0.out.keep hx, K1.out.keep hx⟩ (fun hHeld => ?_)
            clear hK K
            try simp only [pu]
            refine wpAnyH_ready (rs := [4]) (by kernel_rfl) (by simp) ?_
            refine AllReadyH.cons rfl (fun K hK => ?_) AllReadyH.nil
            go_simp
            have hz3 := hx.size
            refine Calls.mono (Hspec.out _ _ _ _ _ C9_0.out C9_1.out) ?_
            rintro e w14 ⟨nw14, aw14, cw14, rfl, hbn, ho⟩
            have O9 := Lib.hid ho.own
            have ln9 := ho.len
            have bk9 := ho.blk
            clear C9_0 C9_1
            have hy_w14 := hbn.size
            replace RZ := Lib.hid (RZ.out.keep hbn)
            replace hx := below_callS hx hbn
            clear ho hbn hHeld
            go_wp2_with fail
            refine hK.out _ _ ⟨K0.out.keep hx, K1.out.keep hx⟩ (fun hHeld => ?_)
            clear hK K
            try simp only [pu]
            refine tkH0 5 (v := ?_) ?_ ?_
            rotate_left
            · (intro wv hSw; clear hSw; go_simp; try with_reducible rfl)
            try simp only [pu]
            refine tkH0 6 (v := ?_) ?_ ?_
            rotate_left
            · (intro wv hSw; clear hSw; go_simp; try with_reducible rfl)
            try simp only [pu]
            refine tkH0 7 (v := ?_) ?_ ?_
            rotate_left
            · (intro wv hSw; clear hSw; go_simp; try with_reducible rfl)
            try simp only [pu]
            refine wpAnyH_ready (rs := [9]) (by kernel_rfl) (by simp) ?_
            refine AllReadyH.cons rfl (fun K hK => ?_) AllReadyH.nil
            have r0 := RZ.out.cell 0
            have r1 := RZ.out.cell 1
            have r2 := RZ.out.cell 2
            have rl := RZ.out.lt
            have rf := RZ.out.free
            simp only [List.getElem?_toArray, List.getElem?_cons_zero, List.getElem?_cons_succ] at r0 r1 r2
            go_simp
            obtain ⟨w15, hwz⟩ : ∃ v, v = (World.setCell (World.setCell (World.setCell w14 ⟨w4.heap.size, 0, none⟩ (.int .i64 INP)) ⟨w4.heap.size, 1, none⟩ (.slice aw14 nw14 cw14)) ⟨w4.heap.size, 2, none⟩ (.int .i64 RT)) := ⟨_, rfl⟩
            have hon : Only (w4.heap.size) (w4.heap.size + 1) w14 w15 := by rw [hwz]; exact ((((Only.refl (w4.heap.size) (w4.heap.size + 1) w14).set ⟨Nat.le_refl _, Nat.lt_succ_self _⟩ 0 _).set ⟨Nat.le_refl _, Nat.lt_succ_self _⟩ 1 _).set ⟨Nat.le_refl _, Nat.lt_succ_self _⟩ 2 _)
            have RB : Blk w15 (w4.heap.size) #[.int .i64 INP, .slice aw14 nw14 cw14, .int .i64 RT] 40 := by rw [hwz]; exact ((RZ.out.put7 0 _).put7 1 _).put7 2 _
            have hs_w15 := hon.size
            have hcz := hx.size
            replace hx := hon.below hx (by omega) (by omega)
            replace O9 := Lib.hid (O9.out.apart hon (by omega))
            clear r0 r1 r2 rl rf hHeld RZ hon
            rw [← hwz]
            clear hwz
            go_wp2_with fail
            refine hK.out _ _ ⟨K0.out.keep hx, K1.out.keep hx⟩ (fun hHeld => ?_)
            clear hK K
            try simp only [pu]
            refine tkH0 10 (v := ?_) ?_ ?_
            rotate_left
            · (intro wv hSw; clear hSw; go_simp; try with_reducible rfl)
            try simp only [pu]
            refine wpAnyH_done (by kernel_rfl) ?_ _
            refine NoPanic.normal ⟨rfl, w4.heap.size, w13.heap.size, w14.heap.size, nw14, cw14, aw14, .agg #[.slice (some ⟨w4g1, 0, none⟩) n0_1 n0_1, .slice (some ⟨w4g2, 0, none⟩) n0_2 n0_2, .slice (some ⟨w4g3, 0, none⟩) n0_3 n0_3], .agg #[.int .i64 b1, .slice (some ⟨w13g, 0, none⟩) n1 n1, .int .i64 r1], ?_, hx, RB, by omega, by omega, by omega, by omega, ln9, bk9, O9.out⟩
            simp only [Act.put, List.setIfInBounds_toArray, List.set_cons_zero, List.set_cons_succ]
        · skip
          go_simp
          have hp_w16 := hx.size
          obtain ⟨w16, hwa⟩ : ∃ v, v = (World.alloc w2 (.cells #[.int .i64 0, .slice none 0 0, .int .i64 0] 40)).drew := ⟨_, rfl⟩
          replace hx : Below w2.heap.size w2 w16 := by rw [hwa]; exact (below_alloc1 (Below.refl _ _) _).drew
          have RZ := Lib.hid (show Blk w16 w2.heap.size #[.int .i64 0, .slice none 0 0, .int .i64 0] 40 by rw [hwa]; exact (Blk.made w2 _ _).drew)
          have hs_w16 : w16.heap.size = w2.heap.size + 1 := by rw [hwa]; exact Array.size_push _
          clear hHeld
          rw [← hwa]
          clear hwa
          go_wp2_with fail
          refine hK.out _ _ ⟨K0.out.keep hx, K1.out.keep hx⟩ (fun hHeld => ?_)
          clear hK K
          try simp only [pu]
          refine wpAnyH_ready (rs := [1]) (by kernel_rfl) (by simp) ?_
          refine AllReadyH.cons rfl (fun K hK => ?_) AllReadyH.nil
          go_simp
          refine Calls.mono (laws_toModel (HI0.out.keep (below_callS hB_w2 hx))) ?_
          rintro e w17 ⟨w17g1, w17g2, w17g3, rfl, hbn, ho⟩
          have C9_0 := Lib.hid ho.rd
          have hy_w17 := hbn.size
          replace RZ := Lib.hid (RZ.out.keep hbn)
          replace hx := below_callS hx hbn
          clear ho hbn hHeld
          go_wp2_with fail
          refine hK.out _ _ ⟨K0.out.keep hx, K1.out.keep hx⟩ (fun hHeld => ?_)
          clear hK K
          try simp only [pu]
          refine wpAnyH_ready (rs := [3]) (by kernel_rfl) (by simp) ?_
          refine AllReadyH.cons rfl (fun K hK => ?_) AllReadyH.nil
          go_simp
          refine Calls.mono (laws_toDiagram (HI1.out.keep (below_callS hB_w2 hx)) hn1) ?_
          rintro e w18 ⟨w18g, rfl, hbn, ho⟩
          replace C9_0 := Lib.hid (C9_0.out.keep hbn)
          have C9_1 := Lib.hid ho.flats
          have hy_w18 := hbn.size
          replace RZ := Lib.hid (RZ.out.keep hbn)
          replace hx := below_callS hx hbn
          clear ho hbn hHeld
          go_wp2_with fail
          refine hK.out _ _ ⟨K0.out.keep hx, K1.out.keep hx⟩ (fun hHeld => ?_)
          clear hK K
          try simp only [pu]
          refine wpAnyH_ready (rs := [4]) (by kernel_rfl) (by simp) ?_
          refine AllReadyH.cons rfl (fun K hK => ?_) AllReadyH.nil
          go_simp
          have hz3 := hx.size
          refine Calls.mono (Hspec.out _ _ _ _ _ C9_0.out C9_1.out) ?_
          rintro e w19 ⟨nw19, aw19, cw19, rfl, hbn, ho⟩
          have O9 := Lib.hid ho.own
          have ln9 := ho.len
          have bk9 := ho.blk
          clear C9_0 C9_1
          have hy_w19 := hbn.size
          replace RZ := Lib.hid (RZ.out.keep hbn)
          replace hx := below_callS hx hbn
          clear ho hbn hHeld
          go_wp2_with fail
          refine hK.out _ _ ⟨K0.out.keep hx, K1.out.keep hx⟩ (fun hHeld => ?_)
          clear hK K
          try simp only [pu]
          refine tkH0 5 (v := ?_) ?_ ?_
          rotate_left
          · (intro wv hSw; clear hSw; go_simp; try with_reducible rfl)
          try simp only [pu]
          refine tkH0 6 (v := ?_) ?_ ?_
          rotate_left
          · (intro wv hSw; clear hSw; go_simp; try with_reducible rfl)
          try simp only [pu]
          refine tkH0 7 (v := ?_) ?_ ?_
          rotate_left
          · (intro wv hSw; clear hSw; go_simp; try with_reducible rfl)
          try simp only [pu]
          refine wpAnyH_ready (rs := [9]) (by kernel_rfl) (by simp) ?_
          refine AllReadyH.cons rfl (fun K hK => ?_) AllReadyH.nil
          have r0 := RZ.out.cell 0
          have r1 := RZ.out.cell 1
          have r2 := RZ.out.cell 2
          have rl := RZ.out.lt
          have rf := RZ.out.free
          simp only [List.getElem?_toArray, List.getElem?_cons_zero, List.getElem?_cons_succ] at r0 r1 r2
          go_simp
          obtain ⟨w20, hwz⟩ : ∃ v, v = (World.setCell (World.setCell (World.setCell w19 ⟨w2.heap.size, 0, none⟩ (.int .i64 INP)) ⟨w2.heap.size, 1, none⟩ (.slice aw19 nw19 cw19)) ⟨w2.heap.size, 2, none⟩ (.int .i64 RT)) := ⟨_, rfl⟩
          have hon : Only (w2.heap.size) (w2.heap.size + 1) w19 w20 := by rw [hwz]; exact ((((Only.refl (w2.heap.size) (w2.heap.size + 1) w19).set ⟨Nat.le_refl _, Nat.lt_succ_self _⟩ 0 _).set ⟨Nat.le_refl _, Nat.lt_succ_self _⟩ 1 _).set ⟨Nat.le_refl _, Nat.lt_succ_self _⟩ 2 _)
          have RB : Blk w20 (w2.heap.size) #[.int .i64 INP, .slice aw19 nw19 cw19, .int .i64 RT] 40 := by rw [hwz]; exact ((RZ.out.put7 0 _).put7 1 _).put7 2 _
          have hs_w20 := hon.size
          have hcz := hx.size
          replace hx := hon.below hx (by omega) (by omega)
          replace O9 := Lib.hid (O9.out.apart hon (by omega))
          clear r0 r1 r2 rl rf hHeld RZ hon
          rw [← hwz]
          clear hwz
          go_wp2_with fail
          refine hK.out _ _ ⟨K0.out.keep hx, K1.out.keep hx⟩ (fun hHeld => ?_)
          clear hK K
          try simp only [pu]
          refine tkH0 10 (v := ?_) ?_ ?_
          rotate_left
          · (intro wv hSw; clear hSw; go_simp; try with_reducible rfl)
          try simp only [pu]
          refine wpAnyH_done (by kernel_rfl) ?_ _
          refine NoPanic.normal ⟨rfl, w2.heap.size, w18.heap.size, w19.heap.size, nw19, cw19, aw19, .agg #[.slice (some ⟨w17g1, 0, none⟩) n0_1 n0_1, .slice (some ⟨w17g2, 0, none⟩) n0_2 n0_2, .slice (some ⟨w17g3, 0, none⟩) n0_3 n0_3], .agg #[.int .i64 b1, .slice (some ⟨w18g, 0, none⟩) n1 n1, .int .i64 r1], ?_, hx, RB, by omega, by omega, by omega, by omega, ln9, bk9, O9.out⟩
          simp only [Act.put, List.setIfInBounds_toArray, List.set_cons_zero, List.set_cons_succ]
      rintro A1 w21 ⟨p3, lo3, hi3, n3_0, c3_0, a3_0, u1, u3, rfl, hb_w21, hR, hp1_3, hp2_3, hp3_3, hp4_3, ln3_0, O3_0b, hO⟩
      have O3_0 := Lib.hid hO
      have R3_0 := Lib.hid hR
      have hpl_3 := hR.lt
      clear hO hR
      have hs_w21 := hb_w21.size
      try simp only [pu]
      have hst : Below w2.heap.size w2 w21 := bel
      have hB_w21 : Below w.heap.size w w21 := below_callS hB_w2 hst
      replace K0 := Lib.hid (K0.out.keep hst)
      replace K1 := Lib.hid (K1.out.keep hst)
      clear hst hb_w21 hB_w2
      have hln0 : n3_0 ≤ 1048576 := by have := hlen; omega
      have u_K0_0 : w21.cell? ⟨w.heap.size, 0, none⟩ = some (.slice a0_1 n0_1 c0_1) := (K0.out).cell 0
      have u_K0_1 : w21.cell? ⟨w.heap.size, 1, none⟩ = some (.slice a0_2 n0_2 c0_2) := (K0.out).cell 1
      have u_K0_2 : w21.cell? ⟨w.heap.size, 2, none⟩ = some (.slice a0_3 n0_3 c0_3) := (K0.out).cell 2
      have v_K0 : w.heap.size < w21.heap.size := (K0.out).lt
      have u_K1_0 : w21.cell? ⟨w.heap.size + 1, 0, none⟩ = some (.int .i64 b1) := (K1.out).cell 0
      have u_K1_1 : w21.cell? ⟨w.heap.size + 1, 1, none⟩ = some (.slice a1 n1 c1) := (K1.out).cell 1
      have u_K1_2 : w21.cell? ⟨w.heap.size + 1, 2, none⟩ = some (.int .i64 r1) := (K1.out).cell 2
      have v_K1 : w.heap.size + 1 < w21.heap.size := (K1.out).lt
      have u_R3_0_0 : w21.cell? ⟨p3, 0, none⟩ = some (.int .i64 INP) := (R3_0.out).cell 0
      have u_R3_0_1 : w21.cell? ⟨p3, 1, none⟩ = some (.slice a3_0 n3_0 c3_0) := (R3_0.out).cell 1
      have u_R3_0_2 : w21.cell? ⟨p3, 2, none⟩ = some (.int .i64 RT) := (R3_0.out).cell 2
      have v_R3_0 : p3 < w21.heap.size := (R3_0.out).lt
      go_wp2_with fail
      refine Calls.mono (laws_toModel (HI0.out.keep bel)) ?_
      rintro e w22 ⟨g22_1, g22_2, g22_3, rfl, hb_w22, ho22⟩
      have hs_w22 := hb_w22.size
      clear u_K0_0 u_K0_1 u_K0_2 v_K0 u_K1_0 u_K1_1 u_K1_2 v_K1 u_R3_0_0 u_R3_0_1 u_R3_0_2 v_R3_0
      have O22 := Lib.hid (ho22.own (Nat.le_refl _))
      clear ho22
      have hst : Below w21.heap.size w21 w22 := bel
      have hB_w22 : Below w.heap.size w w22 := below_callS hB_w21 hst
      replace K0 := Lib.hid (K0.out.keep hst)
      replace K1 := Lib.hid (K1.out.keep hst)
      replace R3_0 := Lib.hid (R3_0.out.keep hst)
      replace O3_0 := Lib.hid (O3_0.out.keep hst)
      clear hst hb_w22 hB_w21
      have u_K0_0 : (w22.alloc (.cells #[.slice (some ⟨g22_1, 0, none⟩) n0_1 n0_1, .slice (some ⟨g22_2, 0, none⟩) n0_2 n0_2, .slice (some ⟨g22_3, 0, none⟩) n0_3 n0_3] 36)).cell? ⟨w.heap.size, 0, none⟩ = some (.slice a0_1 n0_1 c0_1) := (K0.out.keep (show Below w22.heap.size w22 (w22.alloc (.cells #[.slice (some ⟨g22_1, 0, none⟩) n0_1 n0_1, .slice (some ⟨g22_2, 0, none⟩) n0_2 n0_2, .slice (some ⟨g22_3, 0, none⟩) n0_3 n0_3] 36)) from bel)).cell 0
      have u_K0_1 : (w22.alloc (.cells #[.slice (some ⟨g22_1, 0, none⟩) n0_1 n0_1, .slice (some ⟨g22_2, 0, none⟩) n0_2 n0_2, .slice (some ⟨g22_3, 0, none⟩) n0_3 n0_3] 36)).cell? ⟨w.heap.size, 1, none⟩ = some (.slice a0_2 n0_2 c0_2) := (K0.out.keep (show Below w22.heap.size w22 (w22.alloc (.cells #[.slice (some ⟨g22_1, 0, none⟩) n0_1 n0_1, .slice (some ⟨g22_2, 0, none⟩) n0_2 n0_2, .slice (some ⟨g22_3, 0, none⟩) n0_3 n0_3] 36)) from bel)).cell 1
      have u_K0_2 : (w22.alloc (.cells #[.slice (some ⟨g22_1, 0, none⟩) n0_1 n0_1, .slice (some ⟨g22_2, 0, none⟩) n0_2 n0_2, .slice (some ⟨g22_3, 0, none⟩) n0_3 n0_3] 36)).cell? ⟨w.heap.size, 2, none⟩ = some (.slice a0_3 n0_3 c0_3) := (K0.out.keep (show Below w22.heap.size w22 (w22.alloc (.cells #[.slice (some ⟨g22_1, 0, none⟩) n0_1 n0_1, .slice (some ⟨g22_2, 0, none⟩) n0_2 n0_2, .slice (some ⟨g22_3, 0, none⟩) n0_3 n0_3] 36)) from bel)).cell 2
      have v_K0 : w.heap.size < (w22.alloc (.cells #[.slice (some ⟨g22_1, 0, none⟩) n0_1 n0_1, .slice (some ⟨g22_2, 0, none⟩) n0_2 n0_2, .slice (some ⟨g22_3, 0, none⟩) n0_3 n0_3] 36)).heap.size := (K0.out.keep (show Below w22.heap.size w22 (w22.alloc (.cells #[.slice (some ⟨g22_1, 0, none⟩) n0_1 n0_1, .slice (some ⟨g22_2, 0, none⟩) n0_2 n0_2, .slice (some ⟨g22_3, 0, none⟩) n0_3 n0_3] 36)) from bel)).lt
      have u_K1_0 : (w22.alloc (.cells #[.slice (some ⟨g22_1, 0, none⟩) n0_1 n0_1, .slice (some ⟨g22_2, 0, none⟩) n0_2 n0_2, .slice (some ⟨g22_3, 0, none⟩) n0_3 n0_3] 36)).cell? ⟨w.heap.size + 1, 0, none⟩ = some (.int .i64 b1) := (K1.out.keep (show Below w22.heap.size w22 (w22.alloc (.cells #[.slice (some ⟨g22_1, 0, none⟩) n0_1 n0_1, .slice (some ⟨g22_2, 0, none⟩) n0_2 n0_2, .slice (some ⟨g22_3, 0, none⟩) n0_3 n0_3] 36)) from bel)).cell 0
      have u_K1_1 : (w22.alloc (.cells #[.slice (some ⟨g22_1, 0, none⟩) n0_1 n0_1, .slice (some ⟨g22_2, 0, none⟩) n0_2 n0_2, .slice (some ⟨g22_3, 0, none⟩) n0_3 n0_3] 36)).cell? ⟨w.heap.size + 1, 1, none⟩ = some (.slice a1 n1 c1) := (K1.out.keep (show Below w22.heap.size w22 (w22.alloc (.cells #[.slice (some ⟨g22_1, 0, none⟩) n0_1 n0_1, .slice (some ⟨g22_2, 0, none⟩) n0_2 n0_2, .slice (some ⟨g22_3, 0, none⟩) n0_3 n0_3] 36)) from bel)).cell 1
      have u_K1_2 : (w22.alloc (.cells #[.slice (some ⟨g22_1, 0, none⟩) n0_1 n0_1, .slice (some ⟨g22_2, 0, none⟩) n0_2 n0_2, .slice (some ⟨g22_3, 0, none⟩) n0_3 n0_3] 36)).cell? ⟨w.heap.size + 1, 2, none⟩ = some (.int .i64 r1) := (K1.out.keep (show Below w22.heap.size w22 (w22.alloc (.cells #[.slice (some ⟨g22_1, 0, none⟩) n0_1 n0_1, .slice (some ⟨g22_2, 0, none⟩) n0_2 n0_2, .slice (some ⟨g22_3, 0, none⟩) n0_3 n0_3] 36)) from bel)).cell 2
      have v_K1 : w.heap.size + 1 < (w22.alloc (.cells #[.slice (some ⟨g22_1, 0, none⟩) n0_1 n0_1, .slice (some ⟨g22_2, 0, none⟩) n0_2 n0_2, .slice (some ⟨g22_3, 0, none⟩) n0_3 n0_3] 36)).heap.size := (K1.out.keep (show Below w22.heap.size w22 (w22.alloc (.cells #[.slice (some ⟨g22_1, 0, none⟩) n0_1 n0_1, .slice (some ⟨g22_2, 0, none⟩) n0_2 n0_2, .slice (some ⟨g22_3, 0, none⟩) n0_3 n0_3] 36)) from bel)).lt
      have u_R3_0_0 : (w22.alloc (.cells #[.slice (some ⟨g22_1, 0, none⟩) n0_1 n0_1, .slice (some ⟨g22_2, 0, none⟩) n0_2 n0_2, .slice (some ⟨g22_3, 0, none⟩) n0_3 n0_3] 36)).cell? ⟨p3, 0, none⟩ = some (.int .i64 INP) := (R3_0.out.keep (show Below w22.heap.size w22 (w22.alloc (.cells #[.slice (some ⟨g22_1, 0, none⟩) n0_1 n0_1, .slice (some ⟨g22_2, 0, none⟩) n0_2 n0_2, .slice (some ⟨g22_3, 0, none⟩) n0_3 n0_3] 36)) from bel)).cell 0
      have u_R3_0_1 : (w22.alloc (.cells #[.slice (some ⟨g22_1, 0, none⟩) n0_1 n0_1, .slice (some ⟨g22_2, 0, none⟩) n0_2 n0_2, .slice (some ⟨g22_3, 0, none⟩) n0_3 n0_3] 36)).cell? ⟨p3, 1, none⟩ = some (.slice a3_0 n3_0 c3_0) := (R3_0.out.keep (show Below w22.heap.size w22 (w22.alloc (.cells #[.slice (some ⟨g22_1, 0, none⟩) n0_1 n0_1, .slice (some ⟨g22_2, 0, none⟩) n0_2 n0_2, .slice (some ⟨g22_3, 0, none⟩) n0_3 n0_3] 36)) from bel)).cell 1
      have u_R3_0_2 : (w22.alloc (.cells #[.slice (some ⟨g22_1, 0, none⟩) n0_1 n0_1, .slice (some ⟨g22_2, 0, none⟩) n0_2 n0_2, .slice (some ⟨g22_3, 0, none⟩) n0_3 n0_3] 36)).cell? ⟨p3, 2, none⟩ = some (.int .i64 RT) := (R3_0.out.keep (show Below w22.heap.size w22 (w22.alloc (.cells #[.slice (some ⟨g22_1, 0, none⟩) n0_1 n0_1, .slice (some ⟨g22_2, 0, none⟩) n0_2 n0_2, .slice (some ⟨g22_3, 0, none⟩) n0_3 n0_3] 36)) from bel)).cell 2
      have v_R3_0 : p3 < (w22.alloc (.cells #[.slice (some ⟨g22_1, 0, none⟩) n0_1 n0_1, .slice (some ⟨g22_2, 0, none⟩) n0_2 n0_2, .slice (some ⟨g22_3, 0, none⟩) n0_3 n0_3] 36)).heap.size := (R3_0.out.keep (show Below w22.heap.size w22 (w22.alloc (.cells #[.slice (some ⟨g22_1, 0, none⟩) n0_1 n0_1, .slice (some ⟨g22_2, 0, none⟩) n0_2 n0_2, .slice (some ⟨g22_3, 0, none⟩) n0_3 n0_3] 36)) from bel)).lt
      have y_X0 : Blk (w22.alloc (.cells #[.slice (some ⟨g22_1, 0, none⟩) n0_1 n0_1, .slice (some ⟨g22_2, 0, none⟩) n0_2 n0_2, .slice (some ⟨g22_3, 0, none⟩) n0_3 n0_3] 36)) (w22.heap.size) #[.slice (some ⟨g22_1, 0, none⟩) n0_1 n0_1, .slice (some ⟨g22_2, 0, none⟩) n0_2 n0_2, .slice (some ⟨g22_3, 0, none⟩) n0_3 n0_3] 36 := by have hh := (Blk.made w22 #[.slice (some ⟨g22_1, 0, none⟩) n0_1 n0_1, .slice (some ⟨g22_2, 0, none⟩) n0_2 n0_2, .slice (some ⟨g22_3, 0, none⟩) n0_3 n0_3] 36); simpa using hh
      have u_X0_0 : (w22.alloc (.cells #[.slice (some ⟨g22_1, 0, none⟩) n0_1 n0_1, .slice (some ⟨g22_2, 0, none⟩) n0_2 n0_2, .slice (some ⟨g22_3, 0, none⟩) n0_3 n0_3] 36)).cell? ⟨w22.heap.size, 0, none⟩ = some (.slice (some ⟨g22_1, 0, none⟩) n0_1 n0_1) := y_X0.cell 0
      have u_X0_1 : (w22.alloc (.cells #[.slice (some ⟨g22_1, 0, none⟩) n0_1 n0_1, .slice (some ⟨g22_2, 0, none⟩) n0_2 n0_2, .slice (some ⟨g22_3, 0, none⟩) n0_3 n0_3] 36)).cell? ⟨w22.heap.size, 1, none⟩ = some (.slice (some ⟨g22_2, 0, none⟩) n0_2 n0_2) := y_X0.cell 1
      have u_X0_2 : (w22.alloc (.cells #[.slice (some ⟨g22_1, 0, none⟩) n0_1 n0_1, .slice (some ⟨g22_2, 0, none⟩) n0_2 n0_2, .slice (some ⟨g22_3, 0, none⟩) n0_3 n0_3] 36)).cell? ⟨w22.heap.size, 2, none⟩ = some (.slice (some ⟨g22_3, 0, none⟩) n0_3 n0_3) := y_X0.cell 2
      have v_X0 : w22.heap.size < (w22.alloc (.cells #[.slice (some ⟨g22_1, 0, none⟩) n0_1 n0_1, .slice (some ⟨g22_2, 0, none⟩) n0_2 n0_2, .slice (some ⟨g22_3, 0, none⟩) n0_3 n0_3] 36)).heap.size := y_X0.lt
      go_wp2_with fail
      refine Calls.mono (laws_toDiagram (HI1.out.keep bel) hn1) ?_
      rintro e w23 ⟨g23, rfl, hb_w23, ho23⟩
      have hs_w23 := hb_w23.size
      simp at hs_w23
      clear u_K0_0 u_K0_1 u_K0_2 v_K0 u_K1_0 u_K1_1 u_K1_2 v_K1 u_R3_0_0 u_R3_0_1 u_R3_0_2 v_R3_0 y_X0 u_X0_0 u_X0_1 u_X0_2 v_X0
      have ko23 := ho23.blk g23 rfl
      have O23 := Lib.hid (ho23.own)
      clear ho23
      simp at O23 ko23
      have hst : Below w22.heap.size w22 w23 := bel
      have hB_w23 : Below w.heap.size w w23 := below_callS hB_w22 hst
      replace K0 := Lib.hid (K0.out.keep hst)
      replace K1 := Lib.hid (K1.out.keep hst)
      replace R3_0 := Lib.hid (R3_0.out.keep hst)
      replace O3_0 := Lib.hid (O3_0.out.keep hst)
      replace O22 := Lib.hid (O22.out.keep hst)
      have X0 := Lib.hid (show Blk w23 (w22.heap.size) #[.slice (some ⟨g22_1, 0, none⟩) n0_1 n0_1, .slice (some ⟨g22_2, 0, none⟩) n0_2 n0_2, .slice (some ⟨g22_3, 0, none⟩) n0_3 n0_3] 36 by have hh := ((Blk.made w22 #[.slice (some ⟨g22_1, 0, none⟩) n0_1 n0_1, .slice (some ⟨g22_2, 0, none⟩) n0_2 n0_2, .slice (some ⟨g22_3, 0, none⟩) n0_3 n0_3] 36)).keep hb_w23; simpa using hh)
      clear hst hb_w23 hB_w22
      have u_K0_0 : (w23.alloc (.cells #[.int .i64 b1, .slice (some ⟨g23, 0, none⟩) n1 n1, .int .i64 r1] 40)).cell? ⟨w.heap.size, 0, none⟩ = some (.slice a0_1 n0_1 c0_1) := (K0.out.keep (show Below w23.heap.size w23 (w23.alloc (.cells #[.int .i64 b1, .slice (some ⟨g23, 0, none⟩) n1 n1, .int .i64 r1] 40)) from bel)).cell 0
      have u_K0_1 : (w23.alloc (.cells #[.int .i64 b1, .slice (some ⟨g23, 0, none⟩) n1 n1, .int .i64 r1] 40)).cell? ⟨w.heap.size, 1, none⟩ = some (.slice a0_2 n0_2 c0_2) := (K0.out.keep (show Below w23.heap.size w23 (w23.alloc (.cells #[.int .i64 b1, .slice (some ⟨g23, 0, none⟩) n1 n1, .int .i64 r1] 40)) from bel)).cell 1
      have u_K0_2 : (w23.alloc (.cells #[.int .i64 b1, .slice (some ⟨g23, 0, none⟩) n1 n1, .int .i64 r1] 40)).cell? ⟨w.heap.size, 2, none⟩ = some (.slice a0_3 n0_3 c0_3) := (K0.out.keep (show Below w23.heap.size w23 (w23.alloc (.cells #[.int .i64 b1, .slice (some ⟨g23, 0, none⟩) n1 n1, .int .i64 r1] 40)) from bel)).cell 2
      have v_K0 : w.heap.size < (w23.alloc (.cells #[.int .i64 b1, .slice (some ⟨g23, 0, none⟩) n1 n1, .int .i64 r1] 40)).heap.size := (K0.out.keep (show Below w23.heap.size w23 (w23.alloc (.cells #[.int .i64 b1, .slice (some ⟨g23, 0, none⟩) n1 n1, .int .i64 r1] 40)) from bel)).lt
      have u_K1_0 : (w23.alloc (.cells #[.int .i64 b1, .slice (some ⟨g23, 0, none⟩) n1 n1, .int .i64 r1] 40)).cell? ⟨w.heap.size + 1, 0, none⟩ = some (.int .i64 b1) := (K1.out.keep (show Below w23.heap.size w23 (w23.alloc (.cells #[.int .i64 b1, .slice (some ⟨g23, 0, none⟩) n1 n1, .int .i64 r1] 40)) from bel)).cell 0
      have u_K1_1 : (w23.alloc (.cells #[.int .i64 b1, .slice (some ⟨g23, 0, none⟩) n1 n1, .int .i64 r1] 40)).cell? ⟨w.heap.size + 1, 1, none⟩ = some (.slice a1 n1 c1) := (K1.out.keep (show Below w23.heap.size w23 (w23.alloc (.cells #[.int .i64 b1, .slice (some ⟨g23, 0, none⟩) n1 n1, .int .i64 r1] 40)) from bel)).cell 1
      have u_K1_2 : (w23.alloc (.cells #[.int .i64 b1, .slice (some ⟨g23, 0, none⟩) n1 n1, .int .i64 r1] 40)).cell? ⟨w.heap.size + 1, 2, none⟩ = some (.int .i64 r1) := (K1.out.keep (show Below w23.heap.size w23 (w23.alloc (.cells #[.int .i64 b1, .slice (some ⟨g23, 0, none⟩) n1 n1, .int .i64 r1] 40)) from bel)).cell 2
      have v_K1 : w.heap.size + 1 < (w23.alloc (.cells #[.int .i64 b1, .slice (some ⟨g23, 0, none⟩) n1 n1, .int .i64 r1] 40)).heap.size := (K1.out.keep (show Below w23.heap.size w23 (w23.alloc (.cells #[.int .i64 b1, .slice (some ⟨g23, 0, none⟩) n1 n1, .int .i64 r1] 40)) from bel)).lt
      have u_R3_0_0 : (w23.alloc (.cells #[.int .i64 b1, .slice (some ⟨g23, 0, none⟩) n1 n1, .int .i64 r1] 40)).cell? ⟨p3, 0, none⟩ = some (.int .i64 INP) := (R3_0.out.keep (show Below w23.heap.size w23 (w23.alloc (.cells #[.int .i64 b1, .slice (some ⟨g23, 0, none⟩) n1 n1, .int .i64 r1] 40)) from bel)).cell 0
      have u_R3_0_1 : (w23.alloc (.cells #[.int .i64 b1, .slice (some ⟨g23, 0, none⟩) n1 n1, .int .i64 r1] 40)).cell? ⟨p3, 1, none⟩ = some (.slice a3_0 n3_0 c3_0) := (R3_0.out.keep (show Below w23.heap.size w23 (w23.alloc (.cells #[.int .i64 b1, .slice (some ⟨g23, 0, none⟩) n1 n1, .int .i64 r1] 40)) from bel)).cell 1
      have u_R3_0_2 : (w23.alloc (.cells #[.int .i64 b1, .slice (some ⟨g23, 0, none⟩) n1 n1, .int .i64 r1] 40)).cell? ⟨p3, 2, none⟩ = some (.int .i64 RT) := (R3_0.out.keep (show Below w23.heap.size w23 (w23.alloc (.cells #[.int .i64 b1, .slice (some ⟨g23, 0, none⟩) n1 n1, .int .i64 r1] 40)) from bel)).cell 2
      have v_R3_0 : p3 < (w23.alloc (.cells #[.int .i64 b1, .slice (some ⟨g23, 0, none⟩) n1 n1, .int .i64 r1] 40)).heap.size := (R3_0.out.keep (show Below w23.heap.size w23 (w23.alloc (.cells #[.int .i64 b1, .slice (some ⟨g23, 0, none⟩) n1 n1, .int .i64 r1] 40)) from bel)).lt
      have u_X0_0 : (w23.alloc (.cells #[.int .i64 b1, .slice (some ⟨g23, 0, none⟩) n1 n1, .int .i64 r1] 40)).cell? ⟨w22.heap.size, 0, none⟩ = some (.slice (some ⟨g22_1, 0, none⟩) n0_1 n0_1) := (X0.out.keep (show Below w23.heap.size w23 (w23.alloc (.cells #[.int .i64 b1, .slice (some ⟨g23, 0, none⟩) n1 n1, .int .i64 r1] 40)) from bel)).cell 0
      have u_X0_1 : (w23.alloc (.cells #[.int .i64 b1, .slice (some ⟨g23, 0, none⟩) n1 n1, .int .i64 r1] 40)).cell? ⟨w22.heap.size, 1, none⟩ = some (.slice (some ⟨g22_2, 0, none⟩) n0_2 n0_2) := (X0.out.keep (show Below w23.heap.size w23 (w23.alloc (.cells #[.int .i64 b1, .slice (some ⟨g23, 0, none⟩) n1 n1, .int .i64 r1] 40)) from bel)).cell 1
      have u_X0_2 : (w23.alloc (.cells #[.int .i64 b1, .slice (some ⟨g23, 0, none⟩) n1 n1, .int .i64 r1] 40)).cell? ⟨w22.heap.size, 2, none⟩ = some (.slice (some ⟨g22_3, 0, none⟩) n0_3 n0_3) := (X0.out.keep (show Below w23.heap.size w23 (w23.alloc (.cells #[.int .i64 b1, .slice (some ⟨g23, 0, none⟩) n1 n1, .int .i64 r1] 40)) from bel)).cell 2
      have v_X0 : w22.heap.size < (w23.alloc (.cells #[.int .i64 b1, .slice (some ⟨g23, 0, none⟩) n1 n1, .int .i64 r1] 40)).heap.size := (X0.out.keep (show Below w23.heap.size w23 (w23.alloc (.cells #[.int .i64 b1, .slice (some ⟨g23, 0, none⟩) n1 n1, .int .i64 r1] 40)) from bel)).lt
      have y_X1 : Blk (w23.alloc (.cells #[.int .i64 b1, .slice (some ⟨g23, 0, none⟩) n1 n1, .int .i64 r1] 40)) (w23.heap.size) #[.int .i64 b1, .slice (some ⟨g23, 0, none⟩) n1 n1, .int .i64 r1] 40 := by have hh := (Blk.made w23 #[.int .i64 b1, .slice (some ⟨g23, 0, none⟩) n1 n1, .int .i64 r1] 40); simpa using hh
      have u_X1_0 : (w23.alloc (.cells #[.int .i64 b1, .slice (some ⟨g23, 0, none⟩) n1 n1, .int .i64 r1] 40)).cell? ⟨w23.heap.size, 0, none⟩ = some (.int .i64 b1) := y_X1.cell 0
      have u_X1_1 : (w23.alloc (.cells #[.int .i64 b1, .slice (some ⟨g23, 0, none⟩) n1 n1, .int .i64 r1] 40)).cell? ⟨w23.heap.size, 1, none⟩ = some (.slice (some ⟨g23, 0, none⟩) n1 n1) := y_X1.cell 1
      have u_X1_2 : (w23.alloc (.cells #[.int .i64 b1, .slice (some ⟨g23, 0, none⟩) n1 n1, .int .i64 r1] 40)).cell? ⟨w23.heap.size, 2, none⟩ = some (.int .i64 r1) := y_X1.cell 2
      have v_X1 : w23.heap.size < (w23.alloc (.cells #[.int .i64 b1, .slice (some ⟨g23, 0, none⟩) n1 n1, .int .i64 r1] 40)).heap.size := y_X1.lt
      go_wp2_with fail
      refine Calls.mono (Himpl.out _ _ _ _ _ ((O22.out.keep (show Below w23.heap.size w23 (w23.alloc (.cells #[.int .i64 b1, .slice (some ⟨g23, 0, none⟩) n1 n1, .int .i64 r1] 40)) from bel)).fact.rd) ((O23.out.keep (show Below w23.heap.size w23 (w23.alloc (.cells #[.int .i64 b1, .slice (some ⟨g23, 0, none⟩) n1 n1, .int .i64 r1] 40)) from bel)).fact.flats)) ?_
      rintro e w24 ⟨n24_0, a24_0, c24_0, rfl, hb_w24, ho24_0⟩
      have hs_w24 := hb_w24.size
      simp at hs_w24
      clear u_K0_0 u_K0_1 u_K0_2 v_K0 u_K1_0 u_K1_1 u_K1_2 v_K1 u_R3_0_0 u_R3_0_1 u_R3_0_2 v_R3_0 u_X0_0 u_X0_1 u_X0_2 v_X0 y_X1 u_X1_0 u_X1_1 u_X1_2 v_X1
      have ln24_0 := ho24_0.len
      have O24_0b := ho24_0.blk
      have O24_0 := Lib.hid (ho24_0.own)
      clear ho24_0
      simp at O24_0 O24_0b
      obtain rfl : n3_0 = n24_0 := by omega
      have hst : Below w23.heap.size w23 w24 := bel
      have hB_w24 : Below w.heap.size w w24 := below_callS hB_w23 hst
      replace K0 := Lib.hid (K0.out.keep hst)
      replace K1 := Lib.hid (K1.out.keep hst)
      replace R3_0 := Lib.hid (R3_0.out.keep hst)
      replace X0 := Lib.hid (X0.out.keep hst)
      replace O3_0 := Lib.hid (O3_0.out.keep hst)
      replace O22 := Lib.hid (O22.out.keep hst)
      replace O23 := Lib.hid (O23.out.keep hst)
      have X1 := Lib.hid (show Blk w24 (w23.heap.size) #[.int .i64 b1, .slice (some ⟨g23, 0, none⟩) n1 n1, .int .i64 r1] 40 by have hh := ((Blk.made w23 #[.int .i64 b1, .slice (some ⟨g23, 0, none⟩) n1 n1, .int .i64 r1] 40)).keep hb_w24; simpa using hh)
      clear hst hb_w24 hB_w23
      have u_K0_0 : (w24.alloc (.cells #[.int .i64 INP, .slice a24_0 n3_0 c24_0, .int .i64 RT] 40)).cell? ⟨w.heap.size, 0, none⟩ = some (.slice a0_1 n0_1 c0_1) := (K0.out.keep (show Below w24.heap.size w24 (w24.alloc (.cells #[.int .i64 INP, .slice a24_0 n3_0 c24_0, .int .i64 RT] 40)) from bel)).cell 0
      have u_K0_1 : (w24.alloc (.cells #[.int .i64 INP, .slice a24_0 n3_0 c24_0, .int .i64 RT] 40)).cell? ⟨w.heap.size, 1, none⟩ = some (.slice a0_2 n0_2 c0_2) := (K0.out.keep (show Below w24.heap.size w24 (w24.alloc (.cells #[.int .i64 INP, .slice a24_0 n3_0 c24_0, .int .i64 RT] 40)) from bel)).cell 1
      have u_K0_2 : (w24.alloc (.cells #[.int .i64 INP, .slice a24_0 n3_0 c24_0, .int .i64 RT] 40)).cell? ⟨w.heap.size, 2, none⟩ = some (.slice a0_3 n0_3 c0_3) := (K0.out.keep (show Below w24.heap.size w24 (w24.alloc (.cells #[.int .i64 INP, .slice a24_0 n3_0 c24_0, .int .i64 RT] 40)) from bel)).cell 2
      have v_K0 : w.heap.size < (w24.alloc (.cells #[.int .i64 INP, .slice a24_0 n3_0 c24_0, .int .i64 RT] 40)).heap.size := (K0.out.keep (show Below w24.heap.size w24 (w24.alloc (.cells #[.int .i64 INP, .slice a24_0 n3_0 c24_0, .int .i64 RT] 40)) from bel)).lt
      have u_K1_0 : (w24.alloc (.cells #[.int .i64 INP, .slice a24_0 n3_0 c24_0, .int .i64 RT] 40)).cell? ⟨w.heap.size + 1, 0, none⟩ = some (.int .i64 b1) := (K1.out.keep (show Below w24.heap.size w24 (w24.alloc (.cells #[.int .i64 INP, .slice a24_0 n3_0 c24_0, .int .i64 RT] 40)) from bel)).cell 0
      have u_K1_1 : (w24.alloc (.cells #[.int .i64 INP, .slice a24_0 n3_0 c24_0, .int .i64 RT] 40)).cell? ⟨w.heap.size + 1, 1, none⟩ = some (.slice a1 n1 c1) := (K1.out.keep (show Below w24.heap.size w24 (w24.alloc (.cells #[.int .i64 INP, .slice a24_0 n3_0 c24_0, .int .i64 RT] 40)) from bel)).cell 1
      have u_K1_2 : (w24.alloc (.cells #[.int .i64 INP, .slice a24_0 n3_0 c24_0, .int .i64 RT] 40)).cell? ⟨w.heap.size + 1, 2, none⟩ = some (.int .i64 r1) := (K1.out.keep (show Below w24.heap.size w24 (w24.alloc (.cells #[.int .i64 INP, .slice a24_0 n3_0 c24_0, .int .i64 RT] 40)) from bel)).cell 2
      have v_K1 : w.heap.size + 1 < (w24.alloc (.cells #[.int .i64 INP, .slice a24_0 n3_0 c24_0, .int .i64 RT] 40)).heap.size := (K1.out.keep (show Below w24.heap.size w24 (w24.alloc (.cells #[.int .i64 INP, .slice a24_0 n3_0 c24_0, .int .i64 RT] 40)) from bel)).lt
      have u_R3_0_0 : (w24.alloc (.cells #[.int .i64 INP, .slice a24_0 n3_0 c24_0, .int .i64 RT] 40)).cell? ⟨p3, 0, none⟩ = some (.int .i64 INP) := (R3_0.out.keep (show Below w24.heap.size w24 (w24.alloc (.cells #[.int .i64 INP, .slice a24_0 n3_0 c24_0, .int .i64 RT] 40)) from bel)).cell 0
      have u_R3_0_1 : (w24.alloc (.cells #[.int .i64 INP, .slice a24_0 n3_0 c24_0, .int .i64 RT] 40)).cell? ⟨p3, 1, none⟩ = some (.slice a3_0 n3_0 c3_0) := (R3_0.out.keep (show Below w24.heap.size w24 (w24.alloc (.cells #[.int .i64 INP, .slice a24_0 n3_0 c24_0, .int .i64 RT] 40)) from bel)).cell 1
      have u_R3_0_2 : (w24.alloc (.cells #[.int .i64 INP, .slice a24_0 n3_0 c24_0, .int .i64 RT] 40)).cell? ⟨p3, 2, none⟩ = some (.int .i64 RT) := (R3_0.out.keep (show Below w24.heap.size w24 (w24.alloc (.cells #[.int .i64 INP, .slice a24_0 n3_0 c24_0, .int .i64 RT] 40)) from bel)).cell 2
      have v_R3_0 : p3 < (w24.alloc (.cells #[.int .i64 INP, .slice a24_0 n3_0 c24_0, .int .i64 RT] 40)).heap.size := (R3_0.out.keep (show Below w24.heap.size w24 (w24.alloc (.cells #[.int .i64 INP, .slice a24_0 n3_0 c24_0, .int .i64 RT] 40)) from bel)).lt
      have u_X0_0 : (w24.alloc (.cells #[.int .i64 INP, .slice a24_0 n3_0 c24_0, .int .i64 RT] 40)).cell? ⟨w22.heap.size, 0, none⟩ = some (.slice (some ⟨g22_1, 0, none⟩) n0_1 n0_1) := (X0.out.keep (show Below w24.heap.size w24 (w24.alloc (.cells #[.int .i64 INP, .slice a24_0 n3_0 c24_0, .int .i64 RT] 40)) from bel)).cell 0
      have u_X0_1 : (w24.alloc (.cells #[.int .i64 INP, .slice a24_0 n3_0 c24_0, .int .i64 RT] 40)).cell? ⟨w22.heap.size, 1, none⟩ = some (.slice (some ⟨g22_2, 0, none⟩) n0_2 n0_2) := (X0.out.keep (show Below w24.heap.size w24 (w24.alloc (.cells #[.int .i64 INP, .slice a24_0 n3_0 c24_0, .int .i64 RT] 40)) from bel)).cell 1
      have u_X0_2 : (w24.alloc (.cells #[.int .i64 INP, .slice a24_0 n3_0 c24_0, .int .i64 RT] 40)).cell? ⟨w22.heap.size, 2, none⟩ = some (.slice (some ⟨g22_3, 0, none⟩) n0_3 n0_3) := (X0.out.keep (show Below w24.heap.size w24 (w24.alloc (.cells #[.int .i64 INP, .slice a24_0 n3_0 c24_0, .int .i64 RT] 40)) from bel)).cell 2
      have v_X0 : w22.heap.size < (w24.alloc (.cells #[.int .i64 INP, .slice a24_0 n3_0 c24_0, .int .i64 RT] 40)).heap.size := (X0.out.keep (show Below w24.heap.size w24 (w24.alloc (.cells #[.int .i64 INP, .slice a24_0 n3_0 c24_0, .int .i64 RT] 40)) from bel)).lt
      have u_X1_0 : (w24.alloc (.cells #[.int .i64 INP, .slice a24_0 n3_0 c24_0, .int .i64 RT] 40)).cell? ⟨w23.heap.size, 0, none⟩ = some (.int .i64 b1) := (X1.out.keep (show Below w24.heap.size w24 (w24.alloc (.cells #[.int .i64 INP, .slice a24_0 n3_0 c24_0, .int .i64 RT] 40)) from bel)).cell 0
      have u_X1_1 : (w24.alloc (.cells #[.int .i64 INP, .slice a24_0 n3_0 c24_0, .int .i64 RT] 40)).cell? ⟨w23.heap.size, 1, none⟩ = some (.slice (some ⟨g23, 0, none⟩) n1 n1) := (X1.out.keep (show Below w24.heap.size w24 (w24.alloc (.cells #[.int .i64 INP, .slice a24_0 n3_0 c24_0, .int .i64 RT] 40)) from bel)).cell 1
      have u_X1_2 : (w24.alloc (.cells #[.int .i64 INP, .slice a24_0 n3_0 c24_0, .int .i64 RT] 40)).cell? ⟨w23.heap.size, 2, none⟩ = some (.int .i64 r1) := (X1.out.keep (show Below w24.heap.size w24 (w24.alloc (.cells #[.int .i64 INP, .slice a24_0 n3_0 c24_0, .int .i64 RT] 40)) from bel)).cell 2
      have v_X1 : w23.heap.size < (w24.alloc (.cells #[.int .i64 INP, .slice a24_0 n3_0 c24_0, .int .i64 RT] 40)).heap.size := (X1.out.keep (show Below w24.heap.size w24 (w24.alloc (.cells #[.int .i64 INP, .slice a24_0 n3_0 c24_0, .int .i64 RT] 40)) from bel)).lt
      have y_R24_0 : Blk (w24.alloc (.cells #[.int .i64 INP, .slice a24_0 n3_0 c24_0, .int .i64 RT] 40)) (w24.heap.size) #[.int .i64 INP, .slice a24_0 n3_0 c24_0, .int .i64 RT] 40 := by have hh := (Blk.made w24 #[.int .i64 INP, .slice a24_0 n3_0 c24_0, .int .i64 RT] 40); simpa using hh
      have u_R24_0_0 : (w24.alloc (.cells #[.int .i64 INP, .slice a24_0 n3_0 c24_0, .int .i64 RT] 40)).cell? ⟨w24.heap.size, 0, none⟩ = some (.int .i64 INP) := y_R24_0.cell 0
      have u_R24_0_1 : (w24.alloc (.cells #[.int .i64 INP, .slice a24_0 n3_0 c24_0, .int .i64 RT] 40)).cell? ⟨w24.heap.size, 1, none⟩ = some (.slice a24_0 n3_0 c24_0) := y_R24_0.cell 1
      have u_R24_0_2 : (w24.alloc (.cells #[.int .i64 INP, .slice a24_0 n3_0 c24_0, .int .i64 RT] 40)).cell? ⟨w24.heap.size, 2, none⟩ = some (.int .i64 RT) := y_R24_0.cell 2
      have v_R24_0 : w24.heap.size < (w24.alloc (.cells #[.int .i64 INP, .slice a24_0 n3_0 c24_0, .int .i64 RT] 40)).heap.size := y_R24_0.lt
      go_wp2_with fail
      refine Calls.mono (laws_eqDiagram ((O24_0.out.keep (show Below w24.heap.size w24 (w24.alloc (.cells #[.int .i64 INP, .slice a24_0 n3_0 c24_0, .int .i64 RT] 40)) from bel)).fact.flats) ((O3_0.out.keep (show Below w24.heap.size w24 (w24.alloc (.cells #[.int .i64 INP, .slice a24_0 n3_0 c24_0, .int .i64 RT] 40)) from bel)).fact.flats) hln0 hln0) ?_
      rintro e w25 ⟨rfl, hb_w25⟩
      have hs_w25 := hb_w25.size
      simp at hs_w25
      clear u_K0_0 u_K0_1 u_K0_2 v_K0 u_K1_0 u_K1_1 u_K1_2 v_K1 u_R3_0_0 u_R3_0_1 u_R3_0_2 v_R3_0 u_X0_0 u_X0_1 u_X0_2 v_X0 u_X1_0 u_X1_1 u_X1_2 v_X1 y_R24_0 u_R24_0_0 u_R24_0_1 u_R24_0_2 v_R24_0
      have hst : Below w24.heap.size w24 w25 := bel
      have hB_w25 : Below w.heap.size w w25 := below_callS hB_w24 hst
      replace K0 := Lib.hid (K0.out.keep hst)
      replace K1 := Lib.hid (K1.out.keep hst)
      replace R3_0 := Lib.hid (R3_0.out.keep hst)
      replace X0 := Lib.hid (X0.out.keep hst)
      replace X1 := Lib.hid (X1.out.keep hst)
      replace O3_0 := Lib.hid (O3_0.out.keep hst)
      replace O22 := Lib.hid (O22.out.keep hst)
      replace O23 := Lib.hid (O23.out.keep hst)
      replace O24_0 := Lib.hid (O24_0.out.keep hst)
      have R24_0 := Lib.hid (show Blk w25 (w24.heap.size) #[.int .i64 INP, .slice a24_0 n3_0 c24_0, .int .i64 RT] 40 by have hh := ((Blk.made w24 #[.int .i64 INP, .slice a24_0 n3_0 c24_0, .int .i64 RT] 40)).keep hb_w25; simpa using hh)
      clear hst hb_w25 hB_w24
      go_wp2_with fail
      refine wp_region_noPanic ?_
      refine wp_region_held_drew (S := fun wx => Blk wx (w22.heap.size) #[.slice (some ⟨g22_1, 0, none⟩) n0_1 n0_1, .slice (some ⟨g22_2, 0, none⟩) n0_2 n0_2, .slice (some ⟨g22_3, 0, none⟩) n0_3 n0_3] 36 ∧ Blk wx (w.heap.size) #[.slice a0_1 n0_1 c0_1, .slice a0_2 n0_2 c0_2, .slice a0_3 n0_3 c0_3] 25) (by kernel_rfl) ?_ (fun hHeld => ?_)
      · exact ⟨X0.out.keep (Below.refl _ _).drew, K0.out.keep (Below.refl _ _).drew⟩
      have hx : Below w25.heap.size w25 w25.drew := (Below.refl _ _).drew
      refine tkH0 0 (v := ?_) ?_ ?_
      rotate_left
      · (intro wv hSw; obtain ⟨hq0, hq1⟩ := hSw; have q0_0 := hq0.cell 0; have q0_1 := hq0.cell 1; have q0_2 := hq0.cell 2; have q1_0 := hq1.cell 0; have q1_1 := hq1.cell 1; have q1_2 := hq1.cell 2; have z0 := hq0.lt; have z1 := hq1.lt; simp only [List.getElem?_toArray, List.getElem?_cons_zero, List.getElem?_cons_succ] at q0_0 q0_1 q0_2 q1_0 q1_1 q1_2; clear hq0 hq1; go_simp; try with_reducible rfl)
      try simp only [pu]
      refine tkH0 1 (v := ?_) ?_ ?_
      rotate_left
      · (intro wv hSw; obtain ⟨hq0, hq1⟩ := hSw; have q0_0 := hq0.cell 0; have q0_1 := hq0.cell 1; have q0_2 := hq0.cell 2; have q1_0 := hq1.cell 0; have q1_1 := hq1.cell 1; have q1_2 := hq1.cell 2; have z0 := hq0.lt; have z1 := hq1.lt; simp only [List.getElem?_toArray, List.getElem?_cons_zero, List.getElem?_cons_succ] at q0_0 q0_1 q0_2 q1_0 q1_1 q1_2; clear hq0 hq1; go_simp; try with_reducible rfl)
      try simp only [pu]
      refine wpAnyH_ready (rs := [2]) (by kernel_rfl) (by simp) ?_
      refine AllReadyH.cons rfl (fun K hK => ?_) AllReadyH.nil
      go_simp
      refine Calls.mono (laws_toModel (HI0.out.keep (below_callS hB_w25 hx))) ?_
      rintro e w26 ⟨gw26_1, gw26_2, gw26_3, rfl, hbn, ho⟩
      have C9 := Lib.hid ho.rd
      replace hx := below_callS hx hbn
      clear ho hbn hHeld
      go_wp2_with fail
      refine hK.out _ _ ⟨X0.out.keep hx, K0.out.keep hx⟩ (fun hHeld => ?_)
      clear hK K
      try simp only [pu]
      refine wpAnyH_ready (rs := [3]) (by kernel_rfl) (by simp) ?_
      refine AllReadyH.cons rfl (fun K hK => ?_) AllReadyH.nil
      go_simp
      refine Calls.mono (laws_eqModel (O22.out.keep hx).fact.rd C9.out) ?_
      rintro e w27 ⟨rfl, hbn⟩
      replace hx := below_callS hx hbn
      clear hbn hHeld C9
      go_wp2_with fail
      refine hK.out _ _ ⟨X0.out.keep hx, K0.out.keep hx⟩ (fun hHeld => ?_)
      clear hK K
      try simp only [pu]
      refine tkH0 4 (v := ?_) ?_ ?_
      rotate_left
      · (intro wv hSw; clear hSw; go_simp; try with_reducible rfl)
      try simp only [pu]
      refine wpAnyH_done (by kernel_rfl) ?_ _
      refine NoPanic.normal ?_
      clear hHeld
      have hb_w27 := hx
      have hs_w27 := hx.size
      have hst : Below w25.heap.size w25 w27 := bel
      have hB_w27 : Below w.heap.size w w27 := below_callS hB_w25 hst
      replace K0 := Lib.hid (K0.out.keep hst)
      replace K1 := Lib.hid (K1.out.keep hst)
      replace R3_0 := Lib.hid (R3_0.out.keep hst)
      replace X0 := Lib.hid (X0.out.keep hst)
      replace X1 := Lib.hid (X1.out.keep hst)
      replace R24_0 := Lib.hid (R24_0.out.keep hst)
      replace O3_0 := Lib.hid (O3_0.out.keep hst)
      replace O22 := Lib.hid (O22.out.keep hst)
      replace O23 := Lib.hid (O23.out.keep hst)
      replace O24_0 := Lib.hid (O24_0.out.keep hst)
      clear hst hb_w27 hB_w25
      clear hx
      go_wp2_with fail
      refine wp_region_noPanic ?_
      refine wp_region_held_drew (S := fun wx => Blk wx (w23.heap.size) #[.int .i64 b1, .slice (some ⟨g23, 0, none⟩) n1 n1, .int .i64 r1] 40 ∧ Blk wx (w.heap.size + 1) #[.int .i64 b1, .slice a1 n1 c1, .int .i64 r1] 28) (by kernel_rfl) ?_ (fun hHeld => ?_)
      · exact ⟨X1.out.keep (Below.refl _ _).drew, K1.out.keep (Below.refl _ _).drew⟩
      have hx : Below w27.heap.size w27 w27.drew := (Below.refl _ _).drew
      refine tkH0 0 (v := ?_) ?_ ?_
      rotate_left
      · (intro wv hSw; obtain ⟨hq0, hq1⟩ := hSw; have q0_0 := hq0.cell 0; have q0_1 := hq0.cell 1; have q0_2 := hq0.cell 2; have q1_0 := hq1.cell 0; have q1_1 := hq1.cell 1; have q1_2 := hq1.cell 2; have z0 := hq0.lt; have z1 := hq1.lt; simp only [List.getElem?_toArray, List.getElem?_cons_zero, List.getElem?_cons_succ] at q0_0 q0_1 q0_2 q1_0 q1_1 q1_2; clear hq0 hq1; go_simp; try with_reducible rfl)
      try simp only [pu]
      refine tkH0 1 (v := ?_) ?_ ?_
      rotate_left
      · (intro wv hSw; obtain ⟨hq0, hq1⟩ := hSw; have q0_0 := hq0.cell 0; have q0_1 := hq0.cell 1; have q0_2 := hq0.cell 2; have q1_0 := hq1.cell 0; have q1_1 := hq1.cell 1; have q1_2 := hq1.cell 2; have z0 := hq0.lt; have z1 := hq1.lt; simp only [List.getElem?_toArray, List.getElem?_cons_zero, List.getElem?_cons_succ] at q0_0 q0_1 q0_2 q1_0 q1_1 q1_2; clear hq0 hq1; go_simp; try with_reducible rfl)
      try simp only [pu]
      refine wpAnyH_ready (rs := [2]) (by kernel_rfl) (by simp) ?_
      refine AllReadyH.cons rfl (fun K hK => ?_) AllReadyH.nil
      go_simp
      refine Calls.mono (laws_toDiagram (HI1.out.keep (below_callS hB_w27 hx)) hn1) ?_
      rintro e w28 ⟨gw28, rfl, hbn, ho⟩
      have C9 := Lib.hid ho.flats
      replace hx := below_callS hx hbn
      clear ho hbn hHeld
      go_wp2_with fail
      refine hK.out _ _ ⟨X1.out.keep hx, K1.out.keep hx⟩ (fun hHeld => ?_)
      clear hK K
      try simp only [pu]
      refine wpAnyH_ready (rs := [3]) (by kernel_rfl) (by simp) ?_
      refine AllReadyH.cons rfl (fun K hK => ?_) AllReadyH.nil
      go_simp
      refine Calls.mono (laws_eqDiagram (O23.out.keep hx).fact.flats C9.out hn1 hn1) ?_
      rintro e w29 ⟨rfl, hbn⟩
      replace hx := below_callS hx hbn
      clear hbn hHeld C9
      go_wp2_with fail
      refine hK.out _ _ ⟨X1.out.keep hx, K1.out.keep hx⟩ (fun hHeld => ?_)
      clear hK K
      try simp only [pu]
      refine tkH0 4 (v := ?_) ?_ ?_
      rotate_left
      · (intro wv hSw; clear hSw; go_simp; try with_reducible rfl)
      try simp only [pu]
      refine wpAnyH_done (by kernel_rfl) ?_ _
      refine NoPanic.normal ?_
      clear hHeld
      have hb_w29 := hx
      have hs_w29 := hx.size
      have hst : Below w27.heap.size w27 w29 := bel
      have hB_w29 : Below w.heap.size w w29 := below_callS hB_w27 hst
      replace K0 := Lib.hid (K0.out.keep hst)
      replace K1 := Lib.hid (K1.out.keep hst)
      replace R3_0 := Lib.hid (R3_0.out.keep hst)
      replace X0 := Lib.hid (X0.out.keep hst)
      replace X1 := Lib.hid (X1.out.keep hst)
      replace R24_0 := Lib.hid (R24_0.out.keep hst)
      replace O3_0 := Lib.hid (O3_0.out.keep hst)
      replace O22 := Lib.hid (O22.out.keep hst)
      replace O23 := Lib.hid (O23.out.keep hst)
      replace O24_0 := Lib.hid (O24_0.out.keep hst)
      clear hst hb_w29 hB_w27
      clear hx
      have u_K0_0 : w29.cell? ⟨w.heap.size, 0, none⟩ = some (.slice a0_1 n0_1 c0_1) := (K0.out).cell 0
      have u_K0_1 : w29.cell? ⟨w.heap.size, 1, none⟩ = some (.slice a0_2 n0_2 c0_2) := (K0.out).cell 1
      have u_K0_2 : w29.cell? ⟨w.heap.size, 2, none⟩ = some (.slice a0_3 n0_3 c0_3) := (K0.out).cell 2
      have v_K0 : w.heap.size < w29.heap.size := (K0.out).lt
      have u_K1_0 : w29.cell? ⟨w.heap.size + 1, 0, none⟩ = some (.int .i64 b1) := (K1.out).cell 0
      have u_K1_1 : w29.cell? ⟨w.heap.size + 1, 1, none⟩ = some (.slice a1 n1 c1) := (K1.out).cell 1
      have u_K1_2 : w29.cell? ⟨w.heap.size + 1, 2, none⟩ = some (.int .i64 r1) := (K1.out).cell 2
      have v_K1 : w.heap.size + 1 < w29.heap.size := (K1.out).lt
      have u_R3_0_0 : w29.cell? ⟨p3, 0, none⟩ = some (.int .i64 INP) := (R3_0.out).cell 0
      have u_R3_0_1 : w29.cell? ⟨p3, 1, none⟩ = some (.slice a3_0 n3_0 c3_0) := (R3_0.out).cell 1
      have u_R3_0_2 : w29.cell? ⟨p3, 2, none⟩ = some (.int .i64 RT) := (R3_0.out).cell 2
      have v_R3_0 : p3 < w29.heap.size := (R3_0.out).lt
      have u_X0_0 : w29.cell? ⟨w22.heap.size, 0, none⟩ = some (.slice (some ⟨g22_1, 0, none⟩) n0_1 n0_1) := (X0.out).cell 0
      have u_X0_1 : w29.cell? ⟨w22.heap.size, 1, none⟩ = some (.slice (some ⟨g22_2, 0, none⟩) n0_2 n0_2) := (X0.out).cell 1
      have u_X0_2 : w29.cell? ⟨w22.heap.size, 2, none⟩ = some (.slice (some ⟨g22_3, 0, none⟩) n0_3 n0_3) := (X0.out).cell 2
      have v_X0 : w22.heap.size < w29.heap.size := (X0.out).lt
      have u_X1_0 : w29.cell? ⟨w23.heap.size, 0, none⟩ = some (.int .i64 b1) := (X1.out).cell 0
      have u_X1_1 : w29.cell? ⟨w23.heap.size, 1, none⟩ = some (.slice (some ⟨g23, 0, none⟩) n1 n1) := (X1.out).cell 1
      have u_X1_2 : w29.cell? ⟨w23.heap.size, 2, none⟩ = some (.int .i64 r1) := (X1.out).cell 2
      have v_X1 : w23.heap.size < w29.heap.size := (X1.out).lt
      have u_R24_0_0 : w29.cell? ⟨w24.heap.size, 0, none⟩ = some (.int .i64 INP) := (R24_0.out).cell 0
      have u_R24_0_1 : w29.cell? ⟨w24.heap.size, 1, none⟩ = some (.slice a24_0 n3_0 c24_0) := (R24_0.out).cell 1
      have u_R24_0_2 : w29.cell? ⟨w24.heap.size, 2, none⟩ = some (.int .i64 RT) := (R24_0.out).cell 2
      have v_R24_0 : w24.heap.size < w29.heap.size := (R24_0.out).lt
      go_wp2_with fail
      refine Calls.mono (laws_markModel O22.out.fact hC0 (by omega) (by omega) (by have hh := O22.out.upto; exact hh)) ?_
      rintro e w30 ⟨rfl, hon, ho⟩
      clear u_K0_0 u_K0_1 u_K0_2 v_K0 u_K1_0 u_K1_1 u_K1_2 v_K1 u_R3_0_0 u_R3_0_1 u_R3_0_2 v_R3_0 u_X0_0 u_X0_1 u_X0_2 v_X0 u_X1_0 u_X1_1 u_X1_2 v_X1 u_R24_0_0 u_R24_0_1 u_R24_0_2 v_R24_0
      have hs_w30 := hon.size
      have nx := O22.out.turn hs_w30 ho MOwn.here
      clear ho
      replace O22 := Lib.hid nx
      clear nx
      have hB_w30 : Below w.heap.size w w30 := hon.below hB_w29 (by omega) (by omega)
      replace K0 := Lib.hid (K0.out.apart hon (by omega))
      replace K1 := Lib.hid (K1.out.apart hon (by omega))
      replace R3_0 := Lib.hid (R3_0.out.apart hon (by omega))
      replace X0 := Lib.hid (X0.out.apart hon (by omega))
      replace X1 := Lib.hid (X1.out.apart hon (by omega))
      replace R24_0 := Lib.hid (R24_0.out.apart hon (by omega))
      replace O3_0 := Lib.hid (O3_0.out.apart hon (by omega))
      replace O23 := Lib.hid (O23.out.apart hon (by omega))
      replace O24_0 := Lib.hid (O24_0.out.apart hon (by omega))
      clear hon hB_w29
      have bd_O23 : ∀ g : Nat, ((some ⟨g23, 0, none⟩) : Option Addr) = some ⟨g, 0, none⟩ → w22.heap.size + 1 ≤ g ∧ g < w23.heap.size := fun g hg => by cases hg; omega
      have u_K0_0 : w30.cell? ⟨w.heap.size, 0, none⟩ = some (.slice a0_1 n0_1 c0_1) := (K0.out).cell 0
      have u_K0_1 : w30.cell? ⟨w.heap.size, 1, none⟩ = some (.slice a0_2 n0_2 c0_2) := (K0.out).cell 1
      have u_K0_2 : w30.cell? ⟨w.heap.size, 2, none⟩ = some (.slice a0_3 n0_3 c0_3) := (K0.out).cell 2
      have v_K0 : w.heap.size < w30.heap.size := (K0.out).lt
      have u_K1_0 : w30.cell? ⟨w.heap.size + 1, 0, none⟩ = some (.int .i64 b1) := (K1.out).cell 0
      have u_K1_1 : w30.cell? ⟨w.heap.size + 1, 1, none⟩ = some (.slice a1 n1 c1) := (K1.out).cell 1
      have u_K1_2 : w30.cell? ⟨w.heap.size + 1, 2, none⟩ = some (.int .i64 r1) := (K1.out).cell 2
      have v_K1 : w.heap.size + 1 < w30.heap.size := (K1.out).lt
      have u_R3_0_0 : w30.cell? ⟨p3, 0, none⟩ = some (.int .i64 INP) := (R3_0.out).cell 0
      have u_R3_0_1 : w30.cell? ⟨p3, 1, none⟩ = some (.slice a3_0 n3_0 c3_0) := (R3_0.out).cell 1
      have u_R3_0_2 : w30.cell? ⟨p3, 2, none⟩ = some (.int .i64 RT) := (R3_0.out).cell 2
      have v_R3_0 : p3 < w30.heap.size := (R3_0.out).lt
      have u_X0_0 : w30.cell? ⟨w22.heap.size, 0, none⟩ = some (.slice (some ⟨g22_1, 0, none⟩) n0_1 n0_1) := (X0.out).cell 0
      have u_X0_1 : w30.cell? ⟨w22.heap.size, 1, none⟩ = some (.slice (some ⟨g22_2, 0, none⟩) n0_2 n0_2) := (X0.out).cell 1
      have u_X0_2 : w30.cell? ⟨w22.heap.size, 2, none⟩ = some (.slice (some ⟨g22_3, 0, none⟩) n0_3 n0_3) := (X0.out).cell 2
      have v_X0 : w22.heap.size < w30.heap.size := (X0.out).lt
      have u_X1_0 : w30.cell? ⟨w23.heap.size, 0, none⟩ = some (.int .i64 b1) := (X1.out).cell 0
      have u_X1_1 : w30.cell? ⟨w23.heap.size, 1, none⟩ = some (.slice (some ⟨g23, 0, none⟩) n1 n1) := (X1.out).cell 1
      have u_X1_2 : w30.cell? ⟨w23.heap.size, 2, none⟩ = some (.int .i64 r1) := (X1.out).cell 2
      have v_X1 : w23.heap.size < w30.heap.size := (X1.out).lt
      have u_R24_0_0 : w30.cell? ⟨w24.heap.size, 0, none⟩ = some (.int .i64 INP) := (R24_0.out).cell 0
      have u_R24_0_1 : w30.cell? ⟨w24.heap.size, 1, none⟩ = some (.slice a24_0 n3_0 c24_0) := (R24_0.out).cell 1
      have u_R24_0_2 : w30.cell? ⟨w24.heap.size, 2, none⟩ = some (.int .i64 RT) := (R24_0.out).cell 2
      have v_R24_0 : w24.heap.size < w30.heap.size := (R24_0.out).lt
      go_wp2_with fail
      refine Calls.mono (laws_markDiagram O23.out.fact hn1 (by omega) (by omega)) ?_
      rintro e w31 ⟨rfl, ht, ho⟩
      clear u_K0_0 u_K0_1 u_K0_2 v_K0 u_K1_0 u_K1_1 u_K1_2 v_K1 u_R3_0_0 u_R3_0_1 u_R3_0_2 v_R3_0 u_X0_0 u_X0_1 u_X0_2 v_X0 u_X1_0 u_X1_1 u_X1_2 v_X1 u_R24_0_0 u_R24_0_1 u_R24_0_2 v_R24_0
      have hs_w31 := ht.size
      have hon : Only (w22.heap.size + 1) (w23.heap.size) w30 w31 := ht.only (fun g hg => bd_O23 g hg)
      have nx := O23.out.turn hs_w31 ho (OwnF.here (fun g hg => bd_O23 g hg))
      clear ho ht
      replace O23 := Lib.hid nx
      clear nx
      have hB_w31 : Below w.heap.size w w31 := hon.below hB_w30 (by omega) (by omega)
      replace K0 := Lib.hid (K0.out.apart hon (by omega))
      replace K1 := Lib.hid (K1.out.apart hon (by omega))
      replace R3_0 := Lib.hid (R3_0.out.apart hon (by omega))
      replace X0 := Lib.hid (X0.out.apart hon (by omega))
      replace X1 := Lib.hid (X1.out.apart hon (by omega))
      replace R24_0 := Lib.hid (R24_0.out.apart hon (by omega))
      replace O3_0 := Lib.hid (O3_0.out.apart hon (by omega))
      replace O22 := Lib.hid (O22.out.apart hon (by omega))
      replace O24_0 := Lib.hid (O24_0.out.apart hon (by omega))
      clear hon hB_w30
      have kq : decide ((1 : Int) + (n0_1 : Int) + (n0_2 : Int) + (n0_4 : Int) + 3 * (n1 : Int) < 0) = false := by simp; omega
      have u_K0_0 : w31.cell? ⟨w.heap.size, 0, none⟩ = some (.slice a0_1 n0_1 c0_1) := (K0.out).cell 0
      have u_K0_1 : w31.cell? ⟨w.heap.size, 1, none⟩ = some (.slice a0_2 n0_2 c0_2) := (K0.out).cell 1
      have u_K0_2 : w31.cell? ⟨w.heap.size, 2, none⟩ = some (.slice a0_3 n0_3 c0_3) := (K0.out).cell 2
      have v_K0 : w.heap.size < w31.heap.size := (K0.out).lt
      have u_K1_0 : w31.cell? ⟨w.heap.size + 1, 0, none⟩ = some (.int .i64 b1) := (K1.out).cell 0
      have u_K1_1 : w31.cell? ⟨w.heap.size + 1, 1, none⟩ = some (.slice a1 n1 c1) := (K1.out).cell 1
      have u_K1_2 : w31.cell? ⟨w.heap.size + 1, 2, none⟩ = some (.int .i64 r1) := (K1.out).cell 2
      have v_K1 : w.heap.size + 1 < w31.heap.size := (K1.out).lt
      have u_R3_0_0 : w31.cell? ⟨p3, 0, none⟩ = some (.int .i64 INP) := (R3_0.out).cell 0
      have u_R3_0_1 : w31.cell? ⟨p3, 1, none⟩ = some (.slice a3_0 n3_0 c3_0) := (R3_0.out).cell 1
      have u_R3_0_2 : w31.cell? ⟨p3, 2, none⟩ = some (.int .i64 RT) := (R3_0.out).cell 2
      have v_R3_0 : p3 < w31.heap.size := (R3_0.out).lt
      have u_X0_0 : w31.cell? ⟨w22.heap.size, 0, none⟩ = some (.slice (some ⟨g22_1, 0, none⟩) n0_1 n0_1) := (X0.out).cell 0
      have u_X0_1 : w31.cell? ⟨w22.heap.size, 1, none⟩ = some (.slice (some ⟨g22_2, 0, none⟩) n0_2 n0_2) := (X0.out).cell 1
      have u_X0_2 : w31.cell? ⟨w22.heap.size, 2, none⟩ = some (.slice (some ⟨g22_3, 0, none⟩) n0_3 n0_3) := (X0.out).cell 2
      have v_X0 : w22.heap.size < w31.heap.size := (X0.out).lt
      have u_X1_0 : w31.cell? ⟨w23.heap.size, 0, none⟩ = some (.int .i64 b1) := (X1.out).cell 0
      have u_X1_1 : w31.cell? ⟨w23.heap.size, 1, none⟩ = some (.slice (some ⟨g23, 0, none⟩) n1 n1) := (X1.out).cell 1
      have u_X1_2 : w31.cell? ⟨w23.heap.size, 2, none⟩ = some (.int .i64 r1) := (X1.out).cell 2
      have v_X1 : w23.heap.size < w31.heap.size := (X1.out).lt
      have u_R24_0_0 : w31.cell? ⟨w24.heap.size, 0, none⟩ = some (.int .i64 INP) := (R24_0.out).cell 0
      have u_R24_0_1 : w31.cell? ⟨w24.heap.size, 1, none⟩ = some (.slice a24_0 n3_0 c24_0) := (R24_0.out).cell 1
      have u_R24_0_2 : w31.cell? ⟨w24.heap.size, 2, none⟩ = some (.int .i64 RT) := (R24_0.out).cell 2
      have v_R24_0 : w24.heap.size < w31.heap.size := (R24_0.out).lt
      go_wp2_with fail
      refine Calls.mono (laws_eqDiagram ((O24_0.out).fact.flats) ((O3_0.out).fact.flats) hln0 hln0) ?_
      rintro e w32 ⟨rfl, hb_w32⟩
      have hs_w32 := hb_w32.size
      clear u_K0_0 u_K0_1 u_K0_2 v_K0 u_K1_0 u_K1_1 u_K1_2 v_K1 u_R3_0_0 u_R3_0_1 u_R3_0_2 v_R3_0 u_X0_0 u_X0_1 u_X0_2 v_X0 u_X1_0 u_X1_1 u_X1_2 v_X1 u_R24_0_0 u_R24_0_1 u_R24_0_2 v_R24_0
      have hst : Below w31.heap.size w31 w32 := bel
      have hB_w32 : Below w.heap.size w w32 := below_callS hB_w31 hst
      replace K0 := Lib.hid (K0.out.keep hst)
      replace K1 := Lib.hid (K1.out.keep hst)
      replace R3_0 := Lib.hid (R3_0.out.keep hst)
      replace X0 := Lib.hid (X0.out.keep hst)
      replace X1 := Lib.hid (X1.out.keep hst)
      replace R24_0 := Lib.hid (R24_0.out.keep hst)
      replace O3_0 := Lib.hid (O3_0.out.keep hst)
      replace O22 := Lib.hid (O22.out.keep hst)
      replace O23 := Lib.hid (O23.out.keep hst)
      replace O24_0 := Lib.hid (O24_0.out.keep hst)
      clear hst hb_w32 hB_w31
      have bd_O24_0 : ∀ g : Nat, (a24_0 : Option Addr) = some ⟨g, 0, none⟩ → w23.heap.size + 1 ≤ g ∧ g < w24.heap.size := by exact O24_0b
      have u_K0_0 : w32.cell? ⟨w.heap.size, 0, none⟩ = some (.slice a0_1 n0_1 c0_1) := (K0.out).cell 0
      have u_K0_1 : w32.cell? ⟨w.heap.size, 1, none⟩ = some (.slice a0_2 n0_2 c0_2) := (K0.out).cell 1
      have u_K0_2 : w32.cell? ⟨w.heap.size, 2, none⟩ = some (.slice a0_3 n0_3 c0_3) := (K0.out).cell 2
      have v_K0 : w.heap.size < w32.heap.size := (K0.out).lt
      have u_K1_0 : w32.cell? ⟨w.heap.size + 1, 0, none⟩ = some (.int .i64 b1) := (K1.out).cell 0
      have u_K1_1 : w32.cell? ⟨w.heap.size + 1, 1, none⟩ = some (.slice a1 n1 c1) := (K1.out).cell 1
      have u_K1_2 : w32.cell? ⟨w.heap.size + 1, 2, none⟩ = some (.int .i64 r1) := (K1.out).cell 2
      have v_K1 : w.heap.size + 1 < w32.heap.size := (K1.out).lt
      have u_R3_0_0 : w32.cell? ⟨p3, 0, none⟩ = some (.int .i64 INP) := (R3_0.out).cell 0
      have u_R3_0_1 : w32.cell? ⟨p3, 1, none⟩ = some (.slice a3_0 n3_0 c3_0) := (R3_0.out).cell 1
      have u_R3_0_2 : w32.cell? ⟨p3, 2, none⟩ = some (.int .i64 RT) := (R3_0.out).cell 2
      have v_R3_0 : p3 < w32.heap.size := (R3_0.out).lt
      have u_X0_0 : w32.cell? ⟨w22.heap.size, 0, none⟩ = some (.slice (some ⟨g22_1, 0, none⟩) n0_1 n0_1) := (X0.out).cell 0
      have u_X0_1 : w32.cell? ⟨w22.heap.size, 1, none⟩ = some (.slice (some ⟨g22_2, 0, none⟩) n0_2 n0_2) := (X0.out).cell 1
      have u_X0_2 : w32.cell? ⟨w22.heap.size, 2, none⟩ = some (.slice (some ⟨g22_3, 0, none⟩) n0_3 n0_3) := (X0.out).cell 2
      have v_X0 : w22.heap.size < w32.heap.size := (X0.out).lt
      have u_X1_0 : w32.cell? ⟨w23.heap.size, 0, none⟩ = some (.int .i64 b1) := (X1.out).cell 0
      have u_X1_1 : w32.cell? ⟨w23.heap.size, 1, none⟩ = some (.slice (some ⟨g23, 0, none⟩) n1 n1) := (X1.out).cell 1
      have u_X1_2 : w32.cell? ⟨w23.heap.size, 2, none⟩ = some (.int .i64 r1) := (X1.out).cell 2
      have v_X1 : w23.heap.size < w32.heap.size := (X1.out).lt
      have u_R24_0_0 : w32.cell? ⟨w24.heap.size, 0, none⟩ = some (.int .i64 INP) := (R24_0.out).cell 0
      have u_R24_0_1 : w32.cell? ⟨w24.heap.size, 1, none⟩ = some (.slice a24_0 n3_0 c24_0) := (R24_0.out).cell 1
      have u_R24_0_2 : w32.cell? ⟨w24.heap.size, 2, none⟩ = some (.int .i64 RT) := (R24_0.out).cell 2
      have v_R24_0 : w24.heap.size < w32.heap.size := (R24_0.out).lt
      go_wp2_with fail
      refine Calls.mono (laws_markDiagram O24_0.out.fact hln0 (by omega) (by omega)) ?_
      rintro e w33 ⟨rfl, ht, ho⟩
      clear u_K0_0 u_K0_1 u_K0_2 v_K0 u_K1_0 u_K1_1 u_K1_2 v_K1 u_R3_0_0 u_R3_0_1 u_R3_0_2 v_R3_0 u_X0_0 u_X0_1 u_X0_2 v_X0 u_X1_0 u_X1_1 u_X1_2 v_X1 u_R24_0_0 u_R24_0_1 u_R24_0_2 v_R24_0
      have hs_w33 := ht.size
      have hon : Only (w23.heap.size + 1) (w24.heap.size) w32 w33 := ht.only (fun g hg => bd_O24_0 g hg)
      have nx := O24_0.out.turn hs_w33 ho (OwnF.here (fun g hg => bd_O24_0 g hg))
      clear ho ht
      replace O24_0 := Lib.hid nx
      clear nx
      have hB_w33 : Below w.heap.size w w33 := hon.below hB_w32 (by omega) (by omega)
      replace K0 := Lib.hid (K0.out.apart hon (by omega))
      replace K1 := Lib.hid (K1.out.apart hon (by omega))
      replace R3_0 := Lib.hid (R3_0.out.apart hon (by omega))
      replace X0 := Lib.hid (X0.out.apart hon (by omega))
      replace X1 := Lib.hid (X1.out.apart hon (by omega))
      replace R24_0 := Lib.hid (R24_0.out.apart hon (by omega))
      replace O3_0 := Lib.hid (O3_0.out.apart hon (by omega))
      replace O22 := Lib.hid (O22.out.apart hon (by omega))
      replace O23 := Lib.hid (O23.out.apart hon (by omega))
      clear hon hB_w32
      have e3 : decide ((1 : Int) + 3 * (n3_0 : Int) < 0) = false := by simp; omega
      have e4 : ((1 : Int) + 3 * (n3_0 : Int) != (1 : Int) + 3 * (n3_0 : Int)) = false := by simp
      have u_K0_0 : w33.cell? ⟨w.heap.size, 0, none⟩ = some (.slice a0_1 n0_1 c0_1) := (K0.out).cell 0
      have u_K0_1 : w33.cell? ⟨w.heap.size, 1, none⟩ = some (.slice a0_2 n0_2 c0_2) := (K0.out).cell 1
      have u_K0_2 : w33.cell? ⟨w.heap.size, 2, none⟩ = some (.slice a0_3 n0_3 c0_3) := (K0.out).cell 2
      have v_K0 : w.heap.size < w33.heap.size := (K0.out).lt
      have u_K1_0 : w33.cell? ⟨w.heap.size + 1, 0, none⟩ = some (.int .i64 b1) := (K1.out).cell 0
      have u_K1_1 : w33.cell? ⟨w.heap.size + 1, 1, none⟩ = some (.slice a1 n1 c1) := (K1.out).cell 1
      have u_K1_2 : w33.cell? ⟨w.heap.size + 1, 2, none⟩ = some (.int .i64 r1) := (K1.out).cell 2
      have v_K1 : w.heap.size + 1 < w33.heap.size := (K1.out).lt
      have u_R3_0_0 : w33.cell? ⟨p3, 0, none⟩ = some (.int .i64 INP) := (R3_0.out).cell 0
      have u_R3_0_1 : w33.cell? ⟨p3, 1, none⟩ = some (.slice a3_0 n3_0 c3_0) := (R3_0.out).cell 1
      have u_R3_0_2 : w33.cell? ⟨p3, 2, none⟩ = some (.int .i64 RT) := (R3_0.out).cell 2
      have v_R3_0 : p3 < w33.heap.size := (R3_0.out).lt
      have u_X0_0 : w33.cell? ⟨w22.heap.size, 0, none⟩ = some (.slice (some ⟨g22_1, 0, none⟩) n0_1 n0_1) := (X0.out).cell 0
      have u_X0_1 : w33.cell? ⟨w22.heap.size, 1, none⟩ = some (.slice (some ⟨g22_2, 0, none⟩) n0_2 n0_2) := (X0.out).cell 1
      have u_X0_2 : w33.cell? ⟨w22.heap.size, 2, none⟩ = some (.slice (some ⟨g22_3, 0, none⟩) n0_3 n0_3) := (X0.out).cell 2
      have v_X0 : w22.heap.size < w33.heap.size := (X0.out).lt
      have u_X1_0 : w33.cell? ⟨w23.heap.size, 0, none⟩ = some (.int .i64 b1) := (X1.out).cell 0
      have u_X1_1 : w33.cell? ⟨w23.heap.size, 1, none⟩ = some (.slice (some ⟨g23, 0, none⟩) n1 n1) := (X1.out).cell 1
      have u_X1_2 : w33.cell? ⟨w23.heap.size, 2, none⟩ = some (.int .i64 r1) := (X1.out).cell 2
      have v_X1 : w23.heap.size < w33.heap.size := (X1.out).lt
      have u_R24_0_0 : w33.cell? ⟨w24.heap.size, 0, none⟩ = some (.int .i64 INP) := (R24_0.out).cell 0
      have u_R24_0_1 : w33.cell? ⟨w24.heap.size, 1, none⟩ = some (.slice a24_0 n3_0 c24_0) := (R24_0.out).cell 1
      have u_R24_0_2 : w33.cell? ⟨w24.heap.size, 2, none⟩ = some (.int .i64 RT) := (R24_0.out).cell 2
      have v_R24_0 : w24.heap.size < w33.heap.size := (R24_0.out).lt
      go_wp2_with fail
      refine Calls.mono (laws_heldDiagram ((O24_0.out).fact.flats) hln0 (by omega) (by omega)) ?_
      rintro e w34 ⟨rfl, hb_w34⟩
      have hs_w34 := hb_w34.size
      clear u_K0_0 u_K0_1 u_K0_2 v_K0 u_K1_0 u_K1_1 u_K1_2 v_K1 u_R3_0_0 u_R3_0_1 u_R3_0_2 v_R3_0 u_X0_0 u_X0_1 u_X0_2 v_X0 u_X1_0 u_X1_1 u_X1_2 v_X1 u_R24_0_0 u_R24_0_1 u_R24_0_2 v_R24_0
      have hst : Below w33.heap.size w33 w34 := bel
      have hB_w34 : Below w.heap.size w w34 := below_callS hB_w33 hst
      replace K0 := Lib.hid (K0.out.keep hst)
      replace K1 := Lib.hid (K1.out.keep hst)
      replace R3_0 := Lib.hid (R3_0.out.keep hst)
      replace X0 := Lib.hid (X0.out.keep hst)
      replace X1 := Lib.hid (X1.out.keep hst)
      replace R24_0 := Lib.hid (R24_0.out.keep hst)
      replace O3_0 := Lib.hid (O3_0.out.keep hst)
      replace O22 := Lib.hid (O22.out.keep hst)
      replace O23 := Lib.hid (O23.out.keep hst)
      replace O24_0 := Lib.hid (O24_0.out.keep hst)
      clear hst hb_w34 hB_w33
      go_wp2_with fail
      refine wp_join (fun A0 A1 wz => ∃ (p lo hi n9 c9 : Nat) (a9 : Option Addr) (u1 u3 : Value), A1 = ((((((((((A0.put (some 95) (.agg #[.slice a0_1 n0_1 c0_1, .slice a0_2 n0_2 c0_2, .slice a0_3 n0_3 c0_3])).put (some 96) (u1)).put (some 97) (.agg #[.int .i64 b1, .slice a1 n1 c1, .int .i64 r1])).put (some 98) (u3)).put (some 99) (.tuple #[.agg #[.int .i64 INP, .slice a9 n9 c9, .int .i64 RT], .int .i64 code])).put (some 94) (.tuple #[.agg #[.int .i64 INP, .slice a9 n9 c9, .int .i64 RT], .int .i64 code])).put (some 100) (.agg #[.int .i64 INP, .slice a9 n9 c9, .int .i64 RT])).put (some 101) (.int .i64 code)).put (some 15) (.pointer (some ⟨p, 0, none⟩))).put (some 16) (.int .i64 code)) ∧ Below w34.heap.size w34 wz ∧ Blk wz p #[.int .i64 INP, .slice a9 n9 c9, .int .i64 RT] 40 ∧ w34.heap.size ≤ p ∧ (p < lo ∨ hi ≤ p) ∧ w34.heap.size ≤ lo ∧ hi ≤ wz.heap.size ∧ L.length = n9 ∧ (∀ g, a9 = some ⟨g, 0, none⟩ → lo ≤ g ∧ g < hi) ∧ Own (fun w => OwnF 3 I3.enc I3.ok 117 w lo a9 n9 c9 L) lo hi wz) ?_ ?_
      · skip
        refine wp_region_noPanic ?_
        refine wp_region_held_drew (S := fun wx => Blk wx (w.heap.size) #[.slice a0_1 n0_1 c0_1, .slice a0_2 n0_2 c0_2, .slice a0_3 n0_3 c0_3] 25 ∧ Blk wx (w.heap.size + 1) #[.int .i64 b1, .slice a1 n1 c1, .int .i64 r1] 28) (by kernel_rfl) ?_ (fun hHeld => ?_)
        · exact ⟨K0.out.keep (Below.refl _ _).drew, K1.out.keep (Below.refl _ _).drew⟩
        have hx : Below w34.heap.size w34 w34.drew := (Below.refl _ _).drew
        refine tkH0 0 (v := ?_) ?_ ?_
        rotate_left
        · (intro wv hSw; obtain ⟨hq0, hq1⟩ := hSw; have q0_0 := hq0.cell 0; have q0_1 := hq0.cell 1; have q0_2 := hq0.cell 2; have q1_0 := hq1.cell 0; have q1_1 := hq1.cell 1; have q1_2 := hq1.cell 2; have z0 := hq0.lt; have z1 := hq1.lt; simp only [List.getElem?_toArray, List.getElem?_cons_zero, List.getElem?_cons_succ] at q0_0 q0_1 q0_2 q1_0 q1_1 q1_2; clear hq0 hq1; go_simp; try with_reducible rfl)
        try simp only [pu]
        refine tkH0 2 (v := ?_) ?_ ?_
        rotate_left
        · (intro wv hSw; obtain ⟨hq0, hq1⟩ := hSw; have q0_0 := hq0.cell 0; have q0_1 := hq0.cell 1; have q0_2 := hq0.cell 2; have q1_0 := hq1.cell 0; have q1_1 := hq1.cell 1; have q1_2 := hq1.cell 2; have z0 := hq0.lt; have z1 := hq1.lt; simp only [List.getElem?_toArray, List.getElem?_cons_zero, List.getElem?_cons_succ] at q0_0 q0_1 q0_2 q1_0 q1_1 q1_2; clear hq0 hq1; go_simp; try with_reducible rfl)
        try simp only [pu]
        refine wpAnyH_ready (rs := [1, 8]) (by kernel_rfl) (by simp) ?_
        refine AllReadyH.cons rfl (fun K hK => ?_) (AllReadyH.cons rfl (fun K hK => ?_) AllReadyH.nil)
        · skip
          go_simp
          refine Calls.mono (laws_toModel (HI0.out.keep (below_callS hB_w34 hx))) ?_
          rintro e w36 ⟨w36g1, w36g2, w36g3, rfl, hbn, ho⟩
          have C9_0 := Lib.hid ho.rd
          have hy_w36 := hbn.size
          replace hx := below_callS hx hbn
          clear ho hbn hHeld
          go_wp2_with fail
          refine hK.out _ _ ⟨K0.out.keep hx, K1.out.keep hx⟩ (fun hHeld => ?_)
          clear hK K
          try simp only [pu]
          refine wpAnyH_ready (rs := [3, 8]) (by kernel_rfl) (by simp) ?_
          refine AllReadyH.cons rfl (fun K hK => ?_) (AllReadyH.cons rfl (fun K hK => ?_) AllReadyH.nil)
          · skip
            go_simp
            refine Calls.mono (laws_toDiagram (HI1.out.keep (below_callS hB_w34 hx)) hn1) ?_
            rintro e w37 ⟨w37g, rfl, hbn, ho⟩
            replace C9_0 := Lib.hid (C9_0.out.keep hbn)
            have C9_1 := Lib.hid ho.flats
            have hy_w37 := hbn.size
            replace hx := below_callS hx hbn
            clear ho hbn hHeld
            go_wp2_with fail
            refine hK.out _ _ ⟨K0.out.keep hx, K1.out.keep hx⟩ (fun hHeld => ?_)
            clear hK K
            try simp only [pu]
            refine wpAnyH_ready (rs := [4, 8]) (by kernel_rfl) (by simp) ?_
            refine AllReadyH.cons rfl (fun K hK => ?_) (AllReadyH.cons rfl (fun K hK => ?_) AllReadyH.nil)
            · skip
              go_simp
              have hz35 := hx.size
              refine Calls.mono (Himpl.out _ _ _ _ _ C9_0.out C9_1.out) ?_
              rintro e w38 ⟨nw38, aw38, cw38, rfl, hbn, ho⟩
              have O9 := Lib.hid ho.own
              have ln9 := ho.len
              have bk9 := ho.blk
              clear C9_0 C9_1
              have hy_w38 := hbn.size
              replace hx := below_callS hx hbn
              clear ho hbn hHeld
              go_wp2_with fail
              refine hK.out _ _ ⟨K0.out.keep hx, K1.out.keep hx⟩ (fun hHeld => ?_)
              clear hK K
              try simp only [pu]
              refine tkH0 5 (v := ?_) ?_ ?_
              rotate_left
              · (intro wv hSw; clear hSw; go_simp; try with_reducible rfl)
              try simp only [pu]
              refine tkH0 6 (v := ?_) ?_ ?_
              rotate_left
              · (intro wv hSw; clear hSw; go_simp; try with_reducible rfl)
              try simp only [pu]
              refine tkH0 7 (v := ?_) ?_ ?_
              rotate_left
              · (intro wv hSw; clear hSw; go_simp; try with_reducible rfl)
              try simp only [pu]
              refine wpAnyH_ready (rs := [8]) (by kernel_rfl) (by simp) ?_
              refine AllReadyH.cons rfl (fun K hK => ?_) AllReadyH.nil
              go_simp
              have hp_w39 := hx.size
              obtain ⟨w39, hwa⟩ : ∃ v, v = World.alloc w38 (.cells #[.int .i64 0, .slice none 0 0, .int .i64 0] 40) := ⟨_, rfl⟩
              have hal : Below w38.heap.size w38 w39 := by rw [hwa]; exact below_alloc1 (Below.refl _ _) _
              have hs_w39 : w39.heap.size = w38.heap.size + 1 := by rw [hwa]; exact Array.size_push _
              have RZ := Lib.hid (show Blk w39 w38.heap.size #[.int .i64 0, .slice none 0 0, .int .i64 0] 40 by rw [hwa]; exact Blk.made w38 _ _)
              replace O9 := Lib.hid (O9.out.keep hal)
              replace hx := below_callS hx hal
              clear hHeld hal
              rw [← hwa]
              clear hwa
              go_wp2_with fail
              refine hK.out _ _ ⟨K0.out.keep hx, K1.out.keep hx⟩ (fun hHeld => ?_)
              clear hK K
              try simp only [pu]
              refine wpAnyH_ready (rs := [9]) (by kernel_rfl) (by simp) ?_
              refine AllReadyH.cons rfl (fun K hK => ?_) AllReadyH.nil
              have r0 := RZ.out.cell 0
              have r1 := RZ.out.cell 1
              have r2 := RZ.out.cell 2
              have rl := RZ.out.lt
              have rf := RZ.out.free
              simp only [List.getElem?_toArray, List.getElem?_cons_zero, List.getElem?_cons_succ] at r0 r1 r2
              go_simp
              obtain ⟨w40, hwz⟩ : ∃ v, v = (World.setCell (World.setCell (World.setCell w39 ⟨w38.heap.size, 0, none⟩ (.int .i64 INP)) ⟨w38.heap.size, 1, none⟩ (.slice aw38 nw38 cw38)) ⟨w38.heap.size, 2, none⟩ (.int .i64 RT)) := ⟨_, rfl⟩
              have hon : Only (w38.heap.size) (w38.heap.size + 1) w39 w40 := by rw [hwz]; exact ((((Only.refl (w38.heap.size) (w38.heap.size + 1) w39).set ⟨Nat.le_refl _, Nat.lt_succ_self _⟩ 0 _).set ⟨Nat.le_refl _, Nat.lt_succ_self _⟩ 1 _).set ⟨Nat.le_refl _, Nat.lt_succ_self _⟩ 2 _)
              have RB : Blk w40 (w38.heap.size) #[.int .i64 INP, .slice aw38 nw38 cw38, .int .i64 RT] 40 := by rw [hwz]; exact ((RZ.out.put7 0 _).put7 1 _).put7 2 _
              have hs_w40 := hon.size
              have hcz := hx.size
              replace hx := hon.below hx (by omega) (by omega)
              replace O9 := Lib.hid (O9.out.apart hon (by omega))
              clear r0 r1 r2 rl rf hHeld RZ hon
              rw [← hwz]
              clear hwz
              go_wp2_with fail
              refine hK.out _ _ ⟨K0.out.keep hx, K1.out.keep hx⟩ (fun hHeld => ?_)
              clear hK K
              try simp only [pu]
              refine tkH0 10 (v := ?_) ?_ ?_
              rotate_left
              · (intro wv hSw; clear hSw; go_simp; try with_reducible rfl)
              try simp only [pu]
              refine wpAnyH_done (by kernel_rfl) ?_ _
              refine NoPanic.normal ⟨rfl, w38.heap.size, w37.heap.size, w38.heap.size, nw38, cw38, aw38, .agg #[.slice (some ⟨w36g1, 0, none⟩) n0_1 n0_1, .slice (some ⟨w36g2, 0, none⟩) n0_2 n0_2, .slice (some ⟨w36g3, 0, none⟩) n0_3 n0_3], .agg #[.int .i64 b1, .slice (some ⟨w37g, 0, none⟩) n1 n1, .int .i64 r1], ?_, hx, RB, by omega, by omega, by omega, by omega, ln9, bk9, O9.out⟩
              simp only [Act.put, List.setIfInBounds_toArray, List.set_cons_zero, List.set_cons_succ]
            · skip
              go_simp
              have hp_w41 := hx.size
              obtain ⟨w41, hwa⟩ : ∃ v, v = World.alloc w37 (.cells #[.int .i64 0, .slice none 0 0, .int .i64 0] 40) := ⟨_, rfl⟩
              have hal : Below w37.heap.size w37 w41 := by rw [hwa]; exact below_alloc1 (Below.refl _ _) _
              have hs_w41 : w41.heap.size = w37.heap.size + 1 := by rw [hwa]; exact Array.size_push _
              have RZ := Lib.hid (show Blk w41 w37.heap.size #[.int .i64 0, .slice none 0 0, .int .i64 0] 40 by rw [hwa]; exact Blk.made w37 _ _)
              replace C9_0 := Lib.hid (C9_0.out.keep hal)
              replace C9_1 := Lib.hid (C9_1.out.keep hal)
              replace hx := below_callS hx hal
              clear hHeld hal
              rw [← hwa]
              clear hwa
              go_wp2_with fail
              refine hK.out _ _ ⟨K0.out.keep hx, K1.out.keep hx⟩ (fun hHeld => ?_)
              clear hK K
              try simp only [pu]
              refine wpAnyH_ready (rs := [4]) (by kernel_rfl) (by simp) ?_
              refine AllReadyH.cons rfl (fun K hK => ?_) AllReadyH.nil
              go_simp
              have hz35 := hx.size
              refine Calls.mono (Himpl.out _ _ _ _ _ C9_0.out C9_1.out) ?_
              rintro e w42 ⟨nw42, aw42, cw42, rfl, hbn, ho⟩
              have O9 := Lib.hid ho.own
              have ln9 := ho.len
              have bk9 := ho.blk
              clear C9_0 C9_1
              have hy_w42 := hbn.size
              replace RZ := Lib.hid (RZ.out.keep hbn)
              replace hx := below_callS hx hbn
              clear ho hbn hHeld
              go_wp2_with fail
              refine hK.out _ _ ⟨K0.out.keep hx, K1.out.keep hx⟩ (fun hHeld => ?_)
              clear hK K
              try simp only [pu]
              refine tkH0 5 (v := ?_) ?_ ?_
              rotate_left
              · (intro wv hSw; clear hSw; go_simp; try with_reducible rfl)
              try simp only [pu]
              refine tkH0 6 (v := ?_) ?_ ?_
              rotate_left
              · (intro wv hSw; clear hSw; go_simp; try with_reducible rfl)
              try simp only [pu]
              refine tkH0 7 (v := ?_) ?_ ?_
              rotate_left
              · (intro wv hSw; clear hSw; go_simp; try with_reducible rfl)
              try simp only [pu]
              refine wpAnyH_ready (rs := [9]) (by kernel_rfl) (by simp) ?_
              refine AllReadyH.cons rfl (fun K hK => ?_) AllReadyH.nil
              have r0 := RZ.out.cell 0
              have r1 := RZ.out.cell 1
              have r2 := RZ.out.cell 2
              have rl := RZ.out.lt
              have rf := RZ.out.free
              simp only [List.getElem?_toArray, List.getElem?_cons_zero, List.getElem?_cons_succ] at r0 r1 r2
              go_simp
              obtain ⟨w43, hwz⟩ : ∃ v, v = (World.setCell (World.setCell (World.setCell w42 ⟨w37.heap.size, 0, none⟩ (.int .i64 INP)) ⟨w37.heap.size, 1, none⟩ (.slice aw42 nw42 cw42)) ⟨w37.heap.size, 2, none⟩ (.int .i64 RT)) := ⟨_, rfl⟩
              have hon : Only (w37.heap.size) (w37.heap.size + 1) w42 w43 := by rw [hwz]; exact ((((Only.refl (w37.heap.size) (w37.heap.size + 1) w42).set ⟨Nat.le_refl _, Nat.lt_succ_self _⟩ 0 _).set ⟨Nat.le_refl _, Nat.lt_succ_self _⟩ 1 _).set ⟨Nat.le_refl _, Nat.lt_succ_self _⟩ 2 _)
              have RB : Blk w43 (w37.heap.size) #[.int .i64 INP, .slice aw42 nw42 cw42, .int .i64 RT] 40 := by rw [hwz]; exact ((RZ.out.put7 0 _).put7 1 _).put7 2 _
              have hs_w43 := hon.size
              have hcz := hx.size
              replace hx := hon.below hx (by omega) (by omega)
              replace O9 := Lib.hid (O9.out.apart hon (by omega))
              clear r0 r1 r2 rl rf hHeld RZ hon
              rw [← hwz]
              clear hwz
              go_wp2_with fail
              refine hK.out _ _ ⟨K0.out.keep hx, K1.out.keep hx⟩ (fun hHeld => ?_)
              clear hK K
              try simp only [pu]
              refine tkH0 10 (v := ?_) ?_ ?_
              rotate_left
              · (intro wv hSw; clear hSw; go_simp; try with_reducible rfl)
              try simp only [pu]
              refine wpAnyH_done (by kernel_rfl) ?_ _
              refine NoPanic.normal ⟨rfl, w37.heap.size, w41.heap.size, w42.heap.size, nw42, cw42, aw42, .agg #[.slice (some ⟨w36g1, 0, none⟩) n0_1 n0_1, .slice (some ⟨w36g2, 0, none⟩) n0_2 n0_2, .slice (some ⟨w36g3, 0, none⟩) n0_3 n0_3], .agg #[.int .i64 b1, .slice (some ⟨w37g, 0, none⟩) n1 n1, .int .i64 r1], ?_, hx, RB, by omega, by omega, by omega, by omega, ln9, bk9, O9.out⟩
              simp only [Act.put, List.setIfInBounds_toArray, List.set_cons_zero, List.set_cons_succ]
          · skip
            go_simp
            have hp_w44 := hx.size
            obtain ⟨w44, hwa⟩ : ∃ v, v = World.alloc w36 (.cells #[.int .i64 0, .slice none 0 0, .int .i64 0] 40) := ⟨_, rfl⟩
            have hal : Below w36.heap.size w36 w44 := by rw [hwa]; exact below_alloc1 (Below.refl _ _) _
            have hs_w44 : w44.heap.size = w36.heap.size + 1 := by rw [hwa]; exact Array.size_push _
            have RZ := Lib.hid (show Blk w44 w36.heap.size #[.int .i64 0, .slice none 0 0, .int .i64 0] 40 by rw [hwa]; exact Blk.made w36 _ _)
            replace C9_0 := Lib.hid (C9_0.out.keep hal)
            replace hx := below_callS hx hal
            clear hHeld hal
            rw [← hwa]
            clear hwa
            go_wp2_with fail
            refine hK.out _ _ ⟨K0.out.keep hx, K1.out.keep hx⟩ (fun hHeld => ?_)
            clear hK K
            try simp only [pu]
            refine wpAnyH_ready (rs := [3]) (by kernel_rfl) (by simp) ?_
            refine AllReadyH.cons rfl (fun K hK => ?_) AllReadyH.nil
            go_simp
            refine Calls.mono (laws_toDiagram (HI1.out.keep (below_callS hB_w34 hx)) hn1) ?_
            rintro e w45 ⟨w45g, rfl, hbn, ho⟩
            replace C9_0 := Lib.hid (C9_0.out.keep hbn)
            have C9_1 := Lib.hid ho.flats
            have hy_w45 := hbn.size
            replace RZ := Lib.hid (RZ.out.keep hbn)
            replace hx := below_callS hx hbn
            clear ho hbn hHeld
            go_wp2_with fail
            refine hK.out _ _ ⟨K0.out.keep hx, K1.out.keep hx⟩ (fun hHeld => ?_)
            clear hK K
            try simp only [pu]
            refine wpAnyH_ready (rs := [4]) (by kernel_rfl) (by simp) ?_
            refine AllReadyH.cons rfl (fun K hK => ?_) AllReadyH.nil
            go_simp
            have hz35 := hx.size
            refine Calls.mono (Himpl.out _ _ _ _ _ C9_0.out C9_1.out) ?_
            rintro e w46 ⟨nw46, aw46, cw46, rfl, hbn, ho⟩
            have O9 := Lib.hid ho.own
            have ln9 := ho.len
            have bk9 := ho.blk
            clear C9_0 C9_1
            have hy_w46 := hbn.size
            replace RZ := Lib.hid (RZ.out.keep hbn)
            replace hx := below_callS hx hbn
            clear ho hbn hHeld
            go_wp2_with fail
            refine hK.out _ _ ⟨K0.out.keep hx, K1.out.keep hx⟩ (fun hHeld => ?_)
            clear hK K
            try simp only [pu]
            refine tkH0 5 (v := ?_) ?_ ?_
            rotate_left
            · (intro wv hSw; clear hSw; go_simp; try with_reducible rfl)
            try simp only [pu]
            refine tkH0 6 (v := ?_) ?_ ?_
            rotate_left
            · (intro wv hSw; clear hSw; go_simp; try with_reducible rfl)
            try simp only [pu]
            refine tkH0 7 (v := ?_) ?_ ?_
            rotate_left
            · (intro wv hSw; clear hSw; go_simp; try with_reducible rfl)
            try simp only [pu]
            refine wpAnyH_ready (rs := [9]) (by kernel_rfl) (by simp) ?_
            refine AllReadyH.cons rfl (fun K hK => ?_) AllReadyH.nil
            have r0 := RZ.out.cell 0
            have r1 := RZ.out.cell 1
            have r2 := RZ.out.cell 2
            have rl := RZ.out.lt
            have rf := RZ.out.free
            simp only [List.getElem?_toArray, List.getElem?_cons_zero, List.getElem?_cons_succ] at r0 r1 r2
            go_simp
            obtain ⟨w47, hwz⟩ : ∃ v, v = (World.setCell (World.setCell (World.setCell w46 ⟨w36.heap.size, 0, none⟩ (.int .i64 INP)) ⟨w36.heap.size, 1, none⟩ (.slice aw46 nw46 cw46)) ⟨w36.heap.size, 2, none⟩ (.int .i64 RT)) := ⟨_, rfl⟩
            have hon : Only (w36.heap.size) (w36.heap.size + 1) w46 w47 := by rw [hwz]; exact ((((Only.refl (w36.heap.size) (w36.heap.size + 1) w46).set ⟨Nat.le_refl _, Nat.lt_succ_self _⟩ 0 _).set ⟨Nat.le_refl _, Nat.lt_succ_self _⟩ 1 _).set ⟨Nat.le_refl _, Nat.lt_succ_self _⟩ 2 _)
            have RB : Blk w47 (w36.heap.size) #[.int .i64 INP, .slice aw46 nw46 cw46, .int .i64 RT] 40 := by rw [hwz]; exact ((RZ.out.put7 0 _).put7 1 _).put7 2 _
            have hs_w47 := hon.size
            have hcz := hx.size
            replace hx := hon.below hx (by omega) (by omega)
            replace O9 := Lib.hid (O9.out.apart hon (by omega))
            clear r0 r1 r2 rl rf hHeld RZ hon
            rw [← hwz]
            clear hwz
            go_wp2_with fail
            refine hK.out _ _ ⟨K0.out.keep hx, K1.out.keep hx⟩ (fun hHeld => ?_)
            clear hK K
            try simp only [pu]
            refine tkH0 10 (v := ?_) ?_ ?_
            rotate_left
            · (intro wv hSw; clear hSw; go_simp; try with_reducible rfl)
            try simp only [pu]
            refine wpAnyH_done (by kernel_rfl) ?_ _
            refine NoPanic.normal ⟨rfl, w36.heap.size, w45.heap.size, w46.heap.size, nw46, cw46, aw46, .agg #[.slice (some ⟨w36g1, 0, none⟩) n0_1 n0_1, .slice (some ⟨w36g2, 0, none⟩) n0_2 n0_2, .slice (some ⟨w36g3, 0, none⟩) n0_3 n0_3], .agg #[.int .i64 b1, .slice (some ⟨w45g, 0, none⟩) n1 n1, .int .i64 r1], ?_, hx, RB, by omega, by omega, by omega, by omega, ln9, bk9, O9.out⟩
            simp only [Act.put, List.setIfInBounds_toArray, List.set_cons_zero, List.set_cons_succ]
        · skip
          go_simp
          have hp_w48 := hx.size
          obtain ⟨w48, hwa⟩ : ∃ v, v = (World.alloc w34 (.cells #[.int .i64 0, .slice none 0 0, .int .i64 0] 40)).drew := ⟨_, rfl⟩
          replace hx : Below w34.heap.size w34 w48 := by rw [hwa]; exact (below_alloc1 (Below.refl _ _) _).drew
          have RZ := Lib.hid (show Blk w48 w34.heap.size #[.int .i64 0, .slice none 0 0, .int .i64 0] 40 by rw [hwa]; exact (Blk.made w34 _ _).drew)
          have hs_w48 : w48.heap.size = w34.heap.size + 1 := by rw [hwa]; exact Array.size_push _
          clear hHeld
          rw [← hwa]
          clear hwa
          go_wp2_with fail
          refine hK.out _ _ ⟨K0.out.keep hx, K1.out.keep hx⟩ (fun hHeld => ?_)
          clear hK K
          try simp only [pu]
          refine wpAnyH_ready (rs := [1]) (by kernel_rfl) (by simp) ?_
          refine AllReadyH.cons rfl (fun K hK => ?_) AllReadyH.nil
          go_simp
          refine Calls.mono (laws_toModel (HI0.out.keep (below_callS hB_w34 hx))) ?_
          rintro e w49 ⟨w49g1, w49g2, w49g3, rfl, hbn, ho⟩
          have C9_0 := Lib.hid ho.rd
          have hy_w49 := hbn.size
          replace RZ := Lib.hid (RZ.out.keep hbn)
          replace hx := below_callS hx hbn
          clear ho hbn hHeld
          go_wp2_with fail
          refine hK.out _ _ ⟨K0.out.keep hx, K1.out.keep hx⟩ (fun hHeld => ?_)
          clear hK K
          try simp only [pu]
          refine wpAnyH_ready (rs := [3]) (by kernel_rfl) (by simp) ?_
          refine AllReadyH.cons rfl (fun K hK => ?_) AllReadyH.nil
          go_simp
          refine Calls.mono (laws_toDiagram (HI1.out.keep (below_callS hB_w34 hx)) hn1) ?_
          rintro e w50 ⟨w50g, rfl, hbn, ho⟩
          replace C9_0 := Lib.hid (C9_0.out.keep hbn)
          have C9_1 := Lib.hid ho.flats
          have hy_w50 := hbn.size
          replace RZ := Lib.hid (RZ.out.keep hbn)
          replace hx := below_callS hx hbn
          clear ho hbn hHeld
          go_wp2_with fail
          refine hK.out _ _ ⟨K0.out.keep hx, K1.out.keep hx⟩ (fun hHeld => ?_)
          clear hK K
          try simp only [pu]
          refine wpAnyH_ready (rs := [4]) (by kernel_rfl) (by simp) ?_
          refine AllReadyH.cons rfl (fun K hK => ?_) AllReadyH.nil
          go_simp
          have hz35 := hx.size
          refine Calls.mono (Himpl.out _ _ _ _ _ C9_0.out C9_1.out) ?_
          rintro e w51 ⟨nw51, aw51, cw51, rfl, hbn, ho⟩
          have O9 := Lib.hid ho.own
          have ln9 := ho.len
          have bk9 := ho.blk
          clear C9_0 C9_1
          have hy_w51 := hbn.size
          replace RZ := Lib.hid (RZ.out.keep hbn)
          replace hx := below_callS hx hbn
          clear ho hbn hHeld
          go_wp2_with fail
          refine hK.out _ _ ⟨K0.out.keep hx, K1.out.keep hx⟩ (fun hHeld => ?_)
          clear hK K
          try simp only [pu]
          refine tkH0 5 (v := ?_) ?_ ?_
          rotate_left
          · (intro wv hSw; clear hSw; go_simp; try with_reducible rfl)
          try simp only [pu]
          refine tkH0 6 (v := ?_) ?_ ?_
          rotate_left
          · (intro wv hSw; clear hSw; go_simp; try with_reducible rfl)
          try simp only [pu]
          refine tkH0 7 (v := ?_) ?_ ?_
          rotate_left
          · (intro wv hSw; clear hSw; go_simp; try with_reducible rfl)
          try simp only [pu]
          refine wpAnyH_ready (rs := [9]) (by kernel_rfl) (by simp) ?_
          refine AllReadyH.cons rfl (fun K hK => ?_) AllReadyH.nil
          have r0 := RZ.out.cell 0
          have r1 := RZ.out.cell 1
          have r2 := RZ.out.cell 2
          have rl := RZ.out.lt
          have rf := RZ.out.free
          simp only [List.getElem?_toArray, List.getElem?_cons_zero, List.getElem?_cons_succ] at r0 r1 r2
          go_simp
          obtain ⟨w52, hwz⟩ : ∃ v, v = (World.setCell (World.setCell (World.setCell w51 ⟨w34.heap.size, 0, none⟩ (.int .i64 INP)) ⟨w34.heap.size, 1, none⟩ (.slice aw51 nw51 cw51)) ⟨w34.heap.size, 2, none⟩ (.int .i64 RT)) := ⟨_, rfl⟩
          have hon : Only (w34.heap.size) (w34.heap.size + 1) w51 w52 := by rw [hwz]; exact ((((Only.refl (w34.heap.size) (w34.heap.size + 1) w51).set ⟨Nat.le_refl _, Nat.lt_succ_self _⟩ 0 _).set ⟨Nat.le_refl _, Nat.lt_succ_self _⟩ 1 _).set ⟨Nat.le_refl _, Nat.lt_succ_self _⟩ 2 _)
          have RB : Blk w52 (w34.heap.size) #[.int .i64 INP, .slice aw51 nw51 cw51, .int .i64 RT] 40 := by rw [hwz]; exact ((RZ.out.put7 0 _).put7 1 _).put7 2 _
          have hs_w52 := hon.size
          have hcz := hx.size
          replace hx := hon.below hx (by omega) (by omega)
          replace O9 := Lib.hid (O9.out.apart hon (by omega))
          clear r0 r1 r2 rl rf hHeld RZ hon
          rw [← hwz]
          clear hwz
          go_wp2_with fail
          refine hK.out _ _ ⟨K0.out.keep hx, K1.out.keep hx⟩ (fun hHeld => ?_)
          clear hK K
          try simp only [pu]
          refine tkH0 10 (v := ?_) ?_ ?_
          rotate_left
          · (intro wv hSw; clear hSw; go_simp; try with_reducible rfl)
          try simp only [pu]
          refine wpAnyH_done (by kernel_rfl) ?_ _
          refine NoPanic.normal ⟨rfl, w34.heap.size, w50.heap.size, w51.heap.size, nw51, cw51, aw51, .agg #[.slice (some ⟨w49g1, 0, none⟩) n0_1 n0_1, .slice (some ⟨w49g2, 0, none⟩) n0_2 n0_2, .slice (some ⟨w49g3, 0, none⟩) n0_3 n0_3], .agg #[.int .i64 b1, .slice (some ⟨w50g, 0, none⟩) n1 n1, .int .i64 r1], ?_, hx, RB, by omega, by omega, by omega, by omega, ln9, bk9, O9.out⟩
          simp only [Act.put, List.setIfInBounds_toArray, List.set_cons_zero, List.set_cons_succ]
      rintro A1 w53 ⟨p35, lo35, hi35, n35_0, c35_0, a35_0, u1, u3, rfl, hb_w53, hR, hp1_35, hp2_35, hp3_35, hp4_35, ln35_0, O35_0b, hO⟩
      have O35_0 := Lib.hid hO
      have R35_0 := Lib.hid hR
      have hpl_35 := hR.lt
      clear hO hR
      have hs_w53 := hb_w53.size
      try simp only [pu]
      have hst : Below w34.heap.size w34 w53 := bel
      have hB_w53 : Below w.heap.size w w53 := below_callS hB_w34 hst
      replace K0 := Lib.hid (K0.out.keep hst)
      replace K1 := Lib.hid (K1.out.keep hst)
      replace R3_0 := Lib.hid (R3_0.out.keep hst)
      replace X0 := Lib.hid (X0.out.keep hst)
      replace X1 := Lib.hid (X1.out.keep hst)
      replace R24_0 := Lib.hid (R24_0.out.keep hst)
      replace O3_0 := Lib.hid (O3_0.out.keep hst)
      replace O22 := Lib.hid (O22.out.keep hst)
      replace O23 := Lib.hid (O23.out.keep hst)
      replace O24_0 := Lib.hid (O24_0.out.keep hst)
      clear hst hb_w53 hB_w34
      obtain rfl : n3_0 = n35_0 := by omega
      have u_K0_0 : w53.cell? ⟨w.heap.size, 0, none⟩ = some (.slice a0_1 n0_1 c0_1) := (K0.out).cell 0
      have u_K0_1 : w53.cell? ⟨w.heap.size, 1, none⟩ = some (.slice a0_2 n0_2 c0_2) := (K0.out).cell 1
      have u_K0_2 : w53.cell? ⟨w.heap.size, 2, none⟩ = some (.slice a0_3 n0_3 c0_3) := (K0.out).cell 2
      have v_K0 : w.heap.size < w53.heap.size := (K0.out).lt
      have u_K1_0 : w53.cell? ⟨w.heap.size + 1, 0, none⟩ = some (.int .i64 b1) := (K1.out).cell 0
      have u_K1_1 : w53.cell? ⟨w.heap.size + 1, 1, none⟩ = some (.slice a1 n1 c1) := (K1.out).cell 1
      have u_K1_2 : w53.cell? ⟨w.heap.size + 1, 2, none⟩ = some (.int .i64 r1) := (K1.out).cell 2
      have v_K1 : w.heap.size + 1 < w53.heap.size := (K1.out).lt
      have u_R3_0_0 : w53.cell? ⟨p3, 0, none⟩ = some (.int .i64 INP) := (R3_0.out).cell 0
      have u_R3_0_1 : w53.cell? ⟨p3, 1, none⟩ = some (.slice a3_0 n3_0 c3_0) := (R3_0.out).cell 1
      have u_R3_0_2 : w53.cell? ⟨p3, 2, none⟩ = some (.int .i64 RT) := (R3_0.out).cell 2
      have v_R3_0 : p3 < w53.heap.size := (R3_0.out).lt
      have u_X0_0 : w53.cell? ⟨w22.heap.size, 0, none⟩ = some (.slice (some ⟨g22_1, 0, none⟩) n0_1 n0_1) := (X0.out).cell 0
      have u_X0_1 : w53.cell? ⟨w22.heap.size, 1, none⟩ = some (.slice (some ⟨g22_2, 0, none⟩) n0_2 n0_2) := (X0.out).cell 1
      have u_X0_2 : w53.cell? ⟨w22.heap.size, 2, none⟩ = some (.slice (some ⟨g22_3, 0, none⟩) n0_3 n0_3) := (X0.out).cell 2
      have v_X0 : w22.heap.size < w53.heap.size := (X0.out).lt
      have u_X1_0 : w53.cell? ⟨w23.heap.size, 0, none⟩ = some (.int .i64 b1) := (X1.out).cell 0
      have u_X1_1 : w53.cell? ⟨w23.heap.size, 1, none⟩ = some (.slice (some ⟨g23, 0, none⟩) n1 n1) := (X1.out).cell 1
      have u_X1_2 : w53.cell? ⟨w23.heap.size, 2, none⟩ = some (.int .i64 r1) := (X1.out).cell 2
      have v_X1 : w23.heap.size < w53.heap.size := (X1.out).lt
      have u_R24_0_0 : w53.cell? ⟨w24.heap.size, 0, none⟩ = some (.int .i64 INP) := (R24_0.out).cell 0
      have u_R24_0_1 : w53.cell? ⟨w24.heap.size, 1, none⟩ = some (.slice a24_0 n3_0 c24_0) := (R24_0.out).cell 1
      have u_R24_0_2 : w53.cell? ⟨w24.heap.size, 2, none⟩ = some (.int .i64 RT) := (R24_0.out).cell 2
      have v_R24_0 : w24.heap.size < w53.heap.size := (R24_0.out).lt
      have u_R35_0_0 : w53.cell? ⟨p35, 0, none⟩ = some (.int .i64 INP) := (R35_0.out).cell 0
      have u_R35_0_1 : w53.cell? ⟨p35, 1, none⟩ = some (.slice a35_0 n3_0 c35_0) := (R35_0.out).cell 1
      have u_R35_0_2 : w53.cell? ⟨p35, 2, none⟩ = some (.int .i64 RT) := (R35_0.out).cell 2
      have v_R35_0 : p35 < w53.heap.size := (R35_0.out).lt
      go_wp2_with fail
      refine Calls.mono (laws_eqDiagram ((O35_0.out).fact.flats) ((O3_0.out).fact.flats) hln0 hln0) ?_
      rintro e w54 ⟨rfl, hb_w54⟩
      have hs_w54 := hb_w54.size
      clear u_K0_0 u_K0_1 u_K0_2 v_K0 u_K1_0 u_K1_1 u_K1_2 v_K1 u_R3_0_0 u_R3_0_1 u_R3_0_2 v_R3_0 u_X0_0 u_X0_1 u_X0_2 v_X0 u_X1_0 u_X1_1 u_X1_2 v_X1 u_R24_0_0 u_R24_0_1 u_R24_0_2 v_R24_0 u_R35_0_0 u_R35_0_1 u_R35_0_2 v_R35_0
      have hst : Below w53.heap.size w53 w54 := bel
      have hB_w54 : Below w.heap.size w w54 := below_callS hB_w53 hst
      replace K0 := Lib.hid (K0.out.keep hst)
      replace K1 := Lib.hid (K1.out.keep hst)
      replace R3_0 := Lib.hid (R3_0.out.keep hst)
      replace X0 := Lib.hid (X0.out.keep hst)
      replace X1 := Lib.hid (X1.out.keep hst)
      replace R24_0 := Lib.hid (R24_0.out.keep hst)
      replace R35_0 := Lib.hid (R35_0.out.keep hst)
      replace O3_0 := Lib.hid (O3_0.out.keep hst)
      replace O22 := Lib.hid (O22.out.keep hst)
      replace O23 := Lib.hid (O23.out.keep hst)
      replace O24_0 := Lib.hid (O24_0.out.keep hst)
      replace O35_0 := Lib.hid (O35_0.out.keep hst)
      clear hst hb_w54 hB_w53
      have u_K0_0 : w54.cell? ⟨w.heap.size, 0, none⟩ = some (.slice a0_1 n0_1 c0_1) := (K0.out).cell 0
      have u_K0_1 : w54.cell? ⟨w.heap.size, 1, none⟩ = some (.slice a0_2 n0_2 c0_2) := (K0.out).cell 1
      have u_K0_2 : w54.cell? ⟨w.heap.size, 2, none⟩ = some (.slice a0_3 n0_3 c0_3) := (K0.out).cell 2
      have v_K0 : w.heap.size < w54.heap.size := (K0.out).lt
      have u_K1_0 : w54.cell? ⟨w.heap.size + 1, 0, none⟩ = some (.int .i64 b1) := (K1.out).cell 0
      have u_K1_1 : w54.cell? ⟨w.heap.size + 1, 1, none⟩ = some (.slice a1 n1 c1) := (K1.out).cell 1
      have u_K1_2 : w54.cell? ⟨w.heap.size + 1, 2, none⟩ = some (.int .i64 r1) := (K1.out).cell 2
      have v_K1 : w.heap.size + 1 < w54.heap.size := (K1.out).lt
      have u_R3_0_0 : w54.cell? ⟨p3, 0, none⟩ = some (.int .i64 INP) := (R3_0.out).cell 0
      have u_R3_0_1 : w54.cell? ⟨p3, 1, none⟩ = some (.slice a3_0 n3_0 c3_0) := (R3_0.out).cell 1
      have u_R3_0_2 : w54.cell? ⟨p3, 2, none⟩ = some (.int .i64 RT) := (R3_0.out).cell 2
      have v_R3_0 : p3 < w54.heap.size := (R3_0.out).lt
      have u_X0_0 : w54.cell? ⟨w22.heap.size, 0, none⟩ = some (.slice (some ⟨g22_1, 0, none⟩) n0_1 n0_1) := (X0.out).cell 0
      have u_X0_1 : w54.cell? ⟨w22.heap.size, 1, none⟩ = some (.slice (some ⟨g22_2, 0, none⟩) n0_2 n0_2) := (X0.out).cell 1
      have u_X0_2 : w54.cell? ⟨w22.heap.size, 2, none⟩ = some (.slice (some ⟨g22_3, 0, none⟩) n0_3 n0_3) := (X0.out).cell 2
      have v_X0 : w22.heap.size < w54.heap.size := (X0.out).lt
      have u_X1_0 : w54.cell? ⟨w23.heap.size, 0, none⟩ = some (.int .i64 b1) := (X1.out).cell 0
      have u_X1_1 : w54.cell? ⟨w23.heap.size, 1, none⟩ = some (.slice (some ⟨g23, 0, none⟩) n1 n1) := (X1.out).cell 1
      have u_X1_2 : w54.cell? ⟨w23.heap.size, 2, none⟩ = some (.int .i64 r1) := (X1.out).cell 2
      have v_X1 : w23.heap.size < w54.heap.size := (X1.out).lt
      have u_R24_0_0 : w54.cell? ⟨w24.heap.size, 0, none⟩ = some (.int .i64 INP) := (R24_0.out).cell 0
      have u_R24_0_1 : w54.cell? ⟨w24.heap.size, 1, none⟩ = some (.slice a24_0 n3_0 c24_0) := (R24_0.out).cell 1
      have u_R24_0_2 : w54.cell? ⟨w24.heap.size, 2, none⟩ = some (.int .i64 RT) := (R24_0.out).cell 2
      have v_R24_0 : w24.heap.size < w54.heap.size := (R24_0.out).lt
      have u_R35_0_0 : w54.cell? ⟨p35, 0, none⟩ = some (.int .i64 INP) := (R35_0.out).cell 0
      have u_R35_0_1 : w54.cell? ⟨p35, 1, none⟩ = some (.slice a35_0 n3_0 c35_0) := (R35_0.out).cell 1
      have u_R35_0_2 : w54.cell? ⟨p35, 2, none⟩ = some (.int .i64 RT) := (R35_0.out).cell 2
      have v_R35_0 : p35 < w54.heap.size := (R35_0.out).lt
      go_wp2_with fail
      refine Calls.mono (laws_heldDiagram ((O24_0.out).fact.flats) hln0 (by omega) (by omega)) ?_
      rintro e w55 ⟨rfl, hb_w55⟩
      have hs_w55 := hb_w55.size
      clear u_K0_0 u_K0_1 u_K0_2 v_K0 u_K1_0 u_K1_1 u_K1_2 v_K1 u_R3_0_0 u_R3_0_1 u_R3_0_2 v_R3_0 u_X0_0 u_X0_1 u_X0_2 v_X0 u_X1_0 u_X1_1 u_X1_2 v_X1 u_R24_0_0 u_R24_0_1 u_R24_0_2 v_R24_0 u_R35_0_0 u_R35_0_1 u_R35_0_2 v_R35_0
      have hst : Below w54.heap.size w54 w55 := bel
      have hB_w55 : Below w.heap.size w w55 := below_callS hB_w54 hst
      replace K0 := Lib.hid (K0.out.keep hst)
      replace K1 := Lib.hid (K1.out.keep hst)
      replace R3_0 := Lib.hid (R3_0.out.keep hst)
      replace X0 := Lib.hid (X0.out.keep hst)
      replace X1 := Lib.hid (X1.out.keep hst)
      replace R24_0 := Lib.hid (R24_0.out.keep hst)
      replace R35_0 := Lib.hid (R35_0.out.keep hst)
      replace O3_0 := Lib.hid (O3_0.out.keep hst)
      replace O22 := Lib.hid (O22.out.keep hst)
      replace O23 := Lib.hid (O23.out.keep hst)
      replace O24_0 := Lib.hid (O24_0.out.keep hst)
      replace O35_0 := Lib.hid (O35_0.out.keep hst)
      clear hst hb_w55 hB_w54
      go_wp2
      go_ret
      exact ⟨rfl, bel⟩
    · go_enter Tryz.func7, Tryz.ntmps7
      go_wp2_with fail
      refine Calls.mono (laws_szModelN (HR0.out.keepX bel) hn90_1 hn90_2 hn90_3 (by omega) (by omega) hN0) ?_
      rintro e wz0 ⟨rfl, hb_wz0⟩
      obtain ⟨hc_wz0, hf_wz0⟩ := bcell hb_wz0
      have hs_wz0 := hb_wz0.size
      go_wp2_with fail
      refine Calls.mono (laws_szDiagram hn91 (by omega) (by omega)) ?_
      rintro e wz1 ⟨rfl, hb_wz1⟩
      obtain ⟨hc_wz1, hf_wz1⟩ := bcell hb_wz1
      have hs_wz1 := hb_wz1.size
      go_wp2
      go_ret
      exact ⟨rfl, bel⟩
  · go_enter Tryz.func7, Tryz.ntmps7
    go_wp2_with fail
    refine Calls.mono (laws_szModelN (HR0.out.keepX bel) hn90_1 hn90_2 hn90_3 (by omega) (by omega) hN0) ?_
    rintro e wz0 ⟨rfl, hb_wz0⟩
    obtain ⟨hc_wz0, hf_wz0⟩ := bcell hb_wz0
    have hs_wz0 := hb_wz0.size
    go_wp2
    go_ret
    exact ⟨rfl, bel⟩
end Go.Proofs.YtkaikbaagajckaaGreat
