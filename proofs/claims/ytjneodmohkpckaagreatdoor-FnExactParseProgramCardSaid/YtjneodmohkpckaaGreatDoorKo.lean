/- The law FnExactParseProgram, walked. (Printed by mkko.py.) -/
import Derived.Test.YtjneodmohkpckaaGreatDoorKn
namespace Go.Proofs.YtjneodmohkpckaaGreatDoor
open Go.RowKit
set_option linter.unusedVariables false
set_option linter.unusedSimpArgs false
attribute [local go_sem ↓] Go.wp_at_zero Go.wp_at_succ
theorem cnt_le : ∀ (ls : List LN), (∀ x ∈ ls, x.ts.length ≤ 40) → cntLn ls ≤ 121 * ls.length
  | [], _ => by simp [cntLn]
  | x :: r, h => by
    have h1 := h x (List.mem_cons_self ..)
    have h2 := cnt_le r fun y hy => h y (List.mem_cons_of_mem _ hy)
    simp only [cntLn, List.map_cons, List.sum_cons, cntL1, List.length_cons] at h2 ⊢
    omega
set_option maxRecDepth 100000 in
set_option maxHeartbeats 4000000 in
theorem law_ParseProgram {s : ByteArray} {w : World} (hT : Tab w 0 (strsCells kwNm)) (hL : LV w) (hz : s.size ≤ maxLen) : Calls Tryz.prog 5 #[.string s] w fun e w' => e = .returned (.bool true) ∧ Below w.heap.size w w' := by
  have hz' : (s.size : Int) ≤ 9223372036854775807 := by unfold maxLen at hz; omega
  by_cases h : 1048576 < s.size
  · have h' : 1048576 < (s.size : Int) := by omega
    clear hL
    go_enter Tryz.func5, Tryz.ntmps5
    go_wp2
    go_ret
    exact ⟨rfl, Below.refl _ _⟩
  · have h' : ¬ 1048576 < (s.size : Int) := by omega
    have K1 := Lib.hid (spec_ParseProgram (s := s) (w := w) (by omega))
    have K2 := Lib.hid (fun (wx : World) (hb : Below w.heap.size w wx) => impl_ParseProgram (s := s) (hL.keep hb) (hT.keep hb) (by omega))
    have hZ := pgP_z s
    generalize pgC s = r at *
    generalize pgP s = g at *
    have HT := Lib.hid (fun x hx => (hZ.l x hx).2.1)
    have hN := cnt_le g.l (fun x hx => (hZ.l x hx).2.2)
    have hlz := hZ.lz
    have hiz := hZ.iz
    have hvz := hZ.vz
    have hoz := hZ.oz
    obtain ⟨N, hNe⟩ : ∃ n, n = cntLn g.l := ⟨_, rfl⟩
    have HN := Lib.hid hNe.symm
    have hN2 : N ≤ 4840 := by omega
    have q1 : (r != r) = false := by simp
    clear hL hT hZ hN hNe
    go_enter Tryz.func5, Tryz.ntmps5
    go_wp2_with fail
    refine Calls.mono K1.out ?_
    rintro e w1 ⟨A0, rfl, hb1, ho⟩
    have O0 := Lib.hid ((ho.strong HT.out).own (Nat.le_refl _))
    have hs1 := hb1.size
    clear ho K1
    obtain ⟨w2, hw2⟩ : ∃ v, v = w1.alloc (.cells (pgCs A0 g) 27) := ⟨_, rfl⟩
    have hbw2 : Below w1.heap.size w1 w2 := by rw [hw2]; exact below_alloc1 (Below.refl _ _) _
    have X0 := Lib.hid (show Blk w2 w1.heap.size (pgCs A0 g) 27 by rw [hw2]; exact Blk.made _ _ _)
    have hsw2 := hbw2.size
    simp only [pgCs]
    go_upto_region 4 with fail
    rw [show (World.alloc w1 (.cells #[.string g.nm, .slice A0.i.a A0.i.n A0.i.c, .slice A0.v.a A0.v.n A0.v.c, .slice A0.o.a A0.o.n A0.o.c, .string g.g, .slice A0.l.a A0.l.n A0.l.c] 27)) = w2 from hw2.symm]
    clear hw2
    have hx8 := X0.out.lt
    replace O0 := Lib.hid (O0.out.keep hbw2)
    have B2 := Lib.hid (below_callS hb1 hbw2)
    clear hb1 hbw2
    go_wp2_with fail
    refine Calls.mono (K2.out _ B2.out) ?_
    rintro e w3 ⟨A1, rfl, hb3, ho⟩
    have O1 := Lib.hid ((ho.strong HT.out).own (Nat.le_refl _))
    have hs3 := hb3.size
    have g1 : A1.i.n ≤ 20 := by have := ho.i.len; omega
    have g2 : A1.v.n ≤ 20 := by have := ho.v.len; omega
    have g3 : A1.o.n ≤ 20 := by have := ho.o.len; omega
    replace O0 := Lib.hid (O0.out.keep hb3)
    replace X0 := Lib.hid (X0.out.keep hb3)
    clear ho
    obtain ⟨w4, hw4⟩ : ∃ v, v = w3.alloc (.cells (pgCs A1 g) 27) := ⟨_, rfl⟩
    have hbw4 : Below w3.heap.size w3 w4 := by rw [hw4]; exact below_alloc1 (Below.refl _ _) _
    have X1 := Lib.hid (show Blk w4 w3.heap.size (pgCs A1 g) 27 by rw [hw4]; exact Blk.made _ _ _)
    have hsw4 := hbw4.size
    simp only [pgCs]
    go_upto_region 5 with fail
    rw [show (World.alloc w3 (.cells #[.string g.nm, .slice A1.i.a A1.i.n A1.i.c, .slice A1.v.a A1.v.n A1.v.c, .slice A1.o.a A1.o.n A1.o.c, .string g.g, .slice A1.l.a A1.l.n A1.l.c] 27)) = w4 from hw4.symm]
    clear hw4
    replace O0 := Lib.hid (O0.out.keep hbw4)
    replace O1 := Lib.hid (O1.out.keep hbw4)
    replace X0 := Lib.hid (X0.out.keep hbw4)
    have B4 := Lib.hid (below_callS (below_callS B2.out hb3) hbw4)
    clear hb3 hbw4 B2
    have x0 := X0.out.cell 0
    have x1 := X0.out.cell 1
    have x2 := X0.out.cell 2
    have x3 := X0.out.cell 3
    have x4 := X0.out.cell 4
    have x5 := X0.out.cell 5
    have xl := X0.out.lt
    simp only [pgCs, List.getElem?_toArray, List.getElem?_cons_zero, List.getElem?_cons_succ] at x0 x1 x2 x3 x4 x5
    have y0 := X1.out.cell 0
    have y1 := X1.out.cell 1
    have y2 := X1.out.cell 2
    have y3 := X1.out.cell 3
    have y4 := X1.out.cell 4
    have y5 := X1.out.cell 5
    have yl := X1.out.lt
    simp only [pgCs, List.getElem?_toArray, List.getElem?_cons_zero, List.getElem?_cons_succ] at y0 y1 y2 y3 y4 y5
    go_wp2_with fail
    refine Calls.mono (laws_eqProgram O1.out.fact.rd O0.out.fact.rd) ?_
    rintro e w5 ⟨rfl, hb5⟩
    have hs5 := hb5.size
    replace O0 := Lib.hid (O0.out.keep hb5)
    replace O1 := Lib.hid (O1.out.keep hb5)
    replace X0 := Lib.hid (X0.out.keep hb5)
    replace X1 := Lib.hid (X1.out.keep hb5)
    have B5 := Lib.hid (below_callS B4.out hb5)
    clear hb5 B4
    clear x0 x1 x2 x3 x4 x5 xl
    clear y0 y1 y2 y3 y4 y5 yl
    have y0 := X1.out.cell 0
    have y1 := X1.out.cell 1
    have y2 := X1.out.cell 2
    have y3 := X1.out.cell 3
    have y4 := X1.out.cell 4
    have y5 := X1.out.cell 5
    have yl := X1.out.lt
    simp only [pgCs, List.getElem?_toArray, List.getElem?_cons_zero, List.getElem?_cons_succ] at y0 y1 y2 y3 y4 y5
    go_wp2_with fail
    refine Calls.mono (laws_markProgram (q := 1) O1.out.fact HN.out (by omega) (by omega) (by omega)) ?_
    rintro e w6 ⟨rfl, hon, hm⟩
    have hs6 := hon.size
    have hx9 := hx8
    replace O0 := Lib.hid (O0.out.apart hon (.inl (by omega)))
    replace X0 := Lib.hid (X0.out.apart hon (.inl hx9))
    replace X1 := Lib.hid (X1.out.apart hon (.inr (by omega)))
    have B6 := Lib.hid (show Below w.heap.size w w6 from hon.below B5.out (by omega) (by omega))
    have M1 := Lib.hid (hm.own (by omega))
    clear hon hm O1 B5
    clear y0 y1 y2 y3 y4 y5 yl
    have y0 := X1.out.cell 0
    have y1 := X1.out.cell 1
    have y2 := X1.out.cell 2
    have y3 := X1.out.cell 3
    have y4 := X1.out.cell 4
    have y5 := X1.out.cell 5
    have yl := X1.out.lt
    simp only [pgCs, List.getElem?_toArray, List.getElem?_cons_zero, List.getElem?_cons_succ] at y0 y1 y2 y3 y4 y5
    have f1 : ¬ (1 : Int) + A1.i.n + A1.v.n + A1.o.n + N < 0 := by omega
    have f2 : ((1 : Int) + A1.i.n + A1.v.n + A1.o.n + N != 1 + A1.i.n + A1.v.n + A1.o.n + N) = false := by simp
    go_wp2_with fail
    refine Calls.mono (laws_heldProgram (q := 1) M1.out.fact HN.out (by omega) (by omega)) ?_
    rintro e w7 ⟨rfl, hb7⟩
    have hs7 := hb7.size
    replace O0 := Lib.hid (O0.out.keep hb7)
    replace M1 := Lib.hid (M1.out.keep hb7)
    replace X0 := Lib.hid (X0.out.keep hb7)
    replace X1 := Lib.hid (X1.out.keep hb7)
    have B7 := Lib.hid (below_callS B6.out hb7)
    clear hb7 B6
    clear y0 y1 y2 y3 y4 y5 yl
    go_wp2_with fail
    refine Calls.mono (K2.out _ B7.out) ?_
    rintro e w8 ⟨A2, rfl, hb8, ho⟩
    have O2 := Lib.hid ((ho.strong HT.out).own (Nat.le_refl _))
    have hs8 := hb8.size
    replace O0 := Lib.hid (O0.out.keep hb8)
    replace M1 := Lib.hid (M1.out.keep hb8)
    replace X0 := Lib.hid (X0.out.keep hb8)
    replace X1 := Lib.hid (X1.out.keep hb8)
    clear ho
    obtain ⟨w9, hw9⟩ : ∃ v, v = w8.alloc (.cells (pgCs A2 g) 27) := ⟨_, rfl⟩
    have hbw9 : Below w8.heap.size w8 w9 := by rw [hw9]; exact below_alloc1 (Below.refl _ _) _
    have X2 := Lib.hid (show Blk w9 w8.heap.size (pgCs A2 g) 27 by rw [hw9]; exact Blk.made _ _ _)
    have hsw9 := hbw9.size
    simp only [pgCs]
    go_upto_region 16 with fail
    rw [show (World.alloc w8 (.cells #[.string g.nm, .slice A2.i.a A2.i.n A2.i.c, .slice A2.v.a A2.v.n A2.v.c, .slice A2.o.a A2.o.n A2.o.c, .string g.g, .slice A2.l.a A2.l.n A2.l.c] 27)) = w9 from hw9.symm]
    clear hw9
    replace O0 := Lib.hid (O0.out.keep hbw9)
    replace M1 := Lib.hid (M1.out.keep hbw9)
    replace O2 := Lib.hid (O2.out.keep hbw9)
    replace X0 := Lib.hid (X0.out.keep hbw9)
    replace X1 := Lib.hid (X1.out.keep hbw9)
    have B9 := Lib.hid (below_callS (below_callS B7.out hb8) hbw9)
    clear hb8 hbw9 B7
    have x0 := X0.out.cell 0
    have x1 := X0.out.cell 1
    have x2 := X0.out.cell 2
    have x3 := X0.out.cell 3
    have x4 := X0.out.cell 4
    have x5 := X0.out.cell 5
    have xl := X0.out.lt
    simp only [pgCs, List.getElem?_toArray, List.getElem?_cons_zero, List.getElem?_cons_succ] at x0 x1 x2 x3 x4 x5
    have z0 := X2.out.cell 0
    have z1 := X2.out.cell 1
    have z2 := X2.out.cell 2
    have z3 := X2.out.cell 3
    have z4 := X2.out.cell 4
    have z5 := X2.out.cell 5
    have zl := X2.out.lt
    simp only [pgCs, List.getElem?_toArray, List.getElem?_cons_zero, List.getElem?_cons_succ] at z0 z1 z2 z3 z4 z5
    go_wp2_with fail
    refine Calls.mono (laws_eqProgram O2.out.fact.rd O0.out.fact.rd) ?_
    rintro e wx ⟨rfl, hbx⟩
    have hsx := hbx.size
    replace M1 := Lib.hid (M1.out.keep hbx)
    replace X1 := Lib.hid (X1.out.keep hbx)
    have BX := Lib.hid (below_callS B9.out hbx)
    clear hbx B9
    clear x0 x1 x2 x3 x4 x5 xl
    clear z0 z1 z2 z3 z4 z5 zl
    have y0 := X1.out.cell 0
    have y1 := X1.out.cell 1
    have y2 := X1.out.cell 2
    have y3 := X1.out.cell 3
    have y4 := X1.out.cell 4
    have y5 := X1.out.cell 5
    have yl := X1.out.lt
    simp only [pgCs, List.getElem?_toArray, List.getElem?_cons_zero, List.getElem?_cons_succ] at y0 y1 y2 y3 y4 y5
    go_wp2_with fail
    refine Calls.mono (laws_heldProgram (q := 1) M1.out.fact HN.out (by omega) (by omega)) ?_
    rintro e wy ⟨rfl, hby⟩
    have BY := Lib.hid (below_callS BX.out hby)
    clear hby BX
    clear y0 y1 y2 y3 y4 y5 yl
    go_wp2
    go_ret
    exact ⟨rfl, BY.out⟩
end Go.Proofs.YtjneodmohkpckaaGreatDoor
