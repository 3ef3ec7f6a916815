/- The reference's ParseProgram, walked. (Printed by mkkn.py.) -/
import Derived.Test.YtjneodmohkpckaaGreatDoorKl
import Derived.Test.YtjneodmohkpckaaGreatDoorY9
import Derived.Test.YtjneodmohkpckaaGreatDoorY5
namespace Go.Proofs.YtjneodmohkpckaaGreatDoor
open Go.RowKit
set_option linter.unusedVariables false
set_option linter.unusedSimpArgs false
attribute [local go_sem ↓] Go.wp_at_zero Go.wp_at_succ
theorem pgO_fin (s : ByteArray) : pgO s = finO (pgR (rtL s)) := by
  rw [pgO]
  cases pgR (rtL s) with
  | none => rfl
  | some q =>
    obtain ⟨g, L⟩ := q
    cases L <;> rfl
theorem PgOwn.rw' {w : World} {lo hi : Nat} {A : PgA} {g : PG} (h : PgOwn (fun _ => True) w lo hi A g) (k : PGok g) : PgRw w A g := by
  have z : ∀ {s : ByteArray}, namB s = true → s.size ≤ 1048576 := fun h => by have := nam_sz h; omega
  refine ⟨z k.nm, h.i.flats, fun s hs => z (k.i s hs), h.v.flats, fun s hs => z (k.v s hs), h.o.flats, fun s hs => z (k.o s hs), ?_, h.l.fl, fun x hx => ⟨z (k.l x hx).1, fun t ht => ?_⟩, h.iz, h.vz, h.oz, h.lz⟩
  · rcases k.g with e | e
    · rw [e]; decide
    · exact z e
  · have := (tmB_sz (hgt_all _ _ _ (k.l x hx).2 t ht)).1
    omega
set_option maxRecDepth 100000 in
set_option maxHeartbeats 4000000 in
theorem spec_ParseProgram {s : ByteArray} {w : World} (hz : s.size ≤ 1048576) : Calls Tryz.prog 13 #[.string s] w fun e w' => ∃ A, e = .returned (.tuple #[.agg (pgCs A (pgP s)), .int .i64 (pgC s)]) ∧ Below w.heap.size w w' ∧ PgOwn (fun _ => True) w' w.heap.size w'.heap.size A (pgP s) := by
  have HK := Lib.hid (fun (wx : World) => spec_ReadTokens (s := s) (w := wx) hz)
  have HC := Lib.hid (pgC_def s)
  have HL := Lib.hid (pgP_def s)
  have HO := Lib.hid (pgO_fin s)
  have HOK := Lib.hid (fun p => pgO_ok (s := s) (p := p))
  have HTK := Lib.hid (rt_tok (s := s))
  have HSZ := Lib.hid (rt_sz (s := s))
  generalize pgC s = C at *
  generalize pgP s = PL at *
  generalize pgO s = PO at *
  generalize rtC s = rc at *
  generalize rtL s = L at *
  obtain ⟨wA, hwA⟩ : ∃ v, v = w.alloc (.cells (pgCs PgA.no PG.no) 27) := ⟨_, rfl⟩
  have bA := Lib.hid (show Below w.heap.size w wA by rw [hwA]; exact below_alloc1 (Below.refl _ _) _)
  have HR := Lib.hid (show Blk wA w.heap.size (pgCs PgA.no PG.no) 27 by rw [hwA]; exact Blk.made w _ _)
  have hsA := HR.out.lt
  go_enter Tryz.func13, Tryz.ntmps13
  go_upto_region 1 with fail
  rw [show (World.alloc w (.cells #[.string ⟨#[]⟩, .slice none 0 0, .slice none 0 0, .slice none 0 0, .string ⟨#[]⟩, .slice none 0 0] 27)) = wA from hwA.symm]
  clear hwA
  go_wp2_with fail
  refine Calls.mono (HK.out _) ?_
  rintro e w1 ⟨n0, a0, c0, rfl, hb1, ho⟩
  have B1 := Lib.hid (below_callS bA.out hb1)
  replace HR := Lib.hid (HR.out.keep hb1)
  have hs1 := hb1.size
  have OT := Lib.hid ho
  have hn0 : n0 ≤ 800 := by have := ho.len; have := HSZ.out.2; omega
  clear hb1 HK bA ho
  by_cases hrc : rc = 0
  · subst hrc
    obtain ⟨wP, hwP⟩ : ∃ v, v = w1.alloc (.cells #[.slice a0 n0 c0, .int .i64 0, .bool false] 74) := ⟨_, rfl⟩
    have hbP : Below w1.heap.size w1 wP := by rw [hwP]; exact below_alloc1 (Below.refl _ _) _
    have HP := Lib.hid (show RSt n0 wP w1.heap.size false L from ⟨a0, n0, c0, 0, L, by rw [hwP]; exact Blk.made _ _ _, (OT.out.keep hbP).flats, fun g o e => by
      rcases OT.out.1.2 with ⟨he, _⟩ | ⟨g', cap, cur, he, hb, hg, _⟩
      · simp only [Value.slice.injEq] at he; rw [e] at he; cases he.1
      · simp only [Value.slice.injEq] at he
        rw [e] at he
        have h9 := he.1
        simp only [Option.some.injEq, Addr.mk.injEq, and_true] at h9
        obtain ⟨rfl, rfl⟩ := h9
        exact (OT.out.blk g (by rw [e])).2, hn0, ⟨by omega, rfl⟩, rfl, HSZ.out.1, HTK.out⟩)
    replace HR := Lib.hid (HR.out.keep hbP)
    replace B1 := Lib.hid (below_callS B1.out hbP)
    have hpl := HP.out.lt
    obtain ⟨p, hp⟩ : ∃ v, v = w1.heap.size := ⟨_, rfl⟩
    rw [← hp] at HP hpl
    have hp1 : w.heap.size < p := by omega
    go_upto_region 5 with fail
    rw [← hwP, ← hp]
    clear hwP hbP hp OT
    have KX := Lib.hid (spec_l13Program HP.out)
    have hsP := B1.out.size
    go_wp2_with fail
    refine Calls.mono KX.out ?_
    rintro e w2 ⟨A, g, bad, R, rfl, hO, hP, hQ, hf⟩
    have hs2 := hQ.size
    have BB := hQ.below B1.out (by omega) (by omega)
    obtain ⟨wB, hwB⟩ : ∃ v, v = w2.alloc (.cells (pgCs A g) 27) := ⟨_, rfl⟩
    have hb3 : Below w2.heap.size w2 wB := by rw [hwB]; exact below_alloc1 (Below.refl _ _) _
    have BX := Lib.hid (show Blk wB w2.heap.size (pgCs A g) 27 by rw [hwB]; exact Blk.made _ _ _)
    have B2 := Lib.hid (below_callS BB hb3)
    have OW := Lib.hid (hO.keep hb3)
    have hs3 := BX.out.lt
    have P3 := Lib.hid (hP.keep hb3)
    replace HR := Lib.hid ((HR.out.apart hQ (.inl (by omega))).keep hb3)
    have HPO := Lib.hid (show PO = if bad = true then none else some g from HO.out.trans hf)
    clear hO hP hQ hf KX HO B1 HP BB
    simp only [pgCs]
    go_upto_region 6 with fail
    rw [show (World.alloc w2 (.cells #[.string g.nm, .slice A.i.a A.i.n A.i.c, .slice A.v.a A.v.n A.v.c, .slice A.o.a A.o.n A.o.c, .string g.g, .slice A.l.a A.l.n A.l.c] 27)) = wB from hwB.symm]
    clear hwB hb3
    obtain ⟨q2, ql⟩ := P3.out.bd
    have hrl := HR.out.lt
    cases bad
    · have y0 := BX.out.cell 0
      have y1 := BX.out.cell 1
      have y2 := BX.out.cell 2
      have y3 := BX.out.cell 3
      have y4 := BX.out.cell 4
      have y5 := BX.out.cell 5
      have yl := BX.out.lt
      simp only [pgCs, List.getElem?_toArray, List.getElem?_cons_zero, List.getElem?_cons_succ] at y0 y1 y2 y3 y4 y5
      have HPO2 := Lib.hid (show PO = some g by rw [HPO.out]; rfl)
      have hk := HOK.out g HPO2.out
      have HS := Lib.hid (spec_IsWritten (OW.out.rw' hk))
      rw [wri_sz hk] at HS
      clear HPO HOK hk
      go_wp2_with fail
      refine Calls.mono HS.out ?_
      rintro e w4 ⟨rfl, hb4⟩
      have hs4 := hb4.size
      replace HR := Lib.hid (HR.out.keep hb4)
      replace BX := Lib.hid (BX.out.keep hb4)
      have B4 := Lib.hid (below_callS B2.out hb4)
      replace OW := Lib.hid (OW.out.keep hb4)
      clear hb4 HS B2 P3 q2 ql y0 y1 y2 y3 y4 y5 yl
      cases hz9 : szP g
      · have H1 := Lib.hid (show C = 3 ∧ PL = PG.no by rw [HC.out, HL.out, HPO2.out]; simp [hz9])
        clear hz9
        go_wp2_with (refine wpList_store_blk (vs := pgCs PgA.no PG.no) rfl 27 _ _ rfl rfl rfl HR.out rfl (by kernel_rfl) (by simp [pgCs, PgA.no, PG.no, SA.no, Value.oneCell']) ?_; intro V hV hgV hsV)
        have z0 := hV.cell 0
        have z1 := hV.cell 1
        have z2 := hV.cell 2
        have z3 := hV.cell 3
        have z4 := hV.cell 4
        have z5 := hV.cell 5
        have zl := hV.lt
        have zf := hV.free
        simp only [pgCs, PgA.no, PG.no, SA.no, List.getElem?_toArray, List.getElem?_cons_zero, List.getElem?_cons_succ] at z0 z1 z2 z3 z4 z5
        have hB := Lib.hid (B4.out.grown hgV (by omega) (fun k e => by cases e; exact Nat.le_refl _))
        clear hgV hsV hV
        go_wp2_with fail
        exact bodyPost_ret (v := .tuple #[.agg #[.string ⟨#[]⟩, .slice none 0 0, .slice none 0 0, .slice none 0 0, .string ⟨#[]⟩, .slice none 0 0], .int .i64 3]) (by simp [results, Tryz.results13, go_sem, *]) rfl ⟨PgA.no, by rw [H1.out.1, H1.out.2]; rfl, hB.out, by rw [H1.out.2]; exact PgOwn.no _ _ _⟩
      · have H1 := Lib.hid (show C = 0 ∧ PL = g by rw [HC.out, HL.out, HPO2.out]; simp [hz9])
        clear hz9
        have y0 := BX.out.cell 0
        have y1 := BX.out.cell 1
        have y2 := BX.out.cell 2
        have y3 := BX.out.cell 3
        have y4 := BX.out.cell 4
        have y5 := BX.out.cell 5
        have yl := BX.out.lt
        simp only [pgCs, List.getElem?_toArray, List.getElem?_cons_zero, List.getElem?_cons_succ] at y0 y1 y2 y3 y4 y5
        go_wp2_with (refine wpList_store_blk (vs := pgCs A g) rfl 27 _ _ rfl rfl rfl HR.out rfl (by kernel_rfl) (by simp [pgCs, Value.oneCell']) ?_; intro V hV hgV hsV)
        have z0 := hV.cell 0
        have z1 := hV.cell 1
        have z2 := hV.cell 2
        have z3 := hV.cell 3
        have z4 := hV.cell 4
        have z5 := hV.cell 5
        have zl := hV.lt
        have zf := hV.free
        simp only [pgCs, List.getElem?_toArray, List.getElem?_cons_zero, List.getElem?_cons_succ] at z0 z1 z2 z3 z4 z5
        have hB := Lib.hid (B4.out.grown hgV (by omega) (fun k e => by cases e; exact Nat.le_refl _))
        have hOW := Lib.hid (((blk_own OW.out (by omega) hgV (by omega)).hi (show w2.heap.size ≤ V.heap.size by omega)).le (show w.heap.size ≤ wP.heap.size by omega))
        clear hgV hsV hV y0 y1 y2 y3 y4 y5 yl
        go_wp2_with fail
        exact bodyPost_ret (v := .tuple #[.agg #[.string g.nm, .slice A.i.a A.i.n A.i.c, .slice A.v.a A.v.n A.v.c, .slice A.o.a A.o.n A.o.c, .string g.g, .slice A.l.a A.l.n A.l.c], .int .i64 0]) (by simp [results, Tryz.results13, go_sem, *]) rfl ⟨A, by rw [H1.out.1, H1.out.2]; rfl, hB.out, by rw [H1.out.2]; exact hOW.out⟩
    · have H1 := Lib.hid (show C = 6 ∧ PL = PG.no by rw [HC.out, HL.out, HPO.out]; exact ⟨rfl, rfl⟩)
      go_wp2_with (refine wpList_store_blk (vs := pgCs PgA.no PG.no) rfl 27 _ _ rfl rfl rfl HR.out rfl (by kernel_rfl) (by simp [pgCs, PgA.no, PG.no, SA.no, Value.oneCell']) ?_; intro V hV hgV hsV)
      have z0 := hV.cell 0
      have z1 := hV.cell 1
      have z2 := hV.cell 2
      have z3 := hV.cell 3
      have z4 := hV.cell 4
      have z5 := hV.cell 5
      have zl := hV.lt
      have zf := hV.free
      simp only [pgCs, PgA.no, PG.no, SA.no, List.getElem?_toArray, List.getElem?_cons_zero, List.getElem?_cons_succ] at z0 z1 z2 z3 z4 z5
      have hB := Lib.hid (B2.out.grown hgV (by omega) (fun k e => by cases e; exact Nat.le_refl _))
      clear hgV hsV hV
      go_wp2_with fail
      exact bodyPost_ret (v := .tuple #[.agg #[.string ⟨#[]⟩, .slice none 0 0, .slice none 0 0, .slice none 0 0, .string ⟨#[]⟩, .slice none 0 0], .int .i64 6]) (by simp [results, Tryz.results13, go_sem, *]) rfl ⟨PgA.no, by rw [H1.out.1, H1.out.2]; rfl, hB.out, by rw [H1.out.2]; exact PgOwn.no _ _ _⟩
  · have hrc' : (rc != 0) = true := by simpa using hrc
    have H1 := Lib.hid (show C = rc ∧ PL = PG.no by rw [HC.out, HL.out, if_pos hrc, if_pos hrc]; exact ⟨rfl, rfl⟩)
    have hrl := HR.out.lt
    clear OT
    go_wp2_with (refine wpList_store_blk (vs := pgCs PgA.no PG.no) rfl 27 _ _ rfl rfl rfl HR.out rfl (by kernel_rfl) (by simp [pgCs, PgA.no, PG.no, SA.no, Value.oneCell']) ?_; intro V hV hgV hsV)
    have z0 := hV.cell 0
    have z1 := hV.cell 1
    have z2 := hV.cell 2
    have z3 := hV.cell 3
    have z4 := hV.cell 4
    have z5 := hV.cell 5
    have zl := hV.lt
    have zf := hV.free
    simp only [pgCs, PgA.no, PG.no, SA.no, List.getElem?_toArray, List.getElem?_cons_zero, List.getElem?_cons_succ] at z0 z1 z2 z3 z4 z5
    have hB := Lib.hid (B1.out.grown hgV (by omega) (fun k e => by cases e; exact Nat.le_refl _))
    clear hgV hsV hV
    go_wp2_with fail
    exact bodyPost_ret (v := .tuple #[.agg #[.string ⟨#[]⟩, .slice none 0 0, .slice none 0 0, .slice none 0 0, .string ⟨#[]⟩, .slice none 0 0], .int .i64 rc]) (by simp [results, Tryz.results13, go_sem, *]) rfl ⟨PgA.no, by rw [H1.out.1, H1.out.2]; rfl, hB.out, by rw [H1.out.2]; exact PgOwn.no _ _ _⟩
end Go.Proofs.YtjneodmohkpckaaGreatDoor
