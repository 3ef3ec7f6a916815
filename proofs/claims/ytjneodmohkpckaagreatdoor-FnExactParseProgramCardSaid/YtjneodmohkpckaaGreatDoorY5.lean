/- The program's ParseProgram, walked.; The program's ParseProgram, walked. -/
import Derived.Test.YtjneodmohkpckaaGreatDoorKg
namespace Go.Proofs.YtjneodmohkpckaaGreatDoor
open Go.RowKit
set_option linter.unusedVariables false
set_option linter.unusedSimpArgs false
attribute [local go_sem ↓] Go.wp_at_zero Go.wp_at_succ
set_option maxHeartbeats 1000000 in
theorem slices_IndexFunc_Line {ok : TM → Prop} {g : Nat} {lb : Array Value} {p : SA × LN → Bool} {a : Option Addr} {n c : Nat} {l : List (SA × LN)} {w0 w : World}
    (eg : ∀ args w, (callFunc g args).run Tryz.prog w = .ok (.enter g args) w) (hp : PredF Tryz.prog g lb encLn (LnM ok w0) p w) (hI : FL ok w0 w a n c l) (hn : n ≤ 1048576) :
    Calls Tryz.prog 118 #[.slice a n c, .func (.func g) #[] lb] w fun e w' => e = .returned (.int .i64 (idxF p l)) ∧ Below w.heap.size w w' := by
  have HP := Lib.hid hp
  clear hp
  go_enter Tryz.func118, Tryz.ntmps118
  go_wp2
  go_loopg [5, 8] n (fun gg _ s8 wr => ∃ kk : Nat, kk ≤ n ∧ n - kk ≤ gg ∧ s8 = .int .i64 kk ∧ Below w.heap.size w wr ∧ Hid ((l.take kk).any p = false))
  case atStart => exact ⟨0, Nat.zero_le _, by omega, rfl, Below.refl _ _, rfl⟩
  case round =>
    obtain ⟨kk, hkk, hg, rfl, hbl, A⟩ := hrel
    have HI := Lib.hid hI
    by_cases hlt : kk < n
    · obtain ⟨b, off, R, r, rfl, hb, hx, hwf, c0, c1⟩ := FL.get (hI.keep hbl) hlt
      have Hx := Lib.hid hx
      have hcall := HP.out _ (R, r) hwf hbl
      clear hx hI hwf
      cases hq : p (R, r) with
      | true =>
        have Hq := Lib.hid hq
        rw [hq] at hcall
        clear hq
        go_wp2_with (go_at_fn g; refine hcall.mono ?_; rintro e w1 ⟨rfl, hb1⟩)
        go_ret
        exact ⟨ret_int (by rw [idxF_hit Hx.out Hq.out A.out]), below_call hbl hb1 hbl.size⟩
      | false =>
        have Hq := Lib.hid hq
        rw [hq] at hcall
        clear hq
        go_wp2_with (go_at_fn g; refine hcall.mono ?_; rintro e w1 ⟨rfl, hb1⟩)
        go_roundg (n - (kk + 1))
        case measure => omega
        case rel => exact ⟨kk + 1, by omega, by omega, by go_num, below_call hbl hb1 hbl.size, any_take_step Hx.out A.out Hq.out⟩
    · clear hI
      go_wp2
      go_ret
      have e : l.take kk = l := take_len (by have := HI.out.len; omega)
      have h1 := A.out
      rw [e] at h1
      exact ⟨ret_int (by rw [idxF_miss h1]), hbl⟩
theorem slices_ContainsFunc_Line {ok : TM → Prop} {g : Nat} {lb : Array Value} {p : SA × LN → Bool} {a : Option Addr} {n c : Nat} {l : List (SA × LN)} {w0 w : World}
    (eg : ∀ args w, (callFunc g args).run Tryz.prog w = .ok (.enter g args) w) (hp : PredF Tryz.prog g lb encLn (LnM ok w0) p w) (hI : FL ok w0 w a n c l) (hn : n ≤ 1048576) :
    Calls Tryz.prog 60 #[.slice a n c, .func (.func g) #[] lb] w fun e w' => e = .returned (.bool (l.any p)) ∧ Below w.heap.size w w' := by
  have h := idxF_nonneg p l
  have hc := slices_IndexFunc_Line eg hp hI hn
  generalize idxF p l = r at h hc
  have H := Lib.hid h
  have HI := Lib.hid hI
  have HP := Lib.hid hp
  clear h hI hp
  go_enter Tryz.func60, Tryz.ntmps60
  go_wp2_with fail
  refine Calls.mono hc ?_
  rintro e w1 ⟨rfl, hb1⟩
  go_wp2
  go_ret
  exact ⟨ret_bool H.out, hb1⟩
theorem impl_isSized_1 {x : SA × LN} {w : World} (hn : x.1.n ≤ 1048576) : Calls Tryz.prog 109 (#[.agg (encLn x).toArray] ++ #[]) w fun e w' => e = .returned (.bool (decide (40 < x.1.n))) ∧ Below w.heap.size w w' := by
  obtain ⟨⟨a, n, c⟩, ⟨nm, ts⟩⟩ := x
  simp only at hn ⊢
  show Calls _ _ #[.agg #[.string nm, .slice a n c]] _ _
  by_cases h : 40 < n
  · have h' : (40 : Int) < (n : Int) := by omega
    rw [decide_eq_true h]
    go_enter Tryz.func109, Tryz.ntmps109
    go_wp2
    go_ret
    exact ⟨rfl, bel⟩
  · have h' : ¬ (40 : Int) < (n : Int) := by omega
    rw [decide_eq_false h]
    go_enter Tryz.func109, Tryz.ntmps109
    go_wp2
    go_ret
    exact ⟨rfl, bel⟩
theorem any_map {α β : Type} (f : α → β) (p : β → Bool) (q : α → Bool) : ∀ {l : List α}, (∀ x ∈ l, q x = p (f x)) → l.any q = (l.map f).any p
  | [], _ => rfl
  | x :: r, h => by
    rw [List.map_cons, List.any_cons, List.any_cons, h x (List.mem_cons_self ..), any_map f p q fun y hy => h y (List.mem_cons_of_mem _ hy)]
set_option maxHeartbeats 1000000 in
theorem impl_isSized {ok : TM → Prop} {A : PgA} {g : PG} {w : World} (hi : g.i.length = A.i.n) (hv : g.v.length = A.v.n) (ho : g.o.length = A.o.n) (hl : ∃ l, FL ok w w A.l.a A.l.n A.l.c l ∧ l.map (·.2) = g.l) (hn : A.l.n ≤ 1048576) :
    Calls Tryz.prog 54 #[.agg (pgCs A g)] w fun e w' => e = .returned (.bool (szP g)) ∧ Below w.heap.size w w' := by
  obtain ⟨l, hf, hm⟩ := hl
  have hgl : g.l.length = A.l.n := by rw [← hm, List.length_map]; exact hf.len
  have HE := Lib.hid (show szP g = (decide (A.i.n ≤ 20) && (decide (A.v.n ≤ 20) && (decide (A.o.n ≤ 20) && (decide (A.l.n ≤ 40) && !l.any fun x => decide (40 < x.1.n))))) by
    rw [szP, hi, hv, ho, hgl, any_map (·.2) (fun x : LN => decide (40 < x.ts.length)) (fun x : SA × LN => decide (40 < x.1.n)) (fun x hx => by rw [(hf.wf x hx).2.1.len]), hm])
  have HP := Lib.hid (fun (wx : World) (hb : Below w.heap.size w wx) => slices_ContainsFunc_Line (g := 109) (lb := #[]) (p := fun x => decide (40 < x.1.n)) (fun _ _ => by kernel_rfl) (fun W x hx _ => impl_isSized_1 (Nat.le_trans hx.2.2 (by decide))) (hf.keep hb) hn)
  generalize szP g = S at *
  obtain ⟨c, hc⟩ : ∃ c, c = l.any fun x => decide (40 < x.1.n) := ⟨_, rfl⟩
  rw [← hc] at HE HP
  clear hf hm hgl hi hv ho hc
  obtain ⟨⟨ia, im, ic⟩, ⟨va, vn, vc⟩, ⟨oa, om, oc⟩, ⟨la, ln, lc⟩⟩ := A
  obtain ⟨nm, pi, pv, po, pg, pl⟩ := g
  simp only at HE HP hn
  show Calls _ _ #[.agg #[.string nm, .slice ia im ic, .slice va vn vc, .slice oa om oc, .string pg, .slice la ln lc]] _ _
  by_cases h1 : im ≤ 20
  · have h1' : (im : Int) ≤ 20 := by omega
    by_cases h2 : vn ≤ 20
    · have h2' : (vn : Int) ≤ 20 := by omega
      by_cases h3 : om ≤ 20
      · have h3' : (om : Int) ≤ 20 := by omega
        by_cases h4 : ln ≤ 40
        · have h4' : (ln : Int) ≤ 40 := by omega
          have HE2 := Lib.hid (show S = !c by rw [HE.out, decide_eq_true h1, decide_eq_true h2, decide_eq_true h3, decide_eq_true h4]; rfl)
          clear HE h1 h2 h3 h4
          go_enter Tryz.func54, Tryz.ntmps54
          go_wp2_with fail
          refine Calls.mono (HP.out _ bel) ?_
          rintro e w1 ⟨rfl, hb1⟩
          go_wp2
          go_ret
          exact ⟨ret_bool (by rw [HE2.out]), bel⟩
        · have h4' : ¬ (ln : Int) ≤ 40 := by omega
          have HE2 := Lib.hid (show S = false by rw [HE.out, decide_eq_true h1, decide_eq_true h2, decide_eq_true h3, decide_eq_false h4]; rfl)
          clear HE h1 h2 h3 h4 HP
          go_enter Tryz.func54, Tryz.ntmps54
          go_wp2
          go_ret
          exact ⟨ret_bool (by rw [HE2.out]), bel⟩
      · have h3' : ¬ (om : Int) ≤ 20 := by omega
        have HE2 := Lib.hid (show S = false by rw [HE.out, decide_eq_true h1, decide_eq_true h2, decide_eq_false h3]; rfl)
        clear HE h1 h2 h3 HP
        go_enter Tryz.func54, Tryz.ntmps54
        go_wp2
        go_ret
        exact ⟨ret_bool (by rw [HE2.out]), bel⟩
    · have h2' : ¬ (vn : Int) ≤ 20 := by omega
      have HE2 := Lib.hid (show S = false by rw [HE.out, decide_eq_true h1, decide_eq_false h2]; rfl)
      clear HE h1 h2 HP
      go_enter Tryz.func54, Tryz.ntmps54
      go_wp2
      go_ret
      exact ⟨ret_bool (by rw [HE2.out]), bel⟩
  · have h1' : ¬ (im : Int) ≤ 20 := by omega
    have HE2 := Lib.hid (show S = false by rw [HE.out, decide_eq_false h1]; rfl)
    clear HE h1 HP
    go_enter Tryz.func54, Tryz.ntmps54
    go_wp2
    go_ret
    exact ⟨ret_bool (by rw [HE2.out]), bel⟩
end Go.Proofs.YtjneodmohkpckaaGreatDoor
namespace Go.Proofs.YtjneodmohkpckaaGreatDoor
open Go.RowKit
set_option linter.unusedVariables false
set_option linter.unusedSimpArgs false
attribute [local go_sem ↓] Go.wp_at_zero Go.wp_at_succ
theorem pgC_def (s : ByteArray) : pgC s = if rtC s ≠ 0 then rtC s else match pgO s with
  | some p => if szP p = true then 0 else 3
  | none => 6 := rfl
theorem pgP_def (s : ByteArray) : pgP s = if rtC s ≠ 0 then PG.no else match pgO s with
  | some p => if szP p = true then p else PG.no
  | none => PG.no := rfl
theorem pgO_def (s : ByteArray) : pgO s = match pgR (rtL s) with
  | some (p, []) => some p
  | _ => none := rfl
theorem blk_own {ok : TM → Prop} {w w' : World} {r hi lo : Nat} {A : PgA} {g : PG} (h : PgOwn ok w lo hi A g) (hh : hi ≤ w.heap.size) (hg : w.grownBy w' (some r)) (hr : r < lo) : PgOwn ok w' lo hi A g :=
  h.only ((Only.refl r (r + 1) w).grown hg (fun k e => by cases e; exact ⟨Nat.le_refl _, Nat.lt_succ_self _⟩)) hh (.inr hr)
set_option maxRecDepth 100000 in
set_option maxHeartbeats 4000000 in
theorem impl_ParseProgram {s : ByteArray} {w : World} (hL : LV w) (hT : Tab w 0 (strsCells kwNm)) (hz : s.size ≤ 1048576) : Calls Tryz.prog 12 #[.string s] w fun e w' => ∃ A, e = .returned (.tuple #[.agg (pgCs A (pgP s)), .int .i64 (pgC s)]) ∧ Below w.heap.size w w' ∧ PgOwn (fun _ => True) w' w.heap.size w'.heap.size A (pgP s) := by
  have HK := Lib.hid (fun (wx : World) (hb : Below w.heap.size w wx) => impl_newParser (hL.keep hb) hz)
  have HE := Lib.hid (fun (wx : World) (p : Nat) (hb : Below w.heap.size w wx) (hp : w.heap.size ≤ p) => EV.made hL hT hb hp)
  have HC := Lib.hid (pgC_def s)
  have HL := Lib.hid (pgP_def s)
  have HO := Lib.hid (pgO_def s)
  clear hL hT
  generalize pgC s = C at *
  generalize pgP s = PL at *
  generalize pgO s = PO at *
  generalize rtC s = rc at *
  generalize rtL s = L at *
  obtain ⟨wA, hwA⟩ : ∃ v, v = w.alloc (.cells (pgCs PgA.no PG.no) 27) := ⟨_, rfl⟩
  have bA := Lib.hid (show Below w.heap.size w wA by rw [hwA]; exact below_alloc1 (Below.refl _ _) _)
  have HR := Lib.hid (show Blk wA w.heap.size (pgCs PgA.no PG.no) 27 by rw [hwA]; exact Blk.made w _ _)
  have hsA := HR.out.lt
  go_enter Tryz.func12, Tryz.ntmps12
  go_upto_region 1 with fail
  rw [show (World.alloc w (.cells #[.string ⟨#[]⟩, .slice none 0 0, .slice none 0 0, .slice none 0 0, .string ⟨#[]⟩, .slice none 0 0] 27)) = wA from hwA.symm]
  clear hwA
  go_wp2_with fail
  refine Calls.mono (HK.out _ bA.out) ?_
  rintro e w1 ⟨p, rfl, hb1, hp1, hP⟩
  have B1 := Lib.hid (below_callS bA.out hb1)
  have PS1 := Lib.hid hP
  replace HR := Lib.hid (HR.out.keep hb1)
  have hs1 := hb1.size
  have hpl := hP.lt
  clear hb1 hP HK
  by_cases hrc : rc = 0
  · subst hrc
    have KX := Lib.hid (impl_program PS1.out (HE.out w1 p B1.out (by omega)))
    go_wp2_with fail
    refine Calls.mono KX.out ?_
    rintro e w2 ⟨A, g, bad, R, rfl, hO, hP, hQ, ho⟩
    have hs2 := hQ.size
    obtain ⟨wB, hwB⟩ : ∃ v, v = w2.alloc (.cells (pgCs A g) 27) := ⟨_, rfl⟩
    have hb3 : Below w2.heap.size w2 wB := by rw [hwB]; exact below_alloc1 (Below.refl _ _) _
    have BX := Lib.hid (show Blk wB w2.heap.size (pgCs A g) 27 by rw [hwB]; exact Blk.made _ _ _)
    have B2 := Lib.hid (below_callS (show Below w.heap.size w w2 from hQ.below B1.out (by omega) (by omega)) hb3)
    have OW := Lib.hid (hO.keep hb3)
    have hs3 := BX.out.lt
    have P3 := Lib.hid (hP.keep hb3)
    replace HR := Lib.hid ((HR.out.apart hQ (.inl (by omega))).keep hb3)
    have HPO := Lib.hid (show PO = if (!bad && R.isEmpty) = true then some g else none by
      have h2 : pgR L = if bad = true then none else some (g, R) := ho
      rw [HO.out, h2]
      cases bad
      · cases R <;> rfl
      · rfl)
    clear hO hP hQ ho KX HE HO B1 PS1 bA
    simp only [pgCs]
    go_upto_region 5 with fail
    rw [show (World.alloc w2 (.cells #[.string g.nm, .slice A.i.a A.i.n A.i.c, .slice A.v.a A.v.n A.v.c, .slice A.o.a A.o.n A.o.c, .string g.g, .slice A.l.a A.l.n A.l.c] 27)) = wB from hwB.symm]
    clear hwB hb3
--T1
    go_wp2_with fail
    refine Calls.mono (impl_isDone P3.out) ?_
    rintro e _ ⟨rfl, rfl⟩
    have hrl := HR.out.lt
    cases hd : (!bad && R.isEmpty)
    · have H1 := Lib.hid (show C = 6 ∧ PL = PG.no by rw [HC.out, HL.out, HPO.out, hd]; exact ⟨rfl, rfl⟩)
      clear hd
      go_wp2_with (refine wpList_store_blk (vs := pgCs PgA.no PG.no) rfl 27 _ _ rfl rfl rfl HR.out rfl (by kernel_rfl) (by simp [pgCs, PgA.no, PG.no, SA.no, Value.oneCell']) ?_; intro V hV hgV hsV)
      have z0 := hV.cell 0
      have z1 := hV.cell 1
      have z2 := hV.cell 2
      have z3 := hV.cell 3
      have z4 := hV.cell 4
      have z5 := hV.cell 5
      have zl := hV.lt
      have zf := hV.free
      simp only [pgCs, PgA.no, PG.no, SA.no, List.getElem?_toArray, List.getElem?_cons_zero, List.getElem?_cons_succ] at z0 z1 z2 z3 z4 z5
      have hB := Lib.hid (B2.out.grown hgV (by omega) (fun k e => by cases e; exact Nat.le_refl _))
      clear hgV hsV hV
      go_wp2_with fail
      exact bodyPost_ret (v := .tuple #[.agg #[.string ⟨#[]⟩, .slice none 0 0, .slice none 0 0, .slice none 0 0, .string ⟨#[]⟩, .slice none 0 0], .int .i64 6]) (by simp [results, Tryz.results12, go_sem, *]) rfl ⟨PgA.no, by rw [H1.out.1, H1.out.2]; rfl, hB.out, by rw [H1.out.2]; exact PgOwn.no _ _ _⟩
    · have y0 := BX.out.cell 0
      have y1 := BX.out.cell 1
      have y2 := BX.out.cell 2
      have y3 := BX.out.cell 3
      have y4 := BX.out.cell 4
      have y5 := BX.out.cell 5
      have yl := BX.out.lt
      simp only [pgCs, List.getElem?_toArray, List.getElem?_cons_zero, List.getElem?_cons_succ] at y0 y1 y2 y3 y4 y5
      have HS := Lib.hid (impl_isSized (g := g) OW.out.i.len OW.out.v.len OW.out.o.len OW.out.l.fl OW.out.lz)
      have HPO2 := Lib.hid (show PO = some g by rw [HPO.out, hd]; rfl)
      clear hd HPO
      go_wp2_with fail
      refine Calls.mono HS.out ?_
      rintro e w4 ⟨rfl, hb4⟩
      have hs4 := hb4.size
      replace HR := Lib.hid (HR.out.keep hb4)
      replace BX := Lib.hid (BX.out.keep hb4)
      have B4 := Lib.hid (below_callS B2.out hb4)
      replace OW := Lib.hid (OW.out.keep hb4)
      clear hb4 HS B2 P3 y0 y1 y2 y3 y4 y5 yl
      cases hz9 : szP g
      · have H1 := Lib.hid (show C = 3 ∧ PL = PG.no by rw [HC.out, HL.out, HPO2.out]; simp [hz9])
        clear hz9
        go_wp2_with (refine wpList_store_blk (vs := pgCs PgA.no PG.no) rfl 27 _ _ rfl rfl rfl HR.out rfl (by kernel_rfl) (by simp [pgCs, PgA.no, PG.no, SA.no, Value.oneCell']) ?_; intro V hV hgV hsV)
        have z0 := hV.cell 0
        have z1 := hV.cell 1
        have z2 := hV.cell 2
        have z3 := hV.cell 3
        have z4 := hV.cell 4
        have z5 := hV.cell 5
        have zl := hV.lt
        have zf := hV.free
        simp only [pgCs, PgA.no, PG.no, SA.no, List.getElem?_toArray, List.getElem?_cons_zero, List.getElem?_cons_succ] at z0 z1 z2 z3 z4 z5
        have hB := Lib.hid (B4.out.grown hgV (by omega) (fun k e => by cases e; exact Nat.le_refl _))
        clear hgV hsV hV
        go_wp2_with fail
        exact bodyPost_ret (v := .tuple #[.agg #[.string ⟨#[]⟩, .slice none 0 0, .slice none 0 0, .slice none 0 0, .string ⟨#[]⟩, .slice none 0 0], .int .i64 3]) (by simp [results, Tryz.results12, go_sem, *]) rfl ⟨PgA.no, by rw [H1.out.1, H1.out.2]; rfl, hB.out, by rw [H1.out.2]; exact PgOwn.no _ _ _⟩
      · have H1 := Lib.hid (show C = 0 ∧ PL = g by rw [HC.out, HL.out, HPO2.out]; simp [hz9])
        clear hz9
        have y0 := BX.out.cell 0
        have y1 := BX.out.cell 1
        have y2 := BX.out.cell 2
        have y3 := BX.out.cell 3
        have y4 := BX.out.cell 4
        have y5 := BX.out.cell 5
        have yl := BX.out.lt
        simp only [pgCs, List.getElem?_toArray, List.getElem?_cons_zero, List.getElem?_cons_succ] at y0 y1 y2 y3 y4 y5
        go_wp2_with (refine wpList_store_blk (vs := pgCs A g) rfl 27 _ _ rfl rfl rfl HR.out rfl (by kernel_rfl) (by simp [pgCs, Value.oneCell']) ?_; intro V hV hgV hsV)
        have z0 := hV.cell 0
        have z1 := hV.cell 1
        have z2 := hV.cell 2
        have z3 := hV.cell 3
        have z4 := hV.cell 4
        have z5 := hV.cell 5
        have zl := hV.lt
        have zf := hV.free
        simp only [pgCs, List.getElem?_toArray, List.getElem?_cons_zero, List.getElem?_cons_succ] at z0 z1 z2 z3 z4 z5
        have hB := Lib.hid (B4.out.grown hgV (by omega) (fun k e => by cases e; exact Nat.le_refl _))
        have hOW := Lib.hid (((blk_own OW.out (by omega) hgV (by omega)).hi (show w2.heap.size ≤ V.heap.size by omega)).le (show w.heap.size ≤ w1.heap.size by omega))
        clear hgV hsV hV y0 y1 y2 y3 y4 y5 yl
        go_wp2_with fail
        exact bodyPost_ret (v := .tuple #[.agg #[.string g.nm, .slice A.i.a A.i.n A.i.c, .slice A.v.a A.v.n A.v.c, .slice A.o.a A.o.n A.o.c, .string g.g, .slice A.l.a A.l.n A.l.c], .int .i64 0]) (by simp [results, Tryz.results12, go_sem, *]) rfl ⟨A, by rw [H1.out.1, H1.out.2]; rfl, hB.out, by rw [H1.out.2]; exact hOW.out⟩
  · have hrc' : (rc != 0) = true := by simpa using hrc
    have H1 := Lib.hid (show C = rc ∧ PL = PG.no by rw [HC.out, HL.out, if_pos hrc, if_pos hrc]; exact ⟨rfl, rfl⟩)
    have hrl := HR.out.lt
    clear HE PS1 bA
    go_wp2_with (refine wpList_store_blk (vs := pgCs PgA.no PG.no) rfl 27 _ _ rfl rfl rfl HR.out rfl (by kernel_rfl) (by simp [pgCs, PgA.no, PG.no, SA.no, Value.oneCell']) ?_; intro V hV hgV hsV)
    have z0 := hV.cell 0
    have z1 := hV.cell 1
    have z2 := hV.cell 2
    have z3 := hV.cell 3
    have z4 := hV.cell 4
    have z5 := hV.cell 5
    have zl := hV.lt
    have zf := hV.free
    simp only [pgCs, PgA.no, PG.no, SA.no, List.getElem?_toArray, List.getElem?_cons_zero, List.getElem?_cons_succ] at z0 z1 z2 z3 z4 z5
    have hB := Lib.hid (B1.out.grown hgV (by omega) (fun k e => by cases e; exact Nat.le_refl _))
    clear hgV hsV hV
    go_wp2_with fail
    exact bodyPost_ret (v := .tuple #[.agg #[.string ⟨#[]⟩, .slice none 0 0, .slice none 0 0, .slice none 0 0, .string ⟨#[]⟩, .slice none 0 0], .int .i64 rc]) (by simp [results, Tryz.results12, go_sem, *]) rfl ⟨PgA.no, by rw [H1.out.1, H1.out.2]; rfl, hB.out, by rw [H1.out.2]; exact PgOwn.no _ _ _⟩
end Go.Proofs.YtjneodmohkpckaaGreatDoor
