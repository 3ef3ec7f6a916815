/- The reference's builds of diagrams, walked: a node is made once. -/
import Derived.Test.YtkaikbaagajckaaVn
import Derived.Laws.StructEq
namespace Go.Proofs.Ytkaikbaagajckaa
open Go.RowKit
set_option linter.unusedVariables false
set_option linter.unusedSimpArgs false
theorem Blk.made1 (w : World) (o : Obj) (cs : Array Value) (T : TypeId) : Blk ((w.alloc o).alloc (.cells cs T)) (w.heap.size + 1) cs T := by
  have h := Blk.made (w.alloc o) cs T
  simpa using h
theorem Blk.made2 (w : World) (o o' : Obj) (cs : Array Value) (T : TypeId) : Blk (((w.alloc o).alloc o').alloc (.cells cs T)) (w.heap.size + 1 + 1) cs T := by
  have h := Blk.made ((w.alloc o).alloc o') cs T
  simpa using h
theorem below_alloc1 {w w' : World} (h : Below w.heap.size w w') (o : Obj) : Below w.heap.size w (w'.alloc o) := h.alloc h.size o
theorem Blk.keepN {w w' : World} {b c : Nat} {cs : Array Value} {T : TypeId} (h : Blk w b cs T) (hg : w.grownBy w' (some c)) (hr : c ≠ b) : Blk w' b cs T := h.keepG hg (fun e => hr (Option.some.inj e))
set_option maxRecDepth 100000 in
@[go_sem] theorem eqNode (x y z u v t : Int) (w : World) : (Op.equalIn 10000 76 (.agg #[.int .i64 x, .int .i64 y, .int .i64 z]) (.agg #[.int .i64 u, .int .i64 v, .int .i64 t])).run Try.prog w = .ok (x == u && (y == v && z == t)) w := by
  have u3 := Try.underlying2
  have a3 := Try.isAgg2
  have z3 := Try.sizeOf2
  have hS : Try.prog.underlying 76 = some (.struct (Try.prog.fieldsOf 76)) := by kernel_rfl
  have hp : Try.prog.stoodInHeld 76 = false := by kernel_rfl
  rw [show (10000 : Nat) = 9999 + 1 from rfl, run_equalIn_agg w 9999 76 _ _ hS hp]
  simp only [Program.fieldsOf, Try.underlying76]
  go_simp
  by_cases h1 : x = u <;> by_cases h2 : y = v <;> by_cases h3 : z = t <;> simp [h1, h2, h3]
/-- block p is a build of the call's own (from block lo on) with these nodes -/
structure BldA (w : World) (lo p : Nat) (na : Option Addr) (nc : Nat) (L : List I3) : Prop where
  blk : Blk w p #[.slice na L.length nc] 100
  own : OwnF 3 I3.enc I3.ok 76 w lo na L.length nc L
  lop : lo ≤ p
theorem BldA.keep {w w' : World} {lo p : Nat} {na : Option Addr} {nc : Nat} {L : List I3} (h : BldA w lo p na nc L) (hb : Below w.heap.size w w') : BldA w' lo p na nc L := ⟨h.blk.keep hb, h.own.keep hb, h.lop⟩
set_option maxRecDepth 100000 in
set_option maxHeartbeats 4000000 in
theorem spec_l22Node {lo p nc : Nat} {i a b : Int} {na : Option Addr} {L : List I3} {w : World} (hB : BldA w lo p na nc L) (hL : L.length ≤ 1048576) (hi : I64 i) (ha : I64 a) (hb : I64 b) (hlo : lo ≤ w.heap.size) :
    Calls Try.prog 74 #[.pointer (some ⟨p, 0, none⟩), .int .i64 i, .int .i64 a, .int .i64 b] w fun e w' => e = .returned (.int .i64 (mkN L i a b).2) ∧ (∃ na' nc', BldA w' lo p na' nc' (mkN L i a b).1) ∧ FrF lo p p w w' := by
  by_cases hab : a = b
  · subst hab
    have e1 : (a == a) = true := by simp
    have HM := Lib.hid (mkN_eq (L := L) (i := i) (rfl : a = a))
    have HF := Lib.hid hB
    clear hB
    go_enter Try.func74, Try.ntmps74
    go_wp2
    go_ret
    exact ⟨by rw [HM.out]; rfl, ⟨_, _, by rw [HM.out]; exact HF.out⟩, FrF.refl _ _ _ _⟩
  · have e1 : (a == b) = false := by simpa using hab
    have HNE := Lib.hid hab
    have hx : I3.ok ⟨i, a, b⟩ := ⟨hi, ha, hb⟩
    have hbW : Below w.heap.size w (w.alloc (.cells #[.int .i64 i, .int .i64 a, .int .i64 b] 76)) := by repeat (first | exact Below.refl _ _ | assumption | refine below_allocS ?_ _ | refine below_callS ?_ (by assumption) | (refine Below.alloc ?_ (by first | omega | (simp; done) | (simp; omega)) _) | (refine Below.setCell ?_ (by first | omega | (simp; done) | (simp; omega)) _) | refine Below.drew ?_ | refine below_drewN ?_ _ | (refine below_call ?_ (by assumption) (by first | omega | (simp; done) | (simp; omega))) | (refine Below.trans ?_ (by assumption)))
    have N0 := Lib.hid (Blk.made w #[.int .i64 i, .int .i64 a, .int .i64 b] 76)
    have B0 := Lib.hid (hB.keep hbW)
    have HF := Lib.hid hB
    clear hB hab
    go_enter Try.func74, Try.ntmps74
    go_wp2_with fail
    go_loopw [10] (fun s10 wr => ∃ j : Nat, s10 = .int .i64 j ∧ j ≤ L.length ∧ w.heap.size + 1 ≤ wr.heap.size ∧ Hid (Below w.heap.size w wr) ∧ Hid (Blk wr w.heap.size #[.int .i64 i, .int .i64 a, .int .i64 b] 76) ∧ Hid (∀ q, q < j → L[q]? ≠ some ⟨i, a, b⟩)) (fun s10 _ => L.length - (intOf s10).toNat)
    case atStart => exact ⟨0, rfl, by omega, by simp, Lib.hid hbW, N0, Lib.hid fun q h => by omega⟩
    case round =>
      clear N0 B0 hbW
      obtain ⟨j, rfl, hj, hsr, HB, N, A⟩ := hrel
      have B := Lib.hid (HF.out.keep HB.out)
      have p0 := B.out.blk.cell 0
      have pl := B.out.blk.lt
      simp at p0
      by_cases hlt : j < L.length
      · have hlt' : (j : Int) < (L.length : Int) := by omega
        have hj0 : (0 : Int) ≤ (j : Int) := by omega
        obtain ⟨bn, on, y, rfl, hbn, hy, _, c0, c1, c2⟩ := F3.get B.out.own.flats hlt
        have n0 := N.out.cell 0
        have n1 := N.out.cell 1
        have n2 := N.out.cell 2
        have nl := N.out.lt
        simp at n0 n1 n2
        have HY := Lib.hid hy
        clear hy
        by_cases he : y = ⟨i, a, b⟩
        · have HM := Lib.hid (mkN_old HNE.out (posN_hit (he ▸ HY.out) A.out))
          subst he
          go_wp2_with fail
          go_quiet (fail)
          go_wp2
          go_ret
          have hbe : Below w.heap.size w wr := HB.out
          refine ⟨by rw [HM.out]; rfl, ⟨some ⟨bn, on, none⟩, nc, ?_⟩, FrF.of_below (below_drewN hbe _)⟩
          rw [HM.out]
          exact (HF.out.keep hbe).keep (below_drewN (Below.refl _ _) _)
        · have hq : (y.a == i && (y.b == a && y.c == b)) = false := by
            rw [Bool.eq_false_iff]
            intro h
            simp only [Bool.and_eq_true, beq_iff_eq] at h
            exact he (by rw [I3.eta y, h.1, h.2.1, h.2.2])
          have A2 := Lib.hid (show ∀ q, q < j + 1 → L[q]? ≠ some ⟨i, a, b⟩ from fun q hq => by
            rcases (show q < j ∨ q = j by omega) with h | rfl
            · exact A.out q h
            · rw [HY.out]; exact fun e => he (Option.some.inj e))
          have hE := fun (wx : World) => (show (binOp .eql 76 (.agg #[.int .i64 y.a, .int .i64 y.b, .int .i64 y.c]) (.agg #[.int .i64 i, .int .i64 a, .int .i64 b])).run Try.prog wx = .ok (.bool false) wx by rw [run_eql_struct, eqNode, hq]; rfl)
          go_wp2_with fail
          go_quiet (fail)
          go_wp2
          go_roundw
          case rel => exact ⟨j + 1, rfl, by omega, hsr, Lib.hid (below_drewN HB.out _), Lib.hid (N.out.keep (below_drewN (Below.refl _ _) _)), A2⟩
          case measure => simp [intOf]; omega
      · have hjn : j = L.length := by omega
        have hnot : (⟨i, a, b⟩ : I3) ∉ L := fun hm => by
          obtain ⟨q, hq⟩ := List.getElem?_of_mem hm
          exact A.out q (by have := (List.getElem?_eq_some_iff.1 hq).1; omega) hq
        have HNOT := Lib.hid hnot
        have HM := Lib.hid (mkN_new HNE.out hnot)
        have hlt' : ¬ (j : Int) < (L.length : Int) := by omega
        have hgn : ∀ g, na = some ⟨g, 0, none⟩ → g < w.heap.size := fun g e => (HF.out.own.blk g e).2
        have n0 := N.out.cell 0
        have n1 := N.out.cell 1
        have n2 := N.out.cell 2
        have nl := N.out.lt
        simp at n0 n1 n2
        clear hnot
        go_wp2_with fail
        refine wp_region_noPanic ?_
        refine wp_region_M (L := 10) (S := (fun wx => wx.cell? ⟨p, 0, none⟩ = some (.slice na L.length nc) ∧ wx.cell? ⟨w.heap.size, 0, none⟩ = some (.int .i64 i) ∧ wx.cell? ⟨w.heap.size, 1, none⟩ = some (.int .i64 a) ∧ wx.cell? ⟨w.heap.size, 2, none⟩ = some (.int .i64 b) ∧ p < wx.heap.size ∧ w.heap.size < wx.heap.size)) (by kernel_rfl) ?_ (fun hHeld => ?_)
        · exact ⟨p0, n0, n1, n2, pl, nl⟩
        clear p0 pl n0 n1 n2 nl
        refine wpAnyM_take (i := 0) (v := ?_) (by simp only [List.getElem?_toArray, List.getElem?_cons_succ, List.getElem?_cons_zero] <;> rfl) (by kernel_rfl) (by kernel_rfl) (by kernel_rfl) (by kernel_rfl) (by kernel_rfl) (fun _ _ _ h => h) (Or.inl ⟨by rfl, ?_⟩) (by assumption) ?_
        rotate_left
        · (intro wv hSw; (try dsimp only at hSw); go_simp; try with_reducible rfl)
        try simp only [Act.put, List.setIfInBounds_toArray, List.set_cons_zero, List.set_cons_succ]
        refine wpAnyM_take (i := 1) (v := ?_) (by simp only [List.getElem?_toArray, List.getElem?_cons_succ, List.getElem?_cons_zero] <;> rfl) (by kernel_rfl) (by kernel_rfl) (by kernel_rfl) (by kernel_rfl) (by kernel_rfl) (fun _ _ _ h => h) (Or.inl ⟨by rfl, ?_⟩) (by assumption) ?_
        rotate_left
        · (intro wv hSw; (try dsimp only at hSw); go_simp; try with_reducible rfl)
        try simp only [Act.put, List.setIfInBounds_toArray, List.set_cons_zero, List.set_cons_succ]
        refine wpAnyM_take (i := 2) (v := ?_) (by simp only [List.getElem?_toArray, List.getElem?_cons_succ, List.getElem?_cons_zero] <;> rfl) (by kernel_rfl) (by kernel_rfl) (by kernel_rfl) (by kernel_rfl) (by kernel_rfl) (fun _ _ _ h => h) (Or.inl ⟨by rfl, ?_⟩) (by assumption) ?_
        rotate_left
        · (intro wv hSw; (try dsimp only at hSw); go_simp; try with_reducible rfl)
        try simp only [Act.put, List.setIfInBounds_toArray, List.set_cons_zero, List.set_cons_succ]
        refine wpAnyM_take (i := 3) (v := ?_) (by simp only [List.getElem?_toArray, List.getElem?_cons_succ, List.getElem?_cons_zero] <;> rfl) (by kernel_rfl) (by kernel_rfl) (by kernel_rfl) (by kernel_rfl) (by kernel_rfl) (fun _ _ _ h => h) (Or.inl ⟨by rfl, ?_⟩) (by assumption) ?_
        rotate_left
        · (intro wv hSw; (try dsimp only at hSw); go_simp; try with_reducible rfl)
        try simp only [Act.put, List.setIfInBounds_toArray, List.set_cons_zero, List.set_cons_succ]
        refine wpAnyM_take (i := 4) (v := ?_) (by simp only [List.getElem?_toArray, List.getElem?_cons_succ, List.getElem?_cons_zero] <;> rfl) (by kernel_rfl) (by kernel_rfl) (by kernel_rfl) (by kernel_rfl) (by kernel_rfl) (fun _ _ _ h => h) (Or.inl ⟨by rfl, ?_⟩) (by assumption) ?_
        rotate_left
        · (intro wv hSw; (try dsimp only at hSw); obtain ⟨h1, h2, h3, h4, h5, h6⟩ := hSw; go_simp; try with_reducible rfl)
        try simp only [Act.put, List.setIfInBounds_toArray, List.set_cons_zero, List.set_cons_succ]
        refine wpAnyM_take (i := 5) (v := ?_) (by simp only [List.getElem?_toArray, List.getElem?_cons_succ, List.getElem?_cons_zero] <;> rfl) (by kernel_rfl) (by kernel_rfl) (by kernel_rfl) (by kernel_rfl) (by kernel_rfl) (fun _ _ _ h => h) (Or.inl ⟨by rfl, ?_⟩) (by assumption) ?_
        rotate_left
        · (intro wv hSw; (try dsimp only at hSw); obtain ⟨h1, h2, h3, h4, h5, h6⟩ := hSw; go_simp; try with_reducible rfl)
        try simp only [Act.put, List.setIfInBounds_toArray, List.set_cons_zero, List.set_cons_succ]
        refine wpAnyM_ready (rs := [6]) (by kernel_rfl) (by simp) ?_
        refine AllReadyM.cons rfl (fun K hK => ?_) AllReadyM.nil
        go_simp
        have hbX : Below wr.heap.size wr (wr.alloc (.cells #[.int .i64 i, .int .i64 a, .int .i64 b] 76)).drew := ((Below.refl _ _).alloc (Nat.le_refl _) _).drew
        obtain ⟨Y, hY⟩ : ∃ Y, Y = (wr.alloc (.cells #[.int .i64 i, .int .i64 a, .int .i64 b] 76)).drew := ⟨_, rfl⟩
        have L6 := Lib.hid (show Blk Y wr.heap.size #[.int .i64 i, .int .i64 a, .int .i64 b] 76 by rw [hY]; exact (Blk.made _ _ _).drew)
        have hsY : Y.heap.size = wr.heap.size + 1 := by rw [hY]; simp
        rw [← hY] at hbX ⊢
        clear hY
        have B6 := Lib.hid (B.out.keep hbX)
        have N6 := Lib.hid (N.out.keep hbX)
        have HB6 := Lib.hid (below_callS HB.out hbX)
        clear hbX B
        have SS : ∀ (wx : World), Blk wx p #[.slice na L.length nc] 100 → Blk wx w.heap.size #[.int .i64 i, .int .i64 a, .int .i64 b] 76 → (wx.cell? ⟨p, 0, none⟩ = some (.slice na L.length nc) ∧ wx.cell? ⟨w.heap.size, 0, none⟩ = some (.int .i64 i) ∧ wx.cell? ⟨w.heap.size, 1, none⟩ = some (.int .i64 a) ∧ wx.cell? ⟨w.heap.size, 2, none⟩ = some (.int .i64 b) ∧ p < wx.heap.size ∧ w.heap.size < wx.heap.size) := fun wx h1 h2 => ⟨h1.cell 0, h2.cell 0, h2.cell 1, h2.cell 2, h1.lt, h2.lt⟩
        have HSS := Lib.hid SS
        clear SS
        refine hK.out _ _ (HSS.out _ B6.out.blk N6.out) (fun hHeld => ?_)
        clear hK K
        try simp only [Act.put, List.setIfInBounds_toArray, List.set_cons_zero, List.set_cons_succ]
        refine wpAnyM_ready (rs := [7]) (by kernel_rfl) (by simp) ?_
        refine AllReadyM.cons rfl (fun K hK => ?_) AllReadyM.nil
        refine wp_appAtL (k := 3) (m := 1) (enc := I3.enc) (ok := I3.ok) _ _ rfl Try.underlying24 Try.infoNode rfl (by decide) (by decide) I3.one9 lo na L.length nc L [⟨i, a, b⟩] B6.out.own rfl _ rfl L6.out rfl rfl (fun x hx9 => by simp at hx9; rw [hx9]; exact hx) (by decide) (by omega) (by decide) (by omega) ?_
        intro g' c' w6 h1 h2 h3
        have ht : Touch Y w6 1 na := ⟨_, h3, fun b e => ⟨by decide, own_block B6.out.own.1 b e⟩⟩
        have P7 := Lib.hid (B6.out.blk.keepA ht (blk_ne B6.out.blk B6.out.own.typN (by decide)))
        have N7 := Lib.hid (N6.out.keepA ht (fun e => by have := hgn _ e; omega))
        have O7 := Lib.hid h1
        have F7 := Lib.hid (show FrF lo p p Y w6 from ⟨h3.os, h3.tape, h3.output, h3.size, fun k hk q1 q2 q3 => h3.block k hk (fun e => by
          have e1 := own_block B6.out.own.1 _ e.symm
          obtain ⟨cur, hc⟩ := B6.out.own.typN e1
          rcases q3 with q3 | q3
          · have := (B6.out.own.blk _ e1).1; omega
          · exact q3 _ _ hc)⟩)
        have hs7 := h3.size
        clear h1 h2 h3 ht
        refine hK.out _ _ (HSS.out _ P7.out N7.out) (fun hHeld => ?_)
        clear hK K
        try simp only [Act.put, List.setIfInBounds_toArray, List.set_cons_zero, List.set_cons_succ]
        refine wpAnyM_take (i := 8) (v := ?_) (by simp only [List.getElem?_toArray, List.getElem?_cons_succ, List.getElem?_cons_zero] <;> rfl) (by kernel_rfl) (by kernel_rfl) (by kernel_rfl) (by kernel_rfl) (by kernel_rfl) (fun _ _ _ h => h) (Or.inl ⟨by rfl, ?_⟩) (by assumption) ?_
        rotate_left
        · (intro wv hSw; (try dsimp only at hSw); go_simp; try with_reducible rfl)
        try simp only [Act.put, List.setIfInBounds_toArray, List.set_cons_zero, List.set_cons_succ]
        refine wpAnyM_take (i := 9) (v := ?_) (by simp only [List.getElem?_toArray, List.getElem?_cons_succ, List.getElem?_cons_zero] <;> rfl) (by kernel_rfl) (by kernel_rfl) (by kernel_rfl) (by kernel_rfl) (by kernel_rfl) (fun _ _ _ h => h) (Or.inl ⟨by rfl, ?_⟩) (by assumption) ?_
        rotate_left
        · (intro wv hSw; (try dsimp only at hSw); go_simp; try with_reducible rfl)
        try simp only [Act.put, List.setIfInBounds_toArray, List.set_cons_zero, List.set_cons_succ]
        have c0 := P7.out.cell 0
        have cl := P7.out.lt
        have cf := P7.out.free
        simp at c0
        refine wpAnyM_ready (rs := [10]) (by kernel_rfl) (by simp) ?_
        refine AllReadyM.last rfl (fun K hK => ?_)
        go_simp
        refine hK.out _ _ ?_
        clear hK K
        try simp only [Act.put, List.setIfInBounds_toArray, List.set_cons_zero, List.set_cons_succ]
        refine wpAnyM_done (by kernel_rfl) ?_ _
        refine NoPanic.normal ?_
        have hpg : g' ≠ p := fun e => blk_ne P7.out O7.out.typN (by decide) (by rw [e])
        obtain ⟨w7, hw7⟩ : ∃ w7, w7 = w6.setCell ⟨p, 0, none⟩ (.slice (some ⟨g', 0, none⟩) (L.length + 1) c') := ⟨_, rfl⟩
        have P8 := Lib.hid (show Blk w7 p #[.slice (some ⟨g', 0, none⟩) (L.length + 1) c'] 100 by rw [hw7]; exact P7.out.set 0 _)
        have O8 := Lib.hid (show OwnF 3 I3.enc I3.ok 76 w7 lo (some ⟨g', 0, none⟩) (L.length + 1) c' (L ++ [⟨i, a, b⟩]) by rw [hw7]; exact O7.out.keepG (set_grown p 0 _) (fun g e e' => by simp at e e'; omega))
        have F8 := Lib.hid (show FrF lo p p Y w7 from F7.out.trans (by
          rw [hw7]
          have hg := set_grown (w := w6) p 0 (.slice (some ⟨g', 0, none⟩) (L.length + 1) c')
          exact ⟨hg.os, hg.tape, hg.output, hg.size, fun k hk q1 q2 q3 => hg.block k hk (fun e => q1 (by simpa using e))⟩))
        rw [← hw7]
        clear hw7 c0 cl cf hHeld P7 N7 O7 F7
        have p0 := P8.out.cell 0
        have pl := P8.out.lt
        simp at p0
        go_wp2
        go_ret
        have hlen : (L ++ [(⟨i, a, b⟩ : I3)]).length = L.length + 1 := by simp
        refine ⟨by rw [HM.out]; first | rfl | (show Ending.returned (Value.int .i64 _) = Ending.returned (Value.int .i64 _); congr 2; omega), ⟨some ⟨g', 0, none⟩, c', ?_⟩, (FrF.of_below (lo := lo) (p := p) (mb := p) HB6.out).trans F8.out⟩
        rw [HM.out]
        exact ⟨by simp only [hlen]; exact P8.out, by simp only [hlen]; exact O8.out, HF.out.lop⟩
end Go.Proofs.Ytkaikbaagajckaa
