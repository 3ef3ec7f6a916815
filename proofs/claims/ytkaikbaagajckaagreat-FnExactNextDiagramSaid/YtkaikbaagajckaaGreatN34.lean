/- The states of a diagram that the reference collects, walked. -/
import Derived.Test.YtkaikbaagajckaaGreatPu
import Derived.Test.YtkaikbaagajckaaGreatN21
import Derived.Test.YtkaikbaagajckaaGreatN33
import Derived.Test.YtkaikbaagajckaaGreatN25
namespace Go.Proofs.YtkaikbaagajckaaGreat
open Go.RowKit
set_option linter.unusedVariables false
set_option linter.unusedSimpArgs false
attribute [local go_sem ↓] Go.wp_at_zero Go.wp_at_succ
/-- block b holds the states found so far -/
structure OnW (w : World) (lo bO : Nat) (out : List (List Int)) : Prop where
  o : ∃ a m c l, Blk w bO #[.slice a m c] 31 ∧ SRow w lo lo a m c l ∧ l.map (·.2) = out
  ob : lo ≤ bO
  low : lo ≤ w.heap.size
theorem OnW.keep {w w' : World} {lo bO : Nat} {out : List (List Int)} (h : OnW w lo bO out) (hb : Below w.heap.size w w') : OnW w' lo bO out := by
  obtain ⟨a, m, c, l, h1, h2, h3⟩ := h.o
  exact ⟨⟨a, m, c, l, h1.keep hb, h2.keep hb, h3⟩, h.ob, Nat.le_trans h.low hb.size⟩
theorem OnW.lt {w : World} {lo bO : Nat} {out : List (List Int)} (h : OnW w lo bO out) : bO < w.heap.size := by
  obtain ⟨a, m, c, l, h1, _⟩ := h.o
  exact h1.lt
theorem al_of9 {w w0 : World} {o : Obj} {b b' : Nat} {cs cs' : Array Value} {T T' : TypeId} (_ : Blk (w.alloc o) b cs T ∧ Blk (w.alloc o) b' cs' T') (h : Below w0.heap.size w0 w) : Below w0.heap.size w0 (w.alloc o) := below_allocS h o
theorem al_ofd9 {w w0 : World} {o : Obj} {b b' : Nat} {cs cs' : Array Value} {T T' : TypeId} (_ : Blk (w.alloc o).drew b cs T ∧ Blk (w.alloc o).drew b' cs' T') (h : Below w0.heap.size w0 w.drew) : Below w0.heap.size w0 (w.alloc o).drew := below_allocS h o
theorem on_zero (sz : List Int) (n : Int) (D : List I3) (N k : Nat) (c : List Int) (out : List (List Int)) : onF sz n D N k 0 c out = (out, true) := by cases k <;> simp [onF]
theorem onF_succ {sz : List Int} {n : Int} {D : List I3} {N k : Nat} {r : Int} {c : List Int} {out : List (List Int)} (h0 : r ≠ 0) :
    (begB sz N (c ++ [0]) = false → onF sz n D N (k + 1) r c out = (out, false)) ∧
    (begB sz N (c ++ [0]) = true → (onF sz n D N k (chN n D r c.length).1 (c ++ [0]) out).2 = false → onF sz n D N (k + 1) r c out = ((onF sz n D N k (chN n D r c.length).1 (c ++ [0]) out).1, false)) ∧
    (begB sz N (c ++ [0]) = true → (onF sz n D N k (chN n D r c.length).1 (c ++ [0]) out).2 = true → begB sz N (c ++ [1]) = false → onF sz n D N (k + 1) r c out = ((onF sz n D N k (chN n D r c.length).1 (c ++ [0]) out).1, true)) ∧
    (begB sz N (c ++ [0]) = true → (onF sz n D N k (chN n D r c.length).1 (c ++ [0]) out).2 = true → begB sz N (c ++ [1]) = true → onF sz n D N (k + 1) r c out = onF sz n D N k (chN n D r c.length).2 (c ++ [1]) (onF sz n D N k (chN n D r c.length).1 (c ++ [0]) out).1) := by
  refine ⟨fun h => ?_, fun h h2 => ?_, fun h h2 h3 => ?_, fun h h2 h3 => ?_⟩
  · rw [onF, if_neg h0, if_pos h]
  · rw [onF, if_neg h0, if_neg (by simp [h]), if_pos h2]
  · rw [onF, if_neg h0, if_neg (by simp [h]), if_neg (by simp [h2]), if_pos h3]
  · rw [onF, if_neg h0, if_neg (by simp [h]), if_neg (by simp [h2]), if_neg (by simp [h3])]
theorem bits01_app {c : List Int} {b : Int} (h : bits01 c) (hb : b = 0 ∨ b = 1) : bits01 (c ++ [b]) := fun x hx => by
  rcases List.mem_append.1 hx with hx | hx
  · exact h x hx
  · simp at hx; rw [hx]; exact hb
theorem bits01_all {c : List Int} (h : bits01 c) : allIn 0 1 c = true := List.all_eq_true.2 fun x hx => by
  rcases h x hx with rfl | rfl <;> rfl
set_option maxRecDepth 100000 in
set_option maxHeartbeats 16000000 in
theorem spec_l23Ones {sa ta ra da : Option Addr} {sc tn tc rn rc dc bO : Nat} {sz : List Int} {root : Int} {L : List I3} {w0 : World} (hI : Ints w0 sa sz.length sc sz) (h16 : sz.length ≤ 16) (hs : allIn 1 32 sz = true) (hD : F3 w0 da L.length dc L) (hS : Snd (offN sz sz.length : Int) L) (hL : L.length ≤ 2000) :
    ∀ (k m : Nat) (r : Int) (c : List Int) (out : List (List Int)) (la : Option Addr) (lc : Nat) (w : World), Below w0.heap.size w0 w → OnW w w0.heap.size bO out → OwnI 2 w w0.heap.size la m lc c → c.length = m → bits01 c → m + k = offN sz sz.length → begB sz (offN sz sz.length) c = true → RefB r L.length → (m : Int) ≤ lvlN (offN sz sz.length : Int) L r → out.length ≤ 4000 →
    Calls Tryz.prog 105 #[.agg #[.slice sa sz.length sc, .slice ta tn tc, .slice ra rn rc], .agg #[.int .i64 (offN sz sz.length : Int), .slice da L.length dc, .int .i64 root], .int .i64 r, .slice la m lc, .pointer (some ⟨bO, 0, none⟩)] w fun e w' => e = .returned (.bool (onF sz (offN sz sz.length : Int) L (offN sz sz.length) k r c out).2) ∧ OnW w' w0.heap.size bO (onF sz (offN sz sz.length : Int) L (offN sz sz.length) k r c out).1 ∧ StepW bO w w' ∧ Below w0.heap.size w0 w' := by
  have h80 := (off_sum hs h16).2 _ (Nat.le_refl _)
  obtain ⟨N, hN⟩ : ∃ N, N = offN sz sz.length := ⟨_, rfl⟩
  have KB := Lib.hid (fun (wx : World) (hb : Below w0.heap.size w0 wx) (va : Option Addr) (m vc : Nat) (c : List Int) (hV : Ints wx va m vc c) (hc : bits01 c) (hm : m ≤ offN sz sz.length) => spec_l23Begun (ta := ta) (tn := tn) (tc := tc) (ra := ra) (rn := rn) (rc := rc) (hI.keep hb) h16 hs hV hc hm)
  have KR := Lib.hid (fun (wx : World) (hb : Below w0.heap.size w0 wx) (r input bit : Int) (hr : RefB r L.length) => spec_l22Branch (inp := (offN sz sz.length : Int)) (root := root) (input := input) (bit := bit) (hD.keep hb) (by omega) hr)
  have KS := Lib.hid (fun (wx : World) (hb : Below w0.heap.size w0 wx) (va : Option Addr) (vc : Nat) (c : List Int) (hV : Ints wx va (offN sz sz.length) vc c) (hc : bits01 c) => spec_l23State (ta := ta) (tn := tn) (tc := tc) (ra := ra) (rn := rn) (rc := rc) (hI.keep hb) hV h16 hs (bits01_all hc) rfl)
  have HSn := Lib.hid hS
  rw [← hN] at KB KR KS h80 HSn ⊢
  have HN := Lib.hid hN
  clear hN
  clear hI hD hS
  intro k
  induction k with
  | zero =>
    intro m r c out la lc w hb hG hO hcm hc hmk hbeg hr hl hlen
    by_cases h0 : r = 0
    · subst h0
      have HG := Lib.hid hG
      have HB := Lib.hid hb
      clear hG hO hr hb
      have hbw : Below w.heap.size w ((w.alloc (.cells #[.slice sa sz.length sc, .slice ta tn tc, .slice ra rn rc] 36)).alloc (.cells #[.int .i64 (N : Int), .slice da L.length dc, .int .i64 root] 40)) := below_alloc1 (below_alloc1 (Below.refl _ _) _) _
      go_enter Tryz.func105, Tryz.ntmps105
      go_wp2
      go_ret
      exact ⟨by rw [on_zero]; rfl, by rw [on_zero]; exact HG.out.keep hbw, StepW.below hbw, below_callS HB.out hbw⟩
    · have hmN : N = m := by omega
      subst hmN
      have hneM : w.heap.size ≠ bO := by have := hG.lt; omega
      have hbw : Below w.heap.size w ((w.alloc (.cells #[.slice sa sz.length sc, .slice ta tn tc, .slice ra rn rc] 36)).alloc (.cells #[.int .i64 (N : Int), .slice da L.length dc, .int .i64 root] 40)) := below_alloc1 (below_alloc1 (Below.refl _ _) _) _
      have BM := Lib.hid ((Blk.made w #[.slice sa sz.length sc, .slice ta tn tc, .slice ra rn rc] 36).keep (below_alloc1 (Below.refl _ _) (.cells #[.int .i64 (N : Int), .slice da L.length dc, .int .i64 root] 40)))
      have BD := Lib.hid (Blk.made1 w (.cells #[.slice sa sz.length sc, .slice ta tn tc, .slice ra rn rc] 36) #[.int .i64 (N : Int), .slice da L.length dc, .int .i64 root] 40)
      have d0 := BD.out.cell 0
      have dl := BD.out.lt
      simp only [List.getElem?_toArray, List.getElem?_cons_zero] at d0
      have K5 := KS.out _ (below_callS hb hbw) _ _ _ (hO.ints.keep hbw) hc
      have hF : onF sz (N : Int) L N 0 r c out = (if okB sz c = true then out ++ [stV sz c] else out, decide ((if okB sz c = true then out ++ [stV sz c] else out).length ≤ 4000)) := by rw [onF, if_neg h0]
      have GG := Lib.hid (hG.keep hbw)
      have HBc := Lib.hid (below_callS hb hbw)
      have STc := Lib.hid (StepW.below (b := bO) hbw)
      have r0 : (r == 0) = false := by simpa using h0
      clear hG hO hb hr hl hbeg HN KR KS KB
      cases hok : okB sz c
      · have hok' : stateB sz (stV sz c) = false := hok
        rw [hok'] at K5
        have K6 := Lib.hid K5
        rw [hok, if_neg (by simp)] at hF
        have HL := Lib.hid (show onF sz (N : Int) L N 0 r c out = (out, true) by rw [hF, decide_eq_true hlen])
        clear K5 hok hok' hF
        go_enter Tryz.func105, Tryz.ntmps105
        go_wp2_with fail
        refine Calls.mono K6.out ?_
        rintro e w5 ⟨a5, c5, rfl, hb5, ho5⟩
        have G5 := Lib.hid (GG.out.keep hb5)
        obtain ⟨a, q, cq, l, hB, hRow, hmap⟩ := G5.out.o
        have o0 := hB.cell 0
        have ol := hB.lt
        simp at o0
        have hq : q ≤ 4000 := by have h1 := hRow.len; rw [← hmap, List.length_map] at hlen; omega
        have hq' : (q : Int) ≤ 4000 := by omega
        clear hB hRow hmap ho5 d0 dl
        go_wp2
        go_ret
        exact ⟨by rw [HL.out]; rfl, by rw [HL.out]; exact G5.out, STc.out.trans (StepW.below hb5), below_callS HBc.out hb5⟩
      · have hok' : stateB sz (stV sz c) = true := hok
        rw [hok'] at K5
        have K6 := Lib.hid K5
        rw [hok, if_pos rfl] at hF
        have HL := Lib.hid hF
        clear K5 hok hok' hF
        go_enter Tryz.func105, Tryz.ntmps105
        go_wp2_with fail
        refine Calls.mono K6.out ?_
        rintro e w5 ⟨a5, c5, rfl, hb5, ho5⟩
        have G5 := Lib.hid (GG.out.keep hb5)
        obtain ⟨a, q, cq, l, hB, hRow, hmap⟩ := G5.out.o
        have o0 := hB.cell 0
        have ol := hB.lt
        have ofr := hB.free
        simp at o0
        have hqe : q = out.length := by rw [← hRow.len, ← hmap, List.length_map]
        have hq4 : q ≤ 4000 := by omega
        have HQE := Lib.hid hqe
        clear hqe
        have HB := Lib.hid hB
        have HR := Lib.hid hRow
        have HM := Lib.hid hmap
        have HS5 := Lib.hid (STc.out.trans (StepW.below hb5))
        have HB5 := Lib.hid (below_callS HBc.out hb5)
        have hsz := (below_callS HBc.out hb5).size
        have O5 := Lib.hid (ho5.le HBc.out.size)
        clear hB hRow hmap ho5 d0 dl hb5
        go_wp2_with (at_builtin; refine appS rfl _ _ rfl w0.heap.size w0.heap.size _ _ _ _ HR.out rfl _ rfl rfl (⟨a5, _, c5⟩, stV sz c) O5.out _ rfl (by omega) (by omega) ?_; intro g2 oc2 w6 ho2 hb2 ht2 hat2 hs2; refine Hid.out ?_)
        have B6 := Lib.hid (HB.out.keepA ht2 (blk_ne HB.out (fun {g} e => HR.out.row.typ e) (by decide)))
        have O6 := Lib.hid ho2
        have ST6 := Lib.hid (HS5.out.trans (StepW.touch (b := bO) HR.out ht2))
        have BL6 := Lib.hid (HB5.out.trans hb2)
        clear ho2 hb2 ht2 hat2 o0 ofr ol
        have b6l := B6.out.lt
        have b6f := B6.out.free
        have b60 := B6.out.cell 0
        simp at b60
        have hob := G5.out.ob
        have hB7 := Lib.hid (B6.out.put8 0 (.slice (some ⟨g2, 0, none⟩) (q + 1) oc2))
        have hST := Lib.hid (ST6.out.trans (StepW.set bO w6 0 (.slice (some ⟨g2, 0, none⟩) (q + 1) oc2)))
        have hBL := Lib.hid (BL6.out.setCell (show w0.heap.size ≤ (⟨bO, 0, none⟩ : Addr).block from hob) (.slice (some ⟨g2, 0, none⟩) (q + 1) oc2))
        have hG7 := Lib.hid (show OnW (w6.setCell ⟨bO, 0, none⟩ (.slice (some ⟨g2, 0, none⟩) (q + 1) oc2)) w0.heap.size bO (out ++ [stV sz c]) from ⟨⟨_, _, _, _, hB7.out, O6.out.setB9 B6.out (by decide) (by decide) _ _, by rw [List.map_append, HM.out]; rfl⟩, hob, by have := hBL.out.size; omega⟩)
        have z0 := hB7.out.cell 0
        have zl := hB7.out.lt
        simp at z0
        refine Lib.hid ?_
        by_cases hq1 : q + 1 ≤ 4000
        · have hq2 : (q : Int) + 1 ≤ 4000 := by omega
          have hd : decide ((out ++ [stV sz c]).length ≤ 4000) = true := decide_eq_true (by have hqe := HQE.out; rw [List.length_append]; simp; omega)
          have HD := Lib.hid hd
          clear hd
          go_wp2
          go_ret
          exact ⟨by rw [HL.out, HD.out]; rfl, by rw [HL.out]; exact hG7.out, hST.out, hBL.out⟩
        · have hq2 : ¬ (q : Int) + 1 ≤ 4000 := by omega
          have hd : decide ((out ++ [stV sz c]).length ≤ 4000) = false := decide_eq_false (by have hqe := HQE.out; rw [List.length_append]; simp; omega)
          have HD := Lib.hid hd
          clear hd
          go_wp2
          go_ret
          exact ⟨by rw [HL.out, HD.out]; rfl, by rw [HL.out]; exact hG7.out, hST.out, hBL.out⟩
  | succ k ih =>
    intro m r c out la lc w hb hG hO hcm hc hmk hbeg hr hl hlen
    by_cases h0 : r = 0
    · subst h0
      have HG := Lib.hid hG
      have HB := Lib.hid hb
      clear hG hO hr hb
      have hbw : Below w.heap.size w ((w.alloc (.cells #[.slice sa sz.length sc, .slice ta tn tc, .slice ra rn rc] 36)).alloc (.cells #[.int .i64 (N : Int), .slice da L.length dc, .int .i64 root] 40)) := below_alloc1 (below_alloc1 (Below.refl _ _) _) _
      go_enter Tryz.func105, Tryz.ntmps105
      go_wp2
      go_ret
      exact ⟨by rw [on_zero]; rfl, by rw [on_zero]; exact HG.out.keep hbw, StepW.below hbw, below_callS HB.out hbw⟩
    · obtain ⟨c1, c2, c3, c4, _⟩ := ch_all HSn.out.redu.frst HSn.out.ord hr hl (by omega)
      have hneM : w.heap.size ≠ bO := by have := hG.lt; omega
      have hneD : w.heap.size + 1 ≠ bO := by have := hG.lt; omega
      have hbw : Below w.heap.size w ((w.alloc (.cells #[.slice sa sz.length sc, .slice ta tn tc, .slice ra rn rc] 36)).alloc (.cells #[.int .i64 (N : Int), .slice da L.length dc, .int .i64 root] 40)) := below_alloc1 (below_alloc1 (Below.refl _ _) _) _
      have BM := Lib.hid ((Blk.made w #[.slice sa sz.length sc, .slice ta tn tc, .slice ra rn rc] 36).keep (below_alloc1 (Below.refl _ _) (.cells #[.int .i64 (N : Int), .slice da L.length dc, .int .i64 root] 40)))
      have BD := Lib.hid (Blk.made1 w (.cells #[.slice sa sz.length sc, .slice ta tn tc, .slice ra rn rc] 36) #[.int .i64 (N : Int), .slice da L.length dc, .int .i64 root] 40)
      have GG := Lib.hid (hG.keep hbw)
      have OC := Lib.hid (hO.keep hbw)
      have HBc := Lib.hid (below_callS hb hbw)
      have STc := Lib.hid (StepW.below (b := bO) hbw)
      have d0 := BD.out.cell 0
      have dl := BD.out.lt
      simp only [List.getElem?_toArray, List.getElem?_cons_zero] at d0
      have hmN : ((m : Int) == (N : Int)) = false := by simp; omega
      have r0 : (r == 0) = false := by simpa using h0
      have KX0 := (fun (wx : World) (hb : Below w0.heap.size w0 wx) (va : Option Addr) (vc : Nat) (hV : Ints wx va (m + 1) vc (c ++ [0])) => KB.out wx hb va (m + 1) vc (c ++ [0]) hV (bits01_app hc (.inl rfl)) (by omega))
      have KX1 := (fun (wx : World) (hb : Below w0.heap.size w0 wx) (va : Option Addr) (vc : Nat) (hV : Ints wx va (m + 1) vc (c ++ [1])) => KB.out wx hb va (m + 1) vc (c ++ [1]) hV (bits01_app hc (.inr rfl)) (by omega))
      have KR0 := Lib.hid (fun (wx : World) (hb : Below w0.heap.size w0 wx) => KR.out wx hb r (m : Int) 0 hr)
      have KR1 := Lib.hid (fun (wx : World) (hb : Below w0.heap.size w0 wx) => KR.out wx hb r (m : Int) 1 hr)
      rw [show brN (N : Int) L r (m : Int) 0 = (chN (N : Int) L r (m : Int)).1 from if_pos rfl] at KR0
      rw [show brN (N : Int) L r (m : Int) 1 = (chN (N : Int) L r (m : Int)).2 from if_neg (by decide)] at KR1
      have hb0' : begB sz N (c ++ [0]) = true → ((onF sz (N : Int) L N k (chN (N : Int) L r (m : Int)).1 (c ++ [0]) out).2 = true → (onF sz (N : Int) L N k (chN (N : Int) L r (m : Int)).1 (c ++ [0]) out).1.length ≤ 4000) := fun hb0 hA => by
        obtain ⟨q1, q2⟩ := on_eq (sz := sz) HSn.out.redu.frst HSn.out.ord k (chN (N : Int) L r (m : Int)).1 (c ++ [0]) out (by simp; omega) (bits01_app hc (.inl rfl)) hb0 c1 (by simp; omega) hlen
        rw [q2 hA, List.length_append]
        rw [hA] at q1
        exact of_decide_eq_true q1.symm
      have HF := onF_succ (sz := sz) (N := N) (k := k) (c := c) (out := out) (D := L) (n := (N : Int)) h0
      rw [hcm] at HF
      clear hG hO hb hr hl hbeg HN KR KS
      cases hb0 : begB sz N (c ++ [0])
      · rw [hb0] at KX0
        have KB0 := Lib.hid KX0
        have HL := Lib.hid (HF.1 hb0)
        clear KX0 KX1 KB ih HF hb0 hb0' c1 c2 c3 c4 hbw
        go_enter Tryz.func105, Tryz.ntmps105
        go_wp2_with fail
        obtain ⟨wr, hwr⟩ : ∃ wr, wr = ((w.alloc (.cells #[.slice sa sz.length sc, .slice ta tn tc, .slice ra rn rc] 36)).alloc (.cells #[.int .i64 (N : Int), .slice da L.length dc, .int .i64 root] 40)) := ⟨_, rfl⟩
        rw [← hwr] at BM BD GG OC HBc STc ⊢
        clear hwr d0 dl
        refine wp_region_noPanic ?_
        refine wp_region_held_drew (S := fun wx => Blk wx w.heap.size #[.slice sa sz.length sc, .slice ta tn tc, .slice ra rn rc] 36 ∧ Blk wx (w.heap.size + 1) #[.int .i64 (N : Int), .slice da L.length dc, .int .i64 root] 40) (by kernel_rfl) ?_ (fun hHeld => ?_)
        · exact ⟨BM.out.keep (Below.refl _ _).drew, BD.out.keep (Below.refl _ _).drew⟩
        have hx : Below wr.heap.size wr wr.drew := (Below.refl _ _).drew
        refine tkH0 0 (v := ?_) ?_ ?_
        rotate_left
        · (intro wv hSw; obtain ⟨hq1, hq2⟩ := hSw; have p0 := hq1.cell 0; have p1 := hq1.cell 1; have p2 := hq1.cell 2; have pl := hq1.lt; have q0 := hq2.cell 0; have q1 := hq2.cell 1; have q2 := hq2.cell 2; have ql := hq2.lt; simp only [List.getElem?_toArray, List.getElem?_cons_zero, List.getElem?_cons_succ] at p0 p1 p2 q0 q1 q2; clear hq1 hq2; go_simp; try with_reducible rfl)
        try simp only [pu]
        refine tkH0 1 (v := ?_) ?_ ?_
        rotate_left
        · (intro wv hSw; clear hSw; go_simp; try with_reducible rfl)
        try simp only [pu]
        refine wpAnyH_two (i := 2) (j := 3) (n := m) (di := some 44) (dj := some 45) (F := fun a3 c3 gx wn => Below wr.heap.size wr wn ∧ OwnI 2 wn wr.heap.size a3 m c3 c ∧ OwnI 2 wn wr.heap.size (some ⟨gx, 0, none⟩) 1 1 [(0 : Int)]) (by assumption) ?_ ?_
        · refine wpK_ready (rs := [2, 3]) (by kernel_rfl) (by simp) ?_
          refine AllReadyK.cons rfl (fun K hK => ?_) ?_
          · go_simp
            refine Calls.mono (spec_l01Own9 (OC.out.ints.keep hx) (by omega)) ?_
            rintro e wn ⟨a3, c3, rfl, hbn, ho⟩
            (try replace HLt := Lib.hid (HLt.out.keep hbn))
            have HT := Lib.hid (ho.le hx.size)
            replace hx := below_callS hx hbn
            clear hbn ho
            go_wp2_with fail
            refine hK.out _ _ ⟨BM.out.keep hx, BD.out.keep hx⟩ (fun hHeld => ?_)
            clear hK K
            try simp only [pu]
            refine wpK_ready (rs := [3]) (by kernel_rfl) (by simp) ?_
            refine AllReadyK.cons rfl (fun K hK => ?_) ?_
            · go_simp
              refine hK.out _ _ ⟨BM.out.keep bel, BD.out.keep bel⟩ (fun hHeld => ?_)
              have hz := hx.size
              replace hx := (by first | exact al_of9 hHeld hx | exact al_ofd9 hHeld hx)
              have HLt := Lib.hid (by first | exact (lit9_of (show Below _ _ (World.alloc _ (.cells #[.int .i64 0] 2)) from hx) (by unfold I64; omega)).le hz | exact (lit9_ofd (show Below _ _ (World.drew (World.alloc _ (.cells #[.int .i64 0] 2))) from hx) (by unfold I64; omega)).le hz)
              (try replace HT := Lib.hid (HT.out.al9 (show Below _ _ (World.alloc _ _) from hx)))
              clear hz
              clear hK K
              try simp only [pu]
              exact ⟨_, _, _, rfl, rfl, hx, HT.out, HLt.out⟩
            exact AllReadyK.nil
          refine AllReadyK.cons rfl (fun K hK => ?_) ?_
          · go_simp
            refine hK.out _ _ ⟨BM.out.keep bel, BD.out.keep bel⟩ (fun hHeld => ?_)
            have hz := hx.size
            replace hx := (by first | exact al_of9 hHeld hx | exact al_ofd9 hHeld hx)
            have HLt := Lib.hid (by first | exact (lit9_of (show Below _ _ (World.alloc _ (.cells #[.int .i64 0] 2)) from hx) (by unfold I64; omega)).le hz | exact (lit9_ofd (show Below _ _ (World.drew (World.alloc _ (.cells #[.int .i64 0] 2))) from hx) (by unfold I64; omega)).le hz)
            (try replace HT := Lib.hid (HT.out.al9 (show Below _ _ (World.alloc _ _) from hx)))
            clear hz
            clear hK K
            try simp only [pu]
            refine wpK_ready (rs := [2]) (by kernel_rfl) (by simp) ?_
            refine AllReadyK.cons rfl (fun K hK => ?_) ?_
            · go_simp
              refine Calls.mono (spec_l01Own9 (OC.out.ints.keep hx) (by omega)) ?_
              rintro e wn ⟨a3, c3, rfl, hbn, ho⟩
              (try replace HLt := Lib.hid (HLt.out.keep hbn))
              have HT := Lib.hid (ho.le hx.size)
              replace hx := below_callS hx hbn
              clear hbn ho
              go_wp2_with fail
              refine hK.out _ _ ⟨BM.out.keep hx, BD.out.keep hx⟩ (fun hHeld => ?_)
              clear hK K
              try simp only [pu]
              exact ⟨_, _, _, rfl, rfl, hx, HT.out, HLt.out⟩
            exact AllReadyK.nil
          exact AllReadyK.nil
        clear hx hHeld
        intro a3 c3 gx wn hHeld hF
        obtain ⟨hx, hT, hLt⟩ := hF
        have HT := Lib.hid hT
        have HLt := Lib.hid hLt
        clear hT hLt
        try simp only [pu]
        refine wpAnyH_ready (rs := [4]) (by kernel_rfl) (by simp) ?_
        refine AllReadyH.cons rfl (fun K hK => ?_) AllReadyH.nil
        refine wp_appendL_F (k := 1) (enc := enc1) (ok := I64) _ _ 22 2 rfl Tryz.underlying22 Tryz.infoi64 rfl (by decide) (by decide) enc1_one9 wr.heap.size _ _ _ _ HT.out.f1 rfl _ _ _ [(0 : Int)] rfl HLt.out.f1.flats (by omega) (by omega) hx.size ?_
        intro aT cT wn2 ho hbB hgB
        replace hx := hx.trans hbB
        have HT2 := Lib.hid ho.i1
        clear ho hbB hgB HT HLt hHeld
        refine hK.out _ _ ⟨BM.out.keep hx, BD.out.keep hx⟩ (fun hHeld => ?_)
        clear hK K
        try simp only [pu]
        refine wpAnyH_ready (rs := [5]) (by kernel_rfl) (by simp) ?_
        refine AllReadyH.cons rfl (fun K hK => ?_) AllReadyH.nil
        go_simp
        refine Calls.mono (KB0.out _ (below_callS HBc.out hx) _ _ HT2.out.ints) ?_
        rintro e wb ⟨rfl, hbb⟩
        replace hx := below_callS hx hbb
        clear hbb HT2 hHeld
        go_wp2_with fail
        refine hK.out _ _ ⟨BM.out.keep hx, BD.out.keep hx⟩ (fun hHeld => ?_)
        clear hK K
        try simp only [pu]
        replace BM := Lib.hid (BM.out.keep hx)
        replace BD := Lib.hid (BD.out.keep hx)
        replace GG := Lib.hid (GG.out.keep hx)
        replace OC := Lib.hid (OC.out.keep hx)
        replace HBc := Lib.hid (below_callS HBc.out hx)
        replace STc := Lib.hid (STc.out.trans (StepW.below hx))
        clear hx
        have hx := Below.refl wb.heap.size wb
        refine tkH0 6 (v := ?_) ?_ ?_
        rotate_left
        · (intro wv hSw; clear hSw; go_simp; try with_reducible rfl)
        try simp only [pu]
        refine tkN 7 ?_
        try simp only [pu]
        refine tkN 8 ?_
        try simp only [pu]
        refine tkN 9 ?_
        try simp only [pu]
        refine tkN 10 ?_
        try simp only [pu]
        refine tkN 11 ?_
        try simp only [pu]
        refine tkN 12 ?_
        try simp only [pu]
        refine tkN 13 ?_
        try simp only [pu]
        refine tkN 14 ?_
        try simp only [pu]
        refine tkN 15 ?_
        try simp only [pu]
        refine tkN 16 ?_
        try simp only [pu]
        refine tkN 17 ?_
        try simp only [pu]
        refine tkN 18 ?_
        try simp only [pu]
        refine tkH0 19 (v := ?_) ?_ ?_
        rotate_left
        · (intro wv hSw; clear hSw; go_simp; try with_reducible rfl)
        try simp only [pu]
        refine tkH0 20 (v := ?_) ?_ ?_
        rotate_left
        · (intro wv hSw; clear hSw; go_simp; try with_reducible rfl)
        try simp only [pu]
        refine tkN 21 ?_
        try simp only [pu]
        refine tkN 22 ?_
        try simp only [pu]
        refine tkN 23 ?_
        try simp only [pu]
        refine tkN 24 ?_
        try simp only [pu]
        refine tkN 25 ?_
        try simp only [pu]
        refine tkN 26 ?_
        try simp only [pu]
        refine tkN 27 ?_
        try simp only [pu]
        refine tkN 28 ?_
        try simp only [pu]
        refine tkN 29 ?_
        try simp only [pu]
        refine tkN 30 ?_
        try simp only [pu]
        refine tkN 31 ?_
        try simp only [pu]
        refine tkN 32 ?_
        try simp only [pu]
        refine tkN 33 ?_
        try simp only [pu]
        refine tkN 34 ?_
        try simp only [pu]
        refine tkN 35 ?_
        try simp only [pu]
        refine tkN 36 ?_
        try simp only [pu]
        refine tkN 37 ?_
        try simp only [pu]
        refine tkN 38 ?_
        try simp only [pu]
        refine tkN 39 ?_
        try simp only [pu]
        refine tkN 40 ?_
        try simp only [pu]
        refine tkN 41 ?_
        try simp only [pu]
        refine tkH0 42 (v := ?_) ?_ ?_
        rotate_left
        · (intro wv hSw; clear hSw; go_simp; try with_reducible rfl)
        try simp only [pu]
        refine tkH0 43 (v := ?_) ?_ ?_
        rotate_left
        · (intro wv hSw; clear hSw; go_simp; try with_reducible rfl)
        try simp only [pu]
        refine wpAnyH_done (by kernel_rfl) ?_ _
        refine NoPanic.normal ?_
        clear hHeld
        go_wp2
        go_ret
        exact ⟨by rw [HL.out]; rfl, by rw [HL.out]; exact GG.out.keep hx, STc.out.trans (StepW.below hx), below_callS HBc.out hx⟩
      · rw [hb0] at KX0
        have KB0 := Lib.hid KX0
        have hA9 := hb0' hb0
        have IHX := (fun (wx : World) (hb : Below w0.heap.size w0 wx) (hG : OnW wx w0.heap.size bO out) (va : Option Addr) (vc : Nat) (hO : OwnI 2 wx w0.heap.size va (m + 1) vc (c ++ [0])) => ih (m + 1) (chN (N : Int) L r (m : Int)).1 (c ++ [0]) out va vc wx hb hG hO (by simp; omega) (bits01_app hc (.inl rfl)) (by omega) hb0 c1 (by omega) hlen)
        have IHY := (fun hA wx (hb : Below w0.heap.size w0 wx) hG (va : Option Addr) (vc : Nat) (hO : OwnI 2 wx w0.heap.size va (m + 1) vc (c ++ [1])) hb1 => ih (m + 1) (chN (N : Int) L r (m : Int)).2 (c ++ [1]) (onF sz (N : Int) L N k (chN (N : Int) L r (m : Int)).1 (c ++ [0]) out).1 va vc wx hb hG hO (by simp; omega) (bits01_app hc (.inr rfl)) (by omega) hb1 c2 (by omega) (hA9 hA))
        clear hb0' c1 c2 c3 c4 hbw KX0 KB ih hA9
        have HF2 := HF.2.1 hb0
        have HF3 := HF.2.2.1 hb0
        have HF4 := HF.2.2.2 hb0
        clear HF
        generalize onF sz (N : Int) L N k (chN (N : Int) L r (m : Int)).1 (c ++ [0]) out = A at *
        cases hA : A.2
        · rw [hA] at IHX
          have IH0 := Lib.hid IHX
          have HL := Lib.hid (HF2 hA)
          clear IHX IHY HF2 HF3 HF4 hA KX1 hb0
          go_enter Tryz.func105, Tryz.ntmps105
          go_wp2_with fail
          obtain ⟨wr, hwr⟩ : ∃ wr, wr = ((w.alloc (.cells #[.slice sa sz.length sc, .slice ta tn tc, .slice ra rn rc] 36)).alloc (.cells #[.int .i64 (N : Int), .slice da L.length dc, .int .i64 root] 40)) := ⟨_, rfl⟩
          rw [← hwr] at BM BD GG OC HBc STc ⊢
          clear hwr d0 dl
          refine wp_region_noPanic ?_
          refine wp_region_held_drew (S := fun wx => Blk wx w.heap.size #[.slice sa sz.length sc, .slice ta tn tc, .slice ra rn rc] 36 ∧ Blk wx (w.heap.size + 1) #[.int .i64 (N : Int), .slice da L.length dc, .int .i64 root] 40) (by kernel_rfl) ?_ (fun hHeld => ?_)
          · exact ⟨BM.out.keep (Below.refl _ _).drew, BD.out.keep (Below.refl _ _).drew⟩
          have hx : Below wr.heap.size wr wr.drew := (Below.refl _ _).drew
          refine tkH0 0 (v := ?_) ?_ ?_
          rotate_left
          · (intro wv hSw; obtain ⟨hq1, hq2⟩ := hSw; have p0 := hq1.cell 0; have p1 := hq1.cell 1; have p2 := hq1.cell 2; have pl := hq1.lt; have q0 := hq2.cell 0; have q1 := hq2.cell 1; have q2 := hq2.cell 2; have ql := hq2.lt; simp only [List.getElem?_toArray, List.getElem?_cons_zero, List.getElem?_cons_succ] at p0 p1 p2 q0 q1 q2; clear hq1 hq2; go_simp; try with_reducible rfl)
          try simp only [pu]
          refine tkH0 1 (v := ?_) ?_ ?_
          rotate_left
          · (intro wv hSw; clear hSw; go_simp; try with_reducible rfl)
          try simp only [pu]
          refine wpAnyH_two (i := 2) (j := 3) (n := m) (di := some 44) (dj := some 45) (F := fun a3 c3 gx wn => Below wr.heap.size wr wn ∧ OwnI 2 wn wr.heap.size a3 m c3 c ∧ OwnI 2 wn wr.heap.size (some ⟨gx, 0, none⟩) 1 1 [(0 : Int)]) (by assumption) ?_ ?_
          · refine wpK_ready (rs := [2, 3]) (by kernel_rfl) (by simp) ?_
            refine AllReadyK.cons rfl (fun K hK => ?_) ?_
            · go_simp
              refine Calls.mono (spec_l01Own9 (OC.out.ints.keep hx) (by omega)) ?_
              rintro e wn ⟨a3, c3, rfl, hbn, ho⟩
              (try replace HLt := Lib.hid (HLt.out.keep hbn))
              have HT := Lib.hid (ho.le hx.size)
              replace hx := below_callS hx hbn
              clear hbn ho
              go_wp2_with fail
              refine hK.out _ _ ⟨BM.out.keep hx, BD.out.keep hx⟩ (fun hHeld => ?_)
              clear hK K
              try simp only [pu]
              refine wpK_ready (rs := [3]) (by kernel_rfl) (by simp) ?_
              refine AllReadyK.cons rfl (fun K hK => ?_) ?_
              · go_simp
                refine hK.out _ _ ⟨BM.out.keep bel, BD.out.keep bel⟩ (fun hHeld => ?_)
                have hz := hx.size
                replace hx := (by first | exact al_of9 hHeld hx | exact al_ofd9 hHeld hx)
                have HLt := Lib.hid (by first | exact (lit9_of (show Below _ _ (World.alloc _ (.cells #[.int .i64 0] 2)) from hx) (by unfold I64; omega)).le hz | exact (lit9_ofd (show Below _ _ (World.drew (World.alloc _ (.cells #[.int .i64 0] 2))) from hx) (by unfold I64; omega)).le hz)
                (try replace HT := Lib.hid (HT.out.al9 (show Below _ _ (World.alloc _ _) from hx)))
                clear hz
                clear hK K
                try simp only [pu]
                exact ⟨_, _, _, rfl, rfl, hx, HT.out, HLt.out⟩
              exact AllReadyK.nil
            refine AllReadyK.cons rfl (fun K hK => ?_) ?_
            · go_simp
              refine hK.out _ _ ⟨BM.out.keep bel, BD.out.keep bel⟩ (fun hHeld => ?_)
              have hz := hx.size
              replace hx := (by first | exact al_of9 hHeld hx | exact al_ofd9 hHeld hx)
              have HLt := Lib.hid (by first | exact (lit9_of (show Below _ _ (World.alloc _ (.cells #[.int .i64 0] 2)) from hx) (by unfold I64; omega)).le hz | exact (lit9_ofd (show Below _ _ (World.drew (World.alloc _ (.cells #[.int .i64 0] 2))) from hx) (by unfold I64; omega)).le hz)
              (try replace HT := Lib.hid (HT.out.al9 (show Below _ _ (World.alloc _ _) from hx)))
              clear hz
              clear hK K
              try simp only [pu]
              refine wpK_ready (rs := [2]) (by kernel_rfl) (by simp) ?_
              refine AllReadyK.cons rfl (fun K hK => ?_) ?_
              · go_simp
                refine Calls.mono (spec_l01Own9 (OC.out.ints.keep hx) (by omega)) ?_
                rintro e wn ⟨a3, c3, rfl, hbn, ho⟩
                (try replace HLt := Lib.hid (HLt.out.keep hbn))
                have HT := Lib.hid (ho.le hx.size)
                replace hx := below_callS hx hbn
                clear hbn ho
                go_wp2_with fail
                refine hK.out _ _ ⟨BM.out.keep hx, BD.out.keep hx⟩ (fun hHeld => ?_)
                clear hK K
                try simp only [pu]
                exact ⟨_, _, _, rfl, rfl, hx, HT.out, HLt.out⟩
              exact AllReadyK.nil
            exact AllReadyK.nil
          clear hx hHeld
          intro a3 c3 gx wn hHeld hF
          obtain ⟨hx, hT, hLt⟩ := hF
          have HT := Lib.hid hT
          have HLt := Lib.hid hLt
          clear hT hLt
          try simp only [pu]
          refine wpAnyH_ready (rs := [4]) (by kernel_rfl) (by simp) ?_
          refine AllReadyH.cons rfl (fun K hK => ?_) AllReadyH.nil
          refine wp_appendL_F (k := 1) (enc := enc1) (ok := I64) _ _ 22 2 rfl Tryz.underlying22 Tryz.infoi64 rfl (by decide) (by decide) enc1_one9 wr.heap.size _ _ _ _ HT.out.f1 rfl _ _ _ [(0 : Int)] rfl HLt.out.f1.flats (by omega) (by omega) hx.size ?_
          intro aT cT wn2 ho hbB hgB
          replace hx := hx.trans hbB
          have HT2 := Lib.hid ho.i1
          clear ho hbB hgB HT HLt hHeld
          refine hK.out _ _ ⟨BM.out.keep hx, BD.out.keep hx⟩ (fun hHeld => ?_)
          clear hK K
          try simp only [pu]
          refine wpAnyH_ready (rs := [5]) (by kernel_rfl) (by simp) ?_
          refine AllReadyH.cons rfl (fun K hK => ?_) AllReadyH.nil
          go_simp
          refine Calls.mono (KB0.out _ (below_callS HBc.out hx) _ _ HT2.out.ints) ?_
          rintro e wb ⟨rfl, hbb⟩
          replace hx := below_callS hx hbb
          clear hbb HT2 hHeld
          go_wp2_with fail
          refine hK.out _ _ ⟨BM.out.keep hx, BD.out.keep hx⟩ (fun hHeld => ?_)
          clear hK K
          try simp only [pu]
          replace BM := Lib.hid (BM.out.keep hx)
          replace BD := Lib.hid (BD.out.keep hx)
          replace GG := Lib.hid (GG.out.keep hx)
          replace OC := Lib.hid (OC.out.keep hx)
          replace HBc := Lib.hid (below_callS HBc.out hx)
          replace STc := Lib.hid (STc.out.trans (StepW.below hx))
          clear hx
          have hx := Below.refl wb.heap.size wb
          refine tkH0 6 (v := ?_) ?_ ?_
          rotate_left
          · (intro wv hSw; clear hSw; go_simp; try with_reducible rfl)
          try simp only [pu]
          refine tkH0 7 (v := ?_) ?_ ?_
          rotate_left
          · (intro wv hSw; obtain ⟨hq1, hq2⟩ := hSw; have p0 := hq1.cell 0; have p1 := hq1.cell 1; have p2 := hq1.cell 2; have pl := hq1.lt; have q0 := hq2.cell 0; have q1 := hq2.cell 1; have q2 := hq2.cell 2; have ql := hq2.lt; simp only [List.getElem?_toArray, List.getElem?_cons_zero, List.getElem?_cons_succ] at p0 p1 p2 q0 q1 q2; clear hq1 hq2; go_simp; try with_reducible rfl)
          try simp only [pu]
          refine tkH0 8 (v := ?_) ?_ ?_
          rotate_left
          · (intro wv hSw; obtain ⟨hq1, hq2⟩ := hSw; have p0 := hq1.cell 0; have p1 := hq1.cell 1; have p2 := hq1.cell 2; have pl := hq1.lt; have q0 := hq2.cell 0; have q1 := hq2.cell 1; have q2 := hq2.cell 2; have ql := hq2.lt; simp only [List.getElem?_toArray, List.getElem?_cons_zero, List.getElem?_cons_succ] at p0 p1 p2 q0 q1 q2; clear hq1 hq2; go_simp; try with_reducible rfl)
          try simp only [pu]
          refine tkH0 9 (v := ?_) ?_ ?_
          rotate_left
          · (intro wv hSw; obtain ⟨hq1, hq2⟩ := hSw; have p0 := hq1.cell 0; have p1 := hq1.cell 1; have p2 := hq1.cell 2; have pl := hq1.lt; have q0 := hq2.cell 0; have q1 := hq2.cell 1; have q2 := hq2.cell 2; have ql := hq2.lt; simp only [List.getElem?_toArray, List.getElem?_cons_zero, List.getElem?_cons_succ] at p0 p1 p2 q0 q1 q2; clear hq1 hq2; go_simp; try with_reducible rfl)
          try simp only [pu]
          refine tkH0 10 (v := ?_) ?_ ?_
          rotate_left
          · (intro wv hSw; clear hSw; go_simp; try with_reducible rfl)
          try simp only [pu]
          refine tkH0 11 (v := ?_) ?_ ?_
          rotate_left
          · (intro wv hSw; clear hSw; go_simp; try with_reducible rfl)
          try simp only [pu]
          refine tkH0 13 (v := ?_) ?_ ?_
          rotate_left
          · (intro wv hSw; clear hSw; go_simp; try with_reducible rfl)
          try simp only [pu]
          refine tkH0 17 (v := ?_) ?_ ?_
          rotate_left
          · (intro wv hSw; clear hSw; go_simp; try with_reducible rfl)
          try simp only [pu]
          refine wpAnyH_three (i0 := 12) (d0 := some 54) (v := .int .i64 (chN (N : Int) L r (m : Int)).1) (i := 14) (j := 15) (n := m) (di := some 56) (dj := some 57) (F := fun a3 c3 gx wn => Below wb.heap.size wb wn ∧ OwnI 2 wn wb.heap.size a3 m c3 c ∧ OwnI 2 wn wb.heap.size (some ⟨gx, 0, none⟩) 1 1 [(0 : Int)]) (by assumption) ?_ ?_
          · refine wpK_ready (rs := [12, 15]) (by kernel_rfl) (by simp) ?_
            refine AllReadyK.cons rfl (fun K hK => ?_) ?_
            · go_simp
              refine Calls.mono (KR0.out _ (below_callS HBc.out hx)) ?_
              rintro e wn ⟨rfl, hbn⟩
              (try replace HLt := Lib.hid (HLt.out.keep hbn))
              replace hx := below_callS hx hbn
              clear hbn
              go_wp2_with fail
              refine hK.out _ _ ⟨BM.out.keep hx, BD.out.keep hx⟩ (fun hHeld => ?_)
              clear hK K
              try simp only [pu]
              refine wpK_ready (rs := [14, 15]) (by kernel_rfl) (by simp) ?_
              refine AllReadyK.cons rfl (fun K hK => ?_) ?_
              · go_simp
                refine Calls.mono (spec_l01Own9 (OC.out.ints.keep hx) (by omega)) ?_
                rintro e wn ⟨a3, c3, rfl, hbn, ho⟩
                (try replace HLt := Lib.hid (HLt.out.keep hbn))
                have HT := Lib.hid (ho.le hx.size)
                replace hx := below_callS hx hbn
                clear hbn ho
                go_wp2_with fail
                refine hK.out _ _ ⟨BM.out.keep hx, BD.out.keep hx⟩ (fun hHeld => ?_)
                clear hK K
                try simp only [pu]
                refine wpK_ready (rs := [15]) (by kernel_rfl) (by simp) ?_
                refine AllReadyK.cons rfl (fun K hK => ?_) ?_
                · go_simp
                  refine hK.out _ _ ⟨BM.out.keep bel, BD.out.keep bel⟩ (fun hHeld => ?_)
                  have hz := hx.size
                  replace hx := (by first | exact al_of9 hHeld hx | exact al_ofd9 hHeld hx)
                  have HLt := Lib.hid (by first | exact (lit9_of (show Below _ _ (World.alloc _ (.cells #[.int .i64 0] 2)) from hx) (by unfold I64; omega)).le hz | exact (lit9_ofd (show Below _ _ (World.drew (World.alloc _ (.cells #[.int .i64 0] 2))) from hx) (by unfold I64; omega)).le hz)
                  (try replace HT := Lib.hid (HT.out.al9 (show Below _ _ (World.alloc _ _) from hx)))
                  clear hz
                  clear hK K
                  try simp only [pu]
                  exact ⟨_, _, _, rfl, rfl, hx, HT.out, HLt.out⟩
                exact AllReadyK.nil
              refine AllReadyK.cons rfl (fun K hK => ?_) ?_
              · go_simp
                refine hK.out _ _ ⟨BM.out.keep bel, BD.out.keep bel⟩ (fun hHeld => ?_)
                have hz := hx.size
                replace hx := (by first | exact al_of9 hHeld hx | exact al_ofd9 hHeld hx)
                have HLt := Lib.hid (by first | exact (lit9_of (show Below _ _ (World.alloc _ (.cells #[.int .i64 0] 2)) from hx) (by unfold I64; omega)).le hz | exact (lit9_ofd (show Below _ _ (World.drew (World.alloc _ (.cells #[.int .i64 0] 2))) from hx) (by unfold I64; omega)).le hz)
                (try replace HT := Lib.hid (HT.out.al9 (show Below _ _ (World.alloc _ _) from hx)))
                clear hz
                clear hK K
                try simp only [pu]
                refine wpK_ready (rs := [14]) (by kernel_rfl) (by simp) ?_
                refine AllReadyK.cons rfl (fun K hK => ?_) ?_
                · go_simp
                  refine Calls.mono (spec_l01Own9 (OC.out.ints.keep hx) (by omega)) ?_
                  rintro e wn ⟨a3, c3, rfl, hbn, ho⟩
                  (try replace HLt := Lib.hid (HLt.out.keep hbn))
                  have HT := Lib.hid (ho.le hx.size)
                  replace hx := below_callS hx hbn
                  clear hbn ho
                  go_wp2_with fail
                  refine hK.out _ _ ⟨BM.out.keep hx, BD.out.keep hx⟩ (fun hHeld => ?_)
                  clear hK K
                  try simp only [pu]
                  exact ⟨_, _, _, rfl, rfl, hx, HT.out, HLt.out⟩
                exact AllReadyK.nil
              exact AllReadyK.nil
            refine AllReadyK.cons rfl (fun K hK => ?_) ?_
            · go_simp
              refine hK.out _ _ ⟨BM.out.keep bel, BD.out.keep bel⟩ (fun hHeld => ?_)
              have hz := hx.size
              replace hx := (by first | exact al_of9 hHeld hx | exact al_ofd9 hHeld hx)
              have HLt := Lib.hid (by first | exact (lit9_of (show Below _ _ (World.alloc _ (.cells #[.int .i64 0] 2)) from hx) (by unfold I64; omega)).le hz | exact (lit9_ofd (show Below _ _ (World.drew (World.alloc _ (.cells #[.int .i64 0] 2))) from hx) (by unfold I64; omega)).le hz)
              (try replace HT := Lib.hid (HT.out.al9 (show Below _ _ (World.alloc _ _) from hx)))
              clear hz
              clear hK K
              try simp only [pu]
              refine wpK_ready (rs := [12]) (by kernel_rfl) (by simp) ?_
              refine AllReadyK.cons rfl (fun K hK => ?_) ?_
              · go_simp
                refine Calls.mono (KR0.out _ (below_callS HBc.out hx)) ?_
                rintro e wn ⟨rfl, hbn⟩
                (try replace HLt := Lib.hid (HLt.out.keep hbn))
                replace hx := below_callS hx hbn
                clear hbn
                go_wp2_with fail
                refine hK.out _ _ ⟨BM.out.keep hx, BD.out.keep hx⟩ (fun hHeld => ?_)
                clear hK K
                try simp only [pu]
                refine wpK_ready (rs := [14]) (by kernel_rfl) (by simp) ?_
                refine AllReadyK.cons rfl (fun K hK => ?_) ?_
                · go_simp
                  refine Calls.mono (spec_l01Own9 (OC.out.ints.keep hx) (by omega)) ?_
                  rintro e wn ⟨a3, c3, rfl, hbn, ho⟩
                  (try replace HLt := Lib.hid (HLt.out.keep hbn))
                  have HT := Lib.hid (ho.le hx.size)
                  replace hx := below_callS hx hbn
                  clear hbn ho
                  go_wp2_with fail
                  refine hK.out _ _ ⟨BM.out.keep hx, BD.out.keep hx⟩ (fun hHeld => ?_)
                  clear hK K
                  try simp only [pu]
                  exact ⟨_, _, _, rfl, rfl, hx, HT.out, HLt.out⟩
                exact AllReadyK.nil
              exact AllReadyK.nil
            exact AllReadyK.nil
          clear hx hHeld
          intro a3 c3 gx wn hHeld hF
          obtain ⟨hx, hT, hLt⟩ := hF
          have HT := Lib.hid hT
          have HLt := Lib.hid hLt
          clear hT hLt
          try simp only [pu]
          refine wpAnyH_ready (rs := [16]) (by kernel_rfl) (by simp) ?_
          refine AllReadyH.cons rfl (fun K hK => ?_) AllReadyH.nil
          refine wp_appendL_F (k := 1) (enc := enc1) (ok := I64) _ _ 22 2 rfl Tryz.underlying22 Tryz.infoi64 rfl (by decide) (by decide) enc1_one9 wb.heap.size _ _ _ _ HT.out.f1 rfl _ _ _ [(0 : Int)] rfl HLt.out.f1.flats (by omega) (by omega) hx.size ?_
          intro aT cT wn2 ho hbB hgB
          replace hx := hx.trans hbB
          have HT2 := Lib.hid ho.i1
          clear ho hbB hgB HT HLt hHeld
          refine hK.out _ _ ⟨BM.out.keep hx, BD.out.keep hx⟩ (fun hHeld => ?_)
          clear hK K
          try simp only [pu]
          refine wpAnyH_ready (rs := [18]) (by kernel_rfl) (by simp) ?_
          refine AllReadyH.cons rfl (fun K hK => ?_) AllReadyH.nil
          go_simp
          refine Calls.mono (IH0.out _ (below_callS HBc.out hx) (GG.out.keep hx) _ _ (HT2.out.le HBc.out.size)) ?_
          rintro e wz ⟨rfl, hG2, hst, hbz⟩
          obtain ⟨ax, mx, cx, lx, hBx, _, _⟩ := (GG.out.keep hx).o
          replace BM := Lib.hid ((BM.out.keep hx).keepS hst hneM (by decide))
          replace BD := Lib.hid ((BD.out.keep hx).keepS hst hneD (by decide))
          replace OC := Lib.hid ((OC.out.keep hx).keepS hBx (by decide) hst)
          replace GG := Lib.hid hG2
          replace HBc := Lib.hid hbz
          replace STc := Lib.hid ((STc.out.trans (StepW.below hx)).trans hst)
          clear hG2 hst hbz hBx hx HT2 hHeld
          have hx := Below.refl wz.heap.size wz
          go_wp2_with fail
          refine hK.out _ _ ⟨BM.out, BD.out⟩ (fun hHeld => ?_)
          clear hK K
          try simp only [pu]
          refine tkH0 19 (v := ?_) ?_ ?_
          rotate_left
          · (intro wv hSw; clear hSw; go_simp; try with_reducible rfl)
          try simp only [pu]
          refine tkH0 20 (v := ?_) ?_ ?_
          rotate_left
          · (intro wv hSw; clear hSw; go_simp; try with_reducible rfl)
          try simp only [pu]
          refine tkN 21 ?_
          try simp only [pu]
          refine tkN 22 ?_
          try simp only [pu]
          refine tkN 23 ?_
          try simp only [pu]
          refine tkN 24 ?_
          try simp only [pu]
          refine tkN 25 ?_
          try simp only [pu]
          refine tkN 26 ?_
          try simp only [pu]
          refine tkN 27 ?_
          try simp only [pu]
          refine tkN 28 ?_
          try simp only [pu]
          refine tkN 29 ?_
          try simp only [pu]
          refine tkN 30 ?_
          try simp only [pu]
          refine tkN 31 ?_
          try simp only [pu]
          refine tkN 32 ?_
          try simp only [pu]
          refine tkN 33 ?_
          try simp only [pu]
          refine tkN 34 ?_
          try simp only [pu]
          refine tkN 35 ?_
          try simp only [pu]
          refine tkN 36 ?_
          try simp only [pu]
          refine tkN 37 ?_
          try simp only [pu]
          refine tkN 38 ?_
          try simp only [pu]
          refine tkN 39 ?_
          try simp only [pu]
          refine tkN 40 ?_
          try simp only [pu]
          refine tkN 41 ?_
          try simp only [pu]
          refine tkH0 42 (v := ?_) ?_ ?_
          rotate_left
          · (intro wv hSw; clear hSw; go_simp; try with_reducible rfl)
          try simp only [pu]
          refine tkH0 43 (v := ?_) ?_ ?_
          rotate_left
          · (intro wv hSw; clear hSw; go_simp; try with_reducible rfl)
          try simp only [pu]
          refine wpAnyH_done (by kernel_rfl) ?_ _
          refine NoPanic.normal ?_
          clear hHeld
          go_wp2
          go_ret
          exact ⟨by rw [HL.out]; rfl, by rw [HL.out]; exact GG.out.keep hx, STc.out.trans (StepW.below hx), below_callS HBc.out hx⟩
        · rw [hA] at IHX
          have IH0 := Lib.hid IHX
          cases hb1 : begB sz N (c ++ [1])
          · rw [hb1] at KX1
            have KB1 := Lib.hid KX1
            have HL := Lib.hid (HF3 hA hb1)
            clear IHX IHY HF2 HF3 HF4 hA KX1 hb0 hb1
            go_enter Tryz.func105, Tryz.ntmps105
            go_wp2_with fail
            obtain ⟨wr, hwr⟩ : ∃ wr, wr = ((w.alloc (.cells #[.slice sa sz.length sc, .slice ta tn tc, .slice ra rn rc] 36)).alloc (.cells #[.int .i64 (N : Int), .slice da L.length dc, .int .i64 root] 40)) := ⟨_, rfl⟩
            rw [← hwr] at BM BD GG OC HBc STc ⊢
            clear hwr d0 dl
            refine wp_region_noPanic ?_
            refine wp_region_held_drew (S := fun wx => Blk wx w.heap.size #[.slice sa sz.length sc, .slice ta tn tc, .slice ra rn rc] 36 ∧ Blk wx (w.heap.size + 1) #[.int .i64 (N : Int), .slice da L.length dc, .int .i64 root] 40) (by kernel_rfl) ?_ (fun hHeld => ?_)
            · exact ⟨BM.out.keep (Below.refl _ _).drew, BD.out.keep (Below.refl _ _).drew⟩
            have hx : Below wr.heap.size wr wr.drew := (Below.refl _ _).drew
            refine tkH0 0 (v := ?_) ?_ ?_
            rotate_left
            · (intro wv hSw; obtain ⟨hq1, hq2⟩ := hSw; have p0 := hq1.cell 0; have p1 := hq1.cell 1; have p2 := hq1.cell 2; have pl := hq1.lt; have q0 := hq2.cell 0; have q1 := hq2.cell 1; have q2 := hq2.cell 2; have ql := hq2.lt; simp only [List.getElem?_toArray, List.getElem?_cons_zero, List.getElem?_cons_succ] at p0 p1 p2 q0 q1 q2; clear hq1 hq2; go_simp; try with_reducible rfl)
            try simp only [pu]
            refine tkH0 1 (v := ?_) ?_ ?_
            rotate_left
            · (intro wv hSw; clear hSw; go_simp; try with_reducible rfl)
            try simp only [pu]
            refine wpAnyH_two (i := 2) (j := 3) (n := m) (di := some 44) (dj := some 45) (F := fun a3 c3 gx wn => Below wr.heap.size wr wn ∧ OwnI 2 wn wr.heap.size a3 m c3 c ∧ OwnI 2 wn wr.heap.size (some ⟨gx, 0, none⟩) 1 1 [(0 : Int)]) (by assumption) ?_ ?_
            · refine wpK_ready (rs := [2, 3]) (by kernel_rfl) (by simp) ?_
              refine AllReadyK.cons rfl (fun K hK => ?_) ?_
              · go_simp
                refine Calls.mono (spec_l01Own9 (OC.out.ints.keep hx) (by omega)) ?_
                rintro e wn ⟨a3, c3, rfl, hbn, ho⟩
                (try replace HLt := Lib.hid (HLt.out.keep hbn))
                have HT := Lib.hid (ho.le hx.size)
                replace hx := below_callS hx hbn
                clear hbn ho
                go_wp2_with fail
                refine hK.out _ _ ⟨BM.out.keep hx, BD.out.keep hx⟩ (fun hHeld => ?_)
                clear hK K
                try simp only [pu]
                refine wpK_ready (rs := [3]) (by kernel_rfl) (by simp) ?_
                refine AllReadyK.cons rfl (fun K hK => ?_) ?_
                · go_simp
                  refine hK.out _ _ ⟨BM.out.keep bel, BD.out.keep bel⟩ (fun hHeld => ?_)
                  have hz := hx.size
                  replace hx := (by first | exact al_of9 hHeld hx | exact al_ofd9 hHeld hx)
                  have HLt := Lib.hid (by first | exact (lit9_of (show Below _ _ (World.alloc _ (.cells #[.int .i64 0] 2)) from hx) (by unfold I64; omega)).le hz | exact (lit9_ofd (show Below _ _ (World.drew (World.alloc _ (.cells #[.int .i64 0] 2))) from hx) (by unfold I64; omega)).le hz)
                  (try replace HT := Lib.hid (HT.out.al9 (show Below _ _ (World.alloc _ _) from hx)))
                  clear hz
                  clear hK K
                  try simp only [pu]
                  exact ⟨_, _, _, rfl, rfl, hx, HT.out, HLt.out⟩
                exact AllReadyK.nil
              refine AllReadyK.cons rfl (fun K hK => ?_) ?_
              · go_simp
                refine hK.out _ _ ⟨BM.out.keep bel, BD.out.keep bel⟩ (fun hHeld => ?_)
                have hz := hx.size
                replace hx := (by first | exact al_of9 hHeld hx | exact al_ofd9 hHeld hx)
                have HLt := Lib.hid (by first | exact (lit9_of (show Below _ _ (World.alloc _ (.cells #[.int .i64 0] 2)) from hx) (by unfold I64; omega)).le hz | exact (lit9_ofd (show Below _ _ (World.drew (World.alloc _ (.cells #[.int .i64 0] 2))) from hx) (by unfold I64; omega)).le hz)
                (try replace HT := Lib.hid (HT.out.al9 (show Below _ _ (World.alloc _ _) from hx)))
                clear hz
                clear hK K
                try simp only [pu]
                refine wpK_ready (rs := [2]) (by kernel_rfl) (by simp) ?_
                refine AllReadyK.cons rfl (fun K hK => ?_) ?_
                · go_simp
                  refine Calls.mono (spec_l01Own9 (OC.out.ints.keep hx) (by omega)) ?_
                  rintro e wn ⟨a3, c3, rfl, hbn, ho⟩
                  (try replace HLt := Lib.hid (HLt.out.keep hbn))
                  have HT := Lib.hid (ho.le hx.size)
                  replace hx := below_callS hx hbn
                  clear hbn ho
                  go_wp2_with fail
                  refine hK.out _ _ ⟨BM.out.keep hx, BD.out.keep hx⟩ (fun hHeld => ?_)
                  clear hK K
                  try simp only [pu]
                  exact ⟨_, _, _, rfl, rfl, hx, HT.out, HLt.out⟩
                exact AllReadyK.nil
              exact AllReadyK.nil
            clear hx hHeld
            intro a3 c3 gx wn hHeld hF
            obtain ⟨hx, hT, hLt⟩ := hF
            have HT := Lib.hid hT
            have HLt := Lib.hid hLt
            clear hT hLt
            try simp only [pu]
            refine wpAnyH_ready (rs := [4]) (by kernel_rfl) (by simp) ?_
            refine AllReadyH.cons rfl (fun K hK => ?_) AllReadyH.nil
            refine wp_appendL_F (k := 1) (enc := enc1) (ok := I64) _ _ 22 2 rfl Tryz.underlying22 Tryz.infoi64 rfl (by decide) (by decide) enc1_one9 wr.heap.size _ _ _ _ HT.out.f1 rfl _ _ _ [(0 : Int)] rfl HLt.out.f1.flats (by omega) (by omega) hx.size ?_
            intro aT cT wn2 ho hbB hgB
            replace hx := hx.trans hbB
            have HT2 := Lib.hid ho.i1
            clear ho hbB hgB HT HLt hHeld
            refine hK.out _ _ ⟨BM.out.keep hx, BD.out.keep hx⟩ (fun hHeld => ?_)
            clear hK K
            try simp only [pu]
            refine wpAnyH_ready (rs := [5]) (by kernel_rfl) (by simp) ?_
            refine AllReadyH.cons rfl (fun K hK => ?_) AllReadyH.nil
            go_simp
            refine Calls.mono (KB0.out _ (below_callS HBc.out hx) _ _ HT2.out.ints) ?_
            rintro e wb ⟨rfl, hbb⟩
            replace hx := below_callS hx hbb
            clear hbb HT2 hHeld
            go_wp2_with fail
            refine hK.out _ _ ⟨BM.out.keep hx, BD.out.keep hx⟩ (fun hHeld => ?_)
            clear hK K
            try simp only [pu]
            replace BM := Lib.hid (BM.out.keep hx)
            replace BD := Lib.hid (BD.out.keep hx)
            replace GG := Lib.hid (GG.out.keep hx)
            replace OC := Lib.hid (OC.out.keep hx)
            replace HBc := Lib.hid (below_callS HBc.out hx)
            replace STc := Lib.hid (STc.out.trans (StepW.below hx))
            clear hx
            have hx := Below.refl wb.heap.size wb
            refine tkH0 6 (v := ?_) ?_ ?_
            rotate_left
            · (intro wv hSw; clear hSw; go_simp; try with_reducible rfl)
            try simp only [pu]
            refine tkH0 7 (v := ?_) ?_ ?_
            rotate_left
            · (intro wv hSw; obtain ⟨hq1, hq2⟩ := hSw; have p0 := hq1.cell 0; have p1 := hq1.cell 1; have p2 := hq1.cell 2; have pl := hq1.lt; have q0 := hq2.cell 0; have q1 := hq2.cell 1; have q2 := hq2.cell 2; have ql := hq2.lt; simp only [List.getElem?_toArray, List.getElem?_cons_zero, List.getElem?_cons_succ] at p0 p1 p2 q0 q1 q2; clear hq1 hq2; go_simp; try with_reducible rfl)
            try simp only [pu]
            refine tkH0 8 (v := ?_) ?_ ?_
            rotate_left
            · (intro wv hSw; obtain ⟨hq1, hq2⟩ := hSw; have p0 := hq1.cell 0; have p1 := hq1.cell 1; have p2 := hq1.cell 2; have pl := hq1.lt; have q0 := hq2.cell 0; have q1 := hq2.cell 1; have q2 := hq2.cell 2; have ql := hq2.lt; simp only [List.getElem?_toArray, List.getElem?_cons_zero, List.getElem?_cons_succ] at p0 p1 p2 q0 q1 q2; clear hq1 hq2; go_simp; try with_reducible rfl)
            try simp only [pu]
            refine tkH0 9 (v := ?_) ?_ ?_
            rotate_left
            · (intro wv hSw; obtain ⟨hq1, hq2⟩ := hSw; have p0 := hq1.cell 0; have p1 := hq1.cell 1; have p2 := hq1.cell 2; have pl := hq1.lt; have q0 := hq2.cell 0; have q1 := hq2.cell 1; have q2 := hq2.cell 2; have ql := hq2.lt; simp only [List.getElem?_toArray, List.getElem?_cons_zero, List.getElem?_cons_succ] at p0 p1 p2 q0 q1 q2; clear hq1 hq2; go_simp; try with_reducible rfl)
            try simp only [pu]
            refine tkH0 10 (v := ?_) ?_ ?_
            rotate_left
            · (intro wv hSw; clear hSw; go_simp; try with_reducible rfl)
            try simp only [pu]
            refine tkH0 11 (v := ?_) ?_ ?_
            rotate_left
            · (intro wv hSw; clear hSw; go_simp; try with_reducible rfl)
            try simp only [pu]
            refine tkH0 13 (v := ?_) ?_ ?_
            rotate_left
            · (intro wv hSw; clear hSw; go_simp; try with_reducible rfl)
            try simp only [pu]
            refine tkH0 17 (v := ?_) ?_ ?_
            rotate_left
            · (intro wv hSw; clear hSw; go_simp; try with_reducible rfl)
            try simp only [pu]
            refine wpAnyH_three (i0 := 12) (d0 := some 54) (v := .int .i64 (chN (N : Int) L r (m : Int)).1) (i := 14) (j := 15) (n := m) (di := some 56) (dj := some 57) (F := fun a3 c3 gx wn => Below wb.heap.size wb wn ∧ OwnI 2 wn wb.heap.size a3 m c3 c ∧ OwnI 2 wn wb.heap.size (some ⟨gx, 0, none⟩) 1 1 [(0 : Int)]) (by assumption) ?_ ?_
            · refine wpK_ready (rs := [12, 15]) (by kernel_rfl) (by simp) ?_
              refine AllReadyK.cons rfl (fun K hK => ?_) ?_
              · go_simp
                refine Calls.mono (KR0.out _ (below_callS HBc.out hx)) ?_
                rintro e wn ⟨rfl, hbn⟩
                (try replace HLt := Lib.hid (HLt.out.keep hbn))
                replace hx := below_callS hx hbn
                clear hbn
                go_wp2_with fail
                refine hK.out _ _ ⟨BM.out.keep hx, BD.out.keep hx⟩ (fun hHeld => ?_)
                clear hK K
                try simp only [pu]
                refine wpK_ready (rs := [14, 15]) (by kernel_rfl) (by simp) ?_
                refine AllReadyK.cons rfl (fun K hK => ?_) ?_
                · go_simp
                  refine Calls.mono (spec_l01Own9 (OC.out.ints.keep hx) (by omega)) ?_
                  rintro e wn ⟨a3, c3, rfl, hbn, ho⟩
                  (try replace HLt := Lib.hid (HLt.out.keep hbn))
                  have HT := Lib.hid (ho.le hx.size)
                  replace hx := below_callS hx hbn
                  clear hbn ho
                  go_wp2_with fail
                  refine hK.out _ _ ⟨BM.out.keep hx, BD.out.keep hx⟩ (fun hHeld => ?_)
                  clear hK K
                  try simp only [pu]
                  refine wpK_ready (rs := [15]) (by kernel_rfl) (by simp) ?_
                  refine AllReadyK.cons rfl (fun K hK => ?_) ?_
                  · go_simp
                    refine hK.out _ _ ⟨BM.out.keep bel, BD.out.keep bel⟩ (fun hHeld => ?_)
                    have hz := hx.size
                    replace hx := (by first | exact al_of9 hHeld hx | exact al_ofd9 hHeld hx)
                    have HLt := Lib.hid (by first | exact (lit9_of (show Below _ _ (World.alloc _ (.cells #[.int .i64 0] 2)) from hx) (by unfold I64; omega)).le hz | exact (lit9_ofd (show Below _ _ (World.drew (World.alloc _ (.cells #[.int .i64 0] 2))) from hx) (by unfold I64; omega)).le hz)
                    (try replace HT := Lib.hid (HT.out.al9 (show Below _ _ (World.alloc _ _) from hx)))
                    clear hz
                    clear hK K
                    try simp only [pu]
                    exact ⟨_, _, _, rfl, rfl, hx, HT.out, HLt.out⟩
                  exact AllReadyK.nil
                refine AllReadyK.cons rfl (fun K hK => ?_) ?_
                · go_simp
                  refine hK.out _ _ ⟨BM.out.keep bel, BD.out.keep bel⟩ (fun hHeld => ?_)
                  have hz := hx.size
                  replace hx := (by first | exact al_of9 hHeld hx | exact al_ofd9 hHeld hx)
                  have HLt := Lib.hid (by first | exact (lit9_of (show Below _ _ (World.alloc _ (.cells #[.int .i64 0] 2)) from hx) (by unfold I64; omega)).le hz | exact (lit9_ofd (show Below _ _ (World.drew (World.alloc _ (.cells #[.int .i64 0] 2))) from hx) (by unfold I64; omega)).le hz)
                  (try replace HT := Lib.hid (HT.out.al9 (show Below _ _ (World.alloc _ _) from hx)))
                  clear hz
                  clear hK K
                  try simp only [pu]
                  refine wpK_ready (rs := [14]) (by kernel_rfl) (by simp) ?_
                  refine AllReadyK.cons rfl (fun K hK => ?_) ?_
                  · go_simp
                    refine Calls.mono (spec_l01Own9 (OC.out.ints.keep hx) (by omega)) ?_
                    rintro e wn ⟨a3, c3, rfl, hbn, ho⟩
                    (try replace HLt := Lib.hid (HLt.out.keep hbn))
                    have HT := Lib.hid (ho.le hx.size)
                    replace hx := below_callS hx hbn
                    clear hbn ho
                    go_wp2_with fail
                    refine hK.out _ _ ⟨BM.out.keep hx, BD.out.keep hx⟩ (fun hHeld => ?_)
                    clear hK K
                    try simp only [pu]
                    exact ⟨_, _, _, rfl, rfl, hx, HT.out, HLt.out⟩
                  exact AllReadyK.nil
                exact AllReadyK.nil
              refine AllReadyK.cons rfl (fun K hK => ?_) ?_
              · go_simp
                refine hK.out _ _ ⟨BM.out.keep bel, BD.out.keep bel⟩ (fun hHeld => ?_)
                have hz := hx.size
                replace hx := (by first | exact al_of9 hHeld hx | exact al_ofd9 hHeld hx)
                have HLt := Lib.hid (by first | exact (lit9_of (show Below _ _ (World.alloc _ (.cells #[.int .i64 0] 2)) from hx) (by unfold I64; omega)).le hz | exact (lit9_ofd (show Below _ _ (World.drew (World.alloc _ (.cells #[.int .i64 0] 2))) from hx) (by unfold I64; omega)).le hz)
                (try replace HT := Lib.hid (HT.out.al9 (show Below _ _ (World.alloc _ _) from hx)))
                clear hz
                clear hK K
                try simp only [pu]
                refine wpK_ready (rs := [12]) (by kernel_rfl) (by simp) ?_
                refine AllReadyK.cons rfl (fun K hK => ?_) ?_
                · go_simp
                  refine Calls.mono (KR0.out _ (below_callS HBc.out hx)) ?_
                  rintro e wn ⟨rfl, hbn⟩
                  (try replace HLt := Lib.hid (HLt.out.keep hbn))
                  replace hx := below_callS hx hbn
                  clear hbn
                  go_wp2_with fail
                  refine hK.out _ _ ⟨BM.out.keep hx, BD.out.keep hx⟩ (fun hHeld => ?_)
                  clear hK K
                  try simp only [pu]
                  refine wpK_ready (rs := [14]) (by kernel_rfl) (by simp) ?_
                  refine AllReadyK.cons rfl (fun K hK => ?_) ?_
                  · go_simp
                    refine Calls.mono (spec_l01Own9 (OC.out.ints.keep hx) (by omega)) ?_
                    rintro e wn ⟨a3, c3, rfl, hbn, ho⟩
                    (try replace HLt := Lib.hid (HLt.out.keep hbn))
                    have HT := Lib.hid (ho.le hx.size)
                    replace hx := below_callS hx hbn
                    clear hbn ho
                    go_wp2_with fail
                    refine hK.out _ _ ⟨BM.out.keep hx, BD.out.keep hx⟩ (fun hHeld => ?_)
                    clear hK K
                    try simp only [pu]
                    exact ⟨_, _, _, rfl, rfl, hx, HT.out, HLt.out⟩
                  exact AllReadyK.nil
                exact AllReadyK.nil
              exact AllReadyK.nil
            clear hx hHeld
            intro a3 c3 gx wn hHeld hF
            obtain ⟨hx, hT, hLt⟩ := hF
            have HT := Lib.hid hT
            have HLt := Lib.hid hLt
            clear hT hLt
            try simp only [pu]
            refine wpAnyH_ready (rs := [16]) (by kernel_rfl) (by simp) ?_
            refine AllReadyH.cons rfl (fun K hK => ?_) AllReadyH.nil
            refine wp_appendL_F (k := 1) (enc := enc1) (ok := I64) _ _ 22 2 rfl Tryz.underlying22 Tryz.infoi64 rfl (by decide) (by decide) enc1_one9 wb.heap.size _ _ _ _ HT.out.f1 rfl _ _ _ [(0 : Int)] rfl HLt.out.f1.flats (by omega) (by omega) hx.size ?_
            intro aT cT wn2 ho hbB hgB
            replace hx := hx.trans hbB
            have HT2 := Lib.hid ho.i1
            clear ho hbB hgB HT HLt hHeld
            refine hK.out _ _ ⟨BM.out.keep hx, BD.out.keep hx⟩ (fun hHeld => ?_)
            clear hK K
            try simp only [pu]
            refine wpAnyH_ready (rs := [18]) (by kernel_rfl) (by simp) ?_
            refine AllReadyH.cons rfl (fun K hK => ?_) AllReadyH.nil
            go_simp
            refine Calls.mono (IH0.out _ (below_callS HBc.out hx) (GG.out.keep hx) _ _ (HT2.out.le HBc.out.size)) ?_
            rintro e wz ⟨rfl, hG2, hst, hbz⟩
            obtain ⟨ax, mx, cx, lx, hBx, _, _⟩ := (GG.out.keep hx).o
            replace BM := Lib.hid ((BM.out.keep hx).keepS hst hneM (by decide))
            replace BD := Lib.hid ((BD.out.keep hx).keepS hst hneD (by decide))
            replace OC := Lib.hid ((OC.out.keep hx).keepS hBx (by decide) hst)
            replace GG := Lib.hid hG2
            replace HBc := Lib.hid hbz
            replace STc := Lib.hid ((STc.out.trans (StepW.below hx)).trans hst)
            clear hG2 hst hbz hBx hx HT2 hHeld
            have hx := Below.refl wz.heap.size wz
            go_wp2_with fail
            refine hK.out _ _ ⟨BM.out, BD.out⟩ (fun hHeld => ?_)
            clear hK K
            try simp only [pu]
            refine tkH0 19 (v := ?_) ?_ ?_
            rotate_left
            · (intro wv hSw; clear hSw; go_simp; try with_reducible rfl)
            try simp only [pu]
            refine tkH0 20 (v := ?_) ?_ ?_
            rotate_left
            · (intro wv hSw; clear hSw; go_simp; try with_reducible rfl)
            try simp only [pu]
            refine tkH0 21 (v := ?_) ?_ ?_
            rotate_left
            · (intro wv hSw; obtain ⟨hq1, hq2⟩ := hSw; have p0 := hq1.cell 0; have p1 := hq1.cell 1; have p2 := hq1.cell 2; have pl := hq1.lt; have q0 := hq2.cell 0; have q1 := hq2.cell 1; have q2 := hq2.cell 2; have ql := hq2.lt; simp only [List.getElem?_toArray, List.getElem?_cons_zero, List.getElem?_cons_succ] at p0 p1 p2 q0 q1 q2; clear hq1 hq2; go_simp; try with_reducible rfl)
            try simp only [pu]
            refine tkH0 22 (v := ?_) ?_ ?_
            rotate_left
            · (intro wv hSw; clear hSw; go_simp; try with_reducible rfl)
            try simp only [pu]
            refine wpAnyH_two (i := 23) (j := 24) (n := m) (di := some 65) (dj := some 66) (F := fun a3 c3 gx wn => Below wz.heap.size wz wn ∧ OwnI 2 wn wz.heap.size a3 m c3 c ∧ OwnI 2 wn wz.heap.size (some ⟨gx, 0, none⟩) 1 1 [(1 : Int)]) (by assumption) ?_ ?_
            · refine wpK_ready (rs := [23, 24]) (by kernel_rfl) (by simp) ?_
              refine AllReadyK.cons rfl (fun K hK => ?_) ?_
              · go_simp
                refine Calls.mono (spec_l01Own9 (OC.out.ints.keep hx) (by omega)) ?_
                rintro e wn ⟨a3, c3, rfl, hbn, ho⟩
                (try replace HLt := Lib.hid (HLt.out.keep hbn))
                have HT := Lib.hid (ho.le hx.size)
                replace hx := below_callS hx hbn
                clear hbn ho
                go_wp2_with fail
                refine hK.out _ _ ⟨BM.out.keep hx, BD.out.keep hx⟩ (fun hHeld => ?_)
                clear hK K
                try simp only [pu]
                refine wpK_ready (rs := [24]) (by kernel_rfl) (by simp) ?_
                refine AllReadyK.cons rfl (fun K hK => ?_) ?_
                · go_simp
                  refine hK.out _ _ ⟨BM.out.keep bel, BD.out.keep bel⟩ (fun hHeld => ?_)
                  have hz := hx.size
                  replace hx := (by first | exact al_of9 hHeld hx | exact al_ofd9 hHeld hx)
                  have HLt := Lib.hid (by first | exact (lit9_of (show Below _ _ (World.alloc _ (.cells #[.int .i64 1] 2)) from hx) (by unfold I64; omega)).le hz | exact (lit9_ofd (show Below _ _ (World.drew (World.alloc _ (.cells #[.int .i64 1] 2))) from hx) (by unfold I64; omega)).le hz)
                  (try replace HT := Lib.hid (HT.out.al9 (show Below _ _ (World.alloc _ _) from hx)))
                  clear hz
                  clear hK K
                  try simp only [pu]
                  exact ⟨_, _, _, rfl, rfl, hx, HT.out, HLt.out⟩
                exact AllReadyK.nil
              refine AllReadyK.cons rfl (fun K hK => ?_) ?_
              · go_simp
                refine hK.out _ _ ⟨BM.out.keep bel, BD.out.keep bel⟩ (fun hHeld => ?_)
                have hz := hx.size
                replace hx := (by first | exact al_of9 hHeld hx | exact al_ofd9 hHeld hx)
                have HLt := Lib.hid (by first | exact (lit9_of (show Below _ _ (World.alloc _ (.cells #[.int .i64 1] 2)) from hx) (by unfold I64; omega)).le hz | exact (lit9_ofd (show Below _ _ (World.drew (World.alloc _ (.cells #[.int .i64 1] 2))) from hx) (by unfold I64; omega)).le hz)
                (try replace HT := Lib.hid (HT.out.al9 (show Below _ _ (World.alloc _ _) from hx)))
                clear hz
                clear hK K
                try simp only [pu]
                refine wpK_ready (rs := [23]) (by kernel_rfl) (by simp) ?_
                refine AllReadyK.cons rfl (fun K hK => ?_) ?_
                · go_simp
                  refine Calls.mono (spec_l01Own9 (OC.out.ints.keep hx) (by omega)) ?_
                  rintro e wn ⟨a3, c3, rfl, hbn, ho⟩
                  (try replace HLt := Lib.hid (HLt.out.keep hbn))
                  have HT := Lib.hid (ho.le hx.size)
                  replace hx := below_callS hx hbn
                  clear hbn ho
                  go_wp2_with fail
                  refine hK.out _ _ ⟨BM.out.keep hx, BD.out.keep hx⟩ (fun hHeld => ?_)
                  clear hK K
                  try simp only [pu]
                  exact ⟨_, _, _, rfl, rfl, hx, HT.out, HLt.out⟩
                exact AllReadyK.nil
              exact AllReadyK.nil
            clear hx hHeld
            intro a3 c3 gx wn hHeld hF
            obtain ⟨hx, hT, hLt⟩ := hF
            have HT := Lib.hid hT
            have HLt := Lib.hid hLt
            clear hT hLt
            try simp only [pu]
            refine wpAnyH_ready (rs := [25]) (by kernel_rfl) (by simp) ?_
            refine AllReadyH.cons rfl (fun K hK => ?_) AllReadyH.nil
            refine wp_appendL_F (k := 1) (enc := enc1) (ok := I64) _ _ 22 2 rfl Tryz.underlying22 Tryz.infoi64 rfl (by decide) (by decide) enc1_one9 wz.heap.size _ _ _ _ HT.out.f1 rfl _ _ _ [(1 : Int)] rfl HLt.out.f1.flats (by omega) (by omega) hx.size ?_
            intro aT cT wn2 ho hbB hgB
            replace hx := hx.trans hbB
            have HT2 := Lib.hid ho.i1
            clear ho hbB hgB HT HLt hHeld
            refine hK.out _ _ ⟨BM.out.keep hx, BD.out.keep hx⟩ (fun hHeld => ?_)
            clear hK K
            try simp only [pu]
            refine wpAnyH_ready (rs := [26]) (by kernel_rfl) (by simp) ?_
            refine AllReadyH.cons rfl (fun K hK => ?_) AllReadyH.nil
            go_simp
            refine Calls.mono (KB1.out _ (below_callS HBc.out hx) _ _ HT2.out.ints) ?_
            rintro e wd ⟨rfl, hbb⟩
            replace hx := below_callS hx hbb
            clear hbb HT2 hHeld
            go_wp2_with fail
            refine hK.out _ _ ⟨BM.out.keep hx, BD.out.keep hx⟩ (fun hHeld => ?_)
            clear hK K
            try simp only [pu]
            replace BM := Lib.hid (BM.out.keep hx)
            replace BD := Lib.hid (BD.out.keep hx)
            replace GG := Lib.hid (GG.out.keep hx)
            replace OC := Lib.hid (OC.out.keep hx)
            replace HBc := Lib.hid (below_callS HBc.out hx)
            replace STc := Lib.hid (STc.out.trans (StepW.below hx))
            clear hx
            have hx := Below.refl wd.heap.size wd
            refine tkH0 27 (v := ?_) ?_ ?_
            rotate_left
            · (intro wv hSw; clear hSw; go_simp; try with_reducible rfl)
            try simp only [pu]
            refine tkH0 28 (v := ?_) ?_ ?_
            rotate_left
            · (intro wv hSw; clear hSw; go_simp; try with_reducible rfl)
            try simp only [pu]
            refine tkN 29 ?_
            try simp only [pu]
            refine tkN 30 ?_
            try simp only [pu]
            refine tkN 31 ?_
            try simp only [pu]
            refine tkN 32 ?_
            try simp only [pu]
            refine tkN 33 ?_
            try simp only [pu]
            refine tkN 34 ?_
            try simp only [pu]
            refine tkN 35 ?_
            try simp only [pu]
            refine tkN 36 ?_
            try simp only [pu]
            refine tkN 37 ?_
            try simp only [pu]
            refine tkN 38 ?_
            try simp only [pu]
            refine tkN 39 ?_
            try simp only [pu]
            refine tkN 40 ?_
            try simp only [pu]
            refine tkH0 41 (v := ?_) ?_ ?_
            rotate_left
            · (intro wv hSw; clear hSw; go_simp; try with_reducible rfl)
            try simp only [pu]
            refine tkH0 42 (v := ?_) ?_ ?_
            rotate_left
            · (intro wv hSw; clear hSw; go_simp; try with_reducible rfl)
            try simp only [pu]
            refine tkH0 43 (v := ?_) ?_ ?_
            rotate_left
            · (intro wv hSw; clear hSw; go_simp; try with_reducible rfl)
            try simp only [pu]
            refine wpAnyH_done (by kernel_rfl) ?_ _
            refine NoPanic.normal ?_
            clear hHeld
            go_wp2
            go_ret
            exact ⟨by rw [HL.out]; rfl, by rw [HL.out]; exact GG.out.keep hx, STc.out.trans (StepW.below hx), below_callS HBc.out hx⟩
          · rw [hb1] at KX1
            have KB1 := Lib.hid KX1
            have IH1 := Lib.hid (fun wx hb hG va vc hO => IHY hA wx hb hG va vc hO hb1)
            have HL := Lib.hid (HF4 hA hb1)
            clear IHX IHY HF2 HF3 HF4 hA KX1 hb0 hb1
            obtain ⟨B, hB⟩ : ∃ B, B = onF sz (N : Int) L N k (chN (N : Int) L r (m : Int)).2 (c ++ [1]) A.1 := ⟨_, rfl⟩
            rw [← hB] at IH1 HL
            clear hB
            go_enter Tryz.func105, Tryz.ntmps105
            go_wp2_with fail
            obtain ⟨wr, hwr⟩ : ∃ wr, wr = ((w.alloc (.cells #[.slice sa sz.length sc, .slice ta tn tc, .slice ra rn rc] 36)).alloc (.cells #[.int .i64 (N : Int), .slice da L.length dc, .int .i64 root] 40)) := ⟨_, rfl⟩
            rw [← hwr] at BM BD GG OC HBc STc ⊢
            clear hwr d0 dl
            refine wp_region_noPanic ?_
            refine wp_region_held_drew (S := fun wx => Blk wx w.heap.size #[.slice sa sz.length sc, .slice ta tn tc, .slice ra rn rc] 36 ∧ Blk wx (w.heap.size + 1) #[.int .i64 (N : Int), .slice da L.length dc, .int .i64 root] 40) (by kernel_rfl) ?_ (fun hHeld => ?_)
            · exact ⟨BM.out.keep (Below.refl _ _).drew, BD.out.keep (Below.refl _ _).drew⟩
            have hx : Below wr.heap.size wr wr.drew := (Below.refl _ _).drew
            refine tkH0 0 (v := ?_) ?_ ?_
            rotate_left
            · (intro wv hSw; obtain ⟨hq1, hq2⟩ := hSw; have p0 := hq1.cell 0; have p1 := hq1.cell 1; have p2 := hq1.cell 2; have pl := hq1.lt; have q0 := hq2.cell 0; have q1 := hq2.cell 1; have q2 := hq2.cell 2; have ql := hq2.lt; simp only [List.getElem?_toArray, List.getElem?_cons_zero, List.getElem?_cons_succ] at p0 p1 p2 q0 q1 q2; clear hq1 hq2; go_simp; try with_reducible rfl)
            try simp only [pu]
            refine tkH0 1 (v := ?_) ?_ ?_
            rotate_left
            · (intro wv hSw; clear hSw; go_simp; try with_reducible rfl)
            try simp only [pu]
            refine wpAnyH_two (i := 2) (j := 3) (n := m) (di := some 44) (dj := some 45) (F := fun a3 c3 gx wn => Below wr.heap.size wr wn ∧ OwnI 2 wn wr.heap.size a3 m c3 c ∧ OwnI 2 wn wr.heap.size (some ⟨gx, 0, none⟩) 1 1 [(0 : Int)]) (by assumption) ?_ ?_
            · refine wpK_ready (rs := [2, 3]) (by kernel_rfl) (by simp) ?_
              refine AllReadyK.cons rfl (fun K hK => ?_) ?_
              · go_simp
                refine Calls.mono (spec_l01Own9 (OC.out.ints.keep hx) (by omega)) ?_
                rintro e wn ⟨a3, c3, rfl, hbn, ho⟩
                (try replace HLt := Lib.hid (HLt.out.keep hbn))
                have HT := Lib.hid (ho.le hx.size)
                replace hx := below_callS hx hbn
                clear hbn ho
                go_wp2_with fail
                refine hK.out _ _ ⟨BM.out.keep hx, BD.out.keep hx⟩ (fun hHeld => ?_)
                clear hK K
                try simp only [pu]
                refine wpK_ready (rs := [3]) (by kernel_rfl) (by simp) ?_
                refine AllReadyK.cons rfl (fun K hK => ?_) ?_
                · go_simp
                  refine hK.out _ _ ⟨BM.out.keep bel, BD.out.keep bel⟩ (fun hHeld => ?_)
                  have hz := hx.size
                  replace hx := (by first | exact al_of9 hHeld hx | exact al_ofd9 hHeld hx)
                  have HLt := Lib.hid (by first | exact (lit9_of (show Below _ _ (World.alloc _ (.cells #[.int .i64 0] 2)) from hx) (by unfold I64; omega)).le hz | exact (lit9_ofd (show Below _ _ (World.drew (World.alloc _ (.cells #[.int .i64 0] 2))) from hx) (by unfold I64; omega)).le hz)
                  (try replace HT := Lib.hid (HT.out.al9 (show Below _ _ (World.alloc _ _) from hx)))
                  clear hz
                  clear hK K
                  try simp only [pu]
                  exact ⟨_, _, _, rfl, rfl, hx, HT.out, HLt.out⟩
                exact AllReadyK.nil
              refine AllReadyK.cons rfl (fun K hK => ?_) ?_
              · go_simp
                refine hK.out _ _ ⟨BM.out.keep bel, BD.out.keep bel⟩ (fun hHeld => ?_)
                have hz := hx.size
                replace hx := (by first | exact al_of9 hHeld hx | exact al_ofd9 hHeld hx)
                have HLt := Lib.hid (by first | exact (lit9_of (show Below _ _ (World.alloc _ (.cells #[.int .i64 0] 2)) from hx) (by unfold I64; omega)).le hz | exact (lit9_ofd (show Below _ _ (World.drew (World.alloc _ (.cells #[.int .i64 0] 2))) from hx) (by unfold I64; omega)).le hz)
                (try replace HT := Lib.hid (HT.out.al9 (show Below _ _ (World.alloc _ _) from hx)))
                clear hz
                clear hK K
                try simp only [pu]
                refine wpK_ready (rs := [2]) (by kernel_rfl) (by simp) ?_
                refine AllReadyK.cons rfl (fun K hK => ?_) ?_
                · go_simp
                  refine Calls.mono (spec_l01Own9 (OC.out.ints.keep hx) (by omega)) ?_
                  rintro e wn ⟨a3, c3, rfl, hbn, ho⟩
                  (try replace HLt := Lib.hid (HLt.out.keep hbn))
                  have HT := Lib.hid (ho.le hx.size)
                  replace hx := below_callS hx hbn
                  clear hbn ho
                  go_wp2_with fail
                  refine hK.out _ _ ⟨BM.out.keep hx, BD.out.keep hx⟩ (fun hHeld => ?_)
                  clear hK K
                  try simp only [pu]
                  exact ⟨_, _, _, rfl, rfl, hx, HT.out, HLt.out⟩
                exact AllReadyK.nil
              exact AllReadyK.nil
            clear hx hHeld
            intro a3 c3 gx wn hHeld hF
            obtain ⟨hx, hT, hLt⟩ := hF
            have HT := Lib.hid hT
            have HLt := Lib.hid hLt
            clear hT hLt
            try simp only [pu]
            refine wpAnyH_ready (rs := [4]) (by kernel_rfl) (by simp) ?_
            refine AllReadyH.cons rfl (fun K hK => ?_) AllReadyH.nil
            refine wp_appendL_F (k := 1) (enc := enc1) (ok := I64) _ _ 22 2 rfl Tryz.underlying22 Tryz.infoi64 rfl (by decide) (by decide) enc1_one9 wr.heap.size _ _ _ _ HT.out.f1 rfl _ _ _ [(0 : Int)] rfl HLt.out.f1.flats (by omega) (by omega) hx.size ?_
            intro aT cT wn2 ho hbB hgB
            replace hx := hx.trans hbB
            have HT2 := Lib.hid ho.i1
            clear ho hbB hgB HT HLt hHeld
            refine hK.out _ _ ⟨BM.out.keep hx, BD.out.keep hx⟩ (fun hHeld => ?_)
            clear hK K
            try simp only [pu]
            refine wpAnyH_ready (rs := [5]) (by kernel_rfl) (by simp) ?_
            refine AllReadyH.cons rfl (fun K hK => ?_) AllReadyH.nil
            go_simp
            refine Calls.mono (KB0.out _ (below_callS HBc.out hx) _ _ HT2.out.ints) ?_
            rintro e wb ⟨rfl, hbb⟩
            replace hx := below_callS hx hbb
            clear hbb HT2 hHeld
            go_wp2_with fail
            refine hK.out _ _ ⟨BM.out.keep hx, BD.out.keep hx⟩ (fun hHeld => ?_)
            clear hK K
            try simp only [pu]
            replace BM := Lib.hid (BM.out.keep hx)
            replace BD := Lib.hid (BD.out.keep hx)
            replace GG := Lib.hid (GG.out.keep hx)
            replace OC := Lib.hid (OC.out.keep hx)
            replace HBc := Lib.hid (below_callS HBc.out hx)
            replace STc := Lib.hid (STc.out.trans (StepW.below hx))
            clear hx
            have hx := Below.refl wb.heap.size wb
            refine tkH0 6 (v := ?_) ?_ ?_
            rotate_left
            · (intro wv hSw; clear hSw; go_simp; try with_reducible rfl)
            try simp only [pu]
            refine tkH0 7 (v := ?_) ?_ ?_
            rotate_left
            · (intro wv hSw; obtain ⟨hq1, hq2⟩ := hSw; have p0 := hq1.cell 0; have p1 := hq1.cell 1; have p2 := hq1.cell 2; have pl := hq1.lt; have q0 := hq2.cell 0; have q1 := hq2.cell 1; have q2 := hq2.cell 2; have ql := hq2.lt; simp only [List.getElem?_toArray, List.getElem?_cons_zero, List.getElem?_cons_succ] at p0 p1 p2 q0 q1 q2; clear hq1 hq2; go_simp; try with_reducible rfl)
            try simp only [pu]
            refine tkH0 8 (v := ?_) ?_ ?_
            rotate_left
            · (intro wv hSw; obtain ⟨hq1, hq2⟩ := hSw; have p0 := hq1.cell 0; have p1 := hq1.cell 1; have p2 := hq1.cell 2; have pl := hq1.lt; have q0 := hq2.cell 0; have q1 := hq2.cell 1; have q2 := hq2.cell 2; have ql := hq2.lt; simp only [List.getElem?_toArray, List.getElem?_cons_zero, List.getElem?_cons_succ] at p0 p1 p2 q0 q1 q2; clear hq1 hq2; go_simp; try with_reducible rfl)
            try simp only [pu]
            refine tkH0 9 (v := ?_) ?_ ?_
            rotate_left
            · (intro wv hSw; obtain ⟨hq1, hq2⟩ := hSw; have p0 := hq1.cell 0; have p1 := hq1.cell 1; have p2 := hq1.cell 2; have pl := hq1.lt; have q0 := hq2.cell 0; have q1 := hq2.cell 1; have q2 := hq2.cell 2; have ql := hq2.lt; simp only [List.getElem?_toArray, List.getElem?_cons_zero, List.getElem?_cons_succ] at p0 p1 p2 q0 q1 q2; clear hq1 hq2; go_simp; try with_reducible rfl)
            try simp only [pu]
            refine tkH0 10 (v := ?_) ?_ ?_
            rotate_left
            · (intro wv hSw; clear hSw; go_simp; try with_reducible rfl)
            try simp only [pu]
            refine tkH0 11 (v := ?_) ?_ ?_
            rotate_left
            · (intro wv hSw; clear hSw; go_simp; try with_reducible rfl)
            try simp only [pu]
            refine tkH0 13 (v := ?_) ?_ ?_
            rotate_left
            · (intro wv hSw; clear hSw; go_simp; try with_reducible rfl)
            try simp only [pu]
            refine tkH0 17 (v := ?_) ?_ ?_
            rotate_left
            · (intro wv hSw; clear hSw; go_simp; try with_reducible rfl)
            try simp only [pu]
            refine wpAnyH_three (i0 := 12) (d0 := some 54) (v := .int .i64 (chN (N : Int) L r (m : Int)).1) (i := 14) (j := 15) (n := m) (di := some 56) (dj := some 57) (F := fun a3 c3 gx wn => Below wb.heap.size wb wn ∧ OwnI 2 wn wb.heap.size a3 m c3 c ∧ OwnI 2 wn wb.heap.size (some ⟨gx, 0, none⟩) 1 1 [(0 : Int)]) (by assumption) ?_ ?_
            · refine wpK_ready (rs := [12, 15]) (by kernel_rfl) (by simp) ?_
              refine AllReadyK.cons rfl (fun K hK => ?_) ?_
              · go_simp
                refine Calls.mono (KR0.out _ (below_callS HBc.out hx)) ?_
                rintro e wn ⟨rfl, hbn⟩
                (try replace HLt := Lib.hid (HLt.out.keep hbn))
                replace hx := below_callS hx hbn
                clear hbn
                go_wp2_with fail
                refine hK.out _ _ ⟨BM.out.keep hx, BD.out.keep hx⟩ (fun hHeld => ?_)
                clear hK K
                try simp only [pu]
                refine wpK_ready (rs := [14, 15]) (by kernel_rfl) (by simp) ?_
                refine AllReadyK.cons rfl (fun K hK => ?_) ?_
                · go_simp
                  refine Calls.mono (spec_l01Own9 (OC.out.ints.keep hx) (by omega)) ?_
                  rintro e wn ⟨a3, c3, rfl, hbn, ho⟩
                  (try replace HLt := Lib.hid (HLt.out.keep hbn))
                  have HT := Lib.hid (ho.le hx.size)
                  replace hx := below_callS hx hbn
                  clear hbn ho
                  go_wp2_with fail
                  refine hK.out _ _ ⟨BM.out.keep hx, BD.out.keep hx⟩ (fun hHeld => ?_)
                  clear hK K
                  try simp only [pu]
                  refine wpK_ready (rs := [15]) (by kernel_rfl) (by simp) ?_
                  refine AllReadyK.cons rfl (fun K hK => ?_) ?_
                  · go_simp
                    refine hK.out _ _ ⟨BM.out.keep bel, BD.out.keep bel⟩ (fun hHeld => ?_)
                    have hz := hx.size
                    replace hx := (by first | exact al_of9 hHeld hx | exact al_ofd9 hHeld hx)
                    have HLt := Lib.hid (by first | exact (lit9_of (show Below _ _ (World.alloc _ (.cells #[.int .i64 0] 2)) from hx) (by unfold I64; omega)).le hz | exact (lit9_ofd (show Below _ _ (World.drew (World.alloc _ (.cells #[.int .i64 0] 2))) from hx) (by unfold I64; omega)).le hz)
                    (try replace HT := Lib.hid (HT.out.al9 (show Below _ _ (World.alloc _ _) from hx)))
                    clear hz
                    clear hK K
                    try simp only [pu]
                    exact ⟨_, _, _, rfl, rfl, hx, HT.out, HLt.out⟩
                  exact AllReadyK.nil
                refine AllReadyK.cons rfl (fun K hK => ?_) ?_
                · go_simp
                  refine hK.out _ _ ⟨BM.out.keep bel, BD.out.keep bel⟩ (fun hHeld => ?_)
                  have hz := hx.size
                  replace hx := (by first | exact al_of9 hHeld hx | exact al_ofd9 hHeld hx)
                  have HLt := Lib.hid (by first | exact (lit9_of (show Below _ _ (World.alloc _ (.cells #[.int .i64 0] 2)) from hx) (by unfold I64; omega)).le hz | exact (lit9_ofd (show Below _ _ (World.drew (World.alloc _ (.cells #[.int .i64 0] 2))) from hx) (by unfold I64; omega)).le hz)
                  (try replace HT := Lib.hid (HT.out.al9 (show Below _ _ (World.alloc _ _) from hx)))
                  clear hz
                  clear hK K
                  try simp only [pu]
                  refine wpK_ready (rs := [14]) (by kernel_rfl) (by simp) ?_
                  refine AllReadyK.cons rfl (fun K hK => ?_) ?_
                  · go_simp
                    refine Calls.mono (spec_l01Own9 (OC.out.ints.keep hx) (by omega)) ?_
                    rintro e wn ⟨a3, c3, rfl, hbn, ho⟩
                    (try replace HLt := Lib.hid (HLt.out.keep hbn))
                    have HT := Lib.hid (ho.le hx.size)
                    replace hx := below_callS hx hbn
                    clear hbn ho
                    go_wp2_with fail
                    refine hK.out _ _ ⟨BM.out.keep hx, BD.out.keep hx⟩ (fun hHeld => ?_)
                    clear hK K
                    try simp only [pu]
                    exact ⟨_, _, _, rfl, rfl, hx, HT.out, HLt.out⟩
                  exact AllReadyK.nil
                exact AllReadyK.nil
              refine AllReadyK.cons rfl (fun K hK => ?_) ?_
              · go_simp
                refine hK.out _ _ ⟨BM.out.keep bel, BD.out.keep bel⟩ (fun hHeld => ?_)
                have hz := hx.size
                replace hx := (by first | exact al_of9 hHeld hx | exact al_ofd9 hHeld hx)
                have HLt := Lib.hid (by first | exact (lit9_of (show Below _ _ (World.alloc _ (.cells #[.int .i64 0] 2)) from hx) (by unfold I64; omega)).le hz | exact (lit9_ofd (show Below _ _ (World.drew (World.alloc _ (.cells #[.int .i64 0] 2))) from hx) (by unfold I64; omega)).le hz)
                (try replace HT := Lib.hid (HT.out.al9 (show Below _ _ (World.alloc _ _) from hx)))
                clear hz
                clear hK K
                try simp only [pu]
                refine wpK_ready (rs := [12]) (by kernel_rfl) (by simp) ?_
                refine AllReadyK.cons rfl (fun K hK => ?_) ?_
                · go_simp
                  refine Calls.mono (KR0.out _ (below_callS HBc.out hx)) ?_
                  rintro e wn ⟨rfl, hbn⟩
                  (try replace HLt := Lib.hid (HLt.out.keep hbn))
                  replace hx := below_callS hx hbn
                  clear hbn
                  go_wp2_with fail
                  refine hK.out _ _ ⟨BM.out.keep hx, BD.out.keep hx⟩ (fun hHeld => ?_)
                  clear hK K
                  try simp only [pu]
                  refine wpK_ready (rs := [14]) (by kernel_rfl) (by simp) ?_
                  refine AllReadyK.cons rfl (fun K hK => ?_) ?_
                  · go_simp
                    refine Calls.mono (spec_l01Own9 (OC.out.ints.keep hx) (by omega)) ?_
                    rintro e wn ⟨a3, c3, rfl, hbn, ho⟩
                    (try replace HLt := Lib.hid (HLt.out.keep hbn))
                    have HT := Lib.hid (ho.le hx.size)
                    replace hx := below_callS hx hbn
                    clear hbn ho
                    go_wp2_with fail
                    refine hK.out _ _ ⟨BM.out.keep hx, BD.out.keep hx⟩ (fun hHeld => ?_)
                    clear hK K
                    try simp only [pu]
                    exact ⟨_, _, _, rfl, rfl, hx, HT.out, HLt.out⟩
                  exact AllReadyK.nil
                exact AllReadyK.nil
              exact AllReadyK.nil
            clear hx hHeld
            intro a3 c3 gx wn hHeld hF
            obtain ⟨hx, hT, hLt⟩ := hF
            have HT := Lib.hid hT
            have HLt := Lib.hid hLt
            clear hT hLt
            try simp only [pu]
            refine wpAnyH_ready (rs := [16]) (by kernel_rfl) (by simp) ?_
            refine AllReadyH.cons rfl (fun K hK => ?_) AllReadyH.nil
            refine wp_appendL_F (k := 1) (enc := enc1) (ok := I64) _ _ 22 2 rfl Tryz.underlying22 Tryz.infoi64 rfl (by decide) (by decide) enc1_one9 wb.heap.size _ _ _ _ HT.out.f1 rfl _ _ _ [(0 : Int)] rfl HLt.out.f1.flats (by omega) (by omega) hx.size ?_
            intro aT cT wn2 ho hbB hgB
            replace hx := hx.trans hbB
            have HT2 := Lib.hid ho.i1
            clear ho hbB hgB HT HLt hHeld
            refine hK.out _ _ ⟨BM.out.keep hx, BD.out.keep hx⟩ (fun hHeld => ?_)
            clear hK K
            try simp only [pu]
            refine wpAnyH_ready (rs := [18]) (by kernel_rfl) (by simp) ?_
            refine AllReadyH.cons rfl (fun K hK => ?_) AllReadyH.nil
            go_simp
            refine Calls.mono (IH0.out _ (below_callS HBc.out hx) (GG.out.keep hx) _ _ (HT2.out.le HBc.out.size)) ?_
            rintro e wz ⟨rfl, hG2, hst, hbz⟩
            obtain ⟨ax, mx, cx, lx, hBx, _, _⟩ := (GG.out.keep hx).o
            replace BM := Lib.hid ((BM.out.keep hx).keepS hst hneM (by decide))
            replace BD := Lib.hid ((BD.out.keep hx).keepS hst hneD (by decide))
            replace OC := Lib.hid ((OC.out.keep hx).keepS hBx (by decide) hst)
            replace GG := Lib.hid hG2
            replace HBc := Lib.hid hbz
            replace STc := Lib.hid ((STc.out.trans (StepW.below hx)).trans hst)
            clear hG2 hst hbz hBx hx HT2 hHeld
            have hx := Below.refl wz.heap.size wz
            go_wp2_with fail
            refine hK.out _ _ ⟨BM.out, BD.out⟩ (fun hHeld => ?_)
            clear hK K
            try simp only [pu]
            refine tkH0 19 (v := ?_) ?_ ?_
            rotate_left
            · (intro wv hSw; clear hSw; go_simp; try with_reducible rfl)
            try simp only [pu]
            refine tkH0 20 (v := ?_) ?_ ?_
            rotate_left
            · (intro wv hSw; clear hSw; go_simp; try with_reducible rfl)
            try simp only [pu]
            refine tkH0 21 (v := ?_) ?_ ?_
            rotate_left
            · (intro wv hSw; obtain ⟨hq1, hq2⟩ := hSw; have p0 := hq1.cell 0; have p1 := hq1.cell 1; have p2 := hq1.cell 2; have pl := hq1.lt; have q0 := hq2.cell 0; have q1 := hq2.cell 1; have q2 := hq2.cell 2; have ql := hq2.lt; simp only [List.getElem?_toArray, List.getElem?_cons_zero, List.getElem?_cons_succ] at p0 p1 p2 q0 q1 q2; clear hq1 hq2; go_simp; try with_reducible rfl)
            try simp only [pu]
            refine tkH0 22 (v := ?_) ?_ ?_
            rotate_left
            · (intro wv hSw; clear hSw; go_simp; try with_reducible rfl)
            try simp only [pu]
            refine wpAnyH_two (i := 23) (j := 24) (n := m) (di := some 65) (dj := some 66) (F := fun a3 c3 gx wn => Below wz.heap.size wz wn ∧ OwnI 2 wn wz.heap.size a3 m c3 c ∧ OwnI 2 wn wz.heap.size (some ⟨gx, 0, none⟩) 1 1 [(1 : Int)]) (by assumption) ?_ ?_
            · refine wpK_ready (rs := [23, 24]) (by kernel_rfl) (by simp) ?_
              refine AllReadyK.cons rfl (fun K hK => ?_) ?_
              · go_simp
                refine Calls.mono (spec_l01Own9 (OC.out.ints.keep hx) (by omega)) ?_
                rintro e wn ⟨a3, c3, rfl, hbn, ho⟩
                (try replace HLt := Lib.hid (HLt.out.keep hbn))
                have HT := Lib.hid (ho.le hx.size)
                replace hx := below_callS hx hbn
                clear hbn ho
                go_wp2_with fail
                refine hK.out _ _ ⟨BM.out.keep hx, BD.out.keep hx⟩ (fun hHeld => ?_)
                clear hK K
                try simp only [pu]
                refine wpK_ready (rs := [24]) (by kernel_rfl) (by simp) ?_
                refine AllReadyK.cons rfl (fun K hK => ?_) ?_
                · go_simp
                  refine hK.out _ _ ⟨BM.out.keep bel, BD.out.keep bel⟩ (fun hHeld => ?_)
                  have hz := hx.size
                  replace hx := (by first | exact al_of9 hHeld hx | exact al_ofd9 hHeld hx)
                  have HLt := Lib.hid (by first | exact (lit9_of (show Below _ _ (World.alloc _ (.cells #[.int .i64 1] 2)) from hx) (by unfold I64; omega)).le hz | exact (lit9_ofd (show Below _ _ (World.drew (World.alloc _ (.cells #[.int .i64 1] 2))) from hx) (by unfold I64; omega)).le hz)
                  (try replace HT := Lib.hid (HT.out.al9 (show Below _ _ (World.alloc _ _) from hx)))
                  clear hz
                  clear hK K
                  try simp only [pu]
                  exact ⟨_, _, _, rfl, rfl, hx, HT.out, HLt.out⟩
                exact AllReadyK.nil
              refine AllReadyK.cons rfl (fun K hK => ?_) ?_
              · go_simp
                refine hK.out _ _ ⟨BM.out.keep bel, BD.out.keep bel⟩ (fun hHeld => ?_)
                have hz := hx.size
                replace hx := (by first | exact al_of9 hHeld hx | exact al_ofd9 hHeld hx)
                have HLt := Lib.hid (by first | exact (lit9_of (show Below _ _ (World.alloc _ (.cells #[.int .i64 1] 2)) from hx) (by unfold I64; omega)).le hz | exact (lit9_ofd (show Below _ _ (World.drew (World.alloc _ (.cells #[.int .i64 1] 2))) from hx) (by unfold I64; omega)).le hz)
                (try replace HT := Lib.hid (HT.out.al9 (show Below _ _ (World.alloc _ _) from hx)))
                clear hz
                clear hK K
                try simp only [pu]
                refine wpK_ready (rs := [23]) (by kernel_rfl) (by simp) ?_
                refine AllReadyK.cons rfl (fun K hK => ?_) ?_
                · go_simp
                  refine Calls.mono (spec_l01Own9 (OC.out.ints.keep hx) (by omega)) ?_
                  rintro e wn ⟨a3, c3, rfl, hbn, ho⟩
                  (try replace HLt := Lib.hid (HLt.out.keep hbn))
                  have HT := Lib.hid (ho.le hx.size)
                  replace hx := below_callS hx hbn
                  clear hbn ho
                  go_wp2_with fail
                  refine hK.out _ _ ⟨BM.out.keep hx, BD.out.keep hx⟩ (fun hHeld => ?_)
                  clear hK K
                  try simp only [pu]
                  exact ⟨_, _, _, rfl, rfl, hx, HT.out, HLt.out⟩
                exact AllReadyK.nil
              exact AllReadyK.nil
            clear hx hHeld
            intro a3 c3 gx wn hHeld hF
            obtain ⟨hx, hT, hLt⟩ := hF
            have HT := Lib.hid hT
            have HLt := Lib.hid hLt
            clear hT hLt
            try simp only [pu]
            refine wpAnyH_ready (rs := [25]) (by kernel_rfl) (by simp) ?_
            refine AllReadyH.cons rfl (fun K hK => ?_) AllReadyH.nil
            refine wp_appendL_F (k := 1) (enc := enc1) (ok := I64) _ _ 22 2 rfl Tryz.underlying22 Tryz.infoi64 rfl (by decide) (by decide) enc1_one9 wz.heap.size _ _ _ _ HT.out.f1 rfl _ _ _ [(1 : Int)] rfl HLt.out.f1.flats (by omega) (by omega) hx.size ?_
            intro aT cT wn2 ho hbB hgB
            replace hx := hx.trans hbB
            have HT2 := Lib.hid ho.i1
            clear ho hbB hgB HT HLt hHeld
            refine hK.out _ _ ⟨BM.out.keep hx, BD.out.keep hx⟩ (fun hHeld => ?_)
            clear hK K
            try simp only [pu]
            refine wpAnyH_ready (rs := [26]) (by kernel_rfl) (by simp) ?_
            refine AllReadyH.cons rfl (fun K hK => ?_) AllReadyH.nil
            go_simp
            refine Calls.mono (KB1.out _ (below_callS HBc.out hx) _ _ HT2.out.ints) ?_
            rintro e wd ⟨rfl, hbb⟩
            replace hx := below_callS hx hbb
            clear hbb HT2 hHeld
            go_wp2_with fail
            refine hK.out _ _ ⟨BM.out.keep hx, BD.out.keep hx⟩ (fun hHeld => ?_)
            clear hK K
            try simp only [pu]
            replace BM := Lib.hid (BM.out.keep hx)
            replace BD := Lib.hid (BD.out.keep hx)
            replace GG := Lib.hid (GG.out.keep hx)
            replace OC := Lib.hid (OC.out.keep hx)
            replace HBc := Lib.hid (below_callS HBc.out hx)
            replace STc := Lib.hid (STc.out.trans (StepW.below hx))
            clear hx
            have hx := Below.refl wd.heap.size wd
            refine tkH0 27 (v := ?_) ?_ ?_
            rotate_left
            · (intro wv hSw; clear hSw; go_simp; try with_reducible rfl)
            try simp only [pu]
            refine tkH0 28 (v := ?_) ?_ ?_
            rotate_left
            · (intro wv hSw; clear hSw; go_simp; try with_reducible rfl)
            try simp only [pu]
            refine tkH0 29 (v := ?_) ?_ ?_
            rotate_left
            · (intro wv hSw; obtain ⟨hq1, hq2⟩ := hSw; have p0 := hq1.cell 0; have p1 := hq1.cell 1; have p2 := hq1.cell 2; have pl := hq1.lt; have q0 := hq2.cell 0; have q1 := hq2.cell 1; have q2 := hq2.cell 2; have ql := hq2.lt; simp only [List.getElem?_toArray, List.getElem?_cons_zero, List.getElem?_cons_succ] at p0 p1 p2 q0 q1 q2; clear hq1 hq2; go_simp; try with_reducible rfl)
            try simp only [pu]
            refine tkH0 30 (v := ?_) ?_ ?_
            rotate_left
            · (intro wv hSw; obtain ⟨hq1, hq2⟩ := hSw; have p0 := hq1.cell 0; have p1 := hq1.cell 1; have p2 := hq1.cell 2; have pl := hq1.lt; have q0 := hq2.cell 0; have q1 := hq2.cell 1; have q2 := hq2.cell 2; have ql := hq2.lt; simp only [List.getElem?_toArray, List.getElem?_cons_zero, List.getElem?_cons_succ] at p0 p1 p2 q0 q1 q2; clear hq1 hq2; go_simp; try with_reducible rfl)
            try simp only [pu]
            refine tkH0 31 (v := ?_) ?_ ?_
            rotate_left
            · (intro wv hSw; obtain ⟨hq1, hq2⟩ := hSw; have p0 := hq1.cell 0; have p1 := hq1.cell 1; have p2 := hq1.cell 2; have pl := hq1.lt; have q0 := hq2.cell 0; have q1 := hq2.cell 1; have q2 := hq2.cell 2; have ql := hq2.lt; simp only [List.getElem?_toArray, List.getElem?_cons_zero, List.getElem?_cons_succ] at p0 p1 p2 q0 q1 q2; clear hq1 hq2; go_simp; try with_reducible rfl)
            try simp only [pu]
            refine tkH0 32 (v := ?_) ?_ ?_
            rotate_left
            · (intro wv hSw; clear hSw; go_simp; try with_reducible rfl)
            try simp only [pu]
            refine tkH0 33 (v := ?_) ?_ ?_
            rotate_left
            · (intro wv hSw; clear hSw; go_simp; try with_reducible rfl)
            try simp only [pu]
            refine tkH0 35 (v := ?_) ?_ ?_
            rotate_left
            · (intro wv hSw; clear hSw; go_simp; try with_reducible rfl)
            try simp only [pu]
            refine tkH0 39 (v := ?_) ?_ ?_
            rotate_left
            · (intro wv hSw; clear hSw; go_simp; try with_reducible rfl)
            try simp only [pu]
            refine wpAnyH_three (i0 := 34) (d0 := some 76) (v := .int .i64 (chN (N : Int) L r (m : Int)).2) (i := 36) (j := 37) (n := m) (di := some 78) (dj := some 79) (F := fun a3 c3 gx wn => Below wd.heap.size wd wn ∧ OwnI 2 wn wd.heap.size a3 m c3 c ∧ OwnI 2 wn wd.heap.size (some ⟨gx, 0, none⟩) 1 1 [(1 : Int)]) (by assumption) ?_ ?_
            · refine wpK_ready (rs := [34, 37]) (by kernel_rfl) (by simp) ?_
              refine AllReadyK.cons rfl (fun K hK => ?_) ?_
              · go_simp
                refine Calls.mono (KR1.out _ (below_callS HBc.out hx)) ?_
                rintro e wn ⟨rfl, hbn⟩
                (try replace HLt := Lib.hid (HLt.out.keep hbn))
                replace hx := below_callS hx hbn
                clear hbn
                go_wp2_with fail
                refine hK.out _ _ ⟨BM.out.keep hx, BD.out.keep hx⟩ (fun hHeld => ?_)
                clear hK K
                try simp only [pu]
                refine wpK_ready (rs := [36, 37]) (by kernel_rfl) (by simp) ?_
                refine AllReadyK.cons rfl (fun K hK => ?_) ?_
                · go_simp
                  refine Calls.mono (spec_l01Own9 (OC.out.ints.keep hx) (by omega)) ?_
                  rintro e wn ⟨a3, c3, rfl, hbn, ho⟩
                  (try replace HLt := Lib.hid (HLt.out.keep hbn))
                  have HT := Lib.hid (ho.le hx.size)
                  replace hx := below_callS hx hbn
                  clear hbn ho
                  go_wp2_with fail
                  refine hK.out _ _ ⟨BM.out.keep hx, BD.out.keep hx⟩ (fun hHeld => ?_)
                  clear hK K
                  try simp only [pu]
                  refine wpK_ready (rs := [37]) (by kernel_rfl) (by simp) ?_
                  refine AllReadyK.cons rfl (fun K hK => ?_) ?_
                  · go_simp
                    refine hK.out _ _ ⟨BM.out.keep bel, BD.out.keep bel⟩ (fun hHeld => ?_)
                    have hz := hx.size
                    replace hx := (by first | exact al_of9 hHeld hx | exact al_ofd9 hHeld hx)
                    have HLt := Lib.hid (by first | exact (lit9_of (show Below _ _ (World.alloc _ (.cells #[.int .i64 1] 2)) from hx) (by unfold I64; omega)).le hz | exact (lit9_ofd (show Below _ _ (World.drew (World.alloc _ (.cells #[.int .i64 1] 2))) from hx) (by unfold I64; omega)).le hz)
                    (try replace HT := Lib.hid (HT.out.al9 (show Below _ _ (World.alloc _ _) from hx)))
                    clear hz
                    clear hK K
                    try simp only [pu]
                    exact ⟨_, _, _, rfl, rfl, hx, HT.out, HLt.out⟩
                  exact AllReadyK.nil
                refine AllReadyK.cons rfl (fun K hK => ?_) ?_
                · go_simp
                  refine hK.out _ _ ⟨BM.out.keep bel, BD.out.keep bel⟩ (fun hHeld => ?_)
                  have hz := hx.size
                  replace hx := (by first | exact al_of9 hHeld hx | exact al_ofd9 hHeld hx)
                  have HLt := Lib.hid (by first | exact (lit9_of (show Below _ _ (World.alloc _ (.cells #[.int .i64 1] 2)) from hx) (by unfold I64; omega)).le hz | exact (lit9_ofd (show Below _ _ (World.drew (World.alloc _ (.cells #[.int .i64 1] 2))) from hx) (by unfold I64; omega)).le hz)
                  (try replace HT := Lib.hid (HT.out.al9 (show Below _ _ (World.alloc _ _) from hx)))
                  clear hz
                  clear hK K
                  try simp only [pu]
                  refine wpK_ready (rs := [36]) (by kernel_rfl) (by simp) ?_
                  refine AllReadyK.cons rfl (fun K hK => ?_) ?_
                  · go_simp
                    refine Calls.mono (spec_l01Own9 (OC.out.ints.keep hx) (by omega)) ?_
                    rintro e wn ⟨a3, c3, rfl, hbn, ho⟩
                    (try replace HLt := Lib.hid (HLt.out.keep hbn))
                    have HT := Lib.hid (ho.le hx.size)
                    replace hx := below_callS hx hbn
                    clear hbn ho
                    go_wp2_with fail
                    refine hK.out _ _ ⟨BM.out.keep hx, BD.out.keep hx⟩ (fun hHeld => ?_)
                    clear hK K
                    try simp only [pu]
                    exact ⟨_, _, _, rfl, rfl, hx, HT.out, HLt.out⟩
                  exact AllReadyK.nil
                exact AllReadyK.nil
              refine AllReadyK.cons rfl (fun K hK => ?_) ?_
              · go_simp
                refine hK.out _ _ ⟨BM.out.keep bel, BD.out.keep bel⟩ (fun hHeld => ?_)
                have hz := hx.size
                replace hx := (by first | exact al_of9 hHeld hx | exact al_ofd9 hHeld hx)
                have HLt := Lib.hid (by first | exact (lit9_of (show Below _ _ (World.alloc _ (.cells #[.int .i64 1] 2)) from hx) (by unfold I64; omega)).le hz | exact (lit9_ofd (show Below _ _ (World.drew (World.alloc _ (.cells #[.int .i64 1] 2))) from hx) (by unfold I64; omega)).le hz)
                (try replace HT := Lib.hid (HT.out.al9 (show Below _ _ (World.alloc _ _) from hx)))
                clear hz
                clear hK K
                try simp only [pu]
                refine wpK_ready (rs := [34]) (by kernel_rfl) (by simp) ?_
                refine AllReadyK.cons rfl (fun K hK => ?_) ?_
                · go_simp
                  refine Calls.mono (KR1.out _ (below_callS HBc.out hx)) ?_
                  rintro e wn ⟨rfl, hbn⟩
                  (try replace HLt := Lib.hid (HLt.out.keep hbn))
                  replace hx := below_callS hx hbn
                  clear hbn
                  go_wp2_with fail
                  refine hK.out _ _ ⟨BM.out.keep hx, BD.out.keep hx⟩ (fun hHeld => ?_)
                  clear hK K
                  try simp only [pu]
                  refine wpK_ready (rs := [36]) (by kernel_rfl) (by simp) ?_
                  refine AllReadyK.cons rfl (fun K hK => ?_) ?_
                  · go_simp
                    refine Calls.mono (spec_l01Own9 (OC.out.ints.keep hx) (by omega)) ?_
                    rintro e wn ⟨a3, c3, rfl, hbn, ho⟩
                    (try replace HLt := Lib.hid (HLt.out.keep hbn))
                    have HT := Lib.hid (ho.le hx.size)
                    replace hx := below_callS hx hbn
                    clear hbn ho
                    go_wp2_with fail
                    refine hK.out _ _ ⟨BM.out.keep hx, BD.out.keep hx⟩ (fun hHeld => ?_)
                    clear hK K
                    try simp only [pu]
                    exact ⟨_, _, _, rfl, rfl, hx, HT.out, HLt.out⟩
                  exact AllReadyK.nil
                exact AllReadyK.nil
              exact AllReadyK.nil
            clear hx hHeld
            intro a3 c3 gx wn hHeld hF
            obtain ⟨hx, hT, hLt⟩ := hF
            have HT := Lib.hid hT
            have HLt := Lib.hid hLt
            clear hT hLt
            try simp only [pu]
            refine wpAnyH_ready (rs := [38]) (by kernel_rfl) (by simp) ?_
            refine AllReadyH.cons rfl (fun K hK => ?_) AllReadyH.nil
            refine wp_appendL_F (k := 1) (enc := enc1) (ok := I64) _ _ 22 2 rfl Tryz.underlying22 Tryz.infoi64 rfl (by decide) (by decide) enc1_one9 wd.heap.size _ _ _ _ HT.out.f1 rfl _ _ _ [(1 : Int)] rfl HLt.out.f1.flats (by omega) (by omega) hx.size ?_
            intro aT cT wn2 ho hbB hgB
            replace hx := hx.trans hbB
            have HT2 := Lib.hid ho.i1
            clear ho hbB hgB HT HLt hHeld
            refine hK.out _ _ ⟨BM.out.keep hx, BD.out.keep hx⟩ (fun hHeld => ?_)
            clear hK K
            try simp only [pu]
            refine wpAnyH_ready (rs := [40]) (by kernel_rfl) (by simp) ?_
            refine AllReadyH.cons rfl (fun K hK => ?_) AllReadyH.nil
            go_simp
            refine Calls.mono (IH1.out _ (below_callS HBc.out hx) (GG.out.keep hx) _ _ (HT2.out.le HBc.out.size)) ?_
            rintro e wy ⟨rfl, hG2, hst, hbz⟩
            obtain ⟨ax, mx, cx, lx, hBx, _, _⟩ := (GG.out.keep hx).o
            replace BM := Lib.hid ((BM.out.keep hx).keepS hst hneM (by decide))
            replace BD := Lib.hid ((BD.out.keep hx).keepS hst hneD (by decide))
            replace OC := Lib.hid ((OC.out.keep hx).keepS hBx (by decide) hst)
            replace GG := Lib.hid hG2
            replace HBc := Lib.hid hbz
            replace STc := Lib.hid ((STc.out.trans (StepW.below hx)).trans hst)
            clear hG2 hst hbz hBx hx HT2 hHeld
            have hx := Below.refl wy.heap.size wy
            go_wp2_with fail
            refine hK.out _ _ ⟨BM.out, BD.out⟩ (fun hHeld => ?_)
            clear hK K
            try simp only [pu]
            refine tkH0 41 (v := ?_) ?_ ?_
            rotate_left
            · (intro wv hSw; clear hSw; go_simp; try with_reducible rfl)
            try simp only [pu]
            refine tkH0 42 (v := ?_) ?_ ?_
            rotate_left
            · (intro wv hSw; clear hSw; go_simp; try with_reducible rfl)
            try simp only [pu]
            refine tkH0 43 (v := ?_) ?_ ?_
            rotate_left
            · (intro wv hSw; clear hSw; go_simp; try with_reducible rfl)
            try simp only [pu]
            refine wpAnyH_done (by kernel_rfl) ?_ _
            refine NoPanic.normal ?_
            clear hHeld
            go_wp2
            go_ret
            exact ⟨by rw [HL.out]; rfl, by rw [HL.out]; exact GG.out.keep hx, STc.out.trans (StepW.below hx), below_callS HBc.out hx⟩
end Go.Proofs.YtkaikbaagajckaaGreat
