/- All lists of bits for which a diagram has the value 1: the program, walked. -/
import Derived.Test.YtkaikbaagajckaaGreatPu
import Derived.Test.YtkaikbaagajckaaGreatN17
import Derived.Test.YtkaikbaagajckaaGreatN21
import Derived.Test.YtkaikbaagajckaaGreatN25
namespace Go.Proofs.YtkaikbaagajckaaGreat
open Go.RowKit
set_option linter.unusedVariables false
set_option linter.unusedSimpArgs false
attribute [local go_sem ↓] Go.wp_at_zero Go.wp_at_succ
theorem ls_zero (n : Int) (L : List I3) (k : Nat) : lsN n L k 0 = [] := by cases k <;> simp [lsN]
theorem ls_next {n : Nat} {L : List I3} {k m : Nat} {r : Int} (h : r ≠ 0) (hm : m + (k + 1) = n) : lsN (n : Int) L (k + 1) r = (lsN (n : Int) L k (chN (n : Int) L r (m : Int)).1).map (0 :: ·) ++ (lsN (n : Int) L k (chN (n : Int) L r (m : Int)).2).map (1 :: ·) := by
  rw [lsN, if_neg h, show (n : Int) - ((k : Int) + 1) = (m : Int) by omega]
abbrev lFun (bD bO bV : Nat) : Value := .func (.func 174) #[] #[.pointer (some ⟨bD, 0, none⟩), .pointer (some ⟨bO, 0, none⟩), .pointer (some ⟨bV, 0, none⟩)]
/-- what the walk over a diagram has at hand -/
structure LsW (w : World) (lo bD bO bV n : Nat) (aN : Option Addr) (cN : Nat) (N : List I3) (root : Int) (out : List (List Int)) : Prop where
  d : Blk w bD #[.int .i64 (n : Int), .slice aN N.length cN, .int .i64 root] 40
  v : Blk w bV #[lFun bD bO bV] 215
  o : ∃ a m c l, Blk w bO #[.slice a m c] 31 ∧ SRow w lo lo a m c l ∧ l.map (·.2) = out
  nN : F3 w aN N.length cN N
  lN : N.length = 0 ∨ ∀ g off, aN = some ⟨g, off, none⟩ → g < lo
  ob : lo ≤ bO
  low : lo ≤ w.heap.size
theorem LsW.keep {w w' : World} {lo bD bO bV n : Nat} {aN : Option Addr} {cN : Nat} {N : List I3} {root : Int} {out : List (List Int)} (h : LsW w lo bD bO bV n aN cN N root out) (hb : Below w.heap.size w w') : LsW w' lo bD bO bV n aN cN N root out := by
  obtain ⟨a, m, c, l, h1, h2, h3⟩ := h.o
  exact ⟨h.d.keep hb, h.v.keep hb, ⟨a, m, c, l, h1.keep hb, h2.keep hb, h3⟩, h.nN.keep hb, h.lN, h.ob, Nat.le_trans h.low hb.size⟩
theorem blk_two {w : World} {b : Nat} {cs cs' : Array Value} {T T' : TypeId} (h : Blk w b cs T) (h' : Blk w b cs' T') (hT : T ≠ T') : False := by
  rw [Blk] at h h'
  rw [h] at h'
  simp only [Option.some.injEq, Obj.cells.injEq] at h'
  exact hT h'.2.1
theorem map_map_app (c : List Int) (x : Int) (L : List (List Int)) : (L.map (x :: ·)).map (c ++ ·) = L.map ((c ++ [x]) ++ ·) := by
  rw [List.map_map]; apply List.map_congr_left; intro y _; simp
set_option maxRecDepth 100000 in
set_option maxHeartbeats 8000000 in
theorem impl_lists_1 {lo bD bO bV n : Nat} {aN : Option Addr} {cN : Nat} {N : List I3} {root : Int} (hS : Snd (n : Int) N) (hn20 : n ≤ 20) (hN : N.length ≤ 4190000) :
    ∀ (k m : Nat) (r : Int) (c : List Int) (out : List (List Int)) (la : Option Addr) (lc : Nat) (w : World), LsW w lo bD bO bV n aN cN N root out → OwnI 2 w lo la m lc c → c.length = m → m + k = n → RefB r N.length → (m : Int) ≤ lvlN (n : Int) N r → out.length + (lsN (n : Int) N k r).length ≤ 4194304 →
    Calls Tryz.prog 174 #[.int .i64 r, .slice la m lc, .pointer (some ⟨bD, 0, none⟩), .pointer (some ⟨bO, 0, none⟩), .pointer (some ⟨bV, 0, none⟩)] w fun e w' => e = .returned (.tuple #[]) ∧ LsW w' lo bD bO bV n aN cN N root (out ++ (lsN (n : Int) N k r).map (c ++ ·)) ∧ StepW bO w w' ∧ Below lo w w' := by
  intro k
  induction k with
  | zero =>
    intro m r c out la lc w hW hO hcm hmk hr hl hlen
    have HW := Lib.hid hW
    have HO := Lib.hid hO
    have d0 := hW.d.cell 0
    have dl := hW.d.lt
    simp only [List.getElem?_toArray, List.getElem?_cons_zero] at d0
    have hlow := hW.low
    by_cases h0 : r = 0
    · subst h0
      clear hW hO hr
      go_enter Tryz.func174, Tryz.ntmps174
      go_wp2_with fail
      refine Calls.mono (impl_length_i64) ?_
      rintro e _ ⟨rfl, rfl⟩
      go_wp2
      exact bodyPost_end (by simp [results, Tryz.results174, go_sem]) rfl ⟨rfl, by rw [ls_zero, List.map_nil, List.append_nil]; exact HW.out, StepW.refl _ _, Below.refl _ _⟩
    · have HL := Lib.hid (show lsN (n : Int) N 0 r = [[]] by rw [lsN, if_neg h0])
      obtain ⟨a, q, cq, l, hB, hRow, hmap⟩ := hW.o
      have hq : q ≤ 4194304 := by
        have := hRow.len
        rw [HL.out, ← hmap, List.length_map] at hlen
        omega
      have o0 := hB.cell 0
      have ol := hB.lt
      have ofr := hB.free
      simp at o0
      have HB := Lib.hid hB
      have HR := Lib.hid hRow
      have HM := Lib.hid hmap
      have hmn : (m : Int) = (n : Int) := by omega
      have r0 : (r == 0) = false := by simpa using h0
      clear hW hO hr hB hRow hmap hlen hl
      go_enter Tryz.func174, Tryz.ntmps174
      go_wp2_with fail
      refine Calls.mono (impl_length_i64) ?_
      rintro e _ ⟨rfl, rfl⟩
      go_wp2_with (at_builtin; refine appS rfl _ _ rfl lo lo _ _ _ _ HR.out rfl _ rfl rfl (⟨la, m, lc⟩, c) HO.out _ rfl (by omega) (by omega) ?_; intro g2 oc2 w2 ho2 hb2 ht2 hat2 hs2; refine Hid.out ?_)
      have B2 := Lib.hid (HB.out.keepA ht2 (blk_ne HB.out (fun {g} e => HR.out.row.typ e) (by decide)))
      have O2 := Lib.hid ho2
      have ST2 := Lib.hid (StepW.touch (b := bO) HR.out ht2)
      have BL2 := Lib.hid hb2
      clear ho2 hb2 ht2 hat2 o0 ofr d0 dl ol
      have b2l := B2.out.lt
      have b2f := B2.out.free
      have b20 := B2.out.cell 0
      simp at b20
      have hob := HW.out.ob
      refine Lib.hid ?_
      go_wp2
      have hB3 := B2.out.put8 0 (.slice (some ⟨g2, 0, none⟩) (q + 1) oc2)
      have hST := ST2.out.trans (StepW.set bO w2 0 (.slice (some ⟨g2, 0, none⟩) (q + 1) oc2))
      have hBL := BL2.out.setCell (show lo ≤ (⟨bO, 0, none⟩ : Addr).block from hob) (.slice (some ⟨g2, 0, none⟩) (q + 1) oc2)
      refine bodyPost_end (by simp [results, Tryz.results174, go_sem]) rfl ⟨rfl, ?_, hST, hBL⟩
      rw [HL.out]
      exact ⟨HW.out.d.keepS hST (fun e => by have := HW.out.d; rw [e] at this; exact blk_two this HB.out (by decide)) (by decide), HW.out.v.keepS hST (fun e => by have := HW.out.v; rw [e] at this; exact blk_two this HB.out (by decide)) (by decide), ⟨_, _, _, _, hB3, O2.out.setB9 B2.out (by decide) (by decide) _ _, by rw [List.map_append, HM.out]; simp⟩, HW.out.nN.keepB hBL HW.out.lN, HW.out.lN, hob, by have := hBL.size; omega⟩
  | succ k ih =>
    intro m r c out la lc w hW hO hcm hmk hr hl hlen
    have HW := Lib.hid hW
    have HO := Lib.hid hO
    have d0 := hW.d.cell 0
    have d1 := hW.d.cell 1
    have d2 := hW.d.cell 2
    have dl := hW.d.lt
    simp only [List.getElem?_toArray, List.getElem?_cons_zero, List.getElem?_cons_succ] at d0 d1 d2
    have hlow := hW.low
    by_cases h0 : r = 0
    · subst h0
      clear hW hO hr
      go_enter Tryz.func174, Tryz.ntmps174
      go_wp2_with fail
      refine Calls.mono (impl_length_i64) ?_
      rintro e _ ⟨rfl, rfl⟩
      go_wp2
      exact bodyPost_end (by simp [results, Tryz.results174, go_sem]) rfl ⟨rfl, by rw [ls_zero, List.map_nil, List.append_nil]; exact HW.out, StepW.refl _ _, Below.refl _ _⟩
    · have hL := ls_next (n := n) (L := N) (k := k) (m := m) h0 hmk
      have LN := Lib.hid (show out.length + (lsN (n : Int) N k (chN (n : Int) N r (m : Int)).1).length + (lsN (n : Int) N k (chN (n : Int) N r (m : Int)).2).length ≤ 4194304 by rw [hL, List.length_append, List.length_map, List.length_map] at hlen; omega)
      have HL := Lib.hid hL
      have CH := Lib.hid (ch_all hS.redu.frst hS.ord hr hl (by omega))
      have KCh := Lib.hid (fun (wx : World) (h : Below w.heap.size w wx) => impl_children (inp := (n : Int)) (root := root) (input := (m : Int)) (hW.nN.keep h) hN hr (fun _ => by omega))
      have hmn : ((m : Int) == (n : Int)) = false := by simp; omega
      have r0 : (r == 0) = false := by simpa using h0
      have h64 : I64 (m : Int) := by unfold I64; omega
      clear hW hO hr hlen hl hL
      go_enter Tryz.func174, Tryz.ntmps174
      go_wp2_with fail
      refine Calls.mono (impl_length_i64) ?_
      rintro e _ ⟨rfl, rfl⟩
      go_wp2_with fail
      refine Calls.mono (KCh.out _ (Below.refl _ _)) ?_
      rintro e wr ⟨rfl, hbr⟩
      have S0 := Lib.hid (HW.out.keep hbr)
      have STa := Lib.hid (StepW.below (b := bO) hbr)
      have BLa := Lib.hid (Below.mono hbr hlow)
      replace HO := Lib.hid (HO.out.keep hbr)
      clear hbr d0 d1 d2 dl HW KCh
      obtain ⟨ax, mx, cx, lx, hBx, _, _⟩ := S0.out.o
      have HBx := Lib.hid hBx
      clear hBx
      have hlowr := S0.out.low
      have v0 := S0.out.v.cell 0
      have vl := S0.out.v.lt
      simp only [List.getElem?_toArray, List.getElem?_cons_zero] at v0
      have KC := Lib.hid (fun (wx : World) (h : Below wr.heap.size wr wx) => slices_Clone_i64 (HO.out.ints.keep h) (by omega))
      have KS := Lib.hid (fun (wx : World) (a' : Option Addr) (c' : Nat) (h : Below wr.heap.size wr wx) (o : OwnI 2 wx lo a' (m + 1) c' (c ++ [0])) => ih (m + 1) (chN (n : Int) N r (m : Int)).1 (c ++ [0]) _ a' c' wx (S0.out.keep h) o (by simp; omega) (by omega) CH.out.1 (by have := CH.out.2.2.1; omega) (by have := LN.out; omega))
      have hb64 : I64 (0 : Int) := by unfold I64; omega
      go_wp2_with fail
      refine wp_region_noPanic ?_
      refine wp_region_L (L := 6) (S := fun wx => Below wr.heap.size wr wx) (by kernel_rfl) ?_ (fun hHeld => ?_)
      · exact (Below.refl _ _).drew
      refine wpAnyL_take (i := 0) (v := ?_) (by simp only [List.getElem?_toArray, List.getElem?_cons_succ, List.getElem?_cons_zero] <;> rfl) (by kernel_rfl) (by decide) (by kernel_rfl) (by kernel_rfl) (by kernel_rfl) (by kernel_rfl) (fun _ _ _ h => h) (Or.inl ⟨by rfl, ?_⟩) (by assumption) ?_
      rotate_left
      · (intro wv hSw; (try dsimp only at hSw); obtain ⟨hcq, _⟩ := bcell hSw; have hsq := Below.size hSw; have p0 := (hcq _ _ vl).trans v0; have pl := Nat.lt_of_lt_of_le vl hsq; go_simp; try with_reducible rfl)
      try simp only [pu]
      refine wpAnyL_take (i := 1) (v := ?_) (by simp only [List.getElem?_toArray, List.getElem?_cons_succ, List.getElem?_cons_zero] <;> rfl) (by kernel_rfl) (by decide) (by kernel_rfl) (by kernel_rfl) (by kernel_rfl) (by kernel_rfl) (fun _ _ _ h => h) (Or.inl ⟨by rfl, ?_⟩) (by assumption) ?_
      rotate_left
      · (intro wv hSw; (try dsimp only at hSw); obtain ⟨hcq, _⟩ := bcell hSw; have hsq := Below.size hSw; go_simp; try with_reducible rfl)
      try simp only [pu]
      refine wpAnyL_take (i := 2) (v := ?_) (by simp only [List.getElem?_toArray, List.getElem?_cons_succ, List.getElem?_cons_zero] <;> rfl) (by kernel_rfl) (by decide) (by kernel_rfl) (by kernel_rfl) (by kernel_rfl) (by kernel_rfl) (fun _ _ _ h => h) (Or.inl ⟨by rfl, ?_⟩) (by assumption) ?_
      rotate_left
      · (intro wv hSw; (try dsimp only at hSw); obtain ⟨hcq, _⟩ := bcell hSw; have hsq := Below.size hSw; go_simp; try with_reducible rfl)
      try simp only [pu]
      refine wpAnyL_ready (rs := [3, 4]) (by kernel_rfl) (by simp) ?_
      refine AllReadyL.cons rfl (fun K hK => ?_) ?_
      · go_simp
        refine Calls.mono (KC.out _ hHeld) ?_
        rintro e wn ⟨a3, c3, rfl, hbn, ho, hnl⟩
        have hst : Below wr.heap.size wr wn := below_callS hHeld hbn
        (try replace HLt := Lib.hid (HLt.out.keep hbn))
        have HT := Lib.hid (ho.le (show wr.heap.size ≤ _ from Below.size hHeld))
        clear ho hbn hnl
        go_wp2_with fail
        refine hK.out _ _ hst (fun hHeld => ?_)
        clear hst
        clear hK K
        try simp only [pu]
        refine wpAnyL_ready (rs := [4]) (by kernel_rfl) (by simp) ?_
        refine AllReadyL.cons rfl (fun K hK => ?_) ?_
        · go_simp
          refine hK.out _ _ bel (fun hHeld => ?_)
          have HLt := Lib.hid (by first | exact lit9_of (show Below _ _ (World.alloc _ (.cells #[.int .i64 0] 2)) from hHeld) hb64 | exact lit9_ofd (show Below _ _ (World.drew (World.alloc _ (.cells #[.int .i64 0] 2))) from hHeld) hb64)
          (try replace HT := Lib.hid (HT.out.al9 (show Below _ _ (World.alloc _ _) from hHeld)))
          clear hK K
          try simp only [pu]
          refine wpAnyL_ready (rs := [5]) (by kernel_rfl) (by simp) ?_
          refine AllReadyL.cons rfl (fun K hK => ?_) ?_
          · refine wp_appendL_F (k := 1) (enc := enc1) (ok := I64) _ _ 22 2 rfl Tryz.underlying22 Tryz.infoi64 rfl (by decide) (by decide) enc1_one9 wr.heap.size _ _ _ _ HT.out.f1 rfl _ _ _ [(0 : Int)] rfl HLt.out.f1.flats (by omega) (by omega) (Below.size hHeld) ?_
            intro aT2 cT2 wn ho hbB hgB
            have hst : Below wr.heap.size wr wn := Below.trans hHeld hbB
            have HT2 := Lib.hid (ho.i1.le hlowr)
            clear ho hbB hgB HLt HT
            refine hK.out _ _ hst (fun hHeld => ?_)
            clear hst
            clear hK K
            try simp only [pu]
            refine wpAnyL_ready (rs := [6]) (by kernel_rfl) (by simp) ?_
            refine AllReadyL.last rfl (fun K hK => ?_)
            go_simp
            refine Calls.mono (KS.out _ _ _ hHeld HT2.out) ?_
            rintro e wz ⟨rfl, hS3, hst3, hbl3⟩
            have hstz : StepW bO wr wz := (StepW.below hHeld).trans hst3
            have hblz : Below lo wr wz := Below.trans (Below.mono hHeld hlowr) hbl3
            have S3 := Lib.hid hS3
            clear hst3 hbl3 hS3 HT2 hHeld
            go_wp2_with fail
            refine hK.out _ _ ?_
            clear hK K
            refine wpAnyL_done (by kernel_rfl) ?_ _
            refine NoPanic.normal ?_
            have HC2 := Lib.hid (HO.out.keepS HBx.out (by decide) hstz)
            have ST2 := Lib.hid (STa.out.trans hstz)
            have BL2 := Lib.hid (BLa.out.trans hblz)
            clear hstz hblz KC KS v0 vl hlowr
            obtain ⟨wr2, hwr2⟩ : ∃ W, W = wz := ⟨_, rfl⟩
            rw [← hwr2] at S3 HC2 ST2 BL2 ⊢
            clear hwr2
            clear S0 STa BLa HO HBx
            have hlowr := S3.out.low
            have v0 := S3.out.v.cell 0
            have vl := S3.out.v.lt
            simp only [List.getElem?_toArray, List.getElem?_cons_zero] at v0
            have KC := Lib.hid (fun (wx : World) (h : Below wr2.heap.size wr2 wx) => slices_Clone_i64 (HC2.out.ints.keep h) (by omega))
            have KS := Lib.hid (fun (wx : World) (a' : Option Addr) (c' : Nat) (h : Below wr2.heap.size wr2 wx) (o : OwnI 2 wx lo a' (m + 1) c' (c ++ [1])) => ih (m + 1) (chN (n : Int) N r (m : Int)).2 (c ++ [1]) _ a' c' wx (S3.out.keep h) o (by simp; omega) (by omega) CH.out.2.1 (by have := CH.out.2.2.2.1; omega) (by rw [List.length_append, List.length_map]; have := LN.out; omega))
            have hb64 : I64 (1 : Int) := by unfold I64; omega
            go_wp2_with fail
            refine wp_region_noPanic ?_
            refine wp_region_L (L := 6) (S := fun wx => Below wr2.heap.size wr2 wx) (by kernel_rfl) ?_ (fun hHeld => ?_)
            · exact (Below.refl _ _).drew
            refine wpAnyL_take (i := 0) (v := ?_) (by simp only [List.getElem?_toArray, List.getElem?_cons_succ, List.getElem?_cons_zero] <;> rfl) (by kernel_rfl) (by decide) (by kernel_rfl) (by kernel_rfl) (by kernel_rfl) (by kernel_rfl) (fun _ _ _ h => h) (Or.inl ⟨by rfl, ?_⟩) (by assumption) ?_
            rotate_left
            · (intro wv hSw; (try dsimp only at hSw); obtain ⟨hcq, _⟩ := bcell hSw; have hsq := Below.size hSw; have p0 := (hcq _ _ vl).trans v0; have pl := Nat.lt_of_lt_of_le vl hsq; go_simp; try with_reducible rfl)
            try simp only [pu]
            refine wpAnyL_take (i := 1) (v := ?_) (by simp only [List.getElem?_toArray, List.getElem?_cons_succ, List.getElem?_cons_zero] <;> rfl) (by kernel_rfl) (by decide) (by kernel_rfl) (by kernel_rfl) (by kernel_rfl) (by kernel_rfl) (fun _ _ _ h => h) (Or.inl ⟨by rfl, ?_⟩) (by assumption) ?_
            rotate_left
            · (intro wv hSw; (try dsimp only at hSw); obtain ⟨hcq, _⟩ := bcell hSw; have hsq := Below.size hSw; go_simp; try with_reducible rfl)
            try simp only [pu]
            refine wpAnyL_take (i := 2) (v := ?_) (by simp only [List.getElem?_toArray, List.getElem?_cons_succ, List.getElem?_cons_zero] <;> rfl) (by kernel_rfl) (by decide) (by kernel_rfl) (by kernel_rfl) (by kernel_rfl) (by kernel_rfl) (fun _ _ _ h => h) (Or.inl ⟨by rfl, ?_⟩) (by assumption) ?_
            rotate_left
            · (intro wv hSw; (try dsimp only at hSw); obtain ⟨hcq, _⟩ := bcell hSw; have hsq := Below.size hSw; go_simp; try with_reducible rfl)
            try simp only [pu]
            refine wpAnyL_ready (rs := [3, 4]) (by kernel_rfl) (by simp) ?_
            refine AllReadyL.cons rfl (fun K hK => ?_) ?_
            · go_simp
              refine Calls.mono (KC.out _ hHeld) ?_
              rintro e wn ⟨a3, c3, rfl, hbn, ho, hnl⟩
              have hst : Below wr2.heap.size wr2 wn := below_callS hHeld hbn
              (try replace HLt := Lib.hid (HLt.out.keep hbn))
              have HT := Lib.hid (ho.le (show wr2.heap.size ≤ _ from Below.size hHeld))
              clear ho hbn hnl
              go_wp2_with fail
              refine hK.out _ _ hst (fun hHeld => ?_)
              clear hst
              clear hK K
              try simp only [pu]
              refine wpAnyL_ready (rs := [4]) (by kernel_rfl) (by simp) ?_
              refine AllReadyL.cons rfl (fun K hK => ?_) ?_
              · go_simp
                refine hK.out _ _ bel (fun hHeld => ?_)
                have HLt := Lib.hid (by first | exact lit9_of (show Below _ _ (World.alloc _ (.cells #[.int .i64 1] 2)) from hHeld) hb64 | exact lit9_ofd (show Below _ _ (World.drew (World.alloc _ (.cells #[.int .i64 1] 2))) from hHeld) hb64)
                (try replace HT := Lib.hid (HT.out.al9 (show Below _ _ (World.alloc _ _) from hHeld)))
                clear hK K
                try simp only [pu]
                refine wpAnyL_ready (rs := [5]) (by kernel_rfl) (by simp) ?_
                refine AllReadyL.cons rfl (fun K hK => ?_) ?_
                · refine wp_appendL_F (k := 1) (enc := enc1) (ok := I64) _ _ 22 2 rfl Tryz.underlying22 Tryz.infoi64 rfl (by decide) (by decide) enc1_one9 wr2.heap.size _ _ _ _ HT.out.f1 rfl _ _ _ [(1 : Int)] rfl HLt.out.f1.flats (by omega) (by omega) (Below.size hHeld) ?_
                  intro aT2 cT2 wn ho hbB hgB
                  have hst : Below wr2.heap.size wr2 wn := Below.trans hHeld hbB
                  have HT2 := Lib.hid (ho.i1.le hlowr)
                  clear ho hbB hgB HLt HT
                  refine hK.out _ _ hst (fun hHeld => ?_)
                  clear hst
                  clear hK K
                  try simp only [pu]
                  refine wpAnyL_ready (rs := [6]) (by kernel_rfl) (by simp) ?_
                  refine AllReadyL.last rfl (fun K hK => ?_)
                  go_simp
                  refine Calls.mono (KS.out _ _ _ hHeld HT2.out) ?_
                  rintro e wz ⟨rfl, hS3, hst3, hbl3⟩
                  have hstz : StepW bO wr2 wz := (StepW.below hHeld).trans hst3
                  have hblz : Below lo wr2 wz := Below.trans (Below.mono hHeld hlowr) hbl3
                  have S3 := Lib.hid hS3
                  clear hst3 hbl3 hS3 HT2 hHeld
                  go_wp2_with fail
                  refine hK.out _ _ ?_
                  clear hK K
                  refine wpAnyL_done (by kernel_rfl) ?_ _
                  refine NoPanic.normal ?_
                  go_wp2
                  refine bodyPost_end (by simp [results, Tryz.results174, go_sem]) rfl ⟨rfl, ?_, ST2.out.trans hstz, BL2.out.trans hblz⟩
                  rw [HL.out, List.map_append, map_map_app, map_map_app, ← List.append_assoc]
                  exact S3.out
                exact AllReadyL.nil
              exact AllReadyL.nil
            refine AllReadyL.cons rfl (fun K hK => ?_) ?_
            · go_simp
              refine hK.out _ _ bel (fun hHeld => ?_)
              have HLt := Lib.hid (by first | exact lit9_of (show Below _ _ (World.alloc _ (.cells #[.int .i64 1] 2)) from hHeld) hb64 | exact lit9_ofd (show Below _ _ (World.drew (World.alloc _ (.cells #[.int .i64 1] 2))) from hHeld) hb64)
              (try replace HT := Lib.hid (HT.out.al9 (show Below _ _ (World.alloc _ _) from hHeld)))
              clear hK K
              try simp only [pu]
              refine wpAnyL_ready (rs := [3]) (by kernel_rfl) (by simp) ?_
              refine AllReadyL.cons rfl (fun K hK => ?_) ?_
              · go_simp
                refine Calls.mono (KC.out _ hHeld) ?_
                rintro e wn ⟨a3, c3, rfl, hbn, ho, hnl⟩
                have hst : Below wr2.heap.size wr2 wn := below_callS hHeld hbn
                (try replace HLt := Lib.hid (HLt.out.keep hbn))
                have HT := Lib.hid (ho.le (show wr2.heap.size ≤ _ from Below.size hHeld))
                clear ho hbn hnl
                go_wp2_with fail
                refine hK.out _ _ hst (fun hHeld => ?_)
                clear hst
                clear hK K
                try simp only [pu]
                refine wpAnyL_ready (rs := [5]) (by kernel_rfl) (by simp) ?_
                refine AllReadyL.cons rfl (fun K hK => ?_) ?_
                · refine wp_appendL_F (k := 1) (enc := enc1) (ok := I64) _ _ 22 2 rfl Tryz.underlying22 Tryz.infoi64 rfl (by decide) (by decide) enc1_one9 wr2.heap.size _ _ _ _ HT.out.f1 rfl _ _ _ [(1 : Int)] rfl HLt.out.f1.flats (by omega) (by omega) (Below.size hHeld) ?_
                  intro aT2 cT2 wn ho hbB hgB
                  have hst : Below wr2.heap.size wr2 wn := Below.trans hHeld hbB
                  have HT2 := Lib.hid (ho.i1.le hlowr)
                  clear ho hbB hgB HLt HT
                  refine hK.out _ _ hst (fun hHeld => ?_)
                  clear hst
                  clear hK K
                  try simp only [pu]
                  refine wpAnyL_ready (rs := [6]) (by kernel_rfl) (by simp) ?_
                  refine AllReadyL.last rfl (fun K hK => ?_)
                  go_simp
                  refine Calls.mono (KS.out _ _ _ hHeld HT2.out) ?_
                  rintro e wz ⟨rfl, hS3, hst3, hbl3⟩
                  have hstz : StepW bO wr2 wz := (StepW.below hHeld).trans hst3
                  have hblz : Below lo wr2 wz := Below.trans (Below.mono hHeld hlowr) hbl3
                  have S3 := Lib.hid hS3
                  clear hst3 hbl3 hS3 HT2 hHeld
                  go_wp2_with fail
                  refine hK.out _ _ ?_
                  clear hK K
                  refine wpAnyL_done (by kernel_rfl) ?_ _
                  refine NoPanic.normal ?_
                  go_wp2
                  refine bodyPost_end (by simp [results, Tryz.results174, go_sem]) rfl ⟨rfl, ?_, ST2.out.trans hstz, BL2.out.trans hblz⟩
                  rw [HL.out, List.map_append, map_map_app, map_map_app, ← List.append_assoc]
                  exact S3.out
                exact AllReadyL.nil
              exact AllReadyL.nil
            exact AllReadyL.nil
          exact AllReadyL.nil
        exact AllReadyL.nil
      refine AllReadyL.cons rfl (fun K hK => ?_) ?_
      · go_simp
        refine hK.out _ _ bel (fun hHeld => ?_)
        have HLt := Lib.hid (by first | exact lit9_of (show Below _ _ (World.alloc _ (.cells #[.int .i64 0] 2)) from hHeld) hb64 | exact lit9_ofd (show Below _ _ (World.drew (World.alloc _ (.cells #[.int .i64 0] 2))) from hHeld) hb64)
        (try replace HT := Lib.hid (HT.out.al9 (show Below _ _ (World.alloc _ _) from hHeld)))
        clear hK K
        try simp only [pu]
        refine wpAnyL_ready (rs := [3]) (by kernel_rfl) (by simp) ?_
        refine AllReadyL.cons rfl (fun K hK => ?_) ?_
        · go_simp
          refine Calls.mono (KC.out _ hHeld) ?_
          rintro e wn ⟨a3, c3, rfl, hbn, ho, hnl⟩
          have hst : Below wr.heap.size wr wn := below_callS hHeld hbn
          (try replace HLt := Lib.hid (HLt.out.keep hbn))
          have HT := Lib.hid (ho.le (show wr.heap.size ≤ _ from Below.size hHeld))
          clear ho hbn hnl
          go_wp2_with fail
          refine hK.out _ _ hst (fun hHeld => ?_)
          clear hst
          clear hK K
          try simp only [pu]
          refine wpAnyL_ready (rs := [5]) (by kernel_rfl) (by simp) ?_
          refine AllReadyL.cons rfl (fun K hK => ?_) ?_
          · refine wp_appendL_F (k := 1) (enc := enc1) (ok := I64) _ _ 22 2 rfl Tryz.underlying22 Tryz.infoi64 rfl (by decide) (by decide) enc1_one9 wr.heap.size _ _ _ _ HT.out.f1 rfl _ _ _ [(0 : Int)] rfl HLt.out.f1.flats (by omega) (by omega) (Below.size hHeld) ?_
            intro aT2 cT2 wn ho hbB hgB
            have hst : Below wr.heap.size wr wn := Below.trans hHeld hbB
            have HT2 := Lib.hid (ho.i1.le hlowr)
            clear ho hbB hgB HLt HT
            refine hK.out _ _ hst (fun hHeld => ?_)
            clear hst
            clear hK K
            try simp only [pu]
            refine wpAnyL_ready (rs := [6]) (by kernel_rfl) (by simp) ?_
            refine AllReadyL.last rfl (fun K hK => ?_)
            go_simp
            refine Calls.mono (KS.out _ _ _ hHeld HT2.out) ?_
            rintro e wz ⟨rfl, hS3, hst3, hbl3⟩
            have hstz : StepW bO wr wz := (StepW.below hHeld).trans hst3
            have hblz : Below lo wr wz := Below.trans (Below.mono hHeld hlowr) hbl3
            have S3 := Lib.hid hS3
            clear hst3 hbl3 hS3 HT2 hHeld
            go_wp2_with fail
            refine hK.out _ _ ?_
            clear hK K
            refine wpAnyL_done (by kernel_rfl) ?_ _
            refine NoPanic.normal ?_
            have HC2 := Lib.hid (HO.out.keepS HBx.out (by decide) hstz)
            have ST2 := Lib.hid (STa.out.trans hstz)
            have BL2 := Lib.hid (BLa.out.trans hblz)
            clear hstz hblz KC KS v0 vl hlowr
            obtain ⟨wr2, hwr2⟩ : ∃ W, W = wz := ⟨_, rfl⟩
            rw [← hwr2] at S3 HC2 ST2 BL2 ⊢
            clear hwr2
            clear S0 STa BLa HO HBx
            have hlowr := S3.out.low
            have v0 := S3.out.v.cell 0
            have vl := S3.out.v.lt
            simp only [List.getElem?_toArray, List.getElem?_cons_zero] at v0
            have KC := Lib.hid (fun (wx : World) (h : Below wr2.heap.size wr2 wx) => slices_Clone_i64 (HC2.out.ints.keep h) (by omega))
            have KS := Lib.hid (fun (wx : World) (a' : Option Addr) (c' : Nat) (h : Below wr2.heap.size wr2 wx) (o : OwnI 2 wx lo a' (m + 1) c' (c ++ [1])) => ih (m + 1) (chN (n : Int) N r (m : Int)).2 (c ++ [1]) _ a' c' wx (S3.out.keep h) o (by simp; omega) (by omega) CH.out.2.1 (by have := CH.out.2.2.2.1; omega) (by rw [List.length_append, List.length_map]; have := LN.out; omega))
            have hb64 : I64 (1 : Int) := by unfold I64; omega
            go_wp2_with fail
            refine wp_region_noPanic ?_
            refine wp_region_L (L := 6) (S := fun wx => Below wr2.heap.size wr2 wx) (by kernel_rfl) ?_ (fun hHeld => ?_)
            · exact (Below.refl _ _).drew
            refine wpAnyL_take (i := 0) (v := ?_) (by simp only [List.getElem?_toArray, List.getElem?_cons_succ, List.getElem?_cons_zero] <;> rfl) (by kernel_rfl) (by decide) (by kernel_rfl) (by kernel_rfl) (by kernel_rfl) (by kernel_rfl) (fun _ _ _ h => h) (Or.inl ⟨by rfl, ?_⟩) (by assumption) ?_
            rotate_left
            · (intro wv hSw; (try dsimp only at hSw); obtain ⟨hcq, _⟩ := bcell hSw; have hsq := Below.size hSw; have p0 := (hcq _ _ vl).trans v0; have pl := Nat.lt_of_lt_of_le vl hsq; go_simp; try with_reducible rfl)
            try simp only [pu]
            refine wpAnyL_take (i := 1) (v := ?_) (by simp only [List.getElem?_toArray, List.getElem?_cons_succ, List.getElem?_cons_zero] <;> rfl) (by kernel_rfl) (by decide) (by kernel_rfl) (by kernel_rfl) (by kernel_rfl) (by kernel_rfl) (fun _ _ _ h => h) (Or.inl ⟨by rfl, ?_⟩) (by assumption) ?_
            rotate_left
            · (intro wv hSw; (try dsimp only at hSw); obtain ⟨hcq, _⟩ := bcell hSw; have hsq := Below.size hSw; go_simp; try with_reducible rfl)
            try simp only [pu]
            refine wpAnyL_take (i := 2) (v := ?_) (by simp only [List.getElem?_toArray, List.getElem?_cons_succ, List.getElem?_cons_zero] <;> rfl) (by kernel_rfl) (by decide) (by kernel_rfl) (by kernel_rfl) (by kernel_rfl) (by kernel_rfl) (fun _ _ _ h => h) (Or.inl ⟨by rfl, ?_⟩) (by assumption) ?_
            rotate_left
            · (intro wv hSw; (try dsimp only at hSw); obtain ⟨hcq, _⟩ := bcell hSw; have hsq := Below.size hSw; go_simp; try with_reducible rfl)
            try simp only [pu]
            refine wpAnyL_ready (rs := [3, 4]) (by kernel_rfl) (by simp) ?_
            refine AllReadyL.cons rfl (fun K hK => ?_) ?_
            · go_simp
              refine Calls.mono (KC.out _ hHeld) ?_
              rintro e wn ⟨a3, c3, rfl, hbn, ho, hnl⟩
              have hst : Below wr2.heap.size wr2 wn := below_callS hHeld hbn
              (try replace HLt := Lib.hid (HLt.out.keep hbn))
              have HT := Lib.hid (ho.le (show wr2.heap.size ≤ _ from Below.size hHeld))
              clear ho hbn hnl
              go_wp2_with fail
              refine hK.out _ _ hst (fun hHeld => ?_)
              clear hst
              clear hK K
              try simp only [pu]
              refine wpAnyL_ready (rs := [4]) (by kernel_rfl) (by simp) ?_
              refine AllReadyL.cons rfl (fun K hK => ?_) ?_
              · go_simp
                refine hK.out _ _ bel (fun hHeld => ?_)
                have HLt := Lib.hid (by first | exact lit9_of (show Below _ _ (World.alloc _ (.cells #[.int .i64 1] 2)) from hHeld) hb64 | exact lit9_ofd (show Below _ _ (World.drew (World.alloc _ (.cells #[.int .i64 1] 2))) from hHeld) hb64)
                (try replace HT := Lib.hid (HT.out.al9 (show Below _ _ (World.alloc _ _) from hHeld)))
                clear hK K
                try simp only [pu]
                refine wpAnyL_ready (rs := [5]) (by kernel_rfl) (by simp) ?_
                refine AllReadyL.cons rfl (fun K hK => ?_) ?_
                · refine wp_appendL_F (k := 1) (enc := enc1) (ok := I64) _ _ 22 2 rfl Tryz.underlying22 Tryz.infoi64 rfl (by decide) (by decide) enc1_one9 wr2.heap.size _ _ _ _ HT.out.f1 rfl _ _ _ [(1 : Int)] rfl HLt.out.f1.flats (by omega) (by omega) (Below.size hHeld) ?_
                  intro aT2 cT2 wn ho hbB hgB
                  have hst : Below wr2.heap.size wr2 wn := Below.trans hHeld hbB
                  have HT2 := Lib.hid (ho.i1.le hlowr)
                  clear ho hbB hgB HLt HT
                  refine hK.out _ _ hst (fun hHeld => ?_)
                  clear hst
                  clear hK K
                  try simp only [pu]
                  refine wpAnyL_ready (rs := [6]) (by kernel_rfl) (by simp) ?_
                  refine AllReadyL.last rfl (fun K hK => ?_)
                  go_simp
                  refine Calls.mono (KS.out _ _ _ hHeld HT2.out) ?_
                  rintro e wz ⟨rfl, hS3, hst3, hbl3⟩
                  have hstz : StepW bO wr2 wz := (StepW.below hHeld).trans hst3
                  have hblz : Below lo wr2 wz := Below.trans (Below.mono hHeld hlowr) hbl3
                  have S3 := Lib.hid hS3
                  clear hst3 hbl3 hS3 HT2 hHeld
                  go_wp2_with fail
                  refine hK.out _ _ ?_
                  clear hK K
                  refine wpAnyL_done (by kernel_rfl) ?_ _
                  refine NoPanic.normal ?_
                  go_wp2
                  refine bodyPost_end (by simp [results, Tryz.results174, go_sem]) rfl ⟨rfl, ?_, ST2.out.trans hstz, BL2.out.trans hblz⟩
                  rw [HL.out, List.map_append, map_map_app, map_map_app, ← List.append_assoc]
                  exact S3.out
                exact AllReadyL.nil
              exact AllReadyL.nil
            refine AllReadyL.cons rfl (fun K hK => ?_) ?_
            · go_simp
              refine hK.out _ _ bel (fun hHeld => ?_)
              have HLt := Lib.hid (by first | exact lit9_of (show Below _ _ (World.alloc _ (.cells #[.int .i64 1] 2)) from hHeld) hb64 | exact lit9_ofd (show Below _ _ (World.drew (World.alloc _ (.cells #[.int .i64 1] 2))) from hHeld) hb64)
              (try replace HT := Lib.hid (HT.out.al9 (show Below _ _ (World.alloc _ _) from hHeld)))
              clear hK K
              try simp only [pu]
              refine wpAnyL_ready (rs := [3]) (by kernel_rfl) (by simp) ?_
              refine AllReadyL.cons rfl (fun K hK => ?_) ?_
              · go_simp
                refine Calls.mono (KC.out _ hHeld) ?_
                rintro e wn ⟨a3, c3, rfl, hbn, ho, hnl⟩
                have hst : Below wr2.heap.size wr2 wn := below_callS hHeld hbn
                (try replace HLt := Lib.hid (HLt.out.keep hbn))
                have HT := Lib.hid (ho.le (show wr2.heap.size ≤ _ from Below.size hHeld))
                clear ho hbn hnl
                go_wp2_with fail
                refine hK.out _ _ hst (fun hHeld => ?_)
                clear hst
                clear hK K
                try simp only [pu]
                refine wpAnyL_ready (rs := [5]) (by kernel_rfl) (by simp) ?_
                refine AllReadyL.cons rfl (fun K hK => ?_) ?_
                · refine wp_appendL_F (k := 1) (enc := enc1) (ok := I64) _ _ 22 2 rfl Tryz.underlying22 Tryz.infoi64 rfl (by decide) (by decide) enc1_one9 wr2.heap.size _ _ _ _ HT.out.f1 rfl _ _ _ [(1 : Int)] rfl HLt.out.f1.flats (by omega) (by omega) (Below.size hHeld) ?_
                  intro aT2 cT2 wn ho hbB hgB
                  have hst : Below wr2.heap.size wr2 wn := Below.trans hHeld hbB
                  have HT2 := Lib.hid (ho.i1.le hlowr)
                  clear ho hbB hgB HLt HT
                  refine hK.out _ _ hst (fun hHeld => ?_)
                  clear hst
                  clear hK K
                  try simp only [pu]
                  refine wpAnyL_ready (rs := [6]) (by kernel_rfl) (by simp) ?_
                  refine AllReadyL.last rfl (fun K hK => ?_)
                  go_simp
                  refine Calls.mono (KS.out _ _ _ hHeld HT2.out) ?_
                  rintro e wz ⟨rfl, hS3, hst3, hbl3⟩
                  have hstz : StepW bO wr2 wz := (StepW.below hHeld).trans hst3
                  have hblz : Below lo wr2 wz := Below.trans (Below.mono hHeld hlowr) hbl3
                  have S3 := Lib.hid hS3
                  clear hst3 hbl3 hS3 HT2 hHeld
                  go_wp2_with fail
                  refine hK.out _ _ ?_
                  clear hK K
                  refine wpAnyL_done (by kernel_rfl) ?_ _
                  refine NoPanic.normal ?_
                  go_wp2
                  refine bodyPost_end (by simp [results, Tryz.results174, go_sem]) rfl ⟨rfl, ?_, ST2.out.trans hstz, BL2.out.trans hblz⟩
                  rw [HL.out, List.map_append, map_map_app, map_map_app, ← List.append_assoc]
                  exact S3.out
                exact AllReadyL.nil
              exact AllReadyL.nil
            exact AllReadyL.nil
          exact AllReadyL.nil
        exact AllReadyL.nil
      exact AllReadyL.nil
set_option maxRecDepth 100000 in
set_option maxHeartbeats 4000000 in
theorem impl_lists {n : Nat} {aN : Option Addr} {cN : Nat} {N : List I3} {root : Int} {w : World} (hI : F3 w aN N.length cN N) (hS : Snd (n : Int) N) (hn20 : n ≤ 20) (hN : N.length ≤ 4190000) (hr : RefB root N.length) (hlen : (lsN (n : Int) N n root).length ≤ 4194304) :
    Calls Tryz.prog 110 #[.agg #[.int .i64 (n : Int), .slice aN N.length cN, .int .i64 root]] w fun e w' => ∃ a q c l, e = .returned (.slice a q c) ∧ SRow w' w.heap.size w.heap.size a q c l ∧ l.map (·.2) = lsN (n : Int) N n root ∧ Below w.heap.size w w' := by
  obtain ⟨lo, hlo⟩ : ∃ lo, lo = w.heap.size := ⟨_, rfl⟩
  obtain ⟨w0, hw0⟩ : ∃ w0, w0 = w.alloc (.cells #[.int .i64 (n : Int), .slice aN N.length cN, .int .i64 root] 40) := ⟨_, rfl⟩
  obtain ⟨w1, hw1⟩ : ∃ w1, w1 = w0.alloc (.cells #[.slice none 0 0] 31) := ⟨_, rfl⟩
  obtain ⟨w2, hw2⟩ : ∃ w2, w2 = w1.alloc (.cells #[lFun lo (lo + 1) (lo + 1 + 1)] 215) := ⟨_, rfl⟩
  have hs0 : w0.heap.size = lo + 1 := by rw [hw0]; simp [hlo]
  have hs1 : w1.heap.size = lo + 1 + 1 := by rw [hw1]; simp [hs0]
  have hb0 : Below w.heap.size w w0 := by rw [hw0]; exact below_alloc1 (Below.refl _ _) _
  have hb1 : Below w0.heap.size w0 w1 := by rw [hw1]; exact below_alloc1 (Below.refl _ _) _
  have hb2 : Below w1.heap.size w1 w2 := by rw [hw2]; exact below_alloc1 (Below.refl _ _) _
  have hb12 := below_callS hb1 hb2
  have hb02 := below_callS hb0 hb12
  have hlies := hI.lies
  have HLW := Lib.hid (show LsW w2 lo lo (lo + 1) (lo + 1 + 1) n aN cN N root [] from
    ⟨(show Blk w0 lo #[.int .i64 (n : Int), .slice aN N.length cN, .int .i64 root] 40 by rw [hw0, hlo]; exact Blk.made _ _ _).keep hb12, by rw [hw2, ← hs1]; exact Blk.made _ _ _, ⟨none, 0, 0, [], (show Blk w1 (lo + 1) #[.slice none 0 0] 31 by rw [hw1, ← hs0]; exact Blk.made _ _ _).keep hb2, SRow.nil _ _ _, rfl⟩, hI.keep hb02, by rw [hlo]; exact hlies, by omega, by have := hb02.size; omega⟩)
  have KL := Lib.hid (impl_lists_1 hS hn20 hN n 0 root [] [] none 0 w2 HLW.out (OwnF.i1 ⟨World.ownsRow_nil _ _ _ 1, (fun _ h => by cases h), rfl, fun _ => rfl⟩) rfl (by omega) hr (by have := hr.1; exact lvl_pos hS.ord (by omega) hr) (by simpa using hlen))
  have HB := Lib.hid hb02
  have d2 := HLW.out.d.cell 2
  have dl := HLW.out.d.lt
  have v0 := HLW.out.v.cell 0
  have vl := HLW.out.v.lt
  simp only [List.getElem?_toArray, List.getElem?_cons_zero, List.getElem?_cons_succ] at d2 v0
  clear hI hS hr hlen hb0 hb1 hb2 hb12 hb02 hlies hs0 hs1
  subst hw2 hw1 hw0 hlo
  have hmf : ∀ (fn : Fn) (first cap : Array Value) (w : World), (Instr.makeFunc fn first cap).run Tryz.prog w = .ok (.func fn first cap) w := fun _ _ _ _ => rfl
  go_enter Tryz.func110, Tryz.ntmps110
  go_wp2_with fail
  refine Calls.mono KL.out ?_
  rintro e w5 ⟨rfl, hS5, hst5, hb5⟩
  have HS5 := Lib.hid hS5
  have HB5 := Lib.hid (HB.out.trans hb5)
  clear hS5 hst5 hb5 HLW KL d2 dl v0 vl
  obtain ⟨a, q, c, l, hB, hRow, hmap⟩ := HS5.out.o
  have o0 := hB.cell 0
  have ol := hB.lt
  simp at o0
  go_wp2
  go_ret
  exact ⟨a, q, c, l, rfl, hRow, by rw [hmap]; simp, HB5.out⟩
end Go.Proofs.YtkaikbaagajckaaGreat
