/- The diagram of states: the reference, walked.; ReachDiagram: the reference, walked. (Its text is cut out of the program's walk, Zl.); What the search keeps from step to step.; The search through the states of a model: the program, walked.; Comparing and sorting states: the library's functions, walked. -/
import Derived.Test.YtkaikbaagajckaaGreatR20
import Derived.Test.YtkaikbaagajckaaGreatR15
import Derived.Test.YtkaikbaagajckaaGreatR17
import Derived.Test.YtkaikbaagajckaaGreatR11
import Derived.BigQuiet
namespace Go.Proofs.YtkaikbaagajckaaGreat
open Go.RowKit
set_option linter.unusedVariables false
set_option linter.unusedSimpArgs false
attribute [local go_sem ↓] Go.wp_at_zero Go.wp_at_succ
/-- a list of states that are read -/
def StsF (w : World) (sz : List Int) (a : Option Addr) (n c : Nat) (ls : List (QM × List Int)) : Prop :=
  Flats 1 encS (fun x => Ints w x.1.a x.1.n x.1.c x.2 ∧ stateB sz x.2 = true) w a n c ls
theorem StsF.keep {w w' : World} {sz : List Int} {a : Option Addr} {n c : Nat} {ls : List (QM × List Int)} (h : StsF w sz a n c ls) (hb : Below w.heap.size w w') : StsF w' sz a n c ls := by
  have h1 := Flats.keep h hb
  exact ⟨h1.len, h1.cap, h1.pos, fun x hx => ⟨(h.wf x hx).1.keep hb, (h.wf x hx).2⟩, h1.nil⟩
theorem StsF.get {w : World} {sz : List Int} {a : Option Addr} {n c : Nat} {ls : List (QM × List Int)} (h : StsF w sz a n c ls) {i : Nat} (hi : i < n) :
    ∃ b off R v, a = some ⟨b, off, none⟩ ∧ b < w.heap.size ∧ ls[i]? = some (R, v) ∧ Ints w R.a R.n R.c v ∧ stateB sz v = true ∧ w.cell? ⟨b, off + i, none⟩ = some (.slice R.a R.n R.c) := by
  obtain ⟨b, off, x, h1, h2, h3, h4, h5⟩ := Flats.at h hi
  have := h5 0 _ rfl
  rw [Nat.mul_one] at this
  exact ⟨b, off, x.1, x.2, h1, h2, h3, h4.1, h4.2, by simpa using this⟩
set_option maxRecDepth 100000 in
set_option maxHeartbeats 8000000 in
theorem spec_l23Diagram {sa ta ra a : Option Addr} {sn sc tn tc rn rc n c : Nat} {sz : List Int} {ls : List (QM × List Int)} {w : World} (hI : Ints w sa sn sc sz) (hn : sn ≤ 16) (hs : allIn 1 32 sz = true) (hsm : smB sz = true) (hK : StsF w sz a n c ls) (hn' : n ≤ 1048576) :
    Calls Tryz.prog 64 #[.agg #[.slice sa sn sc, .slice ta tn tc, .slice ra rn rc], .slice a n c] w (DgR w (sdgN sz (ls.map (·.2)))) := by
  obtain rfl : sz.length = sn := hI.len
  have hsum := (off_sum hs hn).1
  have hofl := sm_off hs hsm
  have HI := Lib.hid hI
  have HK := Lib.hid hK
  have HS := Lib.hid hs
  have hln := Flats.len hK
  have KB := Lib.hid (fun (R : QM) (v : List Int) (wx : World) (hb : Below w.heap.size w wx) (hv : Ints wx R.a R.n R.c v) (hst : stateB sz v = true) => spec_l23Bits (ta := ta) (tn := tn) (tc := tc) (ra := ra) (rn := rn) (rc := rc) (hI.keep hb) hv hn hs hst)
  have KT := fun (wx : World) (hb : Below w.heap.size w wx) => spec_l23Total (ta := ta) (tn := tn) (tc := tc) (ra := ra) (rn := rn) (rc := rc) (hI.keep hb) (by omega) hs
  rw [hsum] at KT
  have KT := Lib.hid KT
  obtain ⟨w1, hw1⟩ : ∃ w1, w1 = (w.alloc (.cells #[.slice sa sz.length sc, .slice ta tn tc, .slice ra rn rc] 36)).alloc (.cells #[.int .i64 0, .slice none 0 0, .int .i64 0] 40) := ⟨_, rfl⟩
  have hbA : Below w.heap.size w w1 := by rw [hw1]; exact below_alloc1 (below_alloc1 (Below.refl _ _) _) _
  have hsA : w1.heap.size = w.heap.size + 1 + 1 := by rw [hw1]; simp
  have XA := Lib.hid (show Blk w1 w.heap.size #[.slice sa sz.length sc, .slice ta tn tc, .slice ra rn rc] 36 by rw [hw1]; exact (Blk.made _ _ _).keep (below_alloc1 (Below.refl _ _) _))
  have RA := Lib.hid (show Blk w1 (w.heap.size + 1) #[.int .i64 0, .slice none 0 0, .int .i64 0] 40 by rw [hw1]; exact Blk.made1 _ _ _ _)
  obtain ⟨W, hW⟩ : ∃ W, W = w1.alloc (.cells #[] 22) := ⟨_, rfl⟩
  have hbW1 : Below w1.heap.size w1 W := by rw [hW]; exact below_alloc1 (Below.refl _ _) _
  have hbW := below_callS hbA hbW1
  have X0 := Lib.hid (XA.out.keep hbW1)
  have R0 := Lib.hid (RA.out.keep hbW1)
  have S0 := Lib.hid (show SRow W w1.heap.size w.heap.size (some ⟨w.heap.size + 1 + 1, 0, none⟩) 0 0 [] by rw [hW, ← hsA]; exact SRow.e1)
  have HBW := Lib.hid hbW
  have hsW := hbW.size
  have hsW1 := hbW1.size
  clear hI hs hsm hK hsum XA RA hbA hbW hbW1
  go_enter Tryz.func64, Tryz.ntmps64
  go_wp2_with fail
  rw [← hw1, ← hW]
  clear hw1 hW
  go_loopw [6, 7] (fun s6 s7 wr => ∃ (j cd : Nat) (ad : Option Addr) (ld : List (QM × List Int)), s6 = .slice ad j cd ∧ s7 = .int .i64 j ∧ j ≤ n ∧ W.heap.size ≤ wr.heap.size ∧ Hid (Below w.heap.size w wr) ∧ Hid (Blk wr w.heap.size #[.slice sa sz.length sc, .slice ta tn tc, .slice ra rn rc] 36) ∧ Hid (Blk wr (w.heap.size + 1) #[.int .i64 0, .slice none 0 0, .int .i64 0] 40) ∧ Hid (SRow wr w1.heap.size w.heap.size ad j cd ld) ∧ Hid (ld.map (·.2) = (ls.take j).map fun x => stBits sz x.2)) (fun _ s7 _ => n - (intOf s7).toNat)
  case atStart => exact ⟨0, 0, _, [], rfl, rfl, by omega, Nat.le_refl _, HBW, X0, R0, S0, Lib.hid (by simp)⟩
  case round =>
    clear HBW X0 R0 S0
    obtain ⟨j, cd, ad, ld, rfl, rfl, hj, hsr, HB, X, R, SD, A⟩ := hrel
    by_cases hlt : j < n
    · have hlt' : (j : Int) < (n : Int) := by omega
      have hj0 : (0 : Int) ≤ (j : Int) := by omega
      obtain ⟨b, off, Q, v, rfl, hb, hx, hv, hst, hc⟩ := (HK.out.keep HB.out).get hlt
      have HA := Lib.hid (show ∀ q : QM, (ld ++ [(q, stBits sz v)]).map (·.2) = (ls.take (j + 1)).map fun x => stBits sz x.2 from fun q => by rw [List.map_append, A.out, take_at hx, List.map_append]; rfl)
      have HV := Lib.hid hv
      have HST := Lib.hid hst
      have x0 := X.out.cell 0
      have x1 := X.out.cell 1
      have x2 := X.out.cell 2
      have xl := X.out.lt
      simp only [List.getElem?_toArray, List.getElem?_cons_zero, List.getElem?_cons_succ] at x0 x1 x2
      clear hx hv hst A
      go_wp2_with fail
      refine wp_region_noPanic ?_
      refine wp_region_M (L := 8) (S := (fun wx => Below wr.heap.size wr wx)) (by kernel_rfl) ?_ (fun hHeld => ?_)
      · exact (Below.refl _ _).drew
      refine tkM0 0 (v := ?_) ?_ ?_
      rotate_left
      · (intro wv hSw; (try dsimp only at hSw); obtain ⟨hcq, _⟩ := bcell hSw; have hsq := Below.size hSw; have q0 := (hcq _ _ xl).trans x0; have q1 := (hcq _ _ xl).trans x1; have q2 := (hcq _ _ xl).trans x2; have ql := Nat.lt_of_lt_of_le xl hsq; have r0 := (hcq _ _ hb).trans hc; have rl := Nat.lt_of_lt_of_le hb hsq; go_simp; try with_reducible rfl)
      try simp only [Act.put, s1, s2, s3]
      refine tkM0 1 (v := ?_) ?_ ?_
      rotate_left
      · (intro wv hSw; (try dsimp only at hSw); obtain ⟨hcq, _⟩ := bcell hSw; have hsq := Below.size hSw; have q0 := (hcq _ _ xl).trans x0; have q1 := (hcq _ _ xl).trans x1; have q2 := (hcq _ _ xl).trans x2; have ql := Nat.lt_of_lt_of_le xl hsq; have r0 := (hcq _ _ hb).trans hc; have rl := Nat.lt_of_lt_of_le hb hsq; go_simp; try with_reducible rfl)
      try simp only [Act.put, s1, s2, s3]
      refine tkM0 2 (v := ?_) ?_ ?_
      rotate_left
      · (intro wv hSw; (try dsimp only at hSw); obtain ⟨hcq, _⟩ := bcell hSw; have hsq := Below.size hSw; have q0 := (hcq _ _ xl).trans x0; have q1 := (hcq _ _ xl).trans x1; have q2 := (hcq _ _ xl).trans x2; have ql := Nat.lt_of_lt_of_le xl hsq; have r0 := (hcq _ _ hb).trans hc; have rl := Nat.lt_of_lt_of_le hb hsq; go_simp; try with_reducible rfl)
      try simp only [Act.put, s1, s2, s3]
      refine tkM0 3 (v := ?_) ?_ ?_
      rotate_left
      · (intro wv hSw; (try dsimp only at hSw); obtain ⟨hcq, _⟩ := bcell hSw; have hsq := Below.size hSw; have q0 := (hcq _ _ xl).trans x0; have q1 := (hcq _ _ xl).trans x1; have q2 := (hcq _ _ xl).trans x2; have ql := Nat.lt_of_lt_of_le xl hsq; have r0 := (hcq _ _ hb).trans hc; have rl := Nat.lt_of_lt_of_le hb hsq; go_simp; try with_reducible rfl)
      try simp only [Act.put, s1, s2, s3]
      refine tkM0 4 (v := ?_) ?_ ?_
      rotate_left
      · (intro wv hSw; (try dsimp only at hSw); obtain ⟨hcq, _⟩ := bcell hSw; have hsq := Below.size hSw; have q0 := (hcq _ _ xl).trans x0; have q1 := (hcq _ _ xl).trans x1; have q2 := (hcq _ _ xl).trans x2; have ql := Nat.lt_of_lt_of_le xl hsq; have r0 := (hcq _ _ hb).trans hc; have rl := Nat.lt_of_lt_of_le hb hsq; go_simp; try with_reducible rfl)
      try simp only [Act.put, s1, s2, s3]
      refine tkM0 5 (v := ?_) ?_ ?_
      rotate_left
      · (intro wv hSw; (try dsimp only at hSw); obtain ⟨hcq, _⟩ := bcell hSw; have hsq := Below.size hSw; have q0 := (hcq _ _ xl).trans x0; have q1 := (hcq _ _ xl).trans x1; have q2 := (hcq _ _ xl).trans x2; have ql := Nat.lt_of_lt_of_le xl hsq; have r0 := (hcq _ _ hb).trans hc; have rl := Nat.lt_of_lt_of_le hb hsq; go_simp; try with_reducible rfl)
      try simp only [Act.put, s1, s2, s3]
      refine wpAnyM_ready (rs := [6]) (by kernel_rfl) (by simp) ?_
      refine AllReadyM.cons rfl (fun K hK => ?_) AllReadyM.nil
      go_simp
      refine Calls.mono (KB.out Q v _ (below_call HB.out hHeld HB.out.size) (HV.out.keep hHeld) HST.out) ?_
      rintro e w6 ⟨m6, a6, c6, rfl, hb6, ho6, hm6⟩
      have hb6' := below_callS hHeld hb6
      have O6 := Lib.hid (ho6.le (show w.heap.size ≤ _ by have := Below.size hHeld; omega))
      clear ho6 hb6 x0 x1 x2 xl hb hc
      go_wp2_with fail
      refine hK.out _ _ hb6' (fun hHeld => ?_)
      clear hK K
      try simp only [Act.put, s1, s2, s3]
      refine wpAnyM_ready (rs := [7]) (by kernel_rfl) (by simp) ?_
      refine AllReadyM.cons rfl (fun K hK => ?_) AllReadyM.nil
      go_simp
      have hb7 : Below w6.heap.size w6 (w6.alloc (.cells #[.slice a6 m6 c6] 22)) := below_alloc1 (Below.refl _ _) _
      have hb7' := below_callS hb6' hb7
      have O7 := Lib.hid (O6.out.keep hb7)
      refine hK.out _ _ hb7' (fun hHeld => ?_)
      clear hK K
      try simp only [Act.put, s1, s2, s3]
      have S7 := Lib.hid (SD.out.keep hb7')
      have X7 := Lib.hid (X.out.keep hb7')
      have R7 := Lib.hid (R.out.keep hb7')
      have HB7 := Lib.hid (below_call HB.out hb7' HB.out.size)
      have hs7 := hb7'.size
      refine wpAnyM_ready (rs := [8]) (by kernel_rfl) (by simp) ?_
      refine AllReadyM.last rfl (fun K hK => ?_)
      refine wp_appSL _ _ rfl w1.heap.size w.heap.size _ _ _ _ S7.out rfl _ _ _ [(⟨a6, m6, c6⟩, stBits sz v)] rfl Flats.lit1 (fun y hy => by simp at hy; rw [hy]; exact O7.out) (by omega) (by omega) (by omega) ?_
      intro a8 c8 w8 hS8 hb8 ht8
      have S8 := Lib.hid hS8
      have X8 := Lib.hid (X7.out.keepA ht8 (blk_ne X7.out (fun {g} e => S7.out.row.typ e) (by decide)))
      have R8 := Lib.hid (R7.out.keepA ht8 (blk_ne R7.out (fun {g} e => S7.out.row.typ e) (by decide)))
      have HB8 := Lib.hid (HB7.out.trans (hb8.mono (by omega)))
      have hs8 := hb8.size
      clear hS8 hb8 ht8 hb6' hb7 hb7' O6 O7 S7 X7 R7 HB7 X R SD HB hHeld
      refine hK.out _ _ ?_
      clear hK K
      try simp only [Act.put, s1, s2, s3]
      refine wpAnyM_ready (rs := [9]) (by kernel_rfl) (by simp) ?_
      refine AllReadyM.then (by kernel_rfl) rfl (fun K hK => ?_)
      go_simp
      refine hK.out _ _ ?_
      clear hK K
      try simp only [Act.put, s1, s2, s3]
      refine wpAnyM_done (by kernel_rfl) ?_ _
      refine NoPanic.normal ?_
      go_wp2
      go_roundw
      case rel => exact ⟨j + 1, c8, a8, _, by go_num, by go_num, by omega, by omega, HB8, X8, R8, S8, Lib.hid (HA.out _)⟩
      case measure => simp [intOf]; omega
    · have hlt' : ¬ (j : Int) < (n : Int) := by omega
      obtain rfl : n = j := by omega
      have hA := A.out
      rw [List.take_of_length_le (by rw [hln]; exact Nat.le_refl _)] at hA
      have hAm : ld.map (·.2) = (ls.map (·.2)).map (stBits sz) := by rw [hA, List.map_map]; rfl
      have hld : ∀ x ∈ ld, x.2.length = offN sz sz.length ∧ ∀ z ∈ x.2, z = 0 ∨ z = 1 := fun x hx => by
        have h1 : x.2 ∈ ld.map (·.2) := List.mem_map_of_mem hx
        rw [hA] at h1
        obtain ⟨y, hy, e⟩ := List.mem_map.1 h1
        have h2 := stv_of HS.out (HK.out.wf y hy).2
        rw [← e]
        exact ⟨stb_len h2, stb_01 h2⟩
      have HAM := Lib.hid hAm
      have HLD := Lib.hid hld
      obtain ⟨i1, i2, _, _⟩ := st_inv (n := offN sz sz.length) (offN sz sz.length) 0 ((ls.map (·.2)).map (stBits sz)) [] (Snd.nil _) (by omega)
      have i3 := (st_ref (offN sz sz.length) 0 ((ls.map (·.2)).map (stBits sz)) []).2.2
      have h20 : 2 ^ offN sz sz.length ≤ 1048576 := Nat.le_trans (Nat.pow_le_pow_right (by decide) hofl) (by decide)
      have hsd : sdgN sz (ls.map (·.2)) = lmC (offN sz sz.length : Int) (canN mkN (stN (offN sz sz.length) 0 ((ls.map (·.2)).map (stBits sz)) []).1 (stN (offN sz sz.length) 0 ((ls.map (·.2)).map (stBits sz)) []).2).1 (canN mkN (stN (offN sz sz.length) 0 ((ls.map (·.2)).map (stBits sz)) []).1 (stN (offN sz sz.length) 0 ((ls.map (·.2)).map (stBits sz)) []).2).2 := rfl
      obtain ⟨⟨P1, P2⟩, hP⟩ : ∃ x, stN (offN sz sz.length) 0 ((ls.map (·.2)).map (stBits sz)) [] = x := ⟨_, rfl⟩
      rw [hP] at i1 i2 i3 hsd
      simp only at i1 i2 i3 hsd
      have hcl := can_length i1.redu i2
      obtain ⟨⟨C1, C2⟩, hC⟩ : ∃ x, canN mkN P1 P2 = x := ⟨_, rfl⟩
      rw [hC] at hsd hcl
      simp only at hsd hcl
      have HFR := Lib.hid i1.redu.frst
      have HP := Lib.hid hP
      have HC := Lib.hid hC
      have HSD := Lib.hid hsd
      simp only [List.length_nil, Nat.zero_add] at i3
      clear hP hC hsd
      clear hA hAm hld A i1
      have x0 := X.out.cell 0
      have x1 := X.out.cell 1
      have x2 := X.out.cell 2
      have xl := X.out.lt
      simp only [List.getElem?_toArray, List.getElem?_cons_zero, List.getElem?_cons_succ] at x0 x1 x2
      go_wp2_with fail
      obtain ⟨W4, hW4⟩ : ∃ W, W = wr.alloc (.cells #[.slice none 0 0] 110) := ⟨_, rfl⟩
      have hbW4 : Below wr.heap.size wr W4 := by rw [hW4]; exact below_alloc1 (Below.refl _ _) _
      have B4 := Lib.hid (show BldA W4 wr.heap.size wr.heap.size none 0 [] by rw [hW4]; exact ⟨Blk.made _ _ _, ⟨World.ownsRow_nil _ _ _ 3, (fun _ h => by cases h), rfl, fun _ => rfl⟩, Nat.le_refl _⟩)
      have X4 := Lib.hid (X.out.keep hbW4)
      have R4 := Lib.hid (R.out.keep hbW4)
      have A4 := Lib.hid (SD.out.lsA.keep hbW4)
      have HB4 := Lib.hid (below_call HB.out hbW4 HB.out.size)
      have hs4 := hbW4.size
      have hxr : w.heap.size + 1 < wr.heap.size := R.out.lt
      rw [← hW4]
      clear hW4 hbW4 x0 x1 x2 xl X R SD HB
      have x0 := X4.out.cell 0
      have x1 := X4.out.cell 1
      have x2 := X4.out.cell 2
      have xl := X4.out.lt
      simp only [List.getElem?_toArray, List.getElem?_cons_zero, List.getElem?_cons_succ] at x0 x1 x2
      refine Calls.mono (KT.out _ HB4.out) ?_
      rintro e w5 ⟨rfl, hb5⟩
      have X5 := Lib.hid (X4.out.keep hb5)
      have R5 := Lib.hid (R4.out.keep hb5)
      have B5 := Lib.hid (B4.out.keep hb5)
      have A5 := Lib.hid (A4.out.keep (hb5.mono hs4))
      have HB5 := Lib.hid (below_call HB4.out hb5 (by omega))
      have hs5 := hb5.size
      clear hb5 X4 R4 B4 A4 HB4 x0 x1 x2 xl
      go_wp2_with fail
      refine Calls.mono (spec_l23Set (N := offN sz sz.length) (offN sz sz.length) 0 ld [] ad n cd w5 A5.out HLD.out ⟨_, _, B5.out⟩ (by omega) hofl (by omega) (by simp; omega) (by omega)) ?_
      rintro e w6 ⟨rfl, ⟨na6, nc6, hF6⟩, hf6⟩
      have hb6 := hf6.below (Below.refl wr.heap.size w5) (by omega) (Nat.le_refl _) (Nat.le_refl _) (Nat.le_refl _)
      have X6 := Lib.hid (X5.out.keepB hb6 (by omega))
      have R6 := Lib.hid (R5.out.keepB hb6 (by omega))
      have HB6 := Lib.hid (HB5.out.trans (hb6.mono (by omega)))
      rw [HAM.out, HP.out] at hF6 ⊢
      have B6 := Lib.hid hF6
      have hs6 := hf6.size
      clear hF6 hf6 hb6 X5 R5 B5 A5 HB5
      have x0 := X6.out.cell 0
      have x1 := X6.out.cell 1
      have x2 := X6.out.cell 2
      have xl := X6.out.lt
      have p0 := B6.out.blk.cell 0
      have pl := B6.out.blk.lt
      simp only [List.getElem?_toArray, List.getElem?_cons_zero, List.getElem?_cons_succ] at x0 x1 x2 p0
      go_wp2_with fail
      refine wp_region_noPanic ?_
      refine wp_region_M (L := 11) (S := fun wx => Below w6.heap.size w6 wx) (by kernel_rfl) ?_ (fun hHeld => ?_)
      · exact (Below.refl _ _).drew
      refine tkM0 0 (v := ?_) ?_ ?_
      rotate_left
      · (intro wv hSw; (try dsimp only at hSw); obtain ⟨hcq, _⟩ := bcell hSw; have hsq := Below.size hSw; have q0 := (hcq _ _ xl).trans x0; have q1 := (hcq _ _ xl).trans x1; have q2 := (hcq _ _ xl).trans x2; have ql := Nat.lt_of_lt_of_le xl hsq; go_simp; try with_reducible rfl)
      try simp only [Act.put, s1, s2, s3]
      refine tkMB 2 ?_
      try simp only [Act.put, s1, s2, s3]
      refine tkMB 3 ?_
      try simp only [Act.put, s1, s2, s3]
      refine tkMB 4 ?_
      try simp only [Act.put, s1, s2, s3]
      refine tkM0 5 (v := ?_) ?_ ?_
      rotate_left
      · (intro wv hSw; (try dsimp only at hSw); obtain ⟨hcq, _⟩ := bcell hSw; have hsq := Below.size hSw; have q0 := (hcq _ _ pl).trans p0; have ql := Nat.lt_of_lt_of_le pl hsq; go_simp; try with_reducible rfl)
      try simp only [Act.put, s1, s2, s3]
      refine tkMB 6 ?_
      try simp only [Act.put, s1, s2, s3]
      refine wpAnyM_ready (rs := [1]) (by kernel_rfl) (by simp) ?_
      refine AllReadyM.cons rfl (fun K hK => ?_) AllReadyM.nil
      go_simp
      refine Calls.mono (KT.out _ (below_call HB6.out hHeld (by omega))) ?_
      rintro e w7 ⟨rfl, hb7⟩
      have hb7' := below_callS hHeld hb7
      go_wp2_with fail
      refine hK.out _ _ hb7' (fun hHeld => ?_)
      clear hK K
      try simp only [Act.put, s1, s2, s3]
      refine wpAnyM_ready (rs := [7]) (by kernel_rfl) (by simp) ?_
      refine AllReadyM.cons rfl (fun K hK => ?_) AllReadyM.nil
      go_simp
      refine Calls.mono (spec_l22Canonical HFR.out (by omega) (B6.out.own.flats.keep hb7') i2) ?_
      rintro e w8 ⟨da, dc, rfl, hO, hb8⟩
      rw [HC.out] at hO ⊢
      have hb8' := below_callS hb7' hb8
      have O8 := Lib.hid hO
      have hs8 := hb8.size
      have hs7 := hb7'.size
      clear hO
      go_wp2_with fail
      refine hK.out _ _ hb8' (fun hHeld => ?_)
      clear hK K
      try simp only [Act.put, s1, s2, s3]
      refine wpAnyM_ready (rs := [8]) (by kernel_rfl) (by simp) ?_
      refine AllReadyM.cons rfl (fun K hK => ?_) AllReadyM.nil
      go_simp
      refine Calls.mono (spec_l22Small (L := C1) (rt := C2) O8.out (by omega) (by omega)) ?_
      rintro e w9 ⟨ea, ec, rfl, hO, hb9⟩
      rw [← HSD.out] at hO ⊢
      have hb9' := below_callS hb8' hb9
      have R9 := Lib.hid (R6.out.keep hb9')
      have HB9 := Lib.hid (below_call HB6.out hb9' (by omega))
      have O9 := Lib.hid hO
      have hrl6 := R6.out.lt
      clear hO x0 x1 x2 xl p0 pl
      go_wp2_with fail
      refine hK.out _ _ hb9' (fun hHeld => ?_)
      clear hK K
      try simp only [Act.put, s1, s2, s3]
      have r0 := R9.out.cell 0
      have r1 := R9.out.cell 1
      have r2 := R9.out.cell 2
      have rl := R9.out.lt
      have rf := R9.out.free
      simp only [List.getElem?_toArray, List.getElem?_cons_zero, List.getElem?_cons_succ] at r0 r1 r2
      obtain ⟨⟨D1, D2, D3, D4⟩, hD⟩ : ∃ D, sdgN sz (ls.map (·.2)) = D := ⟨_, rfl⟩
      rw [hD] at O9 ⊢
      simp only at O9
      have HD := Lib.hid hD
      clear hD HSD
      refine tkMB 9 ?_
      try simp only [Act.put, s1, s2, s3]
      refine tkMB 10 ?_
      try simp only [Act.put, s1, s2, s3]
      refine wpAnyM_ready (rs := [11]) (by kernel_rfl) (by simp) ?_
      refine AllReadyM.last rfl (fun K hK => ?_)
      go_simp
      refine hK.out _ _ ?_
      clear hK K
      try simp only [Act.put, s1, s2, s3]
      refine wpAnyM_ready (rs := [12]) (by kernel_rfl) (by simp) ?_
      refine AllReadyM.then (by kernel_rfl) rfl (fun K hK => ?_)
      go_simp
      refine hK.out _ _ ?_
      clear hK K
      try simp only [Act.put, s1, s2, s3]
      refine wpAnyM_done (by kernel_rfl) ?_ _
      refine NoPanic.normal ?_
      clear hHeld
      have hne : ∀ y, ea = some ⟨y, 0, none⟩ → (some (w.heap.size + 1) : Option Nat) ≠ some y := fun y e e' => by
        have := (O9.out.blk y e).1
        simp at e'
        omega
      have hbz : Below w.heap.size w w9 := HB9.out
      clear hb7 hb7' hb8 hb8' hb9 hb9'
      go_wp2
      refine bodyPost_ret (v := .tuple #[.agg #[.int .i64 D1, .slice ea D2.length ec, .int .i64 D3], .int .i64 D4]) (by simp [results, Tryz.results64, go_sem, *]) rfl ⟨ea, ec, by rw [HD.out], ?_, ?_⟩
      · rw [HD.out]
        exact (((O9.out.keepG (set_grown _ _ _) hne).keepG (set_grown _ _ _) hne).keepG (set_grown _ _ _) hne).le (by omega)
      · exact bel
end Go.Proofs.YtkaikbaagajckaaGreat
namespace Go.Proofs.YtkaikbaagajckaaGreat
open Go.RowKit
set_option linter.unusedVariables false
set_option linter.unusedSimpArgs false
attribute [local go_sem ↓] Go.wp_at_zero Go.wp_at_succ
set_option maxRecDepth 100000 in
set_option maxHeartbeats 8000000 in
theorem spec_ReachDiagram {sa ta ra : Option Addr} {sn sc tn tc rn rc : Nat} {sz st : List Int} {l : List (RM × RuD)} {w : World} (hI : Ints w sa sn sc sz) (hn : sn ≤ 1048576) (hT : Ints w ta tn tc st) (ht : tn ≤ 1048576) (hR : FR w w ra rn rc l) (hr : rn ≤ 1048576) :
    Calls Tryz.prog 22 #[.agg #[.slice sa sn sc, .slice ta tn tc, .slice ra rn rc]] w (DgR w (rcC sz st l)) := by
  have hb0 : Below w.heap.size w ((w.alloc (.cells #[.slice sa sn sc, .slice ta tn tc, .slice ra rn rc] 36)).alloc (.cells #[.int .i64 0, .slice none 0 0, .int .i64 0] 40)) := below_alloc1 (below_alloc1 (Below.refl _ _) _) _
  have X := Lib.hid ((Blk.made w #[.slice sa sn sc, .slice ta tn tc, .slice ra rn rc] 36).keep (below_alloc1 (Below.refl _ _) (.cells #[.int .i64 0, .slice none 0 0, .int .i64 0] 40)))
  have R := Lib.hid (Blk.made1 w (.cells #[.slice sa sn sc, .slice ta tn tc, .slice ra rn rc] 36) #[.int .i64 0, .slice none 0 0, .int .i64 0] 40)
  have KM := fun (wx : World) (hb : Below w.heap.size w wx) => spec_IsModel (hI.keep hb) hn (hT.keep hb) ht (hR.self hb) hr
  have hdone : ∀ (code : Int) (wz : World), rcC sz st l = (0, [], 0, code) → Below w.heap.size w wz → Hid (DgR w (rcC sz st l) (.returned (.tuple #[.agg #[.int .i64 0, .slice none 0 0, .int .i64 0], .int .i64 code])) wz) := fun code wz h hb => Lib.hid (by
    rw [h]
    exact ⟨none, 0, rfl, ⟨World.ownsRow_nil _ _ _ 3, (fun _ h => by cases h), rfl, fun _ => rfl⟩, hb⟩)
  cases hm : modelB sz st l
  · simp only [hm] at KM
    have K1 := Lib.hid KM
    have HD := Lib.hid (fun wz => hdone 1 wz (rcC_1 hm))
    clear KM hdone hm hI hT hR
    go_enter Tryz.func22, Tryz.ntmps22
    go_wp2_with fail
    refine Calls.mono (K1.out _ hb0) ?_
    rintro e w1 ⟨rfl, hb⟩
    have R1 := Lib.hid (R.out.keep hb)
    have HB1 := Lib.hid (below_callS hb0 hb)
    clear hb X R hb0
    have r0 := R1.out.cell 0
    have r1 := R1.out.cell 1
    have r2 := R1.out.cell 2
    have rl := R1.out.lt
    have rf := R1.out.free
    simp only [List.getElem?_toArray, List.getElem?_cons_zero, List.getElem?_cons_succ] at r0 r1 r2
    have hbz : Below w.heap.size w w1 := HB1.out
    go_wp2
    refine bodyPost_ret (v := .tuple #[.agg #[.int .i64 0, .slice none 0 0, .int .i64 0], .int .i64 1]) (by simp [results, Tryz.results22, go_sem, *]) rfl ((HD.out _ ?_).out)
    exact bel
  · simp only [hm] at KM
    have hs := modelB_all hm
    have KS := fun (wx : World) (hb : Below w.heap.size w wx) => spec_l23Small (ta := ta) (tn := tn) (tc := tc) (ra := ra) (rn := rn) (rc := rc) (hI.keep hb) hn hs
    have KE := fun (wx : World) (hb : Below w.heap.size w wx) => spec_l21All (hI.keep hb) hn (hT.keep hb) ht (hR.self hb) hr hm
    have K1 := Lib.hid KM
    cases hq : smB sz
    · simp only [smC, hq] at KS
      have K2 := Lib.hid KS
      have HD := Lib.hid (fun wz => hdone 3 wz (rcC_2 hm hq))
      clear KM KE KS hdone hm hs hq hI hT hR
      go_enter Tryz.func22, Tryz.ntmps22
      go_wp2_with fail
      refine Calls.mono (K1.out _ hb0) ?_
      rintro e w1 ⟨rfl, hb⟩
      have X1 := Lib.hid (X.out.keep hb)
      have R1 := Lib.hid (R.out.keep hb)
      have HB1 := Lib.hid (below_callS hb0 hb)
      clear hb X R hb0
      have x0 := X1.out.cell 0
      have x1 := X1.out.cell 1
      have x2 := X1.out.cell 2
      have xl := X1.out.lt
      simp only [List.getElem?_toArray, List.getElem?_cons_zero, List.getElem?_cons_succ] at x0 x1 x2
      go_wp2_with fail
      refine Calls.mono (K2.out _ HB1.out) ?_
      rintro e w2 ⟨rfl, hb⟩
      have R2 := Lib.hid (R1.out.keep hb)
      have HB2 := Lib.hid (below_callS HB1.out hb)
      clear hb X1 R1 x0 x1 x2 xl
      have r0 := R2.out.cell 0
      have r1 := R2.out.cell 1
      have r2 := R2.out.cell 2
      have rl := R2.out.lt
      have rf := R2.out.free
      simp only [List.getElem?_toArray, List.getElem?_cons_zero, List.getElem?_cons_succ] at r0 r1 r2
      have hbz : Below w.heap.size w w2 := HB2.out
      go_wp2
      refine bodyPost_ret (v := .tuple #[.agg #[.int .i64 0, .slice none 0 0, .int .i64 0], .int .i64 3]) (by simp [results, Tryz.results22, go_sem, *]) rfl ((HD.out _ ?_).out)
      exact bel
    · simp only [smC, hq] at KS
      have K2 := Lib.hid KS
      cases hbf : bfsP (l.map (·.2)) st with
      | none =>
        have KE2 := fun (wx : World) (hb : Below w.heap.size w wx) => (KE wx hb).mono fun e w' h => And.intro h.1 (h.2.1 hbf)
        have K3 := Lib.hid KE2
        have HD := Lib.hid (fun wz => hdone 3 wz (rcC_3 hm hq hbf))
        clear KM KE KE2 KS hdone hm hs hq hbf hI hT hR
        go_enter Tryz.func22, Tryz.ntmps22
        go_wp2_with fail
        refine Calls.mono (K1.out _ hb0) ?_
        rintro e w1 ⟨rfl, hb⟩
        have X1 := Lib.hid (X.out.keep hb)
        have R1 := Lib.hid (R.out.keep hb)
        have HB1 := Lib.hid (below_callS hb0 hb)
        clear hb X R hb0
        have x0 := X1.out.cell 0
        have x1 := X1.out.cell 1
        have x2 := X1.out.cell 2
        have xl := X1.out.lt
        simp only [List.getElem?_toArray, List.getElem?_cons_zero, List.getElem?_cons_succ] at x0 x1 x2
        go_wp2_with fail
        refine Calls.mono (K2.out _ HB1.out) ?_
        rintro e w2 ⟨rfl, hb⟩
        have X2 := Lib.hid (X1.out.keep hb)
        have R2 := Lib.hid (R1.out.keep hb)
        have HB2 := Lib.hid (below_callS HB1.out hb)
        clear hb X1 R1 x0 x1 x2 xl
        have x0 := X2.out.cell 0
        have x1 := X2.out.cell 1
        have x2 := X2.out.cell 2
        have xl := X2.out.lt
        simp only [List.getElem?_toArray, List.getElem?_cons_zero, List.getElem?_cons_succ] at x0 x1 x2
        go_wp2_with fail
        refine Calls.mono (K3.out _ HB2.out) ?_
        rintro e w3 ⟨hb, rfl⟩
        have R3 := Lib.hid (R2.out.keep hb)
        have HB3 := Lib.hid (below_callS HB2.out hb)
        clear hb X2 R2 x0 x1 x2 xl
        have r0 := R3.out.cell 0
        have r1 := R3.out.cell 1
        have r2 := R3.out.cell 2
        have rl := R3.out.lt
        have rf := R3.out.free
        simp only [List.getElem?_toArray, List.getElem?_cons_zero, List.getElem?_cons_succ] at r0 r1 r2
        have hbz : Below w.heap.size w w3 := HB3.out
        go_wp2
        refine bodyPost_ret (v := .tuple #[.agg #[.int .i64 0, .slice none 0 0, .int .i64 0], .int .i64 3]) (by simp [results, Tryz.results22, go_sem, *]) rfl ((HD.out _ ?_).out)
        exact bel
      | some L =>
        have KE2 := fun (wx : World) (hb : Below w.heap.size w wx) => (KE wx hb).mono fun e w' h => And.intro h.1 (h.2.2 L hbf)
        have K3 := Lib.hid KE2
        have hrc := rcC_4 hm hq hbf
        obtain ⟨hsn, hstb⟩ := bfs_gives hm hbf
        have hL4 : L.length ≤ 4000 := bfs_few hbf
        have hn16 : sn ≤ 16 := by have := modelB_len hm; have := hI.len; omega
        have HI := Lib.hid hI
        have HS := Lib.hid hs
        have HQ := Lib.hid hq
        have HRC := Lib.hid hrc
        have HST := Lib.hid hstb
        clear KM KE KE2 KS hdone hm hs hq hbf hI hT hR hrc hstb
        go_enter Tryz.func22, Tryz.ntmps22
        go_wp2_with fail
        refine Calls.mono (K1.out _ hb0) ?_
        rintro e w1 ⟨rfl, hb⟩
        have X1 := Lib.hid (X.out.keep hb)
        have R1 := Lib.hid (R.out.keep hb)
        have HB1 := Lib.hid (below_callS hb0 hb)
        clear hb X R hb0
        have x0 := X1.out.cell 0
        have x1 := X1.out.cell 1
        have x2 := X1.out.cell 2
        have xl := X1.out.lt
        simp only [List.getElem?_toArray, List.getElem?_cons_zero, List.getElem?_cons_succ] at x0 x1 x2
        go_wp2_with fail
        refine Calls.mono (K2.out _ HB1.out) ?_
        rintro e w2 ⟨rfl, hb⟩
        have X2 := Lib.hid (X1.out.keep hb)
        have R2 := Lib.hid (R1.out.keep hb)
        have HB2 := Lib.hid (below_callS HB1.out hb)
        clear hb X1 R1 x0 x1 x2 xl
        have x0 := X2.out.cell 0
        have x1 := X2.out.cell 1
        have x2 := X2.out.cell 2
        have xl := X2.out.lt
        simp only [List.getElem?_toArray, List.getElem?_cons_zero, List.getElem?_cons_succ] at x0 x1 x2
        go_wp2_with fail
        refine Calls.mono (K3.out _ HB2.out) ?_
        rintro e w3 ⟨hb, b3, rfl, hS3, _⟩
        have X3 := Lib.hid (X2.out.keep hb)
        have R3 := Lib.hid (R2.out.keep hb)
        have HB3 := Lib.hid (below_callS HB2.out hb)
        have hs3 := HB3.out.size
        obtain ⟨oa, oc, ta', tc', ka, kc, lo', lt', lk, hBlk, _, _, _, hK, _, _, _, hA, hM⟩ := hS3
        have hkm : lk.map (·.2) = srtS (L.map (·.v)) := srt_of (m := sz.length) (fun y hy => stateB_len (HST.out y hy)) hA hM
        have hstf : StsF w3 sz ka L.length kc lk := by
          have h1 := hK.row.flats
          refine ⟨h1.len, h1.cap, h1.pos, fun x hx => ⟨(hK.each x hx).ints, ?_⟩, h1.nil⟩
          exact HST.out x.2 ((hM x.2).1 (List.mem_map_of_mem hx))
        have HKM := Lib.hid hkm
        have SF := Lib.hid hstf
        have b2 := hBlk.cell 2
        have bl := hBlk.lt
        have hxr : w.heap.size + 1 < w3.heap.size := R3.out.lt
        clear hb X2 R2 x0 x1 x2 xl hBlk hK hA hM hkm hstf
        have x0 := X3.out.cell 0
        have x1 := X3.out.cell 1
        have x2 := X3.out.cell 2
        have xl := X3.out.lt
        simp only [List.getElem?_toArray, List.getElem?_cons_zero, List.getElem?_cons_succ] at x0 x1 x2 b2
        go_wp2_with fail
        refine wp_region_noPanic ?_
        refine wp_region_M (L := 8) (S := fun wx => Below w3.heap.size w3 wx) (by kernel_rfl) ?_ (fun hHeld => ?_)
        · exact (Below.refl _ _).drew
        refine tkM0 0 (v := ?_) ?_ ?_
        rotate_left
        · (intro wv hSw; (try dsimp only at hSw); obtain ⟨hcq, _⟩ := bcell hSw; have hsq := Below.size hSw; have q0 := (hcq _ _ xl).trans x0; have q1 := (hcq _ _ xl).trans x1; have q2 := (hcq _ _ xl).trans x2; have ql := Nat.lt_of_lt_of_le xl hsq; go_simp; try with_reducible rfl)
        try simp only [Act.put, s1, s2, s3]
        refine tkMB 1 ?_
        try simp only [Act.put, s1, s2, s3]
        refine tkMB 2 ?_
        try simp only [Act.put, s1, s2, s3]
        refine tkMB 3 ?_
        try simp only [Act.put, s1, s2, s3]
        refine tkM0 4 (v := ?_) ?_ ?_
        rotate_left
        · (intro wv hSw; (try dsimp only at hSw); obtain ⟨hcq, _⟩ := bcell hSw; have hsq := Below.size hSw; have q0 := (hcq _ _ bl).trans b2; have ql := Nat.lt_of_lt_of_le bl hsq; go_simp; try with_reducible rfl)
        try simp only [Act.put, s1, s2, s3]
        refine wpAnyM_ready (rs := [5]) (by kernel_rfl) (by simp) ?_
        refine AllReadyM.cons rfl (fun K hK => ?_) AllReadyM.nil
        go_simp
        refine Calls.mono (spec_l23Diagram (HI.out.keep (below_call HB3.out hHeld (by omega))) hn16 HS.out HQ.out (SF.out.keep hHeld) (by omega)) ?_
        rintro e w5 ⟨da, dc, rfl, hO5, hb5⟩
        rw [HKM.out, ← HRC.out] at hO5 ⊢
        have hz5 := Below.size hHeld
        have O5 := Lib.hid hO5
        have hb5' := below_callS hHeld hb5
        have R5 := Lib.hid (R3.out.keep hb5')
        have HB5 := Lib.hid (below_call HB3.out hb5' (by omega))
        clear hO5 hb5 X3 R3 x0 x1 x2 xl b2 bl
        go_wp2_with fail
        refine hK.out _ _ hb5' (fun hHeld => ?_)
        clear hK K
        try simp only [Act.put, s1, s2, s3]
        have r0 := R5.out.cell 0
        have r1 := R5.out.cell 1
        have r2 := R5.out.cell 2
        have rl := R5.out.lt
        have rf := R5.out.free
        simp only [List.getElem?_toArray, List.getElem?_cons_zero, List.getElem?_cons_succ] at r0 r1 r2
        obtain ⟨⟨D1, D2, D3, D4⟩, hD⟩ : ∃ D, rcC sz st l = D := ⟨_, rfl⟩
        rw [hD] at O5 ⊢
        simp only at O5
        have HD := Lib.hid hD
        clear hD HRC
        refine tkMB 6 ?_
        try simp only [Act.put, s1, s2, s3]
        refine tkMB 7 ?_
        try simp only [Act.put, s1, s2, s3]
        refine wpAnyM_ready (rs := [8]) (by kernel_rfl) (by simp) ?_
        refine AllReadyM.last rfl (fun K hK => ?_)
        go_simp
        refine hK.out _ _ ?_
        clear hK K
        try simp only [Act.put, s1, s2, s3]
        refine wpAnyM_ready (rs := [9]) (by kernel_rfl) (by simp) ?_
        refine AllReadyM.then (by kernel_rfl) rfl (fun K hK => ?_)
        go_simp
        refine hK.out _ _ ?_
        clear hK K
        try simp only [Act.put, s1, s2, s3]
        refine wpAnyM_done (by kernel_rfl) ?_ _
        refine NoPanic.normal ?_
        clear hHeld
        have hne : ∀ y, da = some ⟨y, 0, none⟩ → (some (w.heap.size + 1) : Option Nat) ≠ some y := fun y e e' => by
          have := (O5.out.blk y e).1
          simp at e'
          omega
        have hbz : Below w.heap.size w w5 := HB5.out
        go_wp2
        refine bodyPost_ret (v := .tuple #[.agg #[.int .i64 D1, .slice da D2.length dc, .int .i64 D3], .int .i64 D4]) (by simp [results, Tryz.results22, go_sem, *]) rfl ⟨da, dc, by rw [HD.out], ?_, ?_⟩
        · rw [HD.out]
          exact (((O5.out.keepG (set_grown _ _ _) hne).keepG (set_grown _ _ _) hne).keepG (set_grown _ _ _) hne).le (by omega)
        · exact bel
end Go.Proofs.YtkaikbaagajckaaGreat
namespace Go.Proofs.YtkaikbaagajckaaGreat
open Go.RowKit
set_option linter.unusedVariables false
set_option linter.unusedSimpArgs false
/-- what the search returns: the found states, or that they are too many -/
def ExRet (w : World) (R : Option (List SN)) (e : Ending) (w' : World) : Prop :=
  Below w.heap.size w w' ∧ match R with
  | none => e = .returned (.tuple #[.slice none 0 0, .bool false])
  | some L => ∃ a n c l, e = .returned (.tuple #[.slice a n c, .bool true]) ∧ QOwn w' w.heap.size a n c l ∧ l.map (·.2) = L
theorem SetM.ins {w : World} {b n : Nat} {has : List UInt8 → Bool} {ops : Array Oper} {rest : List Oper} {o : Oper} {a : Act} {Q : Exit → Act → World → Prop} (h : SetM w b n has)
    (hg : o.guard = none) (m x v : Operand) (hop : o.op = Op.insert 224 m x v) (hm : a.eval m = .map (some b)) (hn : n < maxLen) (s : ByteArray) (hx : a.eval x = .string s) (hv : a.eval v = .bool true) (hs : s.size ≤ maxLen)
    (hK : ∀ w', SetM w' b (n + 1) (fun k => decide (k = s.data.toList) || has k) → w.grownBy w' (some b) → wpList Tryz.prog ops Q rest (a.put o.dst undef) w') :
    wpList Tryz.prog ops Q (o :: rest) a w := by
  obtain ⟨D, h1, h2, h3⟩ := h
  refine wpList_plain hg fun K' hK' => ?_
  obtain ⟨w', hrun, q1, q2⟩ := h1.update (Maps.string_keyed Tryz.underlying9) Tryz.underlying224 hn (WideMaps.keyOf_string_mk Tryz.underlying9 hs) (plainElem_bool Tryz.underlying4 true)
  unfold Oper.wp
  simp [execOp, hop, hm, hx, hv, hrun, Result.andThen]
  refine hK' _ _ (hK w' ⟨_, q1, h2.put _ _, fun k => ?_⟩ q2)
  by_cases e : k = s.data.toList
  · rw [e, Maps.atKey_put_same h2 (by trivial)]; simp
  · rw [Maps.atKey_put_other (fun h => e (by simpa using h)), h3]; simp [e]
theorem SetM.nc {w : World} {b n : Nat} {has : List UInt8 → Bool} (h : SetM w b n has) : ∀ (cur : Array Value) (E : TypeId), w.heap[b]? ≠ some (.cells cur E (0, 0)) := fun cur E e => by
  obtain ⟨D, ⟨es, clock, h1, _⟩, _⟩ := h
  rw [h1] at e; cases e
/-- what the search keeps: the list of found states, the set of their texts -/
structure ExInv (w wr : World) (mb : Nat) (cs : Array Value) (sz : List Int) (L : List SN) (a : Option Addr) (n c : Nat) (l : List (QM × SN)) : Prop where
  lo : w.heap.size + 1 ≤ wr.heap.size
  bl : Below w.heap.size w wr
  x : Blk wr w.heap.size cs 36
  q : QOwn wr (w.heap.size + 1) a n c l
  e : l.map (·.2) = L
  m : SetM wr mb n (hasL L)
  ml : w.heap.size + 1 ≤ mb
  sn : SNs sz L
  dp : DpB L
theorem ExInv.keep {w wr w' : World} {mb : Nat} {cs : Array Value} {sz : List Int} {L : List SN} {a : Option Addr} {n c : Nat} {l : List (QM × SN)} (h : ExInv w wr mb cs sz L a n c l) (hb : Below wr.heap.size wr w') : ExInv w w' mb cs sz L a n c l :=
  ⟨Nat.le_trans h.lo hb.size, h.bl.trans (hb.mono h.bl.size), h.x.keep hb, h.q.keep hb, h.e, h.m.keep hb, h.ml, h.sn, h.dp⟩
theorem ExInv.len {w wr : World} {mb : Nat} {cs : Array Value} {sz : List Int} {L : List SN} {a : Option Addr} {n c : Nat} {l : List (QM × SN)} (h : ExInv w wr mb cs sz L a n c l) : L.length = n := by
  rw [← h.e, List.length_map]; exact h.q.row.flats.len
theorem sv_range {sz v : List Int} (hz : ∀ z ∈ sz, z ≤ 256) (h : SV sz v) : ∀ x ∈ v, 0 ≤ x ∧ x < 256 := by
  intro x hx
  obtain ⟨k, hk⟩ := List.getElem?_of_mem hx
  have hkl : k < sz.length := by rw [← h.1]; exact (List.getElem?_eq_some_iff.1 hk).1
  have hzk : sz[k]? = some sz[k] := List.getElem?_eq_getElem hkl
  have h1 := h.2 k x _ hk hzk
  have h2 := hz _ (List.getElem_mem hkl)
  omega
theorem keyL_len (v : List Int) : (keyL v).length = v.length := by rw [keyL, List.length_map]
theorem data_keyL (v : List Int) : (ByteArray.mk (keyL v).toArray).data.toList = keyL v := by simp
theorem exInv_start {w w4 w5 : World} {mb tn g4 c1 : Nat} {a1 : Option Addr} {cs : Array Value} {sz st : List Int} (hm5 : SetM w5 mb (0 + 1) (fun k => decide (k = (ByteArray.mk (keyL st).toArray).data.toList) || (fun _ => false) k)) (hg5 : w4.grownBy w5 (some mb)) (hm : SetM w4 mb 0 (fun _ => false))
    (hq : QOwn w4 (w.heap.size + 1) (some ⟨g4, 0, none⟩) 1 1 [(⟨a1, tn, c1⟩, ⟨st, -1, 0, 0, []⟩)]) (hx : Blk w4 w.heap.size cs 36) (hb : Below w.heap.size w w4) (hmb : w.heap.size + 1 ≤ mb) (hs4 : mb + 1 ≤ w4.heap.size) (hst : SV sz st) :
    ExInv w w5 mb cs sz [⟨st, -1, 0, 0, []⟩] (some ⟨g4, 0, none⟩) 1 1 [(⟨a1, tn, c1⟩, ⟨st, -1, 0, 0, []⟩)] := by
  refine ⟨by have := hg5.size; omega, hb.grown hg5 hb.size (fun k e => by cases e; omega), hx.keepG hg5 (fun e => by cases e; omega), hq.keepG hg5 hm.nc, rfl, hm5.congr fun k => ?_, hmb, SNs.start hst, fun j y hy => ?_⟩
  · rw [data_keyL, Bool.or_false, hasL, List.any_cons, List.any_nil, Bool.or_false, Bool.eq_iff_iff, beq_iff_eq, decide_eq_true_iff]; exact eq_comm
  · cases j with
    | zero => simp at hy; subst hy; exact ⟨Int.le_refl _, Int.le_refl _⟩
    | succ j => simp at hy
/-- one more state is found -/
theorem ExInv.app {w w8 w9 w10 : World} {mb : Nat} {cs : Array Value} {sz : List Int} {L : List SN} {a : Option Addr} {n c g c' i q : Nat} {l : List (QM × SN)} {R : QM} {v : List Int} {x : SN} (h : ExInv w w8 mb cs sz L a n c l)
    (hm : SetM w9 mb (n + 1) (fun k => decide (k = keyL v) || hasL L k)) (hg : w8.grownBy w9 (some mb)) (hq : QOwn w10 (w.heap.size + 1) (some ⟨g, 0, none⟩) (n + 1) c' (l ++ [(R, ⟨v, i, q, x.dp + 1, x.tr ++ [(q : Int)]⟩)])) (ht : Touch w9 w10 1 a) (hb : Below (w.heap.size + 1) w9 w10)
    (hx : L[i]? = some x) (hv : SV sz v) (hn : L.any (fun y => y.v == v) = false) : ExInv w w10 mb cs sz (addN i x L (q, v)) (some ⟨g, 0, none⟩) (n + 1) c' (l ++ [(R, ⟨v, i, q, x.dp + 1, x.tr ++ [(q : Int)]⟩)]) := by
  have hq9 := h.q.keepG hg h.m.nc
  have hml := h.ml
  have hlo := h.lo
  refine ⟨by have := hg.size; have := hb.size; omega, (h.bl.grown hg h.bl.size (fun k e => by cases e; omega)).trans (hb.mono (by omega)), (h.x.keepG hg (fun e => by cases e; omega)).keepA ht (fun e => by have := (hq9.row.blk _ e).1; omega), hq, ?_, ?_, hml, h.sn.add hx hv, h.dp.add hx _⟩
  · rw [List.map_append, h.e, addN_new hn]; rfl
  · obtain ⟨r, hgr, hr⟩ := ht
    refine (hm.keepG hgr fun e => ?_).congr fun k => ?_
    · obtain ⟨_, ha⟩ := hr _ e
      obtain ⟨cur, h1⟩ := hq9.row.typ ha
      exact hm.nc _ _ h1
    · rw [addN_new hn, hasL_app]
set_option maxHeartbeats 4000000 in
theorem impl_explore {sa ta ra : Option Addr} {sn sc tn tc rn rc : Nat} {sz st : List Int} {lr : List (RM × RuD)} {w0 w : World} (hb0 : Below w0.heap.size w0 w) (hR : FR w0 w ra rn rc lr) (hr : rn ≤ 65536) (hT : Ints w ta tn tc st) (htn : tn ≤ 65536)
    (hz : ∀ z ∈ sz, z ≤ 256) (hst : SV sz st) (hru : ∀ r ∈ lr.map (·.2), RuV sz r) (hg : ∀ x ∈ lr, x.1.gn ≤ 1048576 ∧ x.1.en ≤ 1048576) :
    Calls Tryz.prog 130 #[.agg #[.slice sa sn sc, .slice ta tn tc, .slice ra rn rc]] w (ExRet w (bfsP (lr.map (·.2)) st)) := by
  have X := Lib.hid (Blk.made w #[.slice sa sn sc, .slice ta tn tc, .slice ra rn rc] 36)
  have hbA : Below w.heap.size w (w.alloc (.cells #[.slice sa sn sc, .slice ta tn tc, .slice ra rn rc] 36)) := bel
  have HR := Lib.hid hR
  have HT := Lib.hid hT
  have HZ := Lib.hid hz
  have HST := Lib.hid hst
  have HRU := Lib.hid hru
  have HG := Lib.hid hg
  have H0 := Lib.hid hb0
  have x1 := X.out.cell 1
  have xl := X.out.lt
  simp at x1
  clear hR hT hz hst hru hg hb0
  go_enter Tryz.func130, Tryz.ntmps130
  go_wp2_with fail
  refine Calls.mono (slices_Clone_i64 (HT.out.keep hbA) (by omega)) ?_
  rintro e w1 ⟨a1, c1, rfl, hb1, ho1, hnl⟩
  have hs1 := hb1.size
  simp at hs1
  have O1 := Lib.hid ho1
  have X1 := Lib.hid (X.out.keep hb1)
  have hbw1 : Below w.heap.size w w1 := bel
  have x1' := X1.out.cell 1
  have xl' := X1.out.lt
  simp at x1'
  have hmm := @run_makeMap Tryz.prog
  have HO1 := Lib.hid ho1
  clear x1 xl ho1 hb1 hnl
  go_wp2_with fail
  have hQ := QOwn.one (w := w1) (lo := w.heap.size + 1) (⟨a1, tn, c1⟩, ⟨st, -1, 0, 0, []⟩) (HO1.out.le (by simp)) hs1 #[.slice a1 tn c1, .int .i64 (-1), .int .i64 0, .int .i64 0] rfl
  obtain ⟨w2, hw2⟩ : ∃ w2 : World, w2 = w1.alloc (.cells #[.slice a1 tn c1, .int .i64 (-1), .int .i64 0, .int .i64 0] 121) := ⟨_, rfl⟩
  have hb2 : Below w1.heap.size w1 w2 := by rw [hw2]; exact bel
  have hs2 : w2.heap.size = w1.heap.size + 1 := by rw [hw2]; simp
  have hM := SetM.made w2
  rw [← hs2]
  rw [← hw2] at hQ ⊢
  obtain ⟨mb, hmb⟩ : ∃ mb : Nat, mb = w2.heap.size := ⟨_, rfl⟩
  rw [← hmb] at hM ⊢
  obtain ⟨w3, hw3⟩ : ∃ w3 : World, w3 = w2.alloc (.map #[] 0) := ⟨_, rfl⟩
  have hb3 : Below w2.heap.size w2 w3 := by rw [hw3]; exact bel
  have hs3 : mb + 1 ≤ w3.heap.size := by rw [hw3, hmb]; simp
  rw [← hw3] at hM ⊢
  have hb13 : Below w1.heap.size w1 w3 := hb2.trans (hb3.mono (by omega))
  have hbw3 : Below w.heap.size w w3 := hbw1.trans (hb13.mono (by omega))
  refine Calls.mono (impl_stateKey (HT.out.keep hbw3) (by omega) (sv_range HZ.out HST.out)) ?_
  rintro e w4 ⟨rfl, hb4⟩
  have hmbl : w.heap.size + 1 ≤ mb := by omega
  have M4 := Lib.hid (hM.keep hb4)
  have Q4 := Lib.hid ((hQ.keep hb3).keep hb4)
  have X4 := Lib.hid ((X1.out.keep hb13).keep hb4)
  have hs4 : mb + 1 ≤ w4.heap.size := by have := hb4.size; omega
  have hbw4 : Below w.heap.size w w4 := hbw3.trans (hb4.mono (by have := hbw3.size; omega))
  obtain ⟨g4, hg4⟩ : ∃ g4 : Nat, g4 = w1.heap.size := ⟨_, rfl⟩
  have hg4' : w.heap.size + 1 ≤ g4 := by omega
  rw [← hg4] at Q4 ⊢
  clear hQ hM hw2 hw3 hb2 hs2 hmb hs3 hb3 hb13 hbw3 hb4 hbw1 hs1 x1' xl' HO1 O1 X1 hg4
  have hks : (ByteArray.mk (keyL st).toArray).size ≤ maxLen := by
    have h1 := HT.out.len
    rw [show (ByteArray.mk (keyL st).toArray).size = (keyL st).length from by simp [ByteArray.size], keyL_len]
    unfold maxLen; omega
  go_wp2_with (refine SetM.ins M4.out rfl _ _ _ rfl rfl (by decide) _ rfl rfl hks ?_; intro w5 hm5 hg5; have I5 := Lib.hid (exInv_start hm5 hg5 M4.out Q4.out X4.out hbw4 hmbl hs4 HST.out))
  clear M4 Q4 X4 hbw4 hmbl hs4 hks
  obtain ⟨cs, hcs⟩ : ∃ cs : Array Value, cs = #[.slice sa sn sc, .slice ta tn tc, .slice ra rn rc] := ⟨_, rfl⟩
  have HCS := Lib.hid hcs
  have I5' : Hid (ExInv w w5 mb cs sz [⟨st, -1, 0, 0, []⟩] (some ⟨g4, 0, none⟩) 1 1 [(⟨a1, tn, c1⟩, ⟨st, -1, 0, 0, []⟩)]) := by rw [hcs]; exact I5
  clear I5 hcs hm5 hg5 hmm
  go_loopw [4, 6] (fun s4 s6 wr => ∃ (i f n c : Nat) (a : Option Addr) (l : List (QM × SN)) (L : List SN), s4 = .slice a n c ∧ s6 = .int .i64 i ∧ i ≤ n ∧ n ≤ 4000 ∧ f + i = 4002 ∧ Hid (runN9 (lr.map (·.2)) f i L = bfsP (lr.map (·.2)) st) ∧ Hid (ExInv w wr mb cs sz L a n c l)) (fun _ s6 _ => 4002 - (intOf s6).toNat)
  case atStart => exact ⟨0, 4002, 1, 1, _, _, _, rfl, rfl, by omega, by omega, by omega, Lib.hid rfl, I5'⟩
  case round =>
    clear I5'
    obtain ⟨i, f, n, c, a, l, L, rfl, rfl, hi, hn, hf, HB, I⟩ := hrel
    by_cases hlt : i < n
    · have hlt' : (i : Int) < (n : Int) := by omega
      have hi0 : (0 : Int) ≤ (i : Int) := by omega
      obtain ⟨b, off, R, y, rfl, hb, hly, hoy, c0, c1', c2, c3⟩ := I.out.q.get hlt
      have HY := Lib.hid (show L[i]? = some y by rw [← I.out.e, List.getElem?_map, hly]; rfl)
      have OY := Lib.hid hoy
      have hX := I.out.x
      rw [HCS.out] at hX
      have y0 := hX.cell 0
      have y1 := hX.cell 1
      have y2 := hX.cell 2
      have yl := hX.lt
      simp at y0 y1 y2
      clear hX hly hoy c1' c2 c3
      have hLV := I.out.sn.sv y (List.mem_of_getElem? HY.out)
      have hvl : y.v.length = R.n := OY.out.ints.len
      have hRn : R.n ≤ 65536 := by rw [← hvl, hLV.1, ← HST.out.1, HT.out.len]; exact htn
      have hb0r : Below w0.heap.size w0 wr := H0.out.trans (I.out.bl.mono H0.out.size)
      have K6 := Lib.hid (fun (wx : World) (hx : Below wr.heap.size wr wx) => impl_enabled (sa := sa) (ta := ta) (sn := sn) (sc := sc) (tn := tn) (tc := tc) (v := y.v) (hb0r.trans (hx.mono hb0r.size)) (Flats.keep (Flats.keep HR.out I.out.bl) hx) (by omega) (OY.out.ints.keep hx) (fun x hx t ht => by
        have := (HRU.out _ (List.mem_map_of_mem hx)).1 t ht
        rw [← hvl, hLV.1]; exact this) (fun x hx => (HG.out x hx).1))
      have hbr : Below wr.heap.size wr wr := Below.refl _ _
      clear hLV hb0r
      go_wp2_with fail
      go_region_held3 (fun wx => wx.cell? ⟨w.heap.size, 0, none⟩ = some (.slice sa sn sc) ∧ wx.cell? ⟨w.heap.size, 1, none⟩ = some (.slice ta tn tc) ∧ wx.cell? ⟨w.heap.size, 2, none⟩ = some (.slice ra rn rc) ∧ wx.cell? ⟨b, off + i * 4, none⟩ = some (.slice R.a R.n R.c) ∧ w.heap.size < wx.heap.size ∧ b < wx.heap.size ∧ Below wr.heap.size wr wx) (((try go_split_ands); (repeat' apply And.intro) <;> first | assumption | exact Below.drew (Below.refl _ _) | exact Blk.keep (by assumption) hbx | exact Blk.drew (by assumption) | exact Blk.drew (Blk.made _ _ _) | exact Below.drew (by assumption) | exact Below.drew (below_allocS (by first | exact Below.refl _ _ | assumption) _) | exact below_callS (by assumption) hbx | exact below_call (by assumption) hbx (Below.size (by assumption)) | exact (hcx _ _ (by assumption)).trans (by assumption) | omega | (simp [*]; done) | (simp; omega))) (first | (go_at_call 160; go_split_ands; refine Calls.mono (K6.out _ (by assumption)) ?_; rintro e w6 ⟨ae, ne, ce, rfl, hoe, hne, hbx⟩; have HOE := Lib.hid hoe; obtain ⟨hcx, hfx⟩ := bcell hbx; have hsx := hbx.size))
      have hb6 : Below wr.heap.size wr w6 := by go_split_ands; assumption
      have I6 := Lib.hid (I.out.keep hb6)
      have OE := Lib.hid (HOE.out.le (show wr.heap.size ≤ _ from Nat.le_refl _))
      have hlw : w.heap.size + 1 ≤ wr.heap.size := I.out.lo
      have hsz6 := hb6.size
      have HB6 := Lib.hid hb6
      have hEl : (enabI (lr.map (·.2)) y.v rn).length = ne := OE.out.ints.len
      have HEL := Lib.hid hEl
      clear K6 HOE hoe hbx hcx hfx hsx hb6 hEl c0 y0 y1 y2 yl I hbr
      have hrl : (lr.map (·.2)).length = rn := by rw [List.length_map]; exact HR.out.len
      have HRL := Lib.hid hrl
      clear hrl
      go_split_ands
      go_wp2_with fail
      go_loopw [4, 35] (fun s4 s35 wq => ∃ (j n' c' : Nat) (a' : Option Addr) (l' : List (QM × SN)), s4 = .slice a' n' c' ∧ s35 = .int .i64 j ∧ j ≤ ne ∧ n ≤ n' ∧ n' ≤ 4000 + j ∧ wr.heap.size ≤ wq.heap.size ∧ Hid (OwnI 2 wq wr.heap.size ae ne ce (enabI (lr.map (·.2)) y.v rn)) ∧ Hid (ExInv w wq mb cs sz (expT (lr.map (·.2)) i y L j) a' n' c' l')) (fun _ s35 _ => ne - (intOf s35).toNat)
      case atStart => exact ⟨0, n, c, _, l, rfl, rfl, by omega, by omega, by omega, hsz6, OE, I6⟩
      case round =>
        clear I6 OE
        obtain ⟨j, n', c', a', l', rfl, rfl, hj, hnn, hn', hsq, OE, J⟩ := hrel
        by_cases hjt : j < ne
        · have hjt' : (j : Int) < (ne : Int) := by omega
          have hj0 : (0 : Int) ≤ (j : Int) := by omega
          obtain ⟨be, oe, z, rfl, hbe, hz, hze, hz64⟩ := OE.out.ints.at hjt
          rw [← HRL.out] at hz
          obtain ⟨q, r, rfl, hq, hrq, _, hnx⟩ := enabI_at hz
          have hqn : q < rn := by rw [← HRL.out]; exact hq
          have hqn' : (q : Int) < (rn : Int) := by omega
          have hq0 : (0 : Int) ≤ (q : Int) := by omega
          obtain ⟨br, or', R2, r2, rfl, hbr2, hxr, hru2, d0, d1, d2⟩ := FR.get (Flats.keep HR.out J.out.bl) hqn
          have hrr : r2 = r := by
            have h1 : (lr.map (·.2))[q]? = some r2 := by rw [List.getElem?_map, hxr]; rfl
            rw [h1] at hrq; simpa using hrq
          subst hrr
          have hin : i < n' := by omega
          have hin' : (i : Int) < (n' : Int) := by omega
          have HP : Hid ((expT (lr.map (·.2)) i y L j)[i]? = some y) := Lib.hid (by
            obtain ⟨t, ht, _⟩ := foldN_pre i y ((nextP (lr.map (·.2)) y.v).take j) L
            rw [expT, ht, List.getElem?_append_left (by have := (List.getElem?_eq_some_iff.1 HY.out).1; exact this)]
            exact HY.out)
          obtain ⟨bl, ol, RQ, yq, rfl, hbl, hlq, hoq, e0, e1, e2, e3⟩ := J.out.q.get hin
          have hyq : yq = y := by
            have h1 : (expT (lr.map (·.2)) i y L j)[i]? = some yq := by rw [← J.out.e, List.getElem?_map, hlq]; rfl
            rw [HP.out] at h1; simpa using h1.symm
          subst hyq
          have HNX := Lib.hid hnx
          have hX := J.out.x
          rw [HCS.out] at hX
          have y2 := hX.cell 2
          have yl := hX.lt
          simp at y2
          have hSV := J.out.sn.sv yq (List.mem_of_getElem? HP.out)
          have hvl : yq.v.length = RQ.n := hoq.ints.len
          have hRn : RQ.n ≤ 65536 := by rw [← hvl, hSV.1, ← HST.out.1, HT.out.len]; exact htn
          have hb0r : Below w0.heap.size w0 wr := H0.out.trans (J.out.bl.mono H0.out.size)
          have hruv := HRU.out r2 (List.mem_of_getElem? hrq)
          have hSV2 : SV sz (applyP yq.v r2.e) := sv_apply hSV fun a ha z hz => (hruv.2 a ha).2.2 z hz
          have HSV2 := Lib.hid hSV2
          have hF2 := hru2.2.2.2.2.1
          have hen := hru2.2.2.2.2.2
          have hnmr : R2.nm = r2.nm := hru2.1
          have K9 := Lib.hid (fun (wx : World) (hx : Below wr.heap.size wr wx) => impl_apply (ga := R2.ga) (gn := R2.gn) (gc := R2.gc) (nm := R2.nm) ((hF2.keep hb0r).keep hx) hen (hoq.ints.keep hx) (by omega) (fun a ha => by
            have := hruv.2 a ha
            rw [← hvl, hSV.1]; exact ⟨this.1, this.2.1⟩))
          have hbq : Below wr.heap.size wr wr := Below.refl _ _
          clear hSV hb0r hruv hSV2 hF2 hen hnmr hru2 hX hoq hlq hxr hrq hq hz hz64 hnx e1 e2
          go_wp2_with fail
          go_region_held3 (fun wx => wx.cell? ⟨w.heap.size, 2, none⟩ = some (.slice (some ⟨br, or', none⟩) rn rc) ∧ wx.cell? ⟨br, or' + q * 3, none⟩ = some (.string R2.nm) ∧ wx.cell? ⟨br, or' + q * 3 + 1, none⟩ = some (.slice R2.ga R2.gn R2.gc) ∧ wx.cell? ⟨br, or' + q * 3 + 2, none⟩ = some (.slice R2.ea R2.en R2.ec) ∧ wx.cell? ⟨bl, ol + i * 4, none⟩ = some (.slice RQ.a RQ.n RQ.c) ∧ w.heap.size < wx.heap.size ∧ br < wx.heap.size ∧ bl < wx.heap.size ∧ Below wr.heap.size wr wx) (((try go_split_ands); (repeat' apply And.intro) <;> first | (with_reducible assumption) | (with_reducible exact cell_drew (by with_reducible assumption)) | (with_reducible exact lt_drew (by with_reducible assumption)) | (with_reducible exact Below.drew (by with_reducible assumption)) | (with_reducible exact (hcx _ _ (by with_reducible assumption)).trans (by with_reducible assumption)) | (with_reducible exact Nat.lt_of_lt_of_le (by with_reducible assumption) hsx) | (with_reducible exact below_callS (by with_reducible assumption) hbx) | omega)) (first | (go_at_call 161; go_split_ands; refine Calls.mono (K9.out _ (by assumption)) ?_; rintro e w7 ⟨a7, c7, rfl, ho7, hbx⟩; have HO7 := Lib.hid ho7; obtain ⟨hcx, hfx⟩ := bcell hbx; have hsx := hbx.size))
          have hb7 : Below wr.heap.size wr w7 := by go_split_ands; assumption
          have J7 := Lib.hid (J.out.keep hb7)
          have OE7 := Lib.hid (OE.out.keep hb7)
          have HB7 := Lib.hid hb7
          have hs7 := hb7.size
          clear K9 ho7 hbx hcx hfx hsx hb7 J OE
          go_split_ands
          go_wp2_with fail
          refine Calls.mono (impl_stateKey HO7.out.ints (by omega) (sv_range HZ.out HSV2.out)) ?_
          rintro e w8 ⟨rfl, hb8⟩
          have J8 := Lib.hid (J7.out.keep hb8)
          have hs8 := hb8.size
          have OE8 := Lib.hid (OE7.out.keep hb8)
          have O8 := Lib.hid (HO7.out.keep hb8)
          have hks : (ByteArray.mk (keyL (applyP yq.v r2.e)).toArray).size ≤ maxLen := by
            have h1 := O8.out.ints.len
            rw [show (ByteArray.mk (keyL (applyP yq.v r2.e)).toArray).size = (keyL (applyP yq.v r2.e)).length from List.size_toArray, keyL_len]
            unfold maxLen; omega
          have hlk := J8.out.m.look hks
          rw [data_keyL] at hlk
          cases hh : hasL (expT (lr.map (·.2)) i yq L j) (keyL (applyP yq.v r2.e)) with
          | true =>
            rw [hh] at hlk
            have HO := Lib.hid ((hasL_any HZ.out J8.out.sn.sv HSV2.out).symm.trans hh)
            go_wp2_with fail
            go_roundw
            case rel =>
              refine ⟨j + 1, n', c', _, l', rfl, by go_num, by omega, hnn, by omega, by omega, OE8, ?_⟩
              rw [expT_step HNX.out, addN_old HO.out]; exact J8
            case measure => simp [intOf]; omega
          | false =>
            rw [hh] at hlk
            have HN9 := Lib.hid ((hasL_any HZ.out J8.out.sn.sv HSV2.out).symm.trans hh)
            have hdp := J8.out.dp i yq HP.out
            have hlo8 := J8.out.lo
            have hml8 := J8.out.ml
            have HO8 := Lib.hid (O8.out.le (show w.heap.size + 1 ≤ _ by omega))
            clear hh O8 J7 OE7 HO7
            go_wp2_with (first
              | (refine SetM.put J8.out.m rfl _ _ _ rfl rfl (by unfold maxLen; omega) _ rfl rfl hks ?_; intro w9 hm9 hg9; have M9 := Lib.hid (hm9.congr fun k => (by rw [data_keyL])); have G9 := Lib.hid hg9; have hs9 := hg9.size; have Q9 := Lib.hid (J8.out.q.keepG hg9 J8.out.m.nc); have O9 := Lib.hid (HO8.out.keepG hg9 fun g e e' => (by cases e'; obtain ⟨cur, h1⟩ := HO8.out.typ e; exact J8.out.m.nc _ _ h1)); have OE9 := Lib.hid (OE8.out.keepG hg9 fun g e e' => (by cases e'; obtain ⟨cur, h1⟩ := OE8.out.typ e; exact J8.out.m.nc _ _ h1)); obtain ⟨b9, o9, R9, y9, he9, hb9, hl9, ho9, q0, q1, q2, q3⟩ := Q9.out.get hin; have hy9 : yq = y9 := (by (have h1 : (expT (lr.map (·.2)) i yq L j)[i]? = some y9 := (by rw [← J8.out.e, List.getElem?_map, hl9]; rfl)); rw [HP.out] at h1; simpa using h1); subst hy9; simp only [Option.some.injEq, Addr.mk.injEq, and_true] at he9; obtain ⟨hh1, hh2⟩ := he9; rw [← hh1] at hb9; rw [← hh1, ← hh2] at q3; clear hl9 ho9 q0 q1 q2 hh1 hh2 hm9 hg9)
              | (at_builtin; have hq9 := Q9; refine appQ rfl _ _ rfl (w.heap.size + 1) _ _ _ _ Q9.out rfl _ rfl rfl (⟨a7, _, c7⟩, ⟨applyP yq.v r2.e, (i : Nat), (q : Nat), yq.dp + 1, yq.tr ++ [(q : Int)]⟩) O9.out _ rfl (by omega) (by omega) ?_; intro g10 c10 w10 hq10 hb10 ht10 hat10 hs10; have J10 := Lib.hid (J8.out.app M9.out G9.out hq10 ht10 hb10 HP.out HSV2.out HN9.out); have OE10 := Lib.hid (OE9.out.keepT ht10 fun g e e' => typ_apart (fun {g} e => OE9.out.typ e) (fun {g} e => Q9.out.row.typ e) (by decide) g e e')))
            go_roundw
            case rel =>
              rw [← expT_step HNX.out] at J10
              exact ⟨j + 1, n' + 1, c10, _, _, rfl, by go_num, by omega, by omega, by omega, by omega, OE10, J10⟩
            case measure => simp [intOf]; omega
        · obtain rfl : j = ne := by omega
          have hjt' : ¬ (j : Int) < (j : Int) := by omega
          have HE : Hid (expT (lr.map (·.2)) i y L j = expN (lr.map (·.2)) i y L) := Lib.hid (expT_all (by rw [nextP_len, HRL.out, HEL.out]; exact Nat.le_refl _))
          have J2 := Lib.hid J.out
          rw [HE.out] at J2
          have hlen := J2.out.len
          by_cases hov : 4000 < n'
          · have hov' : (4000 : Int) < (n' : Int) := by omega
            have HD : Hid (bfsP (lr.map (·.2)) st = none) := Lib.hid (by
              rw [← HB.out, show f = (f - 1) + 1 from by omega]
              exact runN9_over HY.out (by omega))
            clear hlen
            go_wp2
            go_ret2
            refine ⟨J2.out.bl, ?_⟩
            rw [HD.out]
            rfl
          · have hov' : ¬ (4000 : Int) < (n' : Int) := by omega
            have HD : Hid (runN9 (lr.map (·.2)) (f - 1) (i + 1) (expN (lr.map (·.2)) i y L) = bfsP (lr.map (·.2)) st) := Lib.hid (by
              rw [← HB.out, show f = (f - 1) + 1 from by omega]
              exact (runN9_step HY.out (by omega)).symm)
            clear hlen
            go_wp2
            go_roundw
            case rel => exact ⟨i + 1, f - 1, n', c', _, _, _, rfl, by go_num, by omega, by omega, by omega, HD, J2⟩
            case measure => simp [intOf]; omega
    · obtain rfl : i = n := by omega
      have hlt' : ¬ (i : Int) < (i : Int) := by omega
      have HD : Hid (bfsP (lr.map (·.2)) st = some L) := Lib.hid (by
        rw [← HB.out, show f = (f - 1) + 1 from by omega]
        exact runN9_done (List.getElem?_eq_none (by rw [I.out.len]; exact Nat.le_refl _)))
      go_wp2
      go_ret2
      refine ⟨I.out.bl, ?_⟩
      rw [HD.out]
      exact ⟨_, _, _, _, by rfl, I.out.q.le (by omega), I.out.e⟩
theorem isNaN_i64c {x : Int} {w : World} : Calls Tryz.prog 215 #[.int .i64 x] w fun e w' => e = .returned (.bool false) ∧ w = w' := by
  have hx : (x != x) = false := by simp
  go_enter Tryz.func215, Tryz.ntmps215
  go_wp2
  go_ret
  exact ⟨by first | rfl | simp, rfl⟩
theorem cmp_Compare_i64 {x y : Int} {w : World} : Calls Tryz.prog 202 #[.int .i64 x, .int .i64 y] w fun e w' => e = .returned (.int .i64 (if x < y then -1 else if y < x then 1 else 0)) ∧ w = w' := by
  by_cases h1 : x < y
  · rw [if_pos h1]
    go_enter Tryz.func202, Tryz.ntmps202
    go_wp2_with fail
    refine Calls.mono (isNaN_i64c) ?_
    rintro e _ ⟨rfl, rfl⟩
    go_wp2_with fail
    refine Calls.mono (isNaN_i64c) ?_
    rintro e _ ⟨rfl, rfl⟩
    go_wp2
    go_ret
    exact ⟨rfl, rfl⟩
  · rw [if_neg h1]
    by_cases h2 : y < x
    · rw [if_pos h2]
      go_enter Tryz.func202, Tryz.ntmps202
      go_wp2_with fail
      refine Calls.mono (isNaN_i64c) ?_
      rintro e _ ⟨rfl, rfl⟩
      go_wp2_with fail
      refine Calls.mono (isNaN_i64c) ?_
      rintro e _ ⟨rfl, rfl⟩
      go_wp2
      go_ret
      exact ⟨rfl, rfl⟩
    · rw [if_neg h2]
      go_enter Tryz.func202, Tryz.ntmps202
      go_wp2_with fail
      refine Calls.mono (isNaN_i64c) ?_
      rintro e _ ⟨rfl, rfl⟩
      go_wp2_with fail
      refine Calls.mono (isNaN_i64c) ?_
      rintro e _ ⟨rfl, rfl⟩
      go_wp2
      go_ret
      exact ⟨rfl, rfl⟩
set_option maxHeartbeats 1000000 in
theorem slices_Compare_i64 {xa ya : Option Addr} {n xc yc : Nat} {x y : List Int} {w : World} (hX : Ints w xa n xc x) (hY : Ints w ya n yc y) (hn : n ≤ 1048576) :
    Calls Tryz.prog 185 #[.slice xa n xc, .slice ya n yc] w fun e w' => e = .returned (.int .i64 (cmpL x y)) ∧ w = w' := by
  have HX := Lib.hid hX
  have HY := Lib.hid hY
  clear hX hY
  go_enter Tryz.func185, Tryz.ntmps185
  go_wp2_with fail
  go_loop [11] (fun s11 => ∃ j : Nat, s11 = .int .i64 j ∧ j ≤ n ∧ Hid (x.take j = y.take j)) (fun s11 => n - (intOf s11).toNat)
  case atStart => exact ⟨0, rfl, by omega, Lib.hid rfl⟩
  case round =>
    obtain ⟨j, rfl, hj, A⟩ := hrel
    by_cases hlt : j < n
    · have hlt' : (j : Int) < (n : Int) := by omega
      have hge : ¬ (n : Int) ≤ (j : Int) := by omega
      have hj0 : (0 : Int) ≤ (j : Int) := by omega
      obtain ⟨b1, o1, u, rfl, hb1, hu, hc1, huw⟩ := HX.out.at hlt
      obtain ⟨b2, o2, v, rfl, hb2, hv, hc2, hvw⟩ := HY.out.at hlt
      have HU := Lib.hid hu
      have HV := Lib.hid hv
      have KC := cmp_Compare_i64 (x := u) (y := v) (w := w)
      clear hu hv
      by_cases h1 : u < v
      · have HQ := Lib.hid (cmpL_lt A.out HU.out HV.out h1)
        rw [if_pos h1] at KC
        go_wp2_with fail
        refine Calls.mono KC ?_
        rintro e _ ⟨rfl, rfl⟩
        go_wp2
        go_ret
        exact ⟨ret_int HQ.out.symm, rfl⟩
      · rw [if_neg h1] at KC
        by_cases h2 : v < u
        · have HQ := Lib.hid (cmpL_gt A.out HU.out HV.out h2)
          rw [if_pos h2] at KC
          go_wp2_with fail
          refine Calls.mono KC ?_
          rintro e _ ⟨rfl, rfl⟩
          go_wp2
          go_ret
          exact ⟨ret_int HQ.out.symm, rfl⟩
        · have HQ := Lib.hid (take_eq_step A.out HU.out (show y[j]? = some u by rw [HV.out]; congr 1; omega))
          rw [if_neg h2] at KC
          go_wp2_with fail
          refine Calls.mono KC ?_
          rintro e _ ⟨rfl, rfl⟩
          go_wp2
          go_round
          case rel => exact ⟨j + 1, by go_num, by omega, HQ⟩
          case measure => simp [intOf]; omega
    · obtain rfl : n = j := by omega
      have hlt' : ¬ (n : Int) < (n : Int) := by omega
      have HQ := Lib.hid (cmpL_done A.out (by rw [HX.out.len]; exact Nat.le_refl _) (by rw [HY.out.len]; exact Nat.le_refl _))
      go_wp2
      go_ret
      exact ⟨ret_int HQ.out.symm, rfl⟩
set_option maxHeartbeats 1000000 in
theorem slices_Equal_i64 {xa ya : Option Addr} {n xc yc : Nat} {x y : List Int} {w : World} (hX : Ints w xa n xc x) (hY : Ints w ya n yc y) (hn : n ≤ 1048576) :
    Calls Tryz.prog 187 #[.slice xa n xc, .slice ya n yc] w fun e w' => e = .returned (.bool (x == y)) ∧ Below w.heap.size w w' := by
  have HX := Lib.hid hX
  have HY := Lib.hid hY
  have hd : ((n : Int) != (n : Int)) = false := by simp
  clear hX hY
  go_enter Tryz.func187, Tryz.ntmps187
  go_wp2_with fail
  go_loopw [13] (fun s13 wr => ∃ j : Nat, s13 = .int .i64 j ∧ j ≤ n ∧ Below w.heap.size w wr ∧ Hid (x.take j = y.take j)) (fun s13 _ => n - (intOf s13).toNat)
  case atStart => exact ⟨0, rfl, by omega, Below.refl _ _, Lib.hid rfl⟩
  case round =>
    obtain ⟨j, rfl, hj, hbl, A⟩ := hrel
    by_cases hlt : j < n
    · have hlt' : (j : Int) < (n : Int) := by omega
      have hj0 : (0 : Int) ≤ (j : Int) := by omega
      obtain ⟨b1, o1, u, rfl, hb1, hu, hc1, huw⟩ := (HX.out.keep hbl).at hlt
      obtain ⟨b2, o2, v, rfl, hb2, hv, hc2, hvw⟩ := (HY.out.keep hbl).at hlt
      have HU := Lib.hid hu
      have HV := Lib.hid hv
      clear hu hv
      by_cases h1 : u = v
      · subst h1
        have hd2 : (u != u) = false := by simp
        have HQ := Lib.hid (take_eq_step A.out HU.out HV.out)
        go_wp2
        go_quiet (fail)
        go_wp2
        go_roundw
        case rel => exact ⟨j + 1, by go_num, by omega, bel, HQ⟩
        case measure => simp [intOf]; omega
      · have hd2 : (u != v) = true := by simpa using h1
        have HQ := Lib.hid (show (x == y) = false by
          rw [beq_eq_false_iff_ne]
          rintro rfl
          have := HU.out
          rw [HV.out] at this
          exact h1 (by simpa using this.symm))
        go_wp2
        go_quiet (fail)
        go_wp2
        go_ret
        exact ⟨ret_bool HQ.out.symm, bel⟩
    · obtain rfl : n = j := by omega
      have hlt' : ¬ (n : Int) < (n : Int) := by omega
      have HQ := Lib.hid (show (x == y) = true by
        have h := A.out
        rw [List.take_of_length_le (by rw [HX.out.len]; exact Nat.le_refl _), List.take_of_length_le (by rw [HY.out.len]; exact Nat.le_refl _)] at h
        simpa using h)
      go_wp2
      go_ret
      exact ⟨ret_bool HQ.out.symm, hbl⟩
end Go.Proofs.YtkaikbaagajckaaGreat
