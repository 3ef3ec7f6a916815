/- All reachable states of a model: the program, walked.; The diagram of the reachable states: the program, walked.; ReachDiagram: the program, walked.; ReachDiagram by what the model means.; What the arguments that came in read as: the step from a row's readings to the walks' own words.; What the listed package-level variables hold, cell by cell.; Models that came in. -/
import Derived.Test.YtkaikbaagajckaaGreatR21
import Derived.Test.YtkaikbaagajckaaGreatR20
import Derived.Test.YtkaikbaagajckaaGreatR07
import Derived.Test.YtkaikbaagajckaaGreatR08
import Derived.Test.YtkaikbaagajckaaGreatR22
import Derived.Test.YtkaikbaagajckaaGreatR12
import Derived.Test.YtkaikbaagajckaaGreatBase
import Derived.Deep.Slices
import Derived.Deep.Strs
import Derived.ChangeSame
import Derived.Lib.LaidTab
import Derived.Lib.SmallJoins
import Derived.Test.YtkaikbaagajckaaGreatR06
namespace Go.Proofs.YtkaikbaagajckaaGreat
open Go.RowKit
set_option linter.unusedVariables false
set_option linter.unusedSimpArgs false
/-- what the search of a model returns: the found states and a code -/
def EmRet (w : World) (ok : Bool) (R : Option (List SN)) (e : Ending) (w' : World) : Prop :=
  Below w.heap.size w w' ∧ match ok, R with
  | false, _ => e = .returned (.tuple #[.slice none 0 0, .int .i64 1])
  | true, none => e = .returned (.tuple #[.slice none 0 0, .int .i64 3])
  | true, some L => ∃ a n c l, e = .returned (.tuple #[.slice a n c, .int .i64 0]) ∧ QOwn w' w.heap.size a n c l ∧ l.map (·.2) = L
set_option maxHeartbeats 2000000 in
theorem impl_exploreModel {sa ta ra : Option Addr} {sn sc tn tc rn rc : Nat} {sz st : List Int} {lr : List (RM × RuD)} {w : World} (hS : Ints w sa sn sc sz) (hT : Ints w ta tn tc st) (hR : FR w w ra rn rc lr) (hsn : sn ≤ 1048576) (htn : tn ≤ 1048576) (hrn : rn ≤ 1048576) :
    Calls Tryz.prog 67 #[.agg #[.slice sa sn sc, .slice ta tn tc, .slice ra rn rc], .slice none 0 0] w (EmRet w (modelB sz st lr) (bfsP (lr.map (·.2)) st)) := by
  have K1 := Lib.hid (fun (wx : World) (hb : Below w.heap.size w wx) => impl_IsModel (hS.keep hb) hsn (hT.keep hb) htn (hR.self hb) hrn)
  cases hm : modelB sz st lr with
  | false =>
    rw [hm] at K1
    clear hS hT hR hm
    go_enter Tryz.func67, Tryz.ntmps67
    go_wp2_with fail
    refine Calls.mono (K1.out _ bel) ?_
    rintro e w1 ⟨rfl, hb1⟩
    go_wp2
    go_ret2
    exact ⟨bel, rfl⟩
  | true =>
    rw [hm] at K1
    obtain ⟨g1, g2, g3, g4, g5, g6⟩ := model_gives hm
    have hsl := hS.len
    have hrl := hR.len
    have htl : tn ≤ 16 := by rw [← hT.len, g2.1]; exact g4
    have hgn : ∀ x ∈ lr, x.1.gn ≤ 1048576 ∧ x.1.en ≤ 1048576 := fun x hx => by
      have h := hR.wf x hx
      exact ⟨h.2.2.2.1, h.2.2.2.2.2⟩
    have K2 := Lib.hid (fun (wx : World) (hb : Below w.heap.size w wx) => impl_areTests (g := []) (ga := none) (gn := 0) (gc := 0) (ta := ta) (tn := tn) (tc := tc) (ra := ra) (rn := rn) (rc := rc) (hS.keep hb) hsn g6 ⟨rfl, Nat.le_refl _, .inl rfl, (fun x hx => by cases hx), fun _ => ⟨rfl, rfl⟩⟩ (by decide))
    have K3 := Lib.hid (fun (wx : World) (hb : Below w.heap.size w wx) => impl_explore (sa := sa) (sn := sn) (sc := sc) (w0 := wx) (w := wx) (Below.refl _ _) (hR.self hb) (by omega) (hT.keep hb) (by omega) g1 g2 g3 hgn)
    clear hS hT hR hm g1 g2 g3 g4 g5 g6 hsl hrl htl hgn
    have X := Lib.hid (Blk.made w #[.slice sa sn sc, .slice ta tn tc, .slice ra rn rc] 36)
    go_enter Tryz.func67, Tryz.ntmps67
    go_wp2_with fail
    refine Calls.mono (K1.out _ bel) ?_
    rintro e w1 ⟨rfl, hb1⟩
    have X1 := Lib.hid (X.out.keep hb1)
    have x0 := X1.out.cell 0
    have x1 := X1.out.cell 1
    have x2 := X1.out.cell 2
    have xl := X1.out.lt
    simp at x0 x1 x2
    go_wp2_with fail
    refine Calls.mono (K2.out _ bel) ?_
    rintro e w2 ⟨rfl, hb2⟩
    have X2 := Lib.hid (X1.out.keep hb2)
    clear x0 x1 x2 xl
    have x0 := X2.out.cell 0
    have x1 := X2.out.cell 1
    have x2 := X2.out.cell 2
    have xl := X2.out.lt
    simp at x0 x1 x2
    have HT0 := Lib.hid (show testsB sz [] = true from rfl)
    rw [HT0.out]
    go_wp2_with fail
    have hb3 : Below w.heap.size w w2 := bel
    refine Calls.mono (K3.out _ hb3) ?_
    intro e w3 he
    cases hr : bfsP (lr.map (·.2)) st with
    | none =>
      rw [hr] at he
      obtain ⟨hb4, rfl⟩ := he
      go_wp2
      go_ret2
      refine ⟨below_call hb3 hb4 hb3.size, ?_⟩
      rw [hr]
      rfl
    | some L =>
      rw [hr] at he
      obtain ⟨hb4, a, n, c, l, rfl, hq, hl⟩ := he
      have HQ := Lib.hid hq
      have HL := Lib.hid hl
      clear hq hl
      go_wp2
      go_ret2
      refine ⟨below_call hb3 hb4 hb3.size, ?_⟩
      rw [hr]
      exact ⟨_, _, _, _, by rfl, HQ.out.le hb3.size, HL.out⟩
end Go.Proofs.YtkaikbaagajckaaGreat
namespace Go.Proofs.YtkaikbaagajckaaGreat
open Go.RowKit
set_option linter.unusedVariables false
set_option linter.unusedSimpArgs false
attribute [local go_sem ↓] Go.wp_at_zero Go.wp_at_succ
theorem srt_states {sz : List Int} {xs : List (List Int)} (h : ∀ x ∈ xs, stateB sz x = true) : ∀ x ∈ srtS xs, stateB sz x = true :=
  fun x hx => h x ((srt_mem (m := sz.length) (fun y hy => stateB_len (h y hy)) x).1 hx)
set_option maxRecDepth 100000 in
set_option maxHeartbeats 4000000 in
theorem impl_setDiagram {sa ta ra a : Option Addr} {sn sc tn tc rn rc n c lo l2 : Nat} {sz : List Int} {l : List (QM × List Int)} {w : World} (hI : Ints w sa sn sc sz) (hn : sn ≤ 16) (hs : allIn 1 32 sz = true) (hsm : smB sz = true) (hO : SRow w lo l2 a n c l) (hE : ∀ x ∈ l, stateB sz x.2 = true) (hsa : sn = 0 ∨ ∀ g off, sa = some ⟨g, off, none⟩ → g < lo) (hn' : n ≤ 1048576) (hlo : lo ≤ w.heap.size) :
    Calls Tryz.prog 68 #[.agg #[.slice sa sn sc, .slice ta tn tc, .slice ra rn rc], .slice a n c] w fun e w' => ∃ da dc, e = .returned (.tuple #[.agg #[.int .i64 (sdgN sz (srtS (l.map (·.2)))).1, .slice da (sdgN sz (srtS (l.map (·.2)))).2.1.length dc, .int .i64 (sdgN sz (srtS (l.map (·.2)))).2.2.1], .int .i64 (sdgN sz (srtS (l.map (·.2)))).2.2.2]) ∧ OwnF 3 I3.enc I3.ok 117 w' w.heap.size da (sdgN sz (srtS (l.map (·.2)))).2.1.length dc (sdgN sz (srtS (l.map (·.2)))).2.1 ∧ Below lo w w' := by
  obtain rfl : sz.length = sn := hI.len
  have hsum := (off_sum hs hn).1
  have hofl := sm_off hs hsm
  have hEm : ∀ x ∈ l, x.1.n = sz.length := fun x hx => by rw [← (hO.each x hx).ints.len]; exact stateB_len (hE x hx)
  have hst : ∀ x ∈ srtS (l.map (·.2)), stateB sz x = true := srt_states fun x hx => by
    obtain ⟨y, hy, rfl⟩ := List.mem_map.1 hx
    exact hE y hy
  have HI := Lib.hid (fun (wx : World) (hb : Below lo w wx) => hI.keepL hb hsa)
  have HS := Lib.hid hs
  have HST := Lib.hid hst
  obtain ⟨w1, hw1⟩ : ∃ w1, w1 = (w.alloc (.cells #[.slice sa sz.length sc, .slice ta tn tc, .slice ra rn rc] 36)).alloc (.cells #[.int .i64 0, .slice none 0 0, .int .i64 0] 40) := ⟨_, rfl⟩
  have hbA : Below w.heap.size w w1 := by rw [hw1]; exact below_alloc1 (below_alloc1 (Below.refl _ _) _) _
  have hsA : w1.heap.size = w.heap.size + 1 + 1 := by rw [hw1]; simp
  have X1 := Lib.hid (show Blk w1 w.heap.size #[.slice sa sz.length sc, .slice ta tn tc, .slice ra rn rc] 36 by rw [hw1]; exact (Blk.made _ _ _).keep (below_alloc1 (Below.refl _ _) _))
  have R1 := Lib.hid (show Blk w1 (w.heap.size + 1) #[.int .i64 0, .slice none 0 0, .int .i64 0] 40 by rw [hw1]; exact Blk.made1 _ _ _ _)
  have S1 := Lib.hid (hO.keep hbA)
  have HB1 := Lib.hid (hbA.mono hlo)
  have HEM := Lib.hid hEm
  have hkw := impl_widths (ta := ta) (tn := tn) (tc := tc) (ra := ra) (rn := rn) (rc := rc) (HI.out w1 HB1.out) (by omega) hs
  rw [hsum] at hkw
  have KW := Lib.hid hkw
  clear hI hs hO hE hEm hst hbA hkw hsum
  have x0 := X1.out.cell 0
  have x1 := X1.out.cell 1
  have x2 := X1.out.cell 2
  have xl := X1.out.lt
  simp only [List.getElem?_toArray, List.getElem?_cons_zero, List.getElem?_cons_succ] at x0 x1 x2
  go_enter Tryz.func68, Tryz.ntmps68
  go_wp2_with fail
  rw [← hw1]
  clear hw1
  refine Calls.mono KW.out ?_
  rintro e w2 ⟨aw, cw, rfl, hb2, hW⟩
  clear hW
  have X2 := Lib.hid (X1.out.keep hb2)
  have R2 := Lib.hid (R1.out.keep hb2)
  have S2 := Lib.hid (S1.out.keep hb2)
  have hs2 := hb2.size
  have HB2 := Lib.hid (below_call HB1.out hb2 (by omega))
  clear hb2 X1 R1 S1 HB1 KW x0 x1 x2 xl
  go_wp2_with fail
  refine Calls.mono (impl_sortedG S2.out HEM.out hn' (by omega) (by omega)) ?_
  rintro e w3 ⟨n2, rfl, hn2, ls, hS3, hE3, hsr3, hb3, ht3⟩
  have X3 := Lib.hid (X2.out.keepA ht3 (blk_ne X2.out (fun {g} e => S2.out.row.typ e) (by decide)))
  have R3 := Lib.hid (R2.out.keepA ht3 (blk_ne R2.out (fun {g} e => S2.out.row.typ e) (by decide)))
  have S3 := Lib.hid hS3
  have HSR := Lib.hid hsr3
  have HB3 := Lib.hid (HB2.out.trans hb3)
  have hs3 := ht3.size
  have hls : ∀ x ∈ ls, stateB sz x.2 = true := fun x hx => HST.out x.2 (by rw [← hsr3]; exact List.mem_map_of_mem hx)
  have HLS := Lib.hid hls
  have hll := hS3.len
  clear hS3 hsr3 hb3 ht3 X2 R2 S2 HB2 hls hE3
  go_wp2_with fail
  have L0 := Lib.hid (SRow.nil w3 w3.heap.size w3.heap.size)
  have hw3 : w3.heap.size ≤ w3.heap.size := Nat.le_refl _
  have B0 := Lib.hid (Below.refl w3.heap.size w3)
  go_loopw [8, 10, 20] (fun s8 _ s20 wr => ∃ (j cd : Nat) (ad : Option Addr) (ld : List (QM × List Int)), s8 = .slice ad j cd ∧ s20 = .int .i64 j ∧ j ≤ n2 ∧ w3.heap.size ≤ wr.heap.size ∧ Hid (Below w3.heap.size w3 wr) ∧ Hid (SRow wr w3.heap.size w3.heap.size ad j cd ld) ∧ Hid (ld.map (·.2) = (ls.take j).map fun x => stBits sz x.2)) (fun _ _ s20 _ => n2 - (intOf s20).toNat)
  case atStart => exact ⟨0, 0, none, [], rfl, rfl, by omega, hw3, B0, L0, Lib.hid (by simp)⟩
  case round =>
    clear L0 B0
    obtain ⟨j, cd, ad, ld, rfl, rfl, hj, hsr, HB, SD, A⟩ := hrel
    have X4 := Lib.hid (X3.out.keep HB.out)
    have x0 := X4.out.cell 0
    have x1 := X4.out.cell 1
    have x2 := X4.out.cell 2
    have xl := X4.out.lt
    simp only [List.getElem?_toArray, List.getElem?_cons_zero, List.getElem?_cons_succ] at x0 x1 x2
    by_cases hlt : j < n2
    · have hlt' : (j : Int) < (n2 : Int) := by omega
      have hj0 : (0 : Int) ≤ (j : Int) := by omega
      obtain ⟨b, off, Q, v, rfl, hb, hx, hv, hc⟩ := (S3.out.keep HB.out).get hlt
      have HA := Lib.hid (show ∀ q : QM, (ld ++ [(q, stBits sz v)]).map (·.2) = (ls.take (j + 1)).map fun x => stBits sz x.2 from fun q => by rw [List.map_append, A.out, take_at hx, List.map_append]; rfl)
      have KB := Lib.hid (impl_bitsOf (ta := ta) (tn := tn) (tc := tc) (ra := ra) (rn := rn) (rc := rc) (HI.out wr (HB3.out.trans (HB.out.mono (by omega)))) hv.ints hn HS.out (HLS.out _ (List.mem_of_getElem? hx)))
      clear hx hv A
      go_wp2_with fail
      refine Calls.mono KB.out ?_
      rintro e w6 ⟨m6, a6, c6, rfl, hb6, ho6, hm6⟩
      have O6 := Lib.hid (ho6.le (show w3.heap.size ≤ _ by omega))
      have S6 := Lib.hid (SD.out.keep hb6)
      have HB6 := Lib.hid (below_call HB.out hb6 (by omega))
      have hs6 := hb6.size
      clear hb6 ho6 x0 x1 x2 xl X4 KB SD HB hc hb
      go_wp2_with (at_builtin; refine appS rfl _ _ rfl w3.heap.size w3.heap.size _ _ _ _ S6.out rfl _ rfl (by first | rfl | (simp; done)) (⟨a6, m6, c6⟩, stBits sz v) O6.out _ rfl (by omega) (by (try simp); omega) ?_; intro g' c7 w7 h1 h2 h3 h4 h5; have S7 := Lib.hid h1; have HB7 := Lib.hid (HB6.out.trans h2); have hs7 := h2.size; clear h1 h2 h3 h4 h5)
      go_roundw
      case rel => exact ⟨j + 1, c7, _, _, by go_num, by go_num, by omega, by omega, HB7, S7, Lib.hid (HA.out _)⟩
      case measure => simp [intOf]; omega
    · have hlt' : ¬ (j : Int) < (n2 : Int) := by omega
      obtain rfl : n2 = j := by omega
      have hA := A.out
      rw [List.take_of_length_le (by rw [hll]; exact Nat.le_refl _)] at hA
      have hAm : ld.map (·.2) = (srtS (l.map (·.2))).map (stBits sz) := by rw [hA, ← HSR.out, List.map_map]; rfl
      have hld : ∀ x ∈ ld, x.2.length = offN sz sz.length := fun x hx => by
        have h1 : x.2 ∈ ld.map (·.2) := List.mem_map_of_mem hx
        rw [hA] at h1
        obtain ⟨y, hy, e⟩ := List.mem_map.1 h1
        rw [← e]
        exact stb_len (stv_of HS.out (HLS.out y hy))
      have HLD := Lib.hid hld
      obtain ⟨i1, i2, _, _⟩ := st_inv (n := offN sz sz.length) (offN sz sz.length) 0 ((srtS (l.map (·.2))).map (stBits sz)) [] (Snd.nil _) (by omega)
      have i3 := (st_ref (offN sz sz.length) 0 ((srtS (l.map (·.2))).map (stBits sz)) []).2.2
      have h20 : 2 ^ offN sz sz.length ≤ 1048576 := Nat.le_trans (Nat.pow_le_pow_right (by decide) hofl) (by decide)
      have hsd : sdgN sz (srtS (l.map (·.2))) = lmC (offN sz sz.length : Int) (canN mkN (stN (offN sz sz.length) 0 ((srtS (l.map (·.2))).map (stBits sz)) []).1 (stN (offN sz sz.length) 0 ((srtS (l.map (·.2))).map (stBits sz)) []).2).1 (canN mkN (stN (offN sz sz.length) 0 ((srtS (l.map (·.2))).map (stBits sz)) []).1 (stN (offN sz sz.length) 0 ((srtS (l.map (·.2))).map (stBits sz)) []).2).2 := rfl
      rw [← hAm] at i1 i2 i3 hsd
      obtain ⟨⟨P1, P2⟩, hP⟩ : ∃ x, stN (offN sz sz.length) 0 (ld.map (·.2)) [] = x := ⟨_, rfl⟩
      rw [hP] at i1 i2 i3 hsd
      simp only at i1 i2 i3 hsd
      obtain ⟨⟨C1, C2⟩, hC⟩ : ∃ x, canN mkN P1 P2 = x := ⟨_, rfl⟩
      rw [hC] at hsd
      simp only at hsd
      have HRD := Lib.hid i1.redu
      have HP := Lib.hid hP
      have HC := Lib.hid hC
      have HSD := Lib.hid hsd
      simp only [List.length_nil, Nat.zero_add] at i3
      clear hP hC hsd
      have R4 := Lib.hid (R3.out.keep HB.out)
      have HB4 := Lib.hid (HB3.out.trans (HB.out.mono (show lo ≤ w3.heap.size by omega)))
      clear hA hAm hld A i1
      go_wp2_with fail
      refine Calls.mono impl_newForest ?_
      rintro e w5 ⟨p, mb, rfl, hFor, hb5, hp5⟩
      have A5 := Lib.hid (SD.out.lsA.keep hb5)
      have F5 := Lib.hid hFor
      have R5 := Lib.hid (R4.out.keep hb5)
      have HB5 := Lib.hid (below_call HB4.out hb5 (by omega))
      have hs5 := hb5.size
      have hrr := R4.out.lt
      clear hFor hb5 hp5 x0 x1 x2 xl X4 SD HB R4 HB4
      go_wp2_with fail
      refine Calls.mono (impl_setOf (N := offN sz sz.length) (offN sz sz.length) 0 ld [] ad n2 cd w5 A5.out HLD.out ⟨_, _, _, F5.out⟩ (by omega) hofl (by omega) (by simp; omega) hs5) ?_
      rintro e w6 ⟨rfl, ⟨na6, nc6, mn6, hF6⟩, hf6⟩
      rw [HP.out] at hF6 ⊢
      have hb6 := hf6.below (Below.refl wr.heap.size w5) hs5 (Nat.le_refl _) F5.out.lop F5.out.lom
      have R6 := Lib.hid (R5.out.keepB hb6 hrr)
      have F6 := Lib.hid hF6
      have HB6 := Lib.hid (HB5.out.trans (hb6.mono (by omega)))
      have hs6 := hf6.size
      clear hF6 hf6 hb6 A5 F5 R5 HB5
      go_wp2_with fail
      refine Calls.mono (impl_limitedC F6.out HRD.out (by omega) (by unfold I64; omega) i2) ?_
      rintro e w7 ⟨da, dc, rfl, hO7, hb7⟩
      rw [HC.out] at hO7 ⊢
      simp only at hO7 ⊢
      rw [← HSD.out] at hO7 ⊢
      have O7 := Lib.hid hO7
      have R7 := Lib.hid (R6.out.keep hb7)
      have HB7 := Lib.hid (below_call HB6.out hb7 (by omega))
      have hs7 := hb7.size
      have hrl6 := R6.out.lt
      clear hO7 hb7 R6 F6 HB6
      have r0 := R7.out.cell 0
      have r1 := R7.out.cell 1
      have r2 := R7.out.cell 2
      have rl := R7.out.lt
      have rf := R7.out.free
      simp only [List.getElem?_toArray, List.getElem?_cons_zero, List.getElem?_cons_succ] at r0 r1 r2
      obtain ⟨⟨D1, D2, D3, D4⟩, hD⟩ : ∃ D, sdgN sz (srtS (l.map (·.2))) = D := ⟨_, rfl⟩
      rw [hD] at O7 ⊢
      simp only at O7
      have HD := Lib.hid hD
      clear hD HSD
      go_wp2
      have hne : ∀ y, da = some ⟨y, 0, none⟩ → (some (w.heap.size + 1) : Option Nat) ≠ some y := fun y e e' => by
        have := (O7.out.blk y e).1
        simp at e'
        omega
      refine bodyPost_ret (v := .tuple #[.agg #[.int .i64 D1, .slice da D2.length dc, .int .i64 D3], .int .i64 D4]) (by simp [results, Tryz.results68, go_sem, *]) rfl ⟨da, dc, by rw [HD.out], ?_, ?_⟩
      · rw [HD.out]
        exact (((O7.out.keepG (set_grown _ _ _) hne).keepG (set_grown _ _ _) hne).keepG (set_grown _ _ _) hne).le (by omega)
      · exact bel
end Go.Proofs.YtkaikbaagajckaaGreat
namespace Go.Proofs.YtkaikbaagajckaaGreat
open Go.RowKit
set_option linter.unusedVariables false
set_option linter.unusedSimpArgs false
attribute [local go_sem ↓] Go.wp_at_zero Go.wp_at_succ
theorem Ints.lies {w : World} {a : Option Addr} {n c : Nat} {l : List Int} (h : Ints w a n c l) : n = 0 ∨ ∀ g off, a = some ⟨g, off, none⟩ → g < w.heap.size := by
  rcases h.pos with h0 | ⟨b, o, ha, hb, _⟩
  · exact .inl h0
  · refine .inr fun g off e => ?_
    rw [ha] at e
    simp only [Option.some.injEq, Addr.mk.injEq] at e
    omega
theorem impl_ReachDiagram_1 {v : Value} {w : World} : Calls Tryz.prog 70 (#[v] ++ #[]) w fun e w' => e = .returned (.bool true) ∧ w = w' := by
  show Calls _ _ #[v] _ _
  go_enter Tryz.func70, Tryz.ntmps70
  go_wp2
  go_ret
  exact ⟨rfl, rfl⟩
set_option maxRecDepth 100000 in
set_option maxHeartbeats 8000000 in
theorem impl_ReachDiagram {sa ta ra : Option Addr} {sn sc tn tc rn rc : Nat} {sz st : List Int} {l : List (RM × RuD)} {w : World} (hI : Ints w sa sn sc sz) (hn : sn ≤ 1048576) (hT : Ints w ta tn tc st) (ht : tn ≤ 1048576) (hR : FR w w ra rn rc l) (hr : rn ≤ 1048576) :
    Calls Tryz.prog 23 #[.agg #[.slice sa sn sc, .slice ta tn tc, .slice ra rn rc]] w (DgR w (rcC sz st l)) := by
  have hb0 : Below w.heap.size w ((w.alloc (.cells #[.slice sa sn sc, .slice ta tn tc, .slice ra rn rc] 36)).alloc (.cells #[.int .i64 0, .slice none 0 0, .int .i64 0] 40)) := below_alloc1 (below_alloc1 (Below.refl _ _) _) _
  have X := Lib.hid ((Blk.made w #[.slice sa sn sc, .slice ta tn tc, .slice ra rn rc] 36).keep (below_alloc1 (Below.refl _ _) (.cells #[.int .i64 0, .slice none 0 0, .int .i64 0] 40)))
  have R := Lib.hid (Blk.made1 w (.cells #[.slice sa sn sc, .slice ta tn tc, .slice ra rn rc] 36) #[.int .i64 0, .slice none 0 0, .int .i64 0] 40)
  have KM := fun (wx : World) (hb : Below w.heap.size w wx) => impl_IsModel (hI.keep hb) hn (hT.keep hb) ht (hR.self hb) hr
  have KE := fun (wx : World) (hb : Below w.heap.size w wx) => impl_exploreModel (hI.keep hb) (hT.keep hb) (hR.self hb) hn ht hr
  have hdone : ∀ (code : Int) (wz : World), rcC sz st l = (0, [], 0, code) → Below w.heap.size w wz → Hid (DgR w (rcC sz st l) (.returned (.tuple #[.agg #[.int .i64 0, .slice none 0 0, .int .i64 0], .int .i64 code])) wz) := fun code wz h hb => Lib.hid (by
    rw [h]
    exact ⟨none, 0, rfl, ⟨World.ownsRow_nil _ _ _ 3, (fun _ h => by cases h), rfl, fun _ => rfl⟩, hb⟩)
  cases hm : modelB sz st l
  · simp only [hm] at KM KE
    have K1 := Lib.hid KM
    have K2 := Lib.hid KE
    have HD := Lib.hid (fun wz => hdone 1 wz (rcC_1 hm))
    clear KM KE hdone hm hI hT hR
    go_enter Tryz.func23, Tryz.ntmps23
    go_wp2_with fail
    refine Calls.mono (K1.out _ hb0) ?_
    rintro e w1 ⟨rfl, hb⟩
    have X1 := Lib.hid (X.out.keep hb)
    have R1 := Lib.hid (R.out.keep hb)
    have HB1 := Lib.hid (below_callS hb0 hb)
    clear hb X R hb0
    have x0 := X1.out.cell 0
    have x1 := X1.out.cell 1
    have x2 := X1.out.cell 2
    have xl := X1.out.lt
    simp only [List.getElem?_toArray, List.getElem?_cons_zero, List.getElem?_cons_succ] at x0 x1 x2
    go_wp2_with fail
    refine Calls.mono (K2.out _ HB1.out) ?_
    rintro e w2 ⟨hb, rfl⟩
    have R2 := Lib.hid (R1.out.keep hb)
    have HB2 := Lib.hid (below_callS HB1.out hb)
    clear hb X1 R1 x0 x1 x2 xl
    have r0 := R2.out.cell 0
    have r1 := R2.out.cell 1
    have r2 := R2.out.cell 2
    have rl := R2.out.lt
    have rf := R2.out.free
    simp only [List.getElem?_toArray, List.getElem?_cons_zero, List.getElem?_cons_succ] at r0 r1 r2
    have hbz : Below w.heap.size w w2 := HB2.out
    go_wp2
    refine bodyPost_ret (v := .tuple #[.agg #[.int .i64 0, .slice none 0 0, .int .i64 0], .int .i64 1]) (by simp [results, Tryz.results23, go_sem, *]) rfl ((HD.out _ ?_).out)
    exact bel
  · simp only [hm] at KM KE
    have hs := modelB_all hm
    have KS := fun (wx : World) (hb : Below w.heap.size w wx) => impl_isSmall (ta := ta) (tn := tn) (tc := tc) (ra := ra) (rn := rn) (rc := rc) (hI.keep hb) hn hs
    have K1 := Lib.hid KM
    cases hq : smB sz
    · simp only [hq] at KS
      have K2 := Lib.hid KS
      have HD := Lib.hid (fun wz => hdone 3 wz (rcC_2 hm hq))
      clear KM KE KS hdone hm hs hq hI hT hR
      go_enter Tryz.func23, Tryz.ntmps23
      go_wp2_with fail
      refine Calls.mono (K1.out _ hb0) ?_
      rintro e w1 ⟨rfl, hb⟩
      have X1 := Lib.hid (X.out.keep hb)
      have R1 := Lib.hid (R.out.keep hb)
      have HB1 := Lib.hid (below_callS hb0 hb)
      clear hb X R hb0
      have x0 := X1.out.cell 0
      have x1 := X1.out.cell 1
      have x2 := X1.out.cell 2
      have xl := X1.out.lt
      simp only [List.getElem?_toArray, List.getElem?_cons_zero, List.getElem?_cons_succ] at x0 x1 x2
      go_wp2_with fail
      refine Calls.mono (K2.out _ HB1.out) ?_
      rintro e w2 ⟨rfl, hb⟩
      have R2 := Lib.hid (R1.out.keep hb)
      have HB2 := Lib.hid (below_callS HB1.out hb)
      clear hb X1 R1 x0 x1 x2 xl
      have r0 := R2.out.cell 0
      have r1 := R2.out.cell 1
      have r2 := R2.out.cell 2
      have rl := R2.out.lt
      have rf := R2.out.free
      simp only [List.getElem?_toArray, List.getElem?_cons_zero, List.getElem?_cons_succ] at r0 r1 r2
      have hbz : Below w.heap.size w w2 := HB2.out
      go_wp2
      refine bodyPost_ret (v := .tuple #[.agg #[.int .i64 0, .slice none 0 0, .int .i64 0], .int .i64 3]) (by simp [results, Tryz.results23, go_sem, *]) rfl ((HD.out _ ?_).out)
      exact bel
    · simp only [hq] at KS
      have K2 := Lib.hid KS
      cases hbf : bfsP (l.map (·.2)) st with
      | none =>
        simp only [hbf] at KE
        have K3 := Lib.hid KE
        have HD := Lib.hid (fun wz => hdone 3 wz (rcC_3 hm hq hbf))
        clear KM KE KS hdone hm hs hq hbf hI hT hR
        go_enter Tryz.func23, Tryz.ntmps23
        go_wp2_with fail
        refine Calls.mono (K1.out _ hb0) ?_
        rintro e w1 ⟨rfl, hb⟩
        have X1 := Lib.hid (X.out.keep hb)
        have R1 := Lib.hid (R.out.keep hb)
        have HB1 := Lib.hid (below_callS hb0 hb)
        clear hb X R hb0
        have x0 := X1.out.cell 0
        have x1 := X1.out.cell 1
        have x2 := X1.out.cell 2
        have xl := X1.out.lt
        simp only [List.getElem?_toArray, List.getElem?_cons_zero, List.getElem?_cons_succ] at x0 x1 x2
        go_wp2_with fail
        refine Calls.mono (K2.out _ HB1.out) ?_
        rintro e w2 ⟨rfl, hb⟩
        have X2 := Lib.hid (X1.out.keep hb)
        have R2 := Lib.hid (R1.out.keep hb)
        have HB2 := Lib.hid (below_callS HB1.out hb)
        clear hb X1 R1 x0 x1 x2 xl
        have x0 := X2.out.cell 0
        have x1 := X2.out.cell 1
        have x2 := X2.out.cell 2
        have xl := X2.out.lt
        simp only [List.getElem?_toArray, List.getElem?_cons_zero, List.getElem?_cons_succ] at x0 x1 x2
        go_wp2_with fail
        refine Calls.mono (K3.out _ HB2.out) ?_
        rintro e w3 ⟨hb, rfl⟩
        have R3 := Lib.hid (R2.out.keep hb)
        have HB3 := Lib.hid (below_callS HB2.out hb)
        clear hb X2 R2 x0 x1 x2 xl
        have r0 := R3.out.cell 0
        have r1 := R3.out.cell 1
        have r2 := R3.out.cell 2
        have rl := R3.out.lt
        have rf := R3.out.free
        simp only [List.getElem?_toArray, List.getElem?_cons_zero, List.getElem?_cons_succ] at r0 r1 r2
        have hbz : Below w.heap.size w w3 := HB3.out
        go_wp2
        refine bodyPost_ret (v := .tuple #[.agg #[.int .i64 0, .slice none 0 0, .int .i64 0], .int .i64 3]) (by simp [results, Tryz.results23, go_sem, *]) rfl ((HD.out _ ?_).out)
        exact bel
      | some L =>
        simp only [hbf] at KE
        have K3 := Lib.hid KE
        have hrc := rcC_4 hm hq hbf
        obtain ⟨hsn, hstb⟩ := bfs_gives hm hbf
        have hL4 : L.length ≤ 4000 := bfs_few hbf
        have hn16 : sn ≤ 16 := by have := modelB_len hm; have := hI.len; omega
        have hlies := hI.lies
        have HI := Lib.hid hI
        have HS := Lib.hid hs
        have HQ := Lib.hid hq
        have HRC := Lib.hid hrc
        have HST := Lib.hid hstb
        clear KM KE KS hdone hm hs hq hbf hI hT hR hrc hstb
        go_enter Tryz.func23, Tryz.ntmps23
        go_wp2_with fail
        refine Calls.mono (K1.out _ hb0) ?_
        rintro e w1 ⟨rfl, hb⟩
        have X1 := Lib.hid (X.out.keep hb)
        have R1 := Lib.hid (R.out.keep hb)
        have HB1 := Lib.hid (below_callS hb0 hb)
        clear hb X R hb0
        have x0 := X1.out.cell 0
        have x1 := X1.out.cell 1
        have x2 := X1.out.cell 2
        have xl := X1.out.lt
        simp only [List.getElem?_toArray, List.getElem?_cons_zero, List.getElem?_cons_succ] at x0 x1 x2
        go_wp2_with fail
        refine Calls.mono (K2.out _ HB1.out) ?_
        rintro e w2 ⟨rfl, hb⟩
        have X2 := Lib.hid (X1.out.keep hb)
        have R2 := Lib.hid (R1.out.keep hb)
        have HB2 := Lib.hid (below_callS HB1.out hb)
        clear hb X1 R1 x0 x1 x2 xl
        have x0 := X2.out.cell 0
        have x1 := X2.out.cell 1
        have x2 := X2.out.cell 2
        have xl := X2.out.lt
        simp only [List.getElem?_toArray, List.getElem?_cons_zero, List.getElem?_cons_succ] at x0 x1 x2
        go_wp2_with fail
        refine Calls.mono (K3.out _ HB2.out) ?_
        rintro e w3 ⟨hb, a3, n3, c3, l3, rfl, hQ3, hl3⟩
        have X3 := Lib.hid (X2.out.keep hb)
        have R3 := Lib.hid (R2.out.keep hb)
        have HB3 := Lib.hid (below_callS HB2.out hb)
        have HQ3 := Lib.hid hQ3
        have hs3 := HB3.out.size
        have hs2 := HB2.out.size
        have hs23 := hb.size
        have hn3 : n3 ≤ 4000 := by rw [← hQ3.row.flats.len, ← List.length_map (f := fun x : QM × SN => x.2), hl3]; exact hL4
        have hmv : l3.map (·.2.v) = L.map (·.v) := by rw [← hl3, List.map_map]; rfl
        have hPm : ∀ x ∈ l3, x.2.v.length = sz.length := fun x hx => (hsn.sv x.2 (by rw [← hl3]; exact List.mem_map_of_mem hx)).1
        have KT := Lib.hid (fun (wx : World) (hb : Below w3.heap.size w3 wx) => impl_statesOfT (g := 70) (fun _ _ => by kernel_rfl) (fun W v => impl_ReachDiagram_1) (hQ3.keep hb) (show w2.heap.size ≤ wx.heap.size by have := hb.size; omega) hPm (by rw [HI.out.len]; omega) (by omega))
        rw [hmv] at KT
        have hxr : w.heap.size + 1 < w3.heap.size := R3.out.lt
        clear hb X2 R2 x0 x1 x2 xl hQ3 hl3 hmv hPm HQ3
        have x0 := X3.out.cell 0
        have x1 := X3.out.cell 1
        have x2 := X3.out.cell 2
        have xl := X3.out.lt
        simp only [List.getElem?_toArray, List.getElem?_cons_zero, List.getElem?_cons_succ] at x0 x1 x2
        go_wp2_with fail
        refine wp_region_noPanic ?_
        refine wp_region_M (L := 6) (S := fun wx => Below w3.heap.size w3 wx) (by kernel_rfl) ?_ (fun hHeld => ?_)
        · exact (Below.refl _ _).drew
        refine tkM0 0 (v := ?_) ?_ ?_
        rotate_left
        · (intro wv hSw; (try dsimp only at hSw); obtain ⟨hcq, _⟩ := bcell hSw; have hsq := Below.size hSw; have q0 := (hcq _ _ xl).trans x0; have q1 := (hcq _ _ xl).trans x1; have q2 := (hcq _ _ xl).trans x2; have ql := Nat.lt_of_lt_of_le xl hsq; go_simp; try with_reducible rfl)
        try simp only [Act.put, s1, s2, s3]
        refine tkMB 1 ?_
        try simp only [Act.put, s1, s2, s3]
        refine wpAnyM_ready (rs := [2]) (by kernel_rfl) (by simp) ?_
        refine AllReadyM.cons rfl (fun K hK => ?_) AllReadyM.nil
        go_simp
        refine Calls.mono (KT.out _ hHeld) ?_
        rintro e w4 ⟨a4, c4, l4, n4, rfl, hS4, hE4, hsr4, hn4, hb4⟩
        have hb4' := below_callS hHeld hb4
        have hz4 := Below.size hHeld
        have S4 := Lib.hid (hS4.le (show w3.heap.size ≤ _ from hz4) (Nat.le_refl _))
        have HSR4 := Lib.hid hsr4
        have hl4 : ∀ x ∈ l4, stateB sz x.2 = true := fun x hx => HST.out x.2 ((srt_mem (m := sz.length) (fun y hy => stateB_len (HST.out y hy)) _).1 (by rw [← hsr4]; exact List.mem_map_of_mem hx))
        have HB4 := Lib.hid (below_call HB3.out hb4' (by omega))
        have hs4 := hb4'.size
        clear hS4 hE4 hsr4 hb4
        go_wp2_with fail
        refine hK.out _ _ hb4' (fun hHeld => ?_)
        clear hK K
        try simp only [Act.put, s1, s2, s3]
        refine wpAnyM_ready (rs := [3]) (by kernel_rfl) (by simp) ?_
        refine AllReadyM.cons rfl (fun K hK => ?_) AllReadyM.nil
        go_simp
        refine Calls.mono (impl_setDiagram (HI.out.keep HB4.out) hn16 HS.out HQ.out S4.out hl4 (hlies.imp id (fun h g off e => Nat.lt_of_lt_of_le (h g off e) hs3)) (by omega) (by omega)) ?_
        rintro e w5 ⟨da, dc, rfl, hO5, hb5⟩
        rw [HSR4.out, srt_again (m := sz.length) (fun y hy => stateB_len (HST.out y hy)), ← HRC.out] at hO5 ⊢
        have O5 := Lib.hid hO5
        have hb5' : Below w3.heap.size w3 w5 := hb4'.trans hb5
        have R5 := Lib.hid (R3.out.keep hb5')
        have HB5 := Lib.hid (below_call HB3.out hb5' (by omega))
        clear hO5 hb5 S4 HSR4 hl4 HB4 hb4' X3 R3
        go_wp2_with fail
        refine hK.out _ _ hb5' (fun hHeld => ?_)
        clear hK K
        try simp only [Act.put, s1, s2, s3]
        have r0 := R5.out.cell 0
        have r1 := R5.out.cell 1
        have r2 := R5.out.cell 2
        have rl := R5.out.lt
        have rf := R5.out.free
        simp only [List.getElem?_toArray, List.getElem?_cons_zero, List.getElem?_cons_succ] at r0 r1 r2
        obtain ⟨⟨D1, D2, D3, D4⟩, hD⟩ : ∃ D, rcC sz st l = D := ⟨_, rfl⟩
        rw [hD] at O5 ⊢
        simp only at O5
        have HD := Lib.hid hD
        clear hD HRC
        refine tkMB 4 ?_
        try simp only [Act.put, s1, s2, s3]
        refine tkMB 5 ?_
        try simp only [Act.put, s1, s2, s3]
        refine wpAnyM_ready (rs := [6]) (by kernel_rfl) (by simp) ?_
        refine AllReadyM.last rfl (fun K hK => ?_)
        go_simp
        refine hK.out _ _ ?_
        clear hK K
        try simp only [Act.put, s1, s2, s3]
        refine wpAnyM_ready (rs := [7]) (by kernel_rfl) (by simp) ?_
        refine AllReadyM.then (by kernel_rfl) rfl (fun K hK => ?_)
        go_simp
        refine hK.out _ _ ?_
        clear hK K
        try simp only [Act.put, s1, s2, s3]
        refine wpAnyM_done (by kernel_rfl) ?_ _
        refine NoPanic.normal ?_
        clear hHeld
        have hne : ∀ y, da = some ⟨y, 0, none⟩ → (some (w.heap.size + 1) : Option Nat) ≠ some y := fun y e e' => by
          have := (O5.out.blk y e).1
          simp at e'
          omega
        have hbz : Below w.heap.size w w5 := HB5.out
        go_wp2
        refine bodyPost_ret (v := .tuple #[.agg #[.int .i64 D1, .slice da D2.length dc, .int .i64 D3], .int .i64 D4]) (by simp [results, Tryz.results23, go_sem, *]) rfl ⟨da, dc, by rw [HD.out], ?_, ?_⟩
        · rw [HD.out]
          exact (((O5.out.keepG (set_grown _ _ _) hne).keepG (set_grown _ _ _) hne).keepG (set_grown _ _ _) hne).le (by omega)
        · exact bel
end Go.Proofs.YtkaikbaagajckaaGreat
namespace Go.Proofs.YtkaikbaagajckaaGreat
open Go.RowKit
set_option linter.unusedVariables false
set_option linter.unusedSimpArgs false
theorem rcC_rs {sz st : List Int} {l : List (RM × RuD)} {rs : List RuD} (h : l.map (·.2) = rs) : rcC sz st l = rcC sz st (rsM rs) := by
  rw [rcC, rcC, modelB_rs h, h, rsM_map]
theorem rcC_len (sz st : List Int) (l : List (RM × RuD)) : (rcC sz st l).2.1.length ≤ 2000 := by
  rw [rcC]
  split
  · simp
  · split
    · simp
    · split
      · simp
      · rw [sdgN, lmC]
        split
        · rename_i h; exact h
        · simp
theorem spec_ReachDiagram_r {sa ta ra : Option Addr} {sn sc tn tc rn rc : Nat} {sz st : List Int} {rs : List RuD} {w : World} (h : MRd w sa sn sc ta tn tc ra rn rc sz st rs) :
    Calls Tryz.prog 22 #[.agg #[.slice sa sn sc, .slice ta tn tc, .slice ra rn rc]] w (DgQ w (rcC sz st (rsM rs)).1 (rcC sz st (rsM rs)).2.1 (rcC sz st (rsM rs)).2.2.1 (rcC sz st (rsM rs)).2.2.2) := by
  obtain ⟨l, h1, h2⟩ := h.r
  have := spec_ReachDiagram h.s h.sn h.t h.tn h1 h.rn
  rw [rcC_rs h2] at this
  exact this.mono fun e w' h => h.q
theorem impl_ReachDiagram_r {sa ta ra : Option Addr} {sn sc tn tc rn rc : Nat} {sz st : List Int} {rs : List RuD} {w : World} (h : MRd w sa sn sc ta tn tc ra rn rc sz st rs) :
    Calls Tryz.prog 23 #[.agg #[.slice sa sn sc, .slice ta tn tc, .slice ra rn rc]] w (DgQ w (rcC sz st (rsM rs)).1 (rcC sz st (rsM rs)).2.1 (rcC sz st (rsM rs)).2.2.1 (rcC sz st (rsM rs)).2.2.2) := by
  obtain ⟨l, h1, h2⟩ := h.r
  have := impl_ReachDiagram h.s h.sn h.t h.tn h1 h.rn
  rw [rcC_rs h2] at this
  exact this.mono fun e w' h => h.q
end Go.Proofs.YtkaikbaagajckaaGreat
namespace Go.Proofs.YtkaikbaagajckaaGreat
open Go.ChangeShapes Go.WideShapes Go.ChangeAt Go.RowKit Go.Joins
set_option linter.unusedVariables false
set_option linter.unusedSimpArgs false
theorem Tryz.own : ownKnob Tryz.prog.godebug = none := by kernel_rfl
theorem Tryz.laidOut : laidOutB Tryz.prog = true := by kernel_rfl
theorem lt_of_cell {w : World} {b o : Nat} {v : Value} (h : w.cell? ⟨b, o, none⟩ = some v) : b < w.heap.size :=
  Nat.lt_of_not_le fun hle => by simp [World.cell?, Array.getElem?_eq_none hle] at h
theorem Ints.mk_of {w : World} {x : Addr} {n c : Nat} {zs : List Int} (hn : n ≤ c) (hz : zs.length = c) (hcell : ∀ i, i < zs.length → w.cell? (x.add i) = some (.int .i64 (zs.getD i 0))) (hw : ∀ z ∈ zs, (Lit.int .i64 z).wf = true) : Ints w (some x) n c (zs.take n) := by
  refine ⟨by simp; omega, hn, ?_, fun z hz => I64.of (hw z (List.mem_of_mem_take hz)), fun h => by cases h⟩
  by_cases h0 : n = 0
  · exact .inl h0
  · obtain ⟨b, off, spot⟩ := x
    have hc := hcell 0 (by omega)
    have hspot : spot = none := by simpa [Addr.add] using World.cell?_spot hc
    subst hspot
    refine .inr ⟨b, off, rfl, lt_of_cell hc, fun i y hy => ?_⟩
    rw [List.getElem?_take] at hy
    split at hy
    · have hi : i < zs.length := (List.getElem?_eq_some_iff.1 hy).1
      have := hcell i hi
      rw [List.getD_eq_getElem?_getD, hy] at this
      have e : (⟨b, off, none⟩ : Addr).add i = ⟨b, off + i, none⟩ := by
        by_cases h0 : i = 0 <;> simp [Addr.add, h0]
      rw [← e]; exact this
    · cases hy
section
variable {H : Type} {enc : TypeId × Value → H} {P : Program} {W : World} {base : Nat} {held : Bool}
theorem open_Ints {t e : TypeId} {a : Option Addr} {n c : Nat} {d : DataW H} {p : List MemPlace} (ht : P.underlying t = some (.slice e)) (he : P.underlying e = some (.int .i64)) (hc : P.cellsOf e = 1)
    (h : DataW.Trod enc P W base (fun _ => true) held t (.slice a n c) d p) : ∃ l, Ints W a n c l := by
  obtain ⟨fuel, hf⟩ := h
  rcases open_ints ht he hc hf with ⟨hcs, _⟩ | ⟨x, l, c', zs, hcs, _, hl, hm, hz, _, hcell, hwz⟩
  · simp [Value.cells] at hcs
    obtain ⟨rfl, rfl, rfl⟩ := hcs
    exact ⟨[], rfl, Nat.le_refl _, .inl rfl, (fun _ h => by cases h), fun _ => ⟨rfl, rfl⟩⟩
  · simp [Value.cells] at hcs
    obtain ⟨rfl, rfl, rfl⟩ := hcs
    exact ⟨_, Ints.mk_of hl (by simpa using hz) hcell hwz⟩
theorem len_le {sp : Nat → Bool} {t e : TypeId} {fuel : Nat} {a : Option Addr} {n c : Nat} {x : DataW H × List MemPlace} (ht : P.underlying t = some (.slice e)) (h : DataW.trod enc P W base sp held fuel t (.slice a n c : Value).cells.toList = some x) : n ≤ maxLen := by
  rcases Deep.open_slice ht h with ⟨hcs, _⟩ | ⟨x, len, cap, m, nn, D, Pl, hcs, _, hl, hm, _⟩
  · simp [Value.cells] at hcs; rw [hcs.2.1]; exact Nat.zero_le _
  · simp [Value.cells] at hcs; rw [hcs.2.1]; omega
theorem add_none {b off i : Nat} : (⟨b, off, none⟩ : Addr).add i = ⟨b, off + i, none⟩ := by
  by_cases h0 : i = 0 <;> simp [Addr.add, h0]
theorem open_Flats {α : Type} [Inhabited α] {k : Nat} (hk : 0 < k) {encf : α → List Value} {ok : α → Prop} {t e : TypeId} {a : Option Addr} {n c : Nat} {d : DataW H} {p : List MemPlace} (ht : P.underlying t = some (.slice e)) (hC : P.cellsOf e = k)
    (hel : ∀ m cs x, cs.length = k → DataW.trod enc P W base (fun _ => true) held m e cs = some x → ∃ y : α, cs = encf y ∧ ok y)
    (h : DataW.Trod enc P W base (fun _ => true) held t (.slice a n c) d p) : ∃ l, Flats k encf ok W a n c l := by
  obtain ⟨fuel, hf⟩ := h
  rcases Deep.open_slice ht hf with ⟨hcs, _⟩ | ⟨x, len, cap, m, nn, D, Pl, hcs, _, hl, _, hm, _, hx⟩
  · simp [Value.cells] at hcs
    obtain ⟨rfl, rfl, rfl⟩ := hcs
    exact ⟨[], rfl, Nat.le_refl _, .inl rfl, (fun _ h => by cases h), fun _ => ⟨rfl, rfl⟩⟩
  · simp [Value.cells] at hcs
    obtain ⟨rfl, rfl, rfl⟩ := hcs
    simp only [if_true] at hm
    subst hm
    have hy : ∀ i, ∃ y : α, i < n → (∀ j, j < k → W.cell? (x.add (i * k) |>.add j) = (encf y)[j]?) ∧ (encf y).length = k ∧ ok y := by
      intro i
      by_cases hi : i < n
      · obtain ⟨cs', h1, h2⟩ := hx i (by omega)
        rw [hC] at h1
        obtain ⟨_, hlen, hcell⟩ := World.cells?_some h1
        obtain ⟨y, rfl, hok⟩ := hel _ _ _ hlen h2
        exact ⟨y, fun _ => ⟨hcell, hlen, hok⟩⟩
      · exact ⟨default, fun h => absurd h hi⟩
    let Y : Nat → α := fun i => (hy i).choose
    have hY : ∀ i, i < n → (∀ j, j < k → W.cell? (x.add (i * k) |>.add j) = (encf (Y i))[j]?) ∧ (encf (Y i)).length = k ∧ ok (Y i) := fun i => (hy i).choose_spec
    clear_value Y
    refine ⟨(List.range n).map Y, by simp, hl, ?_, fun z hz => ?_, fun h => by cases h⟩
    · by_cases h0 : n = 0
      · exact .inl h0
      · obtain ⟨b, off, spot⟩ := x
        obtain ⟨h1, h2, _⟩ := hY 0 (by omega)
        have hc := h1 0 hk
        rw [List.getElem?_eq_getElem (by omega)] at hc
        have hspot : spot = none := by simpa [Addr.add] using World.cell?_spot hc
        subst hspot
        refine .inr ⟨b, off, rfl, ?_, fun i y hy j v hv => ?_⟩
        · simp only [Nat.zero_mul, add_none, Nat.add_zero] at hc
          exact lt_of_cell hc
        · have hi : i < n := by
            have := (List.getElem?_eq_some_iff.1 hy).1
            simpa using this
          rw [range_get hi] at hy
          simp only [Option.some.injEq] at hy
          subst hy
          obtain ⟨h1, h2, _⟩ := hY i hi
          have hj : j < k := by rw [← h2]; exact (List.getElem?_eq_some_iff.1 hv).1
          have := h1 j hj
          rw [add_none, add_none, hv] at this
          exact this
    · simp only [List.mem_map, List.mem_range] at hz
      obtain ⟨i, hi, rfl⟩ := hz
      exact (hY i hi).2.2
instance : Inhabited I2 := ⟨⟨0, 0⟩⟩
instance : Inhabited I3 := ⟨⟨0, 0, 0⟩⟩
instance : Inhabited I2b := ⟨⟨0, 0, false⟩⟩
theorem read_I2b {e : TypeId} {f0 f1 f2 : Field} (he : P.underlying e = some (.struct #[f0, f1, f2])) (o0 : f0.offset = 0) (o1 : f1.offset = 1) (o2 : f2.offset = 2) (c0 : P.cellsOf f0.type = 1) (c1 : P.cellsOf f1.type = 1) (c2 : P.cellsOf f2.type = 1) (t0 : P.underlying f0.type = some (.int .i64)) (t1 : P.underlying f1.type = some (.int .i64)) (t2 : P.underlying f2.type = some .bool)
    (m : Nat) (cs : List Value) (x : DataW H × List MemPlace) (hl : cs.length = 3) (h : DataW.trod enc P W base (fun _ => true) held m e cs = some x) : ∃ y : I2b, cs = y.enc ∧ y.ok := by
  obtain ⟨y0, y1, y2, n, _, _, h0, h1, h2⟩ := Deep.trod_struct3 he h
  match cs, hl with
  | [v0, v1, v2], _ =>
    rw [o0, c0] at h0; rw [o1, c1] at h1; rw [o2, c2] at h2
    obtain ⟨a, e0, _, w0⟩ := DataW.trod_int t0 h0
    obtain ⟨b, e1, _, w1⟩ := DataW.trod_int t1 h1
    obtain ⟨c, e2, _⟩ := DataW.trod_bool t2 h2
    simp at e0 e1 e2
    exact ⟨⟨a, b, c⟩, by simp [I2b.enc, e0, e1, e2], I64.of w0, I64.of w1⟩
theorem read_I2 {e : TypeId} {f0 f1 : Field} (he : P.underlying e = some (.struct #[f0, f1])) (o0 : f0.offset = 0) (o1 : f1.offset = 1) (c0 : P.cellsOf f0.type = 1) (c1 : P.cellsOf f1.type = 1) (t0 : P.underlying f0.type = some (.int .i64)) (t1 : P.underlying f1.type = some (.int .i64))
    (m : Nat) (cs : List Value) (x : DataW H × List MemPlace) (hl : cs.length = 2) (h : DataW.trod enc P W base (fun _ => true) held m e cs = some x) : ∃ y : I2, cs = y.enc ∧ y.ok := by
  obtain ⟨y0, y1, n, _, _, h0, h1⟩ := trod_struct2 he h
  match cs, hl with
  | [v0, v1], _ =>
    rw [o0, c0] at h0; rw [o1, c1] at h1
    obtain ⟨a, e0, _, w0⟩ := DataW.trod_int t0 h0
    obtain ⟨b, e1, _, w1⟩ := DataW.trod_int t1 h1
    simp at e0 e1
    exact ⟨⟨a, b⟩, by simp [I2.enc, e0, e1], I64.of w0, I64.of w1⟩
end
end Go.Proofs.YtkaikbaagajckaaGreat
namespace Go.Proofs.YtkaikbaagajckaaGreat
open Go.RowKit Go.ChangeShapes Go.Joins
set_option linter.unusedVariables false
set_option linter.unusedSimpArgs false
/-- block g holds these cells -/
def Tab (w : World) (g : Nat) (cs : List Value) : Prop := g < w.heap.size ∧ ∀ i v, cs[i]? = some v → w.cell? ⟨g, i, none⟩ = some v
theorem Tab.keep {w w' : World} {g : Nat} {cs : List Value} (h : Tab w g cs) (hb : Below w.heap.size w w') : Tab w' g cs :=
  ⟨Nat.lt_of_lt_of_le h.1 hb.size, fun i v hv => (hb.cell (p := ⟨g, i, none⟩) h.1).trans (h.2 i v hv)⟩
section
variable {H : Type} {enc : TypeId × Value → H} {P : Program} {w : World} {base : Nat} {sp : Nat → Bool} {held : Bool}
/-- a value that is a part of a struct and whose type is a slice type -/
theorem slice_part {m : Nat} {t e : TypeId} {v : Value} {y : DataW H × List MemPlace} (ht : P.underlying t = some (.slice e)) (h : DataW.trod enc P w base sp held m t [v] = some y) :
    ∃ a n c, v = .slice a n c ∧ DataW.Trod enc P w base sp held t (.slice a n c) y.1 y.2 := by
  rcases Deep.open_slice ht h with ⟨hcs, _⟩ | ⟨x, len, cap, m, nn, D, Pl, hcs, _⟩
  · simp only [List.cons.injEq, and_true] at hcs
    exact ⟨_, _, _, hcs, _, by rw [hcs] at h; exact h⟩
  · simp only [List.cons.injEq, and_true] at hcs
    exact ⟨_, _, _, hcs, _, by rw [hcs] at h; exact h⟩
end
/-- a row of the table of commands -/
structure CRow where
  from' : Int
  to' : Int
  role : Int
  key : Bool
def CRow.enc (x : CRow) : List Value := [.int .i64 x.from', .int .i64 x.to', .int .i64 x.role, .bool x.key]
end Go.Proofs.YtkaikbaagajckaaGreat
namespace Go.Proofs.YtkaikbaagajckaaGreat
open Go.ChangeShapes Go.WideShapes Go.ChangeAt Go.RowKit Go.Joins
set_option linter.unusedVariables false
set_option linter.unusedSimpArgs false
instance : Inhabited (RM × RuD) := ⟨(⟨⟨#[]⟩, none, 0, 0, none, 0, 0⟩, ⟨⟨#[]⟩, [], []⟩)⟩
section
variable {H : Type} {enc : TypeId × Value → H} {P : Program} {W : World} {base : Nat} {held : Bool}
theorem read_Rule {e te ae : TypeId} {f0 f1 f2 : Field} (he : P.underlying e = some (.struct #[f0, f1, f2])) (o0 : f0.offset = 0) (o1 : f1.offset = 1) (o2 : f2.offset = 2) (c0 : P.cellsOf f0.type = 1) (c1 : P.cellsOf f1.type = 1) (c2 : P.cellsOf f2.type = 1)
    (t0 : P.underlying f0.type = some .string) (t1 : P.underlying f1.type = some (.slice te)) (t2 : P.underlying f2.type = some (.slice ae)) (k1 : P.cellsOf te = 3) (k2 : P.cellsOf ae = 2)
    (r1 : ∀ m cs x, cs.length = 3 → DataW.trod enc P W base (fun _ => true) held m te cs = some x → ∃ y : I2b, cs = y.enc ∧ y.ok) (r2 : ∀ m cs x, cs.length = 2 → DataW.trod enc P W base (fun _ => true) held m ae cs = some x → ∃ y : I2, cs = y.enc ∧ y.ok)
    (m : Nat) (cs : List Value) (x : DataW H × List MemPlace) (hl : cs.length = 3) (h : DataW.trod enc P W base (fun _ => true) held m e cs = some x) : ∃ y : RM × RuD, cs = encR y ∧ RuX W y := by
  obtain ⟨y0, y1, y2, n, _, _, h0, h1, h2⟩ := Deep.trod_struct3 he h
  match cs, hl with
  | [v0, v1, v2], _ =>
    rw [o0, c0] at h0; rw [o1, c1] at h1; rw [o2, c2] at h2
    obtain ⟨s, e0, _, hs⟩ := DataW.trod_string t0 h0
    obtain ⟨ga, gn, gc, e1, hg⟩ := slice_part (v := v1) t1 h1
    obtain ⟨ea, en, ec, e2, hea⟩ := slice_part (v := v2) t2 h2
    simp at e0
    subst e0 e1 e2
    obtain ⟨g, wg⟩ := open_Flats (encf := I2b.enc) (ok := I2b.ok) (by decide) t1 k1 r1 hg
    obtain ⟨l, wl⟩ := open_Flats (encf := I2.enc) (ok := I2.ok) (by decide) t2 k2 r2 hea
    have bg : gn ≤ maxLen := by obtain ⟨_, hf⟩ := hg; exact len_le t1 hf
    have bl : en ≤ maxLen := by obtain ⟨_, hf⟩ := hea; exact len_le t2 hf
    exact ⟨(⟨s, ga, gn, gc, ea, en, ec⟩, ⟨s, g, l⟩), rfl, rfl, hs, wg, bg, wl, bl⟩
end
theorem open_Rules {H : Type} {enc : TypeId × Value → H} {W : World} {base : Nat} {held : Bool} {d : DataW H} {p : List MemPlace} {a : Option Addr} {n c : Nat} (h : DataW.Trod enc Tryz.prog W base (fun _ => true) held 23 (.slice a n c) d p) : ∃ l, FX W W a n c l :=
  open_Flats (encf := encR) (ok := RuX W) (by decide) Tryz.underlying23 (by kernel_rfl)
    (read_Rule Tryz.underlying143 rfl rfl rfl (by kernel_rfl) (by kernel_rfl) (by kernel_rfl) Tryz.underlying9 Tryz.underlying64 Tryz.underlying141 (by kernel_rfl) (by kernel_rfl)
      (read_I2b Tryz.underlying129 rfl rfl rfl (by kernel_rfl) (by kernel_rfl) (by kernel_rfl) Tryz.underlying2 Tryz.underlying2 Tryz.underlying4)
      (read_I2 Tryz.underlying234 rfl rfl (by kernel_rfl) (by kernel_rfl) Tryz.underlying2 Tryz.underlying2)) h
end Go.Proofs.YtkaikbaagajckaaGreat
