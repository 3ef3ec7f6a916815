/- The diagram of the reachable states: the program, walked.; States with a code, as calls return them.; How many nodes a join makes: plain laws.; Valid diagrams: levels and comparisons, walked.; A region that draws its order and in which one operation changes what the loads before it read: operations that read nothing, at any time.; The join of two diagrams: the program, walked: a pair of references.; The join of two diagrams: the program, walked: the visit of a pair.; Rows of states behind a store, and an own list behind an allocation. -/
import Derived.Test.YtkaikbaagajckaaGreatN18
import Derived.Test.YtkaikbaagajckaaGreatN24
import Derived.Test.YtkaikbaagajckaaGreatN15
import Derived.Test.YtkaikbaagajckaaGreatN16
import Derived.Test.YtkaikbaagajckaaGreatN19
import Derived.Test.YtkaikbaagajckaaGreatN20
import Derived.Test.YtkaikbaagajckaaGreatN12
import Derived.Deep.DrawnRows
import Derived.Test.YtkaikbaagajckaaGreatN21
namespace Go.Proofs.YtkaikbaagajckaaGreat
open Go.RowKit
set_option linter.unusedVariables false
set_option linter.unusedSimpArgs false
attribute [local go_sem ↓] Go.wp_at_zero Go.wp_at_succ
theorem srt_states {sz : List Int} {xs : List (List Int)} (h : ∀ x ∈ xs, stateB sz x = true) : ∀ x ∈ srtS xs, stateB sz x = true :=
  fun x hx => h x ((srt_mem (m := sz.length) (fun y hy => stateB_len (h y hy)) x).1 hx)
set_option maxRecDepth 100000 in
set_option maxHeartbeats 4000000 in
theorem impl_setDiagram {sa ta ra a : Option Addr} {sn sc tn tc rn rc n c lo l2 : Nat} {sz : List Int} {l : List (QM × List Int)} {w : World} (hI : Ints w sa sn sc sz) (hn : sn ≤ 16) (hs : allIn 1 32 sz = true) (hsm : smB sz = true) (hO : SRow w lo l2 a n c l) (hE : ∀ x ∈ l, stateB sz x.2 = true) (hsa : sn = 0 ∨ ∀ g off, sa = some ⟨g, off, none⟩ → g < lo) (hn' : n ≤ 1048576) (hlo : lo ≤ w.heap.size) :
    Calls Tryz.prog 68 #[.agg #[.slice sa sn sc, .slice ta tn tc, .slice ra rn rc], .slice a n c] w fun e w' => ∃ da dc, e = .returned (.tuple #[.agg #[.int .i64 (sdgN sz (srtS (l.map (·.2)))).1, .slice da (sdgN sz (srtS (l.map (·.2)))).2.1.length dc, .int .i64 (sdgN sz (srtS (l.map (·.2)))).2.2.1], .int .i64 (sdgN sz (srtS (l.map (·.2)))).2.2.2]) ∧ OwnF 3 I3.enc I3.ok 117 w' w.heap.size da (sdgN sz (srtS (l.map (·.2)))).2.1.length dc (sdgN sz (srtS (l.map (·.2)))).2.1 ∧ Below lo w w' := by
  obtain rfl : sz.length = sn := hI.len
  have hsum := (off_sum hs hn).1
  have hofl := sm_off hs hsm
  have hEm : ∀ x ∈ l, x.1.n = sz.length := fun x hx => by rw [← (hO.each x hx).ints.len]; exact stateB_len (hE x hx)
  have hst : ∀ x ∈ srtS (l.map (·.2)), stateB sz x = true := srt_states fun x hx => by
    obtain ⟨y, hy, rfl⟩ := List.mem_map.1 hx
    exact hE y hy
  have HI := Lib.hid (fun (wx : World) (hb : Below lo w wx) => hI.keepL hb hsa)
  have HS := Lib.hid hs
  have HST := Lib.hid hst
  obtain ⟨w1, hw1⟩ : ∃ w1, w1 = (w.alloc (.cells #[.slice sa sz.length sc, .slice ta tn tc, .slice ra rn rc] 36)).alloc (.cells #[.int .i64 0, .slice none 0 0, .int .i64 0] 40) := ⟨_, rfl⟩
  have hbA : Below w.heap.size w w1 := by rw [hw1]; exact below_alloc1 (below_alloc1 (Below.refl _ _) _) _
  have hsA : w1.heap.size = w.heap.size + 1 + 1 := by rw [hw1]; simp
  have X1 := Lib.hid (show Blk w1 w.heap.size #[.slice sa sz.length sc, .slice ta tn tc, .slice ra rn rc] 36 by rw [hw1]; exact (Blk.made _ _ _).keep (below_alloc1 (Below.refl _ _) _))
  have R1 := Lib.hid (show Blk w1 (w.heap.size + 1) #[.int .i64 0, .slice none 0 0, .int .i64 0] 40 by rw [hw1]; exact Blk.made1 _ _ _ _)
  have S1 := Lib.hid (hO.keep hbA)
  have HB1 := Lib.hid (hbA.mono hlo)
  have HEM := Lib.hid hEm
  have hkw := impl_widths (ta := ta) (tn := tn) (tc := tc) (ra := ra) (rn := rn) (rc := rc) (HI.out w1 HB1.out) (by omega) hs
  rw [hsum] at hkw
  have KW := Lib.hid hkw
  clear hI hs hO hE hEm hst hbA hkw hsum
  have x0 := X1.out.cell 0
  have x1 := X1.out.cell 1
  have x2 := X1.out.cell 2
  have xl := X1.out.lt
  simp only [List.getElem?_toArray, List.getElem?_cons_zero, List.getElem?_cons_succ] at x0 x1 x2
  go_enter Tryz.func68, Tryz.ntmps68
  go_wp2_with fail
  rw [← hw1]
  clear hw1
  refine Calls.mono KW.out ?_
  rintro e w2 ⟨aw, cw, rfl, hb2, hW⟩
  clear hW
  have X2 := Lib.hid (X1.out.keep hb2)
  have R2 := Lib.hid (R1.out.keep hb2)
  have S2 := Lib.hid (S1.out.keep hb2)
  have hs2 := hb2.size
  have HB2 := Lib.hid (below_call HB1.out hb2 (by omega))
  clear hb2 X1 R1 S1 HB1 KW x0 x1 x2 xl
  go_wp2_with fail
  refine Calls.mono (impl_sortedG S2.out HEM.out hn' (by omega) (by omega)) ?_
  rintro e w3 ⟨n2, rfl, hn2, ls, hS3, hE3, hsr3, hb3, ht3⟩
  have X3 := Lib.hid (X2.out.keepA ht3 (blk_ne X2.out (fun {g} e => S2.out.row.typ e) (by decide)))
  have R3 := Lib.hid (R2.out.keepA ht3 (blk_ne R2.out (fun {g} e => S2.out.row.typ e) (by decide)))
  have S3 := Lib.hid hS3
  have HSR := Lib.hid hsr3
  have HB3 := Lib.hid (HB2.out.trans hb3)
  have hs3 := ht3.size
  have hls : ∀ x ∈ ls, stateB sz x.2 = true := fun x hx => HST.out x.2 (by rw [← hsr3]; exact List.mem_map_of_mem hx)
  have HLS := Lib.hid hls
  have hll := hS3.len
  clear hS3 hsr3 hb3 ht3 X2 R2 S2 HB2 hls hE3
  go_wp2_with fail
  have L0 := Lib.hid (SRow.nil w3 w3.heap.size w3.heap.size)
  have hw3 : w3.heap.size ≤ w3.heap.size := Nat.le_refl _
  have B0 := Lib.hid (Below.refl w3.heap.size w3)
  go_loopw [8, 10, 20] (fun s8 _ s20 wr => ∃ (j cd : Nat) (ad : Option Addr) (ld : List (QM × List Int)), s8 = .slice ad j cd ∧ s20 = .int .i64 j ∧ j ≤ n2 ∧ w3.heap.size ≤ wr.heap.size ∧ Hid (Below w3.heap.size w3 wr) ∧ Hid (SRow wr w3.heap.size w3.heap.size ad j cd ld) ∧ Hid (ld.map (·.2) = (ls.take j).map fun x => stBits sz x.2)) (fun _ _ s20 _ => n2 - (intOf s20).toNat)
  case atStart => exact ⟨0, 0, none, [], rfl, rfl, by omega, hw3, B0, L0, Lib.hid (by simp)⟩
  case round =>
    clear L0 B0
    obtain ⟨j, cd, ad, ld, rfl, rfl, hj, hsr, HB, SD, A⟩ := hrel
    have X4 := Lib.hid (X3.out.keep HB.out)
    have x0 := X4.out.cell 0
    have x1 := X4.out.cell 1
    have x2 := X4.out.cell 2
    have xl := X4.out.lt
    simp only [List.getElem?_toArray, List.getElem?_cons_zero, List.getElem?_cons_succ] at x0 x1 x2
    by_cases hlt : j < n2
    · have hlt' : (j : Int) < (n2 : Int) := by omega
      have hj0 : (0 : Int) ≤ (j : Int) := by omega
      obtain ⟨b, off, Q, v, rfl, hb, hx, hv, hc⟩ := (S3.out.keep HB.out).get hlt
      have HA := Lib.hid (show ∀ q : QM, (ld ++ [(q, stBits sz v)]).map (·.2) = (ls.take (j + 1)).map fun x => stBits sz x.2 from fun q => by rw [List.map_append, A.out, take_at hx, List.map_append]; rfl)
      have KB := Lib.hid (impl_bitsOf (ta := ta) (tn := tn) (tc := tc) (ra := ra) (rn := rn) (rc := rc) (HI.out wr (HB3.out.trans (HB.out.mono (by omega)))) hv.ints hn HS.out (HLS.out _ (List.mem_of_getElem? hx)))
      clear hx hv A
      go_wp2_with fail
      refine Calls.mono KB.out ?_
      rintro e w6 ⟨m6, a6, c6, rfl, hb6, ho6, hm6⟩
      have O6 := Lib.hid (ho6.le (show w3.heap.size ≤ _ by omega))
      have S6 := Lib.hid (SD.out.keep hb6)
      have HB6 := Lib.hid (below_call HB.out hb6 (by omega))
      have hs6 := hb6.size
      clear hb6 ho6 x0 x1 x2 xl X4 KB SD HB hc hb
      go_wp2_with (at_builtin; refine appS rfl _ _ rfl w3.heap.size w3.heap.size _ _ _ _ S6.out rfl _ rfl (by first | rfl | (simp; done)) (⟨a6, m6, c6⟩, stBits sz v) O6.out _ rfl (by omega) (by (try simp); omega) ?_; intro g' c7 w7 h1 h2 h3 h4 h5; have S7 := Lib.hid h1; have HB7 := Lib.hid (HB6.out.trans h2); have hs7 := h2.size; clear h1 h2 h3 h4 h5)
      go_roundw
      case rel => exact ⟨j + 1, c7, _, _, by go_num, by go_num, by omega, by omega, HB7, S7, Lib.hid (HA.out _)⟩
      case measure => simp [intOf]; omega
    · have hlt' : ¬ (j : Int) < (n2 : Int) := by omega
      obtain rfl : n2 = j := by omega
      have hA := A.out
      rw [List.take_of_length_le (by rw [hll]; exact Nat.le_refl _)] at hA
      have hAm : ld.map (·.2) = (srtS (l.map (·.2))).map (stBits sz) := by rw [hA, ← HSR.out, List.map_map]; rfl
      have hld : ∀ x ∈ ld, x.2.length = offN sz sz.length := fun x hx => by
        have h1 : x.2 ∈ ld.map (·.2) := List.mem_map_of_mem hx
        rw [hA] at h1
        obtain ⟨y, hy, e⟩ := List.mem_map.1 h1
        rw [← e]
        exact stb_len (stv_of HS.out (HLS.out y hy))
      have HLD := Lib.hid hld
      obtain ⟨i1, i2, _, _⟩ := st_inv (n := offN sz sz.length) (offN sz sz.length) 0 ((srtS (l.map (·.2))).map (stBits sz)) [] (Snd.nil _) (by omega)
      have i3 := (st_ref (offN sz sz.length) 0 ((srtS (l.map (·.2))).map (stBits sz)) []).2.2
      have h20 : 2 ^ offN sz sz.length ≤ 1048576 := Nat.le_trans (Nat.pow_le_pow_right (by decide) hofl) (by decide)
      have hsd : sdgN sz (srtS (l.map (·.2))) = lmC (offN sz sz.length : Int) (canN mkN (stN (offN sz sz.length) 0 ((srtS (l.map (·.2))).map (stBits sz)) []).1 (stN (offN sz sz.length) 0 ((srtS (l.map (·.2))).map (stBits sz)) []).2).1 (canN mkN (stN (offN sz sz.length) 0 ((srtS (l.map (·.2))).map (stBits sz)) []).1 (stN (offN sz sz.length) 0 ((srtS (l.map (·.2))).map (stBits sz)) []).2).2 := rfl
      rw [← hAm] at i1 i2 i3 hsd
      obtain ⟨⟨P1, P2⟩, hP⟩ : ∃ x, stN (offN sz sz.length) 0 (ld.map (·.2)) [] = x := ⟨_, rfl⟩
      rw [hP] at i1 i2 i3 hsd
      simp only at i1 i2 i3 hsd
      obtain ⟨⟨C1, C2⟩, hC⟩ : ∃ x, canN mkN P1 P2 = x := ⟨_, rfl⟩
      rw [hC] at hsd
      simp only at hsd
      have HRD := Lib.hid i1.redu
      have HP := Lib.hid hP
      have HC := Lib.hid hC
      have HSD := Lib.hid hsd
      simp only [List.length_nil, Nat.zero_add] at i3
      clear hP hC hsd
      have R4 := Lib.hid (R3.out.keep HB.out)
      have HB4 := Lib.hid (HB3.out.trans (HB.out.mono (show lo ≤ w3.heap.size by omega)))
      clear hA hAm hld A i1
      go_wp2_with fail
      refine Calls.mono impl_newForest ?_
      rintro e w5 ⟨p, mb, rfl, hFor, hb5, hp5⟩
      have A5 := Lib.hid (SD.out.lsA.keep hb5)
      have F5 := Lib.hid hFor
      have R5 := Lib.hid (R4.out.keep hb5)
      have HB5 := Lib.hid (below_call HB4.out hb5 (by omega))
      have hs5 := hb5.size
      have hrr := R4.out.lt
      clear hFor hb5 hp5 x0 x1 x2 xl X4 SD HB R4 HB4
      go_wp2_with fail
      refine Calls.mono (impl_setOf (N := offN sz sz.length) (offN sz sz.length) 0 ld [] ad n2 cd w5 A5.out HLD.out ⟨_, _, _, F5.out⟩ (by omega) hofl (by omega) (by simp; omega) hs5) ?_
      rintro e w6 ⟨rfl, ⟨na6, nc6, mn6, hF6⟩, hf6⟩
      rw [HP.out] at hF6 ⊢
      have hb6 := hf6.below (Below.refl wr.heap.size w5) hs5 (Nat.le_refl _) F5.out.lop F5.out.lom
      have R6 := Lib.hid (R5.out.keepB hb6 hrr)
      have F6 := Lib.hid hF6
      have HB6 := Lib.hid (HB5.out.trans (hb6.mono (by omega)))
      have hs6 := hf6.size
      clear hF6 hf6 hb6 A5 F5 R5 HB5
      go_wp2_with fail
      refine Calls.mono (impl_limitedC F6.out HRD.out (by omega) (by unfold I64; omega) i2) ?_
      rintro e w7 ⟨da, dc, rfl, hO7, hb7⟩
      rw [HC.out] at hO7 ⊢
      simp only at hO7 ⊢
      rw [← HSD.out] at hO7 ⊢
      have O7 := Lib.hid hO7
      have R7 := Lib.hid (R6.out.keep hb7)
      have HB7 := Lib.hid (below_call HB6.out hb7 (by omega))
      have hs7 := hb7.size
      have hrl6 := R6.out.lt
      clear hO7 hb7 R6 F6 HB6
      have r0 := R7.out.cell 0
      have r1 := R7.out.cell 1
      have r2 := R7.out.cell 2
      have rl := R7.out.lt
      have rf := R7.out.free
      simp only [List.getElem?_toArray, List.getElem?_cons_zero, List.getElem?_cons_succ] at r0 r1 r2
      obtain ⟨⟨D1, D2, D3, D4⟩, hD⟩ : ∃ D, sdgN sz (srtS (l.map (·.2))) = D := ⟨_, rfl⟩
      rw [hD] at O7 ⊢
      simp only at O7
      have HD := Lib.hid hD
      clear hD HSD
      go_wp2
      have hne : ∀ y, da = some ⟨y, 0, none⟩ → (some (w.heap.size + 1) : Option Nat) ≠ some y := fun y e e' => by
        have := (O7.out.blk y e).1
        simp at e'
        omega
      refine bodyPost_ret (v := .tuple #[.agg #[.int .i64 D1, .slice da D2.length dc, .int .i64 D3], .int .i64 D4]) (by simp [results, Tryz.results68, go_sem, *]) rfl ⟨da, dc, by rw [HD.out], ?_, ?_⟩
      · rw [HD.out]
        exact (((O7.out.keepG (set_grown _ _ _) hne).keepG (set_grown _ _ _) hne).keepG (set_grown _ _ _) hne).le (by omega)
      · exact bel
end Go.Proofs.YtkaikbaagajckaaGreat
namespace Go.Proofs.YtkaikbaagajckaaGreat
open Go.RowKit
set_option linter.unusedVariables false
set_option linter.unusedSimpArgs false
/-- states with a code that a call returns -/
def SdR (ap : Bool) (w : World) (C : List (List Int) × Int) (e : Ending) (w' : World) : Prop := ∃ a c l, e = .returned (.tuple #[.slice a C.1.length c, .int .i64 C.2]) ∧ SRow w' w.heap.size w.heap.size a C.1.length c l ∧ l.map (·.2) = C.1 ∧ Below w.heap.size w w' ∧ (ap = true → l.Pairwise fun x y => Apart x.1.a y.1.a)
theorem mkN_rf {L : List I3} {i lo hi : Int} (hl : RefB lo L.length) : RefB (mkN L i lo hi).2 (mkN L i lo hi).1.length := by
  unfold mkN
  split
  · exact hl
  · split
    · rename_i k hk
      have := (List.getElem?_eq_some_iff.1 (posN_some hk).1).1
      exact ⟨by simp only; omega, by simp only; omega⟩
    · exact ⟨by simp only; omega, by simp only [List.length_append, List.length_cons, List.length_nil]; omega⟩
/-- the number of a pair -/
def pcN (A B : List I3) (a b : Int) : Nat := a.toNat * (B.length + 2) + b.toNat
theorem pc_inj {A B : List I3} {a b c d : Int} (ha : RefB a A.length) (hb : RefB b B.length) (hc : RefB c A.length) (hd : RefB d B.length) (h : pcN A B a b = pcN A B c d) : a = c ∧ b = d := by
  have hb1 := hb.1
  have hb2 := hb.2
  have hd1 := hd.1
  have hd2 := hd.2
  have ha1 := ha.1
  have hc1 := hc.1
  have hbn : b.toNat < B.length + 2 := by omega
  have hdn : d.toNat < B.length + 2 := by omega
  unfold pcN at h
  have e1 : (a.toNat * (B.length + 2) + b.toNat) / (B.length + 2) = a.toNat := by rw [Nat.mul_comm, Nat.mul_add_div (by omega), Nat.div_eq_of_lt hbn]; omega
  have e2 : (c.toNat * (B.length + 2) + d.toNat) / (B.length + 2) = c.toNat := by rw [Nat.mul_comm, Nat.mul_add_div (by omega), Nat.div_eq_of_lt hdn]; omega
  rw [h, e2] at e1
  rw [e1] at h
  omega
theorem pc_lt {A B : List I3} {a b : Int} (ha : RefB a A.length) (hb : RefB b B.length) : pcN A B a b < (A.length + 2) * (B.length + 2) := by
  have hb1 := hb.1
  have hb2 := hb.2
  have ha1 := ha.1
  have ha2 := ha.2
  have h1 : (a.toNat + 1) * (B.length + 2) ≤ (A.length + 2) * (B.length + 2) := Nat.mul_le_mul_right _ (by omega)
  rw [Nat.add_mul] at h1
  unfold pcN
  omega
/-- the pairs that are known, counted -/
structure JnK (A B : List I3) (L : List I3) (M : Mem) (S : List Nat) : Prop where
  nodup : S.Nodup
  lt : ∀ s ∈ S, s < (A.length + 2) * (B.length + 2)
  cov : ∀ a b, RefB a A.length → RefB b B.length → M a b = none → pcN A B a b ∉ S
  few : L.length ≤ S.length
theorem JnK.start (A B : List I3) : JnK A B [] (fun _ _ => none) [] := ⟨List.nodup_nil, (fun s h => by cases h), (fun a b _ _ _ h => by cases h), Nat.le_refl _⟩
theorem JnK.len {A B : List I3} {L : List I3} {M : Mem} {S : List Nat} (h : JnK A B L M S) : S.length ≤ (A.length + 2) * (B.length + 2) := nodup_lt _ _ h.nodup h.lt
theorem JnK.most {A B : List I3} {L : List I3} {M : Mem} {S : List Nat} (h : JnK A B L M S) (hA : A.length ≤ 2000) (hB : B.length ≤ 2000) : S.length ≤ 4008004 ∧ L.length ≤ 4008004 := by
  have h1 := h.len
  have h2 : (A.length + 2) * (B.length + 2) ≤ 2002 * 2002 := Nat.mul_le_mul (by omega) (by omega)
  have h3 := h.few
  omega
theorem JnK.add {A B : List I3} {L : List I3} {M : Mem} {S : List Nat} (h : JnK A B L M S) {a b : Int} (ha : RefB a A.length) (hb : RefB b B.length) (hm : M a b = none) {i lo hi v : Int} : JnK A B (mkN L i lo hi).1 (fun x y => if x = a ∧ y = b then some v else M x y) (pcN A B a b :: S) := by
  obtain ⟨t, ht, ht1⟩ := mkN_pre L i lo hi
  refine ⟨List.nodup_cons.2 ⟨h.cov a b ha hb hm, h.nodup⟩, fun s hs => ?_, fun x y hx hy hn hin => ?_, ?_⟩
  · rcases List.mem_cons.1 hs with rfl | hs
    · exact pc_lt ha hb
    · exact h.lt s hs
  · split at hn
    · cases hn
    · rename_i hne
      rcases List.mem_cons.1 hin with e | hin
      · obtain ⟨e1, e2⟩ := pc_inj hx hy ha hb e
        exact hne ⟨e1, e2⟩
      · exact h.cov x y hx hy hn hin
  · rw [ht, List.length_append, List.length_cons]
    have := h.few
    omega
/-- what goes down goes down -/
theorem ch_down {n : Int} {A B : List I3} (hA : Frst A) (hB : Frst B) (oA : OrdN n A) (oB : OrdN n B) {a b : Int} (ha : RefB a A.length) (hb : RefB b B.length) (h : ¬ (a < 2 ∧ b < 2)) {i : Int} (hi : min (lvlN n A a) (lvlN n B b) = i) :
    RefB (chN n A a i).1 A.length ∧ RefB (chN n A a i).2 A.length ∧ RefB (chN n B b i).1 B.length ∧ RefB (chN n B b i).2 B.length ∧ (chN n A a i).1.toNat + (chN n B b i).1.toNat < a.toNat + b.toNat ∧ (chN n A a i).2.toNat + (chN n B b i).2.toNat < a.toNat + b.toNat ∧ i < n ∧ (0 ≤ n → 0 ≤ i) := by
  subst hi
  have hi := ch_less (n := n) (i := min (lvlN n A a) (lvlN n B b)) hA ha
  have hk := ch_less (n := n) (i := min (lvlN n A a) (lvlN n B b)) hB hb
  have ea := lvl_le oA ha
  have eb := lvl_le oB hb
  have hpos : ∀ {L : List I3} {r : Int}, OrdN n L → RefB r L.length → 0 ≤ n → 0 ≤ lvlN n L r := fun {L r} ho hr hn => by
    by_cases h2 : r < 2
    · rw [lvl_low h2]; exact hn
    · obtain ⟨k, rfl⟩ : ∃ k : Nat, r = (k : Int) + 2 := ⟨(r - 2).toNat, by omega⟩
      have hk : k < L.length := by have := hr.2; omega
      have hx := List.getElem?_eq_getElem hk
      rw [lvl_node hx]
      exact (ho _ _ hx).1
  have hlt : min (lvlN n A a) (lvlN n B b) < n := by
    by_cases h2 : a < 2
    · have hb2 : ¬ b < 2 := fun hb2 => h ⟨h2, hb2⟩
      obtain ⟨q, rfl⟩ : ∃ q : Nat, b = (q : Int) + 2 := ⟨(b - 2).toNat, by omega⟩
      have hq : q < B.length := by have := hb.2; omega
      have hx := List.getElem?_eq_getElem hq
      have := (oB _ _ hx).2.1
      rw [lvl_node hx]
      omega
    · obtain ⟨q, rfl⟩ : ∃ q : Nat, a = (q : Int) + 2 := ⟨(a - 2).toNat, by omega⟩
      have hq : q < A.length := by have := ha.2; omega
      have hx := List.getElem?_eq_getElem hq
      have := (oA _ _ hx).2.1
      rw [lvl_node hx]
      omega
  have h0 : 0 ≤ n → 0 ≤ min (lvlN n A a) (lvlN n B b) := fun hn => by
    have := hpos oA ha hn
    have := hpos oB hb hn
    omega
  have hd : (chN n A a (min (lvlN n A a) (lvlN n B b))).1.toNat + (chN n B b (min (lvlN n A a) (lvlN n B b))).1.toNat < a.toNat + b.toNat ∧ (chN n A a (min (lvlN n A a) (lvlN n B b))).2.toNat + (chN n B b (min (lvlN n A a) (lvlN n B b))).2.toNat < a.toNat + b.toNat := by
    rcases Int.le_total (lvlN n A a) (lvlN n B b) with e | e
    · rw [Int.min_eq_left e] at hi hk hlt ⊢
      by_cases h2 : a < 2
      · rw [lvl_low h2] at hlt; omega
      · have := hi.2.2.1 (by omega) rfl
        omega
    · rw [Int.min_eq_right e] at hi hk hlt ⊢
      by_cases h2 : b < 2
      · rw [lvl_low h2] at hlt; omega
      · have := hk.2.2.1 (by omega) rfl
        omega
  exact ⟨hi.2.2.2.1, hi.2.2.2.2, hk.2.2.2.1, hk.2.2.2.2, hd.1, hd.2, hlt, h0⟩
theorem jn_cnt {j n : Int} {A B : List I3} (hA : Frst A) (hB : Frst B) (oA : OrdN n A) (oB : OrdN n B) : ∀ (f : Nat) (L : List I3) (M : Mem) (S : List Nat) (a b : Int), RefB a A.length → RefB b B.length → a.toNat + b.toNat ≤ f → JnK A B L M S →
    (∃ S', JnK A B (jnF j n A B f (L, M) a b).1 (jnF j n A B f (L, M) a b).2.1 S') ∧ ∀ x y, a.toNat + b.toNat < x.toNat + y.toNat → (jnF j n A B f (L, M) a b).2.1 x y = M x y := by
  intro f
  induction f with
  | zero =>
    intro L M S a b ha hb hf h
    rw [jn_low _ _ (by omega)]
    exact ⟨⟨S, h⟩, fun _ _ _ => rfl⟩
  | succ f ih =>
    intro L M S a b ha hb hf h
    by_cases h0 : a < 2 ∧ b < 2
    · rw [jn_low _ _ h0]; exact ⟨⟨S, h⟩, fun _ _ _ => rfl⟩
    · cases hm : M a b with
      | some r => rw [jn_old _ _ h0 hm]; exact ⟨⟨S, h⟩, fun _ _ _ => rfl⟩
      | none =>
        obtain ⟨i, hi⟩ : ∃ i, min (lvlN n A a) (lvlN n B b) = i := ⟨_, rfl⟩
        obtain ⟨c1, c2, c3, c4, d1, d2, _, _⟩ := ch_down hA hB oA oB ha hb h0 hi
        obtain ⟨⟨S1, u1⟩, u2⟩ := ih L M S _ _ c1 c3 (by omega) h
        obtain ⟨u, hu⟩ : ∃ u, jnF j n A B f (L, M) (chN n A a i).1 (chN n B b i).1 = u := ⟨_, rfl⟩
        rw [hu] at u1 u2
        obtain ⟨⟨S2, v1⟩, v2⟩ := ih u.1 u.2.1 S1 _ _ c2 c4 (by omega) u1
        obtain ⟨v, hv⟩ : ∃ v, jnF j n A B f (u.1, u.2.1) (chN n A a i).2 (chN n B b i).2 = v := ⟨_, rfl⟩
        rw [hv] at v1 v2
        rw [jn_new f (L, M) h0 hm hi hu hv]
        have hn : v.2.1 a b = none := by rw [v2 a b (by omega), u2 a b (by omega), hm]
        refine ⟨⟨_, v1.add ha hb hn⟩, fun x y hxy => ?_⟩
        simp only
        rw [if_neg (fun e => by rw [e.1, e.2] at hxy; omega), v2 x y (by omega), u2 x y (by omega)]
theorem cellR_drew {w : World} {a : Addr} {u : Value} (h : w.cell? a = some u) : w.drew.cell? a = some u := h
theorem ltR_drew {w : World} {g : Nat} (h : g < w.heap.size) : g < w.drew.heap.size := h
set_option maxHeartbeats 1000000 in
theorem spec_l22Level {a : Option Addr} {n c : Nat} {L : List I3} {inp root r : Int} {w : World} (hI : F3 w a n c L) (hn : n ≤ 1048576) (hr : RefB r L.length) :
    Calls Tryz.prog 195 #[.agg #[.int .i64 inp, .slice a n c, .int .i64 root], .int .i64 r] w fun e w' => e = .returned (.int .i64 (lvlN inp L r)) ∧ Below w.heap.size w w' := by
  by_cases h2 : r < 2
  · have HL := Lib.hid (lvl_low (n := inp) (L := L) h2)
    go_enter Tryz.func195, Tryz.ntmps195
    go_wp2
    go_ret
    exact ⟨by rw [HL.out]; rfl, bel⟩
  · obtain ⟨k, rfl⟩ : ∃ k : Nat, r = (k : Int) + 2 := ⟨(r - 2).toNat, by omega⟩
    have hkn : k < n := by rw [← hI.len]; have := hr.2; omega
    obtain ⟨b, off, x, rfl, hb, hx, hwf, hc0, hc1, hc2⟩ := F3.get hI hkn
    have HL := Lib.hid (lvl_node (n := inp) hx)
    have hk0 : (0 : Int) ≤ (k : Int) := by omega
    have hkn' : (k : Int) < (n : Int) := by omega
    have i1 : IntKind.i64.wrap ((k : Int) + 2 - 2) = (k : Int) := by rw [IntWalk.i64_in _ (by omega)]; omega
    have HI := Lib.hid hI
    clear hI hx
    go_enter Tryz.func195, Tryz.ntmps195
    go_wp2
    go_ret
    exact ⟨by rw [HL.out]; rfl, bel⟩
set_option maxHeartbeats 1000000 in
theorem impl_inputOf {a : Option Addr} {n c : Nat} {L : List I3} {inp root r : Int} {w : World} (hI : F3 w a n c L) (hn : n ≤ 4190000) (hr : RefB r L.length) :
    Calls Tryz.prog 139 #[.agg #[.int .i64 inp, .slice a n c, .int .i64 root], .int .i64 r] w fun e w' => e = .returned (.int .i64 (lvlN inp L r)) ∧ Below w.heap.size w w' := by
  by_cases h2 : r < 2
  · have HL := Lib.hid (lvl_low (n := inp) (L := L) h2)
    go_enter Tryz.func139, Tryz.ntmps139
    go_wp2
    go_ret
    exact ⟨by rw [HL.out]; rfl, bel⟩
  · obtain ⟨k, rfl⟩ : ∃ k : Nat, r = (k : Int) + 2 := ⟨(r - 2).toNat, by omega⟩
    have hkn : k < n := by rw [← hI.len]; have := hr.2; omega
    obtain ⟨b, off, x, rfl, hb, hx, hwf, hc0, hc1, hc2⟩ := F3.get hI hkn
    have HL := Lib.hid (lvl_node (n := inp) hx)
    have hk0 : (0 : Int) ≤ (k : Int) := by omega
    have hkn' : (k : Int) < (n : Int) := by omega
    have i1 : IntKind.i64.wrap ((k : Int) + 2 - 2) = (k : Int) := by rw [IntWalk.i64_in _ (by omega)]; omega
    have HI := Lib.hid hI
    clear hI hx
    go_enter Tryz.func139, Tryz.ntmps139
    go_wp2
    go_ret
    exact ⟨by rw [HL.out]; rfl, bel⟩
theorem neqNode (x y : I3) (wx : World) : (binOp .neq 117 (.agg #[.int .i64 x.a, .int .i64 x.b, .int .i64 x.c]) (.agg #[.int .i64 y.a, .int .i64 y.b, .int .i64 y.c])).run Tryz.prog wx = .ok (.bool (decide (x ≠ y))) wx := by
  rw [run_neq_struct, eqNode]
  by_cases h : x = y
  · rw [h]; simp [Result.andThen]
  · have : (x.a == y.a && (x.b == y.b && x.c == y.c)) = false := by
      rw [Bool.eq_false_iff]
      intro h1
      simp only [Bool.and_eq_true, beq_iff_eq] at h1
      exact h (by rw [I3.eta x, I3.eta y, h1.1, h1.2.1, h1.2.2])
    rw [this]; simp [Result.andThen, h]
set_option maxHeartbeats 1000000 in
theorem spec_l22Same {a b : Option Addr} {n c m d : Nat} {L M : List I3} {inp ra rb : Int} {w : World} (hI : F3 w a n c L) (hJ : F3 w b m d M) (hn : n ≤ 1048576) (hm : m ≤ 1048576) :
    Calls Tryz.prog 196 #[.agg #[.int .i64 inp, .slice a n c, .int .i64 ra], .agg #[.int .i64 inp, .slice b m d, .int .i64 rb]] w fun e w' => e = .returned (.bool (decide ((M, rb) = (L, ra)))) ∧ Below w.heap.size w w' := by
  have HI := Lib.hid hI
  have HJ := Lib.hid hJ
  have q1 := hI.len
  have q2 := hJ.len
  by_cases hr : ra = rb
  · subst hr
    by_cases hl : n = m
    · obtain rfl := hl
      have X := Lib.hid ((Blk.made w #[.int .i64 inp, .slice a n c, .int .i64 ra] 40).keep (below_alloc1 (Below.refl _ _) (.cells #[.int .i64 inp, .slice b n d, .int .i64 ra] 40)))
      have Y := Lib.hid (Blk.made1 w (.cells #[.int .i64 inp, .slice a n c, .int .i64 ra] 40) #[.int .i64 inp, .slice b n d, .int .i64 ra] 40)
      have hb0 : Below w.heap.size w ((w.alloc (.cells #[.int .i64 inp, .slice a n c, .int .i64 ra] 40)).alloc (.cells #[.int .i64 inp, .slice b n d, .int .i64 ra] 40)) := bel
      clear hI hJ
      go_enter Tryz.func196, Tryz.ntmps196
      go_wp2_with fail
      go_loopw [5] (fun s5 wr => ∃ j : Nat, s5 = .int .i64 j ∧ j ≤ n ∧ Hid (Below w.heap.size w wr) ∧ Hid (Blk wr w.heap.size #[.int .i64 inp, .slice a n c, .int .i64 ra] 40) ∧ Hid (Blk wr (w.heap.size + 1) #[.int .i64 inp, .slice b n d, .int .i64 ra] 40) ∧ Hid (∀ q, q < j → L[q]? = M[q]?)) (fun s5 _ => n - (intOf s5).toNat)
      case atStart => exact ⟨0, rfl, by omega, Lib.hid hb0, X, Y, Lib.hid fun q h => by omega⟩
      case round =>
        clear X Y hb0
        obtain ⟨j, rfl, hj, HB, X, Y, A⟩ := hrel
        have x1 := X.out.cell 1
        have xl := X.out.lt
        have y1 := Y.out.cell 1
        have yl := Y.out.lt
        simp at x1 y1
        by_cases hlt : j < n
        · have hlt' : (j : Int) < (n : Int) := by omega
          have hj0 : (0 : Int) ≤ (j : Int) := by omega
          obtain ⟨b1, o1, x, rfl, hb1, hx, _, c0, c1, c2⟩ := F3.get (HI.out.keep HB.out) hlt
          obtain ⟨b2, o2, y, rfl, hb2, hy, _, d0, d1, d2⟩ := F3.get (HJ.out.keep HB.out) hlt
          have HX := Lib.hid hx
          have HY := Lib.hid hy
          clear hx hy
          have hE := neqNode x y
          by_cases he : x = y
          · subst he
            simp only [ne_eq, not_true_eq_false, decide_false] at hE
            have A2 := Lib.hid (show ∀ q, q < j + 1 → L[q]? = M[q]? from fun q hq => by
              rcases (show q < j ∨ q = j by omega) with h | rfl
              · exact A.out q h
              · rw [HX.out, HY.out])
            go_wp2_with fail
            go_quiet (fail)
            go_wp2
            go_roundw
            case rel => exact ⟨j + 1, by go_num, by omega, Lib.hid (below_drewN HB.out _), Lib.hid (X.out.keep (below_drewN (Below.refl _ _) _)), Lib.hid (Y.out.keep (below_drewN (Below.refl _ _) _)), A2⟩
            case measure => simp [intOf]; omega
          · simp only [ne_eq, he, not_false_eq_true, decide_true] at hE
            have hne := Lib.hid (show ¬ ((M, ra) = (L, ra)) from fun e => by
              simp only [Prod.mk.injEq, and_true] at e
              have h1 := HX.out
              rw [← e, HY.out] at h1
              exact he (Option.some.inj h1).symm)
            go_wp2_with fail
            go_quiet (fail)
            go_wp2
            go_ret
            exact ⟨ret_bool (decide_eq_false hne.out).symm, below_drewN HB.out _⟩
        · have hjn : j = n := by omega
          subst hjn
          have hlt' : ¬ (j : Int) < (j : Int) := by omega
          have heq := Lib.hid (show (M, ra) = (L, ra) from by
            rw [show M = L from List.ext_getElem? fun q => by
              by_cases hq : q < j
              · exact (A.out q hq).symm
              · rw [List.getElem?_eq_none (by omega), List.getElem?_eq_none (by omega)]])
          go_wp2
          go_ret
          exact ⟨ret_bool (by have h := heq.out; simp only [Prod.mk.injEq, and_true] at h; simp [h]), HB.out⟩
    · have hl1 : ¬ (n : Int) = (m : Int) := by omega
      have hne := Lib.hid (show ¬ ((M, ra) = (L, ra)) from fun e => by
        simp only [Prod.mk.injEq, and_true] at e
        rw [e] at q2; omega)
      have e1 : ((n : Int) == (m : Int)) = false := by simpa using hl1
      have e2 : (n == m) = false := by simpa using hl
      clear hI hJ q1 q2
      go_enter Tryz.func196, Tryz.ntmps196
      go_wp2
      go_ret
      exact ⟨ret_bool (decide_eq_false hne.out).symm, bel⟩
  · have e1 : (ra == rb) = false := by simpa using hr
    have hne := Lib.hid (show ¬ ((M, rb) = (L, ra)) from fun e => by
      simp only [Prod.mk.injEq] at e
      exact hr e.2.symm)
    clear hI hJ q1 q2
    go_enter Tryz.func196, Tryz.ntmps196
    go_wp2
    go_ret
    exact ⟨ret_bool (decide_eq_false hne.out).symm, bel⟩
theorem cell_of_keep {w w' : World} {b o : Nat} {v : Value} (hb : Below w.heap.size w w') (h : w.cell? ⟨b, o, none⟩ = some v) : w'.cell? ⟨b, o, none⟩ = some v :=
  (hb.cell (p := ⟨b, o, none⟩) (World.block_lt_of_cell? w _ h)).trans h
section
variable {P : Program} {ops : Array Oper} {Q : Exit → Act → World → Prop} {md : Region.Mode} {S : World → Prop}
theorem wpAnyM_firstP {i L : Nat} {oi : Oper} {v : Value} (hi : ops[i]? = some oi) (hsel : ∀ (j : Nat) (o : Oper) cs b, ops[j]? = some o → o.op ≠ .select cs b) (hiL : i ≠ L)
    (hQ : ∀ c a w, Q (.panic c) (a.put oi.dst v) w → Q (.panic c) a w) :
    ∀ (fuel : Nat) (listed : Array Bool) (a : Act) (w : World), dcL md ops listed →
      (∀ j oj, ops[j]? = some oj → j ≠ i → listed.getD j true = false → (∀ e ∈ oj.after, Region.binds md e = true → e.on ≠ i) → oi.apart ops oj = true) →
      i ∈ Region.ready md ops listed → YieldsIf P ops (fun _ => True) oi v a → (listed.getD L true = false → S w) →
      wpAnyM P md ops Q S L fuel (listed.setIfInBounds i true) (a.put oi.dst v) w → wpAnyM P md ops Q S L (fuel + 1) listed a w := by
  intro fuel
  induction fuel with
  | zero =>
    intro listed a w _ _ hr hy hS H
    refine ⟨fun h => (by rw [h] at hr; cases hr), fun j hj => ?_⟩
    by_cases hji : j = i
    · subst hji; exact hy.wpOp hi trivial ⟨fun _ hl => hS hl, H⟩
    · have := ready_mono hj hji
      rw [H.1] at this
      cases this
  | succ fuel ih =>
    intro listed a w hdc hfree hr hy hS H
    refine ⟨fun h => (by rw [h] at hr; cases hr), fun j hj => ?_⟩
    by_cases hji : j = i
    · subst hji; exact hy.wpOp hi trivial ⟨fun _ hl => hS hl, H⟩
    · have hgL : (listed.setIfInBounds i true).getD L true = listed.getD L true := getD_set_ne true hiL
      have h1 := H.2 j (ready_mono hj hji)
      obtain ⟨hjun, oj, hoj, hall⟩ := mem_ready.1 hj
      have hnot : ∀ e ∈ oj.after, Region.binds md e = true → e.on ≠ i := fun e he hb heq => by
        have h1 := hall e he hb
        have h0 := (mem_ready.1 hr).1
        rw [heq] at h1
        rcases Nat.lt_or_ge i listed.size with h' | h'
        · simp [h'] at h0 h1; rw [h0] at h1; cases h1
        · simp [Array.getElem?_eq_none h'] at h1
      have h2 := wpOp_putIf hoj (hfree j oj hoj hji hjun hnot) (fun cs b => hsel i oi cs b hi) (fun cs b => hsel j oj cs b hoj) hQ hy h1
      have hfree' : ∀ k ok, ops[k]? = some ok → k ≠ i → (listed.setIfInBounds j true).getD k true = false →
          (∀ e ∈ ok.after, Region.binds md e = true → e.on ≠ i) → oi.apart ops ok = true := fun k ok hk hki hun hno => by
        refine hfree k ok hk hki ?_ hno
        by_cases hjk : j = k
        · subst hjk; exact hjun
        · rw [getD_set_ne true hjk] at hun; exact hun
      refine wpOp_mono (fun a' w' h3 => ⟨fun hjL hl => h3.2.1 hjL (by rw [hgL]; exact hl), ih (listed.setIfInBounds j true) a' w' (dcL_set hdc hj) hfree' (ready_mono hr (Ne.symm hji)) h3.1 ?_ ?_⟩) h2
      · intro hl
        by_cases hjL : j = L
        · subst hjL
          rcases Nat.lt_or_ge j listed.size with h' | h'
          · simp [h'] at hl
          · simp [Array.getElem?_eq_none h'] at hl
        · rw [getD_set_ne true hjL] at hl
          exact h3.2.1 hjL (by rw [hgL]; exact hl)
      · rw [Array.setIfInBounds_comm _ _ hji]
        exact h3.2.2
theorem wpAnyM_takeP {i L : Nat} {oi : Oper} {v : Value} {fuel : Nat} {listed : Array Bool} {a : Act} {w : World} (hi : ops[i]? = some oi) (hiL : i ≠ L) (hdc : dcB md ops listed = true)
    (hs : Region.noSelect ops = true) (hf : Region.free md ops listed i = true) (hr : (Region.ready md ops listed).contains i = true)
    (hQ : ∀ c a w, Q (.panic c) (a.put oi.dst v) w → Q (.panic c) a w) (hy : YieldsIf P ops (fun _ => True) oi v a) (hS : listed.getD L true = false → S w)
    (h : wpAnyM P md ops Q S L fuel (listed.setIfInBounds i true) (a.put oi.dst v) w) : wpAnyM P md ops Q S L (fuel + 1) listed a w :=
  wpAnyM_firstP hi (Region.noSelect_spec hs) hiL hQ fuel listed a w (dcB_spec hdc) (Region.free_spec hi hf) (by simpa using hr) hy hS h
theorem tkP0 (i : Nat) {L : Nat} {oi : Oper} {v : Value} {fuel : Nat} {listed : Array Bool} {a : Act} {w : World} (hy : ∀ w, True → (execOp a.eval oi).run P w = .ok (.value v) w) (h : wpAnyM P md ops Q S L fuel (listed.setIfInBounds i true) (a.put oi.dst v) w)
    (hi : ops[i]? = some oi := by simp only [List.getElem?_toArray, List.getElem?_cons_succ, List.getElem?_cons_zero] <;> rfl) (hiL : i ≠ L := by decide) (hdc : dcB md ops listed = true := by kernel_rfl) (hs : Region.noSelect ops = true := by kernel_rfl) (hf : Region.free md ops listed i = true := by kernel_rfl) (hr : (Region.ready md ops listed).contains i = true := by kernel_rfl)
    (hw : Region.wanted oi (yielded ops a.tmps) = true := by rfl)
    (hQ : ∀ c a w, Q (.panic c) (a.put oi.dst v) w → Q (.panic c) a w := by exact fun _ _ _ h => h) (hS : listed.getD L true = false → S w := by first | exact (fun _ => by assumption) | exact (fun h => by cases h)) : wpAnyM P md ops Q S L (fuel + 1) listed a w :=
  wpAnyM_takeP hi hiL hdc hs hf hr hQ (Or.inl ⟨hw, hy⟩) hS h
theorem tkP (i : Nat) {L : Nat} {oi : Oper} {v : Value} {fuel : Nat} {listed : Array Bool} {a : Act} {w : World} (h : wpAnyM P md ops Q S L fuel (listed.setIfInBounds i true) (a.put oi.dst v) w)
    (hi : ops[i]? = some oi := by simp only [List.getElem?_toArray, List.getElem?_cons_succ, List.getElem?_cons_zero] <;> rfl) (hiL : i ≠ L := by decide) (hdc : dcB md ops listed = true := by kernel_rfl) (hs : Region.noSelect ops = true := by kernel_rfl) (hf : Region.free md ops listed i = true := by kernel_rfl) (hr : (Region.ready md ops listed).contains i = true := by kernel_rfl)
    (hw : Region.wanted oi (yielded ops a.tmps) = true := by rfl)
    (hy : ∀ w, True → (execOp a.eval oi).run P w = .ok (.value v) w := by intro wv hSw; clear hSw; go_simp; try with_reducible rfl) (hQ : ∀ c a w, Q (.panic c) (a.put oi.dst v) w → Q (.panic c) a w := by exact fun _ _ _ h => h) (hS : listed.getD L true = false → S w := by first | exact (fun _ => by assumption) | exact (fun h => by cases h)) : wpAnyM P md ops Q S L (fuel + 1) listed a w :=
  wpAnyM_takeP hi hiL hdc hs hf hr hQ (Or.inl ⟨hw, hy⟩) hS h
end
end Go.Proofs.YtkaikbaagajckaaGreat
namespace Go.Proofs.YtkaikbaagajckaaGreat
open Go.RowKit
set_option linter.unusedVariables false
set_option linter.unusedSimpArgs false
attribute [local go_sem ↓] Go.wp_at_zero Go.wp_at_succ
instance I2.dec : DecidableEq I2 := fun x y =>
  if h : x.a = y.a ∧ x.b = y.b then .isTrue (by cases x; cases y; obtain ⟨h1, h2⟩ := h; simp only at h1 h2; subst h1 h2; rfl)
  else .isFalse (fun e => h (by subst e; exact ⟨rfl, rfl⟩))
def encK2 (x : I2) : Value := .agg #[.int .i64 x.a, .int .i64 x.b]
def litK2 (x : I2) : Lit := .string (keyBytes [.int .i64 x.a, .int .i64 x.b])
theorem key2_at {P : Program} {Kt I m : Nat} (hu : P.underlying Kt = some (.array 2 I)) (hI : P.underlying I = some (.int .i64)) (hk : P.keyType Kt = true) (hm : P.types.size = m + 1) (hc : P.cellsOf Kt = 2) (hcI : P.cellsOf I = 1) (x : I2) (h : x.ok) : keyOf P Kt (encK2 x) = some (litK2 x) := by
  have h1 := h.1.wf
  have h2 := h.2.wf
  simp [keyOf, hu, hk, encK2, Value.formed, hc, Program.keyLits, hm, Value.cells, hcI, hI, h1, h2, litK2, List.range_succ]
theorem Tryz.rowP : (182 : TypeId) < Tryz.prog.types.size := of_decide_eq_true (by kernel_rfl)
theorem Tryz.deepP : Tryz.prog.keyTypeAt 3 182 = true := by kernel_rfl
theorem keyedP : Maps.Keyed Tryz.prog 182 := Maps.Keyed.of_law (deep_law_laid Tryz.laidV (m := 3) (by omega) Tryz.rowP Tryz.deepP (by rw [Tryz.underlying182]))
theorem Tryz.cellsP : Tryz.prog.cellsOf 182 = 2 := by kernel_rfl
theorem Tryz.keyP : Tryz.prog.keyType 182 = true := by kernel_rfl
theorem keyP : KeyA 182 encK2 I2.ok litK2 := ⟨keyedP, fun x h => by
  obtain ⟨m, hm⟩ : ∃ m, Tryz.prog.types.size = m + 1 := ⟨Tryz.prog.types.size - 1, by have := Tryz.someTypes; omega⟩
  exact key2_at Tryz.underlying182 Tryz.underlying2 Tryz.keyP hm Tryz.cellsP Tryz.cellsI x h, fun x y h => by
  simp [encK2] at h
  cases x; cases y; simp only at h; rw [h.1, h.2]⟩
theorem MapA.updL {α : Type} {Kt : TypeId} {enc : α → Value} {ok : α → Prop} {lit : α → Lit} [DecidableEq α] {w : World} {b n : Nat} {f : α → Option Int} (h : MapA Kt ok lit w b n f) (hK : KeyA Kt enc ok lit) {t : TypeId} (ht : Tryz.prog.underlying t = some (.map Kt 2)) (hn : n < maxLen) {x : α} (hx : ok x) {v : Int} (hv : I64 v)
    {o : Oper} {ops : Array Oper} {rest : List Oper} {act : Act} {Q : Exit → Act → World → Prop} (hgd : o.guard = none) (m y z : Operand) (hop : o.op = Op.mapUpdate t m y z) (hm : act.eval m = .map (some b)) (hy : act.eval y = enc x) (hz : act.eval z = .int .i64 v)
    (hk : ∀ w', MapA Kt ok lit w' b (n + 1) (fun y => if y = x then some v else f y) → w.grownBy w' (some b) → wpList Tryz.prog ops Q rest (act.put o.dst undef) w') : wpList Tryz.prog ops Q (o :: rest) act w :=
  wpList_plain hgd fun K hKK => h.wp hK ht hn hx hv m y z hop hm hy hz fun w' h1 h2 => hKK _ _ (hk w' h1 h2)
set_option maxHeartbeats 1000000 in
theorem impl_joined {j x y : Int} {w : World} (hx : x = 0 ∨ x = 1) (hy : y = 0 ∨ y = 1) : Calls Tryz.prog 138 #[.int .i64 j, .int .i64 x, .int .i64 y] w fun e w' => e = .returned (.int .i64 (jopN j x y)) ∧ w = w' := by
  by_cases h0 : j = 0
  · subst h0
    rcases hx with rfl | rfl <;> rcases hy with rfl | rfl
    all_goals
      go_enter Tryz.func138, Tryz.ntmps138
      go_wp2
      go_ret
      exact ⟨rfl, rfl⟩
  · have e0 : (j == 0) = false := by simpa using h0
    by_cases h1 : j = 1
    · subst h1
      rcases hx with rfl | rfl <;> rcases hy with rfl | rfl
      all_goals
        go_enter Tryz.func138, Tryz.ntmps138
        go_wp2
        go_ret
        exact ⟨rfl, rfl⟩
    · have e1 : (j == 1) = false := by simpa using h1
      have HJ := Lib.hid (show ∀ x y : Int, jopN j x y = if xor (x == 1) (y == 1) = true then 1 else 0 from fun x y => by rw [jopN, bopN, if_neg h0, if_neg h1])
      clear h0 h1
      rcases hx with rfl | rfl <;> rcases hy with rfl | rfl
      all_goals
        go_enter Tryz.func138, Tryz.ntmps138
        go_wp2
        go_ret
        exact ⟨by rw [HJ.out]; rfl, rfl⟩
set_option maxHeartbeats 2000000 in
theorem impl_children {a : Option Addr} {n c : Nat} {L : List I3} {inp root r input : Int} {w : World} (hI : F3 w a n c L) (hn : n ≤ 4190000) (hr : RefB r L.length) (hin : r < 2 → inp ≠ input) :
    Calls Tryz.prog 140 #[.agg #[.int .i64 inp, .slice a n c, .int .i64 root], .int .i64 r, .int .i64 input] w fun e w' => e = .returned (.tuple #[.int .i64 (chN inp L r input).1, .int .i64 (chN inp L r input).2]) ∧ Below w.heap.size w w' := by
  have hb0 : Below w.heap.size w (w.alloc (.cells #[.int .i64 inp, .slice a n c, .int .i64 root] 40)) := bel
  have X := Lib.hid (Blk.made w #[.int .i64 inp, .slice a n c, .int .i64 root] 40)
  have HC := Lib.hid (impl_inputOf (inp := inp) (root := root) (hI.keep hb0) hn hr)
  by_cases hl : lvlN inp L r = input
  · have h2 : ¬ r < 2 := fun h => by
      rw [lvl_low h] at hl
      exact hin h hl
    obtain ⟨k, rfl⟩ : ∃ k : Nat, r = (k : Int) + 2 := ⟨(r - 2).toNat, by omega⟩
    have hkn : k < n := by rw [← hI.len]; have := hr.2; omega
    obtain ⟨b, off, x, rfl, hb, hx, hwf, hc0, hc1, hc2⟩ := F3.get hI hkn
    have hk0 : (0 : Int) ≤ (k : Int) := by omega
    have hkn' : (k : Int) < (n : Int) := by omega
    have i1 : IntKind.i64.wrap ((k : Int) + 2 - 2) = (k : Int) := by rw [IntWalk.i64_in _ (by omega)]; omega
    have HX := Lib.hid (ch_node (n := inp) hx (show x.a = input by rw [← hl, lvl_node hx]))
    have HL := Lib.hid hl
    have e1 : (input != input) = false := by simp
    clear hl hx hin hI
    go_enter Tryz.func140, Tryz.ntmps140
    go_wp2_with fail
    refine Calls.mono HC.out ?_
    rintro e w1 ⟨rfl, hb1⟩
    rw [HL.out]
    have x1 := (X.out.keep hb1).cell 1
    have xl := (X.out.keep hb1).lt
    simp only [List.getElem?_toArray, List.getElem?_cons_succ, List.getElem?_cons_zero] at x1
    have hb01 := below_callS hb0 hb1
    have c0 := cell_of_keep hb01 hc0
    have c1 := cell_of_keep hb01 hc1
    have c2 := cell_of_keep hb01 hc2
    have bl := Nat.lt_of_lt_of_le hb hb01.size
    go_wp2_with fail
    go_quiet (fail)
    have hbe := below_drewN (below_alloc1 hb01 (.cells #[.int .i64 x.a, .int .i64 x.b, .int .i64 x.c] 117)) nq
    go_wp2
    go_ret2
    exact ⟨by rw [HX.out]; rfl, hbe⟩
  · have HF := Lib.hid (show chN inp L r input = (r, r) from ch_skip (.inl hl))
    have e1 : (lvlN inp L r == input) = false := by simpa using hl
    have e2 : (lvlN inp L r != input) = true := by simpa using hl
    clear hI hl hin
    go_enter Tryz.func140, Tryz.ntmps140
    go_wp2_with fail
    refine Calls.mono HC.out ?_
    rintro e w1 ⟨rfl, hb1⟩
    go_wp2
    go_ret2
    exact ⟨by rw [HF.out]; rfl, below_callS hb0 hb1⟩
end Go.Proofs.YtkaikbaagajckaaGreat
namespace Go.Proofs.YtkaikbaagajckaaGreat
open Go.RowKit
set_option linter.unusedVariables false
set_option linter.unusedSimpArgs false
attribute [local go_sem ↓] Go.wp_at_zero Go.wp_at_succ
theorem blk_map_ne {w : World} {b m : Nat} {cs : Array Value} {T : TypeId} (h : Blk w b cs T) (hm : ∃ es clock, w.heap[m]? = some (.map es clock)) : b ≠ m := fun e => by
  obtain ⟨es, cl, hm⟩ := hm
  rw [Blk, e, hm] at h
  cases h
theorem blk_typ_ne {w : World} {b p : Nat} {cs cs' : Array Value} {T T' : TypeId} (h : Blk w b cs T) (h' : Blk w p cs' T') (hT : T ≠ T') : b ≠ p := fun e => by
  rw [Blk] at h h'
  rw [e, h'] at h
  simp only [Option.some.injEq, Obj.cells.injEq] at h
  exact hT h.2.1.symm
/-- the box of the visit, and all that it has caught -/
abbrev vFun (bJ bM bA bB bF bV : Nat) : Value := .func (.func 137) #[] #[.pointer (some ⟨bJ, 0, none⟩), .pointer (some ⟨bM, 0, none⟩), .pointer (some ⟨bA, 0, none⟩), .pointer (some ⟨bB, 0, none⟩), .pointer (some ⟨bF, 0, none⟩), .pointer (some ⟨bV, 0, none⟩)]
/-- what the program's walk over two diagrams has at hand -/
structure JnW (w : World) (lo bJ bM mm bA bB bF p mb bV : Nat) (j n : Int) (aA aB : Option Addr) (cA cB : Nat) (A B : List I3) (rA rB : Int) (L : List I3) (M : Mem) : Prop where
  jx : Blk w bJ #[.int .i64 j] 2
  m : Blk w bM #[.map (some mm)] 178
  pl : ∃ cnt S, MapA 182 I2.ok litK2 w mm cnt (fun x => M x.a x.b) ∧ JnK A B L M S ∧ cnt ≤ S.length
  a : Blk w bA #[.int .i64 n, .slice aA A.length cA, .int .i64 rA] 40
  b : Blk w bB #[.int .i64 n, .slice aB B.length cB, .int .i64 rB] 40
  f : Blk w bF #[.pointer (some ⟨p, 0, none⟩)] 101
  fo : ∃ na nc mn, ForA w lo p mb n na nc mn L
  v : Blk w bV #[vFun bJ bM bA bB bF bV] 179
  nA : F3 w aA A.length cA A
  nB : F3 w aB B.length cB B
  inv : JnI j n A B L M
  lows : lo ≤ w.heap.size ∧ lo ≤ mm ∧ mm ≠ mb
  lA : A.length = 0 ∨ ∀ g off, aA = some ⟨g, off, none⟩ → g < lo
  lB : B.length = 0 ∨ ∀ g off, aB = some ⟨g, off, none⟩ → g < lo
section
variable {w w' : World} {lo bJ bM mm bA bB bF p mb bV : Nat} {j n : Int} {aA aB : Option Addr} {cA cB : Nat} {A B : List I3} {rA rB : Int} {L : List I3} {M : Mem}
theorem JnW.keep (h : JnW w lo bJ bM mm bA bB bF p mb bV j n aA aB cA cB A B rA rB L M) (hb : Below w.heap.size w w') : JnW w' lo bJ bM mm bA bB bF p mb bV j n aA aB cA cB A B rA rB L M := by
  obtain ⟨cnt, S, h1, h2, h3⟩ := h.pl
  obtain ⟨na, nc, mn, h4⟩ := h.fo
  exact ⟨h.jx.keep hb, h.m.keep hb, ⟨cnt, S, h1.keep hb, h2, h3⟩, h.a.keep hb, h.b.keep hb, h.f.keep hb, ⟨na, nc, mn, h4.keep hb⟩, h.v.keep hb, h.nA.keep hb, h.nB.keep hb, h.inv, ⟨Nat.le_trans h.lows.1 hb.size, h.lows.2⟩, h.lA, h.lB⟩
end
set_option maxRecDepth 100000 in
set_option maxHeartbeats 2000000 in
theorem impl_join_low {f lo bJ bM mm bA bB bF p mb bV : Nat} {j n : Int} {aA aB : Option Addr} {cA cB : Nat} {A B : List I3} {rA rB : Int} {L : List I3} {M : Mem} {w : World} {a b : Int} (hW : JnW w lo bJ bM mm bA bB bF p mb bV j n aA aB cA cB A B rA rB L M) (ha : RefB a A.length) (hb : RefB b B.length) (h : a < 2 ∧ b < 2) :
    Calls Tryz.prog 137 #[.int .i64 a, .int .i64 b, .pointer (some ⟨bJ, 0, none⟩), .pointer (some ⟨bM, 0, none⟩), .pointer (some ⟨bA, 0, none⟩), .pointer (some ⟨bB, 0, none⟩), .pointer (some ⟨bF, 0, none⟩), .pointer (some ⟨bV, 0, none⟩)] w fun e w' => e = .returned (.int .i64 (jnF j n A B f (L, M) a b).2.2) ∧ JnW w' lo bJ bM mm bA bB bF p mb bV j n aA aB cA cB A B rA rB (jnF j n A B f (L, M) a b).1 (jnF j n A B f (L, M) a b).2.1 ∧ Below lo w w' := by
  have HJ := Lib.hid (jn_low (j := j) (n := n) (A := A) (B := B) f (L, M) h)
  have HW := Lib.hid hW
  have j0 := hW.jx.cell 0
  have jl := hW.jx.lt
  simp at j0
  have h1 := h.1
  have h2 := h.2
  have ha0 := ha.1
  have hb0 := hb.1
  clear hW ha hb h
  go_enter Tryz.func137, Tryz.ntmps137
  go_wp2_with fail
  go_wp2_with fail
  refine Calls.mono ((impl_joined (j := j) (by omega) (by omega))) ?_
  rintro e _ ⟨rfl, rfl⟩
  go_wp2
  go_ret
  exact ⟨by rw [HJ.out]; rfl, by rw [HJ.out]; exact HW.out, Below.refl _ _⟩
set_option maxRecDepth 100000 in
set_option maxHeartbeats 2000000 in
theorem impl_join_old {f lo bJ bM mm bA bB bF p mb bV : Nat} {j n : Int} {aA aB : Option Addr} {cA cB : Nat} {A B : List I3} {rA rB : Int} {L : List I3} {M : Mem} {w : World} {a b r : Int} (hW : JnW w lo bJ bM mm bA bB bF p mb bV j n aA aB cA cB A B rA rB L M) (ha : I64 a) (hb : I64 b) (h : ¬ (a < 2 ∧ b < 2)) (hr : M a b = some r) :
    Calls Tryz.prog 137 #[.int .i64 a, .int .i64 b, .pointer (some ⟨bJ, 0, none⟩), .pointer (some ⟨bM, 0, none⟩), .pointer (some ⟨bA, 0, none⟩), .pointer (some ⟨bB, 0, none⟩), .pointer (some ⟨bF, 0, none⟩), .pointer (some ⟨bV, 0, none⟩)] w fun e w' => e = .returned (.int .i64 (jnF j n A B (f + 1) (L, M) a b).2.2) ∧ JnW w' lo bJ bM mm bA bB bF p mb bV j n aA aB cA cB A B rA rB (jnF j n A B (f + 1) (L, M) a b).1 (jnF j n A B (f + 1) (L, M) a b).2.1 ∧ Below lo w w' := by
  have HJ := Lib.hid (jn_old (j := j) (n := n) (A := A) (B := B) f (L, M) h hr)
  have HW := Lib.hid hW
  have m0 := hW.m.cell 0
  have ml := hW.m.lt
  simp at m0
  obtain ⟨cnt, S, hpl, _, _⟩ := hW.pl
  have hl := hpl.look keyP Tryz.underlying178 (x := ⟨a, b⟩) ⟨ha, hb⟩ true
  simp only [hr] at hl
  have hlk := (show (Instr.lookup 178 (.map (some mm)) (.agg #[.int .i64 a, .int .i64 b]) true).run Tryz.prog w = .ok (.tuple #[.int .i64 r, .bool true]) w from hl)
  have hcase : ¬ a < 2 ∨ (a < 2 ∧ ¬ b < 2) := by omega
  clear hW hpl hl hr h
  rcases hcase with h1 | ⟨h1, h2⟩
  · go_enter Tryz.func137, Tryz.ntmps137
    go_wp2
    go_ret
    exact ⟨by rw [HJ.out]; rfl, by rw [HJ.out]; exact HW.out, Below.refl _ _⟩
  · go_enter Tryz.func137, Tryz.ntmps137
    go_wp2
    go_ret
    exact ⟨by rw [HJ.out]; rfl, by rw [HJ.out]; exact HW.out, Below.refl _ _⟩
end Go.Proofs.YtkaikbaagajckaaGreat
namespace Go.Proofs.YtkaikbaagajckaaGreat
open Go.RowKit
set_option linter.unusedVariables false
set_option linter.unusedSimpArgs false
theorem enc1_one9 (y : Int) : ∀ u ∈ enc1 y, u.oneCell' = true := fun u hu => by simp [enc1] at hu; subst hu; rfl
theorem own_lit9 {w : World} {T : TypeId} {z : Int} (hz : I64 z) : OwnI T (w.alloc (.cells #[.int .i64 z] T)) w.heap.size (some ⟨w.heap.size, 0, none⟩) 1 1 [z] :=
  OwnF.i1 (OwnF.lit w [z] (Nat.le_refl _) rfl (by decide) (fun _ => rfl) (fun y hy => by simp at hy; rw [hy]; exact hz) rfl)
theorem lit9_of {w w0 : World} {B : Nat} {T : TypeId} {z : Int} (_ : Below B w0 (w.alloc (.cells #[.int .i64 z] T))) (hz : I64 z) : OwnI T (w.alloc (.cells #[.int .i64 z] T)) w.heap.size (some ⟨w.heap.size, 0, none⟩) 1 1 [z] := own_lit9 hz
theorem lit9_ofd {w w0 : World} {B : Nat} {T : TypeId} {z : Int} (_ : Below B w0 (w.alloc (.cells #[.int .i64 z] T)).drew) (hz : I64 z) : OwnI T (w.alloc (.cells #[.int .i64 z] T)).drew w.heap.size (some ⟨w.heap.size, 0, none⟩) 1 1 [z] := (own_lit9 hz).keep (Below.refl _ _).drew
theorem OwnI.al9 {E : TypeId} {w w0 : World} {o : Obj} {B base : Nat} {a : Option Addr} {n c : Nat} {l : List Int} (h : OwnI E w base a n c l) (_ : Below B w0 (w.alloc o)) : OwnI E (w.alloc o) base a n c l := h.keep ((Below.refl _ _).alloc (Nat.le_refl _) o)
theorem Blk.put8 {w : World} {b : Nat} {cs : Array Value} {T : TypeId} (h : Blk w b cs T) (i : Nat) (v : Value) : Blk (w.setCell ⟨b, i, none⟩ v) b (cs.setIfInBounds i v) T := heap_setCell_same w b i cs T v h
theorem SRow.setB9 {w : World} {lo l2 b : Nat} {a : Option Addr} {n c : Nat} {l : List (QM × List Int)} {cs : Array Value} {T : TypeId} (h : SRow w lo l2 a n c l) (hB : Blk w b cs T) (h1 : T ≠ 22) (h2 : T ≠ 2) (j : Nat) (u : Value) : SRow (w.setCell ⟨b, j, none⟩ u) lo l2 a n c l :=
  h.keepG (set_grown b j u) fun cur E e => by
    rw [Blk] at hB
    rw [hB] at e
    simp only [Option.some.injEq, Obj.cells.injEq] at e
    rw [← e.2.1]
    exact ⟨h1, h2⟩
end Go.Proofs.YtkaikbaagajckaaGreat
