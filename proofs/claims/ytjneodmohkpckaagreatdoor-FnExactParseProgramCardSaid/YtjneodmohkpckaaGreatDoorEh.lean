/- The program's parser: a block, walked. (Printed by mkeh.py.) -/
import Derived.Test.YtjneodmohkpckaaGreatDoorEg
namespace Go.Proofs.YtjneodmohkpckaaGreatDoor
open Go.RowKit
set_option linter.unusedVariables false
set_option linter.unusedSimpArgs false
attribute [local go_sem ↓] Go.wp_at_zero Go.wp_at_succ
/-- as PRt, from any state -/
def PRg (o : Option (List TM × List TR)) (bad0 : Bool) (p m : Nat) (w : World) (e : Ending) (w' : World) : Prop := ∃ (a : Option Addr) (n c : Nat) (ts : List TM) (bad : Bool) (L : List TR), e = .returned (.slice a n c) ∧ OwnTm w' w.heap.size a n c ts ∧ PSt w' p bad L ∧ Only p (p + 1) w w' ∧ n + 2 * L.length ≤ 2 * m + (if bad0 = true then 0 else 1) ∧ o = (if bad = true then none else some (ts, L))
theorem impl_expression_gen {g : Nat} (IH : PAll g) {w : World} {p : Nat} {bad : Bool} {L : List TR} (h : PSt w p bad L) (hE : EV w p) (hf : bad = false → 8 * L.length + 5 ≤ g) : Calls Tryz.prog 82 #[.pointer (some ⟨p, 0, none⟩)] w (PRg (if bad = true then none else prs g .ex L) bad p L.length w) := by
  cases bad
  · exact (IH.ex w p L h hE h.tk (hf rfl)).mono fun e w' ⟨a, n, c, ts, b, L', h1, h2, h3, h4, h5, h6⟩ => ⟨a, n, c, ts, b, L', h1, h2, h3, h4, h5, by simpa using h6⟩
  · exact (impl_expression_bad h).mono fun e w' ⟨h1, h2⟩ => by
      subst h2
      exact ⟨none, 0, 0, [], true, L, h1, OwnTm.nil _ _, h, Only.refl _ _ _, by simp, by simp⟩
theorem EV.keepB {w w' : World} {p B : Nat} (h : EV w p) (hb : Below B w w') (hB : p < B) : EV w' p := by
  have hg : ∀ {n : String} {g : Nat} {cs : Array Value}, Tryz.prog.globalNamed n = some g → w.var? Tryz.prog n = some cs → g < p → w'.var? Tryz.prog n = some cs := by
    intro n g cs hg h hp
    unfold World.var? at h ⊢
    rw [hg] at h ⊢
    simp only [Option.bind_some] at h ⊢
    rw [hb.block g (by omega)]; exact h
  obtain ⟨t1, p1, h1⟩ := h.lv.s
  obtain ⟨t2, p2, h2⟩ := h.lv.r
  exact ⟨⟨hg (g := 4) (by kernel_rfl) h.lv.t h.n2, ⟨t1, p1, hg (g := 5) (by kernel_rfl) h1 h.n3⟩, ⟨t2, p2, hg (g := 6) (by kernel_rfl) h2 h.n4⟩⟩, ⟨Nat.lt_of_lt_of_le h.kw.1 hb.size, fun i v hv => (hb.cell (p := ⟨0, i, none⟩) (show 0 < B by have := h.n1; omega)).trans (h.kw.2 i v hv)⟩, h.n1, h.n2, h.n3, h.n4⟩
theorem OwnF.keepE {α : Type} {k : Nat} {enc : α → List Value} {ok : α → Prop} {E : TypeId} {w w' : World} {base B : Nat} {a : Option Addr} {n c : Nat} {l : List α} (h : OwnF k enc ok E w base a n c l) (hb : Below B w w') (hB : ∀ g, a = some ⟨g, 0, none⟩ → g < B) : OwnF k enc ok E w' base a n c l := h.only (Below.onlyE hb) fun g e => .inl (hB g e)
/-- the second expression of a block -/
def blS (g : Nat) (k : Int) (r : List TM × List TR) : Option (List TM × List TR) := if tkA k = 2 then (if isT r.2 [44] = true then (prs g .ex r.2.tail).bind fun q => some (r.1 ++ q.1, q.2) else none) else some r
theorem prs_bl (g : Nat) (k : Int) (L : List TR) : prs (g + 1) (.bl k) L = (((if isT L [40] = true then prs g .ex L.tail else none).bind (blS g k)).bind (blN k)).bind (blE k) := by
  rw [prs]
  cases isT L [40]
  · rfl
  · simp only [if_true]
    cases prs g .ex L.tail with
    | none => rfl
    | some r => 
      simp only [Option.bind_some]
      rw [Option.bind_assoc]
      rfl
set_option maxRecDepth 100000 in
set_option maxHeartbeats 8000000 in
theorem impl_block_step {f : Nat} (ih : ∀ g, g < f → PAll g) : ∀ (w : World) (p : Nat) (L : List TR) (k : Int), PSt w p false L → EV w p → (∀ x ∈ L, TkB x) → 8 * L.length + 6 ≤ f → 7 ≤ k → k ≤ 12 → Calls Tryz.prog 178 #[.pointer (some ⟨p, 0, none⟩), .int .i64 k] w (PRt (prs f (.bl k) L) p L.length w) := by
  intro w p L k hP hE _ hf hk7 hk12
  obtain ⟨g, rfl⟩ : ∃ g, f = g + 1 := ⟨f - 1, by omega⟩
  have IH := Lib.hid (ih g (Nat.lt_succ_self _))
  have HPR := Lib.hid (prs_bl g k L)
  have P := Lib.hid hP
  have V := Lib.hid hE
  have N8 := hP.n8
  have HK := Lib.hid (show 7 ≤ k ∧ k ≤ 12 from ⟨hk7, hk12⟩)
  clear ih hP hE hk7 hk12

  go_enter Tryz.func178, Tryz.ntmps178
  go_wp2_with fail
  refine Calls.mono (impl_expectL (t := [40]) P.out (by decide)) ?_
  rintro e w1 ⟨⟨v, rfl⟩, hp, ho⟩
  have P1 := Lib.hid hp
  have V1 := Lib.hid (V.out.only ho)
  have Q1 := Lib.hid ho
  have hs1 := ho.size
  have hl1 := exL_len L [40]
  clear hp ho P V
  have hfl : (false || !isT L [40]) = false → 8 * (exL L [40]).length + 5 ≤ g := fun h => by
    have h1 : isT L [40] = true := by simpa using h
    have h2 := isT_len (by decide) h1
    rw [exL, if_pos h1]; omega
  have KX := Lib.hid (impl_expression_gen IH.out P1.out V1.out hfl)
  clear hfl
  go_wp2_with fail
  refine Calls.mono KX.out ?_
  rintro e w2 ⟨a, n, c, ts, bad, R, rfl, hO, hP, hQ, hn, ho⟩
  have hp1 := P1.out.lt
  have hs2 := hQ.size
  have O2 := Lib.hid hO
  have P2 := Lib.hid hP
  have V2 := Lib.hid (V1.out.only hQ)
  have Q2 := Lib.hid (Q1.out.trans hQ)
  have HO2 := Lib.hid (show (if isT L [40] = true then prs g .ex L.tail else none) = (if bad = true then none else some (ts, R)) by
    rw [← ho]
    cases h1 : isT L [40]
    · rfl
    · rw [exL, if_pos h1]; rfl)
  have hn2 : n + 2 * R.length ≤ 2 * L.length ∧ (isT L [40] = true → n + 2 * R.length + 1 ≤ 2 * L.length) := by
    cases h1 : isT L [40]
    · rw [h1, exL, h1] at hn
      simp at hn
      exact ⟨by omega, fun h => by cases h⟩
    · have h2 := isT_len (by decide) h1
      rw [h1, exL, h1] at hn
      simp only [Bool.not_true, Bool.or_false, Bool.false_eq_true, if_false, if_true] at hn
      exact ⟨by omega, fun _ => by omega⟩
  have hbt : isT L [40] = true ∨ bad = true := by
    cases h1 : isT L [40]
    · right
      have h2 := HO2.out
      rw [h1] at h2
      cases bad
      · cases h2
      · rfl
    · exact .inl rfl
  have hN3 : n + 2 * R.length ≤ 2 * L.length ∧ (bad = false → n + 2 * R.length + 1 ≤ 2 * L.length) := ⟨hn2.1, fun h => hn2.2 (hbt.resolve_right (by rw [h]; decide))⟩
  clear hO hP hQ ho hn hn2 hbt P1 V1 Q1 KX hl1
  go_wp2_with fail
  refine Calls.mono impl_arguments ?_
  rintro e _ ⟨rfl, rfl⟩
  by_cases hk2 : tkA k = 2
  · skip
    have H2 := Lib.hid hk2
    clear hk2
    rw [H2.out]
    go_wp2_with fail
    refine Calls.mono (impl_expectL (t := [44]) P2.out (by decide)) ?_
    rintro e w3 ⟨⟨v3, rfl⟩, hp, ho⟩
    have P3 := Lib.hid hp
    have V3 := Lib.hid (V2.out.only ho)
    have Q3 := Lib.hid (Q2.out.trans ho)
    have O3 := Lib.hid (O2.out.only ho (fun g e => .inr (by have := (O2.out.blk g e).1; omega)))
    have hs3 := ho.size
    have hl3 := exL_len R [44]
    clear hp ho P2 V2 Q2 O2
    have hfl : (bad || !isT R [44]) = false → 8 * (exL R [44]).length + 5 ≤ g := fun h => by
      simp only [Bool.or_eq_false_iff, Bool.not_eq_false'] at h
      have h2 := isT_len (by decide) h.2
      have h3 := hN3.2 h.1
      rw [exL, if_pos h.2]; omega
    have KX := Lib.hid (impl_expression_gen IH.out P3.out V3.out hfl)
    clear hfl
    go_wp2_with fail
    refine Calls.mono KX.out ?_
    rintro e w4 ⟨a4, n4, c4, ts4, bad4, R4, rfl, hO, hP, hQ, hn, ho⟩
    have hp3 := P3.out.lt
    have hs4 := hQ.size
    have O4 := Lib.hid hO
    have P4 := Lib.hid hP
    have V4 := Lib.hid (V3.out.only hQ)
    have Q4 := Lib.hid (Q3.out.trans hQ)
    have O4a := Lib.hid (O3.out.only hQ (fun g e => .inr (by have := (O3.out.blk g e).1; omega)))
    have HO4 := Lib.hid (show (if bad = true then none else some (ts, R)).bind (blS g k) = (if bad4 = true then none else some (ts ++ ts4, R4)) by
      cases bad
      · simp only [Bool.false_eq_true, if_false, Option.bind_some, blS, if_pos H2.out, Bool.false_or] at ho ⊢
        cases h1 : isT R [44]
        · rw [h1] at ho
          simp at ho
          rw [ho]; rfl
        · rw [h1, exL, if_pos h1] at ho
          simp only [Bool.not_true, Bool.false_eq_true, if_false] at ho
          rw [if_pos rfl, ho]
          cases bad4 <;> rfl
      · simp at ho
        rw [ho]; rfl)
    have hn4 : n + n4 + 2 * R4.length ≤ 2 * L.length ∧ (bad4 = false → bad = false) := by
      refine ⟨?_, fun h => ?_⟩
      · cases h0 : bad
        · have h3 := hN3.2 h0
          rw [h0] at hn
          cases h1 : isT R [44]
          · rw [h1] at hn; simp at hn; omega
          · have h2 := isT_len (by decide) h1
            rw [h1, exL, if_pos h1] at hn; simp at hn; omega
        · rw [h0] at hn; simp at hn; omega
      · cases h0 : bad
        · rfl
        · rw [h0] at ho; simp at ho; rw [ho] at h; cases h
    clear hO hP hQ hn ho P3 V3 Q3 O3 KX
    have hnn : n ≤ 2000 ∧ n4 ≤ 2000 := by omega
    go_wp2_with (at_builtin; refine appendL_F (k := 3) (enc := TM.enc) (ok := fun _ => True) rfl _ _ 45 55 rfl Tryz.underlying45 Tryz.infoTerm rfl (by decide) (by decide) TM.one w1.heap.size _ _ _ _ O4a.out rfl _ _ _ _ rfl O4.out.flats (by omega) (by omega) (by omega) ?_; intro a5 c5 w5 ho5 hb5 hg5 hn5; refine Hid.out ?_)
    have O5 := Lib.hid ho5
    have P5 := Lib.hid (P4.out.keepB hb5 hp1)
    have V5 := Lib.hid (EV.keepB V4.out hb5 hp1)
    have Q5 := Lib.hid (Q4.out.thenB hb5 hs1)
    have hs5 := hb5.size
    clear ho5 hb5 hg5 hn5 O4 O4a P4 V4 Q4
    refine Lib.hid ?_
    have HP5 := Lib.hid (show prs (g + 1) (.bl k) L = ((if bad4 = true then none else some (ts ++ ts4, R4)).bind (blN k)).bind (blE k) by rw [HPR.out, HO2.out, HO4.out])
    have hbx : Below w5.heap.size w5 (w5.alloc (.cells #[.int .i64 k, .string ⟨#[]⟩, .int .i64 0] 55)) := below_alloc1 (Below.refl _ _) _
    have HBo := Lib.hid (fun g (e : a5 = some ⟨g, 0, none⟩) => (O5.out.blk g e).2)
    have hpX := P5.out.lt
    have hsX : w1.heap.size ≤ w5.heap.size := by omega
    have O6 := Lib.hid (O5.out.keep hbx)
    have P6 := Lib.hid (P5.out.keep hbx)
    have V6 := Lib.hid (V5.out.keep hbx)
    have Q6 := Lib.hid (Q5.out.then hbx)
    have B6 := Lib.hid (Blk.made w5 #[.int .i64 k, .string ⟨#[]⟩, .int .i64 0] 55)
    go_upto_region 7 with fail
    obtain ⟨w6, hw6⟩ : ∃ v, v = w5.alloc (.cells #[.int .i64 k, .string ⟨#[]⟩, .int .i64 0] 55) := ⟨_, rfl⟩
    obtain ⟨q, hq⟩ : ∃ v, v = w5.heap.size := ⟨_, rfl⟩
    rw [← hw6] at O6 P6 V6 Q6 B6 hbx ⊢
    rw [← hq] at B6 HBo hpX hsX ⊢
    have hs6 := hbx.size
    have hbl6 := B6.out.lt
    clear hw6 hq hbx O5 P5 V5 Q5
    go_wp2_with fail
    refine Calls.mono impl_isNumbered ?_
    rintro e _ ⟨rfl, rfl⟩
    cases hnk : numK k
    · have HNK := Lib.hid hnk
      clear hnk
      have HP7 := Lib.hid (show prs (g + 1) (.bl k) L = (if bad4 = true then none else some ((ts ++ ts4), R4, (0 : Int))).bind (blE k) by
        rw [HP5.out]
        cases bad4
        · simp only [Bool.false_eq_true, if_false, Option.bind_some, blN, HNK.out]
        · rfl)
      go_wp2_with fail
      refine Calls.mono (impl_expectL (t := [41]) P6.out (by decide)) ?_
      rintro e wa ⟨⟨va, rfl⟩, hp, ho⟩
      have Pa := Lib.hid hp
      have Qa := Lib.hid (Q6.out.trans ho)
      have Oa := Lib.hid (O6.out.only ho (fun g e => .inr (by have := (O6.out.blk g e).1; omega)))
      have Ba := Lib.hid (B6.out.apart ho (.inr (by omega)))
      have hsa := ho.size
      have hla := exL_len R4 [41]
      clear hp ho P6 V6 Q6 O6 B6
      have b0 := Ba.out.cell 0
      have b1 := Ba.out.cell 1
      have b2 := Ba.out.cell 2
      have bl := Ba.out.lt
      simp only [List.getElem?_toArray, List.getElem?_cons_zero, List.getElem?_cons_succ] at b0 b1 b2
      have hbl9 : Below wa.heap.size wa (wa.alloc (.cells #[.int .i64 k, .string ⟨#[]⟩, .int .i64 0] 55)) := below_alloc1 (Below.refl _ _) _
      go_wp2_with (at_builtin; refine appendL_F (k := 3) (enc := TM.enc) (ok := fun _ => True) rfl _ _ 45 55 rfl Tryz.underlying45 Tryz.infoTerm rfl (by decide) (by decide) TM.one w1.heap.size _ _ _ _ (Oa.out.keep hbl9) rfl _ _ _ _ rfl (OwnTm.lit wa ⟨k, ⟨#[]⟩, 0⟩ #[.int .i64 k, .string ⟨#[]⟩, .int .i64 0] rfl).flats (by omega) (by decide) (by simp; omega) ?_; intro ab cb wb hob hbb hgb hnb; refine Hid.out ?_)
      have PF := Lib.hid ((Pa.out.keep hbl9).keepB hbb hp1)
      have QF := Lib.hid ((Qa.out.then hbl9).thenB hbb hs1)
      have OF := Lib.hid (hob.le hs1)
      clear hob hbb hgb hnb hbl9 Pa Qa Oa Ba b0 b1 b2 bl
      refine Lib.hid ?_
      go_wp2
      go_ret
      refine ⟨ab, _, cb, _, (bad4 || !isT R4 [41]), exL R4 [41], rfl, OF.out, PF.out, QF.out, by omega, ?_⟩
      rw [HP7.out]
      cases bad4
      · simp only [Bool.false_eq_true, if_false, Option.bind_some, blE, Bool.false_or]
        cases h9 : isT R4 [41] <;> simp [exL, h9]
      · simp
    · have HNK := Lib.hid hnk
      clear hnk
      go_wp2_with fail
      refine Calls.mono (impl_expectL (t := [44]) P6.out (by decide)) ?_
      rintro e w7 ⟨⟨v7, rfl⟩, hp, ho⟩
      have P7 := Lib.hid hp
      have V7 := Lib.hid (V6.out.only ho)
      have Q7 := Lib.hid (Q6.out.trans ho)
      have O7 := Lib.hid (O6.out.only ho (fun g e => .inr (by have := (O6.out.blk g e).1; omega)))
      have B7 := Lib.hid (B6.out.apart ho (.inr (by omega)))
      have hs7 := ho.size
      have hl7 := exL_len R4 [44]
      clear hp ho P6 V6 Q6 O6 B6
      go_wp2_with fail
      refine Calls.mono (impl_number P7.out V7.out P7.out.tk) ?_
      rintro e w8 ⟨⟨nv, rfl, hnv⟩, hp, ho⟩
      have O8 := Lib.hid (O7.out.only ho (fun g e => .inr (by have := (O7.out.blk g e).1; omega)))
      have B8 := Lib.hid (B7.out.apart ho (.inr (by omega)))
      have P8 := Lib.hid hp
      have V8 := Lib.hid (V7.out.only ho)
      have Q8 := Lib.hid (Q7.out.trans ho)
      have hs8 := ho.size
      have NV := Lib.hid hnv
      clear hp ho hnv P7 V7 Q7 O7 B7
      have b0 := B8.out.cell 0
      have b1 := B8.out.cell 1
      have b2 := B8.out.cell 2
      have bl := B8.out.lt
      have bf := B8.out.free
      simp only [List.getElem?_toArray, List.getElem?_cons_zero, List.getElem?_cons_succ] at b0 b1 b2
      have hbq : Below q w8 (w8.setCell ⟨q, 2, none⟩ (.int .i64 nv)) := Below.setCell (Below.refl q w8) (show q ≤ (⟨q, 2, none⟩ : Addr).block from Nat.le_refl q) _
      have O9 := Lib.hid (OwnF.keepE O8.out hbq HBo.out)
      have P9 := Lib.hid (P8.out.keepB hbq hpX)
      have V9 := Lib.hid (V8.out.keepB hbq hpX)
      have Q9 := Lib.hid (Q8.out.thenB hbq (by omega))
      have B9 := Lib.hid (show Blk (w8.setCell ⟨q, 2, none⟩ (.int .i64 nv)) q #[.int .i64 k, .string ⟨#[]⟩, .int .i64 nv] 55 from heap_setCell_same w8 q 2 _ _ _ B8.out)
      clear O8 P8 V8 Q8 B8
      obtain ⟨bad9, hbad9⟩ : ∃ v, v = (((bad4 || !isT R4 [44]) || (exL R4 [44]).isEmpty) || !decide ((tkOf (exL R4 [44])).k = 2)) := ⟨_, rfl⟩
      obtain ⟨R9, hR9⟩ : ∃ v, v = (exL R4 [44]).tail := ⟨_, rfl⟩
      have HP7 := Lib.hid (show prs (g + 1) (.bl k) L = (if bad9 = true then none else some ((ts ++ ts4), R9, nv)).bind (blE k) by
        rw [HP5.out]
        congr 1
        cases bad4
        · simp only [Bool.false_eq_true, if_false, Option.bind_some, blN, HNK.out, if_true, Bool.false_or] at hbad9 ⊢
          cases h1 : isT R4 [44]
          · rw [h1] at hbad9
            simp at hbad9
            rw [hbad9]; rfl
          · have NV9 := NV.out
            rw [exL, if_pos h1] at hbad9 hR9 NV9
            rw [h1] at hbad9
            simp only [Bool.not_true, Bool.false_or] at hbad9
            simp only [if_true]
            cases ht : (R4).tail with
            | nil => rw [ht] at hbad9; simp at hbad9; rw [hbad9]; rfl
            | cons x r =>
              rw [ht] at hbad9 hR9 NV9
              simp only [tkOf] at NV9
              by_cases hx : x.k = 2
              · have hb9 : bad9 = false := by simpa [tkOf, hx] using hbad9
                rw [hb9]
                simp only [if_pos hx, NV9 hx, hR9]
                rfl
              · have hb9 : bad9 = true := by simpa [tkOf, hx] using hbad9
                rw [hb9]
                simp only [if_neg hx]
                rfl
        · simp at hbad9
          rw [hbad9]; rfl)
      have hR9l : R9.length ≤ (R4).length := by rw [hR9, List.length_tail]; omega
      rw [← hbad9, ← hR9] at P9
      clear hbad9 hR9 NV
      go_upto_region 10 with fail
      obtain ⟨w9, hw9⟩ : ∃ v, v = w8.setCell ⟨q, 2, none⟩ (.int .i64 nv) := ⟨_, rfl⟩
      rw [← hw9] at O9 P9 V9 Q9 B9 hbq ⊢
      have hs9 := hbq.size
      clear hw9 hbq b0 b1 b2 bl bf
      go_wp2_with fail
      refine Calls.mono (impl_expectL (t := [41]) P9.out (by decide)) ?_
      rintro e wa ⟨⟨va, rfl⟩, hp, ho⟩
      have Pa := Lib.hid hp
      have Qa := Lib.hid (Q9.out.trans ho)
      have Oa := Lib.hid (O9.out.only ho (fun g e => .inr (by have := (O9.out.blk g e).1; omega)))
      have Ba := Lib.hid (B9.out.apart ho (.inr (by omega)))
      have hsa := ho.size
      have hla := exL_len R9 [41]
      clear hp ho P9 V9 Q9 O9 B9
      have b0 := Ba.out.cell 0
      have b1 := Ba.out.cell 1
      have b2 := Ba.out.cell 2
      have bl := Ba.out.lt
      simp only [List.getElem?_toArray, List.getElem?_cons_zero, List.getElem?_cons_succ] at b0 b1 b2
      have hbl9 : Below wa.heap.size wa (wa.alloc (.cells #[.int .i64 k, .string ⟨#[]⟩, .int .i64 nv] 55)) := below_alloc1 (Below.refl _ _) _
      go_wp2_with (at_builtin; refine appendL_F (k := 3) (enc := TM.enc) (ok := fun _ => True) rfl _ _ 45 55 rfl Tryz.underlying45 Tryz.infoTerm rfl (by decide) (by decide) TM.one w1.heap.size _ _ _ _ (Oa.out.keep hbl9) rfl _ _ _ _ rfl (OwnTm.lit wa ⟨k, ⟨#[]⟩, nv⟩ #[.int .i64 k, .string ⟨#[]⟩, .int .i64 nv] rfl).flats (by omega) (by decide) (by simp; omega) ?_; intro ab cb wb hob hbb hgb hnb; refine Hid.out ?_)
      have PF := Lib.hid ((Pa.out.keep hbl9).keepB hbb hp1)
      have QF := Lib.hid ((Qa.out.then hbl9).thenB hbb hs1)
      have OF := Lib.hid (hob.le hs1)
      clear hob hbb hgb hnb hbl9 Pa Qa Oa Ba b0 b1 b2 bl
      refine Lib.hid ?_
      go_wp2
      go_ret
      refine ⟨ab, _, cb, _, (bad9 || !isT R9 [41]), exL R9 [41], rfl, OF.out, PF.out, QF.out, by omega, ?_⟩
      rw [HP7.out]
      cases bad9
      · simp only [Bool.false_eq_true, if_false, Option.bind_some, blE, Bool.false_or]
        cases h9 : isT R9 [41] <;> simp [exL, h9]
      · simp
  · skip
    have hk9 : (((tkA k : Nat) : Int) == 2) = false := by rw [beq_eq_false_iff_ne]; omega
    have H2 := Lib.hid hk2
    clear hk2
    have hn4 : n + 2 * R.length ≤ 2 * L.length := hN3.1
    have HP5 := Lib.hid (show prs (g + 1) (.bl k) L = ((if bad = true then none else some (ts, R)).bind (blN k)).bind (blE k) by
      rw [HPR.out, HO2.out]
      cases bad
      · simp only [Bool.false_eq_true, if_false, Option.bind_some, blS, if_neg H2.out]
      · rfl)
    have hbx : Below w2.heap.size w2 (w2.alloc (.cells #[.int .i64 k, .string ⟨#[]⟩, .int .i64 0] 55)) := below_alloc1 (Below.refl _ _) _
    have HBo := Lib.hid (fun g (e : a = some ⟨g, 0, none⟩) => (O2.out.blk g e).2)
    have hpX := P2.out.lt
    have hsX : w1.heap.size ≤ w2.heap.size := by omega
    have O6 := Lib.hid (O2.out.keep hbx)
    have P6 := Lib.hid (P2.out.keep hbx)
    have V6 := Lib.hid (V2.out.keep hbx)
    have Q6 := Lib.hid (Q2.out.then hbx)
    have B6 := Lib.hid (Blk.made w2 #[.int .i64 k, .string ⟨#[]⟩, .int .i64 0] 55)
    go_upto_region 7 with fail
    obtain ⟨w6, hw6⟩ : ∃ v, v = w2.alloc (.cells #[.int .i64 k, .string ⟨#[]⟩, .int .i64 0] 55) := ⟨_, rfl⟩
    obtain ⟨q, hq⟩ : ∃ v, v = w2.heap.size := ⟨_, rfl⟩
    rw [← hw6] at O6 P6 V6 Q6 B6 hbx ⊢
    rw [← hq] at B6 HBo hpX hsX ⊢
    have hs6 := hbx.size
    have hbl6 := B6.out.lt
    clear hw6 hq hbx O2 P2 V2 Q2
    go_wp2_with fail
    refine Calls.mono impl_isNumbered ?_
    rintro e _ ⟨rfl, rfl⟩
    cases hnk : numK k
    · have HNK := Lib.hid hnk
      clear hnk
      have HP7 := Lib.hid (show prs (g + 1) (.bl k) L = (if bad = true then none else some (ts, R, (0 : Int))).bind (blE k) by
        rw [HP5.out]
        cases bad
        · simp only [Bool.false_eq_true, if_false, Option.bind_some, blN, HNK.out]
        · rfl)
      go_wp2_with fail
      refine Calls.mono (impl_expectL (t := [41]) P6.out (by decide)) ?_
      rintro e wa ⟨⟨va, rfl⟩, hp, ho⟩
      have Pa := Lib.hid hp
      have Qa := Lib.hid (Q6.out.trans ho)
      have Oa := Lib.hid (O6.out.only ho (fun g e => .inr (by have := (O6.out.blk g e).1; omega)))
      have Ba := Lib.hid (B6.out.apart ho (.inr (by omega)))
      have hsa := ho.size
      have hla := exL_len R [41]
      clear hp ho P6 V6 Q6 O6 B6
      have b0 := Ba.out.cell 0
      have b1 := Ba.out.cell 1
      have b2 := Ba.out.cell 2
      have bl := Ba.out.lt
      simp only [List.getElem?_toArray, List.getElem?_cons_zero, List.getElem?_cons_succ] at b0 b1 b2
      have hbl9 : Below wa.heap.size wa (wa.alloc (.cells #[.int .i64 k, .string ⟨#[]⟩, .int .i64 0] 55)) := below_alloc1 (Below.refl _ _) _
      go_wp2_with (at_builtin; refine appendL_F (k := 3) (enc := TM.enc) (ok := fun _ => True) rfl _ _ 45 55 rfl Tryz.underlying45 Tryz.infoTerm rfl (by decide) (by decide) TM.one w1.heap.size _ _ _ _ (Oa.out.keep hbl9) rfl _ _ _ _ rfl (OwnTm.lit wa ⟨k, ⟨#[]⟩, 0⟩ #[.int .i64 k, .string ⟨#[]⟩, .int .i64 0] rfl).flats (by omega) (by decide) (by simp; omega) ?_; intro ab cb wb hob hbb hgb hnb; refine Hid.out ?_)
      have PF := Lib.hid ((Pa.out.keep hbl9).keepB hbb hp1)
      have QF := Lib.hid ((Qa.out.then hbl9).thenB hbb hs1)
      have OF := Lib.hid (hob.le hs1)
      clear hob hbb hgb hnb hbl9 Pa Qa Oa Ba b0 b1 b2 bl
      refine Lib.hid ?_
      go_wp2
      go_ret
      refine ⟨ab, _, cb, _, (bad || !isT R [41]), exL R [41], rfl, OF.out, PF.out, QF.out, by omega, ?_⟩
      rw [HP7.out]
      cases bad
      · simp only [Bool.false_eq_true, if_false, Option.bind_some, blE, Bool.false_or]
        cases h9 : isT R [41] <;> simp [exL, h9]
      · simp
    · have HNK := Lib.hid hnk
      clear hnk
      go_wp2_with fail
      refine Calls.mono (impl_expectL (t := [44]) P6.out (by decide)) ?_
      rintro e w7 ⟨⟨v7, rfl⟩, hp, ho⟩
      have P7 := Lib.hid hp
      have V7 := Lib.hid (V6.out.only ho)
      have Q7 := Lib.hid (Q6.out.trans ho)
      have O7 := Lib.hid (O6.out.only ho (fun g e => .inr (by have := (O6.out.blk g e).1; omega)))
      have B7 := Lib.hid (B6.out.apart ho (.inr (by omega)))
      have hs7 := ho.size
      have hl7 := exL_len R [44]
      clear hp ho P6 V6 Q6 O6 B6
      go_wp2_with fail
      refine Calls.mono (impl_number P7.out V7.out P7.out.tk) ?_
      rintro e w8 ⟨⟨nv, rfl, hnv⟩, hp, ho⟩
      have O8 := Lib.hid (O7.out.only ho (fun g e => .inr (by have := (O7.out.blk g e).1; omega)))
      have B8 := Lib.hid (B7.out.apart ho (.inr (by omega)))
      have P8 := Lib.hid hp
      have V8 := Lib.hid (V7.out.only ho)
      have Q8 := Lib.hid (Q7.out.trans ho)
      have hs8 := ho.size
      have NV := Lib.hid hnv
      clear hp ho hnv P7 V7 Q7 O7 B7
      have b0 := B8.out.cell 0
      have b1 := B8.out.cell 1
      have b2 := B8.out.cell 2
      have bl := B8.out.lt
      have bf := B8.out.free
      simp only [List.getElem?_toArray, List.getElem?_cons_zero, List.getElem?_cons_succ] at b0 b1 b2
      have hbq : Below q w8 (w8.setCell ⟨q, 2, none⟩ (.int .i64 nv)) := Below.setCell (Below.refl q w8) (show q ≤ (⟨q, 2, none⟩ : Addr).block from Nat.le_refl q) _
      have O9 := Lib.hid (OwnF.keepE O8.out hbq HBo.out)
      have P9 := Lib.hid (P8.out.keepB hbq hpX)
      have V9 := Lib.hid (V8.out.keepB hbq hpX)
      have Q9 := Lib.hid (Q8.out.thenB hbq (by omega))
      have B9 := Lib.hid (show Blk (w8.setCell ⟨q, 2, none⟩ (.int .i64 nv)) q #[.int .i64 k, .string ⟨#[]⟩, .int .i64 nv] 55 from heap_setCell_same w8 q 2 _ _ _ B8.out)
      clear O8 P8 V8 Q8 B8
      obtain ⟨bad9, hbad9⟩ : ∃ v, v = (((bad || !isT R [44]) || (exL R [44]).isEmpty) || !decide ((tkOf (exL R [44])).k = 2)) := ⟨_, rfl⟩
      obtain ⟨R9, hR9⟩ : ∃ v, v = (exL R [44]).tail := ⟨_, rfl⟩
      have HP7 := Lib.hid (show prs (g + 1) (.bl k) L = (if bad9 = true then none else some (ts, R9, nv)).bind (blE k) by
        rw [HP5.out]
        congr 1
        cases bad
        · simp only [Bool.false_eq_true, if_false, Option.bind_some, blN, HNK.out, if_true, Bool.false_or] at hbad9 ⊢
          cases h1 : isT R [44]
          · rw [h1] at hbad9
            simp at hbad9
            rw [hbad9]; rfl
          · have NV9 := NV.out
            rw [exL, if_pos h1] at hbad9 hR9 NV9
            rw [h1] at hbad9
            simp only [Bool.not_true, Bool.false_or] at hbad9
            simp only [if_true]
            cases ht : (R).tail with
            | nil => rw [ht] at hbad9; simp at hbad9; rw [hbad9]; rfl
            | cons x r =>
              rw [ht] at hbad9 hR9 NV9
              simp only [tkOf] at NV9
              by_cases hx : x.k = 2
              · have hb9 : bad9 = false := by simpa [tkOf, hx] using hbad9
                rw [hb9]
                simp only [if_pos hx, NV9 hx, hR9]
                rfl
              · have hb9 : bad9 = true := by simpa [tkOf, hx] using hbad9
                rw [hb9]
                simp only [if_neg hx]
                rfl
        · simp at hbad9
          rw [hbad9]; rfl)
      have hR9l : R9.length ≤ (R).length := by rw [hR9, List.length_tail]; omega
      rw [← hbad9, ← hR9] at P9
      clear hbad9 hR9 NV
      go_upto_region 10 with fail
      obtain ⟨w9, hw9⟩ : ∃ v, v = w8.setCell ⟨q, 2, none⟩ (.int .i64 nv) := ⟨_, rfl⟩
      rw [← hw9] at O9 P9 V9 Q9 B9 hbq ⊢
      have hs9 := hbq.size
      clear hw9 hbq b0 b1 b2 bl bf
      go_wp2_with fail
      refine Calls.mono (impl_expectL (t := [41]) P9.out (by decide)) ?_
      rintro e wa ⟨⟨va, rfl⟩, hp, ho⟩
      have Pa := Lib.hid hp
      have Qa := Lib.hid (Q9.out.trans ho)
      have Oa := Lib.hid (O9.out.only ho (fun g e => .inr (by have := (O9.out.blk g e).1; omega)))
      have Ba := Lib.hid (B9.out.apart ho (.inr (by omega)))
      have hsa := ho.size
      have hla := exL_len R9 [41]
      clear hp ho P9 V9 Q9 O9 B9
      have b0 := Ba.out.cell 0
      have b1 := Ba.out.cell 1
      have b2 := Ba.out.cell 2
      have bl := Ba.out.lt
      simp only [List.getElem?_toArray, List.getElem?_cons_zero, List.getElem?_cons_succ] at b0 b1 b2
      have hbl9 : Below wa.heap.size wa (wa.alloc (.cells #[.int .i64 k, .string ⟨#[]⟩, .int .i64 nv] 55)) := below_alloc1 (Below.refl _ _) _
      go_wp2_with (at_builtin; refine appendL_F (k := 3) (enc := TM.enc) (ok := fun _ => True) rfl _ _ 45 55 rfl Tryz.underlying45 Tryz.infoTerm rfl (by decide) (by decide) TM.one w1.heap.size _ _ _ _ (Oa.out.keep hbl9) rfl _ _ _ _ rfl (OwnTm.lit wa ⟨k, ⟨#[]⟩, nv⟩ #[.int .i64 k, .string ⟨#[]⟩, .int .i64 nv] rfl).flats (by omega) (by decide) (by simp; omega) ?_; intro ab cb wb hob hbb hgb hnb; refine Hid.out ?_)
      have PF := Lib.hid ((Pa.out.keep hbl9).keepB hbb hp1)
      have QF := Lib.hid ((Qa.out.then hbl9).thenB hbb hs1)
      have OF := Lib.hid (hob.le hs1)
      clear hob hbb hgb hnb hbl9 Pa Qa Oa Ba b0 b1 b2 bl
      refine Lib.hid ?_
      go_wp2
      go_ret
      refine ⟨ab, _, cb, _, (bad9 || !isT R9 [41]), exL R9 [41], rfl, OF.out, PF.out, QF.out, by omega, ?_⟩
      rw [HP7.out]
      cases bad9
      · simp only [Bool.false_eq_true, if_false, Option.bind_some, blE, Bool.false_or]
        cases h9 : isT R9 [41] <;> simp [exL, h9]
      · simp
end Go.Proofs.YtjneodmohkpckaaGreatDoor
