/- The reference's parser: a block, walked. (Printed by mkeo.py.) -/
import Derived.Test.YtjneodmohkpckaaGreatDoorEn
namespace Go.Proofs.YtjneodmohkpckaaGreatDoor
open Go.RowKit
set_option linter.unusedVariables false
set_option linter.unusedSimpArgs false
variable {N : Nat}
attribute [local go_sem ↓] Go.wp_at_zero Go.wp_at_succ
/-- as PRr, from any state -/
def PRh (N : Nat) (o : Option (List TM × List TR)) (bad0 : Bool) (p m : Nat) (w : World) (e : Ending) (w' : World) : Prop := ∃ (a : Option Addr) (n c : Nat) (ts : List TM) (bad : Bool) (L : List TR), e = .returned (.slice a n c) ∧ OwnTm w' w.heap.size a n c ts ∧ RSt N w' p bad L ∧ Only p (p + 1) w w' ∧ n + 2 * L.length ≤ 2 * m + (if bad0 = true then 0 else 1) ∧ o = (if bad = true then none else some (ts, L))
theorem spec_l13Or_gen {g : Nat} (IH : RAll N g) {w : World} {p : Nat} {bad : Bool} {L : List TR} (h : RSt N w p bad L) (hf : bad = false → 8 * L.length + 5 ≤ g) : Calls Tryz.prog 83 #[.pointer (some ⟨p, 0, none⟩)] w (PRh N (if bad = true then none else prs g .ex L) bad p L.length w) := by
  cases bad
  · exact (IH.ex w p L h (hf rfl)).mono fun e w' ⟨a, n, c, ts, b, L', h1, h2, h3, h4, h5, h6⟩ => ⟨a, n, c, ts, b, L', h1, h2, h3, h4, h5, by simpa using h6⟩
  · exact (spec_l13Or_bad h).mono fun e w' ⟨h1, h2⟩ => by
      subst h2
      exact ⟨none, 0, 0, [], true, L, h1, OwnTm.nil _ _, h, Only.refl _ _ _, by simp, by simp⟩
set_option maxRecDepth 100000 in
set_option maxHeartbeats 8000000 in
theorem spec_l13Block_step {f : Nat} (ih : ∀ g, g < f → RAll N g) : ∀ (w : World) (p : Nat) (L : List TR) (k : Int), RSt N w p false L → 8 * L.length + 6 ≤ f → 7 ≤ k → k ≤ 12 → Calls Tryz.prog 179 #[.pointer (some ⟨p, 0, none⟩), .int .i64 k] w (PRr N (prs f (.bl k) L) p L.length w) := by
  intro w p L k hP hf hk7 hk12
  obtain ⟨g, rfl⟩ : ∃ g, f = g + 1 := ⟨f - 1, by omega⟩
  have IH := Lib.hid (ih g (Nat.lt_succ_self _))
  have HPR := Lib.hid (prs_bl g k L)
  have P := Lib.hid hP
  have N8 := hP.n8
  have HK := Lib.hid (show 7 ≤ k ∧ k ≤ 12 from ⟨hk7, hk12⟩)
  clear ih hP hk7 hk12

  go_enter Tryz.func179, Tryz.ntmps179
  go_wp2_with fail
  refine Calls.mono (spec_l13WantL (t := [40]) P.out (by decide)) ?_
  rintro e w1 ⟨⟨v, rfl⟩, hp, ho⟩
  have P1 := Lib.hid hp
  have Q1 := Lib.hid ho
  have hs1 := ho.size
  have hl1 := exL_len L [40]
  clear hp ho P
  have hfl : (false || !isT L [40]) = false → 8 * (exL L [40]).length + 5 ≤ g := fun h => by
    have h1 : isT L [40] = true := by simpa using h
    have h2 := isT_len (by decide) h1
    rw [exL, if_pos h1]; omega
  have KX := Lib.hid (spec_l13Or_gen IH.out P1.out hfl)
  clear hfl
  go_wp2_with fail
  refine Calls.mono KX.out ?_
  rintro e w2 ⟨a, n, c, ts, bad, R, rfl, hO, hP, hQ, hn, ho⟩
  have hp1 := P1.out.lt
  have hs2 := hQ.size
  have O2 := Lib.hid hO
  have P2 := Lib.hid hP
  have Q2 := Lib.hid (Q1.out.trans hQ)
  have HO2 := Lib.hid (show (if isT L [40] = true then prs g .ex L.tail else none) = (if bad = true then none else some (ts, R)) by
    rw [← ho]
    cases h1 : isT L [40]
    · rfl
    · rw [exL, if_pos h1]; rfl)
  have hn2 : n + 2 * R.length ≤ 2 * L.length ∧ (isT L [40] = true → n + 2 * R.length + 1 ≤ 2 * L.length) := by
    cases h1 : isT L [40]
    · rw [h1, exL, h1] at hn
      simp at hn
      exact ⟨by omega, fun h => by cases h⟩
    · have h2 := isT_len (by decide) h1
      rw [h1, exL, h1] at hn
      simp only [Bool.not_true, Bool.or_false, Bool.false_eq_true, if_false, if_true] at hn
      exact ⟨by omega, fun _ => by omega⟩
  have hbt : isT L [40] = true ∨ bad = true := by
    cases h1 : isT L [40]
    · right
      have h2 := HO2.out
      rw [h1] at h2
      cases bad
      · cases h2
      · rfl
    · exact .inl rfl
  have hN3 : n + 2 * R.length ≤ 2 * L.length ∧ (bad = false → n + 2 * R.length + 1 ≤ 2 * L.length) := ⟨hn2.1, fun h => hn2.2 (hbt.resolve_right (by rw [h]; decide))⟩
  clear hO hP hQ ho hn hn2 hbt P1 Q1 KX hl1
  go_wp2_with fail
  refine Calls.mono spec_l13Takes ?_
  rintro e _ ⟨rfl, rfl⟩
  by_cases hk2 : tkA k = 2
  · skip
    have H2 := Lib.hid hk2
    clear hk2
    rw [H2.out]
    go_wp2_with fail
    refine Calls.mono (spec_l13WantL (t := [44]) P2.out (by decide)) ?_
    rintro e w3 ⟨⟨v3, rfl⟩, hp, ho⟩
    have P3 := Lib.hid hp
    have Q3 := Lib.hid (Q2.out.trans ho)
    have O3 := Lib.hid (O2.out.only ho (fun g e => .inr (by have := (O2.out.blk g e).1; omega)))
    have hs3 := ho.size
    have hl3 := exL_len R [44]
    clear hp ho P2 Q2 O2
    obtain ⟨x1, xl⟩ := P3.out.bd
    cases hb3 : (bad || !isT R [44])
    · skip
      have hb4 : bad = false ∧ isT R [44] = true := by simpa using hb3
      obtain ⟨hb5, hb6⟩ := hb4
      subst hb5
      have hlen := isT_len (by decide) hb6
      have HT := Lib.hid hb6
      rw [hb3] at x1 P3
      rw [exL, if_pos hb6] at P3 hl3
      clear hb3 hb6
      have hn3b := hN3.2 rfl
      have KX := Lib.hid (IH.out.ex w3 p R.tail P3.out (by omega))
      go_wp2_with fail
      refine Calls.mono KX.out ?_
      rintro e w4 ⟨a4, n4, c4, ts4, bad4, R4, rfl, hO, hP, hQ, hn, ho⟩
      have hp3 := P3.out.lt
      have hs4 := hQ.size
      have O4 := Lib.hid hO
      have P4 := Lib.hid hP
      have Q4 := Lib.hid (Q3.out.trans hQ)
      have O4a := Lib.hid (O3.out.only hQ (fun g e => .inr (by have := (O3.out.blk g e).1; omega)))
      have HP5 := Lib.hid (show prs (g + 1) (.bl k) L = ((if bad4 = true then none else some (ts ++ ts4, R4)).bind (blN k)).bind (blE k) by
        rw [HPR.out, HO2.out]
        simp only [Bool.false_eq_true, if_false, Option.bind_some, blS, if_pos H2.out, if_pos HT.out, ho]
        cases bad4 <;> rfl)
      have hn4 : n + n4 + 2 * R4.length ≤ 2 * L.length := by omega
      clear hO hP hQ ho P3 Q3 O3 KX x1 xl
      have hnn : n ≤ 2000 ∧ n4 ≤ 2000 := by omega
      go_wp2_with (at_builtin; refine appendL_F (k := 3) (enc := TM.enc) (ok := fun _ => True) rfl _ _ 45 55 rfl Tryz.underlying45 Tryz.infoTerm rfl (by decide) (by decide) TM.one w1.heap.size _ _ _ _ O4a.out rfl _ _ _ _ rfl O4.out.flats (by omega) (by omega) (by omega) ?_; intro a5 c5 w5 ho5 hb5 hg5 hn5; refine Hid.out ?_)
      have O5 := Lib.hid ho5
      have P5 := Lib.hid (P4.out.keepB hb5 hp1)
      have Q5 := Lib.hid (Q4.out.thenB hb5 hs1)
      have hs5 := hb5.size
      clear ho5 hb5 hg5 hn5 O4 O4a P4 Q4
      refine Lib.hid ?_
      have hbx : Below w5.heap.size w5 (w5.alloc (.cells #[.int .i64 k, .string ⟨#[]⟩, .int .i64 0] 55)) := below_alloc1 (Below.refl _ _) _
      have HBo := Lib.hid (fun g (e : a5 = some ⟨g, 0, none⟩) => (O5.out.blk g e).2)
      have hpX := P5.out.lt
      have hsX : w1.heap.size ≤ w5.heap.size := by omega
      have O6 := Lib.hid (O5.out.keep hbx)
      have P6 := Lib.hid (P5.out.keep hbx)
      have Q6 := Lib.hid (Q5.out.then hbx)
      have B6 := Lib.hid (Blk.made w5 #[.int .i64 k, .string ⟨#[]⟩, .int .i64 0] 55)
      go_upto_region 8 with fail
      obtain ⟨w6, hw6⟩ : ∃ v, v = w5.alloc (.cells #[.int .i64 k, .string ⟨#[]⟩, .int .i64 0] 55) := ⟨_, rfl⟩
      obtain ⟨q, hq⟩ : ∃ v, v = w5.heap.size := ⟨_, rfl⟩
      rw [← hw6] at O6 P6 Q6 B6 hbx ⊢
      rw [← hq] at B6 HBo hpX hsX ⊢
      have hs6 := hbx.size
      have hbl6 := B6.out.lt
      clear hw6 hq hbx O5 P5 Q5
      go_wp2_with fail
      refine Calls.mono spec_l13Counts ?_
      rintro e _ ⟨rfl, rfl⟩
      cases hnk : numK k
      · have HNK := Lib.hid hnk
        clear hnk
        have HP7 := Lib.hid (show prs (g + 1) (.bl k) L = (if bad4 = true then none else some ((ts ++ ts4), R4, (0 : Int))).bind (blE k) by
          rw [HP5.out]
          cases bad4
          · simp only [Bool.false_eq_true, if_false, Option.bind_some, blN, HNK.out]
          · rfl)
        go_wp2_with fail
        refine Calls.mono (spec_l13WantL (t := [41]) P6.out (by decide)) ?_
        rintro e wa ⟨⟨va, rfl⟩, hp, ho⟩
        have Pa := Lib.hid hp
        have Qa := Lib.hid (Q6.out.trans ho)
        have Oa := Lib.hid (O6.out.only ho (fun g e => .inr (by have := (O6.out.blk g e).1; omega)))
        have Ba := Lib.hid (B6.out.apart ho (.inr (by omega)))
        have hsa := ho.size
        have hla := exL_len R4 [41]
        clear hp ho P6 Q6 O6 B6
        have b0 := Ba.out.cell 0
        have b1 := Ba.out.cell 1
        have b2 := Ba.out.cell 2
        have bl := Ba.out.lt
        simp only [List.getElem?_toArray, List.getElem?_cons_zero, List.getElem?_cons_succ] at b0 b1 b2
        have hbl9 : Below wa.heap.size wa (wa.alloc (.cells #[.int .i64 k, .string ⟨#[]⟩, .int .i64 0] 55)) := below_alloc1 (Below.refl _ _) _
        go_wp2_with (at_builtin; refine appendL_F (k := 3) (enc := TM.enc) (ok := fun _ => True) rfl _ _ 45 55 rfl Tryz.underlying45 Tryz.infoTerm rfl (by decide) (by decide) TM.one w1.heap.size _ _ _ _ (Oa.out.keep hbl9) rfl _ _ _ _ rfl (OwnTm.lit wa ⟨k, ⟨#[]⟩, 0⟩ #[.int .i64 k, .string ⟨#[]⟩, .int .i64 0] rfl).flats (by omega) (by decide) (by simp; omega) ?_; intro ab cb wb hob hbb hgb hnb; refine Hid.out ?_)
        have PF := Lib.hid ((Pa.out.keep hbl9).keepB hbb hp1)
        have QF := Lib.hid ((Qa.out.then hbl9).thenB hbb hs1)
        have OF := Lib.hid (hob.le hs1)
        clear hob hbb hgb hnb hbl9 Pa Qa Oa Ba b0 b1 b2 bl
        refine Lib.hid ?_
        go_wp2
        go_ret
        refine ⟨ab, _, cb, _, (bad4 || !isT R4 [41]), exL R4 [41], rfl, OF.out, by first | exact PF.out | simpa using PF.out, QF.out, by omega, ?_⟩
        rw [HP7.out]
        cases bad4
        · simp only [Bool.false_eq_true, if_false, Option.bind_some, blE, Bool.false_or]
          cases h9 : isT R4 [41] <;> simp [exL, h9]
        · simp
      · have HNK := Lib.hid hnk
        clear hnk
        go_wp2_with fail
        refine Calls.mono (spec_l13WantL (t := [44]) P6.out (by decide)) ?_
        rintro e w7 ⟨⟨v7, rfl⟩, hp, ho⟩
        have P7 := Lib.hid hp
        have Q7 := Lib.hid (Q6.out.trans ho)
        have O7 := Lib.hid (O6.out.only ho (fun g e => .inr (by have := (O6.out.blk g e).1; omega)))
        have B7 := Lib.hid (B6.out.apart ho (.inr (by omega)))
        have hs7 := ho.size
        have hl7 := exL_len R4 [44]
        clear hp ho P6 Q6 O6 B6
        go_wp2_with fail
        refine Calls.mono (spec_l13WantNumber P7.out) ?_
        rintro e w8 ⟨⟨nv, rfl, hnv⟩, hp, ho⟩
        have O8 := Lib.hid (O7.out.only ho (fun g e => .inr (by have := (O7.out.blk g e).1; omega)))
        have B8 := Lib.hid (B7.out.apart ho (.inr (by omega)))
        have P8 := Lib.hid hp
        have Q8 := Lib.hid (Q7.out.trans ho)
        have hs8 := ho.size
        have NV := Lib.hid hnv
        clear hp ho hnv P7 Q7 O7 B7
        have b0 := B8.out.cell 0
        have b1 := B8.out.cell 1
        have b2 := B8.out.cell 2
        have bl := B8.out.lt
        have bf := B8.out.free
        simp only [List.getElem?_toArray, List.getElem?_cons_zero, List.getElem?_cons_succ] at b0 b1 b2
        have hbq : Below q w8 (w8.setCell ⟨q, 2, none⟩ (.int .i64 nv)) := Below.setCell (Below.refl q w8) (show q ≤ (⟨q, 2, none⟩ : Addr).block from Nat.le_refl q) _
        have O9 := Lib.hid (OwnF.keepE O8.out hbq HBo.out)
        have P9 := Lib.hid (P8.out.keepB hbq hpX)
        have Q9 := Lib.hid (Q8.out.thenB hbq (by omega))
        have B9 := Lib.hid (show Blk (w8.setCell ⟨q, 2, none⟩ (.int .i64 nv)) q #[.int .i64 k, .string ⟨#[]⟩, .int .i64 nv] 55 from heap_setCell_same w8 q 2 _ _ _ B8.out)
        clear O8 P8 Q8 B8
        obtain ⟨L6, hL6⟩ : ∃ v, v = exL R4 [44] := ⟨_, rfl⟩
        rw [← hL6] at P9 NV hl7
        obtain ⟨qk, hqk⟩ : ∃ v, v = (!L6.isEmpty && decide ((tkOf L6).k = 2)) := ⟨_, rfl⟩
        rw [← hqk] at P9
        obtain ⟨bad9, hbad9⟩ : ∃ v, v = ((bad4 || !isT R4 [44]) || !qk) := ⟨_, rfl⟩
        obtain ⟨R9, hR9⟩ : ∃ v, v = (if qk = true then L6.tail else L6) := ⟨_, rfl⟩
        rw [← hbad9, ← hR9] at P9
        have HP7 := Lib.hid (show prs (g + 1) (.bl k) L = (if bad9 = true then none else some ((ts ++ ts4), R9, nv)).bind (blE k) by
          rw [HP5.out]
          congr 1
          cases bad4
          · skip
            simp only [Bool.false_eq_true, if_false, Option.bind_some, blN, HNK.out, if_true, Bool.false_or] at hbad9 ⊢
            cases h1 : isT R4 [44]
            · rw [h1] at hbad9
              simp at hbad9
              rw [hbad9]; rfl
            · have NV9 := NV.out
              rw [exL, if_pos h1] at hL6
              subst hL6
              rw [h1] at hbad9
              simp only [Bool.not_true, Bool.false_or] at hbad9
              simp only [if_true]
              cases ht : (R4).tail with
              | nil => rw [ht] at hqk; simp at hqk; rw [hqk] at hbad9; rw [hbad9]; rfl
              | cons x r =>
                rw [ht] at hqk hR9 NV9
                by_cases hx : x.k = 2
                · have hq9 : qk = true := by simpa [tkOf, hx] using hqk
                  rw [hq9] at hbad9 hR9
                  rw [show bad9 = false by simpa using hbad9]
                  simp only [if_pos hx, tkOf] at NV9 ⊢
                  rw [NV9 hx, hR9]; rfl
                · have hq9 : qk = false := by simpa [tkOf, hx] using hqk
                  rw [hq9] at hbad9
                  rw [show bad9 = true by simpa using hbad9]
                  simp only [if_neg hx]
                  rfl
          · simp at hbad9
            rw [hbad9]; rfl)
        have hR9l : R9.length ≤ (R4).length := by
          rw [hR9]; split
          · rw [List.length_tail]; omega
          · omega
        clear hbad9 hR9 NV hqk hL6
        go_upto_region 11 with fail
        obtain ⟨w9, hw9⟩ : ∃ v, v = w8.setCell ⟨q, 2, none⟩ (.int .i64 nv) := ⟨_, rfl⟩
        rw [← hw9] at O9 P9 Q9 B9 hbq ⊢
        have hs9 := hbq.size
        clear hw9 hbq b0 b1 b2 bl bf
        go_wp2_with fail
        refine Calls.mono (spec_l13WantL (t := [41]) P9.out (by decide)) ?_
        rintro e wa ⟨⟨va, rfl⟩, hp, ho⟩
        have Pa := Lib.hid hp
        have Qa := Lib.hid (Q9.out.trans ho)
        have Oa := Lib.hid (O9.out.only ho (fun g e => .inr (by have := (O9.out.blk g e).1; omega)))
        have Ba := Lib.hid (B9.out.apart ho (.inr (by omega)))
        have hsa := ho.size
        have hla := exL_len R9 [41]
        clear hp ho P9 Q9 O9 B9
        have b0 := Ba.out.cell 0
        have b1 := Ba.out.cell 1
        have b2 := Ba.out.cell 2
        have bl := Ba.out.lt
        simp only [List.getElem?_toArray, List.getElem?_cons_zero, List.getElem?_cons_succ] at b0 b1 b2
        have hbl9 : Below wa.heap.size wa (wa.alloc (.cells #[.int .i64 k, .string ⟨#[]⟩, .int .i64 nv] 55)) := below_alloc1 (Below.refl _ _) _
        go_wp2_with (at_builtin; refine appendL_F (k := 3) (enc := TM.enc) (ok := fun _ => True) rfl _ _ 45 55 rfl Tryz.underlying45 Tryz.infoTerm rfl (by decide) (by decide) TM.one w1.heap.size _ _ _ _ (Oa.out.keep hbl9) rfl _ _ _ _ rfl (OwnTm.lit wa ⟨k, ⟨#[]⟩, nv⟩ #[.int .i64 k, .string ⟨#[]⟩, .int .i64 nv] rfl).flats (by omega) (by decide) (by simp; omega) ?_; intro ab cb wb hob hbb hgb hnb; refine Hid.out ?_)
        have PF := Lib.hid ((Pa.out.keep hbl9).keepB hbb hp1)
        have QF := Lib.hid ((Qa.out.then hbl9).thenB hbb hs1)
        have OF := Lib.hid (hob.le hs1)
        clear hob hbb hgb hnb hbl9 Pa Qa Oa Ba b0 b1 b2 bl
        refine Lib.hid ?_
        go_wp2
        go_ret
        refine ⟨ab, _, cb, _, (bad9 || !isT R9 [41]), exL R9 [41], rfl, OF.out, by first | exact PF.out | simpa using PF.out, QF.out, by omega, ?_⟩
        rw [HP7.out]
        cases bad9
        · simp only [Bool.false_eq_true, if_false, Option.bind_some, blE, Bool.false_or]
          cases h9 : isT R9 [41] <;> simp [exL, h9]
        · simp
    · skip
      rw [hb3] at x1 P3
      obtain ⟨R3, hR3⟩ : ∃ v, v = exL R [44] := ⟨_, rfl⟩
      rw [← hR3] at P3 hl3
      have HP5 := Lib.hid (show prs (g + 1) (.bl k) L = ((if true = true then none else some (ts, R3)).bind (blN k)).bind (blE k) by
        rw [HPR.out, HO2.out]
        cases bad
        · simp only [Bool.false_or, Bool.not_eq_true'] at hb3
          simp only [Bool.false_eq_true, if_false, Option.bind_some, blS, if_pos H2.out, hb3]
          rfl
        · rfl)
      have hn4 : n + 2 * R3.length ≤ 2 * L.length := by have := hN3.1; omega
      clear hb3 hR3
      have hbx : Below w3.heap.size w3 (w3.alloc (.cells #[.int .i64 k, .string ⟨#[]⟩, .int .i64 0] 55)) := below_alloc1 (Below.refl _ _) _
      have HBo := Lib.hid (fun g (e : a = some ⟨g, 0, none⟩) => (O3.out.blk g e).2)
      have hpX := P3.out.lt
      have hsX : w1.heap.size ≤ w3.heap.size := by omega
      have O6 := Lib.hid (O3.out.keep hbx)
      have P6 := Lib.hid (P3.out.keep hbx)
      have Q6 := Lib.hid (Q3.out.then hbx)
      have B6 := Lib.hid (Blk.made w3 #[.int .i64 k, .string ⟨#[]⟩, .int .i64 0] 55)
      go_upto_region 8 with fail
      obtain ⟨w6, hw6⟩ : ∃ v, v = w3.alloc (.cells #[.int .i64 k, .string ⟨#[]⟩, .int .i64 0] 55) := ⟨_, rfl⟩
      obtain ⟨q, hq⟩ : ∃ v, v = w3.heap.size := ⟨_, rfl⟩
      rw [← hw6] at O6 P6 Q6 B6 hbx ⊢
      rw [← hq] at B6 HBo hpX hsX ⊢
      have hs6 := hbx.size
      have hbl6 := B6.out.lt
      clear hw6 hq hbx O3 P3 Q3
      go_wp2_with fail
      refine Calls.mono spec_l13Counts ?_
      rintro e _ ⟨rfl, rfl⟩
      cases hnk : numK k
      · have HNK := Lib.hid hnk
        clear hnk
        have HP7 := Lib.hid (show prs (g + 1) (.bl k) L = (if true = true then none else some (ts, R3, (0 : Int))).bind (blE k) by
          rw [HP5.out]; rfl)
        go_wp2_with fail
        refine Calls.mono (spec_l13WantL (t := [41]) P6.out (by decide)) ?_
        rintro e wa ⟨⟨va, rfl⟩, hp, ho⟩
        have Pa := Lib.hid hp
        have Qa := Lib.hid (Q6.out.trans ho)
        have Oa := Lib.hid (O6.out.only ho (fun g e => .inr (by have := (O6.out.blk g e).1; omega)))
        have Ba := Lib.hid (B6.out.apart ho (.inr (by omega)))
        have hsa := ho.size
        have hla := exL_len R3 [41]
        clear hp ho P6 Q6 O6 B6
        have b0 := Ba.out.cell 0
        have b1 := Ba.out.cell 1
        have b2 := Ba.out.cell 2
        have bl := Ba.out.lt
        simp only [List.getElem?_toArray, List.getElem?_cons_zero, List.getElem?_cons_succ] at b0 b1 b2
        have hbl9 : Below wa.heap.size wa (wa.alloc (.cells #[.int .i64 k, .string ⟨#[]⟩, .int .i64 0] 55)) := below_alloc1 (Below.refl _ _) _
        go_wp2_with (at_builtin; refine appendL_F (k := 3) (enc := TM.enc) (ok := fun _ => True) rfl _ _ 45 55 rfl Tryz.underlying45 Tryz.infoTerm rfl (by decide) (by decide) TM.one w1.heap.size _ _ _ _ (Oa.out.keep hbl9) rfl _ _ _ _ rfl (OwnTm.lit wa ⟨k, ⟨#[]⟩, 0⟩ #[.int .i64 k, .string ⟨#[]⟩, .int .i64 0] rfl).flats (by omega) (by decide) (by simp; omega) ?_; intro ab cb wb hob hbb hgb hnb; refine Hid.out ?_)
        have PF := Lib.hid ((Pa.out.keep hbl9).keepB hbb hp1)
        have QF := Lib.hid ((Qa.out.then hbl9).thenB hbb hs1)
        have OF := Lib.hid (hob.le hs1)
        clear hob hbb hgb hnb hbl9 Pa Qa Oa Ba b0 b1 b2 bl
        refine Lib.hid ?_
        go_wp2
        go_ret
        refine ⟨ab, _, cb, _, (true || !isT R3 [41]), exL R3 [41], rfl, OF.out, by first | exact PF.out | simpa using PF.out, QF.out, by omega, ?_⟩
        rw [HP7.out]; simp
      · have HNK := Lib.hid hnk
        clear hnk
        go_wp2_with fail
        refine Calls.mono (spec_l13WantL (t := [44]) P6.out (by decide)) ?_
        rintro e w7 ⟨⟨v7, rfl⟩, hp, ho⟩
        have P7 := Lib.hid hp
        have Q7 := Lib.hid (Q6.out.trans ho)
        have O7 := Lib.hid (O6.out.only ho (fun g e => .inr (by have := (O6.out.blk g e).1; omega)))
        have B7 := Lib.hid (B6.out.apart ho (.inr (by omega)))
        have hs7 := ho.size
        have hl7 := exL_len R3 [44]
        clear hp ho P6 Q6 O6 B6
        go_wp2_with fail
        refine Calls.mono (spec_l13WantNumber P7.out) ?_
        rintro e w8 ⟨⟨nv, rfl, hnv⟩, hp, ho⟩
        have O8 := Lib.hid (O7.out.only ho (fun g e => .inr (by have := (O7.out.blk g e).1; omega)))
        have B8 := Lib.hid (B7.out.apart ho (.inr (by omega)))
        have P8 := Lib.hid hp
        have Q8 := Lib.hid (Q7.out.trans ho)
        have hs8 := ho.size
        have NV := Lib.hid hnv
        clear hp ho hnv P7 Q7 O7 B7
        have b0 := B8.out.cell 0
        have b1 := B8.out.cell 1
        have b2 := B8.out.cell 2
        have bl := B8.out.lt
        have bf := B8.out.free
        simp only [List.getElem?_toArray, List.getElem?_cons_zero, List.getElem?_cons_succ] at b0 b1 b2
        have hbq : Below q w8 (w8.setCell ⟨q, 2, none⟩ (.int .i64 nv)) := Below.setCell (Below.refl q w8) (show q ≤ (⟨q, 2, none⟩ : Addr).block from Nat.le_refl q) _
        have O9 := Lib.hid (OwnF.keepE O8.out hbq HBo.out)
        have P9 := Lib.hid (P8.out.keepB hbq hpX)
        have Q9 := Lib.hid (Q8.out.thenB hbq (by omega))
        have B9 := Lib.hid (show Blk (w8.setCell ⟨q, 2, none⟩ (.int .i64 nv)) q #[.int .i64 k, .string ⟨#[]⟩, .int .i64 nv] 55 from heap_setCell_same w8 q 2 _ _ _ B8.out)
        clear O8 P8 Q8 B8
        obtain ⟨L6, hL6⟩ : ∃ v, v = exL R3 [44] := ⟨_, rfl⟩
        rw [← hL6] at P9 NV hl7
        obtain ⟨qk, hqk⟩ : ∃ v, v = (!L6.isEmpty && decide ((tkOf L6).k = 2)) := ⟨_, rfl⟩
        rw [← hqk] at P9
        obtain ⟨bad9, hbad9⟩ : ∃ v, v = ((true || !isT R3 [44]) || !qk) := ⟨_, rfl⟩
        obtain ⟨R9, hR9⟩ : ∃ v, v = (if qk = true then L6.tail else L6) := ⟨_, rfl⟩
        rw [← hbad9, ← hR9] at P9
        have HP7 := Lib.hid (show prs (g + 1) (.bl k) L = (if bad9 = true then none else some (ts, R9, nv)).bind (blE k) by
          rw [HP5.out, show bad9 = true by simpa using hbad9]; rfl)
        have hR9l : R9.length ≤ (R3).length := by
          rw [hR9]; split
          · rw [List.length_tail]; omega
          · omega
        clear hbad9 hR9 NV hqk hL6
        go_upto_region 11 with fail
        obtain ⟨w9, hw9⟩ : ∃ v, v = w8.setCell ⟨q, 2, none⟩ (.int .i64 nv) := ⟨_, rfl⟩
        rw [← hw9] at O9 P9 Q9 B9 hbq ⊢
        have hs9 := hbq.size
        clear hw9 hbq b0 b1 b2 bl bf
        go_wp2_with fail
        refine Calls.mono (spec_l13WantL (t := [41]) P9.out (by decide)) ?_
        rintro e wa ⟨⟨va, rfl⟩, hp, ho⟩
        have Pa := Lib.hid hp
        have Qa := Lib.hid (Q9.out.trans ho)
        have Oa := Lib.hid (O9.out.only ho (fun g e => .inr (by have := (O9.out.blk g e).1; omega)))
        have Ba := Lib.hid (B9.out.apart ho (.inr (by omega)))
        have hsa := ho.size
        have hla := exL_len R9 [41]
        clear hp ho P9 Q9 O9 B9
        have b0 := Ba.out.cell 0
        have b1 := Ba.out.cell 1
        have b2 := Ba.out.cell 2
        have bl := Ba.out.lt
        simp only [List.getElem?_toArray, List.getElem?_cons_zero, List.getElem?_cons_succ] at b0 b1 b2
        have hbl9 : Below wa.heap.size wa (wa.alloc (.cells #[.int .i64 k, .string ⟨#[]⟩, .int .i64 nv] 55)) := below_alloc1 (Below.refl _ _) _
        go_wp2_with (at_builtin; refine appendL_F (k := 3) (enc := TM.enc) (ok := fun _ => True) rfl _ _ 45 55 rfl Tryz.underlying45 Tryz.infoTerm rfl (by decide) (by decide) TM.one w1.heap.size _ _ _ _ (Oa.out.keep hbl9) rfl _ _ _ _ rfl (OwnTm.lit wa ⟨k, ⟨#[]⟩, nv⟩ #[.int .i64 k, .string ⟨#[]⟩, .int .i64 nv] rfl).flats (by omega) (by decide) (by simp; omega) ?_; intro ab cb wb hob hbb hgb hnb; refine Hid.out ?_)
        have PF := Lib.hid ((Pa.out.keep hbl9).keepB hbb hp1)
        have QF := Lib.hid ((Qa.out.then hbl9).thenB hbb hs1)
        have OF := Lib.hid (hob.le hs1)
        clear hob hbb hgb hnb hbl9 Pa Qa Oa Ba b0 b1 b2 bl
        refine Lib.hid ?_
        go_wp2
        go_ret
        refine ⟨ab, _, cb, _, (bad9 || !isT R9 [41]), exL R9 [41], rfl, OF.out, by first | exact PF.out | simpa using PF.out, QF.out, by omega, ?_⟩
        rw [HP7.out]
        cases bad9
        · simp only [Bool.false_eq_true, if_false, Option.bind_some, blE, Bool.false_or]
          cases h9 : isT R9 [41] <;> simp [exL, h9]
        · simp
  · skip
    have hk9 : (((tkA k : Nat) : Int) == 2) = false := by rw [beq_eq_false_iff_ne]; omega
    have H2 := Lib.hid hk2
    clear hk2
    have hn4 : n + 2 * R.length ≤ 2 * L.length := hN3.1
    have HP5 := Lib.hid (show prs (g + 1) (.bl k) L = ((if bad = true then none else some (ts, R)).bind (blN k)).bind (blE k) by
      rw [HPR.out, HO2.out]
      cases bad
      · simp only [Bool.false_eq_true, if_false, Option.bind_some, blS, if_neg H2.out]
      · rfl)
    have hbx : Below w2.heap.size w2 (w2.alloc (.cells #[.int .i64 k, .string ⟨#[]⟩, .int .i64 0] 55)) := below_alloc1 (Below.refl _ _) _
    have HBo := Lib.hid (fun g (e : a = some ⟨g, 0, none⟩) => (O2.out.blk g e).2)
    have hpX := P2.out.lt
    have hsX : w1.heap.size ≤ w2.heap.size := by omega
    have O6 := Lib.hid (O2.out.keep hbx)
    have P6 := Lib.hid (P2.out.keep hbx)
    have Q6 := Lib.hid (Q2.out.then hbx)
    have B6 := Lib.hid (Blk.made w2 #[.int .i64 k, .string ⟨#[]⟩, .int .i64 0] 55)
    go_upto_region 8 with fail
    obtain ⟨w6, hw6⟩ : ∃ v, v = w2.alloc (.cells #[.int .i64 k, .string ⟨#[]⟩, .int .i64 0] 55) := ⟨_, rfl⟩
    obtain ⟨q, hq⟩ : ∃ v, v = w2.heap.size := ⟨_, rfl⟩
    rw [← hw6] at O6 P6 Q6 B6 hbx ⊢
    rw [← hq] at B6 HBo hpX hsX ⊢
    have hs6 := hbx.size
    have hbl6 := B6.out.lt
    clear hw6 hq hbx O2 P2 Q2
    go_wp2_with fail
    refine Calls.mono spec_l13Counts ?_
    rintro e _ ⟨rfl, rfl⟩
    cases hnk : numK k
    · have HNK := Lib.hid hnk
      clear hnk
      have HP7 := Lib.hid (show prs (g + 1) (.bl k) L = (if bad = true then none else some (ts, R, (0 : Int))).bind (blE k) by
        rw [HP5.out]
        cases bad
        · simp only [Bool.false_eq_true, if_false, Option.bind_some, blN, HNK.out]
        · rfl)
      go_wp2_with fail
      refine Calls.mono (spec_l13WantL (t := [41]) P6.out (by decide)) ?_
      rintro e wa ⟨⟨va, rfl⟩, hp, ho⟩
      have Pa := Lib.hid hp
      have Qa := Lib.hid (Q6.out.trans ho)
      have Oa := Lib.hid (O6.out.only ho (fun g e => .inr (by have := (O6.out.blk g e).1; omega)))
      have Ba := Lib.hid (B6.out.apart ho (.inr (by omega)))
      have hsa := ho.size
      have hla := exL_len R [41]
      clear hp ho P6 Q6 O6 B6
      have b0 := Ba.out.cell 0
      have b1 := Ba.out.cell 1
      have b2 := Ba.out.cell 2
      have bl := Ba.out.lt
      simp only [List.getElem?_toArray, List.getElem?_cons_zero, List.getElem?_cons_succ] at b0 b1 b2
      have hbl9 : Below wa.heap.size wa (wa.alloc (.cells #[.int .i64 k, .string ⟨#[]⟩, .int .i64 0] 55)) := below_alloc1 (Below.refl _ _) _
      go_wp2_with (at_builtin; refine appendL_F (k := 3) (enc := TM.enc) (ok := fun _ => True) rfl _ _ 45 55 rfl Tryz.underlying45 Tryz.infoTerm rfl (by decide) (by decide) TM.one w1.heap.size _ _ _ _ (Oa.out.keep hbl9) rfl _ _ _ _ rfl (OwnTm.lit wa ⟨k, ⟨#[]⟩, 0⟩ #[.int .i64 k, .string ⟨#[]⟩, .int .i64 0] rfl).flats (by omega) (by decide) (by simp; omega) ?_; intro ab cb wb hob hbb hgb hnb; refine Hid.out ?_)
      have PF := Lib.hid ((Pa.out.keep hbl9).keepB hbb hp1)
      have QF := Lib.hid ((Qa.out.then hbl9).thenB hbb hs1)
      have OF := Lib.hid (hob.le hs1)
      clear hob hbb hgb hnb hbl9 Pa Qa Oa Ba b0 b1 b2 bl
      refine Lib.hid ?_
      go_wp2
      go_ret
      refine ⟨ab, _, cb, _, (bad || !isT R [41]), exL R [41], rfl, OF.out, by first | exact PF.out | simpa using PF.out, QF.out, by omega, ?_⟩
      rw [HP7.out]
      cases bad
      · simp only [Bool.false_eq_true, if_false, Option.bind_some, blE, Bool.false_or]
        cases h9 : isT R [41] <;> simp [exL, h9]
      · simp
    · have HNK := Lib.hid hnk
      clear hnk
      go_wp2_with fail
      refine Calls.mono (spec_l13WantL (t := [44]) P6.out (by decide)) ?_
      rintro e w7 ⟨⟨v7, rfl⟩, hp, ho⟩
      have P7 := Lib.hid hp
      have Q7 := Lib.hid (Q6.out.trans ho)
      have O7 := Lib.hid (O6.out.only ho (fun g e => .inr (by have := (O6.out.blk g e).1; omega)))
      have B7 := Lib.hid (B6.out.apart ho (.inr (by omega)))
      have hs7 := ho.size
      have hl7 := exL_len R [44]
      clear hp ho P6 Q6 O6 B6
      go_wp2_with fail
      refine Calls.mono (spec_l13WantNumber P7.out) ?_
      rintro e w8 ⟨⟨nv, rfl, hnv⟩, hp, ho⟩
      have O8 := Lib.hid (O7.out.only ho (fun g e => .inr (by have := (O7.out.blk g e).1; omega)))
      have B8 := Lib.hid (B7.out.apart ho (.inr (by omega)))
      have P8 := Lib.hid hp
      have Q8 := Lib.hid (Q7.out.trans ho)
      have hs8 := ho.size
      have NV := Lib.hid hnv
      clear hp ho hnv P7 Q7 O7 B7
      have b0 := B8.out.cell 0
      have b1 := B8.out.cell 1
      have b2 := B8.out.cell 2
      have bl := B8.out.lt
      have bf := B8.out.free
      simp only [List.getElem?_toArray, List.getElem?_cons_zero, List.getElem?_cons_succ] at b0 b1 b2
      have hbq : Below q w8 (w8.setCell ⟨q, 2, none⟩ (.int .i64 nv)) := Below.setCell (Below.refl q w8) (show q ≤ (⟨q, 2, none⟩ : Addr).block from Nat.le_refl q) _
      have O9 := Lib.hid (OwnF.keepE O8.out hbq HBo.out)
      have P9 := Lib.hid (P8.out.keepB hbq hpX)
      have Q9 := Lib.hid (Q8.out.thenB hbq (by omega))
      have B9 := Lib.hid (show Blk (w8.setCell ⟨q, 2, none⟩ (.int .i64 nv)) q #[.int .i64 k, .string ⟨#[]⟩, .int .i64 nv] 55 from heap_setCell_same w8 q 2 _ _ _ B8.out)
      clear O8 P8 Q8 B8
      obtain ⟨L6, hL6⟩ : ∃ v, v = exL R [44] := ⟨_, rfl⟩
      rw [← hL6] at P9 NV hl7
      obtain ⟨qk, hqk⟩ : ∃ v, v = (!L6.isEmpty && decide ((tkOf L6).k = 2)) := ⟨_, rfl⟩
      rw [← hqk] at P9
      obtain ⟨bad9, hbad9⟩ : ∃ v, v = ((bad || !isT R [44]) || !qk) := ⟨_, rfl⟩
      obtain ⟨R9, hR9⟩ : ∃ v, v = (if qk = true then L6.tail else L6) := ⟨_, rfl⟩
      rw [← hbad9, ← hR9] at P9
      have HP7 := Lib.hid (show prs (g + 1) (.bl k) L = (if bad9 = true then none else some (ts, R9, nv)).bind (blE k) by
        rw [HP5.out]
        congr 1
        cases bad
        · skip
          simp only [Bool.false_eq_true, if_false, Option.bind_some, blN, HNK.out, if_true, Bool.false_or] at hbad9 ⊢
          cases h1 : isT R [44]
          · rw [h1] at hbad9
            simp at hbad9
            rw [hbad9]; rfl
          · have NV9 := NV.out
            rw [exL, if_pos h1] at hL6
            subst hL6
            rw [h1] at hbad9
            simp only [Bool.not_true, Bool.false_or] at hbad9
            simp only [if_true]
            cases ht : (R).tail with
            | nil => rw [ht] at hqk; simp at hqk; rw [hqk] at hbad9; rw [hbad9]; rfl
            | cons x r =>
              rw [ht] at hqk hR9 NV9
              by_cases hx : x.k = 2
              · have hq9 : qk = true := by simpa [tkOf, hx] using hqk
                rw [hq9] at hbad9 hR9
                rw [show bad9 = false by simpa using hbad9]
                simp only [if_pos hx, tkOf] at NV9 ⊢
                rw [NV9 hx, hR9]; rfl
              · have hq9 : qk = false := by simpa [tkOf, hx] using hqk
                rw [hq9] at hbad9
                rw [show bad9 = true by simpa using hbad9]
                simp only [if_neg hx]
                rfl
        · simp at hbad9
          rw [hbad9]; rfl)
      have hR9l : R9.length ≤ (R).length := by
        rw [hR9]; split
        · rw [List.length_tail]; omega
        · omega
      clear hbad9 hR9 NV hqk hL6
      go_upto_region 11 with fail
      obtain ⟨w9, hw9⟩ : ∃ v, v = w8.setCell ⟨q, 2, none⟩ (.int .i64 nv) := ⟨_, rfl⟩
      rw [← hw9] at O9 P9 Q9 B9 hbq ⊢
      have hs9 := hbq.size
      clear hw9 hbq b0 b1 b2 bl bf
      go_wp2_with fail
      refine Calls.mono (spec_l13WantL (t := [41]) P9.out (by decide)) ?_
      rintro e wa ⟨⟨va, rfl⟩, hp, ho⟩
      have Pa := Lib.hid hp
      have Qa := Lib.hid (Q9.out.trans ho)
      have Oa := Lib.hid (O9.out.only ho (fun g e => .inr (by have := (O9.out.blk g e).1; omega)))
      have Ba := Lib.hid (B9.out.apart ho (.inr (by omega)))
      have hsa := ho.size
      have hla := exL_len R9 [41]
      clear hp ho P9 Q9 O9 B9
      have b0 := Ba.out.cell 0
      have b1 := Ba.out.cell 1
      have b2 := Ba.out.cell 2
      have bl := Ba.out.lt
      simp only [List.getElem?_toArray, List.getElem?_cons_zero, List.getElem?_cons_succ] at b0 b1 b2
      have hbl9 : Below wa.heap.size wa (wa.alloc (.cells #[.int .i64 k, .string ⟨#[]⟩, .int .i64 nv] 55)) := below_alloc1 (Below.refl _ _) _
      go_wp2_with (at_builtin; refine appendL_F (k := 3) (enc := TM.enc) (ok := fun _ => True) rfl _ _ 45 55 rfl Tryz.underlying45 Tryz.infoTerm rfl (by decide) (by decide) TM.one w1.heap.size _ _ _ _ (Oa.out.keep hbl9) rfl _ _ _ _ rfl (OwnTm.lit wa ⟨k, ⟨#[]⟩, nv⟩ #[.int .i64 k, .string ⟨#[]⟩, .int .i64 nv] rfl).flats (by omega) (by decide) (by simp; omega) ?_; intro ab cb wb hob hbb hgb hnb; refine Hid.out ?_)
      have PF := Lib.hid ((Pa.out.keep hbl9).keepB hbb hp1)
      have QF := Lib.hid ((Qa.out.then hbl9).thenB hbb hs1)
      have OF := Lib.hid (hob.le hs1)
      clear hob hbb hgb hnb hbl9 Pa Qa Oa Ba b0 b1 b2 bl
      refine Lib.hid ?_
      go_wp2
      go_ret
      refine ⟨ab, _, cb, _, (bad9 || !isT R9 [41]), exL R9 [41], rfl, OF.out, by first | exact PF.out | simpa using PF.out, QF.out, by omega, ?_⟩
      rw [HP7.out]
      cases bad9
      · simp only [Bool.false_eq_true, if_false, Option.bind_some, blE, Bool.false_or]
        cases h9 : isT R9 [41] <;> simp [exL, h9]
      · simp
end Go.Proofs.YtjneodmohkpckaaGreatDoor
