/- The program's parser: a factor, a block, walked. (Printed by mkeg.py.) -/
import Derived.Test.YtjneodmohkpckaaGreatDoorY2
import Derived.Test.YtjneodmohkpckaaGreatDoorY1
namespace Go.Proofs.YtjneodmohkpckaaGreatDoor
open Go.RowKit
set_option linter.unusedVariables false
set_option linter.unusedSimpArgs false
attribute [local go_sem ↓] Go.wp_at_zero Go.wp_at_succ
theorem impl_acceptT {p : Nat} {bad : Bool} {L : List TR} {t : List UInt8} {w : World} (h : PSt w p bad L) (ht : t ≠ []) (hq : isT L t = true) : Calls Tryz.prog 107 #[.pointer (some ⟨p, 0, none⟩), .string ⟨t.toArray⟩] w fun e w' => e = .returned (.bool true) ∧ PSt w' p bad L.tail ∧ Only p (p + 1) w w' := by
  have h1 := impl_accept (s := ⟨t.toArray⟩) h (by simpa using ht)
  rw [show isT L (⟨t.toArray⟩ : ByteArray).data.toList = true from by simpa using hq] at h1
  simpa using h1
theorem impl_acceptF {p : Nat} {bad : Bool} {L : List TR} {t : List UInt8} {w : World} (h : PSt w p bad L) (ht : t ≠ []) (hq : isT L t = false) : Calls Tryz.prog 107 #[.pointer (some ⟨p, 0, none⟩), .string ⟨t.toArray⟩] w fun e w' => e = .returned (.bool false) ∧ PSt w' p bad L ∧ Only p (p + 1) w w' := by
  have h1 := impl_accept (s := ⟨t.toArray⟩) h (by simpa using ht)
  rw [show isT L (⟨t.toArray⟩ : ByteArray).data.toList = false from by simpa using hq] at h1
  simpa using h1
/-- what is left behind an expected text -/
def exL (L : List TR) (t : List UInt8) : List TR := if isT L t = true then L.tail else L
theorem exL_len (L : List TR) (t : List UInt8) : (exL L t).length ≤ L.length := by
  rw [exL]; split
  · rw [List.length_tail]; omega
  · exact Nat.le_refl _
theorem exL_mem {L : List TR} {t : List UInt8} {P : TR → Prop} (h : ∀ x ∈ L, P x) : ∀ x ∈ exL L t, P x := by
  rw [exL]; split
  · exact fun x hx => h x (List.mem_of_mem_tail hx)
  · exact h
theorem impl_expectL {p : Nat} {bad : Bool} {L : List TR} {t : List UInt8} {w : World} (h : PSt w p bad L) (ht : t ≠ []) : Calls Tryz.prog 104 #[.pointer (some ⟨p, 0, none⟩), .string ⟨t.toArray⟩] w fun e w' => (∃ v, e = .returned v) ∧ PSt w' p (bad || !isT L t) (exL L t) ∧ Only p (p + 1) w w' := by
  have h1 := impl_expect (s := ⟨t.toArray⟩) h (by simpa using ht)
  rw [exL]
  simpa using h1
set_option maxRecDepth 100000 in
set_option maxHeartbeats 8000000 in
theorem impl_factor_step {f : Nat} (ih : ∀ g, g < f → PAll g) : ∀ (w : World) (p : Nat) (L : List TR), PSt w p false L → EV w p → (∀ x ∈ L, TkB x) → 8 * L.length + 1 ≤ f → Calls Tryz.prog 162 #[.pointer (some ⟨p, 0, none⟩)] w (PRt (prs f .fc L) p L.length w) := by
  intro w p L hP hE hK hf
  obtain ⟨g, rfl⟩ : ∃ g, f = g + 1 := ⟨f - 1, by omega⟩
  have IH := Lib.hid (ih g (Nat.lt_succ_self _))
  have HPR := Lib.hid (show prs (g + 1) .fc L = _ from by rw [prs])
  have hKt : ∀ x ∈ L.tail, TkB x := fun x hx => hK x (List.mem_of_mem_tail hx)
  obtain ⟨ta, tn, tc, x0, x1, xl, hl⟩ := hP.bd
  have P := Lib.hid hP
  have V := Lib.hid hE
  have K := Lib.hid hK
  have KT := Lib.hid hKt
  have O := Lib.hid (Only.refl p (p + 1) w)
  have N8 := Lib.hid hP.n8
  clear ih hP hE hK hKt hl x0

  cases h1 : isT L [116, 114, 117, 101]
  rotate_left
  · have HT1 := Lib.hid h1
    have hlen := isT_len (by decide) h1
    have hpr := HPR.out
    rw [if_pos HT1.out] at hpr
    replace HPR := Lib.hid hpr
    clear hpr h1
    go_enter Tryz.func162, Tryz.ntmps162
    go_wp2_with fail
    refine Calls.mono (impl_acceptT (t := [116, 114, 117, 101]) P.out (by decide) HT1.out) ?_
    rintro e w9 ⟨rfl, hp, ho⟩
    replace P := Lib.hid hp
    replace V := Lib.hid (V.out.only ho)
    replace O := Lib.hid (O.out.trans ho)
    clear hp ho
    have hO := OwnTm.lit w9 (tmK 2) #[.int .i64 2, .string ⟨#[]⟩, .int .i64 0] rfl
    have hbb : Below w9.heap.size w9 (w9.alloc (.cells #[.int .i64 2, .string ⟨#[]⟩, .int .i64 0] 55)) := below_alloc1 (Below.refl _ _) _
    have OW := Lib.hid (hO.le O.out.size)
    have PW := Lib.hid (P.out.keep hbb)
    have QW := Lib.hid (O.out.then hbb)
    clear hO hbb
    go_wp2
    go_ret
    exact ⟨_, 1, 1, _, false, _, rfl, OW.out, PW.out, QW.out, by omega, HPR.out⟩
  have HT1 := Lib.hid h1
  clear h1
  cases h2 : isT L [102, 97, 108, 115, 101]
  rotate_left
  · have HT2 := Lib.hid h2
    have hlen := isT_len (by decide) h2
    have hpr := HPR.out
    rw [if_neg (by rw [HT1.out]; decide)] at hpr
    rw [if_pos HT2.out] at hpr
    replace HPR := Lib.hid hpr
    clear hpr h2
    go_enter Tryz.func162, Tryz.ntmps162
    go_wp2_with fail
    refine Calls.mono (impl_acceptF (t := [116, 114, 117, 101]) P.out (by decide) HT1.out) ?_
    rintro e w1 ⟨rfl, hp, ho⟩
    replace P := Lib.hid hp
    replace V := Lib.hid (V.out.only ho)
    replace O := Lib.hid (O.out.trans ho)
    clear hp ho
    go_wp2_with fail
    refine Calls.mono (impl_acceptT (t := [102, 97, 108, 115, 101]) P.out (by decide) HT2.out) ?_
    rintro e w9 ⟨rfl, hp, ho⟩
    replace P := Lib.hid hp
    replace V := Lib.hid (V.out.only ho)
    replace O := Lib.hid (O.out.trans ho)
    clear hp ho
    have hO := OwnTm.lit w9 (tmK 3) #[.int .i64 3, .string ⟨#[]⟩, .int .i64 0] rfl
    have hbb : Below w9.heap.size w9 (w9.alloc (.cells #[.int .i64 3, .string ⟨#[]⟩, .int .i64 0] 55)) := below_alloc1 (Below.refl _ _) _
    have OW := Lib.hid (hO.le O.out.size)
    have PW := Lib.hid (P.out.keep hbb)
    have QW := Lib.hid (O.out.then hbb)
    clear hO hbb
    go_wp2
    go_ret
    exact ⟨_, 1, 1, _, false, _, rfl, OW.out, PW.out, QW.out, by omega, HPR.out⟩
  have HT2 := Lib.hid h2
  clear h2
  cases h3 : isT L [110, 111, 116]
  rotate_left
  · have HT3 := Lib.hid h3
    have hlen := isT_len (by decide) h3
    have hpr := HPR.out
    rw [if_neg (by rw [HT1.out]; decide)] at hpr
    rw [if_neg (by rw [HT2.out]; decide)] at hpr
    rw [if_pos HT3.out] at hpr
    replace HPR := Lib.hid hpr
    clear hpr h3
    go_enter Tryz.func162, Tryz.ntmps162
    go_wp2_with fail
    refine Calls.mono (impl_acceptF (t := [116, 114, 117, 101]) P.out (by decide) HT1.out) ?_
    rintro e w1 ⟨rfl, hp, ho⟩
    replace P := Lib.hid hp
    replace V := Lib.hid (V.out.only ho)
    replace O := Lib.hid (O.out.trans ho)
    clear hp ho
    go_wp2_with fail
    refine Calls.mono (impl_acceptF (t := [102, 97, 108, 115, 101]) P.out (by decide) HT2.out) ?_
    rintro e w2 ⟨rfl, hp, ho⟩
    replace P := Lib.hid hp
    replace V := Lib.hid (V.out.only ho)
    replace O := Lib.hid (O.out.trans ho)
    clear hp ho
    go_wp2_with fail
    refine Calls.mono (impl_acceptT (t := [110, 111, 116]) P.out (by decide) HT3.out) ?_
    rintro e w9 ⟨rfl, hp, ho⟩
    replace P := Lib.hid hp
    replace V := Lib.hid (V.out.only ho)
    replace O := Lib.hid (O.out.trans ho)
    clear hp ho
    go_wp2_with fail
    refine Calls.mono (IH.out.fc w9 p L.tail P.out V.out KT.out (by omega)) ?_
    rintro e wA ⟨a, n, c, ts, bad, R, rfl, hO, hP, hQ, hn, ho⟩
    have hb0 : Below wA.heap.size wA (wA.alloc (.cells #[.int .i64 4, .string ⟨#[]⟩, .int .i64 0] 55)) := below_alloc1 (Below.refl _ _) _
    have OW := Lib.hid hO
    have PW := Lib.hid hP
    have QW := Lib.hid (O.out.trans hQ)
    have hs9 := O.out.size
    have hsA := hQ.size
    have hp9 := P.out.lt
    have N9 := N8.out
    have HO := Lib.hid ho
    clear hO hP hQ ho
    go_wp2_with (at_builtin; refine appendL_F (k := 3) (enc := TM.enc) (ok := fun _ => True) rfl _ _ 45 55 rfl Tryz.underlying45 Tryz.infoTerm rfl (by decide) (by decide) TM.one w9.heap.size _ _ _ _ (OW.out.keep hb0) rfl _ _ _ _ rfl (OwnTm.lit wA (tmK 4) #[.int .i64 4, .string ⟨#[]⟩, .int .i64 0] rfl).flats (by omega) (by decide) (by simp; omega) ?_; intro a4 c4 w4 ho4 hb4 hg4 hn4; refine Hid.out ?_)
    have PF := Lib.hid ((PW.out.keep hb0).keepB hb4 hp9)
    have QF := Lib.hid ((QW.out.then hb0).thenB hb4 hs9)
    have OF := Lib.hid (ho4.le hs9)
    clear ho4 hb4 hg4 hn4 hb0
    refine Lib.hid ?_
    go_wp2
    go_ret
    refine ⟨a4, n + 1, c4, ts ++ [tmK 4], bad, R, rfl, OF.out, PF.out, QF.out, by omega, ?_⟩
    rw [HPR.out, HO.out]
    cases bad <;> rfl
  have HT3 := Lib.hid h3
  clear h3
  cases h4 : isT L [40]
  rotate_left
  · have HT4 := Lib.hid h4
    have hlen := isT_len (by decide) h4
    have hpr := HPR.out
    rw [if_neg (by rw [HT1.out]; decide)] at hpr
    rw [if_neg (by rw [HT2.out]; decide)] at hpr
    rw [if_neg (by rw [HT3.out]; decide)] at hpr
    rw [if_pos HT4.out] at hpr
    replace HPR := Lib.hid hpr
    clear hpr h4
    go_enter Tryz.func162, Tryz.ntmps162
    go_wp2_with fail
    refine Calls.mono (impl_acceptF (t := [116, 114, 117, 101]) P.out (by decide) HT1.out) ?_
    rintro e w1 ⟨rfl, hp, ho⟩
    replace P := Lib.hid hp
    replace V := Lib.hid (V.out.only ho)
    replace O := Lib.hid (O.out.trans ho)
    clear hp ho
    go_wp2_with fail
    refine Calls.mono (impl_acceptF (t := [102, 97, 108, 115, 101]) P.out (by decide) HT2.out) ?_
    rintro e w2 ⟨rfl, hp, ho⟩
    replace P := Lib.hid hp
    replace V := Lib.hid (V.out.only ho)
    replace O := Lib.hid (O.out.trans ho)
    clear hp ho
    go_wp2_with fail
    refine Calls.mono (impl_acceptF (t := [110, 111, 116]) P.out (by decide) HT3.out) ?_
    rintro e w3 ⟨rfl, hp, ho⟩
    replace P := Lib.hid hp
    replace V := Lib.hid (V.out.only ho)
    replace O := Lib.hid (O.out.trans ho)
    clear hp ho
    go_wp2_with fail
    refine Calls.mono (impl_acceptT (t := [40]) P.out (by decide) HT4.out) ?_
    rintro e w9 ⟨rfl, hp, ho⟩
    replace P := Lib.hid hp
    replace V := Lib.hid (V.out.only ho)
    replace O := Lib.hid (O.out.trans ho)
    clear hp ho
    go_wp2_with fail
    refine Calls.mono (IH.out.ex w9 p L.tail P.out V.out KT.out (by omega)) ?_
    rintro e wA ⟨a, n, c, ts, bad, R, rfl, hO, hP, hQ, hn, ho⟩
    have hs9 := O.out.size
    have hsA := hQ.size
    have hp9 := P.out.lt
    have OW := Lib.hid hO
    have QW := Lib.hid (O.out.trans hQ)
    have PW := Lib.hid hP
    have HO := Lib.hid ho
    clear hO hP hQ ho
    go_wp2_with fail
    refine Calls.mono (impl_expectL (t := [41]) PW.out (by decide)) ?_
    rintro e wB ⟨⟨v, rfl⟩, hp, ho⟩
    have PF := Lib.hid hp
    have QF := Lib.hid (QW.out.trans ho)
    have OF := Lib.hid ((OW.out.only ho (fun g e => .inr (by have := (OW.out.blk g e).1; omega))).le hs9)
    have hel := exL_len R [41]
    clear hp ho
    go_wp2
    go_ret
    refine ⟨a, n, c, ts, (bad || !isT R [41]), exL R [41], rfl, OF.out, PF.out, QF.out, by omega, ?_⟩
    rw [HPR.out, HO.out]
    cases bad
    · cases h9 : isT R [41] <;> simp [exL, h9]
    · simp
  have HT4 := Lib.hid h4
  clear h4
  have hpr := HPR.out
  rw [if_neg (by rw [HT1.out]; decide)] at hpr
  rw [if_neg (by rw [HT2.out]; decide)] at hpr
  rw [if_neg (by rw [HT3.out]; decide)] at hpr
  rw [if_neg (by rw [HT4.out]; decide)] at hpr
  replace HPR := Lib.hid hpr
  clear hpr
  by_cases hk : 11 ≤ kwI (pkT L)
  · have hlen := kw_ne hk
    have hhi := kwI_hi (pkT L)
    have hpr := HPR.out
    rw [if_pos hk] at hpr
    replace HPR := Lib.hid hpr
    have HBK := Lib.hid ((kw_block (pkT L)).2 hk)
    have HD := Lib.hid (decide_eq_true hk)
    have hpk : (tkOf L).t = pkT L ∧ L.isEmpty = false := by cases L with
      | nil => simp at hlen
      | cons x r => exact ⟨rfl, rfl⟩
    have HPK := Lib.hid hpk
    clear hpr hpk
    obtain ⟨kk, hkk⟩ : ∃ kk, kk = kwI (pkT L) := ⟨_, rfl⟩
    rw [← hkk] at hk hhi HPR HBK HD
    have HKK := Lib.hid hkk
    clear hkk
    go_enter Tryz.func162, Tryz.ntmps162
    go_wp2_with fail
    refine Calls.mono (impl_acceptF (t := [116, 114, 117, 101]) P.out (by decide) HT1.out) ?_
    rintro e w1 ⟨rfl, hp, ho⟩
    replace P := Lib.hid hp
    replace V := Lib.hid (V.out.only ho)
    replace O := Lib.hid (O.out.trans ho)
    clear hp ho
    go_wp2_with fail
    refine Calls.mono (impl_acceptF (t := [102, 97, 108, 115, 101]) P.out (by decide) HT2.out) ?_
    rintro e w2 ⟨rfl, hp, ho⟩
    replace P := Lib.hid hp
    replace V := Lib.hid (V.out.only ho)
    replace O := Lib.hid (O.out.trans ho)
    clear hp ho
    go_wp2_with fail
    refine Calls.mono (impl_acceptF (t := [110, 111, 116]) P.out (by decide) HT3.out) ?_
    rintro e w3 ⟨rfl, hp, ho⟩
    replace P := Lib.hid hp
    replace V := Lib.hid (V.out.only ho)
    replace O := Lib.hid (O.out.trans ho)
    clear hp ho
    go_wp2_with fail
    refine Calls.mono (impl_acceptF (t := [40]) P.out (by decide) HT4.out) ?_
    rintro e w4 ⟨rfl, hp, ho⟩
    replace P := Lib.hid hp
    replace V := Lib.hid (V.out.only ho)
    replace O := Lib.hid (O.out.trans ho)
    clear hp ho
    go_wp2_with fail
    refine Calls.mono (impl_peek P.out) ?_
    rintro e _ ⟨rfl, rfl⟩
    go_wp2_with fail
    refine Calls.mono (impl_isBlockWord V.out.kw) ?_
    rintro e _ ⟨rfl, rfl⟩
    rw [← HKK.out, HD.out]
    go_wp2_with fail
    refine wp_region_noPanic ?_
    refine wp_region_held_drew (S := fun _ => True) (by kernel_rfl) trivial (fun hHeld => ?_)
    refine tkH 0 ?_
    try simp only [Act.put, s1, s2, s3]
    refine tkH 1 ?_
    try simp only [Act.put, s1, s2, s3]
    refine tkH 2 ?_
    try simp only [Act.put, s1, s2, s3]
    have hdr : Below w4.heap.size w4 w4.drew := (Below.refl _ _).drew
    refine wpAnyH_ready (rs := [3]) (by kernel_rfl) (by simp) ?_
    refine AllReadyH.cons rfl (fun K hK => ?_) AllReadyH.nil
    go_simp
    refine Calls.mono (impl_take (P.out.keep hdr)) ?_
    rintro e w5 ⟨rfl, hp, ho⟩
    rw [HPK.out.2] at hp
    replace P := Lib.hid hp
    replace V := Lib.hid ((V.out.keep hdr).only ho)
    replace O := Lib.hid ((O.out.then hdr).trans ho)
    clear hp ho hdr
    rw [HPK.out.1]
    go_wp2_with fail
    refine hK.out _ _ trivial (fun hHeld => ?_)
    clear hK K
    try simp only [Act.put, s1, s2, s3]
    have hfl : ∀ wx : World, (Instr.field 88 (.agg #[.int .i64 (tkOf L).k, .string (pkT L)]) 1).run Tryz.prog wx = .ok (.string (pkT L)) wx := fun wx => by kernel_rfl
    refine tkH 4 ?_
    try simp only [Act.put, s1, s2, s3]
    refine wpAnyH_ready (rs := [5]) (by kernel_rfl) (by simp) ?_
    refine AllReadyH.cons rfl (fun K hK => ?_) AllReadyH.nil
    go_simp
    have hfs := fs_cells V.out.kw.1 V.out.kw.2 (n := 17) rfl (by decide)
    have hcx := slices_Index_str (v := pkT L) (hfs.sub (k := 11) (by decide)) (by decide)
    rw [show ((kwNm.map fun z => (⟨z.toArray⟩ : ByteArray)).drop 11) = kwBs.drop 11 from rfl, HBK.out] at hcx
    clear hfs
    refine Calls.mono hcx ?_
    rintro e _ ⟨rfl, rfl⟩
    clear hcx
    go_wp2_with fail
    refine hK.out _ _ trivial (fun hHeld => ?_)
    clear hK K
    try simp only [Act.put, s1, s2, s3]
    have e7 : IntKind.i64.wrap (7 + (kk - 11)) = kk - 4 := by rw [IntWalk.i64_in _ (by omega)]; omega
    refine tkH 6 ?_
    try simp only [Act.put, s1, s2, s3]
    refine wpAnyH_ready (rs := [7]) (by kernel_rfl) (by simp) ?_
    refine AllReadyH.cons rfl (fun K hK => ?_) AllReadyH.nil
    go_simp
    refine Calls.mono (IH.out.bl w5 p L.tail (kk - 4) (by simpa using P.out) V.out KT.out (by omega) (by omega) (by omega)) ?_
    rintro e wA ⟨a, n, c, ts, bad, R, rfl, hO, hP, hQ, hn, ho⟩
    have OF := Lib.hid (hO.le O.out.size)
    have PF := Lib.hid hP
    have QF := Lib.hid (O.out.trans hQ)
    have HO := Lib.hid ho
    clear hO hP hQ ho
    go_wp2_with fail
    refine hK.out _ _ trivial (fun hHeld => ?_)
    clear hK K
    try simp only [Act.put, s1, s2, s3]
    refine tkH 8 ?_
    try simp only [Act.put, s1, s2, s3]
    refine wpAnyH_done (by kernel_rfl) ?_ _
    refine NoPanic.normal ?_
    go_wp2
    go_ret
    exact ⟨a, n, c, ts, bad, R, rfl, OF.out, PF.out, QF.out, by omega, by rw [HPR.out, HO.out]⟩
  · have hkf := decide_eq_false hk
    have hpr := HPR.out
    rw [if_neg hk] at hpr
    replace HPR := Lib.hid hpr
    have HD := Lib.hid hkf
    clear hpr hkf hk
    go_enter Tryz.func162, Tryz.ntmps162
    go_wp2_with fail
    refine Calls.mono (impl_acceptF (t := [116, 114, 117, 101]) P.out (by decide) HT1.out) ?_
    rintro e w1 ⟨rfl, hp, ho⟩
    replace P := Lib.hid hp
    replace V := Lib.hid (V.out.only ho)
    replace O := Lib.hid (O.out.trans ho)
    clear hp ho
    go_wp2_with fail
    refine Calls.mono (impl_acceptF (t := [102, 97, 108, 115, 101]) P.out (by decide) HT2.out) ?_
    rintro e w2 ⟨rfl, hp, ho⟩
    replace P := Lib.hid hp
    replace V := Lib.hid (V.out.only ho)
    replace O := Lib.hid (O.out.trans ho)
    clear hp ho
    go_wp2_with fail
    refine Calls.mono (impl_acceptF (t := [110, 111, 116]) P.out (by decide) HT3.out) ?_
    rintro e w3 ⟨rfl, hp, ho⟩
    replace P := Lib.hid hp
    replace V := Lib.hid (V.out.only ho)
    replace O := Lib.hid (O.out.trans ho)
    clear hp ho
    go_wp2_with fail
    refine Calls.mono (impl_acceptF (t := [40]) P.out (by decide) HT4.out) ?_
    rintro e w4 ⟨rfl, hp, ho⟩
    replace P := Lib.hid hp
    replace V := Lib.hid (V.out.only ho)
    replace O := Lib.hid (O.out.trans ho)
    clear hp ho
    go_wp2_with fail
    refine Calls.mono (impl_peek P.out) ?_
    rintro e _ ⟨rfl, rfl⟩
    go_wp2_with fail
    refine Calls.mono (impl_isBlockWord V.out.kw) ?_
    rintro e _ ⟨rfl, rfl⟩
    rw [HD.out]
    go_wp2_with fail
    refine Calls.mono (impl_name P.out V.out.kw (Nat.ne_of_lt V.out.n1)) ?_
    rintro e w5 ⟨rfl, hp, ho⟩
    have hbb : Below w5.heap.size w5 (w5.alloc (.cells #[.int .i64 1, .string (tkOf L).t, .int .i64 0] 55)) := below_alloc1 (Below.refl _ _) _
    have OW := Lib.hid ((OwnTm.lit w5 ⟨1, (tkOf L).t, 0⟩ #[.int .i64 1, .string (tkOf L).t, .int .i64 0] rfl).le (O.out.trans ho).size)
    have PW := Lib.hid (hp.keep hbb)
    have QW := Lib.hid ((O.out.trans ho).then hbb)
    clear hp ho hbb
    go_wp2
    go_ret
    refine ⟨_, 1, 1, _, (L.isEmpty || !nmB (tkOf L)), L.tail, rfl, OW.out, by simpa using PW.out, QW.out, by have := List.length_tail (l := L); omega, ?_⟩
    rw [HPR.out]
    cases L with
    | nil => rfl
    | cons x r =>
      rw [nmE]
      simp only [tkOf, nmB, List.isEmpty_cons, Bool.false_or, List.tail_cons]
      by_cases h1 : x.k = 1
      · by_cases h2 : kwI x.t < 0
        · simp [h1, h2]
        · simp [h1, h2]
      · simp [h1]
end Go.Proofs.YtjneodmohkpckaaGreatDoor
