/- The reference's parser: a factor, walked. (Printed by mken.py.) -/
import Derived.Test.YtjneodmohkpckaaGreatDoorY6
namespace Go.Proofs.YtjneodmohkpckaaGreatDoor
open Go.RowKit
set_option linter.unusedVariables false
set_option linter.unusedSimpArgs false
variable {N : Nat}
attribute [local go_sem ↓] Go.wp_at_zero Go.wp_at_succ
/-- what a function of the reference's parser leaves -/
def PRr (N : Nat) (o : Option (List TM × List TR)) (p m : Nat) (w : World) (e : Ending) (w' : World) : Prop := ∃ (a : Option Addr) (n c : Nat) (ts : List TM) (bad : Bool) (L : List TR), e = .returned (.slice a n c) ∧ OwnTm w' w.heap.size a n c ts ∧ RSt N w' p bad L ∧ Only p (p + 1) w w' ∧ n + 2 * L.length ≤ 2 * m + 1 ∧ o = (if bad = true then none else some (ts, L))
/-- the four functions at a number of steps -/
structure RAll (N : Nat) (f : Nat) : Prop where
  fc : ∀ (w : World) (p : Nat) (L : List TR), RSt N w p false L → 8 * L.length + 1 ≤ f → Calls Tryz.prog 163 #[.pointer (some ⟨p, 0, none⟩)] w (PRr N (prs f .fc L) p L.length w)
  pt : ∀ (w : World) (p : Nat) (L : List TR), RSt N w p false L → 8 * L.length + 3 ≤ f → Calls Tryz.prog 134 #[.pointer (some ⟨p, 0, none⟩)] w (PRr N (prs f .pt L) p L.length w)
  ex : ∀ (w : World) (p : Nat) (L : List TR), RSt N w p false L → 8 * L.length + 5 ≤ f → Calls Tryz.prog 83 #[.pointer (some ⟨p, 0, none⟩)] w (PRr N (prs f .ex L) p L.length w)
  bl : ∀ (w : World) (p : Nat) (L : List TR) (k : Int), RSt N w p false L → 8 * L.length + 6 ≤ f → 7 ≤ k → k ≤ 12 → Calls Tryz.prog 179 #[.pointer (some ⟨p, 0, none⟩), .int .i64 k] w (PRr N (prs f (.bl k) L) p L.length w)
theorem isT_pk {L : List TR} {t : List UInt8} {q : Bool} (h : isT L t = q) : ((pkT L).toList == t) = q := by
  have h1 := str_eq (a := pkT L) (b := ⟨t.toArray⟩)
  have h2 : (⟨t.toArray⟩ : ByteArray).toList = t := by simp
  rw [h2] at h1
  rw [h1, ← h, isT]
theorem spec_l13Factor_bad {p : Nat} {L : List TR} {w : World} (h : RSt N w p true L) : Calls Tryz.prog 163 #[.pointer (some ⟨p, 0, none⟩)] w fun e w' => e = .returned (.slice none 0 0) ∧ w = w' := by
  obtain ⟨x1, xl⟩ := h.bd
  clear h
  go_enter Tryz.func163, Tryz.ntmps163
  go_wp2
  go_ret
  exact ⟨rfl, rfl⟩
theorem spec_l13And_bad {p : Nat} {L : List TR} {w : World} (h : RSt N w p true L) : Calls Tryz.prog 134 #[.pointer (some ⟨p, 0, none⟩)] w fun e w' => e = .returned (.slice none 0 0) ∧ w = w' := by
  obtain ⟨x1, xl⟩ := h.bd
  have H := Lib.hid (spec_l13Factor_bad h)
  clear h
  go_enter Tryz.func134, Tryz.ntmps134
  go_wp2_with fail
  refine Calls.mono (H.out) ?_
  rintro e _ ⟨rfl, rfl⟩
  go_wp2_with fail
  go_loop [3] (fun s3 => s3 = .slice none 0 0) (fun s3 => 0)
  case atStart => rfl
  case round =>
    obtain rfl := hrel
    go_wp2
    go_ret
    exact ⟨rfl, rfl⟩
theorem spec_l13Or_bad {p : Nat} {L : List TR} {w : World} (h : RSt N w p true L) : Calls Tryz.prog 83 #[.pointer (some ⟨p, 0, none⟩)] w fun e w' => e = .returned (.slice none 0 0) ∧ w = w' := by
  obtain ⟨x1, xl⟩ := h.bd
  have H := Lib.hid (spec_l13And_bad h)
  clear h
  go_enter Tryz.func83, Tryz.ntmps83
  go_wp2_with fail
  refine Calls.mono (H.out) ?_
  rintro e _ ⟨rfl, rfl⟩
  go_wp2_with fail
  go_loop [3] (fun s3 => s3 = .slice none 0 0) (fun s3 => 0)
  case atStart => rfl
  case round =>
    obtain rfl := hrel
    go_wp2
    go_ret
    exact ⟨rfl, rfl⟩
set_option maxRecDepth 100000 in
set_option maxHeartbeats 8000000 in
theorem spec_l13Factor_step {f : Nat} (ih : ∀ g, g < f → RAll N g) : ∀ (w : World) (p : Nat) (L : List TR), RSt N w p false L → 8 * L.length + 1 ≤ f → Calls Tryz.prog 163 #[.pointer (some ⟨p, 0, none⟩)] w (PRr N (prs f .fc L) p L.length w) := by
  intro w p L hP hf
  obtain ⟨g, rfl⟩ : ∃ g, f = g + 1 := ⟨f - 1, by omega⟩
  have IH := Lib.hid (ih g (Nat.lt_succ_self _))
  have HPR := Lib.hid (show prs (g + 1) .fc L = _ from by rw [prs])
  obtain ⟨x1, xl⟩ := hP.bd
  have P := Lib.hid hP
  have O := Lib.hid (Only.refl p (p + 1) w)
  have N8 := Lib.hid hP.n8
  have TKL := Lib.hid hP.tk
  clear ih hP

  cases h1 : isT L [116, 114, 117, 101]
  rotate_left
  · have HT1 := Lib.hid h1
    have hlen := isT_len (by decide) h1
    have hpr := HPR.out
    rw [if_pos HT1.out] at hpr
    replace HPR := Lib.hid hpr
    clear hpr h1
    have HT3 := Lib.hid (show isT L [110, 111, 116] = false by
      have h9 := HT1.out
      rw [isT, decide_eq_true_eq] at h9
      rw [isT, h9]; decide)
    have HT4 := Lib.hid (show isT L [40] = false by
      have h9 := HT1.out
      rw [isT, decide_eq_true_eq] at h9
      rw [isT, h9]; decide)
    go_enter Tryz.func163, Tryz.ntmps163
    go_wp2_with fail
    refine Calls.mono (spec_l13Peek P.out) ?_
    rintro e w1 ⟨rfl, hb⟩
    replace P := Lib.hid (P.out.keep hb)
    replace O := Lib.hid (O.out.then hb)
    clear hb
    have f3 := isT_pk HT3.out
    have f4 := isT_pk HT4.out
    have f1 := isT_pk HT1.out
    obtain ⟨ta, tn, tc, kk0, L0, h1⟩ := P.out
    have a1 := h1.x.cell 1
    have al := h1.x.lt
    have af := h1.x.free
    simp only [List.getElem?_toArray, List.getElem?_cons_zero, List.getElem?_cons_succ] at a1
    have hk8 : kk0 ≤ 800 := by have := h1.n8; have := h1.kn; omega
    have ek : IntKind.i64.wrap ((kk0 : Int) + 1) = (kk0 : Int) + 1 := IntWalk.i64_in _ (by omega)
    have P2 := Lib.hid (show RSt N (w1.setCell ⟨p, 1, none⟩ (.int .i64 ((kk0 : Int) + 1))) p false L.tail from ⟨ta, tn, tc, kk0 + 1, L0, h1.adv (by intro e; rw [e] at hlen; simp at hlen)⟩)
    have O2 := Lib.hid (O.out.trans (only_p 1 (.int .i64 ((kk0 : Int) + 1))))
    clear h1 P O
    go_upto_region 14 with fail
    obtain ⟨w2, hw2⟩ : ∃ v, v = w1.setCell ⟨p, 1, none⟩ (.int .i64 ((kk0 : Int) + 1)) := ⟨_, rfl⟩
    rw [← hw2] at P2 O2 ⊢
    clear hw2 a1 al af
    have hbb : Below w2.heap.size w2 (w2.alloc (.cells #[.int .i64 2, .string ⟨#[]⟩, .int .i64 0] 55)) := below_alloc1 (Below.refl _ _) _
    have OW := Lib.hid ((OwnTm.lit w2 (tmK 2) #[.int .i64 2, .string ⟨#[]⟩, .int .i64 0] rfl).le O2.out.size)
    have PW := Lib.hid (P2.out.keep hbb)
    have QW := Lib.hid (O2.out.then hbb)
    clear hbb
    go_wp2
    go_ret
    exact ⟨_, 1, 1, _, false, _, rfl, OW.out, PW.out, QW.out, by omega, HPR.out⟩
  have HT1 := Lib.hid h1
  clear h1
  cases h2 : isT L [102, 97, 108, 115, 101]
  rotate_left
  · have HT2 := Lib.hid h2
    have hlen := isT_len (by decide) h2
    have hpr := HPR.out
    rw [if_neg (by rw [HT1.out]; decide)] at hpr
    rw [if_pos HT2.out] at hpr
    replace HPR := Lib.hid hpr
    clear hpr h2
    have HT3 := Lib.hid (show isT L [110, 111, 116] = false by
      have h9 := HT2.out
      rw [isT, decide_eq_true_eq] at h9
      rw [isT, h9]; decide)
    have HT4 := Lib.hid (show isT L [40] = false by
      have h9 := HT2.out
      rw [isT, decide_eq_true_eq] at h9
      rw [isT, h9]; decide)
    go_enter Tryz.func163, Tryz.ntmps163
    go_wp2_with fail
    refine Calls.mono (spec_l13Peek P.out) ?_
    rintro e w1 ⟨rfl, hb⟩
    replace P := Lib.hid (P.out.keep hb)
    replace O := Lib.hid (O.out.then hb)
    clear hb
    have f3 := isT_pk HT3.out
    have f4 := isT_pk HT4.out
    have f1 := isT_pk HT1.out
    have f2 := isT_pk HT2.out
    obtain ⟨ta, tn, tc, kk0, L0, h1⟩ := P.out
    have a1 := h1.x.cell 1
    have al := h1.x.lt
    have af := h1.x.free
    simp only [List.getElem?_toArray, List.getElem?_cons_zero, List.getElem?_cons_succ] at a1
    have hk8 : kk0 ≤ 800 := by have := h1.n8; have := h1.kn; omega
    have ek : IntKind.i64.wrap ((kk0 : Int) + 1) = (kk0 : Int) + 1 := IntWalk.i64_in _ (by omega)
    have P2 := Lib.hid (show RSt N (w1.setCell ⟨p, 1, none⟩ (.int .i64 ((kk0 : Int) + 1))) p false L.tail from ⟨ta, tn, tc, kk0 + 1, L0, h1.adv (by intro e; rw [e] at hlen; simp at hlen)⟩)
    have O2 := Lib.hid (O.out.trans (only_p 1 (.int .i64 ((kk0 : Int) + 1))))
    clear h1 P O
    go_upto_region 17 with fail
    obtain ⟨w2, hw2⟩ : ∃ v, v = w1.setCell ⟨p, 1, none⟩ (.int .i64 ((kk0 : Int) + 1)) := ⟨_, rfl⟩
    rw [← hw2] at P2 O2 ⊢
    clear hw2 a1 al af
    have hbb : Below w2.heap.size w2 (w2.alloc (.cells #[.int .i64 3, .string ⟨#[]⟩, .int .i64 0] 55)) := below_alloc1 (Below.refl _ _) _
    have OW := Lib.hid ((OwnTm.lit w2 (tmK 3) #[.int .i64 3, .string ⟨#[]⟩, .int .i64 0] rfl).le O2.out.size)
    have PW := Lib.hid (P2.out.keep hbb)
    have QW := Lib.hid (O2.out.then hbb)
    clear hbb
    go_wp2
    go_ret
    exact ⟨_, 1, 1, _, false, _, rfl, OW.out, PW.out, QW.out, by omega, HPR.out⟩
  have HT2 := Lib.hid h2
  clear h2
  cases h3 : isT L [110, 111, 116]
  rotate_left
  · have HT3 := Lib.hid h3
    have hlen := isT_len (by decide) h3
    have hpr := HPR.out
    rw [if_neg (by rw [HT1.out]; decide)] at hpr
    rw [if_neg (by rw [HT2.out]; decide)] at hpr
    rw [if_pos HT3.out] at hpr
    replace HPR := Lib.hid hpr
    clear hpr h3
    go_enter Tryz.func163, Tryz.ntmps163
    go_wp2_with fail
    refine Calls.mono (spec_l13Peek P.out) ?_
    rintro e w1 ⟨rfl, hb⟩
    replace P := Lib.hid (P.out.keep hb)
    replace O := Lib.hid (O.out.then hb)
    clear hb
    have f3 := isT_pk HT3.out
    obtain ⟨ta, tn, tc, kk0, L0, h1⟩ := P.out
    have a1 := h1.x.cell 1
    have al := h1.x.lt
    have af := h1.x.free
    simp only [List.getElem?_toArray, List.getElem?_cons_zero, List.getElem?_cons_succ] at a1
    have hk8 : kk0 ≤ 800 := by have := h1.n8; have := h1.kn; omega
    have ek : IntKind.i64.wrap ((kk0 : Int) + 1) = (kk0 : Int) + 1 := IntWalk.i64_in _ (by omega)
    have P2 := Lib.hid (show RSt N (w1.setCell ⟨p, 1, none⟩ (.int .i64 ((kk0 : Int) + 1))) p false L.tail from ⟨ta, tn, tc, kk0 + 1, L0, h1.adv (by intro e; rw [e] at hlen; simp at hlen)⟩)
    have O2 := Lib.hid (O.out.trans (only_p 1 (.int .i64 ((kk0 : Int) + 1))))
    clear h1 P O
    go_upto_region 6 with fail
    obtain ⟨w2, hw2⟩ : ∃ v, v = w1.setCell ⟨p, 1, none⟩ (.int .i64 ((kk0 : Int) + 1)) := ⟨_, rfl⟩
    rw [← hw2] at P2 O2 ⊢
    clear hw2 a1 al af
    go_wp2_with fail
    refine Calls.mono (IH.out.fc w2 p L.tail P2.out (by omega)) ?_
    rintro e wA ⟨a, n, c, ts, bad, R, rfl, hO, hP, hQ, hn, ho⟩
    have hb0 : Below wA.heap.size wA (wA.alloc (.cells #[.int .i64 4, .string ⟨#[]⟩, .int .i64 0] 55)) := below_alloc1 (Below.refl _ _) _
    have OW := Lib.hid hO
    have PW := Lib.hid hP
    have QW := Lib.hid (O2.out.trans hQ)
    have hs9 := O2.out.size
    have hsA := hQ.size
    have hp9 := P2.out.lt
    have N9 := N8.out
    have HO := Lib.hid ho
    clear hO hP hQ ho
    go_wp2_with (at_builtin; refine appendL_F (k := 3) (enc := TM.enc) (ok := fun _ => True) rfl _ _ 45 55 rfl Tryz.underlying45 Tryz.infoTerm rfl (by decide) (by decide) TM.one w2.heap.size _ _ _ _ (OW.out.keep hb0) rfl _ _ _ _ rfl (OwnTm.lit wA (tmK 4) #[.int .i64 4, .string ⟨#[]⟩, .int .i64 0] rfl).flats (by omega) (by decide) (by simp; omega) ?_; intro a4 c4 w4 ho4 hb4 hg4 hn4; refine Hid.out ?_)
    have PF := Lib.hid ((PW.out.keep hb0).keepB hb4 hp9)
    have QF := Lib.hid ((QW.out.then hb0).thenB hb4 hs9)
    have OF := Lib.hid (ho4.le hs9)
    clear ho4 hb4 hg4 hn4 hb0
    refine Lib.hid ?_
    go_wp2
    go_ret
    refine ⟨a4, n + 1, c4, ts ++ [tmK 4], bad, R, rfl, OF.out, PF.out, QF.out, by omega, ?_⟩
    rw [HPR.out, HO.out]
    cases bad <;> rfl
  have HT3 := Lib.hid h3
  clear h3
  cases h4 : isT L [40]
  rotate_left
  · have HT4 := Lib.hid h4
    have hlen := isT_len (by decide) h4
    have hpr := HPR.out
    rw [if_neg (by rw [HT1.out]; decide)] at hpr
    rw [if_neg (by rw [HT2.out]; decide)] at hpr
    rw [if_neg (by rw [HT3.out]; decide)] at hpr
    rw [if_pos HT4.out] at hpr
    replace HPR := Lib.hid hpr
    clear hpr h4
    go_enter Tryz.func163, Tryz.ntmps163
    go_wp2_with fail
    refine Calls.mono (spec_l13Peek P.out) ?_
    rintro e w1 ⟨rfl, hb⟩
    replace P := Lib.hid (P.out.keep hb)
    replace O := Lib.hid (O.out.then hb)
    clear hb
    have f3 := isT_pk HT3.out
    have f4 := isT_pk HT4.out
    obtain ⟨ta, tn, tc, kk0, L0, h1⟩ := P.out
    have a1 := h1.x.cell 1
    have al := h1.x.lt
    have af := h1.x.free
    simp only [List.getElem?_toArray, List.getElem?_cons_zero, List.getElem?_cons_succ] at a1
    have hk8 : kk0 ≤ 800 := by have := h1.n8; have := h1.kn; omega
    have ek : IntKind.i64.wrap ((kk0 : Int) + 1) = (kk0 : Int) + 1 := IntWalk.i64_in _ (by omega)
    have P2 := Lib.hid (show RSt N (w1.setCell ⟨p, 1, none⟩ (.int .i64 ((kk0 : Int) + 1))) p false L.tail from ⟨ta, tn, tc, kk0 + 1, L0, h1.adv (by intro e; rw [e] at hlen; simp at hlen)⟩)
    have O2 := Lib.hid (O.out.trans (only_p 1 (.int .i64 ((kk0 : Int) + 1))))
    clear h1 P O
    go_upto_region 9 with fail
    obtain ⟨w2, hw2⟩ : ∃ v, v = w1.setCell ⟨p, 1, none⟩ (.int .i64 ((kk0 : Int) + 1)) := ⟨_, rfl⟩
    rw [← hw2] at P2 O2 ⊢
    clear hw2 a1 al af
    go_wp2_with fail
    refine Calls.mono (IH.out.ex w2 p L.tail P2.out (by omega)) ?_
    rintro e wA ⟨a, n, c, ts, bad, R, rfl, hO, hP, hQ, hn, ho⟩
    have hs9 := O2.out.size
    have hsA := hQ.size
    have hp9 := P2.out.lt
    have OW := Lib.hid hO
    have QW := Lib.hid (O2.out.trans hQ)
    have PW := Lib.hid hP
    have HO := Lib.hid ho
    clear hO hP hQ ho
    go_wp2_with fail
    refine Calls.mono (spec_l13WantL (t := [41]) PW.out (by decide)) ?_
    rintro e wB ⟨⟨v, rfl⟩, hp, ho⟩
    have PF := Lib.hid hp
    have QF := Lib.hid (QW.out.trans ho)
    have OF := Lib.hid ((OW.out.only ho (fun g e => .inr (by have := (OW.out.blk g e).1; omega))).le hs9)
    have hel := exL_len R [41]
    clear hp ho
    go_wp2
    go_ret
    refine ⟨a, n, c, ts, (bad || !isT R [41]), exL R [41], rfl, OF.out, PF.out, QF.out, by omega, ?_⟩
    rw [HPR.out, HO.out]
    cases bad
    · cases h9 : isT R [41] <;> simp [exL, h9]
    · simp
  have HT4 := Lib.hid h4
  clear h4
  have hpr := HPR.out
  rw [if_neg (by rw [HT1.out]; decide)] at hpr
  rw [if_neg (by rw [HT2.out]; decide)] at hpr
  rw [if_neg (by rw [HT3.out]; decide)] at hpr
  rw [if_neg (by rw [HT4.out]; decide)] at hpr
  replace HPR := Lib.hid hpr
  clear hpr
  by_cases hk : 11 ≤ kwI (pkT L)
  · have hlen := kw_ne hk
    have hhi := kwI_hi (pkT L)
    have hpr := HPR.out
    rw [if_pos hk] at hpr
    replace HPR := Lib.hid hpr
    clear hpr
    obtain ⟨kk, hkk⟩ : ∃ kk, kk = kwI (pkT L) := ⟨_, rfl⟩
    rw [← hkk] at hk hhi HPR
    have HKW := Lib.hid (fun (wx : World) => spec_l12Keyword (s := pkT L) (w := wx))
    rw [← hkk] at HKW
    clear hkk
    go_enter Tryz.func163, Tryz.ntmps163
    go_wp2_with fail
    refine Calls.mono (spec_l13Peek P.out) ?_
    rintro e w1 ⟨rfl, hb⟩
    replace P := Lib.hid (P.out.keep hb)
    replace O := Lib.hid (O.out.then hb)
    clear hb
    have f3 := isT_pk HT3.out
    have f4 := isT_pk HT4.out
    have f1 := isT_pk HT1.out
    have f2 := isT_pk HT2.out
    go_wp2_with fail
    refine Calls.mono (HKW.out _) ?_
    rintro e w9 ⟨rfl, hb⟩
    replace P := Lib.hid (P.out.keep hb)
    replace O := Lib.hid (O.out.then hb)
    clear hb
    obtain ⟨w1', hw1'⟩ : ∃ x : World, x = w1 := ⟨_, rfl⟩
    subst hw1'
    rename_i w0
    obtain ⟨w1, hw1⟩ : ∃ x : World, x = w9 := ⟨_, rfl⟩
    subst hw1
    obtain ⟨ta, tn, tc, kk0, L0, h1⟩ := P.out
    have a1 := h1.x.cell 1
    have al := h1.x.lt
    have af := h1.x.free
    simp only [List.getElem?_toArray, List.getElem?_cons_zero, List.getElem?_cons_succ] at a1
    have hk8 : kk0 ≤ 800 := by have := h1.n8; have := h1.kn; omega
    have ek : IntKind.i64.wrap ((kk0 : Int) + 1) = (kk0 : Int) + 1 := IntWalk.i64_in _ (by omega)
    have P2 := Lib.hid (show RSt N (w1.setCell ⟨p, 1, none⟩ (.int .i64 ((kk0 : Int) + 1))) p false L.tail from ⟨ta, tn, tc, kk0 + 1, L0, h1.adv (by intro e; rw [e] at hlen; simp at hlen)⟩)
    have O2 := Lib.hid (O.out.trans (only_p 1 (.int .i64 ((kk0 : Int) + 1))))
    clear h1 P O
    go_upto_region 20 with fail
    obtain ⟨w2, hw2⟩ : ∃ v, v = w1.setCell ⟨p, 1, none⟩ (.int .i64 ((kk0 : Int) + 1)) := ⟨_, rfl⟩
    rw [← hw2] at P2 O2 ⊢
    clear hw2 a1 al af
    have e6 : IntKind.i64.wrap (kk - 11) = kk - 11 := IntWalk.i64_in _ (by omega)
    have e7 : IntKind.i64.wrap (kk - 11 + 7) = kk - 4 := by rw [IntWalk.i64_in _ (by omega)]; omega
    go_wp2_with fail
    refine Calls.mono (HKW.out _) ?_
    rintro e w3 ⟨rfl, hb⟩
    have P3 := Lib.hid (P2.out.keep hb)
    have O3 := Lib.hid (O2.out.then hb)
    clear hb P2 O2
    go_wp2_with fail
    refine Calls.mono (IH.out.bl w3 p L.tail (kk - 4) P3.out (by omega) (by omega) (by omega)) ?_
    rintro e wA ⟨a, n, c, ts, bad, R, rfl, hO, hP, hQ, hn, ho⟩
    have OF := Lib.hid (hO.le O3.out.size)
    have PF := Lib.hid hP
    have QF := Lib.hid (O3.out.trans hQ)
    have HO := Lib.hid ho
    clear hO hP hQ ho
    go_wp2
    go_ret
    exact ⟨a, n, c, ts, bad, R, rfl, OF.out, PF.out, QF.out, by omega, by rw [HPR.out, HO.out]⟩
  · have hpr := HPR.out
    rw [if_neg hk] at hpr
    replace HPR := Lib.hid hpr
    clear hpr
    obtain ⟨kk, hkk⟩ : ∃ kk, kk = kwI (pkT L) := ⟨_, rfl⟩
    rw [← hkk] at hk
    have HKW := Lib.hid (fun (wx : World) => spec_l12Keyword (s := pkT L) (w := wx))
    rw [← hkk] at HKW
    clear hkk
    go_enter Tryz.func163, Tryz.ntmps163
    go_wp2_with fail
    refine Calls.mono (spec_l13Peek P.out) ?_
    rintro e w1 ⟨rfl, hb⟩
    replace P := Lib.hid (P.out.keep hb)
    replace O := Lib.hid (O.out.then hb)
    clear hb
    have f3 := isT_pk HT3.out
    have f4 := isT_pk HT4.out
    have f1 := isT_pk HT1.out
    have f2 := isT_pk HT2.out
    go_wp2_with fail
    refine Calls.mono (HKW.out _) ?_
    rintro e w9 ⟨rfl, hb⟩
    replace P := Lib.hid (P.out.keep hb)
    replace O := Lib.hid (O.out.then hb)
    clear hb
    go_wp2_with fail
    refine Calls.mono (spec_l13WantName P.out) ?_
    rintro e w5 ⟨rfl, hp, ho⟩
    have HNM := Lib.hid (nam_nmB TKL.out)
    obtain ⟨nq, hnq⟩ : ∃ v, v = namB (pkT L) := ⟨_, rfl⟩
    obtain ⟨tt, htt⟩ : ∃ v, v = (if nq = true then pkT L else ⟨#[]⟩) := ⟨_, rfl⟩
    rw [← hnq] at hp HNM ⊢
    rw [← htt]
    have HTT := Lib.hid htt
    clear hnq htt
    have hbb : Below w5.heap.size w5 (w5.alloc (.cells #[.int .i64 1, .string tt, .int .i64 0] 55)) := below_alloc1 (Below.refl _ _) _
    have OW := Lib.hid ((OwnTm.lit w5 ⟨1, tt, 0⟩ #[.int .i64 1, .string tt, .int .i64 0] rfl).le (O.out.trans ho).size)
    have PW := Lib.hid (hp.keep hbb)
    have QW := Lib.hid ((O.out.trans ho).then hbb)
    clear hp ho hbb
    go_wp2
    go_ret
    refine ⟨_, 1, 1, _, !nq, (if nq = true then L.tail else L), rfl, OW.out, by simpa using PW.out, QW.out, ?_, ?_⟩
    · cases nq
      · simp; omega
      · have hne : L.tail.length + 1 = L.length := by
          have h1 := HNM.out
          cases L with
          | nil => simp at h1
          | cons x r => rfl
        simp only [if_true]; omega
    · rw [HPR.out]
      have h1 := HNM.out
      have h2 := HTT.out
      cases L with
      | nil => simp at h1; subst h1; rfl
      | cons x r =>
        rw [nmE]
        simp only [List.isEmpty_cons, Bool.not_false, Bool.true_and, tkOf, nmB] at h1
        by_cases q1 : x.k = 1
        · by_cases q2 : kwI x.t < 0
          · simp [q1, q2] at h1
            subst h1
            simp only [if_true] at h2
            subst h2
            simp [q1, q2, pkT]
          · simp [q1, q2] at h1
            subst h1
            simp [q1, q2]
        · simp [q1] at h1
          subst h1
          simp [q1]
end Go.Proofs.YtjneodmohkpckaaGreatDoor
