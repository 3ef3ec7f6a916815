/- The reference's parser: a part, an expression; all four functions. (Printed by mkep.py.) -/
import Derived.Test.YtjneodmohkpckaaGreatDoorEo
namespace Go.Proofs.YtjneodmohkpckaaGreatDoor
open Go.RowKit
set_option linter.unusedVariables false
set_option linter.unusedSimpArgs false
variable {N : Nat}
attribute [local go_sem ↓] Go.wp_at_zero Go.wp_at_succ
set_option maxRecDepth 100000 in
set_option maxHeartbeats 8000000 in
theorem spec_l13And_step {f : Nat} (ih : ∀ g, g < f → RAll N g) : ∀ (w : World) (p : Nat) (L : List TR), RSt N w p false L → 8 * L.length + 3 ≤ f → Calls Tryz.prog 134 #[.pointer (some ⟨p, 0, none⟩)] w (PRr N (prs f .pt L) p L.length w) := by
  intro w p L hP hf
  obtain ⟨g, rfl⟩ : ∃ g, f = g + 1 := ⟨f - 1, by omega⟩
  have IHA := Lib.hid ih
  have HPR := Lib.hid (show prs (g + 1) .pt L = (prs g .fc L).bind fun r => prs g (.la r.1) r.2 from by rw [prs])
  have N8 := hP.n8
  have KF := Lib.hid ((ih g (Nat.lt_succ_self _)).fc w p L hP (by omega))
  have hp0 := hP.lt
  clear ih hP
  go_enter Tryz.func134, Tryz.ntmps134
  go_wp2_with fail
  refine Calls.mono KF.out ?_
  rintro e w1 ⟨a, n, c, ts, bad, R, rfl, hO, hP, hQ, hn, ho⟩
  have O1 := Lib.hid hO
  have P1 := Lib.hid hP
  have Q1 := Lib.hid hQ
  have E1 := Lib.hid (show prs (g + 1) .pt L = (if bad = true then none else prs g (.la ts) R) by
    rw [HPR.out, ho]
    cases bad <;> rfl)
  have hRl : R.length ≤ L.length := by omega
  clear hO hP hQ ho KF HPR
  go_wp2_with fail
  go_loopg [3] L.length (fun gg s3 wr => ∃ (a : Option Addr) (n c fu : Nat) (ts : List TM) (bad : Bool) (R : List TR), s3 = .slice a n c ∧ R.length ≤ gg ∧ R.length ≤ L.length ∧ n + 2 * R.length ≤ 2 * L.length + 1 ∧ 8 * R.length + 2 ≤ fu ∧ fu ≤ g ∧ Hid (OwnTm wr w.heap.size a n c ts) ∧ Hid (RSt N wr p bad R) ∧ Hid (Only p (p + 1) w wr) ∧ Hid (prs (g + 1) .pt L = (if bad = true then none else prs fu (.la ts) R)))
  case atStart => exact ⟨_, _, _, g, ts, bad, R, rfl, hRl, hRl, hn, by omega, Nat.le_refl _, O1, P1, Q1, E1⟩
  case round =>
    clear O1 P1 Q1 E1 hn hRl
    obtain ⟨a, n, c, fu, ts, bad, R, rfl, hgg, hRl, hn, hfu, hfg, O, P, Q, E⟩ := hrel
    obtain ⟨x1, xl⟩ := P.out.bd
    cases bad
    · obtain ⟨fv, rfl⟩ : ∃ fv, fu = fv + 1 := ⟨fu - 1, by omega⟩
      cases hT : isT R [97, 110, 100]
      · have HT := Lib.hid hT
        have E2 := Lib.hid (show prs (g + 1) .pt L = some (ts, R) by
          rw [E.out]
          simp only [Bool.false_eq_true, if_false]
          rw [prs, if_neg (by rw [HT.out]; decide)])
        clear hT E
        have f1 := isT_pk HT.out
        go_wp2_with fail
        refine Calls.mono (spec_l13Peek P.out) ?_
        rintro e w2 ⟨rfl, hb⟩
        have P2 := Lib.hid (P.out.keep hb)
        have Q2 := Lib.hid (Q.out.then hb)
        have O2 := Lib.hid (O.out.keep hb)
        clear hb P Q O
        go_wp2
        go_ret
        exact ⟨a, n, c, ts, false, R, rfl, O2.out, P2.out, Q2.out, hn, by rw [E2.out]; rfl⟩
      · have HT := Lib.hid hT
        have hlen := isT_len (by decide) hT
        have E2 := Lib.hid (show prs (g + 1) .pt L = (prs fv .fc R.tail).bind fun r => prs fv (.la (ts ++ r.1 ++ [tmK 5])) r.2 by
          rw [E.out]
          simp only [Bool.false_eq_true, if_false]
          rw [prs, if_pos HT.out])
        clear hT E
        have f1 := isT_pk HT.out
        go_wp2_with fail
        refine Calls.mono (spec_l13Peek P.out) ?_
        rintro e w1 ⟨rfl, hb⟩
        replace P := Lib.hid (P.out.keep hb)
        replace O := Lib.hid (O.out.keep hb)
        replace Q := Lib.hid (Q.out.then hb)
        obtain ⟨ta, tn, tc, kk0, L0, h1⟩ := P.out
        have a1 := h1.x.cell 1
        have al := h1.x.lt
        have af := h1.x.free
        simp only [List.getElem?_toArray, List.getElem?_cons_zero, List.getElem?_cons_succ] at a1
        have hk8 : kk0 ≤ 800 := by have := h1.n8; have := h1.kn; omega
        have ek : IntKind.i64.wrap ((kk0 : Int) + 1) = (kk0 : Int) + 1 := IntWalk.i64_in _ (by omega)
        have P2 := Lib.hid (show RSt N (w1.setCell ⟨p, 1, none⟩ (.int .i64 ((kk0 : Int) + 1))) p false R.tail from ⟨ta, tn, tc, kk0 + 1, L0, h1.adv (by intro e; rw [e] at hlen; simp at hlen)⟩)
        have Q2 := Lib.hid (Q.out.trans (only_p 1 (.int .i64 ((kk0 : Int) + 1))))
        have O2 := Lib.hid (O.out.only (only_p (p := p) (w := w1) 1 (.int .i64 ((kk0 : Int) + 1))) (fun g e => .inr (by have := (O.out.blk g e).1; omega)))
        clear h1 hb P Q O x1
        go_upto_region 4 with fail
        obtain ⟨w2, hw2⟩ : ∃ v, v = w1.setCell ⟨p, 1, none⟩ (.int .i64 ((kk0 : Int) + 1)) := ⟨_, rfl⟩
        rw [← hw2] at P2 O2 Q2 ⊢
        have KF := Lib.hid ((IHA.out fv (by omega)).fc w2 p R.tail P2.out (by omega))
        clear hw2 a1 al af
        go_wp2_with fail
        refine Calls.mono KF.out ?_
        rintro e w3 ⟨a3, n3, c3, ts3, bad3, R3, rfl, hO, hP, hQ, hn3, ho⟩
        have hs2 := Q2.out.size
        have hs3 := hQ.size
        have O3 := Lib.hid hO
        have P3 := Lib.hid hP
        have Q3 := Lib.hid (Q2.out.trans hQ)
        have O3a := Lib.hid (O2.out.only hQ (fun g e => .inr (by have := (O2.out.blk g e).1; omega)))
        have E3 := Lib.hid (show prs (g + 1) .pt L = (if bad3 = true then none else prs fv (.la (ts ++ ts3 ++ [tmK 5])) R3) by
          rw [E2.out, ho]
          cases bad3 <;> rfl)
        clear hO hP hQ ho KF P2 Q2 O2 E2
        have hnn : n ≤ 3000 ∧ n3 ≤ 3000 := by omega
        go_wp2_with (at_builtin; refine appendL_F (k := 3) (enc := TM.enc) (ok := fun _ => True) rfl _ _ 45 55 rfl Tryz.underlying45 Tryz.infoTerm rfl (by decide) (by decide) TM.one w.heap.size _ _ _ _ O3a.out rfl _ _ _ _ rfl O3.out.flats (by omega) (by omega) (by omega) ?_; intro a5 c5 w5 ho5 hb5 hg5 hn5; refine Hid.out ?_)
        have O5 := Lib.hid ho5
        have P5 := Lib.hid (P3.out.keepB hb5 hp0)
        have Q5 := Lib.hid (Q3.out.thenB hb5 (Nat.le_refl _))
        have hs5 := hb5.size
        clear ho5 hb5 hg5 hn5 O3 O3a P3 Q3
        refine Lib.hid ?_
        have hb6 : Below w5.heap.size w5 (w5.alloc (.cells #[.int .i64 5, .string ⟨#[]⟩, .int .i64 0] 55)) := below_alloc1 (Below.refl _ _) _
        go_wp2_with (at_builtin; refine appendL_F (k := 3) (enc := TM.enc) (ok := fun _ => True) rfl _ _ 45 55 rfl Tryz.underlying45 Tryz.infoTerm rfl (by decide) (by decide) TM.one w.heap.size _ _ _ _ (O5.out.keep hb6) rfl _ _ _ _ rfl (OwnTm.lit w5 (tmK 5) #[.int .i64 5, .string ⟨#[]⟩, .int .i64 0] rfl).flats (by omega) (by decide) (by simp; omega) ?_; intro a7 c7 w7 ho7 hb7 hg7 hn7; refine Hid.out ?_)
        have O7 := Lib.hid ho7
        have P7 := Lib.hid ((P5.out.keep hb6).keepB hb7 hp0)
        have Q7 := Lib.hid ((Q5.out.then hb6).thenB hb7 (Nat.le_refl _))
        clear ho7 hb7 hg7 hn7 hb6 O5 P5 Q5
        refine Lib.hid ?_
        go_wp2_with fail
        go_roundg R3.length
        case measure => omega
        case rel => exact ⟨a7, n + n3 + 1, c7, fv, _, bad3, R3, rfl, Nat.le_refl _, by omega, by omega, by omega, by omega, O7, P7, Q7, E3⟩
    · go_wp2
      go_ret
      exact ⟨a, n, c, ts, true, R, rfl, O.out, P.out, Q.out, hn, by rw [E.out]; rfl⟩
set_option maxRecDepth 100000 in
set_option maxHeartbeats 8000000 in
theorem spec_l13Or_step {f : Nat} (ih : ∀ g, g < f → RAll N g) : ∀ (w : World) (p : Nat) (L : List TR), RSt N w p false L → 8 * L.length + 5 ≤ f → Calls Tryz.prog 83 #[.pointer (some ⟨p, 0, none⟩)] w (PRr N (prs f .ex L) p L.length w) := by
  intro w p L hP hf
  obtain ⟨g, rfl⟩ : ∃ g, f = g + 1 := ⟨f - 1, by omega⟩
  have IHA := Lib.hid ih
  have HPR := Lib.hid (show prs (g + 1) .ex L = (prs g .pt L).bind fun r => prs g (.lo r.1) r.2 from by rw [prs])
  have N8 := hP.n8
  have KF := Lib.hid ((ih g (Nat.lt_succ_self _)).pt w p L hP (by omega))
  have hp0 := hP.lt
  clear ih hP
  go_enter Tryz.func83, Tryz.ntmps83
  go_wp2_with fail
  refine Calls.mono KF.out ?_
  rintro e w1 ⟨a, n, c, ts, bad, R, rfl, hO, hP, hQ, hn, ho⟩
  have O1 := Lib.hid hO
  have P1 := Lib.hid hP
  have Q1 := Lib.hid hQ
  have E1 := Lib.hid (show prs (g + 1) .ex L = (if bad = true then none else prs g (.lo ts) R) by
    rw [HPR.out, ho]
    cases bad <;> rfl)
  have hRl : R.length ≤ L.length := by omega
  clear hO hP hQ ho KF HPR
  go_wp2_with fail
  go_loopg [3] L.length (fun gg s3 wr => ∃ (a : Option Addr) (n c fu : Nat) (ts : List TM) (bad : Bool) (R : List TR), s3 = .slice a n c ∧ R.length ≤ gg ∧ R.length ≤ L.length ∧ n + 2 * R.length ≤ 2 * L.length + 1 ∧ 8 * R.length + 4 ≤ fu ∧ fu ≤ g ∧ Hid (OwnTm wr w.heap.size a n c ts) ∧ Hid (RSt N wr p bad R) ∧ Hid (Only p (p + 1) w wr) ∧ Hid (prs (g + 1) .ex L = (if bad = true then none else prs fu (.lo ts) R)))
  case atStart => exact ⟨_, _, _, g, ts, bad, R, rfl, hRl, hRl, hn, by omega, Nat.le_refl _, O1, P1, Q1, E1⟩
  case round =>
    clear O1 P1 Q1 E1 hn hRl
    obtain ⟨a, n, c, fu, ts, bad, R, rfl, hgg, hRl, hn, hfu, hfg, O, P, Q, E⟩ := hrel
    obtain ⟨x1, xl⟩ := P.out.bd
    cases bad
    · obtain ⟨fv, rfl⟩ : ∃ fv, fu = fv + 1 := ⟨fu - 1, by omega⟩
      cases hT : isT R [111, 114]
      · have HT := Lib.hid hT
        have E2 := Lib.hid (show prs (g + 1) .ex L = some (ts, R) by
          rw [E.out]
          simp only [Bool.false_eq_true, if_false]
          rw [prs, if_neg (by rw [HT.out]; decide)])
        clear hT E
        have f1 := isT_pk HT.out
        go_wp2_with fail
        refine Calls.mono (spec_l13Peek P.out) ?_
        rintro e w2 ⟨rfl, hb⟩
        have P2 := Lib.hid (P.out.keep hb)
        have Q2 := Lib.hid (Q.out.then hb)
        have O2 := Lib.hid (O.out.keep hb)
        clear hb P Q O
        go_wp2
        go_ret
        exact ⟨a, n, c, ts, false, R, rfl, O2.out, P2.out, Q2.out, hn, by rw [E2.out]; rfl⟩
      · have HT := Lib.hid hT
        have hlen := isT_len (by decide) hT
        have E2 := Lib.hid (show prs (g + 1) .ex L = (prs fv .pt R.tail).bind fun r => prs fv (.lo (ts ++ r.1 ++ [tmK 6])) r.2 by
          rw [E.out]
          simp only [Bool.false_eq_true, if_false]
          rw [prs, if_pos HT.out])
        clear hT E
        have f1 := isT_pk HT.out
        go_wp2_with fail
        refine Calls.mono (spec_l13Peek P.out) ?_
        rintro e w1 ⟨rfl, hb⟩
        replace P := Lib.hid (P.out.keep hb)
        replace O := Lib.hid (O.out.keep hb)
        replace Q := Lib.hid (Q.out.then hb)
        obtain ⟨ta, tn, tc, kk0, L0, h1⟩ := P.out
        have a1 := h1.x.cell 1
        have al := h1.x.lt
        have af := h1.x.free
        simp only [List.getElem?_toArray, List.getElem?_cons_zero, List.getElem?_cons_succ] at a1
        have hk8 : kk0 ≤ 800 := by have := h1.n8; have := h1.kn; omega
        have ek : IntKind.i64.wrap ((kk0 : Int) + 1) = (kk0 : Int) + 1 := IntWalk.i64_in _ (by omega)
        have P2 := Lib.hid (show RSt N (w1.setCell ⟨p, 1, none⟩ (.int .i64 ((kk0 : Int) + 1))) p false R.tail from ⟨ta, tn, tc, kk0 + 1, L0, h1.adv (by intro e; rw [e] at hlen; simp at hlen)⟩)
        have Q2 := Lib.hid (Q.out.trans (only_p 1 (.int .i64 ((kk0 : Int) + 1))))
        have O2 := Lib.hid (O.out.only (only_p (p := p) (w := w1) 1 (.int .i64 ((kk0 : Int) + 1))) (fun g e => .inr (by have := (O.out.blk g e).1; omega)))
        clear h1 hb P Q O x1
        go_upto_region 4 with fail
        obtain ⟨w2, hw2⟩ : ∃ v, v = w1.setCell ⟨p, 1, none⟩ (.int .i64 ((kk0 : Int) + 1)) := ⟨_, rfl⟩
        rw [← hw2] at P2 O2 Q2 ⊢
        have KF := Lib.hid ((IHA.out fv (by omega)).pt w2 p R.tail P2.out (by omega))
        clear hw2 a1 al af
        go_wp2_with fail
        refine Calls.mono KF.out ?_
        rintro e w3 ⟨a3, n3, c3, ts3, bad3, R3, rfl, hO, hP, hQ, hn3, ho⟩
        have hs2 := Q2.out.size
        have hs3 := hQ.size
        have O3 := Lib.hid hO
        have P3 := Lib.hid hP
        have Q3 := Lib.hid (Q2.out.trans hQ)
        have O3a := Lib.hid (O2.out.only hQ (fun g e => .inr (by have := (O2.out.blk g e).1; omega)))
        have E3 := Lib.hid (show prs (g + 1) .ex L = (if bad3 = true then none else prs fv (.lo (ts ++ ts3 ++ [tmK 6])) R3) by
          rw [E2.out, ho]
          cases bad3 <;> rfl)
        clear hO hP hQ ho KF P2 Q2 O2 E2
        have hnn : n ≤ 3000 ∧ n3 ≤ 3000 := by omega
        go_wp2_with (at_builtin; refine appendL_F (k := 3) (enc := TM.enc) (ok := fun _ => True) rfl _ _ 45 55 rfl Tryz.underlying45 Tryz.infoTerm rfl (by decide) (by decide) TM.one w.heap.size _ _ _ _ O3a.out rfl _ _ _ _ rfl O3.out.flats (by omega) (by omega) (by omega) ?_; intro a5 c5 w5 ho5 hb5 hg5 hn5; refine Hid.out ?_)
        have O5 := Lib.hid ho5
        have P5 := Lib.hid (P3.out.keepB hb5 hp0)
        have Q5 := Lib.hid (Q3.out.thenB hb5 (Nat.le_refl _))
        have hs5 := hb5.size
        clear ho5 hb5 hg5 hn5 O3 O3a P3 Q3
        refine Lib.hid ?_
        have hb6 : Below w5.heap.size w5 (w5.alloc (.cells #[.int .i64 6, .string ⟨#[]⟩, .int .i64 0] 55)) := below_alloc1 (Below.refl _ _) _
        go_wp2_with (at_builtin; refine appendL_F (k := 3) (enc := TM.enc) (ok := fun _ => True) rfl _ _ 45 55 rfl Tryz.underlying45 Tryz.infoTerm rfl (by decide) (by decide) TM.one w.heap.size _ _ _ _ (O5.out.keep hb6) rfl _ _ _ _ rfl (OwnTm.lit w5 (tmK 6) #[.int .i64 6, .string ⟨#[]⟩, .int .i64 0] rfl).flats (by omega) (by decide) (by simp; omega) ?_; intro a7 c7 w7 ho7 hb7 hg7 hn7; refine Hid.out ?_)
        have O7 := Lib.hid ho7
        have P7 := Lib.hid ((P5.out.keep hb6).keepB hb7 hp0)
        have Q7 := Lib.hid ((Q5.out.then hb6).thenB hb7 (Nat.le_refl _))
        clear ho7 hb7 hg7 hn7 hb6 O5 P5 Q5
        refine Lib.hid ?_
        go_wp2_with fail
        go_roundg R3.length
        case measure => omega
        case rel => exact ⟨a7, n + n3 + 1, c7, fv, _, bad3, R3, rfl, Nat.le_refl _, by omega, by omega, by omega, by omega, O7, P7, Q7, E3⟩
    · go_wp2
      go_ret
      exact ⟨a, n, c, ts, true, R, rfl, O.out, P.out, Q.out, hn, by rw [E.out]; rfl⟩
theorem spec_all : ∀ f, RAll N f := fun f => by
  induction f using Nat.strongRecOn with
  | _ f ih => exact ⟨spec_l13Factor_step ih, spec_l13And_step ih, spec_l13Or_step ih, spec_l13Block_step ih⟩
end Go.Proofs.YtjneodmohkpckaaGreatDoor
