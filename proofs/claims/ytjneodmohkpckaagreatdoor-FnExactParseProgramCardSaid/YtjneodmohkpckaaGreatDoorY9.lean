/- The reference's parser: lists of names, walked.; Is a program written: the reference, walked. -/
import Derived.Test.YtjneodmohkpckaaGreatDoorY4
import Derived.Test.YtjneodmohkpckaaGreatDoorY7
import Derived.Test.YtjneodmohkpckaaGreatDoorY3
namespace Go.Proofs.YtjneodmohkpckaaGreatDoor
open Go.RowKit
set_option linter.unusedVariables false
set_option linter.unusedSimpArgs false
variable {N : Nat}
attribute [local go_sem ↓] Go.wp_at_zero Go.wp_at_succ
/-- what the reference's reader of names leaves -/
def PNr (N : Nat) (o : Option (List ByteArray × List TR)) (p m : Nat) (w : World) (e : Ending) (w' : World) : Prop := ∃ (a : Option Addr) (n c : Nat) (l : List ByteArray) (bad : Bool) (L : List TR), e = .returned (.slice a n c) ∧ OwnSt w' w.heap.size a n c l ∧ RSt N w' p bad L ∧ Only p (p + 1) w w' ∧ n + L.length ≤ m + 2 ∧ L.length ≤ m ∧ o = (if bad = true then none else some (l, L))
theorem nm_tail {L : List TR} {b : Bool} : (if namB (pkT L) = true then L.tail else L).length ≤ L.length ∧ ((b || !namB (pkT L)) = true ∨ (if namB (pkT L) = true then L.tail else L).length + 1 = L.length) := by
  cases h : namB (pkT L)
  · exact ⟨Nat.le_refl _, .inl (by simp)⟩
  · refine ⟨by simp, .inr ?_⟩
    cases L with
    | nil => exact absurd h (by decide +kernel)
    | cons x r => rfl
theorem nm_sz {L : List TR} (h : (pkT L).size ≤ 6000) : (if namB (pkT L) = true then pkT L else (⟨#[]⟩ : ByteArray)).size ≤ 6000 := by
  split
  · exact h
  · decide
set_option maxRecDepth 100000 in
set_option maxHeartbeats 4000000 in
theorem spec_l13List {w : World} {p : Nat} {bad0 : Bool} {L : List TR} (hP : RSt N w p bad0 L) : Calls Tryz.prog 112 #[.pointer (some ⟨p, 0, none⟩)] w (PNr N (if bad0 = true then none else listP L) p L.length w) := by
  have P := Lib.hid hP
  have N8 := hP.n8
  have hp0 := hP.lt
  have HT := Lib.hid (nm_sz hP.szp)
  have HM := Lib.hid (nm_tail (L := L) (b := bad0))
  have HK := Lib.hid hP.tk
  clear hP
  obtain ⟨O, hO⟩ : ∃ o, o = (if bad0 = true then none else listP L) := ⟨_, rfl⟩
  rw [← hO]
  have E0 := Lib.hid (st_nameR (K := fun q => namesP q.2 [q.1]) HK.out hO)
  clear hO HK
  go_enter Tryz.func112, Tryz.ntmps112
  go_wp2_with fail
  refine Calls.mono (spec_l13WantName P.out) ?_
  rintro e w1 ⟨rfl, hp, ho⟩
  obtain ⟨s1, hs1'⟩ : ∃ s, s = (if namB (pkT L) = true then pkT L else (⟨#[]⟩ : ByteArray)) := ⟨_, rfl⟩
  obtain ⟨R1, hR1'⟩ : ∃ s, s = (if namB (pkT L) = true then L.tail else L) := ⟨_, rfl⟩
  obtain ⟨bad1, hbad1⟩ : ∃ b, b = (bad0 || !namB (pkT L)) := ⟨_, rfl⟩
  rw [← hs1', ← hR1', ← hbad1] at E0
  rw [← hR1', ← hbad1] at hp
  rw [← hR1', ← hbad1] at HM
  rw [← hs1'] at HT ⊢
  have hs1 := ho.size
  have hb2 : Below w1.heap.size w1 (w1.alloc (.cells #[.string s1] 9)) := below_alloc1 (Below.refl _ _) _
  have O2 := Lib.hid (OwnSt.lit w1 w.heap.size s1 hs1 (by have := HT.out; omega))
  have P2 := Lib.hid (hp.keep hb2)
  have Q2 := Lib.hid (ho.then hb2)
  obtain ⟨hL1, hL2⟩ := HM.out
  clear hp ho hb2 HT P hs1' hR1' hbad1 HM
  obtain ⟨wA, hwA⟩ : ∃ v, v = w1.alloc (.cells #[.string s1] 9) := ⟨_, rfl⟩
  have E1 := Lib.hid (show O = if bad1 = true then none else namesP R1 [s1] from E0.out)
  rw [← hwA] at O2 P2 Q2
  clear E0
  go_upto_region 2 with fail
  go_loopg [3] (L.length + 1) (fun gg s3 wr => ∃ (a : Option Addr) (n c : Nat) (l : List ByteArray) (bad : Bool) (R : List TR), s3 = .slice a n c ∧ R.length + (if bad = true then 0 else 1) ≤ gg ∧ R.length ≤ L.length ∧ n + R.length + (if bad = true then 0 else 1) ≤ L.length + 2 ∧ Hid (OwnSt wr w.heap.size a n c l) ∧ Hid (RSt N wr p bad R) ∧ Hid (Only p (p + 1) w wr) ∧ Hid (O = if bad = true then none else namesP R l))
  case atStart => exact ⟨_, _, _, _, bad1, R1, rfl, by have := b01_cut hL1 hL2; omega, hL1, by have := b01_cut hL1 hL2; omega, by rw [← hwA]; exact O2, by rw [← hwA]; exact P2, by rw [← hwA]; exact Q2, E1⟩
  case round =>
    clear O2 P2 Q2 E1 hL1 hL2 hwA
    obtain ⟨a, n, c, l, bad, R, rfl, hgg, hRl, hn, O2, P, Q, E⟩ := hrel
    obtain ⟨x1, xl⟩ := P.out.bd
    cases bad
    · simp only [Bool.false_eq_true, if_false] at hgg hn E
      cases hT : isT R [59]
      · have HT := Lib.hid hT
        have HZ := Lib.hid (nm_sz P.out.szp)
        have HM := Lib.hid (nm_tail (L := R) (b := false))
        have E2 := Lib.hid (st_nameR (K := fun q => namesP q.2 (l ++ [q.1])) (bad := false) P.out.tk (show O = if false = true then none else (nameP R).bind fun q => namesP q.2 (l ++ [q.1]) by
          rw [E.out, namesP_eq, if_neg (by rw [HT.out]; decide)]; rfl))
        have f1 := isT_pk hT
        have f2 : ((pkT R).toList != [59]) = true := by rw [bne, f1]; rfl
        clear hT E
        go_wp2_with fail
        refine Calls.mono (spec_l13Peek P.out) ?_
        rintro e w2 ⟨rfl, hb⟩
        have P2 := Lib.hid (P.out.keep hb)
        have Q2 := Lib.hid (Q.out.then hb)
        have O3 := Lib.hid (O2.out.keep hb)
        clear hb P Q O2 x1 xl
        go_wp2_with fail
        refine Calls.mono (spec_l13WantName P2.out) ?_
        rintro e w3 ⟨rfl, hp, ho⟩
        obtain ⟨s3, hs3'⟩ : ∃ s, s = (if namB (pkT R) = true then pkT R else (⟨#[]⟩ : ByteArray)) := ⟨_, rfl⟩
        obtain ⟨R3, hR3'⟩ : ∃ s, s = (if namB (pkT R) = true then R.tail else R) := ⟨_, rfl⟩
        obtain ⟨bad3, hbad3⟩ : ∃ b, b = (false || !namB (pkT R)) := ⟨_, rfl⟩
        rw [← hs3', ← hR3', ← hbad3] at E2
        rw [← hR3', ← hbad3] at hp HM
        rw [← hs3'] at HZ ⊢
        have hs3 := ho.size
        have hs2 := Q2.out.size
        have hb4 : Below w3.heap.size w3 (w3.alloc (.cells #[.string s3] 9)) := below_alloc1 (Below.refl _ _) _
        have P3 := Lib.hid (hp.keep hb4)
        have Q3 := Lib.hid ((Q2.out.trans ho).then hb4)
        have O4 := Lib.hid ((O3.out.only ho (fun g e => .inr (by have := (O3.out.blk g e).1; omega))).keep hb4)
        have L4 := Lib.hid (OwnSt.lit w3 w.heap.size s3 (by omega) (by have := HZ.out; omega)).flats
        have E3 := Lib.hid (show O = if bad3 = true then none else namesP R3 (l ++ [s3]) from E2.out)
        obtain ⟨hm1, hm2⟩ := HM.out
        clear hp ho P2 Q2 O3 E2 hb4 hs3' hR3' hbad3 HM
        go_wp2_with (at_builtin; refine appendL_F (k := 1) (enc := fun s : ByteArray => [Value.string s]) (ok := fun s => s.size ≤ maxLen) rfl _ _ 24 9 rfl Tryz.underlying24 Tryz.infoSt rfl (by decide) (by decide) encSt_one w.heap.size _ _ _ _ O4.out rfl _ _ _ _ rfl L4.out (by omega) (by decide) (by simp; omega) ?_; intro a7 c7 w7 ho7 hb7 hg7 hn7; refine Hid.out ?_)
        have O7 := Lib.hid ho7
        have P7 := Lib.hid (P3.out.keepB hb7 hp0)
        have Q7 := Lib.hid (Q3.out.thenB hb7 (Nat.le_refl _))
        clear ho7 hb7 hg7 hn7 O4 P3 Q3 L4
        refine Lib.hid ?_
        go_wp2_with fail
        go_roundg (R3.length + (if bad3 = true then 0 else 1))
        case measure => have := b01_cut hm1 hm2; omega
        case rel => exact ⟨a7, n + 1, c7, _, bad3, R3, rfl, Nat.le_refl _, by omega, by have := b01_cut hm1 hm2; omega, O7, P7, Q7, E3⟩
      · have HT := Lib.hid hT
        have hlen := isT_len (by decide) hT
        have E2 := Lib.hid (st_want (bad := false) (t := [59]) (K := fun L => some (l, L)) (show O = if false = true then none else (wantP [59] R).bind fun L => some (l, L) by
          rw [E.out, namesP_eq, if_pos HT.out, wantP, if_pos HT.out]; rfl))
        have f1 := isT_pk hT
        have f2 : ((pkT R).toList != [59]) = false := by rw [bne, f1]; rfl
        have hx := exL_len R [59]
        clear hT E
        go_wp2_with fail
        refine Calls.mono (spec_l13Peek P.out) ?_
        rintro e w2 ⟨rfl, hb⟩
        have P2 := Lib.hid (P.out.keep hb)
        have Q2 := Lib.hid (Q.out.then hb)
        have O3 := Lib.hid (O2.out.keep hb)
        clear hb P Q O2 x1 xl
        go_wp2_with fail
        refine Calls.mono (spec_l13WantL (t := [59]) P2.out (by decide)) ?_
        rintro e w3 ⟨⟨v, rfl⟩, hp, ho⟩
        have P3 := Lib.hid hp
        have Q3 := Lib.hid (Q2.out.trans ho)
        have O4 := Lib.hid (O3.out.only ho (fun g e => .inr (by have := (O3.out.blk g e).1; omega)))
        clear hp ho P2 Q2 O3
        go_wp2
        go_ret
        exact ⟨a, n, c, l, _, _, rfl, O4.out, P3.out, Q3.out, by omega, by omega, E2.out⟩
    · have E2 := Lib.hid (st_want (bad := true) (t := [59]) (K := fun L => some (l, L)) (show O = if true = true then none else (wantP [59] R).bind fun L => some (l, L) by
        rw [E.out]; rfl))
      have hx := exL_len R [59]
      clear E
      have hn2 : n + R.length ≤ L.length + 2 := by simpa using hn
      go_wp2_with fail
      refine Calls.mono (spec_l13WantL (t := [59]) P.out (by decide)) ?_
      rintro e w3 ⟨⟨v, rfl⟩, hp, ho⟩
      have P3 := Lib.hid hp
      have Q3 := Lib.hid (Q.out.trans ho)
      have O4 := Lib.hid (O2.out.only ho (fun g e => .inr (by have := (O2.out.blk g e).1; omega)))
      clear hp ho P Q O2
      go_wp2
      go_ret
      exact ⟨a, n, c, l, _, _, rfl, O4.out, P3.out, Q3.out, by omega, by omega, E2.out⟩
set_option maxHeartbeats 1000000 in
theorem spec_l13Names {lo : Nat} {a : Option Addr} {n c : Nat} {l : List ByteArray} {w : World} (hI : FS w a n c l) (hn : n ≤ 1048576) (hlo : lo ≤ 100) (hz : ∀ s ∈ l, s.size ≤ 1048576) :
    Calls Tryz.prog 97 #[.slice a n c, .int .i64 (lo : Int)] w fun e w' => e = .returned (.bool (nmsB lo l)) ∧ Below w.heap.size w w' := by
  have HI := Lib.hid hI
  have hlen := hI.len
  have HZ := Lib.hid hz
  have HX := Lib.hid (show nmsB lo l = (l.all namB && inB (n : Int) lo 20) by rw [nmsB, hlen])
  generalize nmsB lo l = X at *
  clear hI hz
  go_enter Tryz.func97, Tryz.ntmps97
  go_wp2
  go_loopg [5] n (fun gg s5 wr => ∃ kk : Nat, kk ≤ n ∧ n - kk ≤ gg ∧ s5 = .int .i64 kk ∧ Below w.heap.size w wr ∧ Hid ((l.take kk).all namB = true))
  case atStart => exact ⟨0, Nat.zero_le _, by omega, rfl, Below.refl _ _, rfl⟩
  case round =>
    obtain ⟨kk, hkk, hg, rfl, hbl, A⟩ := hrel
    by_cases hlt : kk < n
    · obtain ⟨b, off, x, rfl, hb, hx, hwf, hc0⟩ := FS.get (HI.out.keep hbl) hlt
      have Hx := Lib.hid hx
      have hxz := HZ.out x (List.mem_of_getElem? hx)
      clear hx
      have hlt' : (kk : Int) < (n : Int) := by omega
      have hpos : (0 : Int) ≤ (kk : Int) := by omega
      obtain ⟨q, hq⟩ : ∃ q, q = namB x := ⟨_, rfl⟩
      have HQ := Lib.hid hq
      have K := Lib.hid (fun (wx : World) => spec_l13Name (s := x) (w := wx) hxz)
      rw [← hq] at K
      clear hq hwf
      go_wp2_with fail
      refine Calls.mono (K.out _) ?_
      rintro e w2 ⟨rfl, hb2⟩
      cases q
      · go_wp2
        go_ret
        refine ⟨ret_bool ?_, below_callS hbl hb2⟩
        rw [HX.out]
        have : l.all namB = false := by
          rw [List.all_eq_false]
          exact ⟨x, List.mem_of_getElem? Hx.out, by rw [← HQ.out]; decide⟩
        rw [this]; rfl
      · go_wp2
        go_roundg (n - (kk + 1))
        case measure => omega
        case rel => exact ⟨kk + 1, by omega, by omega, by go_num, below_callS hbl hb2, by
          refine Lib.hid ?_
          rw [take_at Hx.out, List.all_append, A.out]
          simp [← HQ.out]⟩
    · have e : l.take kk = l := take_len (by omega)
      have h1 := A.out
      rw [e] at h1
      have H1 := Lib.hid (show X = inB (n : Int) lo 20 by rw [HX.out, h1, Bool.true_and])
      clear h1 e
      go_wp2_with fail
      refine Calls.mono spec_l01In ?_
      rintro e _ ⟨rfl, rfl⟩
      go_wp2
      go_ret
      exact ⟨ret_bool (by rw [H1.out]), hbl⟩
end Go.Proofs.YtjneodmohkpckaaGreatDoor
namespace Go.Proofs.YtjneodmohkpckaaGreatDoor
open Go.RowKit
set_option linter.unusedVariables false
set_option linter.unusedSimpArgs false
attribute [local go_sem ↓] Go.wp_at_zero Go.wp_at_succ
/-- a program whose parts are read, whatever its terms are -/
structure PgRw (w : World) (A : PgA) (g : PG) : Prop where
  nm : g.nm.size ≤ 1048576
  i : FS w A.i.a A.i.n A.i.c g.i
  is : ∀ s ∈ g.i, s.size ≤ 1048576
  v : FS w A.v.a A.v.n A.v.c g.v
  vs : ∀ s ∈ g.v, s.size ≤ 1048576
  o : FS w A.o.a A.o.n A.o.c g.o
  os : ∀ s ∈ g.o, s.size ≤ 1048576
  gz : g.g.size ≤ 1048576
  l : ∃ l, FL (fun _ => True) w w A.l.a A.l.n A.l.c l ∧ l.map (·.2) = g.l
  ls : ∀ x ∈ g.l, x.nm.size ≤ 1048576 ∧ ∀ t ∈ x.ts, t.nm.size ≤ 1048576
  iz : A.i.n ≤ 1048576
  vz : A.v.n ≤ 1048576
  oz : A.o.n ≤ 1048576
  lz : A.l.n ≤ 1048576
theorem PgRw.keep {w w' : World} {A : PgA} {g : PG} (h : PgRw w A g) (hb : Below w.heap.size w w') : PgRw w' A g := by
  obtain ⟨l, h1, h2⟩ := h.l
  exact ⟨h.nm, h.i.keep hb, h.is, h.v.keep hb, h.vs, h.o.keep hb, h.os, h.gz, ⟨l, h1.keep2 hb, h2⟩, h.ls, h.iz, h.vz, h.oz, h.lz⟩
def lnB (x : LN) : Bool := namB x.nm && exprB x.ts
theorem wri_five (p : PG) : wriB p = (!(!namB p.nm || !nmsB 1 p.i || !nmsB 0 p.v || !nmsB 1 p.o || (!decide (p.g.size = 0) && !namB p.g)) && (p.l.all lnB && inB (p.l.length : Int) 1 40)) := by
  have e : (p.l.all fun x => namB x.nm && exprB x.ts) = p.l.all lnB := rfl
  rw [wriB, e]
  cases namB p.nm <;> cases nmsB 1 p.i <;> cases nmsB 0 p.v <;> cases nmsB 1 p.o <;> cases decide (p.g.size = 0) <;> cases namB p.g <;> simp
theorem str_em {s : ByteArray} : s.toList.isEmpty = decide (s.size = 0) := by
  rw [ByteArray.toList_eq, Bool.eq_iff_iff, List.isEmpty_iff, decide_eq_true_eq, ← List.length_eq_zero_iff]
  have : s.data.toList.length = s.size := rfl
  rw [this]
set_option maxRecDepth 100000 in
set_option maxHeartbeats 4000000 in
theorem spec_IsWritten {A : PgA} {g : PG} {w : World} (h : PgRw w A g) : Calls Tryz.prog 45 #[.agg (pgCs A g)] w fun e w' => e = .returned (.bool (wriB g)) ∧ Below w.heap.size w w' := by
  obtain ⟨l, hf, hm⟩ := h.l
  have hgl : g.l.length = A.l.n := by rw [← hm, List.length_map]; exact hf.len
  have K1 := Lib.hid (fun (wx : World) => spec_l13Name (s := g.nm) (w := wx) h.nm)
  have K2 := Lib.hid (fun (wx : World) (hb : Below w.heap.size w wx) => spec_l13Names (lo := 1) (h.i.keep hb) h.iz (by decide) h.is)
  have K3 := Lib.hid (fun (wx : World) (hb : Below w.heap.size w wx) => spec_l13Names (lo := 0) (h.v.keep hb) h.vz (by decide) h.vs)
  have K4 := Lib.hid (fun (wx : World) (hb : Below w.heap.size w wx) => spec_l13Names (lo := 1) (h.o.keep hb) h.oz (by decide) h.os)
  have K5 := Lib.hid (fun (wx : World) => spec_l13Name (s := g.g) (w := wx) h.gz)
  have HF := Lib.hid hf
  have HLS := Lib.hid (show ∀ x ∈ l, x.2.nm.size ≤ 1048576 ∧ ∀ t ∈ x.2.ts, t.nm.size ≤ 1048576 from fun x hx => h.ls x.2 (by rw [← hm]; exact List.mem_map_of_mem hx))
  have HX := Lib.hid (show wriB g = (!(!namB g.nm || !nmsB 1 g.i || !nmsB 0 g.v || !nmsB 1 g.o || (!decide (g.g.size = 0) && !namB g.g)) && ((l.map (·.2)).all lnB && inB (A.l.n : Int) 1 40)) by rw [wri_five, hm, hgl])
  have hlz := h.lz
  have qg := str_em (s := g.g)
  generalize wriB g = X at *
  generalize namB g.nm = b1 at *
  generalize nmsB 1 g.i = b2 at *
  generalize nmsB 0 g.v = b3 at *
  generalize nmsB 1 g.o = b4 at *
  generalize decide (g.g.size = 0) = b5 at *
  generalize namB g.g = b6 at *
  clear h hf hm hgl
  obtain ⟨⟨ia, im, ic⟩, ⟨va, vn, vc⟩, ⟨oa, om, oc⟩, ⟨la, ln, lc⟩⟩ := A
  obtain ⟨nm, pi, pv, po, pg, pl⟩ := g
  simp only at K1 K2 K3 K4 K5 HF HX hlz qg
  show Calls _ _ #[.agg #[.string nm, .slice ia im ic, .slice va vn vc, .slice oa om oc, .string pg, .slice la ln lc]] _ _
  obtain ⟨cs, hcs⟩ : ∃ cs : Array Value, cs = #[.string nm, .slice ia im ic, .slice va vn vc, .slice oa om oc, .string pg, .slice la ln lc] := ⟨_, rfl⟩
  obtain ⟨wA, hwA⟩ : ∃ v, v = w.alloc (.cells #[.string nm, .slice ia im ic, .slice va vn vc, .slice oa om oc, .string pg, .slice la ln lc] 27) := ⟨_, rfl⟩
  have hbA : Below w.heap.size w wA := by rw [hwA]; exact below_alloc1 (Below.refl _ _) _
  have BX := Lib.hid (show Blk wA w.heap.size cs 27 by rw [hwA, hcs]; exact Blk.made w _ _)
  have HCS := Lib.hid hcs
  obtain ⟨c5, hc5⟩ : ∃ c, c = (!b1 || !b2 || !b3 || !b4 || (!b5 && !b6)) := ⟨_, rfl⟩
  rw [← hc5] at HX
  go_enter Tryz.func45, Tryz.ntmps45
  go_upto_region 1 with fail
  rw [← hwA]
  clear hwA hcs
  go_cut [36] (fun s36 wx => s36 = .bool c5 ∧ Hid (Below w.heap.size w wx) ∧ Hid (Blk wx w.heap.size cs 27))
  case first =>
    obtain ⟨wR, hwR⟩ : ∃ v, v = wA := ⟨_, rfl⟩
    have HB0 := Lib.hid hbA
    have y0 := BX.out.cell 0
    have y1 := BX.out.cell 1
    have y2 := BX.out.cell 2
    have y3 := BX.out.cell 3
    have y4 := BX.out.cell 4
    have yl := BX.out.lt
    simp only [HCS.out, List.getElem?_toArray, List.getElem?_cons_zero, List.getElem?_cons_succ] at y0 y1 y2 y3 y4
    clear hwR hbA
    go_wp2_with fail
    refine Calls.mono (K1.out _) ?_
    rintro e w1 ⟨rfl, hb1⟩
    have HB1 := Lib.hid (below_callS HB0.out hb1)
    have BX1 := Lib.hid (BX.out.keep hb1)
    clear y0 y1 y2 y3 y4 yl HB0 BX hb1
    cases b1
    · subst hc5
      go_wp2_with fail
      go_meet
      exact ⟨rfl, HB1, BX1⟩
    have y1 := BX1.out.cell 1
    have yl := BX1.out.lt
    simp only [HCS.out, List.getElem?_toArray, List.getElem?_cons_zero, List.getElem?_cons_succ] at y1
    go_wp2_with fail
    refine Calls.mono (K2.out _ HB1.out) ?_
    rintro e w2 ⟨rfl, hb2⟩
    have HB2 := Lib.hid (below_callS HB1.out hb2)
    have BX2 := Lib.hid (BX1.out.keep hb2)
    clear y1 yl HB1 BX1 hb2
    cases b2
    · subst hc5
      go_wp2_with fail
      go_meet
      exact ⟨rfl, HB2, BX2⟩
    have y2 := BX2.out.cell 2
    have yl := BX2.out.lt
    simp only [HCS.out, List.getElem?_toArray, List.getElem?_cons_zero, List.getElem?_cons_succ] at y2
    go_wp2_with fail
    refine Calls.mono (K3.out _ HB2.out) ?_
    rintro e w3 ⟨rfl, hb3⟩
    have HB3 := Lib.hid (below_callS HB2.out hb3)
    have BX3 := Lib.hid (BX2.out.keep hb3)
    clear y2 yl HB2 BX2 hb3
    cases b3
    · subst hc5
      go_wp2_with fail
      go_meet
      exact ⟨rfl, HB3, BX3⟩
    have y3 := BX3.out.cell 3
    have yl := BX3.out.lt
    simp only [HCS.out, List.getElem?_toArray, List.getElem?_cons_zero, List.getElem?_cons_succ] at y3
    go_wp2_with fail
    refine Calls.mono (K4.out _ HB3.out) ?_
    rintro e w4 ⟨rfl, hb4⟩
    have HB4 := Lib.hid (below_callS HB3.out hb4)
    have BX4 := Lib.hid (BX3.out.keep hb4)
    clear y3 yl HB3 BX3 hb4
    cases b4
    · subst hc5
      go_wp2_with fail
      go_meet
      exact ⟨rfl, HB4, BX4⟩
    have y4 := BX4.out.cell 4
    have yl := BX4.out.lt
    simp only [HCS.out, List.getElem?_toArray, List.getElem?_cons_zero, List.getElem?_cons_succ] at y4
    cases b5
    · go_wp2_with fail
      refine Calls.mono (K5.out _) ?_
      rintro e w5 ⟨rfl, hb5⟩
      have HB5 := Lib.hid (below_callS HB4.out hb5)
      have BX5 := Lib.hid (BX4.out.keep hb5)
      cases b6
      · subst hc5
        go_wp2_with fail
        go_meet
        exact ⟨rfl, HB5, BX5⟩
      · subst hc5
        go_wp2_with fail
        go_meet
        exact ⟨rfl, HB5, BX5⟩
    · subst hc5
      go_wp2_with fail
      go_meet
      exact ⟨by cases b6 <;> rfl, HB4, BX4⟩
  case rest =>
    clear BX hbA K1 K2 K3 K4 K5 qg
    obtain ⟨rfl, HB, BX⟩ := hcut
    obtain ⟨wz, hwz⟩ : ∃ x : World, x = wc := ⟨_, rfl⟩
    subst hwz
    cases c5
    · have HX2 := Lib.hid (show X = ((l.map (·.2)).all lnB && inB (ln : Int) 1 40) by rw [HX.out]; rfl)
      clear HX hc5
      go_wp2_with fail
      go_loopg [3] ln (fun gg s3 wr => ∃ kk : Nat, kk ≤ ln ∧ ln - kk ≤ gg ∧ s3 = .int .i64 kk ∧ Hid (Below w.heap.size w wr) ∧ Hid (Blk wr w.heap.size cs 27) ∧ Hid (((l.take kk).map (·.2)).all lnB = true))
      case atStart => exact ⟨0, Nat.zero_le _, by omega, rfl, HB, BX, rfl⟩
      case round =>
        clear HB BX
        obtain ⟨kk, hkk, hg, rfl, HB, BX, HA⟩ := hrel
        have y5 := BX.out.cell 5
        have yl := BX.out.lt
        simp only [HCS.out, List.getElem?_toArray, List.getElem?_cons_zero, List.getElem?_cons_succ] at y5
        by_cases hlt : kk < ln
        · have hlt' : (kk : Int) < (ln : Int) := by omega
          have hpos : (0 : Int) ≤ (kk : Int) := by omega
          obtain ⟨b, off, B, x, rfl, hb, hx, hwf, c0, c1⟩ := FL.get (HF.out.keep2 HB.out) hlt
          have hxs := HLS.out _ (List.mem_of_getElem? hx)
          simp only at hxs
          have Hx := Lib.hid hx
          have KN := Lib.hid (fun (wx : World) => spec_l13Name (s := x.nm) (w := wx) hxs.1)
          have KE := Lib.hid (fun (wx : World) (hb : Below wr.heap.size wr wx) => spec_IsExpression ((hwf.2.1).keep hb) hwf.2.2 hxs.2)
          simp only at KE
          obtain ⟨q1, hq1⟩ : ∃ q, q = namB x.nm := ⟨_, rfl⟩
          obtain ⟨q2, hq2⟩ : ∃ q, q = exprB x.ts := ⟨_, rfl⟩
          rw [← hq1] at KN
          rw [← hq2] at KE
          have HQ := Lib.hid (show lnB x = (q1 && q2) by rw [lnB, hq1, hq2])
          have hno : (q1 && q2) = false → X = false := fun h => by
            rw [HX2.out]
            have : (l.map (·.2)).all lnB = false := by
              rw [List.all_eq_false]
              exact ⟨x, List.mem_map.2 ⟨(B, x), List.mem_of_getElem? Hx.out, rfl⟩, by rw [HQ.out, h]; decide⟩
            rw [this]; rfl
          have HNO := Lib.hid hno
          clear hx hwf hxs hq1 hq2 hno
          go_wp2_with fail
          refine Calls.mono (KN.out _) ?_
          rintro e w2 ⟨rfl, hb2⟩
          cases q1
          · go_wp2
            go_ret
            exact ⟨ret_bool (by rw [HNO.out rfl]), below_callS HB.out hb2⟩
          have HB2 := Lib.hid (below_callS HB.out hb2)
          have BX2 := Lib.hid (BX.out.keep hb2)
          obtain ⟨hcx, _⟩ := bcell hb2
          have c1' := (hcx _ _ hb).trans c1
          have hb' := Nat.lt_of_lt_of_le hb hb2.size
          have y5' := BX2.out.cell 5
          have yl' := BX2.out.lt
          simp only [HCS.out, List.getElem?_toArray, List.getElem?_cons_zero, List.getElem?_cons_succ] at y5'
          have KE2 := Lib.hid (KE.out _ hb2)
          clear c0 c1 hb y5 yl hcx hb2 KE KN
          go_wp2_with fail
          refine Calls.mono KE2.out ?_
          rintro e w3 ⟨rfl, hb3⟩
          have HB3 := Lib.hid (below_callS HB2.out hb3)
          have BX3 := Lib.hid (BX2.out.keep hb3)
          cases q2
          · go_wp2
            go_ret
            exact ⟨ret_bool (by rw [HNO.out rfl]), HB3.out⟩
          clear c1' hb' y5' yl' hb3
          go_wp2
          go_roundg (ln - (kk + 1))
          case measure => omega
          case rel => exact ⟨kk + 1, by omega, by omega, by go_num, HB3, BX3, by
            refine Lib.hid ?_
            rw [take_at Hx.out, List.map_append, List.all_append, HA.out]
            simp [HQ.out]⟩
        · have e : l.take kk = l := take_len (by have := HF.out.len; omega)
          have h1 := HA.out
          rw [e] at h1
          have H1 := Lib.hid (show X = inB (ln : Int) 1 40 by rw [HX2.out, h1, Bool.true_and])
          have hlt' : ¬ (kk : Int) < (ln : Int) := by omega
          clear h1 e
          go_wp2_with fail
          refine Calls.mono spec_l01In ?_
          rintro e _ ⟨rfl, rfl⟩
          go_wp2
          go_ret
          exact ⟨ret_bool (by rw [H1.out]), HB.out⟩
    · have HX2 := Lib.hid (show X = false by rw [HX.out]; rfl)
      go_wp2
      go_ret
      exact ⟨ret_bool (by rw [HX2.out]), HB.out⟩
end Go.Proofs.YtjneodmohkpckaaGreatDoor
