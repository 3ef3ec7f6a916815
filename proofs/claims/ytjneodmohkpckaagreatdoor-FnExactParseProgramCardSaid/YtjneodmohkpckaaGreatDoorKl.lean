/- The reference's parser: a program, walked. (Printed by mkkl.py.) -/
import Derived.Test.YtjneodmohkpckaaGreatDoorKg
import Derived.Test.YtjneodmohkpckaaGreatDoorY9
import Derived.RegionTactic
import Derived.BigRegion
namespace Go.Proofs.YtjneodmohkpckaaGreatDoor
open Go.RowKit
set_option linter.unusedVariables false
set_option linter.unusedSimpArgs false
attribute [local go_sem ↓] Go.wp_at_zero Go.wp_at_succ
/-- a program while the reference reads it -/
structure RgX (N : Nat) (w0 : World) (p lo hi : Nat) (A : PgA) (g : PG) (bad : Bool) (R : List TR) (w : World) : Prop where
  own : PgOwn (fun _ => True) w lo hi A g
  hi9 : hi ≤ w.heap.size
  ps : RSt N w p bad R
  on : Only p (p + 1) w0 w
  pq : p < w0.heap.size
  q0 : w0.heap.size ≤ lo
  lw : lo ≤ w.heap.size
section
variable {N : Nat} {w0 w w' : World} {p lo hi B : Nat} {A : PgA} {g : PG} {bad bad' : Bool} {R R' : List TR}
theorem RgX.step (h : RgX N w0 p lo hi A g bad R w) (ho : Only p (p + 1) w w') (hp : RSt N w' p bad' R') : RgX N w0 p lo hi A g bad' R' w' :=
  ⟨h.own.only ho h.hi9 (.inr (by have := h.pq; have := h.q0; omega)), Nat.le_trans h.hi9 ho.size, hp, h.on.trans ho, h.pq, h.q0, Nat.le_trans h.lw ho.size⟩
theorem RgX.keep (h : RgX N w0 p lo hi A g bad R w) (hb : Below w.heap.size w w') : RgX N w0 p lo hi A g bad R w' :=
  ⟨h.own.keep hb, Nat.le_trans h.hi9 hb.size, h.ps.keep hb, h.on.then hb, h.pq, h.q0, Nat.le_trans h.lw hb.size⟩
theorem RgX.up (h : RgX N w0 p lo hi A g bad R w) : RgX N w0 p lo w.heap.size A g bad R w := ⟨h.own.hi h.hi9, Nat.le_refl _, h.ps, h.on, h.pq, h.q0, h.lw⟩
theorem RgX.own2 {A' : PgA} {g' : PG} (h : RgX N w0 p lo hi A g bad R w) {hi' : Nat} (hown : PgOwn (fun _ => True) w lo hi' A' g') (hh : hi' ≤ w.heap.size) : RgX N w0 p lo hi' A' g' bad R w := ⟨hown, hh, h.ps, h.on, h.pq, h.q0, h.lw⟩
theorem RgX.setNm (h : RgX N w0 p lo hi A g bad R w) (s : ByteArray) : RgX N w0 p lo hi A { g with nm := s } bad R w :=
  h.own2 (A' := A) (g' := { g with nm := s }) ⟨h.own.i, h.own.v, h.own.o, h.own.l, h.own.iv, h.own.io, h.own.vo, h.own.bi, h.own.bv, h.own.bo, h.own.iz, h.own.vz, h.own.oz, h.own.lz⟩ h.hi9
theorem RgX.setG (h : RgX N w0 p lo hi A g bad R w) (s : ByteArray) : RgX N w0 p lo hi A { g with g := s } bad R w :=
  h.own2 (A' := A) (g' := { g with g := s }) ⟨h.own.i, h.own.v, h.own.o, h.own.l, h.own.iv, h.own.io, h.own.vo, h.own.bi, h.own.bv, h.own.bo, h.own.iz, h.own.vz, h.own.oz, h.own.lz⟩ h.hi9
theorem RgX.new {a : Option Addr} {n c : Nat} {l : List ByteArray} (h : RgX N w0 p lo hi A g bad R w) (hB : hi ≤ B) (hlo : lo ≤ B) (hl : OwnSt w B a n c l) :
    RgX N w0 p lo w.heap.size A g bad R w ∧ OwnSt w lo a n c l ∧ inL lo w.heap.size a ∧ Apart A.i.a a ∧ Apart A.v.a a ∧ Apart A.o.a a := by
  have ap : ∀ {b : Option Addr}, inL lo hi b → Apart b a := fun hb => Apart.of (m := B) (fun g e => by have := (hb g e).2; omega) (fun g e => (hl.blk g e).1)
  exact ⟨h.up, hl.le hlo, fun g e => ⟨by have := (hl.blk g e).1; omega, (hl.blk g e).2⟩, ap h.own.bi, ap h.own.bv, ap h.own.bo⟩
theorem RgX.setI {a : Option Addr} {n c : Nat} {l : List ByteArray} (h : RgX N w0 p lo hi A g bad R w) (hB : hi ≤ B) (hlo : lo ≤ B) (hl : OwnSt w B a n c l) (hn : n ≤ 1048576) :
    RgX N w0 p lo w.heap.size { A with i := ⟨a, n, c⟩ } { g with i := l } bad R w := by
  obtain ⟨h1, h2, h3, h4, h5, h6⟩ := h.new hB hlo hl
  exact h1.own2 (A' := { A with i := ⟨a, n, c⟩ }) (g' := { g with i := l }) ⟨h2, h1.own.v, h1.own.o, h1.own.l, h5.symm, h6.symm, h1.own.vo, h3, h1.own.bv, h1.own.bo, hn, h1.own.vz, h1.own.oz, h1.own.lz⟩ (Nat.le_refl _)
theorem RgX.setV {a : Option Addr} {n c : Nat} {l : List ByteArray} (h : RgX N w0 p lo hi A g bad R w) (hB : hi ≤ B) (hlo : lo ≤ B) (hl : OwnSt w B a n c l) (hn : n ≤ 1048576) :
    RgX N w0 p lo w.heap.size { A with v := ⟨a, n, c⟩ } { g with v := l } bad R w := by
  obtain ⟨h1, h2, h3, h4, h5, h6⟩ := h.new hB hlo hl
  exact h1.own2 (A' := { A with v := ⟨a, n, c⟩ }) (g' := { g with v := l }) ⟨h1.own.i, h2, h1.own.o, h1.own.l, h4, h1.own.io, h6.symm, h1.own.bi, h3, h1.own.bo, h1.own.iz, hn, h1.own.oz, h1.own.lz⟩ (Nat.le_refl _)
theorem RgX.setO {a : Option Addr} {n c : Nat} {l : List ByteArray} (h : RgX N w0 p lo hi A g bad R w) (hB : hi ≤ B) (hlo : lo ≤ B) (hl : OwnSt w B a n c l) (hn : n ≤ 1048576) :
    RgX N w0 p lo w.heap.size { A with o := ⟨a, n, c⟩ } { g with o := l } bad R w := by
  obtain ⟨h1, h2, h3, h4, h5, h6⟩ := h.new hB hlo hl
  exact h1.own2 (A' := { A with o := ⟨a, n, c⟩ }) (g' := { g with o := l }) ⟨h1.own.i, h1.own.v, h2, h1.own.l, h1.own.iv, h4, h5, h1.own.bi, h1.own.bv, h3, h1.own.iz, h1.own.vz, hn, h1.own.lz⟩ (Nat.le_refl _)
/-- lines as an empty slice of their own -/
theorem RgX.noL (h : RgX N w0 p lo hi A g bad R w) (el : g.l = []) {a : Option Addr} (hl : OwnF 2 encLn (fun _ => True) 63 w lo a 0 0 []) : RgX N w0 p lo w.heap.size { A with l := ⟨a, 0, 0⟩ } g bad R w := by
  have h1 := h.up
  exact h1.own2 (A' := { A with l := ⟨a, 0, 0⟩ }) (g' := g) ⟨h1.own.i, h1.own.v, h1.own.o, ⟨[], ⟨hl, (fun x hx => by cases hx), (fun i j x y h => by cases h)⟩, ⟨hl.blk, (fun x hx => by cases hx)⟩, by rw [el]; rfl⟩, h1.own.iv, h1.own.io, h1.own.vo, h1.own.bi, h1.own.bv, h1.own.bo, h1.own.iz, h1.own.vz, h1.own.oz, (show 0 ≤ 1048576 by decide)⟩ (Nat.le_refl _)
theorem RgX.putL {a' : Option Addr} {n' c' : Nat} {x : SA × LN} {l : List (SA × LN)} (h : RgX N w0 p lo hi A g bad R w) (hl : LOwn (fun _ => True) w lo A.l.a A.l.n A.l.c l) (hbd : LBd lo hi A.l.a l) (hm : l.map (·.2) = g.l) (hx : LO (fun _ => True) w B x) (hB : hi ≤ B) (hlB : lo ≤ B) (hn' : n' = A.l.n + 1) (hz : n' ≤ 1048576)
    (hr : OwnF 2 encLn (fun _ => True) 63 w' lo a' n' c' (l ++ [x])) (hb : Below lo w w') (ho : OthT 63 w w') :
    RgX N w0 p lo w'.heap.size { A with l := ⟨a', n', c'⟩ } { g with l := g.l ++ [x.2] } bad R w' := by
  subst hn'
  have h1 := h.pq
  have h2 := h.q0
  have hsz := hb.size
  have hL := LOwn.app hl hx (fun y hy g e => by have := (hbd.2 y hy g e).2; omega) hlB hr ho
  have up : ∀ {b : Option Addr}, inL lo hi b → inL lo w'.heap.size b := fun hb g e => ⟨(hb g e).1, by have := (hb g e).2; have := h.hi9; omega⟩
  exact ⟨⟨h.own.i.oth ho (by decide), h.own.v.oth ho (by decide), h.own.o.oth ho (by decide), ⟨l ++ [x], hL, hL.bd, by rw [List.map_append, hm]; rfl⟩, h.own.iv, h.own.io, h.own.vo, up h.own.bi, up h.own.bv, up h.own.bo, h.own.iz, h.own.vz, h.own.oz, hz⟩, Nat.le_refl _, h.ps.keepB hb (by omega), h.on.thenB hb h2, h1, h2, Nat.le_trans h.lw hsz⟩
theorem RgX.ln (h : RgX N w0 p lo hi A g bad R w) : g.l.length = A.l.n := h.own.l.len
/-- a token is passed over -/
theorem RgX.adv (h : RgX N w0 p lo hi A g bad R w) (hR : R ≠ []) : ∃ kk : Nat, kk ≤ 800 ∧ w.cell? ⟨p, 1, none⟩ = some (.int .i64 (kk : Int)) ∧ p < w.heap.size ∧ (∀ j, w.frozen? ⟨p, j, none⟩ = false) ∧ RgX N w0 p lo hi A g bad R.tail (w.setCell ⟨p, 1, none⟩ (.int .i64 ((kk : Int) + 1))) := by
  obtain ⟨ta, tn, tc, kk, L0, h1⟩ := h.ps
  exact ⟨kk, by have := h1.n8; have := h1.kn; omega, h1.x.cell 1, h1.x.lt, h1.x.free, h.step (only_p 1 _) ⟨ta, tn, tc, kk + 1, L0, h1.adv hR⟩⟩
theorem isT_ne' {L : List TR} {t : List UInt8} (ht : t ≠ []) (h : isT L t = true) : L ≠ [] := by
  obtain ⟨x, r, e, _⟩ := isT_ne ht h
  rw [e]; exact List.cons_ne_nil _ _
end
/-- the same parser, its mark set to what it was -/
theorem RS.same2 {N : Nat} {w : World} {p tn tc k : Nat} {ta : Option Addr} {bad : Bool} {L0 L : List TR} (h : RS N w p ta tn tc k bad L0 L) : RS N (w.setCell ⟨p, 2, none⟩ (.bool bad)) p ta tn tc k bad L0 L :=
  ⟨heap_setCell_same w p 2 _ _ _ h.x, h.t.only (only_p 2 _) (fun g o e => by have := h.ne g o e; omega), h.ne, h.n8, h.kn, h.dr, h.sz, h.tk⟩
/-- the program, if nothing is left -/
def finO : Option (PG × List TR) → Option PG
  | some (p, []) => some p
  | _ => none
/-- what the reference's reader of a program leaves -/
def PPr (N : Nat) (o : Option (PG × List TR)) (p : Nat) (w : World) (e : Ending) (w' : World) : Prop := ∃ (A : PgA) (g : PG) (bad : Bool) (L : List TR), e = .returned (.agg (pgCs A g)) ∧ PgOwn (fun _ => True) w' w.heap.size w'.heap.size A g ∧ RSt N w' p bad L ∧ Only p (p + 1) w w' ∧ finO o = (if bad = true then none else some g)
set_option maxRecDepth 100000 in
set_option maxHeartbeats 8000000 in
theorem spec_l13Program {N : Nat} {w : World} {p : Nat} {bad : Bool} {R : List TR} (hP : RSt N w p bad R) : Calls Tryz.prog 55 #[.pointer (some ⟨p, 0, none⟩)] w (PPr N (if bad = true then none else pgR R) p w) := by
  have hp0 := hP.lt
  obtain ⟨O, hO⟩ : ∃ o, o = (if bad = true then none else pgR R) := ⟨_, rfl⟩
  rw [← hO]
  rw [pgR_K] at hO
  have HC := Lib.hid hO
  obtain ⟨wI, hwI⟩ : ∃ v, v = w.alloc (.cells (pgCs PgA.no PG.no) 27) := ⟨_, rfl⟩
  have hbI : Below w.heap.size w wI := by rw [hwI]; exact below_alloc1 (Below.refl _ _) _
  have hsI : wI.heap.size = w.heap.size + 1 := by rw [hwI]; exact Array.size_push _
  have HR := Lib.hid (show Blk wI w.heap.size (pgCs PgA.no PG.no) 27 by rw [hwI]; exact Blk.made w _ _)
  have X := Lib.hid (show RgX N w p wI.heap.size wI.heap.size PgA.no PG.no bad R wI from
    ⟨PgOwn.no _ _ _, Nat.le_refl _, hP.keep hbI, Only.of_below hbI, hp0, by omega, Nat.le_refl _⟩)
  clear hP hO hbI
  go_enter Tryz.func55, Tryz.ntmps55
  go_upto_region 1 with fail
  rw [show (World.alloc w (.cells #[.string ⟨#[]⟩, .slice none 0 0, .slice none 0 0, .slice none 0 0, .string ⟨#[]⟩, .slice none 0 0] 27)) = wI from hwI.symm]
  obtain ⟨lo, hlo⟩ : ∃ v, v = wI.heap.size := ⟨_, rfl⟩
  rw [← hlo] at X
  have hl1 : w.heap.size < lo := by omega
  clear hwI hlo hsI
  go_wp2_with fail
  refine Calls.mono (spec_l13WantL (t := [112, 114, 111, 103, 114, 97, 109]) X.out.ps (by decide)) ?_
  rintro e v1 ⟨⟨v, rfl⟩, hp, ho⟩
  replace HR := Lib.hid (HR.out.apart ho (.inr (by omega)))
  replace X := Lib.hid (X.out.step ho hp)
  replace HC := Lib.hid (st_want HC.out)
  (try dsimp only at HC)
  clear ho hp
  obtain ⟨bv1, ebv1⟩ : ∃ v, v = (bad || !isT R [112, 114, 111, 103, 114, 97, 109]) := ⟨_, rfl⟩
  obtain ⟨Rv1, eRv1⟩ : ∃ v, v = exL R [112, 114, 111, 103, 114, 97, 109] := ⟨_, rfl⟩
  rw [← ebv1, ← eRv1] at X HC
  clear ebv1 eRv1
  have HNS := Lib.hid (nm_sz X.out.ps.szp)
  have HNT := Lib.hid (nm_tail (L := Rv1) (b := bv1))
  have HTK := Lib.hid X.out.ps.tk
  go_wp2_with fail
  refine Calls.mono (spec_l13WantName X.out.ps) ?_
  rintro e v2 ⟨rfl, hp, ho⟩
  replace HR := Lib.hid (HR.out.apart ho (.inr (by omega)))
  replace X := Lib.hid (X.out.step ho hp)
  replace HC := Lib.hid (st_nameR HTK.out HC.out)
  (try dsimp only at HC)
  clear ho hp HTK
  obtain ⟨sv2, esv2⟩ : ∃ v, v = (if namB (pkT Rv1) = true then pkT Rv1 else (⟨#[]⟩ : ByteArray)) := ⟨_, rfl⟩
  rw [← esv2] at HC HNS ⊢
  clear esv2
  obtain ⟨bv2, ebv2⟩ : ∃ v, v = (bv1 || !namB (pkT Rv1)) := ⟨_, rfl⟩
  obtain ⟨Rv2, eRv2⟩ : ∃ v, v = (if namB (pkT Rv1) = true then List.tail Rv1 else Rv1) := ⟨_, rfl⟩
  rw [← ebv2, ← eRv2] at X HC HNT
  clear HNS HNT
  clear ebv2 eRv2
  replace X := Lib.hid (X.out.setNm sv2)
  go_wp2_with fail
  refine Calls.mono (spec_l13WantL (t := [59]) X.out.ps (by decide)) ?_
  rintro e v3 ⟨⟨v, rfl⟩, hp, ho⟩
  replace HR := Lib.hid (HR.out.apart ho (.inr (by omega)))
  replace X := Lib.hid (X.out.step ho hp)
  replace HC := Lib.hid (st_want HC.out)
  (try dsimp only at HC)
  clear ho hp
  obtain ⟨bv3, ebv3⟩ : ∃ v, v = (bv2 || !isT Rv2 [59]) := ⟨_, rfl⟩
  obtain ⟨Rv3, eRv3⟩ : ∃ v, v = exL Rv2 [59] := ⟨_, rfl⟩
  rw [← ebv3, ← eRv3] at X HC
  clear ebv3 eRv3
  go_wp2_with fail
  refine Calls.mono (spec_l13WantL (t := [105, 110]) X.out.ps (by decide)) ?_
  rintro e v4 ⟨⟨v, rfl⟩, hp, ho⟩
  replace HR := Lib.hid (HR.out.apart ho (.inr (by omega)))
  replace X := Lib.hid (X.out.step ho hp)
  replace HC := Lib.hid (st_want HC.out)
  (try dsimp only at HC)
  clear ho hp
  obtain ⟨bv4, ebv4⟩ : ∃ v, v = (bv3 || !isT Rv3 [105, 110]) := ⟨_, rfl⟩
  obtain ⟨Rv4, eRv4⟩ : ∃ v, v = exL Rv3 [105, 110] := ⟨_, rfl⟩
  rw [← ebv4, ← eRv4] at X HC
  clear ebv4 eRv4
  go_wp2_with fail
  refine Calls.mono (spec_l13List X.out.ps) ?_
  rintro e v5 ⟨av5, nv5, cv5, lv5, bv5, Rv5, rfl, hl, hp, ho, hn, hR, hq⟩
  have N8 := X.out.ps.n8
  replace HC := Lib.hid (st_bind HC.out hq)
  (try dsimp only at HC)
  have X9 := Lib.hid (((X.out.up.step ho hp).setI (Nat.le_refl _) X.out.lw hl (by omega)))
  replace HR := Lib.hid (HR.out.apart ho (.inr (by omega)))
  clear ho hp hl hn hR hq N8 X
  have X := X9
  clear X9
  obtain ⟨v6, hv6⟩ : ∃ v, v = World.alloc v5 (.cells #[] 9) := ⟨_, rfl⟩
  have hbv6 : Below v5.heap.size v5 v6 := by rw [hv6]; exact below_alloc1 (Below.refl _ _) _
  have OE := Lib.hid (show OwnSt v6 v5.heap.size (some ⟨v5.heap.size, 0, none⟩) 0 0 [] by rw [hv6]; exact OwnF.emp v5 (Nat.le_refl _) (fun _ => rfl))
  have X9 := Lib.hid ((X.out.up.keep hbv6).setV (Nat.le_refl _) X.out.lw OE.out (by decide))
  replace HR := Lib.hid (HR.out.keep hbv6)
  clear X OE hbv6
  have X := X9
  clear X9
  obtain ⟨vb, hvb⟩ : ∃ v, v = v5.heap.size := ⟨_, rfl⟩
  rw [← hvb] at X
  go_upto_region 7 with fail
  rw [← hv6, ← hvb]
  clear hv6 hvb
  obtain ⟨tv7, etv7⟩ : ∃ v, v = isT Rv5 [118, 97, 114] := ⟨_, rfl⟩
  have ET := Lib.hid etv7
  have f1 : ((pkT Rv5).toList == [118, 97, 114]) = tv7 := isT_pkI etv7.symm
  clear etv7
  go_wp2_with fail
  refine Calls.mono (spec_l13Peek X.out.ps) ?_
  rintro e v7 ⟨rfl, hb⟩
  replace X := Lib.hid (X.out.keep hb)
  replace HR := Lib.hid (HR.out.keep hb)
  clear hb
  go_upto_if 24 with fail
  go_cut [5] (fun s5 wx => ∃ (Av : SA) (gv : List ByteArray) (b : Bool) (R : List TR) (hi : Nat), s5 = .slice Av.a Av.n Av.c ∧ Hid (RgX N w p lo hi { i := ⟨av5, nv5, cv5⟩, v := Av, o := SA.no, l := SA.no } { nm := sv2, i := lv5, v := gv, o := [], g := ⟨#[]⟩, l := [] } b R wx) ∧ Hid (Blk wx w.heap.size (pgCs PgA.no PG.no) 27) ∧ Hid (O = if b = true then none else pgK1 sv2 lv5 gv R))
  case first =>
    cases tv7
    · have HC2 := Lib.hid (show O = if bv5 = true then none else pgK1 sv2 lv5 [] Rv5 by
        have h := HC.out
        rw [varP_no ET.out.symm] at h
        exact h)
      clear HC ET f1
      go_wp2_with fail
      go_meet
      exact ⟨⟨some ⟨vb, 0, none⟩, 0, 0⟩, [], _, _, _, rfl, X, HR, HC2⟩
    · replace HC := Lib.hid (show O = if bv5 = true then none else (listP (List.tail Rv5)).bind fun c => pgK1 sv2 lv5 c.1 c.2 by
        have h := HC.out
        rw [varP_yes ET.out.symm] at h
        exact h)
      obtain ⟨kkv8, hkz, a1, al, af, X9⟩ := X.out.adv (isT_ne' (by decide) ET.out.symm)
      have ek : IntKind.i64.wrap ((kkv8 : Int) + 1) = (kkv8 : Int) + 1 := IntWalk.i64_in _ (by omega)
      have HR9 := HR.out.apart (only_p (w := v7) (p := p) 1 (.int .i64 ((kkv8 : Int) + 1))) (.inr (by omega))
      obtain ⟨v8, hv8⟩ : ∃ v, v = World.setCell v7 ⟨p, 1, none⟩ (.int .i64 ((kkv8 : Int) + 1)) := ⟨_, rfl⟩
      rw [← hv8] at X9 HR9
      replace X := Lib.hid X9
      replace HR := Lib.hid HR9
      clear X9 HR9
      go_upto_region 9 with fail
      rw [← hv8]
      clear hv8 a1 al af ek hkz
      clear ET f1
      go_wp2_with fail
      refine Calls.mono (spec_l13List X.out.ps) ?_
      rintro e v9 ⟨av9, nv9, cv9, lv9, bv9, Rv9, rfl, hl, hp, ho, hn, hR, hq⟩
      have N8 := X.out.ps.n8
      replace HC := Lib.hid (st_bind HC.out hq)
      (try dsimp only at HC)
      have X9 := Lib.hid (((X.out.up.step ho hp).setV (Nat.le_refl _) X.out.lw hl (by omega)))
      replace HR := Lib.hid (HR.out.apart ho (.inr (by omega)))
      clear ho hp hl hn hR hq N8 X
      have X := X9
      clear X9
      go_wp2_with fail
      go_meet
      exact ⟨⟨_, _, _⟩, _, _, _, _, rfl, X, HR, HC⟩
  case rest =>
    clear X HR HC ET f1
    obtain ⟨Av, gv, b, R, hi, rfl, X, HR, HC⟩ := hcut
    replace HC := Lib.hid (show O = if b = true then none else (wantP [111, 117, 116] R).bind fun L4 => (listP L4).bind fun d => (guardP d.2).bind fun h => pgK2 sv2 lv5 gv d.1 h.1 h.2 from HC.out)
    obtain ⟨wd, hwd⟩ : ∃ x : World, x = wc := ⟨_, rfl⟩
    subst hwd
    go_wp2_with fail
    refine Calls.mono (spec_l13WantL (t := [111, 117, 116]) X.out.ps (by decide)) ?_
    rintro e v10 ⟨⟨v, rfl⟩, hp, ho⟩
    replace HR := Lib.hid (HR.out.apart ho (.inr (by omega)))
    replace X := Lib.hid (X.out.step ho hp)
    replace HC := Lib.hid (st_want HC.out)
    (try dsimp only at HC)
    clear ho hp
    obtain ⟨bv10, ebv10⟩ : ∃ v, v = (b || !isT R [111, 117, 116]) := ⟨_, rfl⟩
    obtain ⟨Rv10, eRv10⟩ : ∃ v, v = exL R [111, 117, 116] := ⟨_, rfl⟩
    rw [← ebv10, ← eRv10] at X HC
    clear ebv10 eRv10
    go_wp2_with fail
    refine Calls.mono (spec_l13List X.out.ps) ?_
    rintro e v11 ⟨av11, nv11, cv11, lv11, bv11, Rv11, rfl, hl, hp, ho, hn, hR, hq⟩
    have N8 := X.out.ps.n8
    replace HC := Lib.hid (st_bind HC.out hq)
    (try dsimp only at HC)
    have X9 := Lib.hid (((X.out.up.step ho hp).setO (Nat.le_refl _) X.out.lw hl (by omega)))
    replace HR := Lib.hid (HR.out.apart ho (.inr (by omega)))
    clear ho hp hl hn hR hq N8 X
    have X := X9
    clear X9
    obtain ⟨tv12, etv12⟩ : ∃ v, v = isT Rv11 [103, 117, 97, 114, 100] := ⟨_, rfl⟩
    have ET := Lib.hid etv12
    have f1 : ((pkT Rv11).toList == [103, 117, 97, 114, 100]) = tv12 := isT_pkI etv12.symm
    clear etv12
    go_wp2_with fail
    refine Calls.mono (spec_l13Peek X.out.ps) ?_
    rintro e v12 ⟨rfl, hb⟩
    replace X := Lib.hid (X.out.keep hb)
    replace HR := Lib.hid (HR.out.keep hb)
    clear hb
    go_upto_if 40 with fail
    go_cut [7] (fun s7 wx => ∃ (gg : ByteArray) (b : Bool) (R : List TR) (hi : Nat), s7 = .string gg ∧ Hid (RgX N w p lo hi { i := ⟨av5, nv5, cv5⟩, v := Av, o := ⟨av11, nv11, cv11⟩, l := SA.no } { nm := sv2, i := lv5, v := gv, o := lv11, g := gg, l := [] } b R wx) ∧ Hid (Blk wx w.heap.size (pgCs PgA.no PG.no) 27) ∧ Hid (O = if b = true then none else pgK2 sv2 lv5 gv lv11 gg R))
    case first =>
      cases tv12
      · have HC2 := Lib.hid (show O = if bv11 = true then none else pgK2 sv2 lv5 gv lv11 ⟨#[]⟩ Rv11 by
          have h := HC.out
          rw [guardP_no ET.out.symm] at h
          exact h)
        clear HC ET f1
        go_wp2_with fail
        go_meet
        exact ⟨⟨#[]⟩, _, _, _, rfl, X, HR, HC2⟩
      · replace HC := Lib.hid (show O = if bv11 = true then none else (nameP (List.tail Rv11)).bind fun c => (wantP [59] c.2).bind fun L3 => pgK2 sv2 lv5 gv lv11 c.1 L3 by
          have h := HC.out
          rw [guardP_yes ET.out.symm] at h
          simp only [Option.bind_assoc] at h
          exact h)
        obtain ⟨kkv13, hkz, a1, al, af, X9⟩ := X.out.adv (isT_ne' (by decide) ET.out.symm)
        have ek : IntKind.i64.wrap ((kkv13 : Int) + 1) = (kkv13 : Int) + 1 := IntWalk.i64_in _ (by omega)
        have HR9 := HR.out.apart (only_p (w := v12) (p := p) 1 (.int .i64 ((kkv13 : Int) + 1))) (.inr (by omega))
        obtain ⟨v13, hv13⟩ : ∃ v, v = World.setCell v12 ⟨p, 1, none⟩ (.int .i64 ((kkv13 : Int) + 1)) := ⟨_, rfl⟩
        rw [← hv13] at X9 HR9
        replace X := Lib.hid X9
        replace HR := Lib.hid HR9
        clear X9 HR9
        go_upto_region 15 with fail
        rw [← hv13]
        clear hv13 a1 al af ek hkz
        clear ET f1
        have HNS := Lib.hid (nm_sz X.out.ps.szp)
        have HNT := Lib.hid (nm_tail (L := (List.tail Rv11)) (b := bv11))
        have HTK := Lib.hid X.out.ps.tk
        go_wp2_with fail
        refine Calls.mono (spec_l13WantName X.out.ps) ?_
        rintro e v14 ⟨rfl, hp, ho⟩
        replace HR := Lib.hid (HR.out.apart ho (.inr (by omega)))
        replace X := Lib.hid (X.out.step ho hp)
        replace HC := Lib.hid (st_nameR HTK.out HC.out)
        (try dsimp only at HC)
        clear ho hp HTK
        obtain ⟨sv14, esv14⟩ : ∃ v, v = (if namB (pkT (List.tail Rv11)) = true then pkT (List.tail Rv11) else (⟨#[]⟩ : ByteArray)) := ⟨_, rfl⟩
        rw [← esv14] at HC HNS ⊢
        clear esv14
        obtain ⟨bv14, ebv14⟩ : ∃ v, v = (bv11 || !namB (pkT (List.tail Rv11))) := ⟨_, rfl⟩
        obtain ⟨Rv14, eRv14⟩ : ∃ v, v = (if namB (pkT (List.tail Rv11)) = true then List.tail (List.tail Rv11) else (List.tail Rv11)) := ⟨_, rfl⟩
        rw [← ebv14, ← eRv14] at X HC HNT
        clear HNS HNT
        clear ebv14 eRv14
        replace X := Lib.hid (X.out.setG sv14)
        go_wp2_with fail
        refine Calls.mono (spec_l13WantL (t := [59]) X.out.ps (by decide)) ?_
        rintro e v15 ⟨⟨v, rfl⟩, hp, ho⟩
        replace HR := Lib.hid (HR.out.apart ho (.inr (by omega)))
        replace X := Lib.hid (X.out.step ho hp)
        replace HC := Lib.hid (st_want HC.out)
        (try dsimp only at HC)
        clear ho hp
        obtain ⟨bv15, ebv15⟩ : ∃ v, v = (bv14 || !isT Rv14 [59]) := ⟨_, rfl⟩
        obtain ⟨Rv15, eRv15⟩ : ∃ v, v = exL Rv14 [59] := ⟨_, rfl⟩
        rw [← ebv15, ← eRv15] at X HC
        clear ebv15 eRv15
        go_wp2_with fail
        go_meet
        exact ⟨sv14, _, _, _, rfl, X, HR, HC⟩
    case rest =>
      clear X HR HC ET f1
      obtain ⟨gg, b, R, hi, rfl, X, HR, HC⟩ := hcut
      replace HC := Lib.hid (show O = if b = true then none else (linesP (R.length + 1) [] R).bind fun l => pgK3 { nm := sv2, i := lv5, v := gv, o := lv11, g := gg, l := l.1 } l.2 from HC.out)
      have N8 := X.out.ps.n8
      have hb9 := b01_le b
      obtain ⟨we, hwe⟩ : ∃ x : World, x = wc := ⟨_, rfl⟩
      subst hwe
      obtain ⟨wl, hwl⟩ : ∃ v, v = World.alloc we (.cells #[] 63) := ⟨_, rfl⟩
      have hbl : Below we.heap.size we wl := by rw [hwl]; exact below_alloc1 (Below.refl _ _) _
      have X9 := Lib.hid ((X.out.keep hbl).noL rfl (show OwnF 2 encLn (fun _ => True) 63 wl lo (some ⟨we.heap.size, 0, none⟩) 0 0 [] by rw [hwl]; exact OwnF.emp we X.out.lw (fun _ => rfl)))
      replace HR := Lib.hid (HR.out.keep hbl)
      clear X hbl
      have X := X9
      clear X9
      obtain ⟨vl, hvl⟩ : ∃ v, v = we.heap.size := ⟨_, rfl⟩
      rw [← hvl] at X
      go_upto_region 18 with fail
      rw [← hwl, ← hvl]
      clear hwl hvl
      go_loopg [8, 9, 10] (R.length + 1) (fun gk s8 s9 s10 wr => ∃ (Al : SA) (gl : List LN) (b : Bool) (R' : List TR) (hi fu : Nat), s8 = .slice Al.a Al.n Al.c ∧ R'.length + (if b = true then 0 else 1) ≤ gk ∧ (b = true ∨ R'.length < fu) ∧ Al.n + R'.length + (if b = true then 0 else 1) ≤ R.length + 1 ∧ Hid (RgX N w p lo hi { i := ⟨av5, nv5, cv5⟩, v := Av, o := ⟨av11, nv11, cv11⟩, l := Al } { nm := sv2, i := lv5, v := gv, o := lv11, g := gg, l := gl } b R' wr) ∧ Hid (Blk wr w.heap.size (pgCs PgA.no PG.no) 27) ∧ Hid (O = if b = true then none else (linesP fu gl R').bind fun l => pgK3 { nm := sv2, i := lv5, v := gv, o := lv11, g := gg, l := l.1 } l.2))
      case atStart => exact ⟨⟨some ⟨vl, 0, none⟩, 0, 0⟩, [], b, R, _, R.length + 1, rfl, by omega, .inr (by omega), by show 0 + _ + _ ≤ _; omega, X, HR, HC⟩
      case round =>
        clear X HR HC hb9
        obtain ⟨Al, gl, b, R', hi, fu, rfl, hgg, hfu, hAn, X, HR, HC⟩ := hrel
        obtain ⟨cB, hcB⟩ : ∃ c, c = (!b && (decide (Al.n = 0) || !isT R' [101, 110, 100])) := ⟨_, rfl⟩
        have HCB := Lib.hid hcB
        have hln : gl.length = Al.n := X.out.ln
        go_upto_region 18 with fail
        go_cut [67] (fun s67 wx => s67 = .bool cB ∧ Hid (Below wr.heap.size wr wx))
        case first =>
          obtain ⟨x1, xl⟩ := X.out.ps.bd
          cases b
          · by_cases hz : Al.n = 0
            · have hz2 : ((Al.n : Int) == 0) = true := by rw [hz]; rfl
              have e : cB = true := by rw [hcB, decide_eq_true hz]; rfl
              subst e
              clear hcB
              go_wp2_with fail
              go_meet
              exact ⟨rfl, Lib.hid (Below.refl _ _)⟩
            · have hz2 : ((Al.n : Int) == 0) = false := by rw [beq_eq_false_iff_ne]; omega
              obtain ⟨t, ht⟩ : ∃ t, isT R' [101, 110, 100] = t := ⟨_, rfl⟩
              have e : cB = !t := by rw [hcB, decide_eq_false hz, ht]; rfl
              have f1 := isT_pkI ht
              have f2 : ((pkT R').toList != [101, 110, 100]) = !t := by rw [bne, f1]
              subst e
              clear hcB HCB
              go_wp2_with fail
              refine Calls.mono (spec_l13Peek X.out.ps) ?_
              rintro e wp ⟨rfl, hb⟩
              cases t
              · go_wp2_with fail
                go_meet
                exact ⟨rfl, Lib.hid hb⟩
              · go_wp2_with fail
                go_meet
                exact ⟨rfl, Lib.hid hb⟩
          · have e : cB = false := by rw [hcB]; rfl
            subst e
            clear hcB
            go_wp2_with fail
            go_meet
            exact ⟨rfl, Lib.hid (Below.refl _ _)⟩
        case rest =>
          obtain ⟨rfl, HBZ⟩ := hcut
          obtain ⟨wz, hwz⟩ : ∃ x : World, x = wc := ⟨_, rfl⟩
          subst hwz
          replace X := Lib.hid (X.out.keep HBZ.out)
          replace HR := Lib.hid (HR.out.keep HBZ.out)
          clear HBZ
          cases cB
          · replace HC := Lib.hid (show O = if b = true then none else (wantP [101, 110, 100] R').bind fun L5 => (wantP [59] L5).bind fun L6 => some (({ nm := sv2, i := lv5, v := gv, o := lv11, g := gg, l := gl } : PG), L6) by
              have h := HC.out
              have hc := HCB.out
              rw [h]
              cases b
              · simp only [Bool.false_eq_true, if_false]
                simp only [Bool.not_false, Bool.true_and] at hc
                have hc2 := hc.symm
                simp only [Bool.or_eq_false_iff, decide_eq_false_iff_not, Bool.not_eq_false'] at hc2
                obtain ⟨h1, h2⟩ := hc2
                obtain ⟨f, rfl⟩ : ∃ f, fu = f + 1 := ⟨fu - 1, by rcases hfu with h | h; cases h; omega⟩
                have h3 : gl.isEmpty = false := by
                  cases hg : gl with
                  | nil => rw [hg] at hln; simp at hln; omega
                  | cons x r => rfl
                exact lines_stop (by rw [h3, h2]; rfl)
              · rfl)
            go_wp2_with fail
            refine Calls.mono (spec_l13WantL (t := [101, 110, 100]) X.out.ps (by decide)) ?_
            rintro e v16 ⟨⟨v, rfl⟩, hp, ho⟩
            replace HR := Lib.hid (HR.out.apart ho (.inr (by omega)))
            replace X := Lib.hid (X.out.step ho hp)
            replace HC := Lib.hid (st_want HC.out)
            (try dsimp only at HC)
            clear ho hp
            obtain ⟨bv16, ebv16⟩ : ∃ v, v = (b || !isT R' [101, 110, 100]) := ⟨_, rfl⟩
            obtain ⟨Rv16, eRv16⟩ : ∃ v, v = exL R' [101, 110, 100] := ⟨_, rfl⟩
            rw [← ebv16, ← eRv16] at X HC
            clear ebv16 eRv16
            go_wp2_with fail
            refine Calls.mono (spec_l13WantL (t := [59]) X.out.ps (by decide)) ?_
            rintro e v17 ⟨⟨v, rfl⟩, hp, ho⟩
            replace HR := Lib.hid (HR.out.apart ho (.inr (by omega)))
            replace X := Lib.hid (X.out.step ho hp)
            replace HC := Lib.hid (st_want HC.out)
            (try dsimp only at HC)
            clear ho hp
            obtain ⟨bv17, ebv17⟩ : ∃ v, v = (bv16 || !isT Rv16 [59]) := ⟨_, rfl⟩
            obtain ⟨Rv17, eRv17⟩ : ∃ v, v = exL Rv16 [59] := ⟨_, rfl⟩
            rw [← ebv17, ← eRv17] at X HC
            clear ebv17 eRv17
            go_upto_region 26 with fail
            obtain ⟨ta, tn, tc, kk, L0, h1⟩ := X.out.ps
            have x0 := h1.x.cell 0
            have x1 := h1.x.cell 1
            have x2 := h1.x.cell 2
            have xl := h1.x.lt
            have xf := h1.x.free
            simp only [List.getElem?_toArray, List.getElem?_cons_zero, List.getElem?_cons_succ] at x0 x1 x2
            have HD := Lib.hid (show Rv17.isEmpty = decide (¬ (kk : Int) < (tn : Int)) by
              rw [h1.dr]
              have h9 := h1.t.len
              by_cases hk : kk < tn
              · have h2 : decide (¬ (kk : Int) < (tn : Int)) = false := decide_eq_false (by omega)
                rw [h2, List.isEmpty_eq_false_iff]
                intro e
                have := congrArg List.length e
                rw [List.length_drop, List.length_nil] at this
                omega
              · have h2 : decide (¬ (kk : Int) < (tn : Int)) = true := decide_eq_true (by omega)
                rw [h2, List.drop_of_length_le (by omega)]
                rfl)
            have HW := Lib.hid h1.wrong
            have HF := Lib.hid h1.same2
            clear h1
            have fin : ∀ (bq : Bool) (wq : World), RSt N wq p bq Rv17 → Only p (p + 1) v17 wq → bq = (bv17 || !Rv17.isEmpty) → Hid (RgX N w p lo hi { i := ⟨av5, nv5, cv5⟩, v := Av, o := ⟨av11, nv11, cv11⟩, l := Al } { nm := sv2, i := lv5, v := gv, o := lv11, g := gg, l := gl } bq Rv17 wq ∧ Blk wq w.heap.size (pgCs PgA.no PG.no) 27 ∧ finO O = (if bq = true then none else some ({ nm := sv2, i := lv5, v := gv, o := lv11, g := gg, l := gl } : PG))) := fun bq wq h1 h2 h3 => Lib.hid ⟨X.out.step h2 h1, HR.out.apart h2 (.inr (by omega)), by
              rw [HC.out, h3]
              cases bv17
              · cases Rv17 <;> rfl
              · rfl⟩
            have FIN := Lib.hid fin
            clear fin X HR HC HCB hcB hfu hgg hAn
            cases bv17
            · by_cases hk : (kk : Int) < (tn : Int)
              · have RX := FIN.out true _ (RSt.keep ⟨ta, tn, tc, kk, L0, HW.out⟩ (Below.refl _ _).drew) (only_p 2 _).drew (by rw [HD.out, decide_eq_false (by omega)]; rfl)
                clear FIN HW HF
                go_wp2_with fail
                go_region
                clear x0 x1 x2 xl xf HD
                obtain ⟨wq, hwq⟩ : ∃ v, v = World.drew (World.setCell v17 ⟨p, 2, none⟩ (.bool true)) := ⟨_, rfl⟩
                rw [← hwq] at RX ⊢
                clear hwq
                have X := Lib.hid RX.out.1
                have HR := Lib.hid RX.out.2.1
                have HFO := Lib.hid RX.out.2.2
                clear RX
                go_wp2_with (refine wpList_store_blk (vs := pgCs { i := ⟨av5, nv5, cv5⟩, v := Av, o := ⟨av11, nv11, cv11⟩, l := Al } { nm := sv2, i := lv5, v := gv, o := lv11, g := gg, l := gl }) rfl 27 _ _ rfl rfl rfl HR.out rfl (by kernel_rfl) (by simp [pgCs, Value.oneCell']) ?_; intro V hV hgV hsV)
                have z0 := hV.cell 0
                have z1 := hV.cell 1
                have z2 := hV.cell 2
                have z3 := hV.cell 3
                have z4 := hV.cell 4
                have z5 := hV.cell 5
                have zl := hV.lt
                have zf := hV.free
                simp only [pgCs, List.getElem?_toArray, List.getElem?_cons_zero, List.getElem?_cons_succ] at z0 z1 z2 z3 z4 z5
                have hrl := HR.out.lt
                have hB : Below w.heap.size wq V := (Below.refl w.heap.size wq).grown hgV (by omega) (fun k e => by cases e; exact Nat.le_refl _)
                have hO : Only w.heap.size (w.heap.size + 1) wq V := (Only.refl _ _ wq).grown hgV (fun k e => by cases e; exact ⟨Nat.le_refl _, Nat.lt_succ_self _⟩)
                have HRES := Lib.hid (show PPr N O p w (.returned (.agg (pgCs { i := ⟨av5, nv5, cv5⟩, v := Av, o := ⟨av11, nv11, cv11⟩, l := Al } { nm := sv2, i := lv5, v := gv, o := lv11, g := gg, l := gl }))) V from ⟨_, _, true, _, rfl, ((X.out.up.own.only hO (Nat.le_refl _) (.inr (by omega))).hi hO.size).le (by omega), X.out.ps.keepB hB hp0, X.out.on.thenB hB (Nat.le_refl _), HFO.out⟩)
                clear hB hO X HR hgV hsV hV HFO
                go_wp2_with fail
                exact bodyPost_ret (v := .agg (pgCs { i := ⟨av5, nv5, cv5⟩, v := Av, o := ⟨av11, nv11, cv11⟩, l := Al } { nm := sv2, i := lv5, v := gv, o := lv11, g := gg, l := gl })) (by simp [results, Tryz.results55, go_sem, pgCs, *]) rfl HRES.out
              · have RX := FIN.out false _ (RSt.keep ⟨ta, tn, tc, kk, L0, HF.out⟩ (Below.refl _ _).drew) (only_p 2 _).drew (by rw [HD.out, decide_eq_true (by omega)]; rfl)
                clear FIN HW HF
                go_wp2_with fail
                go_region
                rw [show decide (kk < tn) = false from decide_eq_false (by omega)]
                clear x0 x1 x2 xl xf HD
                obtain ⟨wq, hwq⟩ : ∃ v, v = World.drew (World.setCell v17 ⟨p, 2, none⟩ (.bool false)) := ⟨_, rfl⟩
                rw [← hwq] at RX ⊢
                clear hwq
                have X := Lib.hid RX.out.1
                have HR := Lib.hid RX.out.2.1
                have HFO := Lib.hid RX.out.2.2
                clear RX
                go_wp2_with (refine wpList_store_blk (vs := pgCs { i := ⟨av5, nv5, cv5⟩, v := Av, o := ⟨av11, nv11, cv11⟩, l := Al } { nm := sv2, i := lv5, v := gv, o := lv11, g := gg, l := gl }) rfl 27 _ _ rfl rfl rfl HR.out rfl (by kernel_rfl) (by simp [pgCs, Value.oneCell']) ?_; intro V hV hgV hsV)
                have z0 := hV.cell 0
                have z1 := hV.cell 1
                have z2 := hV.cell 2
                have z3 := hV.cell 3
                have z4 := hV.cell 4
                have z5 := hV.cell 5
                have zl := hV.lt
                have zf := hV.free
                simp only [pgCs, List.getElem?_toArray, List.getElem?_cons_zero, List.getElem?_cons_succ] at z0 z1 z2 z3 z4 z5
                have hrl := HR.out.lt
                have hB : Below w.heap.size wq V := (Below.refl w.heap.size wq).grown hgV (by omega) (fun k e => by cases e; exact Nat.le_refl _)
                have hO : Only w.heap.size (w.heap.size + 1) wq V := (Only.refl _ _ wq).grown hgV (fun k e => by cases e; exact ⟨Nat.le_refl _, Nat.lt_succ_self _⟩)
                have HRES := Lib.hid (show PPr N O p w (.returned (.agg (pgCs { i := ⟨av5, nv5, cv5⟩, v := Av, o := ⟨av11, nv11, cv11⟩, l := Al } { nm := sv2, i := lv5, v := gv, o := lv11, g := gg, l := gl }))) V from ⟨_, _, false, _, rfl, ((X.out.up.own.only hO (Nat.le_refl _) (.inr (by omega))).hi hO.size).le (by omega), X.out.ps.keepB hB hp0, X.out.on.thenB hB (Nat.le_refl _), HFO.out⟩)
                clear hB hO X HR hgV hsV hV HFO
                go_wp2_with fail
                exact bodyPost_ret (v := .agg (pgCs { i := ⟨av5, nv5, cv5⟩, v := Av, o := ⟨av11, nv11, cv11⟩, l := Al } { nm := sv2, i := lv5, v := gv, o := lv11, g := gg, l := gl })) (by simp [results, Tryz.results55, go_sem, pgCs, *]) rfl HRES.out
            · have RX := FIN.out true _ (RSt.keep ⟨ta, tn, tc, kk, L0, HW.out⟩ (Below.refl _ _).drew) (only_p 2 _).drew (by rfl)
              clear FIN HW HF
              go_wp2_with fail
              go_region
              clear x0 x1 x2 xl xf HD
              obtain ⟨wq, hwq⟩ : ∃ v, v = World.drew (World.setCell v17 ⟨p, 2, none⟩ (.bool true)) := ⟨_, rfl⟩
              rw [← hwq] at RX ⊢
              clear hwq
              have X := Lib.hid RX.out.1
              have HR := Lib.hid RX.out.2.1
              have HFO := Lib.hid RX.out.2.2
              clear RX
              go_wp2_with (refine wpList_store_blk (vs := pgCs { i := ⟨av5, nv5, cv5⟩, v := Av, o := ⟨av11, nv11, cv11⟩, l := Al } { nm := sv2, i := lv5, v := gv, o := lv11, g := gg, l := gl }) rfl 27 _ _ rfl rfl rfl HR.out rfl (by kernel_rfl) (by simp [pgCs, Value.oneCell']) ?_; intro V hV hgV hsV)
              have z0 := hV.cell 0
              have z1 := hV.cell 1
              have z2 := hV.cell 2
              have z3 := hV.cell 3
              have z4 := hV.cell 4
              have z5 := hV.cell 5
              have zl := hV.lt
              have zf := hV.free
              simp only [pgCs, List.getElem?_toArray, List.getElem?_cons_zero, List.getElem?_cons_succ] at z0 z1 z2 z3 z4 z5
              have hrl := HR.out.lt
              have hB : Below w.heap.size wq V := (Below.refl w.heap.size wq).grown hgV (by omega) (fun k e => by cases e; exact Nat.le_refl _)
              have hO : Only w.heap.size (w.heap.size + 1) wq V := (Only.refl _ _ wq).grown hgV (fun k e => by cases e; exact ⟨Nat.le_refl _, Nat.lt_succ_self _⟩)
              have HRES := Lib.hid (show PPr N O p w (.returned (.agg (pgCs { i := ⟨av5, nv5, cv5⟩, v := Av, o := ⟨av11, nv11, cv11⟩, l := Al } { nm := sv2, i := lv5, v := gv, o := lv11, g := gg, l := gl }))) V from ⟨_, _, true, _, rfl, ((X.out.up.own.only hO (Nat.le_refl _) (.inr (by omega))).hi hO.size).le (by omega), X.out.ps.keepB hB hp0, X.out.on.thenB hB (Nat.le_refl _), HFO.out⟩)
              clear hB hO X HR hgV hsV hV HFO
              go_wp2_with fail
              exact bodyPost_ret (v := .agg (pgCs { i := ⟨av5, nv5, cv5⟩, v := Av, o := ⟨av11, nv11, cv11⟩, l := Al } { nm := sv2, i := lv5, v := gv, o := lv11, g := gg, l := gl })) (by simp [results, Tryz.results55, go_sem, pgCs, *]) rfl HRES.out
          · obtain ⟨hbf, hcf⟩ : b = false ∧ (!gl.isEmpty && isT R' [101, 110, 100]) = false := by
              have hc := HCB.out.symm
              simp only [Bool.and_eq_true, Bool.not_eq_true', Bool.or_eq_true, decide_eq_true_eq] at hc
              refine ⟨hc.1, ?_⟩
              rcases hc.2 with h | h
              · have : gl = [] := List.length_eq_zero_iff.1 (by omega)
                rw [this]; rfl
              · rw [h, Bool.and_false]
            subst hbf
            simp only [Bool.false_eq_true, if_false, false_or] at hgg hfu hAn
            obtain ⟨f, rfl⟩ : ∃ f, fu = f + 1 := ⟨fu - 1, by omega⟩
            replace HC := Lib.hid (show O = if false = true then none else (nameP R').bind fun r => (wantP [61] r.2).bind fun L2 => (prs (8 * L2.length + 5) .ex L2).bind fun q => (wantP [59] q.2).bind fun L3 => (linesP f (gl ++ [⟨r.1, q.1⟩]) L3).bind fun l => pgK3 { nm := sv2, i := lv5, v := gv, o := lv11, g := gg, l := l.1 } l.2 by
              have h := HC.out
              rw [lines_go hcf] at h
              exact h)
            replace X := Lib.hid X.out.up
            have hlw := X.out.lw
            clear hcB HCB hcf
            have HNS := Lib.hid (nm_sz X.out.ps.szp)
            have HNT := Lib.hid (nm_tail (L := R') (b := false))
            have HTK := Lib.hid X.out.ps.tk
            go_wp2_with fail
            refine Calls.mono (spec_l13WantName X.out.ps) ?_
            rintro e v18 ⟨rfl, hp, ho⟩
            have hszv18 := ho.size
            replace HR := Lib.hid (HR.out.apart ho (.inr (by omega)))
            replace X := Lib.hid (X.out.step ho hp)
            replace HC := Lib.hid (st_nameR HTK.out HC.out)
            (try dsimp only at HC)
            clear ho hp HTK
            obtain ⟨sv18, esv18⟩ : ∃ v, v = (if namB (pkT R') = true then pkT R' else (⟨#[]⟩ : ByteArray)) := ⟨_, rfl⟩
            rw [← esv18] at HC HNS ⊢
            clear esv18
            obtain ⟨bv18, ebv18⟩ : ∃ v, v = (false || !namB (pkT R')) := ⟨_, rfl⟩
            obtain ⟨Rv18, eRv18⟩ : ∃ v, v = (if namB (pkT R') = true then List.tail R' else R') := ⟨_, rfl⟩
            rw [← ebv18, ← eRv18] at X HC HNT
            clear ebv18 eRv18
            have hlv18 := HNT.out.1
            have hbv18 := HNT.out.2
            go_wp2_with fail
            refine Calls.mono (spec_l13WantL (t := [61]) X.out.ps (by decide)) ?_
            rintro e v19 ⟨⟨v, rfl⟩, hp, ho⟩
            have hszv19 := ho.size
            replace HR := Lib.hid (HR.out.apart ho (.inr (by omega)))
            replace X := Lib.hid (X.out.step ho hp)
            replace HC := Lib.hid (st_want HC.out)
            (try dsimp only at HC)
            clear ho hp
            obtain ⟨bv19, ebv19⟩ : ∃ v, v = (bv18 || !isT Rv18 [61]) := ⟨_, rfl⟩
            obtain ⟨Rv19, eRv19⟩ : ∃ v, v = exL Rv18 [61] := ⟨_, rfl⟩
            rw [← ebv19, ← eRv19] at X HC
            have hlv19 : Rv19.length ≤ Rv18.length := by rw [eRv19]; exact exL_len _ _
            have hbv19 : bv18 = true → bv19 = true := fun h => by rw [ebv19, h]; rfl
            clear ebv19 eRv19
            go_wp2_with fail
            refine Calls.mono (spec_l13Or_gen (spec_all (8 * Rv19.length + 5)) X.out.ps (fun _ => Nat.le_refl _)) ?_
            rintro e v20 ⟨a, n, c, ts, bv20, Rv20, rfl, hOT, hp, ho, hn, hq⟩
            have hszv20 := ho.size
            have hn8 := X.out.ps.n8
            have OT := Lib.hid hOT
            have hlv20 : Rv20.length ≤ Rv19.length := by split at hn <;> omega
            have hbv20 : bv19 = true → bv20 = true := fun h => by
              rw [h] at hq
              cases bv20
              · simp at hq
              · rfl
            replace HR := Lib.hid (HR.out.apart ho (.inr (by omega)))
            replace HC := Lib.hid (st_bind HC.out hq)
            (try dsimp only at HC)
            replace X := Lib.hid (X.out.step ho hp)
            have hnz : n ≤ 100000 := by split at hn <;> omega
            clear ho hp hOT hq hn hn8
            go_wp2_with fail
            refine Calls.mono (spec_l13WantL (t := [59]) X.out.ps (by decide)) ?_
            rintro e v21 ⟨⟨v, rfl⟩, hp, ho⟩
            have hszv21 := ho.size
            replace OT := Lib.hid (OT.out.only ho (fun g e => .inr (by have := (OT.out.blk g e).1; omega)))
            replace HR := Lib.hid (HR.out.apart ho (.inr (by omega)))
            replace X := Lib.hid (X.out.step ho hp)
            replace HC := Lib.hid (st_want HC.out)
            (try dsimp only at HC)
            clear ho hp
            obtain ⟨bv21, ebv21⟩ : ∃ v, v = (bv20 || !isT Rv20 [59]) := ⟨_, rfl⟩
            obtain ⟨Rv21, eRv21⟩ : ∃ v, v = exL Rv20 [59] := ⟨_, rfl⟩
            rw [← ebv21, ← eRv21] at X HC
            have hlv21 : Rv21.length ≤ Rv20.length := by rw [eRv21]; exact exL_len _ _
            have hbv21 : bv20 = true → bv21 = true := fun h => by rw [ebv21, h]; rfl
            clear ebv21 eRv21
            obtain ⟨l, hl, hbd, hm⟩ := X.out.own.l
            have LL := Lib.hid hl
            have LB := Lib.hid hbd
            have LM := Lib.hid hm
            have lx := X.out.lw
            have hx9 := X.out.hi9
            have LX := Lib.hid (show LO (fun _ => True) v21 v19.heap.size ((⟨a, n, c⟩ : SA), (⟨sv18, ts⟩ : LN)) from ⟨(show sv18.size ≤ maxLen by have := HNS.out; unfold maxLen; omega), OT.out, hnz⟩)
            clear hl hbd hm HNS HNT
            go_wp2_with (at_builtin; refine appTyB (k := 2) (enc := encLn) (ok := fun _ => True) ((⟨a, n, c⟩ : SA), (⟨sv18, ts⟩ : LN)) rfl _ _ rfl Tryz.underlying25 Tryz.infoLine rfl (by decide) (by decide) encLn_one lo _ _ _ l LL.out.row rfl _ rfl rfl rfl trivial (by omega) (by omega) ?_; intro aD cD wD hoD hbD htD; refine Hid.out ?_)
            have X8 := Lib.hid (X.out.putL LL.out LB.out LM.out LX.out (by omega) (by omega) rfl (show Al.n + 1 ≤ 1048576 by omega) hoD hbD htD)
            have HR8 := Lib.hid (HR.out.keepB hbD (by omega))
            clear X HR hoD hbD htD LL LB LM LX OT
            obtain ⟨X, HR⟩ := And.intro X8 HR8
            refine Lib.hid ?_
            go_wp2_with fail
            have hcut2 := b01_cut2 (b := bv21) (m := Rv21.length) (n := R'.length) (by omega) (by
              rcases hbv18 with h | h
              · exact .inl (hbv21 (hbv20 (hbv19 h)))
              · exact .inr (by omega))
            go_roundg (Rv21.length + (if bv21 = true then 0 else 1))
            case measure => omega
            case rel => exact ⟨⟨aD, Al.n + 1, cD⟩, _, bv21, Rv21, _, f, rfl, Nat.le_refl _, (by rcases hbv18 with h | h; exact .inl (hbv21 (hbv20 (hbv19 h))); exact .inr (by omega)), (by show Al.n + 1 + _ + _ ≤ _; omega), X, HR, HC⟩
end Go.Proofs.YtjneodmohkpckaaGreatDoor
