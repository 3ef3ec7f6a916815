/- The program's parser: lists of names, walked.; The program's parser: where a program stands while it is read. -/
import Derived.Test.YtjneodmohkpckaaGreatDoorY3
import Derived.Test.YtjneodmohkpckaaGreatDoorEi
import Derived.Test.YtjneodmohkpckaaGreatDoorEj
namespace Go.Proofs.YtjneodmohkpckaaGreatDoor
open Go.RowKit
set_option linter.unusedVariables false
set_option linter.unusedSimpArgs false
attribute [local go_sem ↓] Go.wp_at_zero Go.wp_at_succ
theorem Tryz.infoSt : (Tryz.prog.info? 9).map (fun i => (i.zero, i.size, i.bytes)) = some (some (.string ⟨#[]⟩), 1, 16) := by kernel_rfl
theorem encSt_one (y : ByteArray) : ∀ u ∈ [Value.string y], u.oneCell' = true := fun u hu => by
  simp only [List.mem_singleton] at hu; rw [hu]; rfl
theorem OwnSt.nil (w : World) (base : Nat) : OwnSt w base none 0 0 [] := ⟨World.ownsRow_nil w _ _ _, (fun _ h => by cases h), rfl, fun _ => rfl⟩
theorem OwnSt.lit (w : World) (base : Nat) (s : ByteArray) (hb : base ≤ w.heap.size) (hs : s.size ≤ 1048576) : OwnSt (w.alloc (.cells #[.string s] 9)) base (some ⟨w.heap.size, 0, none⟩) 1 1 [s] :=
  OwnF.lit w [s] hb rfl (by decide) (fun _ => rfl) (fun x hx => by simp only [List.mem_singleton] at hx; rw [hx]; unfold maxLen; omega) rfl
theorem b01_le (b : Bool) : (if b = true then 0 else 1 : Nat) ≤ 1 := by split <;> omega
theorem b01_cut {b : Bool} {m n : Nat} (h : m ≤ n) (h2 : b = true ∨ m + 1 = n) : m + (if b = true then 0 else 1) ≤ n := by
  rcases h2 with h2 | h2
  · rw [if_pos h2]; omega
  · have := b01_le b; omega
theorem tk_sz {L : List TR} (h : ∀ x ∈ L, x.t.size ≤ 6000) : (tkOf L).t.size ≤ 6000 := by
  cases L with
  | nil => decide
  | cons x r => exact h x (List.mem_cons_self ..)
/-- what a reader of names leaves -/
def PNs (o : Option (List ByteArray × List TR)) (p m : Nat) (w : World) (e : Ending) (w' : World) : Prop := ∃ (a : Option Addr) (n c : Nat) (l : List ByteArray) (bad : Bool) (L : List TR), e = .returned (.slice a n c) ∧ OwnSt w' w.heap.size a n c l ∧ PSt w' p bad L ∧ Only p (p + 1) w w' ∧ n + L.length ≤ m + 2 ∧ L.length ≤ m ∧ o = (if bad = true then none else some (l, L))
set_option maxRecDepth 100000 in
set_option maxHeartbeats 4000000 in
theorem impl_names {w : World} {p : Nat} {bad0 : Bool} {L : List TR} (hP : PSt w p bad0 L) (hE : EV w p) : Calls Tryz.prog 106 #[.pointer (some ⟨p, 0, none⟩)] w (PNs (if bad0 = true then none else listP L) p L.length w) := by
  have P := Lib.hid hP
  have V := Lib.hid hE
  have N8 := hP.n8
  have hp0 := hP.lt
  have hk1 := hE.n1
  have HT := Lib.hid (tk_sz hP.sz)
  clear hP hE
  obtain ⟨O, hO⟩ : ∃ o, o = (if bad0 = true then none else listP L) := ⟨_, rfl⟩
  rw [← hO]
  have E0 := Lib.hid (st_name (K := fun q => namesP q.2 [q.1]) hO)
  clear hO
  go_enter Tryz.func106, Tryz.ntmps106
  go_wp2_with fail
  refine Calls.mono (impl_name P.out V.out.kw (by omega)) ?_
  rintro e w1 ⟨rfl, hp, ho⟩
  have hs1 := ho.size
  have V1 := V.out.only ho
  have hb2 : Below w1.heap.size w1 (w1.alloc (.cells #[.string (tkOf L).t] 9)) := below_alloc1 (Below.refl _ _) _
  have O2 := Lib.hid (OwnSt.lit w1 w.heap.size (tkOf L).t hs1 (by have := HT.out; omega))
  have P2 := Lib.hid (hp.keep hb2)
  have V2 := Lib.hid (V1.keep hb2)
  have Q2 := Lib.hid (ho.then hb2)
  clear hp ho V1 V hb2 HT P
  obtain ⟨bad1, hbad1⟩ : ∃ b, b = ((bad0 || L.isEmpty) || !nmB (tkOf L)) := ⟨_, rfl⟩
  rw [← hbad1] at E0 P2
  have hL1 : L.tail.length ≤ L.length := by simp
  have hL2 : bad1 = true ∨ L.tail.length + 1 = L.length := by
    cases L with
    | nil => left; rw [hbad1]; simp
    | cons x r => right; rfl
  clear hbad1
  obtain ⟨wA, hwA⟩ : ∃ v, v = w1.alloc (.cells #[.string (tkOf L).t] 9) := ⟨_, rfl⟩
  obtain ⟨s1, hs1'⟩ : ∃ s, s = (tkOf L).t := ⟨_, rfl⟩
  have E1 := Lib.hid (show O = if bad1 = true then none else namesP L.tail [(tkOf L).t] from E0.out)
  rw [← hwA] at O2 P2 V2 Q2
  clear E0 hs1'
  go_upto_region 2 with fail
  go_loopg [3] (L.length + 1) (fun gg s3 wr => ∃ (a : Option Addr) (n c : Nat) (l : List ByteArray) (bad : Bool) (R : List TR), s3 = .slice a n c ∧ R.length + (if bad = true then 0 else 1) ≤ gg ∧ R.length ≤ L.length ∧ n + R.length + (if bad = true then 0 else 1) ≤ L.length + 2 ∧ Hid (OwnSt wr w.heap.size a n c l) ∧ Hid (PSt wr p bad R) ∧ Hid (EV wr p) ∧ Hid (Only p (p + 1) w wr) ∧ Hid (O = if bad = true then none else namesP R l))
  case atStart => exact ⟨_, _, _, _, bad1, L.tail, rfl, by have := b01_cut hL1 hL2; omega, hL1, by have := b01_cut hL1 hL2; omega, by rw [← hwA]; exact O2, by rw [← hwA]; exact P2, by rw [← hwA]; exact V2, by rw [← hwA]; exact Q2, E1⟩
  case round =>
    clear O2 P2 V2 Q2 E1 hL1 hL2 hwA
    obtain ⟨a, n, c, l, bad, R, rfl, hgg, hRl, hn, O2, P, V, Q, E⟩ := hrel
    obtain ⟨ta, tn, tc, x0, x1, xl, hxl⟩ := P.out.bd
    clear x0 hxl
    cases bad
    · simp only [Bool.false_eq_true, if_false] at hgg hn E
      cases hT : isT R [59]
      · have HT := Lib.hid hT
        have HZ := Lib.hid (tk_sz P.out.sz)
        have E2 := Lib.hid (show O = if false = true then none else (nameP R).bind fun q => namesP q.2 (l ++ [q.1]) by
          rw [E.out, namesP_eq, if_neg (by rw [HT.out]; decide)]; rfl)
        have hk1 := V.out.n1
        clear hT E
        go_wp2_with fail
        refine Calls.mono (impl_acceptF (t := [59]) P.out (by decide) HT.out) ?_
        rintro e w2 ⟨rfl, hp, ho⟩
        have P2 := Lib.hid hp
        have V2 := Lib.hid (V.out.only ho)
        have Q2 := Lib.hid (Q.out.trans ho)
        have O3 := Lib.hid (O2.out.only ho (fun g e => .inr (by have := (O2.out.blk g e).1; omega)))
        clear hp ho P Q O2 V x1 xl
        go_wp2_with fail
        refine Calls.mono (impl_name P2.out V2.out.kw (by omega)) ?_
        rintro e w3 ⟨rfl, hp, ho⟩
        have hs3 := ho.size
        have hs2 := Q2.out.size
        have hb4 : Below w3.heap.size w3 (w3.alloc (.cells #[.string (tkOf R).t] 9)) := below_alloc1 (Below.refl _ _) _
        have P3 := Lib.hid (hp.keep hb4)
        have V3 := Lib.hid ((V2.out.only ho).keep hb4)
        have Q3 := Lib.hid ((Q2.out.trans ho).then hb4)
        have O4 := Lib.hid ((O3.out.only ho (fun g e => .inr (by have := (O3.out.blk g e).1; omega))).keep hb4)
        have L4 := Lib.hid (OwnSt.lit w3 w.heap.size (tkOf R).t (by omega) (by have := HZ.out; omega)).flats
        have E3 := Lib.hid (st_name E2.out)
        clear hp ho P2 Q2 O3 V2 E2 hb4
        go_wp2_with (at_builtin; refine appendL_F (k := 1) (enc := fun s : ByteArray => [Value.string s]) (ok := fun s => s.size ≤ maxLen) rfl _ _ 24 9 rfl Tryz.underlying24 Tryz.infoSt rfl (by decide) (by decide) encSt_one w.heap.size _ _ _ _ O4.out rfl _ _ _ _ rfl L4.out (by omega) (by decide) (by simp; omega) ?_; intro a7 c7 w7 ho7 hb7 hg7 hn7; refine Hid.out ?_)
        have O7 := Lib.hid ho7
        have P7 := Lib.hid (P3.out.keepB hb7 hp0)
        have V7 := Lib.hid (EV.keepB V3.out hb7 hp0)
        have Q7 := Lib.hid (Q3.out.thenB hb7 (Nat.le_refl _))
        obtain ⟨bad3, hbad3⟩ : ∃ b, b = ((false || R.isEmpty) || !nmB (tkOf R)) := ⟨_, rfl⟩
        rw [← hbad3] at P7 E3
        have hm : R.tail.length ≤ R.length ∧ (bad3 = true ∨ R.tail.length + 1 = R.length) := by
          cases R with
          | nil => exact ⟨Nat.le_refl _, .inl (by rw [hbad3]; rfl)⟩
          | cons x r => exact ⟨by simp, .inr rfl⟩
        clear ho7 hb7 hg7 hn7 O4 P3 V3 Q3 L4 hbad3
        refine Lib.hid ?_
        go_wp2_with fail
        go_roundg (R.tail.length + (if bad3 = true then 0 else 1))
        case measure => have := b01_cut hm.1 hm.2; omega
        case rel => exact ⟨a7, n + 1, c7, _, bad3, R.tail, rfl, Nat.le_refl _, by omega, by have := b01_cut hm.1 hm.2; omega, O7, P7, V7, Q7, E3⟩
      · have HT := Lib.hid hT
        have hlen := isT_len (by decide) hT
        have E2 := Lib.hid (show O = some (l, R.tail) by
          rw [E.out, namesP_eq, if_pos HT.out])
        clear hT E
        go_wp2_with fail
        refine Calls.mono (impl_acceptT (t := [59]) P.out (by decide) HT.out) ?_
        rintro e w2 ⟨rfl, hp, ho⟩
        have P2 := Lib.hid hp
        have Q2 := Lib.hid (Q.out.trans ho)
        have O3 := Lib.hid (O2.out.only ho (fun g e => .inr (by have := (O2.out.blk g e).1; omega)))
        clear hp ho P Q O2 V
        go_wp2
        go_ret
        exact ⟨a, n, c, l, false, R.tail, rfl, O3.out, P2.out, Q2.out, by omega, by omega, by rw [E2.out]; rfl⟩
    · go_wp2
      go_ret
      exact ⟨a, n, c, l, true, R, rfl, O2.out, P.out, Q.out, by simpa using hn, hRl, by rw [E.out]; rfl⟩
end Go.Proofs.YtjneodmohkpckaaGreatDoor
namespace Go.Proofs.YtjneodmohkpckaaGreatDoor
open Go.RowKit
set_option linter.unusedVariables false
set_option linter.unusedSimpArgs false
/-- the end of a program; from its lines on; from its outputs on -/
def pgK3 (p : PG) (L : List TR) : Option (PG × List TR) := (wantP [101, 110, 100] L).bind fun L5 => (wantP [59] L5).bind fun L6 => some (p, L6)
def pgK2 (nm : ByteArray) (i v o : List ByteArray) (g : ByteArray) (L : List TR) : Option (PG × List TR) := (linesP (L.length + 1) [] L).bind fun l => pgK3 ⟨nm, i, v, o, g, l.1⟩ l.2
def pgK1 (nm : ByteArray) (i v : List ByteArray) (L : List TR) : Option (PG × List TR) := (wantP [111, 117, 116] L).bind fun L4 => (listP L4).bind fun d => (guardP d.2).bind fun g => pgK2 nm i v d.1 g.1 g.2
theorem pgR_K (L : List TR) : pgR L = (wantP [112, 114, 111, 103, 114, 97, 109] L).bind fun L1 => (nameP L1).bind fun a => (wantP [59] a.2).bind fun L2 => (wantP [105, 110] L2).bind fun L3 =>
  (listP L3).bind fun b => (varP b.2).bind fun c => pgK1 a.1 b.1 c.1 c.2 := rfl
theorem st_bind {α β : Type} {o : Option α} {bad bad' : Bool} {m : Option β} {r : β} {K : β → Option α} (h : o = if bad = true then none else m.bind K) (h2 : (if bad = true then none else m) = if bad' = true then none else some r) : o = if bad' = true then none else K r := by
  rw [h]
  cases bad
  · simp only [Bool.false_eq_true, if_false] at h2 ⊢
    rw [h2]
    cases bad' <;> rfl
  · cases bad'
    · simp at h2
    · rfl
theorem PgOwn.only {ok : TM → Prop} {w w' : World} {lo hi lo' hi' : Nat} {A : PgA} {p : PG} (h : PgOwn ok w lo hi A p) (ho : Only lo' hi' w w') (hh : hi ≤ w.heap.size) (hd : hi ≤ lo' ∨ hi' ≤ lo) : PgOwn ok w' lo hi A p :=
  PgOwn.here w w' (fun k h1 h2 => ho.block k (by omega) (by omega)) h
theorem PgOwn.hi {ok : TM → Prop} {w : World} {lo hi hi' : Nat} {A : PgA} {p : PG} (h : PgOwn ok w lo hi A p) (hh : hi ≤ hi') : PgOwn ok w lo hi' A p := by
  have m : ∀ {a : Option Addr}, inL lo hi a → inL lo hi' a := fun h g e => ⟨(h g e).1, Nat.lt_of_lt_of_le (h g e).2 hh⟩
  obtain ⟨l, h1, h2, h3⟩ := h.l
  exact ⟨h.i, h.v, h.o, ⟨l, h1, ⟨m h2.1, fun x hx => m (h2.2 x hx)⟩, h3⟩, h.iv, h.io, h.vo, m h.bi, m h.bv, m h.bo, h.iz, h.vz, h.oz, h.lz⟩
theorem PgOwn.no {ok : TM → Prop} (w : World) (lo hi : Nat) : PgOwn ok w lo hi PgA.no PG.no := by
  have n : ∀ {lo hi : Nat}, inL lo hi none := fun g e => by cases e
  exact ⟨OwnSt.nil _ _, OwnSt.nil _ _, OwnSt.nil _ _, ⟨[], LOwn.nil _ _, ⟨n, fun x hx => by cases hx⟩, rfl⟩, (fun g e => by cases e), (fun g e => by cases e), (fun g e => by cases e), n, n, n, (by decide), (by decide), (by decide), (by decide)⟩
/-- a program while it is read: its box at q, its parts from lo on below hi, w0 the world of the call -/
structure PgX (w0 : World) (p q lo hi : Nat) (A : PgA) (g : PG) (bad : Bool) (R : List TR) (w : World) : Prop where
  own : PgOwn (fun _ => True) w lo hi A g
  hi9 : hi ≤ w.heap.size
  x : Blk w q (pgCs A g) 27
  ps : PSt w p bad R
  ev : EV w p
  on : Only p (p + 1) w0 w
  pq : p < w0.heap.size
  q0 : w0.heap.size ≤ q
  ql : q < lo
  lw : lo ≤ w.heap.size
section
variable {w0 w w' : World} {p q lo hi : Nat} {A : PgA} {g : PG} {bad bad' : Bool} {R R' : List TR}
theorem PgX.step (h : PgX w0 p q lo hi A g bad R w) (ho : Only p (p + 1) w w') (hp : PSt w' p bad' R') : PgX w0 p q lo hi A g bad' R' w' :=
  ⟨h.own.only ho h.hi9 (.inr (by have := h.pq; have := h.q0; have := h.ql; omega)), Nat.le_trans h.hi9 ho.size, h.x.apart ho (.inr (by have := h.pq; have := h.q0; omega)), hp, h.ev.only ho, h.on.trans ho, h.pq, h.q0, h.ql, Nat.le_trans h.lw ho.size⟩
theorem PgX.keep (h : PgX w0 p q lo hi A g bad R w) (hb : Below w.heap.size w w') : PgX w0 p q lo hi A g bad R w' :=
  ⟨h.own.keep hb, Nat.le_trans h.hi9 hb.size, h.x.keep hb, h.ps.keep hb, h.ev.keep hb, h.on.then hb, h.pq, h.q0, h.ql, Nat.le_trans h.lw hb.size⟩
theorem PgX.up (h : PgX w0 p q lo hi A g bad R w) : PgX w0 p q lo w.heap.size A g bad R w := ⟨h.own.hi h.hi9, Nat.le_refl _, h.x, h.ps, h.ev, h.on, h.pq, h.q0, h.ql, h.lw⟩
/-- all but its parts -/
structure PgY (w0 : World) (p q lo : Nat) (A : PgA) (g : PG) (bad : Bool) (R : List TR) (w : World) : Prop where
  x : Blk w q (pgCs A g) 27
  ps : PSt w p bad R
  ev : EV w p
  on : Only p (p + 1) w0 w
  pq : p < w0.heap.size
  q0 : w0.heap.size ≤ q
  ql : q < lo
  lw : lo ≤ w.heap.size
theorem PgX.y (h : PgX w0 p q lo hi A g bad R w) : PgY w0 p q lo A g bad R w := ⟨h.x, h.ps, h.ev, h.on, h.pq, h.q0, h.ql, h.lw⟩
theorem PgY.keepB (h : PgY w0 p q lo A g bad R w) (hb : Below lo w w') : PgY w0 p q lo A g bad R w' := by
  have h1 := h.pq
  have h2 := h.q0
  have h3 := h.ql
  exact ⟨h.x.keepB hb (by omega), h.ps.keepB hb (by omega), h.ev.keepB hb (by omega), h.on.thenB hb (by omega), h1, h2, h3, Nat.le_trans h.lw hb.size⟩
/-- a field is written -/
theorem PgY.put {A' : PgA} {g' : PG} (h : PgY w0 p q lo A g bad R w) {hi' : Nat} (hown : PgOwn (fun _ => True) w lo hi' A' g') (hh : hi' ≤ w.heap.size) {i : Nat} {v : Value} (hc : pgCs A' g' = (pgCs A g).setIfInBounds i v) : PgX w0 p q lo hi' A' g' bad R (w.setCell ⟨q, i, none⟩ v) := by
  have ho : Only q (q + 1) w (w.setCell ⟨q, i, none⟩ v) := only_p i v
  have h1 := h.pq
  have h2 := h.q0
  have h3 := h.ql
  have hb : Below q w (w.setCell ⟨q, i, none⟩ v) := (Below.refl _ _).setCell (by exact Nat.le_refl _) _
  refine ⟨hown.only ho hh (.inr (by omega)), Nat.le_trans hh ho.size, ?_, h.ps.keepB hb (by omega), h.ev.keepB hb (by omega), h.on.setN h2 i v, h.pq, h.q0, h.ql, Nat.le_trans h.lw ho.size⟩
  rw [hc]; exact heap_setCell_same w q i _ _ v h.x
theorem PgX.put {A' : PgA} {g' : PG} (h : PgX w0 p q lo hi A g bad R w) {hi' : Nat} (hown : PgOwn (fun _ => True) w lo hi' A' g') (hh : hi' ≤ w.heap.size) {i : Nat} {v : Value} (hc : pgCs A' g' = (pgCs A g).setIfInBounds i v) : PgX w0 p q lo hi' A' g' bad R (w.setCell ⟨q, i, none⟩ v) := h.y.put hown hh hc
theorem PgX.putNm (h : PgX w0 p q lo hi A g bad R w) (s : ByteArray) : PgX w0 p q lo hi A { g with nm := s } bad R (w.setCell ⟨q, 0, none⟩ (.string s)) :=
  h.put (A' := A) (g' := { g with nm := s }) ⟨h.own.i, h.own.v, h.own.o, h.own.l, h.own.iv, h.own.io, h.own.vo, h.own.bi, h.own.bv, h.own.bo, h.own.iz, h.own.vz, h.own.oz, h.own.lz⟩ h.hi9 (i := 0) (v := .string s) rfl
theorem PgX.putG (h : PgX w0 p q lo hi A g bad R w) (s : ByteArray) : PgX w0 p q lo hi A { g with g := s } bad R (w.setCell ⟨q, 4, none⟩ (.string s)) :=
  h.put (A' := A) (g' := { g with g := s }) ⟨h.own.i, h.own.v, h.own.o, h.own.l, h.own.iv, h.own.io, h.own.vo, h.own.bi, h.own.bv, h.own.bo, h.own.iz, h.own.vz, h.own.oz, h.own.lz⟩ h.hi9 (i := 4) (v := .string s) rfl
/-- names that were read since are laid in -/
theorem PgX.new {a : Option Addr} {n c : Nat} {l : List ByteArray} (h : PgX w0 p q lo hi A g bad R w) (ho : Only p (p + 1) w w') (hp : PSt w' p bad' R') (hl : OwnSt w' w.heap.size a n c l) (hn : n ≤ 1048576) :
    PgX w0 p q lo w'.heap.size A g bad' R' w' ∧ OwnSt w' lo a n c l ∧ inL lo w'.heap.size a ∧ Apart A.i.a a ∧ Apart A.v.a a ∧ Apart A.o.a a := by
  have h1 := h.pq
  have h2 := h.q0
  have h3 := h.ql
  have h4 := h.hi9
  have ap : ∀ {b : Option Addr}, inL lo hi b → Apart b a := fun hb => Apart.of (m := w.heap.size) (fun g e => by have := (hb g e).2; omega) (fun g e => (hl.blk g e).1)
  have hs := h.step ho hp
  have hlo := h.lw
  exact ⟨hs.up, hl.le hlo, fun g e => ⟨by have := (hl.blk g e).1; omega, (hl.blk g e).2⟩, ap h.own.bi, ap h.own.bv, ap h.own.bo⟩
theorem PgX.putI {a : Option Addr} {n c : Nat} {l : List ByteArray} (h : PgX w0 p q lo hi A g bad R w) (ho : Only p (p + 1) w w') (hp : PSt w' p bad' R') (hl : OwnSt w' w.heap.size a n c l) (hn : n ≤ 1048576) :
    PgX w0 p q lo w'.heap.size { A with i := ⟨a, n, c⟩ } { g with i := l } bad' R' (w'.setCell ⟨q, 1, none⟩ (.slice a n c)) := by
  obtain ⟨h1, h2, h3, h4, h5, h6⟩ := h.new ho hp hl hn
  exact h1.put (A' := { A with i := ⟨a, n, c⟩ }) (g' := { g with i := l }) ⟨h2, h1.own.v, h1.own.o, h1.own.l, h5.symm, h6.symm, h1.own.vo, h3, h1.own.bv, h1.own.bo, hn, h1.own.vz, h1.own.oz, h1.own.lz⟩ (Nat.le_refl _) (i := 1) (v := .slice a n c) rfl
theorem PgX.putV {a : Option Addr} {n c : Nat} {l : List ByteArray} (h : PgX w0 p q lo hi A g bad R w) (ho : Only p (p + 1) w w') (hp : PSt w' p bad' R') (hl : OwnSt w' w.heap.size a n c l) (hn : n ≤ 1048576) :
    PgX w0 p q lo w'.heap.size { A with v := ⟨a, n, c⟩ } { g with v := l } bad' R' (w'.setCell ⟨q, 2, none⟩ (.slice a n c)) := by
  obtain ⟨h1, h2, h3, h4, h5, h6⟩ := h.new ho hp hl hn
  exact h1.put (A' := { A with v := ⟨a, n, c⟩ }) (g' := { g with v := l }) ⟨h1.own.i, h2, h1.own.o, h1.own.l, h4, h1.own.io, h6.symm, h1.own.bi, h3, h1.own.bo, h1.own.iz, hn, h1.own.oz, h1.own.lz⟩ (Nat.le_refl _) (i := 2) (v := .slice a n c) rfl
theorem PgX.putO {a : Option Addr} {n c : Nat} {l : List ByteArray} (h : PgX w0 p q lo hi A g bad R w) (ho : Only p (p + 1) w w') (hp : PSt w' p bad' R') (hl : OwnSt w' w.heap.size a n c l) (hn : n ≤ 1048576) :
    PgX w0 p q lo w'.heap.size { A with o := ⟨a, n, c⟩ } { g with o := l } bad' R' (w'.setCell ⟨q, 3, none⟩ (.slice a n c)) := by
  obtain ⟨h1, h2, h3, h4, h5, h6⟩ := h.new ho hp hl hn
  exact h1.put (A' := { A with o := ⟨a, n, c⟩ }) (g' := { g with o := l }) ⟨h1.own.i, h1.own.v, h2, h1.own.l, h1.own.iv, h4, h5, h1.own.bi, h1.own.bv, h3, h1.own.iz, h1.own.vz, hn, h1.own.lz⟩ (Nat.le_refl _) (i := 3) (v := .slice a n c) rfl
/-- a line is laid in: its terms were made behind B, its row was appended to -/
theorem PgX.putL {a' : Option Addr} {n' c' B : Nat} {x : SA × LN} {l : List (SA × LN)} (h : PgX w0 p q lo hi A g bad R w) (hl : LOwn (fun _ => True) w lo A.l.a A.l.n A.l.c l) (hbd : LBd lo hi A.l.a l) (hm : l.map (·.2) = g.l) (hx : LO (fun _ => True) w B x) (hB : hi ≤ B) (hlB : lo ≤ B) (hn' : n' = A.l.n + 1) (hz : n' ≤ 1048576)
    (hr : OwnF 2 encLn (fun _ => True) 63 w' lo a' n' c' (l ++ [x])) (hb : Below lo w w') (ho : OthT 63 w w') :
    PgX w0 p q lo w'.heap.size { A with l := ⟨a', n', c'⟩ } { g with l := g.l ++ [x.2] } bad R (w'.setCell ⟨q, 5, none⟩ (.slice a' n' c')) := by
  subst hn'
  have h1 := h.pq
  have h2 := h.q0
  have h3 := h.ql
  have hsz := hb.size
  have hL := LOwn.app hl hx (fun y hy g e => by have := (hbd.2 y hy g e).2; omega) hlB hr ho
  have up : ∀ {b : Option Addr}, inL lo hi b → inL lo w'.heap.size b := fun hb g e => ⟨(hb g e).1, by have := (hb g e).2; have := h.hi9; omega⟩
  have hI := h.own.i.oth ho (by decide)
  have hV := h.own.v.oth ho (by decide)
  have hO := h.own.o.oth ho (by decide)
  exact (h.y.keepB hb).put (A' := { A with l := ⟨a', A.l.n + 1, c'⟩ }) (g' := { g with l := g.l ++ [x.2] }) ⟨hI, hV, hO, ⟨l ++ [x], hL, hL.bd, by rw [List.map_append, hm]; rfl⟩, h.own.iv, h.own.io, h.own.vo, up h.own.bi, up h.own.bv, up h.own.bo, h.own.iz, h.own.vz, h.own.oz, hz⟩ (Nat.le_refl _) (i := 5) (v := .slice a' (A.l.n + 1) c') rfl
end
end Go.Proofs.YtjneodmohkpckaaGreatDoor
