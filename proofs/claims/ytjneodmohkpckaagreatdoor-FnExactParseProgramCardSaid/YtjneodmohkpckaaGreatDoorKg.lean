/- The program's parser: a program, walked. (Printed by mkkg.py.) -/
import Derived.Test.YtjneodmohkpckaaGreatDoorY4
import Derived.Test.YtjneodmohkpckaaGreatDoorWs
namespace Go.Proofs.YtjneodmohkpckaaGreatDoor
open Go.RowKit
set_option linter.unusedVariables false
set_option linter.unusedSimpArgs false
attribute [local go_sem ↓] Go.wp_at_zero Go.wp_at_succ
theorem Tryz.infoLine : (Tryz.prog.info? 63).map (fun i => (i.zero, i.size, i.bytes)) = some (some (.agg #[.string ⟨#[]⟩, .slice none 0 0]), 2, 40) := by kernel_rfl
/-- append of a record: blocks of other types are as they were -/
theorem appTyB {α : Type} {k : Nat} {enc : α → List Value} {ok : α → Prop} {zv : Value} {by' : Nat} {P : Program} {w : World} {ops : Array Oper} {rest : List Oper} {o : Oper} {act : Act} {Q : Exit → Act → World → Prop} {cs : Array Value} {t e : TypeId} (y : α) (hgd : o.guard = none) (s x : Operand)
    (ho : o.op = .call { callee := .builtin .append, args := #[s, x], argTypes := #[t, t] }) (ht : P.underlying t = some (.slice e)) (hinfo : (P.info? e).map (fun i => (i.zero, i.size, i.bytes)) = some (some zv, k, by'))
    (hzs : zv.cells.size = k) (hk : 0 < k) (hby : by' ≤ 128) (hone : ∀ y : α, ∀ u ∈ enc y, u.oneCell' = true)
    (base : Nat) (a : Option Addr) (n c : Nat) (l : List α) (hown : OwnF k enc ok e w base a n c l) (hs : act.eval s = .slice a n c) (gx : Nat) (hx : act.eval x = .slice (some ⟨gx, 0, none⟩) 1 1) (hg : gx = w.heap.size) (hcs : cs = (enc y).toArray) (hok2 : ok y)
    (hn : n ≤ 4194303) (hbase : base ≤ w.heap.size)
    (K : ∀ a' c' w', OwnF k enc ok e w' base a' (n + 1) c' (l ++ [y]) → Below base w w' → OthT e w w' → wpList P ops Q rest (act.put o.dst (.slice a' (n + 1) c')) w') : wpList P ops Q (o :: rest) act (w.alloc (.cells cs e)) := by
  refine appAtL (m := 1) (l2 := [y]) hgd s x ho ht hinfo hzs hk hby hone base a n c l hown hs gx hx hg (by rw [hcs]; simp) rfl (fun z hz => by simp at hz; rw [hz]; exact hok2) (by decide) (by omega) (by decide) hbase ?_
  intro g' c' w' h1 h2 h3 _ _
  refine K _ c' w' h1 h2 ?_
  intro g cur T hh hT
  have hlt : g < w.heap.size := Nat.lt_of_not_le fun h => by rw [Array.getElem?_eq_none h] at hh; cases hh
  refine h3.block g hlt ?_
  intro eo
  have ha : a = some ⟨g, 0, none⟩ := by
    rcases hown.1.2 with ⟨he, _⟩ | ⟨q, cap, cu, he, _⟩
    · simp only [Value.slice.injEq] at he
      rw [he.1] at eo; simp [Value.ownBlock] at eo
    · simp only [Value.slice.injEq] at he
      obtain ⟨rfl, _⟩ := he
      simp [Value.ownBlock] at eo; rw [eo]
  obtain ⟨cur2, hc2⟩ := hown.ty9 ha
  rw [hh] at hc2
  simp only [Option.some.injEq, Obj.cells.injEq] at hc2
  exact hT hc2.2.1
theorem varP_no {L : List TR} (h : isT L [118, 97, 114] = false) : varP L = some ([], L) := by rw [varP, if_neg (by rw [h]; decide)]
theorem varP_yes {L : List TR} (h : isT L [118, 97, 114] = true) : varP L = listP L.tail := by rw [varP, if_pos h]
theorem guardP_no {L : List TR} (h : isT L [103, 117, 97, 114, 100] = false) : guardP L = some (⟨#[]⟩, L) := by rw [guardP, if_neg (by rw [h]; decide)]
theorem guardP_yes {L : List TR} (h : isT L [103, 117, 97, 114, 100] = true) : guardP L = (nameP L.tail).bind fun q => (wantP [59] q.2).bind fun L3 => some (q.1, L3) := by rw [guardP, if_pos h]
theorem b01_cut2 {b : Bool} {m n : Nat} (h : m ≤ n) (h2 : b = true ∨ m + 1 ≤ n) : m + (if b = true then 0 else 1) ≤ n := by
  rcases h2 with h2 | h2
  · rw [if_pos h2]; omega
  · have := b01_le b; omega
theorem PgOwn.le {ok : TM → Prop} {w : World} {lo lo' hi : Nat} {A : PgA} {p : PG} (h : PgOwn ok w lo hi A p) (hl : lo' ≤ lo) : PgOwn ok w lo' hi A p := by
  have m : ∀ {a : Option Addr}, inL lo hi a → inL lo' hi a := fun h g e => ⟨Nat.le_trans hl (h g e).1, (h g e).2⟩
  obtain ⟨l, h1, h2, h3⟩ := h.l
  exact ⟨h.i.le hl, h.v.le hl, h.o.le hl, ⟨l, h1.le hl, ⟨m h2.1, fun x hx => m (h2.2 x hx)⟩, h3⟩, h.iv, h.io, h.vo, m h.bi, m h.bv, m h.bo, h.iz, h.vz, h.oz, h.lz⟩
theorem isT_pkI {L : List TR} {t : List UInt8} {q : Bool} (h : isT L t = q) : ((pkT L).toList == t) = q := by
  rw [← h, isT, ByteArray.toList_eq]
  rw [Bool.eq_iff_iff]
  simp
/-- a write that is far from the program's parts -/
theorem PgX.far {w0 w : World} {p q lo hi b i : Nat} {v : Value} {A : PgA} {g : PG} {bad : Bool} {R : List TR} (h : PgX w0 p q lo hi A g bad R w) (hb : hi ≤ b) (hl : lo ≤ b) : PgX w0 p q lo hi A g bad R (w.setCell ⟨b, i, none⟩ v) := by
  have h1 := h.pq
  have h2 := h.q0
  have h3 := h.ql
  have ho : Only b (b + 1) w (w.setCell ⟨b, i, none⟩ v) := only_p i v
  have hB : Below b w (w.setCell ⟨b, i, none⟩ v) := (Below.refl _ _).setCell (by exact Nat.le_refl _) _
  exact ⟨h.own.only ho h.hi9 (.inl hb), Nat.le_trans h.hi9 ho.size, h.x.apart ho (.inl (by omega)), h.ps.keepB hB (by omega), h.ev.keepB hB (by omega), h.on.setN (by omega) i v, h1, h2, h3, Nat.le_trans h.lw ho.size⟩
/-- the parts, read off -/
theorem PgX.ln {w0 w : World} {p q lo hi : Nat} {A : PgA} {g : PG} {bad : Bool} {R : List TR} (h : PgX w0 p q lo hi A g bad R w) : g.l.length = A.l.n := h.own.l.len
/-- what the reader of a program leaves -/
def PPg (o : Option (PG × List TR)) (p : Nat) (w : World) (e : Ending) (w' : World) : Prop := ∃ (A : PgA) (g : PG) (bad : Bool) (L : List TR), e = .returned (.agg (pgCs A g)) ∧ PgOwn (fun _ => True) w' w.heap.size w'.heap.size A g ∧ PSt w' p bad L ∧ Only p (p + 1) w w' ∧ o = (if bad = true then none else some (g, L))
set_option maxRecDepth 100000 in
set_option maxHeartbeats 8000000 in
theorem impl_program {w : World} {p : Nat} {bad : Bool} {R : List TR} (hP : PSt w p bad R) (hE : EV w p) : Calls Tryz.prog 52 #[.pointer (some ⟨p, 0, none⟩)] w (PPg (if bad = true then none else pgR R) p w) := by
  have hp0 := hP.lt
  obtain ⟨O, hO⟩ : ∃ o, o = (if bad = true then none else pgR R) := ⟨_, rfl⟩
  rw [← hO]
  rw [pgR_K] at hO
  have HC := Lib.hid hO
  obtain ⟨wI, hwI⟩ : ∃ v, v = (w.alloc (.cells (pgCs PgA.no PG.no) 27)).alloc (.cells (pgCs PgA.no PG.no) 27) := ⟨_, rfl⟩
  have hs0 : (w.alloc (.cells (pgCs PgA.no PG.no) 27)).heap.size = w.heap.size + 1 := Array.size_push _
  have hbI : Below w.heap.size w wI := by rw [hwI]; exact below_callS (below_alloc1 (Below.refl _ _) _) (below_alloc1 (Below.refl _ _) _)
  have hsI : wI.heap.size = w.heap.size + 2 := by rw [hwI]; show (Array.push _ _).size = _; rw [Array.size_push]; omega
  have HR := Lib.hid (show Blk wI w.heap.size (pgCs PgA.no PG.no) 27 by rw [hwI]; exact (Blk.made w _ _).keep (below_alloc1 (Below.refl _ _) _))
  have X := Lib.hid (show PgX w p (w.heap.size + 1) wI.heap.size wI.heap.size PgA.no PG.no bad R wI from
    ⟨PgOwn.no _ _ _, Nat.le_refl _, by rw [hwI, ← hs0]; exact Blk.made _ _ _, hP.keep hbI, hE.keep hbI, Only.of_below hbI, hp0, by omega, by omega, Nat.le_refl _⟩)
  clear hP hE hO hbI hs0
  go_enter Tryz.func52, Tryz.ntmps52
  go_upto_region 2 with fail
  rw [show (World.alloc (World.alloc w (.cells #[.string ⟨#[]⟩, .slice none 0 0, .slice none 0 0, .slice none 0 0, .string ⟨#[]⟩, .slice none 0 0] 27)) (.cells #[.string ⟨#[]⟩, .slice none 0 0, .slice none 0 0, .slice none 0 0, .string ⟨#[]⟩, .slice none 0 0] 27)) = wI from hwI.symm]
  obtain ⟨q, hq⟩ : ∃ v, v = w.heap.size + 1 := ⟨_, rfl⟩
  rw [← hq] at X ⊢
  have hq1 : w.heap.size + 1 ≤ q := by omega
  have hq2 : q ≤ w.heap.size + 1 := by omega
  obtain ⟨lo, hlo⟩ : ∃ v, v = wI.heap.size := ⟨_, rfl⟩
  rw [← hlo] at X
  have hl1 : q < lo := by omega
  clear hwI hq hlo hsI
  go_wp2_with fail
  refine Calls.mono (impl_expectL (t := [112, 114, 111, 103, 114, 97, 109]) X.out.ps (by decide)) ?_
  rintro e v1 ⟨⟨v, rfl⟩, hp, ho⟩
  replace HR := Lib.hid (HR.out.apart ho (.inr (by omega)))
  replace X := Lib.hid (X.out.step ho hp)
  replace HC := Lib.hid (st_want HC.out)
  (try dsimp only at HC)
  clear ho hp
  obtain ⟨bv1, ebv1⟩ : ∃ v, v = (bad || !isT R [112, 114, 111, 103, 114, 97, 109]) := ⟨_, rfl⟩
  obtain ⟨Rv1, eRv1⟩ : ∃ v, v = exL R [112, 114, 111, 103, 114, 97, 109] := ⟨_, rfl⟩
  rw [← ebv1, ← eRv1] at X HC
  clear ebv1 eRv1
  go_wp2_with fail
  refine Calls.mono (impl_name X.out.ps X.out.ev.kw (by have := X.out.ev.n1; omega)) ?_
  rintro e v2 ⟨rfl, hp, ho⟩
  replace HR := Lib.hid (HR.out.apart ho (.inr (by omega)))
  replace X := Lib.hid (X.out.step ho hp)
  replace HC := Lib.hid (st_name HC.out)
  (try dsimp only at HC)
  clear ho hp
  obtain ⟨sv2, esv2⟩ : ∃ v, v = (tkOf Rv1).t := ⟨_, rfl⟩
  rw [← esv2] at HC ⊢
  clear esv2
  obtain ⟨bv2, ebv2⟩ : ∃ v, v = ((bv1 || List.isEmpty Rv1) || !nmB (tkOf Rv1)) := ⟨_, rfl⟩
  obtain ⟨Rv2, eRv2⟩ : ∃ v, v = List.tail Rv1 := ⟨_, rfl⟩
  rw [← ebv2, ← eRv2] at X HC
  clear ebv2 eRv2
  have yl := X.out.x.lt
  have yf := X.out.x.free
  have y0 := X.out.x.cell 0
  have y1 := X.out.x.cell 1
  have y2 := X.out.x.cell 2
  have y3 := X.out.x.cell 3
  have y4 := X.out.x.cell 4
  have y5 := X.out.x.cell 5
  simp only [pgCs, List.getElem?_toArray, List.getElem?_cons_zero, List.getElem?_cons_succ] at y0 y1 y2 y3 y4 y5
  obtain ⟨v3, hv3⟩ : ∃ v, v = World.setCell v2 ⟨q, 0, none⟩ (.string sv2) := ⟨_, rfl⟩
  have X2 := Lib.hid (X.out.putNm sv2)
  have HR2 := Lib.hid (HR.out.apart (only_p (p := q) 0 (.string sv2)) (.inl (by omega)))
  rw [← hv3] at X2 HR2
  go_upto_region 4 with fail
  rw [← hv3]
  clear hv3 X HR
  clear yl yf y0 y1 y2 y3 y4 y5
  obtain ⟨X, HR⟩ := And.intro X2 HR2
  clear X2 HR2
  go_wp2_with fail
  refine Calls.mono (impl_expectL (t := [59]) X.out.ps (by decide)) ?_
  rintro e v4 ⟨⟨v, rfl⟩, hp, ho⟩
  replace HR := Lib.hid (HR.out.apart ho (.inr (by omega)))
  replace X := Lib.hid (X.out.step ho hp)
  replace HC := Lib.hid (st_want HC.out)
  (try dsimp only at HC)
  clear ho hp
  obtain ⟨bv4, ebv4⟩ : ∃ v, v = (bv2 || !isT Rv2 [59]) := ⟨_, rfl⟩
  obtain ⟨Rv4, eRv4⟩ : ∃ v, v = exL Rv2 [59] := ⟨_, rfl⟩
  rw [← ebv4, ← eRv4] at X HC
  clear ebv4 eRv4
  go_wp2_with fail
  refine Calls.mono (impl_expectL (t := [105, 110]) X.out.ps (by decide)) ?_
  rintro e v5 ⟨⟨v, rfl⟩, hp, ho⟩
  replace HR := Lib.hid (HR.out.apart ho (.inr (by omega)))
  replace X := Lib.hid (X.out.step ho hp)
  replace HC := Lib.hid (st_want HC.out)
  (try dsimp only at HC)
  clear ho hp
  obtain ⟨bv5, ebv5⟩ : ∃ v, v = (bv4 || !isT Rv4 [105, 110]) := ⟨_, rfl⟩
  obtain ⟨Rv5, eRv5⟩ : ∃ v, v = exL Rv4 [105, 110] := ⟨_, rfl⟩
  rw [← ebv5, ← eRv5] at X HC
  clear ebv5 eRv5
  go_wp2_with fail
  refine Calls.mono (impl_names X.out.ps X.out.ev) ?_
  rintro e v6 ⟨av6, nv6, cv6, lv6, bv6, Rv6, rfl, hl, hp, ho, hn, hR, hq⟩
  have N8 := X.out.ps.n8
  replace HR := Lib.hid (HR.out.apart ho (.inr (by omega)))
  replace HC := Lib.hid (st_bind HC.out hq)
  (try dsimp only at HC)
  have X9 := Lib.hid (X.out.up.putI ho hp hl (by omega))
  replace X := Lib.hid (X.out.step ho hp)
  clear ho hp hl hn hR hq N8
  have yl := X.out.x.lt
  have yf := X.out.x.free
  have y0 := X.out.x.cell 0
  have y1 := X.out.x.cell 1
  have y2 := X.out.x.cell 2
  have y3 := X.out.x.cell 3
  have y4 := X.out.x.cell 4
  have y5 := X.out.x.cell 5
  simp only [pgCs, List.getElem?_toArray, List.getElem?_cons_zero, List.getElem?_cons_succ] at y0 y1 y2 y3 y4 y5
  obtain ⟨v7, hv7⟩ : ∃ v, v = World.setCell v6 ⟨q, 1, none⟩ (.slice av6 nv6 cv6) := ⟨_, rfl⟩
  have X2 := Lib.hid (X9.out)
  have HR2 := Lib.hid (HR.out.apart (only_p (p := q) 1 (.slice av6 nv6 cv6)) (.inl (by omega)))
  rw [← hv7] at X2 HR2
  go_upto_region 7 with fail
  rw [← hv7]
  clear hv7 X HR
  clear yl yf y0 y1 y2 y3 y4 y5
  obtain ⟨X, HR⟩ := And.intro X2 HR2
  clear X2 HR2 X9
  go_wp2_with fail
  refine Calls.mono (impl_accept (s := ⟨#[118, 97, 114]⟩) X.out.ps (by decide)) ?_
  rintro e v8 ⟨rfl, hp, ho⟩
  replace HR := Lib.hid (HR.out.apart ho (.inr (by omega)))
  replace X := Lib.hid (X.out.step ho hp)
  clear ho hp
  obtain ⟨tv8, etv8⟩ : ∃ v, v = isT Rv6 [118, 97, 114] := ⟨_, rfl⟩
  replace X := Lib.hid (show PgX _ _ _ _ _ _ _ _ (if tv8 = true then List.tail Rv6 else Rv6) v8 by rw [etv8]; exact X.out)
  rw [show isT Rv6 (⟨#[118, 97, 114]⟩ : ByteArray).data.toList = tv8 from etv8.symm]
  have ET := Lib.hid etv8
  clear etv8
  go_upto_if 18 with fail
  go_cut [] (fun wx => ∃ (A : PgA) (g : PG) (b : Bool) (R : List TR) (hi : Nat), Hid (PgX w p q lo hi A g b R wx) ∧ Hid (Blk wx w.heap.size (pgCs PgA.no PG.no) 27) ∧ Hid (O = if b = true then none else pgK1 g.nm g.i g.v R) ∧ g.g = ⟨#[]⟩ ∧ g.l = [])
  case first =>
    cases tv8
    · simp only [Bool.false_eq_true, if_false] at X
      have HC2 := Lib.hid (show O = if bv6 = true then none else pgK1 _ _ [] Rv6 by
        have h := HC.out
        rw [varP_no ET.out.symm] at h
        exact h)
      clear HC ET
      go_wp2_with fail
      go_meet
      exact ⟨_, _, _, _, _, X, HR, HC2, rfl, rfl⟩
    · simp only [if_true] at X
      replace HC := Lib.hid (show O = if bv6 = true then none else (listP (List.tail Rv6)).bind fun c => pgK1 _ _ c.1 c.2 by
        have h := HC.out
        rw [varP_yes ET.out.symm] at h
        exact h)
      clear ET
      go_wp2_with fail
      refine Calls.mono (impl_names X.out.ps X.out.ev) ?_
      rintro e v9 ⟨av9, nv9, cv9, lv9, bv9, Rv9, rfl, hl, hp, ho, hn, hR, hq⟩
      have N8 := X.out.ps.n8
      replace HR := Lib.hid (HR.out.apart ho (.inr (by omega)))
      replace HC := Lib.hid (st_bind HC.out hq)
      (try dsimp only at HC)
      have X9 := Lib.hid (X.out.up.putV ho hp hl (by omega))
      replace X := Lib.hid (X.out.step ho hp)
      clear ho hp hl hn hR hq N8
      have yl := X.out.x.lt
      have yf := X.out.x.free
      have y0 := X.out.x.cell 0
      have y1 := X.out.x.cell 1
      have y2 := X.out.x.cell 2
      have y3 := X.out.x.cell 3
      have y4 := X.out.x.cell 4
      have y5 := X.out.x.cell 5
      simp only [pgCs, List.getElem?_toArray, List.getElem?_cons_zero, List.getElem?_cons_succ] at y0 y1 y2 y3 y4 y5
      obtain ⟨v10, hv10⟩ : ∃ v, v = World.setCell v9 ⟨q, 2, none⟩ (.slice av9 nv9 cv9) := ⟨_, rfl⟩
      have X2 := Lib.hid (X9.out)
      have HR2 := Lib.hid (HR.out.apart (only_p (p := q) 2 (.slice av9 nv9 cv9)) (.inl (by omega)))
      rw [← hv10] at X2 HR2
      go_wp2_with fail
      rw [← hv10]
      clear hv10 X HR
      clear yl yf y0 y1 y2 y3 y4 y5
      obtain ⟨X, HR⟩ := And.intro X2 HR2
      clear X2 HR2 X9
      go_meet
      exact ⟨_, _, _, _, _, X, HR, HC, rfl, rfl⟩
  case rest =>
    clear X HR HC ET
    obtain ⟨A, g, b, R, hi, X, HR, HC, eg, el⟩ := hcut
    replace HC := Lib.hid (show O = if b = true then none else (wantP [111, 117, 116] R).bind fun L4 => (listP L4).bind fun d => (guardP d.2).bind fun h => pgK2 g.nm g.i g.v d.1 h.1 h.2 from HC.out)
    obtain ⟨wd, hwd⟩ : ∃ x : World, x = wc := ⟨_, rfl⟩
    subst hwd
    go_wp2_with fail
    refine Calls.mono (impl_expectL (t := [111, 117, 116]) X.out.ps (by decide)) ?_
    rintro e v11 ⟨⟨v, rfl⟩, hp, ho⟩
    replace HR := Lib.hid (HR.out.apart ho (.inr (by omega)))
    replace X := Lib.hid (X.out.step ho hp)
    replace HC := Lib.hid (st_want HC.out)
    (try dsimp only at HC)
    clear ho hp
    obtain ⟨bv11, ebv11⟩ : ∃ v, v = (b || !isT R [111, 117, 116]) := ⟨_, rfl⟩
    obtain ⟨Rv11, eRv11⟩ : ∃ v, v = exL R [111, 117, 116] := ⟨_, rfl⟩
    rw [← ebv11, ← eRv11] at X HC
    clear ebv11 eRv11
    go_wp2_with fail
    refine Calls.mono (impl_names X.out.ps X.out.ev) ?_
    rintro e v12 ⟨av12, nv12, cv12, lv12, bv12, Rv12, rfl, hl, hp, ho, hn, hR, hq⟩
    have N8 := X.out.ps.n8
    replace HR := Lib.hid (HR.out.apart ho (.inr (by omega)))
    replace HC := Lib.hid (st_bind HC.out hq)
    (try dsimp only at HC)
    have X9 := Lib.hid (X.out.up.putO ho hp hl (by omega))
    replace X := Lib.hid (X.out.step ho hp)
    clear ho hp hl hn hR hq N8
    have yl := X.out.x.lt
    have yf := X.out.x.free
    have y0 := X.out.x.cell 0
    have y1 := X.out.x.cell 1
    have y2 := X.out.x.cell 2
    have y3 := X.out.x.cell 3
    have y4 := X.out.x.cell 4
    have y5 := X.out.x.cell 5
    simp only [pgCs, List.getElem?_toArray, List.getElem?_cons_zero, List.getElem?_cons_succ] at y0 y1 y2 y3 y4 y5
    obtain ⟨v13, hv13⟩ : ∃ v, v = World.setCell v12 ⟨q, 3, none⟩ (.slice av12 nv12 cv12) := ⟨_, rfl⟩
    have X2 := Lib.hid (X9.out)
    have HR2 := Lib.hid (HR.out.apart (only_p (p := q) 3 (.slice av12 nv12 cv12)) (.inl (by omega)))
    rw [← hv13] at X2 HR2
    go_upto_region 11 with fail
    rw [← hv13]
    clear hv13 X HR
    clear yl yf y0 y1 y2 y3 y4 y5
    obtain ⟨X, HR⟩ := And.intro X2 HR2
    clear X2 HR2 X9
    go_wp2_with fail
    refine Calls.mono (impl_accept (s := ⟨#[103, 117, 97, 114, 100]⟩) X.out.ps (by decide)) ?_
    rintro e v14 ⟨rfl, hp, ho⟩
    replace HR := Lib.hid (HR.out.apart ho (.inr (by omega)))
    replace X := Lib.hid (X.out.step ho hp)
    clear ho hp
    obtain ⟨tv14, etv14⟩ : ∃ v, v = isT Rv12 [103, 117, 97, 114, 100] := ⟨_, rfl⟩
    replace X := Lib.hid (show PgX _ _ _ _ _ _ _ _ (if tv14 = true then List.tail Rv12 else Rv12) v14 by rw [etv14]; exact X.out)
    rw [show isT Rv12 (⟨#[103, 117, 97, 114, 100]⟩ : ByteArray).data.toList = tv14 from etv14.symm]
    have ET := Lib.hid etv14
    clear etv14
    go_upto_if 28 with fail
    go_cut [] (fun wx => ∃ (A : PgA) (g : PG) (b : Bool) (R : List TR) (hi : Nat), Hid (PgX w p q lo hi A g b R wx) ∧ Hid (Blk wx w.heap.size (pgCs PgA.no PG.no) 27) ∧ Hid (O = if b = true then none else pgK2 g.nm g.i g.v g.o g.g R) ∧ g.l = [])
    case first =>
      cases tv14
      · simp only [Bool.false_eq_true, if_false] at X
        have HC2 := Lib.hid (show O = if bv12 = true then none else pgK2 _ _ _ _ ⟨#[]⟩ Rv12 by
          have h := HC.out
          rw [guardP_no ET.out.symm] at h
          exact h)
        rw [← eg] at HC2
        clear HC ET
        go_wp2_with fail
        go_meet
        exact ⟨_, _, _, _, _, X, HR, HC2, el⟩
      · simp only [if_true] at X
        replace HC := Lib.hid (show O = if bv12 = true then none else (nameP (List.tail Rv12)).bind fun c => (wantP [59] c.2).bind fun L3 => pgK2 _ _ _ _ c.1 L3 by
          have h := HC.out
          rw [guardP_yes ET.out.symm] at h
          simp only [Option.bind_assoc] at h
          exact h)
        clear ET
        go_wp2_with fail
        refine Calls.mono (impl_name X.out.ps X.out.ev.kw (by have := X.out.ev.n1; omega)) ?_
        rintro e v15 ⟨rfl, hp, ho⟩
        replace HR := Lib.hid (HR.out.apart ho (.inr (by omega)))
        replace X := Lib.hid (X.out.step ho hp)
        replace HC := Lib.hid (st_name HC.out)
        (try dsimp only at HC)
        clear ho hp
        obtain ⟨sv15, esv15⟩ : ∃ v, v = (tkOf (List.tail Rv12)).t := ⟨_, rfl⟩
        rw [← esv15] at HC ⊢
        clear esv15
        obtain ⟨bv15, ebv15⟩ : ∃ v, v = ((bv12 || List.isEmpty (List.tail Rv12)) || !nmB (tkOf (List.tail Rv12))) := ⟨_, rfl⟩
        obtain ⟨Rv15, eRv15⟩ : ∃ v, v = List.tail (List.tail Rv12) := ⟨_, rfl⟩
        rw [← ebv15, ← eRv15] at X HC
        clear ebv15 eRv15
        have yl := X.out.x.lt
        have yf := X.out.x.free
        have y0 := X.out.x.cell 0
        have y1 := X.out.x.cell 1
        have y2 := X.out.x.cell 2
        have y3 := X.out.x.cell 3
        have y4 := X.out.x.cell 4
        have y5 := X.out.x.cell 5
        simp only [pgCs, List.getElem?_toArray, List.getElem?_cons_zero, List.getElem?_cons_succ] at y0 y1 y2 y3 y4 y5
        obtain ⟨v16, hv16⟩ : ∃ v, v = World.setCell v15 ⟨q, 4, none⟩ (.string sv15) := ⟨_, rfl⟩
        have X2 := Lib.hid (X.out.putG sv15)
        have HR2 := Lib.hid (HR.out.apart (only_p (p := q) 4 (.string sv15)) (.inl (by omega)))
        rw [← hv16] at X2 HR2
        go_upto_region 13 with fail
        rw [← hv16]
        clear hv16 X HR
        clear yl yf y0 y1 y2 y3 y4 y5
        obtain ⟨X, HR⟩ := And.intro X2 HR2
        clear X2 HR2
        go_wp2_with fail
        refine Calls.mono (impl_expectL (t := [59]) X.out.ps (by decide)) ?_
        rintro e v17 ⟨⟨v, rfl⟩, hp, ho⟩
        replace HR := Lib.hid (HR.out.apart ho (.inr (by omega)))
        replace X := Lib.hid (X.out.step ho hp)
        replace HC := Lib.hid (st_want HC.out)
        (try dsimp only at HC)
        clear ho hp
        obtain ⟨bv17, ebv17⟩ : ∃ v, v = (bv15 || !isT Rv15 [59]) := ⟨_, rfl⟩
        obtain ⟨Rv17, eRv17⟩ : ∃ v, v = exL Rv15 [59] := ⟨_, rfl⟩
        rw [← ebv17, ← eRv17] at X HC
        clear ebv17 eRv17
        go_wp2_with fail
        go_meet
        exact ⟨_, _, _, _, _, X, HR, HC, el⟩
    case rest =>
      clear X HR HC ET eg el
      obtain ⟨A, g, b, R, hi, X, HR, HC, el⟩ := hcut
      replace HC := Lib.hid (show O = if b = true then none else (linesP (R.length + 1) g.l R).bind fun l => pgK3 ⟨g.nm, g.i, g.v, g.o, g.g, l.1⟩ l.2 by rw [el]; exact HC.out)
      have N8 := X.out.ps.n8
      have hAl : A.l.n = 0 := by rw [← X.out.ln, el]; rfl
      have hb9 := b01_le b
      obtain ⟨we, hwe⟩ : ∃ x : World, x = wc := ⟨_, rfl⟩
      subst hwe
      clear el
      go_wp2_with fail
      go_loopg [4] (R.length + 1) (fun gg s4 wr => ∃ (A : PgA) (g : PG) (b : Bool) (R' : List TR) (hi fu : Nat), R'.length + (if b = true then 0 else 1) ≤ gg ∧ (b = true ∨ R'.length < fu) ∧ A.l.n + R'.length + (if b = true then 0 else 1) ≤ R.length + 1 ∧ Hid (PgX w p q lo hi A g b R' wr) ∧ Hid (Blk wr w.heap.size (pgCs PgA.no PG.no) 27) ∧ Hid (O = if b = true then none else (linesP fu g.l R').bind fun l => pgK3 ⟨g.nm, g.i, g.v, g.o, g.g, l.1⟩ l.2))
      case atStart => exact ⟨A, g, b, R, hi, R.length + 1, by omega, .inr (by omega), by omega, X, HR, HC⟩
      case round =>
        clear X HR HC hAl hb9
        obtain ⟨A, g, b, R', hi, fu, hgg, hfu, hAn, X, HR, HC⟩ := hrel
        obtain ⟨cB, hcB⟩ : ∃ c, c = (!b && (decide (A.l.n = 0) || !isT R' [101, 110, 100])) := ⟨_, rfl⟩
        have HCB := Lib.hid hcB
        go_upto_region 14 with fail
        go_cut [49] (fun s49 wx => s49 = .bool cB ∧ wx = wr)
        case first =>
          obtain ⟨ta, tn, tc, x0, x1, xl, hxl⟩ := X.out.ps.bd
          clear x0 hxl
          have yl := X.out.x.lt
          have yf := X.out.x.free
          have y0 := X.out.x.cell 0
          have y1 := X.out.x.cell 1
          have y2 := X.out.x.cell 2
          have y3 := X.out.x.cell 3
          have y4 := X.out.x.cell 4
          have y5 := X.out.x.cell 5
          simp only [pgCs, List.getElem?_toArray, List.getElem?_cons_zero, List.getElem?_cons_succ] at y0 y1 y2 y3 y4 y5
          cases b
          · have hln : g.l.length = A.l.n := X.out.ln
            by_cases hz : A.l.n = 0
            · have hz2 : ((A.l.n : Int) == 0) = true := by rw [hz]; rfl
              have e : cB = true := by rw [hcB, decide_eq_true hz]; rfl
              subst e
              clear hcB
              go_wp2_with fail
              go_meet
              exact ⟨rfl, rfl⟩
            · have hz2 : ((A.l.n : Int) == 0) = false := by rw [beq_eq_false_iff_ne]; omega
              obtain ⟨t, ht⟩ : ∃ t, isT R' [101, 110, 100] = t := ⟨_, rfl⟩
              have e : cB = !t := by rw [hcB, decide_eq_false hz, ht]; rfl
              have f1 := isT_pkI ht
              have f2 : ((pkT R').toList != [101, 110, 100]) = !t := by rw [bne, f1]
              subst e
              clear hcB HCB
              go_wp2_with fail
              refine Calls.mono (impl_peek X.out.ps) ?_
              rintro e _ ⟨rfl, rfl⟩
              cases t
              · go_wp2_with fail
                go_meet
                exact ⟨rfl, rfl⟩
              · go_wp2_with fail
                go_meet
                exact ⟨rfl, rfl⟩
          · have e : cB = false := by rw [hcB]; rfl
            subst e
            clear hcB
            go_wp2_with fail
            go_meet
            exact ⟨rfl, rfl⟩
        case rest =>
          obtain ⟨rfl, rfl⟩ := hcut
          cases cB
          · replace HC := Lib.hid (show O = if b = true then none else (wantP [101, 110, 100] R').bind fun L5 => (wantP [59] L5).bind fun L6 => some (g, L6) by
              have h := HC.out
              have hc := HCB.out
              rw [h]
              cases b
              · simp only [Bool.false_eq_true, if_false]
                simp only [Bool.not_false, Bool.true_and] at hc
                have hc2 := hc.symm
                simp only [Bool.or_eq_false_iff, decide_eq_false_iff_not, Bool.not_eq_false'] at hc2
                obtain ⟨h1, h2⟩ := hc2
                have hln : g.l.length = A.l.n := X.out.ln
                obtain ⟨f, rfl⟩ : ∃ f, fu = f + 1 := ⟨fu - 1, by rcases hfu with h | h; cases h; omega⟩
                have h3 : g.l.isEmpty = false := by
                  cases hg : g.l with
                  | nil => rw [hg] at hln; simp at hln; omega
                  | cons x r => rfl
                exact lines_stop (by rw [h3, h2]; rfl)
              · rfl)
            go_wp2_with fail
            refine Calls.mono (impl_expectL (t := [101, 110, 100]) X.out.ps (by decide)) ?_
            rintro e v18 ⟨⟨v, rfl⟩, hp, ho⟩
            replace HR := Lib.hid (HR.out.apart ho (.inr (by omega)))
            replace X := Lib.hid (X.out.step ho hp)
            replace HC := Lib.hid (st_want HC.out)
            (try dsimp only at HC)
            clear ho hp
            obtain ⟨bv18, ebv18⟩ : ∃ v, v = (b || !isT R' [101, 110, 100]) := ⟨_, rfl⟩
            obtain ⟨Rv18, eRv18⟩ : ∃ v, v = exL R' [101, 110, 100] := ⟨_, rfl⟩
            rw [← ebv18, ← eRv18] at X HC
            clear ebv18 eRv18
            go_wp2_with fail
            refine Calls.mono (impl_expectL (t := [59]) X.out.ps (by decide)) ?_
            rintro e v19 ⟨⟨v, rfl⟩, hp, ho⟩
            replace HR := Lib.hid (HR.out.apart ho (.inr (by omega)))
            replace X := Lib.hid (X.out.step ho hp)
            replace HC := Lib.hid (st_want HC.out)
            (try dsimp only at HC)
            clear ho hp
            obtain ⟨bv19, ebv19⟩ : ∃ v, v = (bv18 || !isT Rv18 [59]) := ⟨_, rfl⟩
            obtain ⟨Rv19, eRv19⟩ : ∃ v, v = exL Rv18 [59] := ⟨_, rfl⟩
            rw [← ebv19, ← eRv19] at X HC
            clear ebv19 eRv19
            have yl := X.out.x.lt
            have yf := X.out.x.free
            have y0 := X.out.x.cell 0
            have y1 := X.out.x.cell 1
            have y2 := X.out.x.cell 2
            have y3 := X.out.x.cell 3
            have y4 := X.out.x.cell 4
            have y5 := X.out.x.cell 5
            simp only [pgCs, List.getElem?_toArray, List.getElem?_cons_zero, List.getElem?_cons_succ] at y0 y1 y2 y3 y4 y5
            go_wp2_with (refine wpList_store_blk (vs := pgCs A g) rfl 27 _ _ rfl rfl rfl HR.out rfl (by kernel_rfl) (by simp [pgCs, Value.oneCell']) ?_; intro V hV hgV hsV)
            have z0 := hV.cell 0
            have z1 := hV.cell 1
            have z2 := hV.cell 2
            have z3 := hV.cell 3
            have z4 := hV.cell 4
            have z5 := hV.cell 5
            have zl := hV.lt
            have zf := hV.free
            simp only [pgCs, List.getElem?_toArray, List.getElem?_cons_zero, List.getElem?_cons_succ] at z0 z1 z2 z3 z4 z5
            have hrl := HR.out.lt
            have hB : Below w.heap.size v19 V := (Below.refl w.heap.size v19).grown hgV (by omega) (fun k e => by cases e; exact Nat.le_refl _)
            have hO : Only w.heap.size (w.heap.size + 1) v19 V := (Only.refl _ _ v19).grown hgV (fun k e => by cases e; exact ⟨Nat.le_refl _, Nat.lt_succ_self _⟩)
            have RES : PPg O p w (.returned (.agg (pgCs A g))) V := ⟨A, g, bv19, Rv19, rfl, ((X.out.up.own.only hO (Nat.le_refl _) (.inr (by omega))).hi hO.size).le (by omega), X.out.ps.keepB hB hp0, X.out.on.thenB hB (Nat.le_refl _), HC.out⟩
            have HRES := Lib.hid RES
            clear RES hB hO X HR HC yl yf y0 y1 y2 y3 y4 y5 hgV hsV hV
            go_wp2_with fail
            exact bodyPost_ret (v := .agg #[.string g.nm, .slice A.i.a A.i.n A.i.c, .slice A.v.a A.v.n A.v.c, .slice A.o.a A.o.n A.o.c, .string g.g, .slice A.l.a A.l.n A.l.c]) (by simp [results, Tryz.results52, go_sem, *]) rfl HRES.out
          · obtain ⟨hbf, hcf⟩ : b = false ∧ (!g.l.isEmpty && isT R' [101, 110, 100]) = false := by
              have hc := HCB.out.symm
              simp only [Bool.and_eq_true, Bool.not_eq_true', Bool.or_eq_true, decide_eq_true_eq] at hc
              refine ⟨hc.1, ?_⟩
              have hln : g.l.length = A.l.n := X.out.ln
              rcases hc.2 with h | h
              · have : g.l = [] := List.length_eq_zero_iff.1 (by omega)
                rw [this]; rfl
              · rw [h, Bool.and_false]
            subst hbf
            simp only [Bool.false_eq_true, if_false, false_or] at hgg hfu hAn
            obtain ⟨f, rfl⟩ : ∃ f, fu = f + 1 := ⟨fu - 1, by omega⟩
            replace HC := Lib.hid (show O = if false = true then none else (nameP R').bind fun r => (wantP [61] r.2).bind fun L2 => (prs (8 * L2.length + 5) .ex L2).bind fun q => (wantP [59] q.2).bind fun L3 => (linesP f (g.l ++ [⟨r.1, q.1⟩]) L3).bind fun l => pgK3 ⟨g.nm, g.i, g.v, g.o, g.g, l.1⟩ l.2 by
              have h := HC.out
              rw [lines_go hcf] at h
              exact h)
            replace X := Lib.hid X.out.up
            have HZ := Lib.hid (tk_sz X.out.ps.sz)
            have hlw := X.out.lw
            clear hcB HCB hcf
            go_wp2_with fail
            refine Calls.mono (impl_name X.out.ps X.out.ev.kw (by have := X.out.ev.n1; omega)) ?_
            rintro e v20 ⟨rfl, hp, ho⟩
            replace HR := Lib.hid (HR.out.apart ho (.inr (by omega)))
            replace X := Lib.hid (X.out.step ho hp)
            replace HC := Lib.hid (st_name HC.out)
            (try dsimp only at HC)
            clear ho hp
            obtain ⟨sv20, esv20⟩ : ∃ v, v = (tkOf R').t := ⟨_, rfl⟩
            have hsmv20 := Lib.hid (show sv20.size ≤ maxLen by rw [esv20]; have := HZ.out; unfold maxLen; omega)
            rw [← esv20] at HC ⊢
            clear esv20
            obtain ⟨bv20, ebv20⟩ : ∃ v, v = ((false || List.isEmpty R') || !nmB (tkOf R')) := ⟨_, rfl⟩
            obtain ⟨Rv20, eRv20⟩ : ∃ v, v = List.tail R' := ⟨_, rfl⟩
            rw [← ebv20, ← eRv20] at X HC
            have hlv20 : Rv20.length ≤ R'.length := by rw [eRv20]; simp
            have hbv20 : bv20 = true ∨ Rv20.length + 1 = R'.length := by
              cases hR : R' with
              | nil => left; rw [ebv20, hR]; simp
              | cons x y => right; rw [eRv20, hR]; rfl
            clear ebv20 eRv20
            have hszv20 := X.out.hi9
            obtain ⟨w3, hw3⟩ : ∃ v, v = v20.alloc (.cells #[.string sv20, .slice none 0 0] 63) := ⟨_, rfl⟩
            have hb3 : Below v20.heap.size v20 w3 := by rw [hw3]; exact below_alloc1 (Below.refl _ _) _
            have BL := Lib.hid (show Blk w3 v20.heap.size #[.string sv20, .slice none 0 0] 63 by rw [hw3]; exact Blk.made _ _ _)
            have hs3 := BL.out.lt
            replace HR := Lib.hid (HR.out.keep hb3)
            replace X := Lib.hid (X.out.keep hb3)
            obtain ⟨bx, hbx⟩ : ∃ v, v = v20.heap.size := ⟨_, rfl⟩
            rw [← hbx] at BL hs3 hszv20
            go_upto_region 16 with fail
            rw [← hw3, ← hbx]
            clear hw3 hb3 hbx
            go_wp2_with fail
            refine Calls.mono (impl_expectL (t := [61]) X.out.ps (by decide)) ?_
            rintro e v21 ⟨⟨v, rfl⟩, hp, ho⟩
            replace BL := Lib.hid (BL.out.apart ho (.inr (by omega)))
            have hszv21 := ho.size
            replace HR := Lib.hid (HR.out.apart ho (.inr (by omega)))
            replace X := Lib.hid (X.out.step ho hp)
            replace HC := Lib.hid (st_want HC.out)
            (try dsimp only at HC)
            clear ho hp
            obtain ⟨bv21, ebv21⟩ : ∃ v, v = (bv20 || !isT Rv20 [61]) := ⟨_, rfl⟩
            obtain ⟨Rv21, eRv21⟩ : ∃ v, v = exL Rv20 [61] := ⟨_, rfl⟩
            rw [← ebv21, ← eRv21] at X HC
            have hlv21 : Rv21.length ≤ Rv20.length := by rw [eRv21]; exact exL_len _ _
            have hbv21 : bv20 = true → bv21 = true := fun h => by rw [ebv21, h]; rfl
            clear ebv21 eRv21
            go_wp2_with fail
            refine Calls.mono (impl_expression_gen (impl_all (8 * Rv21.length + 5)) X.out.ps X.out.ev (fun _ => Nat.le_refl _)) ?_
            rintro e v22 ⟨a, n, c, ts, bv22, Rv22, rfl, hOT, hp, ho, hn, hq⟩
            have hszv22 := ho.size
            have hn8 := X.out.ps.n8
            have OT := Lib.hid hOT
            have hlv22 : Rv22.length ≤ Rv21.length := by have := b01_le bv21; (split at hn <;> omega)
            have hbv22 : bv21 = true → bv22 = true := fun h => by
              rw [h] at hq
              cases bv22
              · simp at hq
              · rfl
            replace BL := Lib.hid (BL.out.apart ho (.inr (by omega)))
            replace HR := Lib.hid (HR.out.apart ho (.inr (by omega)))
            replace HC := Lib.hid (st_bind HC.out hq)
            (try dsimp only at HC)
            replace X := Lib.hid (X.out.step ho hp)
            have hnz : n ≤ 100000 := by split at hn <;> omega
            clear ho hp hOT hq hn hn8
            have k0 := BL.out.cell 0
            have k1 := BL.out.cell 1
            have kl := BL.out.lt
            have kf := BL.out.free
            simp only [List.getElem?_toArray, List.getElem?_cons_zero, List.getElem?_cons_succ] at k0 k1
            obtain ⟨w6, hw6⟩ : ∃ v, v = World.setCell v22 ⟨bx, 1, none⟩ (.slice a n c) := ⟨_, rfl⟩
            have hon := only_p (w := v22) (p := bx) 1 (.slice a n c)
            have X2 := Lib.hid (X.out.far (i := 1) (v := .slice a n c) hszv20 (by omega))
            have HR2 := Lib.hid (HR.out.apart hon (.inl (by omega)))
            have OT2 := Lib.hid (OT.out.only hon (fun g e => .inr (by have := (OT.out.blk g e).1; omega)))
            have BL2 := Lib.hid (show Blk (World.setCell v22 ⟨bx, 1, none⟩ (.slice a n c)) bx #[.string sv20, .slice a n c] 63 from BL.out.set 1 (.slice a n c))
            have hs6 : v22.heap.size ≤ (World.setCell v22 ⟨bx, 1, none⟩ (.slice a n c)).heap.size := hon.size
            rw [← hw6] at X2 HR2 OT2 BL2 hs6
            go_upto_region 18 with fail
            rw [← hw6]
            clear hw6 hon X HR OT BL k0 k1 kl kf
            obtain ⟨X, HR, OT, BL⟩ := And.intro X2 (And.intro HR2 (And.intro OT2 BL2))
            clear X2 HR2 OT2 BL2
            go_wp2_with fail
            refine Calls.mono (impl_expectL (t := [59]) X.out.ps (by decide)) ?_
            rintro e v23 ⟨⟨v, rfl⟩, hp, ho⟩
            replace BL := Lib.hid (BL.out.apart ho (.inr (by omega)))
            replace OT := Lib.hid (OT.out.only ho (fun g e => .inr (by have := (OT.out.blk g e).1; omega)))
            have hszv23 := ho.size
            replace HR := Lib.hid (HR.out.apart ho (.inr (by omega)))
            replace X := Lib.hid (X.out.step ho hp)
            replace HC := Lib.hid (st_want HC.out)
            (try dsimp only at HC)
            clear ho hp
            obtain ⟨bv23, ebv23⟩ : ∃ v, v = (bv22 || !isT Rv22 [59]) := ⟨_, rfl⟩
            obtain ⟨Rv23, eRv23⟩ : ∃ v, v = exL Rv22 [59] := ⟨_, rfl⟩
            rw [← ebv23, ← eRv23] at X HC
            have hlv23 : Rv23.length ≤ Rv22.length := by rw [eRv23]; exact exL_len _ _
            have hbv23 : bv22 = true → bv23 = true := fun h => by rw [ebv23, h]; rfl
            clear ebv23 eRv23
            have yl := X.out.x.lt
            have yf := X.out.x.free
            have y0 := X.out.x.cell 0
            have y1 := X.out.x.cell 1
            have y2 := X.out.x.cell 2
            have y3 := X.out.x.cell 3
            have y4 := X.out.x.cell 4
            have y5 := X.out.x.cell 5
            simp only [pgCs, List.getElem?_toArray, List.getElem?_cons_zero, List.getElem?_cons_succ] at y0 y1 y2 y3 y4 y5
            have k0 := BL.out.cell 0
            have k1 := BL.out.cell 1
            have kl := BL.out.lt
            simp only [List.getElem?_toArray, List.getElem?_cons_zero, List.getElem?_cons_succ] at k0 k1
            obtain ⟨l, hl, hbd, hm⟩ := X.out.own.l
            have LL := Lib.hid hl
            have LB := Lib.hid hbd
            have LM := Lib.hid hm
            have lx := X.out.lw
            have hx9 := X.out.hi9
            have LX := Lib.hid (show LO (fun _ => True) v23 v21.heap.size ((⟨a, n, c⟩ : SA), (⟨sv20, ts⟩ : LN)) from ⟨hsmv20.out, OT.out, hnz⟩)
            clear hl hbd hm
            go_wp2_with (at_builtin; refine appTyB (k := 2) (enc := encLn) (ok := fun _ => True) ((⟨a, n, c⟩ : SA), (⟨sv20, ts⟩ : LN)) rfl _ _ rfl Tryz.underlying25 Tryz.infoLine rfl (by decide) (by decide) encLn_one lo _ _ _ l LL.out.row rfl _ rfl rfl rfl trivial (by omega) (by omega) ?_; intro aD cD wD hoD hbD htD; refine Hid.out ?_)
            have Y8 := Lib.hid (X.out.y.keepB hbD)
            have X8 := Lib.hid (X.out.putL LL.out LB.out LM.out LX.out (by omega) (by omega) rfl (by omega) hoD hbD htD)
            have HR8 := Lib.hid ((HR.out.keepB hbD (by omega)).apart (only_p (p := q) 5 (.slice aD (A.l.n + 1) cD)) (.inl (by omega)))
            clear yl yf y0 y1 y2 y3 y4 y5 k0 k1 kl X HR hoD hbD htD LL LB LM LX OT BL
            obtain ⟨X, HR⟩ := And.intro X8 HR8
            have yl := Y8.out.x.lt
            have yf := Y8.out.x.free
            have y5 := Y8.out.x.cell 5
            simp only [pgCs, List.getElem?_toArray, List.getElem?_cons_zero, List.getElem?_cons_succ] at y5
            refine Lib.hid ?_
            go_wp2_with fail
            have hcut2 := b01_cut2 (b := bv23) (m := Rv23.length) (n := R'.length) (by omega) (by
              rcases hbv20 with h | h
              · exact .inl (hbv23 (hbv22 (hbv21 h)))
              · exact .inr (by omega))
            go_roundg (Rv23.length + (if bv23 = true then 0 else 1))
            case measure => omega
            case rel => exact ⟨_, _, bv23, Rv23, _, f, Nat.le_refl _, (by rcases hbv20 with h | h; exact .inl (hbv23 (hbv22 (hbv21 h))); exact .inr (by omega)), (by show A.l.n + 1 + _ + _ ≤ _; omega), X, HR, HC⟩
end Go.Proofs.YtjneodmohkpckaaGreatDoor
