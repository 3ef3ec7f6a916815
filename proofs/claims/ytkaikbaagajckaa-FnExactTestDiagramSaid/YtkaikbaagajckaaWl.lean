/- Tables of truth values, and which values tests allow: the reference, walked. -/
import Derived.Test.YtkaikbaagajckaaWj
import Derived.Test.YtkaikbaagajckaaDa
namespace Go.Proofs.Ytkaikbaagajckaa
open Go.RowKit
set_option linter.unusedVariables false
set_option linter.unusedSimpArgs false
attribute [local go_sem ↓] Go.wp_at_zero Go.wp_at_succ
/-- where a list lies -/
structure LnB where
  a : Option Addr
  n : Nat
  c : Nat
def encB1 (b : Bool) : List Value := [.bool b]
def encLB (x : LnB × List Bool) : List Value := [.slice x.1.a x.1.n x.1.c]
theorem encB1_one (y : Bool) : ∀ u ∈ encB1 y, u.oneCell' = true := fun u hu => by simp [encB1] at hu; subst hu; rfl
theorem encLB_one (y : LnB × List Bool) : ∀ u ∈ encLB y, u.oneCell' = true := fun u hu => by simp [encLB] at hu; subst hu; rfl
abbrev OwnB (E : TypeId) := OwnF 1 encB1 (fun _ => True) E
theorem ownF_typ {α : Type} {k : Nat} {enc : α → List Value} {ok : α → Prop} {E : TypeId} {w : World} {base : Nat} {a : Option Addr} {n c : Nat} {l : List α} (h : OwnF k enc ok E w base a n c l) {g : Nat} (e : a = some ⟨g, 0, none⟩) : ∃ cur, w.heap[g]? = some (.cells cur E (0, 0)) := h.typN e
theorem Try.infobool : (Try.prog.info? 4).map (fun i => (i.zero, i.size, i.bytes)) = some (some (.bool false), 1, 1) := by kernel_rfl
theorem Try.infolb : (Try.prog.info? 155).map (fun i => (i.zero, i.size, i.bytes)) = some (some (.slice none 0 0), 1, 24) := by kernel_rfl
/-- a table that is the call's own -/
structure BRow (w : World) (lo : Nat) (a : Option Addr) (n c : Nat) (l : List (LnB × List Bool)) : Prop where
  row : OwnF 1 encLB (fun _ => True) 155 w lo a n c l
  each : ∀ x ∈ l, OwnB 4 w lo x.1.a x.1.n x.1.c x.2
theorem BRow.keep {w w' : World} {lo : Nat} {a : Option Addr} {n c : Nat} {l : List (LnB × List Bool)} (h : BRow w lo a n c l) (hb : Below w.heap.size w w') : BRow w' lo a n c l :=
  ⟨h.row.keep hb, fun x hx => (h.each x hx).keep hb⟩
theorem BRow.le {w : World} {lo lo' : Nat} {a : Option Addr} {n c : Nat} {l : List (LnB × List Bool)} (h : BRow w lo a n c l) (hl : lo' ≤ lo) : BRow w lo' a n c l :=
  ⟨h.row.le hl, fun x hx => (h.each x hx).le hl⟩
theorem ownF_apart {α β : Type} {k k' : Nat} {enc : α → List Value} {enc' : β → List Value} {ok : α → Prop} {ok' : β → Prop} {E E' : TypeId} {w w' : World} {base base' : Nat} {a a' : Option Addr} {n c n' c' m : Nat} {l : List α} {l' : List β} (h : OwnF k enc ok E w base a n c l) (h' : OwnF k' enc' ok' E' w base' a' n' c' l') (hE : E ≠ E') (ht : Touch w w' m a') : OwnF k enc ok E w' base a n c l :=
  h.keepT ht fun g e e' => by
    obtain ⟨c1, e1⟩ := h.typN e
    obtain ⟨c2, e2⟩ := h'.typN e'
    rw [e2] at e1
    simp only [Option.some.injEq, Obj.cells.injEq] at e1
    exact hE e1.2.1.symm
theorem BRow.touchB {w w' : World} {lo base m : Nat} {a a' : Option Addr} {n c n' c' : Nat} {l : List (LnB × List Bool)} {l' : List Bool} (h : BRow w lo a n c l) (h' : OwnB 4 w base a' n' c' l') (hd : ∀ x ∈ l, ∀ g, x.1.a = some ⟨g, 0, none⟩ → a' = some ⟨g, 0, none⟩ → False) (ht : Touch w w' m a') : BRow w' lo a n c l :=
  ⟨ownF_apart h.row h' (by decide) ht, fun x hx => (h.each x hx).keepT ht (hd x hx)⟩
/-- the lines that the tests allow -/
def lnB (sz : List Int) (g : List I2b) (j : Nat) : List Bool := (List.range (sz.getD j 0).toNat).map fun v : Nat => alB sz g j (v : Int)
theorem lnB_len (sz : List Int) (g : List I2b) (j : Nat) : (lnB sz g j).length = (sz.getD j 0).toNat := by simp [lnB]
theorem lnB_at {sz : List Int} {g : List I2b} {j v : Nat} (h : v < (sz.getD j 0).toNat) : (lnB sz g j)[v]? = some (alB sz g j (v : Int)) := range_get h
theorem lnB_take {sz : List Int} {g : List I2b} {j v : Nat} (h : v < (sz.getD j 0).toNat) : (lnB sz g j).take (v + 1) = (lnB sz g j).take v ++ [alB sz g j (v : Int)] := take_at (lnB_at h)
def tbB (sz : List Int) (g : List I2b) (k : Nat) : List (List Bool) := (List.range k).map (lnB sz g)
theorem tbB_next (sz : List Int) (g : List I2b) (k : Nat) : tbB sz g (k + 1) = tbB sz g k ++ [lnB sz g k] := by simp [tbB, List.range_succ]
theorem tsAny_step {g : List I2b} {j i : Nat} {v : Int} {x : I2b} (hx : g[i]? = some x) : ((g.take (i + 1)).any fun t => decide (t.a = (j : Int)) && (decide (v = t.b) != t.c)) = (((g.take i).any fun t => decide (t.a = (j : Int)) && (decide (v = t.b) != t.c)) || (decide (x.a = (j : Int)) && (decide (v = x.b) != x.c))) := by
  rw [take_at hx, List.any_append]; simp
set_option maxRecDepth 100000 in
set_option maxHeartbeats 8000000 in
theorem spec_l23Allowed {sa ta ra ga : Option Addr} {sn sc tn tc rn rc gn gc : Nat} {sz : List Int} {g : List I2b} {w : World} (hI : Ints w sa sn sc sz) (hn : sn ≤ 16) (hs : allIn 1 32 sz = true) (hG : F2b w ga gn gc g) (hg : gn ≤ 1048576) :
    Calls Try.prog 84 #[.agg #[.slice sa sn sc, .slice ta tn tc, .slice ra rn rc], .slice ga gn gc] w fun e w' => ∃ a c l, e = .returned (.slice a sn c) ∧ BRow w' w.heap.size a sn c l ∧ l.map (·.2) = tbB sz g sn ∧ Below w.heap.size w w' := by
  obtain rfl : sz.length = sn := hI.len
  obtain rfl : g.length = gn := hG.len
  have HI := Lib.hid hI
  have HS := Lib.hid hs
  have HG := Lib.hid hG
  have hb0 : Below w.heap.size w ((w.alloc (.cells #[.slice sa sz.length sc, .slice ta tn tc, .slice ra rn rc] 59)).alloc (.cells #[] 155)) := by repeat (first | exact Below.refl _ _ | assumption | refine below_allocS ?_ _ | refine below_callS ?_ (by assumption) | (refine Below.alloc ?_ (by first | omega | (simp; done) | (simp; omega)) _) | (refine Below.setCell ?_ (by first | omega | (simp; done) | (simp; omega)) _) | refine Below.drew ?_ | refine below_drewN ?_ _ | (refine below_call ?_ (by assumption) (by first | omega | (simp; done) | (simp; omega))) | (refine Below.trans ?_ (by assumption)))
  have X0 := Lib.hid ((Blk.made w #[.slice sa sz.length sc, .slice ta tn tc, .slice ra rn rc] 59).keep (below_alloc1 (Below.refl _ _) (.cells #[] 155)))
  have O0 := Lib.hid (show BRow ((w.alloc (.cells #[.slice sa sz.length sc, .slice ta tn tc, .slice ra rn rc] 59)).alloc (.cells #[] 155)) (w.heap.size + 1) (some ⟨w.heap.size + 1, 0, none⟩) 0 0 [] from ⟨(by
    have h := OwnF.emp (enc := encLB) (k := 1) (ok := fun _ => True) (E := 155) (base := w.heap.size + 1) (w.alloc (.cells #[.slice sa sz.length sc, .slice ta tn tc, .slice ra rn rc] 59)) (by simp) (fun _ => rfl)
    simpa using h), fun _ h => by cases h⟩)
  have HB0 := Lib.hid hb0
  clear hI hs hG hb0
  go_enter Try.func84, Try.ntmps84
  go_wp2_with fail
  go_loopw [5, 6] (fun s5 s6 wr => ∃ (k ga' gc' : Nat) (l : List (LnB × List Bool)), s5 = .slice (some ⟨ga', 0, none⟩) k gc' ∧ s6 = .int .i64 k ∧ k ≤ sz.length ∧ w.heap.size + 1 < wr.heap.size ∧ Hid (Below w.heap.size w wr) ∧ Hid (Blk wr w.heap.size #[.slice sa sz.length sc, .slice ta tn tc, .slice ra rn rc] 59) ∧ Hid (BRow wr (w.heap.size + 1) (some ⟨ga', 0, none⟩) k gc' l) ∧ Hid (l.map (·.2) = tbB sz g k)) (fun _ s6 _ => sz.length - (intOf s6).toNat)
  case atStart => exact ⟨0, _, 0, [], rfl, rfl, by omega, by simp, HB0, X0, O0, Lib.hid rfl⟩
  case round =>
    clear X0 O0 HB0
    obtain ⟨k, ga', gc', l, rfl, rfl, hk, hsr, HB, X, O, A⟩ := hrel
    obtain ⟨wo, hwo⟩ : ∃ x : World, x = wr := ⟨_, rfl⟩
    subst hwo
    have x0 := X.out.cell 0
    have xl := X.out.lt
    simp only [List.getElem?_toArray, List.getElem?_cons_zero] at x0
    by_cases hlt : k < sz.length
    · have hlt' : (k : Int) < (sz.length : Int) := by omega
      have hk0 : (0 : Int) ≤ (k : Int) := by omega
      obtain ⟨b1, o1, z, rfl, hb1, hz, hzc, _⟩ := (HI.out.keep HB.out).at hlt
      have hz2 := allIn_at HS.out hz
      have hgd : sz.getD k 0 = z := getD_of hz
      obtain ⟨zn, rfl⟩ : ∃ m : Nat, z = (m : Int) := ⟨z.toNat, by omega⟩
      have HLN := Lib.hid (show (sz.getD k 0).toNat = zn by rw [hgd]; omega)
      have hbl : Below wo.heap.size wo (wo.alloc (.cells #[] 4)) := below_alloc1 (Below.refl _ _) _
      have X1 := Lib.hid (X.out.keep hbl)
      have O1 := Lib.hid (O.out.keep hbl)
      have HB1 := Lib.hid (below_callS HB.out hbl)
      have L1 := Lib.hid (show OwnB 4 (wo.alloc (.cells #[] 4)) wo.heap.size (some ⟨wo.heap.size, 0, none⟩) 0 0 [] from OwnF.emp wo (Nat.le_refl _) (fun _ => rfl))
      have HOL := Lib.hid (show ∀ x ∈ l, ∀ g, x.1.a = some ⟨g, 0, none⟩ → g < wo.heap.size from fun x hx g e => ((O.out.each x hx).blk g e).2)
      clear hz hgd
      go_wp2_with fail
      clear x0 xl hbl
      go_loopw [7, 8] (fun s7 s8 wx => ∃ (v la lc : Nat), s7 = .slice (some ⟨la, 0, none⟩) v lc ∧ s8 = .int .i64 v ∧ v ≤ zn ∧ wo.heap.size < wx.heap.size ∧ Hid (Below w.heap.size w wx) ∧ Hid (Blk wx w.heap.size #[.slice (some ⟨b1, o1, none⟩) sz.length sc, .slice ta tn tc, .slice ra rn rc] 59) ∧ Hid (BRow wx (w.heap.size + 1) (some ⟨ga', 0, none⟩) k gc' l) ∧ Hid (OwnB 4 wx wo.heap.size (some ⟨la, 0, none⟩) v lc ((lnB sz g k).take v))) (fun _ s8 _ => zn - (intOf s8).toNat)
      case atStart => exact ⟨0, _, 0, rfl, rfl, by omega, by simp, HB1, X1, O1, L1⟩
      case round =>
        clear X1 O1 HB1 L1 X O HB hzc hb1
        obtain ⟨v, la, lc, rfl, rfl, hv, hsx, HB, X, O, L⟩ := hrel
        obtain ⟨wx, hwx⟩ : ∃ x : World, x = wr := ⟨_, rfl⟩
        subst hwx
        have x0 := X.out.cell 0
        have xl := X.out.lt
        simp only [List.getElem?_toArray, List.getElem?_cons_zero] at x0
        obtain ⟨b2, o2, z2, hb2e, hb2, hz, hzc, _⟩ := (HI.out.keep HB.out).at hlt
        cases hb2e
        have hz9 : z2 = (zn : Int) := by
          have h := HLN.out
          rw [getD_of hz] at h
          have := (allIn_at HS.out hz).1
          omega
        subst hz9
        clear hz
        by_cases hvl : v < zn
        · have hvl' : (v : Int) < (zn : Int) := by omega
          go_wp2_with fail
          clear x0 xl
          go_loopw [9, 10] (fun s9 s10 wy => ∃ (i : Nat), s9 = .bool (!((g.take i).any fun t => decide (t.a = (k : Int)) && (decide ((v : Int) = t.b) != t.c))) ∧ s10 = .int .i64 i ∧ i ≤ g.length ∧ Hid (Below wx.heap.size wx wy)) (fun _ s10 _ => g.length - (intOf s10).toNat)
          case atStart => exact ⟨0, rfl, rfl, by omega, Lib.hid (Below.refl _ _)⟩
          case round =>
            obtain ⟨i, rfl, rfl, hi, HY⟩ := hrel
            obtain ⟨wy, hwy⟩ : ∃ x : World, x = wr := ⟨_, rfl⟩
            subst hwy
            have HBY := Lib.hid (below_callS HB.out HY.out)
            by_cases hil : i < g.length
            · have hil' : (i : Int) < (g.length : Int) := by omega
              have hi0 : (0 : Int) ≤ (i : Int) := by omega
              obtain ⟨b3, o3, x, rfl, hb3, hx, hwf, c0, c1, c2⟩ := F2b.get (HG.out.keep HBY.out) hil
              have HST := Lib.hid (tsAny_step (j := k) (v := (v : Int)) hx)
              obtain ⟨AA, hAA⟩ : ∃ AA, ((g.take i).any fun t => decide (t.a = (k : Int)) && (decide ((v : Int) = t.b) != t.c)) = AA := ⟨_, rfl⟩
              rw [hAA] at HST ⊢
              obtain ⟨xa, xb, xc⟩ := x
              simp only at c0 c1 c2 HST
              clear hx hAA
              by_cases h1 : xa = (k : Int)
              · have e1 : (xa == (k : Int)) = true := by simpa using h1
                by_cases h2 : (v : Int) = xb
                · have e2 : (xb == (v : Int)) = true := by simpa using h2.symm
                  rw [decide_eq_true h1, decide_eq_true h2] at HST
                  clear h1 h2
                  cases xc
                  · go_wp2_with fail
                    go_quiet (fail)
                    go_wp2
                    go_roundw
                    case rel => exact ⟨i + 1, by rw [HST.out]; simp, by go_num, by omega, Lib.hid (below_drewN HY.out _)⟩
                    case measure => simp [intOf]; omega
                  · go_wp2_with fail
                    go_quiet (fail)
                    go_wp2
                    go_roundw
                    case rel => exact ⟨i + 1, by rw [HST.out]; simp, by go_num, by omega, Lib.hid (below_drewN HY.out _)⟩
                    case measure => simp [intOf]; omega
                · have e2 : (xb == (v : Int)) = false := by simpa using fun h => h2 h.symm
                  rw [decide_eq_true h1, decide_eq_false h2] at HST
                  clear h1 h2
                  cases xc
                  · go_wp2_with fail
                    go_quiet (fail)
                    go_wp2
                    go_roundw
                    case rel => exact ⟨i + 1, by rw [HST.out]; simp, by go_num, by omega, Lib.hid (below_drewN HY.out _)⟩
                    case measure => simp [intOf]; omega
                  · go_wp2_with fail
                    go_quiet (fail)
                    go_wp2
                    go_roundw
                    case rel => exact ⟨i + 1, by rw [HST.out]; simp, by go_num, by omega, Lib.hid (below_drewN HY.out _)⟩
                    case measure => simp [intOf]; omega
              · have e1 : (xa == (k : Int)) = false := by simpa using h1
                rw [decide_eq_false h1] at HST
                clear h1
                go_wp2_with fail
                go_quiet (fail)
                go_wp2
                go_roundw
                case rel => exact ⟨i + 1, by rw [HST.out]; simp, by go_num, by omega, Lib.hid (below_drewN HY.out _)⟩
                case measure => simp [intOf]; omega
            · have hig : i = g.length := by omega
              subst hig
              have hil' : ¬ (g.length : Int) < (g.length : Int) := by omega
              have HAL := Lib.hid (show alB sz g k (v : Int) = !((g.take g.length).any fun t => decide (t.a = (k : Int)) && (decide ((v : Int) = t.b) != t.c)) by
                rw [alB, List.take_length]
                have h := HLN.out
                have h3 : (v : Int) < sz.getD k 0 := by omega
                rw [decide_eq_true h3, Bool.true_and])
              rw [← HAL.out]
              have HTK := Lib.hid (lnB_take (sz := sz) (g := g) (j := k) (v := v) (by rw [HLN.out]; exact hvl))
              generalize alB sz g k (v : Int) = bb at *
              have XY := Lib.hid (X.out.keep HY.out)
              have OY := Lib.hid (O.out.keep HY.out)
              have LY := Lib.hid (L.out.keep HY.out)
              have hsy := HY.out.size
              clear HY X O L HB
              go_wp2_with (at_builtin; refine appAtL (k := 1) (m := 1) (enc := encB1) (ok := fun _ => True) rfl _ _ rfl Try.underlying155 Try.infobool rfl (by decide) (by decide) encB1_one wo.heap.size _ _ _ _ [bb] LY.out rfl _ rfl (by simp) rfl rfl (fun _ _ => trivial) (by decide) (by omega) (by decide) (by omega) ?_; intro g' c' wn ho hb hgr hat hsz; have ht : Touch wy wn 1 (some ⟨la, 0, none⟩) := ⟨_, hgr, fun b e => ⟨by decide, own_block LY.out.1 b e⟩⟩; have LN := Lib.hid ho; have XN := Lib.hid (XY.out.keepA ht (blk_ne XY.out LY.out.typN (by decide))); have ON := Lib.hid (OY.out.touchB LY.out (fun x hx q e e' => by (have h1 := HOL.out x hx q e; have h2 := (LY.out.blk q e').1; omega)) ht); have HBN := Lib.hid (show Below w.heap.size w wn from HBY.out.trans (hb.mono (by omega))); clear ho hb hgr hat ht)
              go_roundw
              case rel => exact ⟨v + 1, g', c', rfl, by go_num, by omega, by omega, HBN, XN, ON, Lib.hid (by rw [HTK.out]; exact LN.out)⟩
              case measure => simp [intOf]; omega
        · have hvz : v = zn := by omega
          subst hvz
          have hvl' : ¬ (v : Int) < (v : Int) := by omega
          have LE := Lib.hid (show OwnB 4 wx wo.heap.size (some ⟨la, 0, none⟩) v lc (lnB sz g k) from by
            have h := L.out
            rw [List.take_of_length_le (by rw [lnB_len, HLN.out]; exact Nat.le_refl _)] at h
            exact h)
          clear L
          go_wp2_with (at_builtin; refine appAtL (k := 1) (m := 1) (enc := encLB) (ok := fun _ => True) rfl _ _ rfl Try.underlying110 Try.infolb rfl (by decide) (by decide) encLB_one (w.heap.size + 1) _ _ _ _ [(⟨some ⟨la, 0, none⟩, v, lc⟩, lnB sz g k)] O.out.row rfl _ rfl (by simp) rfl rfl (fun _ _ => trivial) (by decide) (by omega) (by decide) (by omega) ?_; intro g' c' wn ho hb hgr hat hsz; have ht : Touch wx wn 1 (some ⟨ga', 0, none⟩) := ⟨_, hgr, fun b e => ⟨by decide, own_block O.out.row.1 b e⟩⟩; have ON := Lib.hid (show BRow wn (w.heap.size + 1) (some ⟨g', 0, none⟩) (k + 1) c' (l ++ [(⟨some ⟨la, 0, none⟩, v, lc⟩, lnB sz g k)]) from ⟨ho, fun x hx => by (rcases List.mem_append.1 hx with hx | hx; exact ownF_apart (O.out.each x hx) O.out.row (by decide) ht; simp at hx; subst hx; exact (ownF_apart LE.out O.out.row (by decide) ht).le (by omega))⟩); have XN := Lib.hid (X.out.keepA ht (blk_ne X.out O.out.row.typN (by decide))); have HBN := Lib.hid (show Below w.heap.size w wn from HB.out.trans (hb.mono (by omega))); clear ho hb hgr hat ht)
          go_roundw
          case rel => exact ⟨k + 1, g', c', _, rfl, by go_num, by omega, by omega, HBN, XN, ON, Lib.hid (by rw [List.map_append, A.out, tbB_next]; rfl)⟩
          case measure => simp [intOf]; omega
    · have hkn : k = sz.length := by omega
      subst hkn
      have hlt' : ¬ (sz.length : Int) < (sz.length : Int) := by omega
      go_wp2
      go_ret
      exact ⟨_, _, rfl, l, O.out.le (by omega), A.out, HB.out⟩
end Go.Proofs.Ytkaikbaagajckaa
