/- Models of the exact laws: copies, comparisons, marks. -/
import Derived.Test.YtfhogleillgcgaaMk
namespace Go.Proofs.Ytfhogleillgcgaa
open Go.RowKit
set_option linter.unusedVariables false
set_option linter.unusedSimpArgs false
theorem Blk.wr {w : World} {b : Nat} {cs : Array Value} {T : TypeId} (h : Blk w b cs T) (i : Nat) (v : Value) : Blk (w.setCell ⟨b, i, none⟩ v) b (cs.setIfInBounds i v) T := by
  exact heap_setCell_same w b i cs T v h
/-- a model that is read, by what it means -/
structure MRd (w : World) (sa : Option Addr) (sn sc : Nat) (ta : Option Addr) (tn tc : Nat) (ra : Option Addr) (rn rc : Nat) (sz st : List Int) (rs : List RuD) : Prop where
  s : Ints w sa sn sc sz
  t : Ints w ta tn tc st
  r : ∃ l, FR w w ra rn rc l ∧ l.map (·.2) = rs
  sn : sn ≤ 1048576
  tn : tn ≤ 1048576
  rn : rn ≤ 1048576
/-- a model of the call's own -/
structure MOwn (w : World) (lo hi : Nat) (sa : Option Addr) (sn sc : Nat) (ta : Option Addr) (tn tc : Nat) (ra : Option Addr) (rn rc : Nat) (sz st : List Int) (rs : List RuD) : Prop where
  s : OwnI 2 w lo sa sn sc sz
  t : OwnI 2 w lo ta tn tc st
  r : MR w lo hi ra rn rc rs
  ap : Apart sa ta
  bs : inI lo hi sa
  bt : inI lo hi ta
  sn : sn ≤ 1048576
  tn : tn ≤ 1048576
  rn : rn ≤ 1048576
theorem MR.fr {w : World} {lo hi : Nat} {a : Option Addr} {n c : Nat} {rs : List RuD} (h : MR w lo hi a n c rs) : ∃ l, FR w w a n c l ∧ l.map (·.2) = rs := by
  obtain ⟨l, h1, h2, h3⟩ := h
  exact ⟨l, h1.fr, h3⟩
theorem FR.keep {w0 w w' : World} {a : Option Addr} {n c : Nat} {l : List (RM × RuD)} (h : FR w0 w a n c l) (hb0 : Below w0.heap.size w0 w') (hb : Below w.heap.size w w') : FR w' w' a n c l := by
  have hf := Flats.keep h hb
  exact ⟨hf.len, hf.cap, hf.pos, fun x hx => (hf.wf x hx).keep hb0, hf.nil⟩
theorem MR.keepTI {w w' : World} {lo hi m : Nat} {a a' : Option Addr} {n c : Nat} {rs : List RuD} (h : MR w lo hi a n c rs) (ty : ∀ {g : Nat}, a' = some ⟨g, 0, none⟩ → ∃ cur, w.heap[g]? = some (.cells cur 2 (0, 0))) (ht : Touch w w' m a') : MR w' lo hi a n c rs := by
  obtain ⟨l, h1, h2, h3⟩ := h
  refine ⟨l, ⟨h1.row.keepT ht (typ_apart h1.row.typ ty (by decide)), fun x hx => ?_, h1.apart⟩, h2, h3⟩
  have hh := h1.each x hx
  exact ⟨hh.nm, hh.nms, hh.g.keepT ht (typ_apart hh.g.typ ty (by decide)), hh.gn, hh.e.keepT ht (typ_apart hh.e.typ ty (by decide)), hh.en⟩
section
variable {w w' : World} {lo hi : Nat} {sa : Option Addr} {sn sc : Nat} {ta : Option Addr} {tn tc : Nat} {ra : Option Addr} {rn rc : Nat} {sz st : List Int} {rs : List RuD}
theorem MRd.keep (h : MRd w sa sn sc ta tn tc ra rn rc sz st rs) (hb : Below w.heap.size w w') : MRd w' sa sn sc ta tn tc ra rn rc sz st rs := by
  obtain ⟨l, h1, h2⟩ := h.r
  exact ⟨h.s.keep hb, h.t.keep hb, ⟨l, h1.keep hb hb, h2⟩, h.sn, h.tn, h.rn⟩
theorem MOwn.rd (h : MOwn w lo hi sa sn sc ta tn tc ra rn rc sz st rs) : MRd w sa sn sc ta tn tc ra rn rc sz st rs := ⟨h.s.ints, h.t.ints, h.r.fr, h.sn, h.tn, h.rn⟩
theorem MOwn.keep (h : MOwn w lo hi sa sn sc ta tn tc ra rn rc sz st rs) (hb : Below w.heap.size w w') : MOwn w' lo hi sa sn sc ta tn tc ra rn rc sz st rs := ⟨h.s.keep hb, h.t.keep hb, h.r.keep hb, h.ap, h.bs, h.bt, h.sn, h.tn, h.rn⟩
theorem MOwn.here (w1 w2 : World) (hk : ∀ k, lo ≤ k → k < hi → w2.heap[k]? = w1.heap[k]?) (h : MOwn w1 lo hi sa sn sc ta tn tc ra rn rc sz st rs) : MOwn w2 lo hi sa sn sc ta tn tc ra rn rc sz st rs :=
  ⟨OwnI.here h.bs w1 w2 hk h.s, OwnI.here h.bt w1 w2 hk h.t, MR.here w1 w2 hk h.r, h.ap, h.bs, h.bt, h.sn, h.tn, h.rn⟩
theorem MOwn.own (h : MOwn w lo hi sa sn sc ta tn tc ra rn rc sz st rs) (hh : hi ≤ w.heap.size) : Own (fun w => MOwn w lo hi sa sn sc ta tn tc ra rn rc sz st rs) lo hi w := ⟨h, hh, MOwn.here⟩
end
set_option maxHeartbeats 2000000 in
theorem laws_toModel {sa : Option Addr} {sn sc : Nat} {ta : Option Addr} {tn tc : Nat} {ra : Option Addr} {rn rc : Nat} {sz st : List Int} {rs : List RuD} {w : World} (h : MRd w sa sn sc ta tn tc ra rn rc sz st rs) :
    Calls Try.prog 9 #[.agg #[.slice sa sn sc, .slice ta tn tc, .slice ra rn rc]] w fun e w' => ∃ g1 g2 g3 : Nat, e = .returned (.agg #[.slice (some ⟨g1, 0, none⟩) sn sn, .slice (some ⟨g2, 0, none⟩) tn tn, .slice (some ⟨g3, 0, none⟩) rn rn]) ∧ Below w.heap.size w w' ∧
      MOwn w' w.heap.size w'.heap.size (some ⟨g1, 0, none⟩) sn sn (some ⟨g2, 0, none⟩) tn tn (some ⟨g3, 0, none⟩) rn rn sz st rs := by
  have HM := Lib.hid h
  have hsn := h.sn
  have htn := h.tn
  have hrn := h.rn
  clear h
  go_enter Try.func9, Try.ntmps9
  go_wp2_with fail
  obtain ⟨wA, hwA⟩ : ∃ wA : World, wA = (((w.alloc (.cells #[.slice sa sn sc, .slice ta tn tc, .slice ra rn rc] 25)).alloc (.cells #[.slice none 0 0, .slice none 0 0, .slice none 0 0] 31)).alloc (.cells #[.slice none 0 0, .slice none 0 0, .slice none 0 0] 31)) := ⟨_, rfl⟩
  have X := Lib.hid (show Blk wA w.heap.size #[.slice sa sn sc, .slice ta tn tc, .slice ra rn rc] 25 by rw [hwA]; exact ((Blk.made _ _ _).keep (by repeat (first | exact Below.refl _ _ | assumption | refine below_allocS ?_ _ | refine below_callS ?_ (by assumption) | (refine Below.alloc ?_ (by first | omega | (simp; done) | (simp; omega)) _) | (refine Below.setCell ?_ (by first | omega | (simp; done) | (simp; omega)) _) | refine Below.drew ?_ | refine below_drewN ?_ _ | (refine below_call ?_ (by assumption) (by first | omega | (simp; done) | (simp; omega))) | (refine Below.trans ?_ (by assumption))))))
  have Y := Lib.hid (show Blk wA (w.heap.size + 1) #[.slice none 0 0, .slice none 0 0, .slice none 0 0] 31 by rw [hwA]; have h := ((Blk.made (w.alloc (.cells #[.slice sa sn sc, .slice ta tn tc, .slice ra rn rc] 25)) #[.slice none 0 0, .slice none 0 0, .slice none 0 0] 31).keep ((Below.refl _ _).alloc (Nat.le_refl _) (.cells #[.slice none 0 0, .slice none 0 0, .slice none 0 0] 31))); simpa using h)
  have Z := Lib.hid (show Blk wA (w.heap.size + 1 + 1) #[.slice none 0 0, .slice none 0 0, .slice none 0 0] 31 by rw [hwA]; have h := (Blk.made ((w.alloc (.cells #[.slice sa sn sc, .slice ta tn tc, .slice ra rn rc] 25)).alloc (.cells #[.slice none 0 0, .slice none 0 0, .slice none 0 0] 31)) #[.slice none 0 0, .slice none 0 0, .slice none 0 0] 31); simpa using h)
  have hbA : Below w.heap.size w wA := by rw [hwA]; repeat (first | exact Below.refl _ _ | assumption | refine below_allocS ?_ _ | refine below_callS ?_ (by assumption) | (refine Below.alloc ?_ (by first | omega | (simp; done) | (simp; omega)) _) | (refine Below.setCell ?_ (by first | omega | (simp; done) | (simp; omega)) _) | refine Below.drew ?_ | refine below_drewN ?_ _ | (refine below_call ?_ (by assumption) (by first | omega | (simp; done) | (simp; omega))) | (refine Below.trans ?_ (by assumption)))
  have hsA : w.heap.size + 1 + 1 < wA.heap.size := by have := Z.out.lt; exact this
  rw [← hwA]
  clear hwA
  refine Calls.mono (laws_toInt64S_g (HM.out.s.keep hbA) hsn) ?_
  rintro e w1 ⟨g1, rfl, hb1, ho1⟩
  have kg1 := ho1.blk g1 rfl
  have O1 := Lib.hid (ho1.le (show w.heap.size + 1 + 1 + 1 ≤ wA.heap.size by omega))
  have hs1 := hb1.size
  have hbl1 : Below w.heap.size w w1 := below_callS hbA hb1
  replace X := Lib.hid (X.out.keep hb1)
  replace Y := Lib.hid (Y.out.keep hb1)
  replace Z := Lib.hid (Z.out.keep hb1)
  clear ho1 hb1
  have x0 := X.out.cell 0
  have x1 := X.out.cell 1
  have x2 := X.out.cell 2
  have xl := X.out.lt
  have zl := Z.out.lt
  have zf := Z.out.free
  have z0 := Z.out.cell 0
  have z1 := Z.out.cell 1
  have z2 := Z.out.cell 2
  simp at x0 x1 x2 z0 z1 z2
  go_wp2_with fail
  obtain ⟨wB, hwwB⟩ : ∃ wB : World, wB = w1.setCell ⟨w.heap.size + 1 + 1, 0, none⟩ (.slice (some ⟨g1, 0, none⟩) sn sn) := ⟨_, rfl⟩
  rw [← hwwB]
  clear x0 x1 x2 xl zl zf z0 z1 z2
  have sgwB : w1.grownBy wB (some (w.heap.size + 1 + 1)) := by rw [hwwB]; exact set_grown _ _ _
  have hblwB : Below w.heap.size w wB := by rw [hwwB]; repeat (first | exact Below.refl _ _ | assumption | refine below_allocS ?_ _ | refine below_callS ?_ (by assumption) | (refine Below.alloc ?_ (by first | omega | (simp; done) | (simp; omega)) _) | (refine Below.setCell ?_ (by first | omega | (simp; done) | (simp; omega)) _) | refine Below.drew ?_ | refine below_drewN ?_ _ | (refine below_call ?_ (by assumption) (by first | omega | (simp; done) | (simp; omega))) | (refine Below.trans ?_ (by assumption)))
  have hswB : w1.heap.size ≤ wB.heap.size := sgwB.size
  replace X := Lib.hid (X.out.keepG sgwB (by simp; omega))
  replace Y := Lib.hid (Y.out.keepG sgwB (by simp))
  replace O1 := Lib.hid (O1.out.keepG sgwB (fun g e => by simp at e ⊢; omega))
  have ZwB := Lib.hid (Z.out.wr 0 (.slice (some ⟨g1, 0, none⟩) sn sn))
  rw [← hwwB] at ZwB
  clear Z hwwB sgwB
  have Z := ZwB
  clear ZwB
  simp at Z
  refine Calls.mono (laws_toInt64S_g (HM.out.t.keep hblwB) htn) ?_
  rintro e w2 ⟨g2, rfl, hb2, ho2⟩
  have kg2 := ho2.blk g2 rfl
  have O2 := Lib.hid (ho2.le (show w.heap.size + 1 + 1 + 1 ≤ wB.heap.size by omega))
  have hs2 := hb2.size
  have hbl2 : Below w.heap.size w w2 := below_callS hblwB hb2
  replace X := Lib.hid (X.out.keep hb2)
  replace Y := Lib.hid (Y.out.keep hb2)
  replace Z := Lib.hid (Z.out.keep hb2)
  replace O1 := Lib.hid (O1.out.keep hb2)
  clear ho2 hb2
  have x0 := X.out.cell 0
  have x1 := X.out.cell 1
  have x2 := X.out.cell 2
  have xl := X.out.lt
  have zl := Z.out.lt
  have zf := Z.out.free
  have z0 := Z.out.cell 0
  have z1 := Z.out.cell 1
  have z2 := Z.out.cell 2
  simp at x0 x1 x2 z0 z1 z2
  go_wp2_with fail
  obtain ⟨wC, hwwC⟩ : ∃ wC : World, wC = w2.setCell ⟨w.heap.size + 1 + 1, 1, none⟩ (.slice (some ⟨g2, 0, none⟩) tn tn) := ⟨_, rfl⟩
  rw [← hwwC]
  clear x0 x1 x2 xl zl zf z0 z1 z2
  have sgwC : w2.grownBy wC (some (w.heap.size + 1 + 1)) := by rw [hwwC]; exact set_grown _ _ _
  have hblwC : Below w.heap.size w wC := by rw [hwwC]; repeat (first | exact Below.refl _ _ | assumption | refine below_allocS ?_ _ | refine below_callS ?_ (by assumption) | (refine Below.alloc ?_ (by first | omega | (simp; done) | (simp; omega)) _) | (refine Below.setCell ?_ (by first | omega | (simp; done) | (simp; omega)) _) | refine Below.drew ?_ | refine below_drewN ?_ _ | (refine below_call ?_ (by assumption) (by first | omega | (simp; done) | (simp; omega))) | (refine Below.trans ?_ (by assumption)))
  have hswC : w2.heap.size ≤ wC.heap.size := sgwC.size
  replace X := Lib.hid (X.out.keepG sgwC (by simp; omega))
  replace Y := Lib.hid (Y.out.keepG sgwC (by simp))
  replace O1 := Lib.hid (O1.out.keepG sgwC (fun g e => by simp at e ⊢; omega))
  replace O2 := Lib.hid (O2.out.keepG sgwC (fun g e => by simp at e ⊢; omega))
  have ZwC := Lib.hid (Z.out.wr 1 (.slice (some ⟨g2, 0, none⟩) tn tn))
  rw [← hwwC] at ZwC
  clear Z hwwC sgwC
  have Z := ZwC
  clear ZwC
  simp at Z
  have hRR := HM.out.r
  obtain ⟨l, hl1, hl2⟩ := hRR
  refine Calls.mono (laws_toRuleS (hl1.keep hblwC hblwC) hrn) ?_
  rintro e w3 ⟨l', rfl, hb3, ho3, hm3⟩
  obtain ⟨g3, hg3⟩ : ∃ g3 : Nat, g3 = wC.heap.size := ⟨_, rfl⟩
  rw [← hg3] at ho3 ⊢
  have kg3 := ho3.row.blk g3 rfl
  have O3 := Lib.hid ho3
  have HL := Lib.hid (hm3.trans hl2)
  have hs3 := hb3.size
  have hbl3 : Below w.heap.size w w3 := below_callS hblwC hb3
  replace X := Lib.hid (X.out.keep hb3)
  replace Y := Lib.hid (Y.out.keep hb3)
  replace Z := Lib.hid (Z.out.keep hb3)
  replace O1 := Lib.hid (O1.out.keep hb3)
  replace O2 := Lib.hid (O2.out.keep hb3)
  clear ho3 hb3 hl1 hl2 hm3
  have x0 := X.out.cell 0
  have x1 := X.out.cell 1
  have x2 := X.out.cell 2
  have xl := X.out.lt
  have zl := Z.out.lt
  have zf := Z.out.free
  have z0 := Z.out.cell 0
  have z1 := Z.out.cell 1
  have z2 := Z.out.cell 2
  simp at x0 x1 x2 z0 z1 z2
  have yl := Y.out.lt
  have yf := Y.out.free
  have y0 := Y.out.cell 0
  have y1 := Y.out.cell 1
  have y2 := Y.out.cell 2
  simp at y0 y1 y2
  go_wp2
  subst hg3
  have hw9 : ∀ wx : World, wx = ((((w3.setCell ⟨w.heap.size + 1 + 1, 2, none⟩ (.slice (some ⟨wC.heap.size, 0, none⟩) rn rn)).setCell ⟨w.heap.size + 1, 0, none⟩ (.slice (some ⟨g1, 0, none⟩) sn sn)).setCell ⟨w.heap.size + 1, 1, none⟩ (.slice (some ⟨g2, 0, none⟩) tn tn)).setCell ⟨w.heap.size + 1, 2, none⟩ (.slice (some ⟨wC.heap.size, 0, none⟩) rn rn)) → Below w.heap.size w wx ∧ MOwn wx w.heap.size wx.heap.size (some ⟨g1, 0, none⟩) sn sn (some ⟨g2, 0, none⟩) tn tn (some ⟨wC.heap.size, 0, none⟩) rn rn sz st rs := by
    intro wx hwx
    have h1 : w3.grownBy (w3.setCell ⟨w.heap.size + 1 + 1, 2, none⟩ (.slice (some ⟨wC.heap.size, 0, none⟩) rn rn)) (some (w.heap.size + 1 + 1)) := set_grown _ _ _
    have h2 : (w3.setCell ⟨w.heap.size + 1 + 1, 2, none⟩ (.slice (some ⟨wC.heap.size, 0, none⟩) rn rn)).grownBy wx (some (w.heap.size + 1)) := by rw [hwx]; exact grownBy_set (grownBy_set (set_grown _ _ _) _ _) _ _
    have hon : Only (w.heap.size + 1) (w.heap.size + 1 + 1 + 1) w3 wx := ((Only.refl _ _ _).grown h1 (fun k e => by cases e; omega)).grown h2 (fun k e => by cases e; omega)
    have hsz := hon.size
    refine ⟨hon.below hbl3 (by omega) (by omega), ⟨(O1.out.only hon (fun g e => by simp at e; omega)).le (by omega), (O2.out.only hon (fun g e => by simp at e; omega)).le (by omega), ?_, fun g e1 e2 => by simp at e1 e2; omega, fun g e => by simp at e; omega, fun g e => by simp at e; omega, hsn, htn, hrn⟩⟩
    have hbd := O3.out.bd
    refine ⟨l', (ROwn.here hbd w3 wx (fun k hk1 hk2 => hon.block k hk2 (.inr (by omega))) O3.out).le (by omega), ⟨fun g e => ?_, fun x hx => ⟨fun g e => ?_, fun g e => ?_⟩⟩, HL.out⟩
    · have := hbd.1 g e; omega
    · have := (hbd.2 x hx).1 g e; omega
    · have := (hbd.2 x hx).2 g e; omega
  have H9 := Lib.hid hw9
  clear hw9
  exact bodyPost_ret (v := .agg #[.slice (some ⟨g1, 0, none⟩) sn sn, .slice (some ⟨g2, 0, none⟩) tn tn, .slice (some ⟨wC.heap.size, 0, none⟩) rn rn]) (by simp [results, Try.results9, go_sem, *]) rfl ⟨g1, g2, wC.heap.size, rfl, (H9.out _ rfl).1, (H9.out _ rfl).2⟩
set_option maxHeartbeats 2000000 in
theorem laws_eqModel {sa sa' : Option Addr} {sn sc sn' sc' : Nat} {ta ta' : Option Addr} {tn tc tn' tc' : Nat} {ra ra' : Option Addr} {rn rc rn' rc' : Nat} {sz st : List Int} {rs : List RuD} {w : World} (h : MRd w sa sn sc ta tn tc ra rn rc sz st rs) (h' : MRd w sa' sn' sc' ta' tn' tc' ra' rn' rc' sz st rs) :
    Calls Try.prog 12 #[.agg #[.slice sa sn sc, .slice ta tn tc, .slice ra rn rc], .agg #[.slice sa' sn' sc', .slice ta' tn' tc', .slice ra' rn' rc']] w fun e w' => e = .returned (.bool true) ∧ Below w.heap.size w w' := by
  obtain ⟨l, hl, hlr⟩ := h.r
  obtain ⟨l', hl', hlr'⟩ := h'.r
  obtain rfl : rn' = rn := by rw [← hl'.len, ← hl.len, ← List.length_map (f := (·.2)), hlr', ← hlr, List.length_map]
  have K1 := Lib.hid (fun (wx : World) (hb : Below w.heap.size w wx) => laws_eqInt64S (h.s.keep hb) (h'.s.keep hb) h.sn h'.sn)
  have K2 := Lib.hid (fun (wx : World) (hb : Below w.heap.size w wx) => laws_eqInt64S (h.t.keep hb) (h'.t.keep hb) h.tn h'.tn)
  have K3 := Lib.hid (fun (wx : World) (hb : Below w.heap.size w wx) => laws_eqRuleS (hl.keep hb hb) (hl'.keep hb hb) (hlr.trans hlr'.symm) h.rn)
  simp only [decide_true] at K1 K2
  clear h h' hl hl' hlr hlr'
  go_enter Try.func12, Try.ntmps12
  go_wp2_with fail
  refine Calls.mono (K1.out _ (by repeat (first | exact Below.refl _ _ | assumption | refine below_allocS ?_ _ | refine below_callS ?_ (by assumption) | (refine Below.alloc ?_ (by first | omega | (simp; done) | (simp; omega)) _) | (refine Below.setCell ?_ (by first | omega | (simp; done) | (simp; omega)) _) | refine Below.drew ?_ | refine below_drewN ?_ _ | (refine below_call ?_ (by assumption) (by first | omega | (simp; done) | (simp; omega))) | (refine Below.trans ?_ (by assumption))))) ?_
  rintro e w1 ⟨rfl, hb_w1⟩
  obtain ⟨hc_w1, hf_w1⟩ := bcell hb_w1
  have hs_w1 := hb_w1.size
  simp at hs_w1
  have hz1 : w.heap.size < w1.heap.size := by omega
  have hz2 : w.heap.size + 1 < w1.heap.size := by omega
  go_wp2_with fail
  refine Calls.mono (K2.out _ (by repeat (first | exact Below.refl _ _ | assumption | refine below_allocS ?_ _ | refine below_callS ?_ (by assumption) | (refine Below.alloc ?_ (by first | omega | (simp; done) | (simp; omega)) _) | (refine Below.setCell ?_ (by first | omega | (simp; done) | (simp; omega)) _) | refine Below.drew ?_ | refine below_drewN ?_ _ | (refine below_call ?_ (by assumption) (by first | omega | (simp; done) | (simp; omega))) | (refine Below.trans ?_ (by assumption))))) ?_
  rintro e w2 ⟨rfl, hb_w2⟩
  obtain ⟨hc_w2, hf_w2⟩ := bcell hb_w2
  have hs_w2 := hb_w2.size
  have hz3 : w.heap.size < w2.heap.size := by omega
  have hz4 : w.heap.size + 1 < w2.heap.size := by omega
  go_wp2_with fail
  refine Calls.mono (K3.out _ (by repeat (first | exact Below.refl _ _ | assumption | refine below_allocS ?_ _ | refine below_callS ?_ (by assumption) | (refine Below.alloc ?_ (by first | omega | (simp; done) | (simp; omega)) _) | (refine Below.setCell ?_ (by first | omega | (simp; done) | (simp; omega)) _) | refine Below.drew ?_ | refine below_drewN ?_ _ | (refine below_call ?_ (by assumption) (by first | omega | (simp; done) | (simp; omega))) | (refine Below.trans ?_ (by assumption))))) ?_
  rintro e w3 ⟨rfl, hb_w3⟩
  obtain ⟨hc_w3, hf_w3⟩ := bcell hb_w3
  have hs_w3 := hb_w3.size
  go_wp2
  go_ret
  exact ⟨rfl, by repeat (first | exact Below.refl _ _ | assumption | refine below_allocS ?_ _ | refine below_callS ?_ (by assumption) | (refine Below.alloc ?_ (by first | omega | (simp; done) | (simp; omega)) _) | (refine Below.setCell ?_ (by first | omega | (simp; done) | (simp; omega)) _) | refine Below.drew ?_ | refine below_drewN ?_ _ | (refine below_call ?_ (by assumption) (by first | omega | (simp; done) | (simp; omega))) | (refine Below.trans ?_ (by assumption)))⟩
set_option maxHeartbeats 2000000 in
theorem laws_markModel {lo hi N : Nat} {sa : Option Addr} {sn sc : Nat} {ta : Option Addr} {tn tc : Nat} {ra : Option Addr} {rn rc : Nat} {sz st : List Int} {rs : List RuD} {q : Int} {w : World} (h : MOwn w lo hi sa sn sc ta tn tc ra rn rc sz st rs) (hN : cntR rs = N) (hq0 : 0 ≤ q) (hq1 : q + sn + tn + N ≤ 1099511627776) (hhi : hi ≤ w.heap.size) :
    Calls Try.prog 13 #[.agg #[.slice sa sn sc, .slice ta tn tc, .slice ra rn rc], .int .i64 q] w fun e w' => e = .returned (.int .i64 (q + sn + tn + N)) ∧ Only lo hi w w' ∧ MOwn w' lo hi sa sn sc ta tn tc ra rn rc (marksI q sn) (marksI (q + sn) tn) (marksR (q + sn + tn) rs) := by
  have HM := Lib.hid h
  have hsn := h.sn
  have htn := h.tn
  have hrn := h.rn
  clear h
  go_enter Try.func13, Try.ntmps13
  go_wp2_with fail
  obtain ⟨wA, hwA⟩ : ∃ wA : World, wA = w.alloc (.cells #[.slice sa sn sc, .slice ta tn tc, .slice ra rn rc] 31) := ⟨_, rfl⟩
  have X := Lib.hid (show Blk wA w.heap.size #[.slice sa sn sc, .slice ta tn tc, .slice ra rn rc] 31 by rw [hwA]; exact Blk.made _ _ _)
  have hbA : Below w.heap.size w wA := by rw [hwA]; repeat (first | exact Below.refl _ _ | assumption | refine below_allocS ?_ _ | refine below_callS ?_ (by assumption) | (refine Below.alloc ?_ (by first | omega | (simp; done) | (simp; omega)) _) | (refine Below.setCell ?_ (by first | omega | (simp; done) | (simp; omega)) _) | refine Below.drew ?_ | refine below_drewN ?_ _ | (refine below_call ?_ (by assumption) (by first | omega | (simp; done) | (simp; omega))) | (refine Below.trans ?_ (by assumption)))
  rw [← hwA]
  clear hwA
  have S0 := (HM.out.keep hbA).s
  have T0 := (HM.out.keep hbA).t
  have R0 := (HM.out.keep hbA).r
  have HO := Lib.hid (Only.of_below (lo := lo) (hi := hi) hbA)
  refine Calls.mono (laws_markInt64S S0 hsn hq0 (by omega)) ?_
  rintro e w1 ⟨rfl, ht, ho⟩
  have S1 := Lib.hid ho
  have T1 := Lib.hid (T0.keepT ht HM.out.ap.symm)
  have R1 := Lib.hid (R0.keepTI S0.typ ht)
  have ho1 := ht.only HM.out.bs
  replace X := Lib.hid (X.out.apart ho1 (.inr hhi))
  replace HO := Lib.hid (HO.out.trans ho1)
  have xl := X.out.lt
  have x0 := X.out.cell 0
  have x1 := X.out.cell 1
  have x2 := X.out.cell 2
  simp at x0 x1 x2
  clear ht ho ho1 S0 T0 R0 hbA
  go_wp2_with fail
  refine Calls.mono (laws_markInt64S T1.out htn (by omega) (by omega)) ?_
  rintro e w2 ⟨rfl, ht, ho⟩
  have T2 := Lib.hid ho
  have S2 := Lib.hid (S1.out.keepT ht HM.out.ap)
  have R2 := Lib.hid (R1.out.keepTI T1.out.typ ht)
  have ho1 := ht.only HM.out.bt
  replace X := Lib.hid (X.out.apart ho1 (.inr hhi))
  replace HO := Lib.hid (HO.out.trans ho1)
  clear xl x0 x1 x2
  have xl := X.out.lt
  have x0 := X.out.cell 0
  have x1 := X.out.cell 1
  have x2 := X.out.cell 2
  simp at x0 x1 x2
  clear ht ho ho1 T1 R1 S1
  go_wp2_with fail
  refine Calls.mono (laws_markRuleS R2.out hN hrn (by omega) (by omega)) ?_
  rintro e w3 ⟨rfl, ho1, hr, hk⟩
  have S3 := Lib.hid (S2.out.keepK hk)
  have T3 := Lib.hid (T2.out.keepK hk)
  have R3 := Lib.hid hr
  replace HO := Lib.hid (HO.out.trans ho1)
  clear xl x0 x1 x2 ho1 hr hk
  go_wp2
  go_ret
  exact ⟨rfl, HO.out, S3.out, T3.out, R3.out, HM.out.ap, HM.out.bs, HM.out.bt, hsn, htn, hrn⟩
end Go.Proofs.Ytfhogleillgcgaa
