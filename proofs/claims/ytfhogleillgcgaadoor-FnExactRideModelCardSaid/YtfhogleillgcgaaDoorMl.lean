/- Models of the exact laws: copies, comparisons, marks. -/
import Derived.Test.YtfhogleillgcgaaDoorMk
namespace Go.Proofs.YtfhogleillgcgaaDoor
open Go.RowKit
set_option linter.unusedVariables false
set_option linter.unusedSimpArgs false
theorem Blk.wr {w : World} {b : Nat} {cs : Array Value} {T : TypeId} (h : Blk w b cs T) (i : Nat) (v : Value) : Blk (w.setCell ⟨b, i, none⟩ v) b (cs.setIfInBounds i v) T := by
  exact heap_setCell_same w b i cs T v h
/-- a model that is read, by what it means -/
structure MRd (w : World) (sa : Option Addr) (sn sc : Nat) (ta : Option Addr) (tn tc : Nat) (ra : Option Addr) (rn rc : Nat) (sz st : List Int) (rs : List RuD) : Prop where
  s : Ints w sa sn sc sz
  t : Ints w ta tn tc st
  r : ∃ l, FR w w ra rn rc l ∧ l.map (·.2) = rs
  sn : sn ≤ 1048576
  tn : tn ≤ 1048576
  rn : rn ≤ 1048576
/-- a model of the call's own -/
structure MOwn (w : World) (lo hi : Nat) (sa : Option Addr) (sn sc : Nat) (ta : Option Addr) (tn tc : Nat) (ra : Option Addr) (rn rc : Nat) (sz st : List Int) (rs : List RuD) : Prop where
  s : OwnI 2 w lo sa sn sc sz
  t : OwnI 2 w lo ta tn tc st
  r : MR w lo hi ra rn rc rs
  ap : Apart sa ta
  bs : inI lo hi sa
  bt : inI lo hi ta
  sn : sn ≤ 1048576
  tn : tn ≤ 1048576
  rn : rn ≤ 1048576
theorem MR.fr {w : World} {lo hi : Nat} {a : Option Addr} {n c : Nat} {rs : List RuD} (h : MR w lo hi a n c rs) : ∃ l, FR w w a n c l ∧ l.map (·.2) = rs := by
  obtain ⟨l, h1, h2, h3⟩ := h
  exact ⟨l, h1.fr, h3⟩
theorem FR.keep {w0 w w' : World} {a : Option Addr} {n c : Nat} {l : List (RM × RuD)} (h : FR w0 w a n c l) (hb0 : Below w0.heap.size w0 w') (hb : Below w.heap.size w w') : FR w' w' a n c l := by
  have hf := Flats.keep h hb
  exact ⟨hf.len, hf.cap, hf.pos, fun x hx => (hf.wf x hx).keep hb0, hf.nil⟩
theorem MR.keepTI {w w' : World} {lo hi m : Nat} {a a' : Option Addr} {n c : Nat} {rs : List RuD} (h : MR w lo hi a n c rs) (ty : ∀ {g : Nat}, a' = some ⟨g, 0, none⟩ → ∃ cur, w.heap[g]? = some (.cells cur 2 (0, 0))) (ht : Touch w w' m a') : MR w' lo hi a n c rs := by
  obtain ⟨l, h1, h2, h3⟩ := h
  refine ⟨l, ⟨h1.row.keepT ht (typ_apart h1.row.typ ty (by decide)), fun x hx => ?_, h1.apart⟩, h2, h3⟩
  have hh := h1.each x hx
  exact ⟨hh.nm, hh.nms, hh.g.keepT ht (typ_apart hh.g.typ ty (by decide)), hh.gn, hh.e.keepT ht (typ_apart hh.e.typ ty (by decide)), hh.en⟩
section
variable {w w' : World} {lo hi : Nat} {sa : Option Addr} {sn sc : Nat} {ta : Option Addr} {tn tc : Nat} {ra : Option Addr} {rn rc : Nat} {sz st : List Int} {rs : List RuD}
theorem MRd.keep (h : MRd w sa sn sc ta tn tc ra rn rc sz st rs) (hb : Below w.heap.size w w') : MRd w' sa sn sc ta tn tc ra rn rc sz st rs := by
  obtain ⟨l, h1, h2⟩ := h.r
  exact ⟨h.s.keep hb, h.t.keep hb, ⟨l, h1.keep hb hb, h2⟩, h.sn, h.tn, h.rn⟩
theorem MOwn.rd (h : MOwn w lo hi sa sn sc ta tn tc ra rn rc sz st rs) : MRd w sa sn sc ta tn tc ra rn rc sz st rs := ⟨h.s.ints, h.t.ints, h.r.fr, h.sn, h.tn, h.rn⟩
theorem MOwn.keep (h : MOwn w lo hi sa sn sc ta tn tc ra rn rc sz st rs) (hb : Below w.heap.size w w') : MOwn w' lo hi sa sn sc ta tn tc ra rn rc sz st rs := ⟨h.s.keep hb, h.t.keep hb, h.r.keep hb, h.ap, h.bs, h.bt, h.sn, h.tn, h.rn⟩
theorem MOwn.here (w1 w2 : World) (hk : ∀ k, lo ≤ k → k < hi → w2.heap[k]? = w1.heap[k]?) (h : MOwn w1 lo hi sa sn sc ta tn tc ra rn rc sz st rs) : MOwn w2 lo hi sa sn sc ta tn tc ra rn rc sz st rs :=
  ⟨OwnI.here h.bs w1 w2 hk h.s, OwnI.here h.bt w1 w2 hk h.t, MR.here w1 w2 hk h.r, h.ap, h.bs, h.bt, h.sn, h.tn, h.rn⟩
theorem MOwn.own (h : MOwn w lo hi sa sn sc ta tn tc ra rn rc sz st rs) (hh : hi ≤ w.heap.size) : Own (fun w => MOwn w lo hi sa sn sc ta tn tc ra rn rc sz st rs) lo hi w := ⟨h, hh, MOwn.here⟩
end
set_option maxHeartbeats 2000000 in
theorem laws_eqModel {sa sa' : Option Addr} {sn sc sn' sc' : Nat} {ta ta' : Option Addr} {tn tc tn' tc' : Nat} {ra ra' : Option Addr} {rn rc rn' rc' : Nat} {sz st : List Int} {rs : List RuD} {w : World} (h : MRd w sa sn sc ta tn tc ra rn rc sz st rs) (h' : MRd w sa' sn' sc' ta' tn' tc' ra' rn' rc' sz st rs) :
    Calls Tryd.prog 40 #[.agg #[.slice sa sn sc, .slice ta tn tc, .slice ra rn rc], .agg #[.slice sa' sn' sc', .slice ta' tn' tc', .slice ra' rn' rc']] w fun e w' => e = .returned (.bool true) ∧ Below w.heap.size w w' := by
  obtain ⟨l, hl, hlr⟩ := h.r
  obtain ⟨l', hl', hlr'⟩ := h'.r
  obtain rfl : rn' = rn := by rw [← hl'.len, ← hl.len, ← List.length_map (f := (·.2)), hlr', ← hlr, List.length_map]
  have K1 := Lib.hid (fun (wx : World) (hb : Below w.heap.size w wx) => laws_eqInt64S (h.s.keep hb) (h'.s.keep hb) h.sn h'.sn)
  have K2 := Lib.hid (fun (wx : World) (hb : Below w.heap.size w wx) => laws_eqInt64S (h.t.keep hb) (h'.t.keep hb) h.tn h'.tn)
  have K3 := Lib.hid (fun (wx : World) (hb : Below w.heap.size w wx) => laws_eqRuleS (hl.keep hb hb) (hl'.keep hb hb) (hlr.trans hlr'.symm) h.rn)
  simp only [decide_true] at K1 K2
  clear h h' hl hl' hlr hlr'
  go_enter Tryd.func40, Tryd.ntmps40
  go_wp2_with fail
  refine Calls.mono (K1.out _ (by repeat (first | exact Below.refl _ _ | assumption | refine below_allocS ?_ _ | refine below_callS ?_ (by assumption) | (refine Below.alloc ?_ (by first | omega | (simp; done) | (simp; omega)) _) | (refine Below.setCell ?_ (by first | omega | (simp; done) | (simp; omega)) _) | refine Below.drew ?_ | refine below_drewN ?_ _ | (refine below_call ?_ (by assumption) (by first | omega | (simp; done) | (simp; omega))) | (refine Below.trans ?_ (by assumption))))) ?_
  rintro e w1 ⟨rfl, hb_w1⟩
  obtain ⟨hc_w1, hf_w1⟩ := bcell hb_w1
  have hs_w1 := hb_w1.size
  simp at hs_w1
  have hz1 : w.heap.size < w1.heap.size := by omega
  have hz2 : w.heap.size + 1 < w1.heap.size := by omega
  go_wp2_with fail
  refine Calls.mono (K2.out _ (by repeat (first | exact Below.refl _ _ | assumption | refine below_allocS ?_ _ | refine below_callS ?_ (by assumption) | (refine Below.alloc ?_ (by first | omega | (simp; done) | (simp; omega)) _) | (refine Below.setCell ?_ (by first | omega | (simp; done) | (simp; omega)) _) | refine Below.drew ?_ | refine below_drewN ?_ _ | (refine below_call ?_ (by assumption) (by first | omega | (simp; done) | (simp; omega))) | (refine Below.trans ?_ (by assumption))))) ?_
  rintro e w2 ⟨rfl, hb_w2⟩
  obtain ⟨hc_w2, hf_w2⟩ := bcell hb_w2
  have hs_w2 := hb_w2.size
  have hz3 : w.heap.size < w2.heap.size := by omega
  have hz4 : w.heap.size + 1 < w2.heap.size := by omega
  go_wp2_with fail
  refine Calls.mono (K3.out _ (by repeat (first | exact Below.refl _ _ | assumption | refine below_allocS ?_ _ | refine below_callS ?_ (by assumption) | (refine Below.alloc ?_ (by first | omega | (simp; done) | (simp; omega)) _) | (refine Below.setCell ?_ (by first | omega | (simp; done) | (simp; omega)) _) | refine Below.drew ?_ | refine below_drewN ?_ _ | (refine below_call ?_ (by assumption) (by first | omega | (simp; done) | (simp; omega))) | (refine Below.trans ?_ (by assumption))))) ?_
  rintro e w3 ⟨rfl, hb_w3⟩
  obtain ⟨hc_w3, hf_w3⟩ := bcell hb_w3
  have hs_w3 := hb_w3.size
  go_wp2
  go_ret
  exact ⟨rfl, by repeat (first | exact Below.refl _ _ | assumption | refine below_allocS ?_ _ | refine below_callS ?_ (by assumption) | (refine Below.alloc ?_ (by first | omega | (simp; done) | (simp; omega)) _) | (refine Below.setCell ?_ (by first | omega | (simp; done) | (simp; omega)) _) | refine Below.drew ?_ | refine below_drewN ?_ _ | (refine below_call ?_ (by assumption) (by first | omega | (simp; done) | (simp; omega))) | (refine Below.trans ?_ (by assumption)))⟩
set_option maxHeartbeats 2000000 in
theorem laws_markModel {lo hi N : Nat} {sa : Option Addr} {sn sc : Nat} {ta : Option Addr} {tn tc : Nat} {ra : Option Addr} {rn rc : Nat} {sz st : List Int} {rs : List RuD} {q : Int} {w : World} (h : MOwn w lo hi sa sn sc ta tn tc ra rn rc sz st rs) (hN : cntR rs = N) (hq0 : 0 ≤ q) (hq1 : q + sn + tn + N ≤ 1099511627776) (hhi : hi ≤ w.heap.size) :
    Calls Tryd.prog 41 #[.agg #[.slice sa sn sc, .slice ta tn tc, .slice ra rn rc], .int .i64 q] w fun e w' => e = .returned (.int .i64 (q + sn + tn + N)) ∧ Only lo hi w w' ∧ MOwn w' lo hi sa sn sc ta tn tc ra rn rc (marksI q sn) (marksI (q + sn) tn) (marksR (q + sn + tn) rs) := by
  have HM := Lib.hid h
  have hsn := h.sn
  have htn := h.tn
  have hrn := h.rn
  clear h
  go_enter Tryd.func41, Tryd.ntmps41
  go_wp2_with fail
  obtain ⟨wA, hwA⟩ : ∃ wA : World, wA = w.alloc (.cells #[.slice sa sn sc, .slice ta tn tc, .slice ra rn rc] 60) := ⟨_, rfl⟩
  have X := Lib.hid (show Blk wA w.heap.size #[.slice sa sn sc, .slice ta tn tc, .slice ra rn rc] 60 by rw [hwA]; exact Blk.made _ _ _)
  have hbA : Below w.heap.size w wA := by rw [hwA]; repeat (first | exact Below.refl _ _ | assumption | refine below_allocS ?_ _ | refine below_callS ?_ (by assumption) | (refine Below.alloc ?_ (by first | omega | (simp; done) | (simp; omega)) _) | (refine Below.setCell ?_ (by first | omega | (simp; done) | (simp; omega)) _) | refine Below.drew ?_ | refine below_drewN ?_ _ | (refine below_call ?_ (by assumption) (by first | omega | (simp; done) | (simp; omega))) | (refine Below.trans ?_ (by assumption)))
  rw [← hwA]
  clear hwA
  have S0 := (HM.out.keep hbA).s
  have T0 := (HM.out.keep hbA).t
  have R0 := (HM.out.keep hbA).r
  have HO := Lib.hid (Only.of_below (lo := lo) (hi := hi) hbA)
  refine Calls.mono (laws_markInt64S S0 hsn hq0 (by omega)) ?_
  rintro e w1 ⟨rfl, ht, ho⟩
  have S1 := Lib.hid ho
  have T1 := Lib.hid (T0.keepT ht HM.out.ap.symm)
  have R1 := Lib.hid (R0.keepTI S0.typ ht)
  have ho1 := ht.only HM.out.bs
  replace X := Lib.hid (X.out.apart ho1 (.inr hhi))
  replace HO := Lib.hid (HO.out.trans ho1)
  have xl := X.out.lt
  have x0 := X.out.cell 0
  have x1 := X.out.cell 1
  have x2 := X.out.cell 2
  simp at x0 x1 x2
  clear ht ho ho1 S0 T0 R0 hbA
  go_wp2_with fail
  refine Calls.mono (laws_markInt64S T1.out htn (by omega) (by omega)) ?_
  rintro e w2 ⟨rfl, ht, ho⟩
  have T2 := Lib.hid ho
  have S2 := Lib.hid (S1.out.keepT ht HM.out.ap)
  have R2 := Lib.hid (R1.out.keepTI T1.out.typ ht)
  have ho1 := ht.only HM.out.bt
  replace X := Lib.hid (X.out.apart ho1 (.inr hhi))
  replace HO := Lib.hid (HO.out.trans ho1)
  clear xl x0 x1 x2
  have xl := X.out.lt
  have x0 := X.out.cell 0
  have x1 := X.out.cell 1
  have x2 := X.out.cell 2
  simp at x0 x1 x2
  clear ht ho ho1 T1 R1 S1
  go_wp2_with fail
  refine Calls.mono (laws_markRuleS R2.out hN hrn (by omega) (by omega)) ?_
  rintro e w3 ⟨rfl, ho1, hr, hk⟩
  have S3 := Lib.hid (S2.out.keepK hk)
  have T3 := Lib.hid (T2.out.keepK hk)
  have R3 := Lib.hid hr
  replace HO := Lib.hid (HO.out.trans ho1)
  clear xl x0 x1 x2 ho1 hr hk
  go_wp2
  go_ret
  exact ⟨rfl, HO.out, S3.out, T3.out, R3.out, HM.out.ap, HM.out.bs, HM.out.bt, hsn, htn, hrn⟩
set_option maxHeartbeats 2000000 in
theorem laws_heldModel {lo hi N : Nat} {sa : Option Addr} {sn sc : Nat} {ta : Option Addr} {tn tc : Nat} {ra : Option Addr} {rn rc : Nat} {rs : List RuD} {q : Int} {w : World} (h : MOwn w lo hi sa sn sc ta tn tc ra rn rc (marksI q sn) (marksI (q + sn) tn) (marksR (q + sn + tn) rs)) (hN : cntR rs = N) (hq0 : 0 ≤ q) (hq1 : q + sn + tn + N ≤ 1099511627776) :
    Calls Tryd.prog 42 #[.agg #[.slice sa sn sc, .slice ta tn tc, .slice ra rn rc], .int .i64 q] w fun e w' => e = .returned (.int .i64 (q + sn + tn + N)) ∧ Below w.heap.size w w' := by
  have hsn := h.sn
  have htn := h.tn
  have hrn := h.rn
  have K1 := Lib.hid (fun (wx : World) (hb : Below w.heap.size w wx) => laws_heldInt64S (h.s.ints.keep hb) hsn hq0 (by omega))
  have K2 := Lib.hid (fun (wx : World) (hb : Below w.heap.size w wx) => laws_heldInt64S (q := q + sn) (h.t.ints.keep hb) htn (by omega) (by omega))
  have K3 := Lib.hid (fun (wx : World) (hb : Below w.heap.size w wx) => laws_heldRuleS (q := q + sn + tn) (h.r.keep hb) hN hrn (by omega) (by omega))
  clear h
  go_enter Tryd.func42, Tryd.ntmps42
  go_wp2_with fail
  go_wp2_with fail
  refine Calls.mono ((K1.out _ (by repeat (first | exact Below.refl _ _ | assumption | refine below_allocS ?_ _ | refine below_callS ?_ (by assumption) | (refine Below.alloc ?_ (by first | omega | (simp; done) | (simp; omega)) _) | (refine Below.setCell ?_ (by first | omega | (simp; done) | (simp; omega)) _) | refine Below.drew ?_ | refine below_drewN ?_ _ | (refine below_call ?_ (by assumption) (by first | omega | (simp; done) | (simp; omega))) | (refine Below.trans ?_ (by assumption)))))) ?_
  rintro e _ ⟨rfl, rfl⟩
  go_wp2_with fail
  go_wp2_with fail
  refine Calls.mono ((K2.out _ (by repeat (first | exact Below.refl _ _ | assumption | refine below_allocS ?_ _ | refine below_callS ?_ (by assumption) | (refine Below.alloc ?_ (by first | omega | (simp; done) | (simp; omega)) _) | (refine Below.setCell ?_ (by first | omega | (simp; done) | (simp; omega)) _) | refine Below.drew ?_ | refine below_drewN ?_ _ | (refine below_call ?_ (by assumption) (by first | omega | (simp; done) | (simp; omega))) | (refine Below.trans ?_ (by assumption)))))) ?_
  rintro e _ ⟨rfl, rfl⟩
  go_wp2_with fail
  refine Calls.mono (K3.out _ (by repeat (first | exact Below.refl _ _ | assumption | refine below_allocS ?_ _ | refine below_callS ?_ (by assumption) | (refine Below.alloc ?_ (by first | omega | (simp; done) | (simp; omega)) _) | (refine Below.setCell ?_ (by first | omega | (simp; done) | (simp; omega)) _) | refine Below.drew ?_ | refine below_drewN ?_ _ | (refine below_call ?_ (by assumption) (by first | omega | (simp; done) | (simp; omega))) | (refine Below.trans ?_ (by assumption))))) ?_
  rintro e w1 ⟨rfl, hb_w1⟩
  obtain ⟨hc_w1, hf_w1⟩ := bcell hb_w1
  have hs_w1 := hb_w1.size
  go_wp2
  go_ret
  exact ⟨rfl, by repeat (first | exact Below.refl _ _ | assumption | refine below_allocS ?_ _ | refine below_callS ?_ (by assumption) | (refine Below.alloc ?_ (by first | omega | (simp; done) | (simp; omega)) _) | (refine Below.setCell ?_ (by first | omega | (simp; done) | (simp; omega)) _) | refine Below.drew ?_ | refine below_drewN ?_ _ | (refine below_call ?_ (by assumption) (by first | omega | (simp; done) | (simp; omega))) | (refine Below.trans ?_ (by assumption)))⟩
end Go.Proofs.YtfhogleillgcgaaDoor
