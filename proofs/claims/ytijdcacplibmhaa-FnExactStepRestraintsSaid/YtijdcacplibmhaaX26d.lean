/- The exact laws of the steps of restraints, walked. -/
import Derived.Test.YtijdcacplibmhaaL26d
namespace Go.Proofs.Ytijdcacplibmhaa
open Go.RowKit
set_option linter.unusedVariables false
set_option linter.unusedSimpArgs false
theorem Apart.lt {E E' : TypeId} {w w' : World} {b b' : Nat} {a a' : Option Addr} {n n' c c' : Nat} {l l' : List Int} (h : OwnI E w b a n c l) (h' : OwnI E' w' b' a' n' c' l') (hb : w.heap.size ≤ b') : Apart a a' :=
  Apart.of (fun g e => (h.blk g e).2) (fun g e => Nat.le_trans hb (h'.blk g e).1)
set_option maxHeartbeats 4000000 in
theorem law_StepRestraints {a : Option Addr} {n c : Nat} {l : List Int} {p q : Int} {w : World} (hI : Ints w a n c l) (_ : n ≤ maxLen) (hp : I64 p) (hq : I64 q) : Calls Try.prog 9 #[.slice a n c, .agg #[.int .i64 p, .int .i64 q]] w fun e w' => e = .returned (.bool true) ∧ Below w.heap.size w w' := by
  by_cases hn : n ≤ 1048576
  · have HI := Lib.hid hI
    have hx : (⟨p, q⟩ : I2).ok := ⟨hp, hq⟩
    have HX := Lib.hid hx
    have HB := Lib.hid (Blk.made w #[.int .i64 p, .int .i64 q] 46)
    clear hI hp hq hx
    go_enter Try.func9, Try.ntmps9
    go_wp2
    go_region_held3 (fun wx => Blk wx w.heap.size #[.int .i64 p, .int .i64 q] 46 ∧ wx.cell? ⟨w.heap.size, 0, none⟩ = some (.int .i64 p) ∧ wx.cell? ⟨w.heap.size, 1, none⟩ = some (.int .i64 q) ∧ w.heap.size < wx.heap.size ∧ Below w.heap.size w wx) (((try go_split_ands); (repeat' apply And.intro) <;> first | assumption | exact Below.drew (Below.refl _ _) | exact Blk.keep (by assumption) hbx | exact Blk.drew (by assumption) | exact Blk.drew (Blk.made _ _ _) | exact Below.drew (by assumption) | exact Below.drew (below_allocS (by first | exact Below.refl _ _ | assumption) _) | exact below_callS (by assumption) hbx | exact below_call (by assumption) hbx (Below.size (by assumption)) | exact (hcx _ _ (by assumption)).trans (by assumption) | omega | (simp [*]; done) | (simp; omega))) (first | (go_at_call 14; go_split_ands; refine Calls.mono (laws_toInt64S_g (HI.out.keep (by assumption)) hn) ?_; rintro e w1 ⟨g1, rfl, hbx, ho1⟩; have HO1 := Lib.hid ho1; obtain ⟨hcx, hfx⟩ := bcell hbx; have hsx := hbx.size) | (go_at_call 32; refine Calls.mono (laws_toRestraintStep (x := ⟨p, q⟩)) ?_; rintro e w2 ⟨rfl, hbx⟩; obtain ⟨hcx, hfx⟩ := bcell hbx; have hsx := hbx.size) | (go_at_call 31; refine Calls.mono (spec_StepRestraints (x := ⟨p, q⟩) (HO1.out.ints.keep (by repeat (first | exact Below.refl _ _ | assumption | refine below_allocS ?_ _ | refine below_callS ?_ (by assumption) | (refine Below.alloc ?_ (by first | omega | (simp; done) | (simp; omega)) _) | (refine Below.setCell ?_ (by first | omega | (simp; done) | (simp; omega)) _) | refine Below.drew ?_ | refine below_drewN ?_ _ | (refine below_call ?_ (by assumption) (by first | omega | (simp; done) | (simp; omega))) | (refine Below.trans ?_ (by assumption))))) hn HX.out) ?_; rintro e w3 ⟨n3, a3, c3, rfl, hbx, ho3⟩; have HOw := Lib.hid ho3; obtain ⟨hcx, hfx⟩ := bcell hbx; have hsx := hbx.size))
    go_split_ands
    have HB3 := Lib.hid (show Blk w3 w.heap.size #[.int .i64 p, .int .i64 q] 46 by assumption)
    have hB3 : Below w.heap.size w w3 := by assumption
    have hz3 : w.heap.size < w3.heap.size := by assumption
    go_wp2_with fail
    refine Calls.mono (laws_toInt64S (HI.out.keep (by repeat (first | exact Below.refl _ _ | assumption | refine below_allocS ?_ _ | refine below_callS ?_ (by assumption) | (refine Below.alloc ?_ (by first | omega | (simp; done) | (simp; omega)) _) | (refine Below.setCell ?_ (by first | omega | (simp; done) | (simp; omega)) _) | refine Below.drew ?_ | refine below_drewN ?_ _ | (refine below_call ?_ (by assumption) (by first | omega | (simp; done) | (simp; omega))) | (refine Below.trans ?_ (by assumption))))) hn) ?_
    rintro e w4 ⟨rfl, hb_w4, HO4⟩
    obtain ⟨hc_w4, hf_w4⟩ := bcell hb_w4
    have hs_w4 := hb_w4.size
    have HOx := Lib.hid HO4
    have hz4 : w.heap.size < w4.heap.size := by omega
    go_wp2_with fail
    refine Calls.mono (laws_toRestraintStep (x := ⟨p, q⟩)) ?_
    rintro e w5 ⟨rfl, hb_w5⟩
    obtain ⟨hc_w5, hf_w5⟩ := bcell hb_w5
    have hs_w5 := hb_w5.size
    go_wp2_with fail
    refine Calls.mono (impl_StepRestraints (x := ⟨p, q⟩) (HOx.out.ints.keep (by repeat (first | exact Below.refl _ _ | assumption | refine below_allocS ?_ _ | refine below_callS ?_ (by assumption) | (refine Below.alloc ?_ (by first | omega | (simp; done) | (simp; omega)) _) | (refine Below.setCell ?_ (by first | omega | (simp; done) | (simp; omega)) _) | refine Below.drew ?_ | refine below_drewN ?_ _ | (refine below_call ?_ (by assumption) (by first | omega | (simp; done) | (simp; omega))) | (refine Below.trans ?_ (by assumption))))) hn HX.out) ?_
    rintro e w6 ⟨n6, a6, c6, rfl, hb_w6, ho6⟩
    have hs_w6 := hb_w6.size
    have HOg := Lib.hid ho6
    have hn6 : n6 = n3 := by rw [← ho6.len, HOw.out.len]
    subst hn6
    have hres : n6 ≤ 1048576 := by
      have h1 := ho6.len
      have h2 := runRes_len (st := [⟨p, q⟩]) (l := l)
      have h3 := HI.out.len
      omega
    clear ho6
    have h33 := fun (wx : World) (g : Nat) (h : Ints wx (some ⟨g, 0, none⟩) n n l) => impl_StepRestraints (x := ⟨p, q⟩) (w := wx) h hn HX.out
    generalize runRes l [⟨p, q⟩] = R at *
    generalize runCode l [⟨p, q⟩] = code at *
    have hcc : (code != code) = false := by simp
    have H33 := Lib.hid h33
    have HOg12len := Lib.hid HOg.out.len
    clear h33
    have HBg := Lib.hid (HB3.out.keep (show Below w3.heap.size w3 w6 by repeat (first | exact Below.refl _ _ | assumption | refine below_allocS ?_ _ | refine below_callS ?_ (by assumption) | (refine Below.alloc ?_ (by first | omega | (simp; done) | (simp; omega)) _) | (refine Below.setCell ?_ (by first | omega | (simp; done) | (simp; omega)) _) | refine Below.drew ?_ | refine below_drewN ?_ _ | (refine below_call ?_ (by assumption) (by first | omega | (simp; done) | (simp; omega))) | (refine Below.trans ?_ (by assumption)))))
    have HOwg := Lib.hid (HOw.out.keep (show Below w3.heap.size w3 w6 by repeat (first | exact Below.refl _ _ | assumption | refine below_allocS ?_ _ | refine below_callS ?_ (by assumption) | (refine Below.alloc ?_ (by first | omega | (simp; done) | (simp; omega)) _) | (refine Below.setCell ?_ (by first | omega | (simp; done) | (simp; omega)) _) | refine Below.drew ?_ | refine below_drewN ?_ _ | (refine below_call ?_ (by assumption) (by first | omega | (simp; done) | (simp; omega))) | (refine Below.trans ?_ (by assumption)))))
    have HOxg := Lib.hid (HOx.out.keep (show Below w4.heap.size w4 w6 by repeat (first | exact Below.refl _ _ | assumption | refine below_allocS ?_ _ | refine below_callS ?_ (by assumption) | (refine Below.alloc ?_ (by first | omega | (simp; done) | (simp; omega)) _) | (refine Below.setCell ?_ (by first | omega | (simp; done) | (simp; omega)) _) | refine Below.drew ?_ | refine below_drewN ?_ _ | (refine below_call ?_ (by assumption) (by first | omega | (simp; done) | (simp; omega))) | (refine Below.trans ?_ (by assumption)))))
    have hBg : Below w.heap.size w w6 := by repeat (first | exact Below.refl _ _ | assumption | refine below_allocS ?_ _ | refine below_callS ?_ (by assumption) | (refine Below.alloc ?_ (by first | omega | (simp; done) | (simp; omega)) _) | (refine Below.setCell ?_ (by first | omega | (simp; done) | (simp; omega)) _) | refine Below.drew ?_ | refine below_drewN ?_ _ | (refine below_call ?_ (by assumption) (by first | omega | (simp; done) | (simp; omega))) | (refine Below.trans ?_ (by assumption)))
    have hwx := Lib.hid (Apart.lt HOw.out HOx.out (Nat.le_refl _))
    have hwg := Lib.hid (Apart.lt HOw.out HOg.out (by omega))
    have hxg := Lib.hid (Apart.lt HOx.out HOg.out (by omega))
    have hxb := HOx.out.blk
    have hgb := HOg.out.blk
    clear hc_w4 hf_w4 hc_w5 hf_w5 hb_w4 hb_w5 hb_w6
    go_wp2_with fail
    refine Calls.mono (laws_eqInt64S HOg.out.ints HOwg.out.ints hres hres) ?_
    rintro e w7 ⟨rfl, hb_w7⟩
    obtain ⟨hc_w7, hf_w7⟩ := bcell hb_w7
    have hs_w7 := hb_w7.size
    go_wp2_with fail
    refine Calls.mono (laws_toInt64S (HI.out.keep (by repeat (first | exact Below.refl _ _ | assumption | refine below_allocS ?_ _ | refine below_callS ?_ (by assumption) | (refine Below.alloc ?_ (by first | omega | (simp; done) | (simp; omega)) _) | (refine Below.setCell ?_ (by first | omega | (simp; done) | (simp; omega)) _) | refine Below.drew ?_ | refine below_drewN ?_ _ | (refine below_call ?_ (by assumption) (by first | omega | (simp; done) | (simp; omega))) | (refine Below.trans ?_ (by assumption))))) hn) ?_
    rintro e w8 ⟨rfl, hb_w8, HO8⟩
    obtain ⟨hc_w8, hf_w8⟩ := bcell hb_w8
    have hs_w8 := hb_w8.size
    have HO8 := Lib.hid HO8
    go_wp2_with fail
    refine Calls.mono (laws_eqInt64S (HOxg.out.ints.keep (by repeat (first | exact Below.refl _ _ | assumption | refine below_allocS ?_ _ | refine below_callS ?_ (by assumption) | (refine Below.alloc ?_ (by first | omega | (simp; done) | (simp; omega)) _) | (refine Below.setCell ?_ (by first | omega | (simp; done) | (simp; omega)) _) | refine Below.drew ?_ | refine below_drewN ?_ _ | (refine below_call ?_ (by assumption) (by first | omega | (simp; done) | (simp; omega))) | (refine Below.trans ?_ (by assumption))))) HO8.out.ints hn hn) ?_
    rintro e w9 ⟨rfl, hb_w9⟩
    obtain ⟨hc_w9, hf_w9⟩ := bcell hb_w9
    have hs_w9 := hb_w9.size
    have hB9' : Below w6.heap.size w6 w9 := by repeat (first | exact Below.refl _ _ | assumption | refine below_allocS ?_ _ | refine below_callS ?_ (by assumption) | (refine Below.alloc ?_ (by first | omega | (simp; done) | (simp; omega)) _) | (refine Below.setCell ?_ (by first | omega | (simp; done) | (simp; omega)) _) | refine Below.drew ?_ | refine below_drewN ?_ _ | (refine below_call ?_ (by assumption) (by first | omega | (simp; done) | (simp; omega))) | (refine Below.trans ?_ (by assumption)))
    have hB9 : Below w.heap.size w w9 := by repeat (first | exact Below.refl _ _ | assumption | refine below_allocS ?_ _ | refine below_callS ?_ (by assumption) | (refine Below.alloc ?_ (by first | omega | (simp; done) | (simp; omega)) _) | (refine Below.setCell ?_ (by first | omega | (simp; done) | (simp; omega)) _) | refine Below.drew ?_ | refine below_drewN ?_ _ | (refine below_call ?_ (by assumption) (by first | omega | (simp; done) | (simp; omega))) | (refine Below.trans ?_ (by assumption)))
    go_wp2_with fail
    refine Calls.mono (laws_markInt64S (HOxg.out.keep hB9') hn (by decide) (by decide)) ?_
    rintro e w10 ⟨rfl, ht10, _⟩
    have hs_w10 := ht10.size
    have hB10 : Below w.heap.size w w10 := ht10.below hB9 (by have := hB9.size; omega) (fun b e => by have := hxb b e; omega)
    have HOg10 := Lib.hid ((HOg.out.keep hB9').keepT ht10 hxg.out.symm)
    have HOw10 := Lib.hid ((HOwg.out.keep hB9').keepT ht10 hwx.out)
    have HB10 := Lib.hid (show Blk w10 w.heap.size #[.int .i64 p, .int .i64 q] 46 by
      obtain ⟨r, hg, hr⟩ := ht10
      exact (HBg.out.keep hB9').keepG hg (fun e => by have := hxb _ (hr _ e).2; omega))
    clear ht10 hc_w7 hf_w7 hc_w8 hf_w8 hc_w9 hf_w9 hb_w7 hb_w8 hb_w9
    go_wp2_with fail
    refine Calls.mono (laws_eqInt64S HOg10.out.ints HOw10.out.ints hres hres) ?_
    rintro e w11 ⟨rfl, hb_w11⟩
    obtain ⟨hc_w11, hf_w11⟩ := bcell hb_w11
    have hs_w11 := hb_w11.size
    have hB11' : Below w10.heap.size w10 w11 := by repeat (first | exact Below.refl _ _ | assumption | refine below_allocS ?_ _ | refine below_callS ?_ (by assumption) | (refine Below.alloc ?_ (by first | omega | (simp; done) | (simp; omega)) _) | (refine Below.setCell ?_ (by first | omega | (simp; done) | (simp; omega)) _) | refine Below.drew ?_ | refine below_drewN ?_ _ | (refine below_call ?_ (by assumption) (by first | omega | (simp; done) | (simp; omega))) | (refine Below.trans ?_ (by assumption)))
    have hB11 : Below w.heap.size w w11 := by repeat (first | exact Below.refl _ _ | assumption | refine below_allocS ?_ _ | refine below_callS ?_ (by assumption) | (refine Below.alloc ?_ (by first | omega | (simp; done) | (simp; omega)) _) | (refine Below.setCell ?_ (by first | omega | (simp; done) | (simp; omega)) _) | refine Below.drew ?_ | refine below_drewN ?_ _ | (refine below_call ?_ (by assumption) (by first | omega | (simp; done) | (simp; omega))) | (refine Below.trans ?_ (by assumption)))
    go_wp2_with fail
    refine Calls.mono (laws_markInt64S (HOg10.out.keep hB11') hres (by decide) (by decide)) ?_
    rintro e w12 ⟨rfl, ht12, ho12⟩
    have hs_w12 := ht12.size
    have hB12 : Below w.heap.size w w12 := ht12.below hB11 (by have := hB11.size; omega) (fun b e => by have := hgb b e; omega)
    have HOg12 := Lib.hid ho12
    have HOw12 := Lib.hid ((HOw10.out.keep hB11').keepT ht12 hwg.out)
    have HB12 := Lib.hid (show Blk w12 w.heap.size #[.int .i64 p, .int .i64 q] 46 by
      obtain ⟨r, hg, hr⟩ := ht12
      exact (HB10.out.keep hB11').keepG hg (fun e => by have := hgb _ (hr _ e).2; omega))
    clear ht12 ho12 hc_w11 hf_w11 hb_w11
    go_wp2_with fail
    refine Calls.mono (laws_heldInt64S HOg12.out.ints hres (by decide) (by decide)) ?_
    rintro e _ ⟨rfl, rfl⟩
    have hBB12 := HB12.out
    have e0 := HB12.out.cell 0
    have e1 := HB12.out.cell 1
    have hz12 := HB12.out.lt
    simp at e0 e1
    go_wp2
    go_region_held3 (fun wx => Blk wx w.heap.size #[.int .i64 p, .int .i64 q] 46 ∧ wx.cell? ⟨w.heap.size, 0, none⟩ = some (.int .i64 p) ∧ wx.cell? ⟨w.heap.size, 1, none⟩ = some (.int .i64 q) ∧ w.heap.size < wx.heap.size ∧ Below w.heap.size w wx ∧ Below w12.heap.size w12 wx) (((try go_split_ands); (repeat' apply And.intro) <;> first | assumption | exact Below.drew (Below.refl _ _) | exact Blk.keep (by assumption) hbx | exact Blk.drew (by assumption) | exact Blk.drew (Blk.made _ _ _) | exact Below.drew (by assumption) | exact Below.drew (below_allocS (by first | exact Below.refl _ _ | assumption) _) | exact below_callS (by assumption) hbx | exact below_call (by assumption) hbx (Below.size (by assumption)) | exact (hcx _ _ (by assumption)).trans (by assumption) | omega | (simp [*]; done) | (simp; omega))) (first | (go_at_call 14; go_split_ands; refine Calls.mono (laws_toInt64S_g (HI.out.keep (by assumption)) hn) ?_; rintro e w13 ⟨g13, rfl, hbx, ho13⟩; have HO13 := Lib.hid ho13; obtain ⟨hcx, hfx⟩ := bcell hbx; have hsx := hbx.size) | (go_at_call 32; refine Calls.mono (laws_toRestraintStep (x := ⟨p, q⟩)) ?_; rintro e w14 ⟨rfl, hbx⟩; obtain ⟨hcx, hfx⟩ := bcell hbx; have hsx := hbx.size) | (go_at_call 33; refine Calls.mono (H33.out _ _ (HO13.out.ints.keep (by repeat (first | exact Below.refl _ _ | assumption | refine below_allocS ?_ _ | refine below_callS ?_ (by assumption) | (refine Below.alloc ?_ (by first | omega | (simp; done) | (simp; omega)) _) | (refine Below.setCell ?_ (by first | omega | (simp; done) | (simp; omega)) _) | refine Below.drew ?_ | refine below_drewN ?_ _ | (refine below_call ?_ (by assumption) (by first | omega | (simp; done) | (simp; omega))) | (refine Below.trans ?_ (by assumption)))))) ?_; rintro e w15 ⟨n15, a15, c15, rfl, hbx, ho15⟩; have HOh := Lib.hid ho15; obtain ⟨hcx, hfx⟩ := bcell hbx; have hsx := hbx.size))
    go_split_ands
    have hB15 : Below w.heap.size w w15 := by assumption
    have hB15' : Below w12.heap.size w12 w15 := by assumption
    have hn15 : n15 = n6 := by rw [← HOh.out.len, HOg12len.out]
    subst hn15
    go_wp2_with fail
    refine Calls.mono (laws_eqInt64S HOh.out.ints (HOw12.out.ints.keep hB15') hres hres) ?_
    rintro e w16 ⟨rfl, hb_w16⟩
    obtain ⟨hc_w16, hf_w16⟩ := bcell hb_w16
    have hs_w16 := hb_w16.size
    have hB16' : Below w12.heap.size w12 w16 := by repeat (first | exact Below.refl _ _ | assumption | refine below_allocS ?_ _ | refine below_callS ?_ (by assumption) | (refine Below.alloc ?_ (by first | omega | (simp; done) | (simp; omega)) _) | (refine Below.setCell ?_ (by first | omega | (simp; done) | (simp; omega)) _) | refine Below.drew ?_ | refine below_drewN ?_ _ | (refine below_call ?_ (by assumption) (by first | omega | (simp; done) | (simp; omega))) | (refine Below.trans ?_ (by assumption)))
    go_wp2_with fail
    refine Calls.mono (laws_heldInt64S (HOg12.out.ints.keep hB16') hres (by decide) (by decide)) ?_
    rintro e _ ⟨rfl, rfl⟩
    go_wp2
    go_ret
    exact ⟨rfl, by repeat (first | exact Below.refl _ _ | assumption | refine below_allocS ?_ _ | refine below_callS ?_ (by assumption) | (refine Below.alloc ?_ (by first | omega | (simp; done) | (simp; omega)) _) | (refine Below.setCell ?_ (by first | omega | (simp; done) | (simp; omega)) _) | refine Below.drew ?_ | refine below_drewN ?_ _ | (refine below_call ?_ (by assumption) (by first | omega | (simp; done) | (simp; omega))) | (refine Below.trans ?_ (by assumption)))⟩
  · go_enter Try.func9, Try.ntmps9
    go_wp2
    go_ret
    exact ⟨rfl, by repeat (first | exact Below.refl _ _ | assumption | refine below_allocS ?_ _ | refine below_callS ?_ (by assumption) | (refine Below.alloc ?_ (by first | omega | (simp; done) | (simp; omega)) _) | (refine Below.setCell ?_ (by first | omega | (simp; done) | (simp; omega)) _) | refine Below.drew ?_ | refine below_drewN ?_ _ | (refine below_call ?_ (by assumption) (by first | omega | (simp; done) | (simp; omega))) | (refine Below.trans ?_ (by assumption)))⟩
end Go.Proofs.Ytijdcacplibmhaa
