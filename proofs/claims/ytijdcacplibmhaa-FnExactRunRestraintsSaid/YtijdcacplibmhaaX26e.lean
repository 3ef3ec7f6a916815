/- The exact law of running steps of restraints, walked. -/
import Derived.Test.YtijdcacplibmhaaL26d
namespace Go.Proofs.Ytijdcacplibmhaa
open Go.RowKit
set_option linter.unusedVariables false
set_option linter.unusedSimpArgs false
theorem apart_lt {E E' : TypeId} {w w' : World} {b b' : Nat} {a a' : Option Addr} {n n' c c' : Nat} {l l' : List Int} (h : OwnI E w b a n c l) (h' : OwnI E' w' b' a' n' c' l') (hb : w.heap.size ≤ b') : Apart a a' :=
  Apart.of (fun g e => (h.blk g e).2) (fun g e => Nat.le_trans hb (h'.blk g e).1)
set_option maxHeartbeats 4000000 in
theorem law_RunRestraints {a ad : Option Addr} {n c ns cs : Nat} {l : List Int} {st : List I2} {w : World} (hI : Ints w a n c l) (_ : n ≤ maxLen) (hS : F2 w ad ns cs st) (hmax : ns ≤ maxLen) : Calls Try.prog 12 #[.slice a n c, .slice ad ns cs] w fun e w' => e = .returned (.bool true) ∧ Below w.heap.size w w' := by
  have hmax' : (ns : Int) ≤ 9223372036854775807 := by unfold maxLen at hmax; omega
  have HI := Lib.hid hI
  have HS := Lib.hid hS
  clear hI hS hmax
  by_cases hn : n ≤ 1048576
  · by_cases hns : ns ≤ 1048576
    · have hsz : (if (1048576 : Int) < (ns : Int) then -1 else 1048576 - (ns : Int)) = 1048576 - (ns : Int) := if_neg (by omega)
      go_enter Try.func12, Try.ntmps12
      go_wp2_with fail
      refine Calls.mono (laws_szRestraintStepS hmax' (by omega) (by omega)) ?_
      rintro e _ ⟨rfl, rfl⟩
      rw [hsz]
      clear hsz
      go_wp2_with fail
      refine Calls.mono (laws_toInt64S HI.out hn) ?_
      rintro e w1 ⟨rfl, hb_w1, HO1⟩
      obtain ⟨hc_w1, hf_w1⟩ := bcell hb_w1
      have hs_w1 := hb_w1.size
      have HO1 := Lib.hid HO1
      go_wp2_with fail
      refine Calls.mono (laws_toRestraintStepS (HS.out.keep (by repeat (first | exact Below.refl _ _ | assumption | refine below_allocS ?_ _ | refine below_callS ?_ (by assumption) | (refine Below.alloc ?_ (by first | omega | (simp; done) | (simp; omega)) _) | (refine Below.setCell ?_ (by first | omega | (simp; done) | (simp; omega)) _) | refine Below.drew ?_ | refine below_drewN ?_ _ | (refine below_call ?_ (by assumption) (by first | omega | (simp; done) | (simp; omega))) | (refine Below.trans ?_ (by assumption))))) hns) ?_
      rintro e w2 ⟨rfl, hb_w2, HO2⟩
      obtain ⟨hc_w2, hf_w2⟩ := bcell hb_w2
      have hs_w2 := hb_w2.size
      have HO2 := Lib.hid HO2
      go_wp2_with fail
      refine Calls.mono (spec_RunRestraints (HO1.out.ints.keep (by repeat (first | exact Below.refl _ _ | assumption | refine below_allocS ?_ _ | refine below_callS ?_ (by assumption) | (refine Below.alloc ?_ (by first | omega | (simp; done) | (simp; omega)) _) | (refine Below.setCell ?_ (by first | omega | (simp; done) | (simp; omega)) _) | refine Below.drew ?_ | refine below_drewN ?_ _ | (refine below_call ?_ (by assumption) (by first | omega | (simp; done) | (simp; omega))) | (refine Below.trans ?_ (by assumption))))) HO2.out.flats hn hns) ?_
      rintro e w3 ⟨n3, a3, c3, rfl, hb_w3, ho3⟩
      have hs_w3 := hb_w3.size
      have HOw := Lib.hid ho3
      clear ho3
      go_wp2_with fail
      refine Calls.mono (laws_toInt64S (HI.out.keep (by repeat (first | exact Below.refl _ _ | assumption | refine below_allocS ?_ _ | refine below_callS ?_ (by assumption) | (refine Below.alloc ?_ (by first | omega | (simp; done) | (simp; omega)) _) | (refine Below.setCell ?_ (by first | omega | (simp; done) | (simp; omega)) _) | refine Below.drew ?_ | refine below_drewN ?_ _ | (refine below_call ?_ (by assumption) (by first | omega | (simp; done) | (simp; omega))) | (refine Below.trans ?_ (by assumption))))) hn) ?_
      rintro e w4 ⟨rfl, hb_w4, HO4⟩
      obtain ⟨hc_w4, hf_w4⟩ := bcell hb_w4
      have hs_w4 := hb_w4.size
      have HOx := Lib.hid HO4
      go_wp2_with fail
      refine Calls.mono (laws_toRestraintStepS (HS.out.keep (by repeat (first | exact Below.refl _ _ | assumption | refine below_allocS ?_ _ | refine below_callS ?_ (by assumption) | (refine Below.alloc ?_ (by first | omega | (simp; done) | (simp; omega)) _) | (refine Below.setCell ?_ (by first | omega | (simp; done) | (simp; omega)) _) | refine Below.drew ?_ | refine below_drewN ?_ _ | (refine below_call ?_ (by assumption) (by first | omega | (simp; done) | (simp; omega))) | (refine Below.trans ?_ (by assumption))))) hns) ?_
      rintro e w5 ⟨rfl, hb_w5, HO5⟩
      obtain ⟨hc_w5, hf_w5⟩ := bcell hb_w5
      have hs_w5 := hb_w5.size
      have HOy := Lib.hid HO5
      have h33 := fun (wx : World) (g g' : Nat) (h : Ints wx (some ⟨g, 0, none⟩) n n l) (h' : F2 wx (some ⟨g', 0, none⟩) ns ns st) => impl_RunRestraints (w := wx) h h' hn hns
      go_wp2_with fail
      refine Calls.mono (h33 _ _ _ (HOx.out.ints.keep (by repeat (first | exact Below.refl _ _ | assumption | refine below_allocS ?_ _ | refine below_callS ?_ (by assumption) | (refine Below.alloc ?_ (by first | omega | (simp; done) | (simp; omega)) _) | (refine Below.setCell ?_ (by first | omega | (simp; done) | (simp; omega)) _) | refine Below.drew ?_ | refine below_drewN ?_ _ | (refine below_call ?_ (by assumption) (by first | omega | (simp; done) | (simp; omega))) | (refine Below.trans ?_ (by assumption))))) HOy.out.flats) ?_
      rintro e w6 ⟨n6, a6, c6, rfl, hb_w6, ho6⟩
      have hs_w6 := hb_w6.size
      have HOg := Lib.hid ho6
      have hn6 : n6 = n3 := by rw [← ho6.len, HOw.out.len]
      subst hn6
      have hres : n6 ≤ 1048576 := by
        have h1 := ho6.len
        have h2 := runRes_len (st := st) (l := l)
        have h3 := HI.out.len
        omega
      clear ho6
      generalize runRes l st = R at *
      generalize runCode l st = code at *
      have hcc : (code != code) = false := by simp
      have H33 := Lib.hid h33
      have HOglen := Lib.hid HOg.out.len
      clear h33
      have HOyg := Lib.hid (HOy.out.keep (show Below w5.heap.size w5 w6 by repeat (first | exact Below.refl _ _ | assumption | refine below_allocS ?_ _ | refine below_callS ?_ (by assumption) | (refine Below.alloc ?_ (by first | omega | (simp; done) | (simp; omega)) _) | (refine Below.setCell ?_ (by first | omega | (simp; done) | (simp; omega)) _) | refine Below.drew ?_ | refine below_drewN ?_ _ | (refine below_call ?_ (by assumption) (by first | omega | (simp; done) | (simp; omega))) | (refine Below.trans ?_ (by assumption)))))
      have HOxg := Lib.hid (HOx.out.keep (show Below w4.heap.size w4 w6 by repeat (first | exact Below.refl _ _ | assumption | refine below_allocS ?_ _ | refine below_callS ?_ (by assumption) | (refine Below.alloc ?_ (by first | omega | (simp; done) | (simp; omega)) _) | (refine Below.setCell ?_ (by first | omega | (simp; done) | (simp; omega)) _) | refine Below.drew ?_ | refine below_drewN ?_ _ | (refine below_call ?_ (by assumption) (by first | omega | (simp; done) | (simp; omega))) | (refine Below.trans ?_ (by assumption)))))
      have HOwg := Lib.hid (HOw.out.keep (show Below w3.heap.size w3 w6 by repeat (first | exact Below.refl _ _ | assumption | refine below_allocS ?_ _ | refine below_callS ?_ (by assumption) | (refine Below.alloc ?_ (by first | omega | (simp; done) | (simp; omega)) _) | (refine Below.setCell ?_ (by first | omega | (simp; done) | (simp; omega)) _) | refine Below.drew ?_ | refine below_drewN ?_ _ | (refine below_call ?_ (by assumption) (by first | omega | (simp; done) | (simp; omega))) | (refine Below.trans ?_ (by assumption)))))
      have hBg : Below w.heap.size w w6 := by repeat (first | exact Below.refl _ _ | assumption | refine below_allocS ?_ _ | refine below_callS ?_ (by assumption) | (refine Below.alloc ?_ (by first | omega | (simp; done) | (simp; omega)) _) | (refine Below.setCell ?_ (by first | omega | (simp; done) | (simp; omega)) _) | refine Below.drew ?_ | refine below_drewN ?_ _ | (refine below_call ?_ (by assumption) (by first | omega | (simp; done) | (simp; omega))) | (refine Below.trans ?_ (by assumption)))
      have hwx := Lib.hid (apart_lt HOw.out HOx.out (Nat.le_refl _))
      have hwg := Lib.hid (apart_lt HOw.out HOg.out (by omega))
      have hxg := Lib.hid (apart_lt HOx.out HOg.out (by omega))
      have hxb := HOx.out.blk
      have hyb := HOy.out.blk
      have hgb := HOg.out.blk
      have hwb := HOw.out.blk
      clear hc_w1 hf_w1 hc_w2 hf_w2 hc_w4 hf_w4 hc_w5 hf_w5 hb_w1 hb_w2 hb_w3 hb_w4 hb_w5 hb_w6 HO4 HO5
      go_wp2_with fail
      refine Calls.mono (laws_eqInt64S HOg.out.ints HOwg.out.ints hres hres) ?_
      rintro e w7 ⟨rfl, hb_w7⟩
      obtain ⟨hc_w7, hf_w7⟩ := bcell hb_w7
      have hs_w7 := hb_w7.size
      go_wp2_with fail
      refine Calls.mono (laws_toInt64S (HI.out.keep (by repeat (first | exact Below.refl _ _ | assumption | refine below_allocS ?_ _ | refine below_callS ?_ (by assumption) | (refine Below.alloc ?_ (by first | omega | (simp; done) | (simp; omega)) _) | (refine Below.setCell ?_ (by first | omega | (simp; done) | (simp; omega)) _) | refine Below.drew ?_ | refine below_drewN ?_ _ | (refine below_call ?_ (by assumption) (by first | omega | (simp; done) | (simp; omega))) | (refine Below.trans ?_ (by assumption))))) hn) ?_
      rintro e w8 ⟨rfl, hb_w8, HO8⟩
      obtain ⟨hc_w8, hf_w8⟩ := bcell hb_w8
      have hs_w8 := hb_w8.size
      have HO8 := Lib.hid HO8
      go_wp2_with fail
      refine Calls.mono (laws_eqInt64S (HOxg.out.ints.keep (by repeat (first | exact Below.refl _ _ | assumption | refine below_allocS ?_ _ | refine below_callS ?_ (by assumption) | (refine Below.alloc ?_ (by first | omega | (simp; done) | (simp; omega)) _) | (refine Below.setCell ?_ (by first | omega | (simp; done) | (simp; omega)) _) | refine Below.drew ?_ | refine below_drewN ?_ _ | (refine below_call ?_ (by assumption) (by first | omega | (simp; done) | (simp; omega))) | (refine Below.trans ?_ (by assumption))))) HO8.out.ints hn hn) ?_
      rintro e w9 ⟨rfl, hb_w9⟩
      obtain ⟨hc_w9, hf_w9⟩ := bcell hb_w9
      have hs_w9 := hb_w9.size
      go_wp2_with fail
      refine Calls.mono (laws_toRestraintStepS (HS.out.keep (by repeat (first | exact Below.refl _ _ | assumption | refine below_allocS ?_ _ | refine below_callS ?_ (by assumption) | (refine Below.alloc ?_ (by first | omega | (simp; done) | (simp; omega)) _) | (refine Below.setCell ?_ (by first | omega | (simp; done) | (simp; omega)) _) | refine Below.drew ?_ | refine below_drewN ?_ _ | (refine below_call ?_ (by assumption) (by first | omega | (simp; done) | (simp; omega))) | (refine Below.trans ?_ (by assumption))))) hns) ?_
      rintro e w10 ⟨rfl, hb_w10, HO10⟩
      obtain ⟨hc_w10, hf_w10⟩ := bcell hb_w10
      have hs_w10 := hb_w10.size
      have HO10 := Lib.hid HO10
      go_wp2_with fail
      refine Calls.mono (laws_eqRestraintStepS (HOyg.out.flats.keep (by repeat (first | exact Below.refl _ _ | assumption | refine below_allocS ?_ _ | refine below_callS ?_ (by assumption) | (refine Below.alloc ?_ (by first | omega | (simp; done) | (simp; omega)) _) | (refine Below.setCell ?_ (by first | omega | (simp; done) | (simp; omega)) _) | refine Below.drew ?_ | refine below_drewN ?_ _ | (refine below_call ?_ (by assumption) (by first | omega | (simp; done) | (simp; omega))) | (refine Below.trans ?_ (by assumption))))) HO10.out.flats hns) ?_
      rintro e w11 ⟨rfl, hb_w11⟩
      obtain ⟨hc_w11, hf_w11⟩ := bcell hb_w11
      have hs_w11 := hb_w11.size
      have hB11' : Below w6.heap.size w6 w11 := by repeat (first | exact Below.refl _ _ | assumption | refine below_allocS ?_ _ | refine below_callS ?_ (by assumption) | (refine Below.alloc ?_ (by first | omega | (simp; done) | (simp; omega)) _) | (refine Below.setCell ?_ (by first | omega | (simp; done) | (simp; omega)) _) | refine Below.drew ?_ | refine below_drewN ?_ _ | (refine below_call ?_ (by assumption) (by first | omega | (simp; done) | (simp; omega))) | (refine Below.trans ?_ (by assumption)))
      have hB11 : Below w.heap.size w w11 := by repeat (first | exact Below.refl _ _ | assumption | refine below_allocS ?_ _ | refine below_callS ?_ (by assumption) | (refine Below.alloc ?_ (by first | omega | (simp; done) | (simp; omega)) _) | (refine Below.setCell ?_ (by first | omega | (simp; done) | (simp; omega)) _) | refine Below.drew ?_ | refine below_drewN ?_ _ | (refine below_call ?_ (by assumption) (by first | omega | (simp; done) | (simp; omega))) | (refine Below.trans ?_ (by assumption)))
      clear hc_w7 hf_w7 hc_w8 hf_w8 hc_w9 hf_w9 hc_w10 hf_w10 hc_w11 hf_w11 hb_w7 hb_w8 hb_w9 hb_w10 hb_w11
      go_wp2_with fail
      refine Calls.mono (laws_markInt64S (HOxg.out.keep hB11') hn (by decide) (by decide)) ?_
      rintro e w12 ⟨rfl, ht12, _⟩
      have hs_w12 := ht12.size
      have hB12 : Below w.heap.size w w12 := ht12.below hB11 (by have := hB11.size; omega) (fun b e => by have := hxb b e; omega)
      have HOg12 := Lib.hid ((HOg.out.keep hB11').keepT ht12 hxg.out.symm)
      have HOw12 := Lib.hid ((HOwg.out.keep hB11').keepT ht12 hwx.out)
      have HOy12 := Lib.hid ((HOyg.out.keep hB11').keepT ht12 (fun g e e' => by have := hyb g e; have := hxb g e'; omega))
      clear ht12
      go_wp2_with fail
      refine Calls.mono (laws_markRestraintStepS HOy12.out hns (by omega) (by omega)) ?_
      rintro e w13 ⟨rfl, ht13, _⟩
      have hs_w13 := ht13.size
      have hB13 : Below w.heap.size w w13 := ht13.below hB12 (by have := hB12.size; omega) (fun b e => by have := hyb b e; omega)
      have HOg13 := Lib.hid (HOg12.out.keepT ht13 (fun g e e' => by have := hgb g e; have := hyb g e'; omega))
      have HOw13 := Lib.hid (HOw12.out.keepT ht13 (fun g e e' => by have := hwb g e; have := hyb g e'; omega))
      clear ht13
      go_wp2_with fail
      refine Calls.mono (laws_eqInt64S HOg13.out.ints HOw13.out.ints hres hres) ?_
      rintro e w14 ⟨rfl, hb_w14⟩
      obtain ⟨hc_w14, hf_w14⟩ := bcell hb_w14
      have hs_w14 := hb_w14.size
      have hB14' : Below w13.heap.size w13 w14 := hb_w14
      have hB14 : Below w.heap.size w w14 := by repeat (first | exact Below.refl _ _ | assumption | refine below_allocS ?_ _ | refine below_callS ?_ (by assumption) | (refine Below.alloc ?_ (by first | omega | (simp; done) | (simp; omega)) _) | (refine Below.setCell ?_ (by first | omega | (simp; done) | (simp; omega)) _) | refine Below.drew ?_ | refine below_drewN ?_ _ | (refine below_call ?_ (by assumption) (by first | omega | (simp; done) | (simp; omega))) | (refine Below.trans ?_ (by assumption)))
      clear hc_w14 hf_w14 hb_w14
      go_wp2_with fail
      refine Calls.mono (laws_markInt64S (HOg13.out.keep hB14') hres (by decide) (by decide)) ?_
      rintro e w15 ⟨rfl, ht15, ho15⟩
      have hs_w15 := ht15.size
      have hB15 : Below w.heap.size w w15 := ht15.below hB14 (by have := hB14.size; omega) (fun b e => by have := hgb b e; omega)
      have HOg15 := Lib.hid ho15
      have HOw15 := Lib.hid ((HOw13.out.keep hB14').keepT ht15 hwg.out)
      clear ht15 ho15
      go_wp2_with fail
      refine Calls.mono (laws_heldInt64S HOg15.out.ints hres (by decide) (by decide)) ?_
      rintro e _ ⟨rfl, rfl⟩
      go_wp2_with fail
      refine Calls.mono (laws_toInt64S (HI.out.keep hB15) hn) ?_
      rintro e w17 ⟨rfl, hb_w17, HO17⟩
      obtain ⟨hc_w17, hf_w17⟩ := bcell hb_w17
      have hs_w17 := hb_w17.size
      have HO17 := Lib.hid HO17
      go_wp2_with fail
      refine Calls.mono (laws_toRestraintStepS (HS.out.keep (by repeat (first | exact Below.refl _ _ | assumption | refine below_allocS ?_ _ | refine below_callS ?_ (by assumption) | (refine Below.alloc ?_ (by first | omega | (simp; done) | (simp; omega)) _) | (refine Below.setCell ?_ (by first | omega | (simp; done) | (simp; omega)) _) | refine Below.drew ?_ | refine below_drewN ?_ _ | (refine below_call ?_ (by assumption) (by first | omega | (simp; done) | (simp; omega))) | (refine Below.trans ?_ (by assumption))))) hns) ?_
      rintro e w18 ⟨rfl, hb_w18, HO18⟩
      obtain ⟨hc_w18, hf_w18⟩ := bcell hb_w18
      have hs_w18 := hb_w18.size
      have HO18 := Lib.hid HO18
      go_wp2_with fail
      refine Calls.mono (H33.out _ _ _ (HO17.out.ints.keep (by repeat (first | exact Below.refl _ _ | assumption | refine below_allocS ?_ _ | refine below_callS ?_ (by assumption) | (refine Below.alloc ?_ (by first | omega | (simp; done) | (simp; omega)) _) | (refine Below.setCell ?_ (by first | omega | (simp; done) | (simp; omega)) _) | refine Below.drew ?_ | refine below_drewN ?_ _ | (refine below_call ?_ (by assumption) (by first | omega | (simp; done) | (simp; omega))) | (refine Below.trans ?_ (by assumption))))) HO18.out.flats) ?_
      rintro e w19 ⟨n19, a19, c19, rfl, hb_w19, ho19⟩
      have hs_w19 := hb_w19.size
      have HOh := Lib.hid ho19
      have hn19 : n19 = n6 := by rw [← ho19.len, HOglen.out]
      subst hn19
      clear ho19 hc_w17 hf_w17 hc_w18 hf_w18
      have hB19' : Below w15.heap.size w15 w19 := by repeat (first | exact Below.refl _ _ | assumption | refine below_allocS ?_ _ | refine below_callS ?_ (by assumption) | (refine Below.alloc ?_ (by first | omega | (simp; done) | (simp; omega)) _) | (refine Below.setCell ?_ (by first | omega | (simp; done) | (simp; omega)) _) | refine Below.drew ?_ | refine below_drewN ?_ _ | (refine below_call ?_ (by assumption) (by first | omega | (simp; done) | (simp; omega))) | (refine Below.trans ?_ (by assumption)))
      have hB19 : Below w.heap.size w w19 := by repeat (first | exact Below.refl _ _ | assumption | refine below_allocS ?_ _ | refine below_callS ?_ (by assumption) | (refine Below.alloc ?_ (by first | omega | (simp; done) | (simp; omega)) _) | (refine Below.setCell ?_ (by first | omega | (simp; done) | (simp; omega)) _) | refine Below.drew ?_ | refine below_drewN ?_ _ | (refine below_call ?_ (by assumption) (by first | omega | (simp; done) | (simp; omega))) | (refine Below.trans ?_ (by assumption)))
      clear hb_w17 hb_w18 hb_w19
      go_wp2_with fail
      refine Calls.mono (laws_eqInt64S HOh.out.ints (HOw15.out.ints.keep hB19') hres hres) ?_
      rintro e w20 ⟨rfl, hb_w20⟩
      obtain ⟨hc_w20, hf_w20⟩ := bcell hb_w20
      have hs_w20 := hb_w20.size
      have hB20' : Below w15.heap.size w15 w20 := by repeat (first | exact Below.refl _ _ | assumption | refine below_allocS ?_ _ | refine below_callS ?_ (by assumption) | (refine Below.alloc ?_ (by first | omega | (simp; done) | (simp; omega)) _) | (refine Below.setCell ?_ (by first | omega | (simp; done) | (simp; omega)) _) | refine Below.drew ?_ | refine below_drewN ?_ _ | (refine below_call ?_ (by assumption) (by first | omega | (simp; done) | (simp; omega))) | (refine Below.trans ?_ (by assumption)))
      go_wp2_with fail
      refine Calls.mono (laws_heldInt64S (HOg15.out.ints.keep hB20') hres (by decide) (by decide)) ?_
      rintro e _ ⟨rfl, rfl⟩
      go_wp2
      go_ret
      exact ⟨rfl, by repeat (first | exact Below.refl _ _ | assumption | refine below_allocS ?_ _ | refine below_callS ?_ (by assumption) | (refine Below.alloc ?_ (by first | omega | (simp; done) | (simp; omega)) _) | (refine Below.setCell ?_ (by first | omega | (simp; done) | (simp; omega)) _) | refine Below.drew ?_ | refine below_drewN ?_ _ | (refine below_call ?_ (by assumption) (by first | omega | (simp; done) | (simp; omega))) | (refine Below.trans ?_ (by assumption)))⟩
    · have hsz : (if (1048576 : Int) < (ns : Int) then -1 else 1048576 - (ns : Int)) = -1 := if_pos (by omega)
      go_enter Try.func12, Try.ntmps12
      go_wp2_with fail
      refine Calls.mono (laws_szRestraintStepS hmax' (by omega) (by omega)) ?_
      rintro e _ ⟨rfl, rfl⟩
      rw [hsz]
      go_wp2
      go_ret
      exact ⟨rfl, by repeat (first | exact Below.refl _ _ | assumption | refine below_allocS ?_ _ | refine below_callS ?_ (by assumption) | (refine Below.alloc ?_ (by first | omega | (simp; done) | (simp; omega)) _) | (refine Below.setCell ?_ (by first | omega | (simp; done) | (simp; omega)) _) | refine Below.drew ?_ | refine below_drewN ?_ _ | (refine below_call ?_ (by assumption) (by first | omega | (simp; done) | (simp; omega))) | (refine Below.trans ?_ (by assumption)))⟩
  · go_enter Try.func12, Try.ntmps12
    go_wp2
    go_ret
    exact ⟨rfl, by repeat (first | exact Below.refl _ _ | assumption | refine below_allocS ?_ _ | refine below_callS ?_ (by assumption) | (refine Below.alloc ?_ (by first | omega | (simp; done) | (simp; omega)) _) | (refine Below.setCell ?_ (by first | omega | (simp; done) | (simp; omega)) _) | refine Below.drew ?_ | refine below_drewN ?_ _ | (refine below_call ?_ (by assumption) (by first | omega | (simp; done) | (simp; omega))) | (refine Below.trans ?_ (by assumption)))⟩
end Go.Proofs.Ytijdcacplibmhaa
