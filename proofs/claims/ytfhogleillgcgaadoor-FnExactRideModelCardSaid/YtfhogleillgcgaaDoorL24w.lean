/- The rules of a block with so many faults that may still come, walked. -/
import Derived.Test.YtfhogleillgcgaaDoorL24v
import Derived.RegionTactic
import Derived.BigRegion
namespace Go.Proofs.YtfhogleillgcgaaDoor
open Go.RowKit
set_option linter.unusedVariables false
set_option linter.unusedSimpArgs false
def faG (n B b q : Nat) (x : Int) : List I2b := [⟨(n : Int) + b, x, true⟩, ⟨(n : Int) + B, q, true⟩]
def faE (n B b q : Nat) (y : Int) : List I2 := [⟨(n : Int) + b, y⟩, ⟨(n : Int) + B, (q : Int) - 1⟩]
def faS (n B b q : Nat) (sec : Bool) : List RS :=
  [⟨rnm 4 b q, faG n B b q 0, faE n B b q 1, ⟨4, b, q⟩⟩, ⟨rnm 5 b q, faG n B b q 0, faE n B b q 2, ⟨5, b, q⟩⟩] ++
  (if sec then [⟨rnm 6 b q, faG n B b q 1, faE n B b q 3, ⟨6, b, q⟩⟩] else [])
def Bx4 (w : World) (p1 p2 p3 p4 : Nat) (v1 v2 v3 v4 : Int) : Prop := (p1 < w.heap.size ∧ w.cell? ⟨p1, 0, none⟩ = some (.int .i64 v1)) ∧ (p2 < w.heap.size ∧ w.cell? ⟨p2, 0, none⟩ = some (.int .i64 v2)) ∧ (p3 < w.heap.size ∧ w.cell? ⟨p3, 0, none⟩ = some (.int .i64 v3)) ∧ (p4 < w.heap.size ∧ w.cell? ⟨p4, 0, none⟩ = some (.int .i64 v4))
theorem Bx4.keep {w w' : World} {p1 p2 p3 p4 : Nat} {v1 v2 v3 v4 : Int} (h : Bx4 w p1 p2 p3 p4 v1 v2 v3 v4) (hb : Below w.heap.size w w') : Bx4 w' p1 p2 p3 p4 v1 v2 v3 v4 := by
  obtain ⟨⟨a1, b1⟩, ⟨a2, b2⟩, ⟨a3, b3⟩, a4, b4⟩ := h
  have hs := hb.size
  exact ⟨⟨by omega, (hb.cell (p := ⟨p1, 0, none⟩) a1).trans b1⟩, ⟨by omega, (hb.cell (p := ⟨p2, 0, none⟩) a2).trans b2⟩, ⟨by omega, (hb.cell (p := ⟨p3, 0, none⟩) a3).trans b3⟩, by omega, (hb.cell (p := ⟨p4, 0, none⟩) a4).trans b4⟩
theorem impl_faultFrom' {k b q : Nat} {K0 x y s u : Int} {pb pq ps pu : Nat} {w : World} (hT : Tab w 2 (strsCells ruleNm)) (hK9 : K0 = (k : Int)) (hk : k < 7) (hb9 : b < 10) (hq9 : q < 10) (hx : I64 x) (hy : I64 y) (hs : I64 s) (hu : I64 u)
    (hX : Bx4 w pb pq ps pu (b : Int) (q : Int) s u) :
    Calls Tryd.prog 113 #[.int .i64 K0, .int .i64 x, .int .i64 y, .pointer (some ⟨pb, 0, none⟩), .pointer (some ⟨pq, 0, none⟩), .pointer (some ⟨ps, 0, none⟩), .pointer (some ⟨pu, 0, none⟩)] w fun e w' => ∃ g1 g2, e = .returned (.agg #[.string (rnm k b q), .slice (some ⟨g1, 0, none⟩) 2 2, .slice (some ⟨g2, 0, none⟩) 2 2, .int .i64 K0, .int .i64 (b : Int), .int .i64 (q : Int)]) ∧ Bx4 w' pb pq ps pu (b : Int) (q : Int) s u ∧ OwnF 3 I2b.enc I2b.ok 144 w' w.heap.size (some ⟨g1, 0, none⟩) 2 2 [⟨s, x, true⟩, ⟨u, q, true⟩] ∧ OwnF 2 I2.enc I2.ok 148 w' w.heap.size (some ⟨g2, 0, none⟩) 2 2 [⟨s, y⟩, ⟨u, (q : Int) - 1⟩] ∧ g1 ≠ g2 ∧ Below w.heap.size w w' := by
  obtain ⟨⟨a1, b1⟩, ⟨a2, b2⟩, ⟨a3, b3⟩, a4, b4⟩ := hX
  refine (impl_faultFrom hT hK9 hk hb9 hq9 hx hy hs hu a1 b1 a2 b2 a3 b3 a4 b4).mono ?_
  rintro e w' ⟨g1, g2, h1, h2, h3, h4, h5⟩
  exact ⟨g1, g2, h1, Bx4.keep ⟨⟨a1, b1⟩, ⟨a2, b2⟩, ⟨a3, b3⟩, a4, b4⟩ h5, h2, h3, h4, h5⟩
set_option maxRecDepth 100000 in
set_option maxHeartbeats 4000000 in
theorem impl_faultRules {B bud n c b q : Nat} {a : Option Addr} {sec : Bool} {w : World} (hT : Tab w 2 (strsCells ruleNm)) (hB8 : B ≤ 8) (hn : n ≤ 4) (hb : b < B) (hq : q ≤ 2) :
    Calls Tryd.prog 83 #[.agg #[.int .i64 (B : Int), .slice a n c, .int .i64 (bud : Int), .bool sec], .int .i64 (b : Int), .int .i64 (q : Int)] w (TrRet w (faS n B b q sec)) := by
  have HT := Lib.hid hT
  have X := Lib.hid (Blk.made w #[.int .i64 (B : Int), .slice a n c, .int .i64 (bud : Int), .bool sec] 79)
  have hS : faS n B b q sec = [⟨rnm 4 b q, [⟨(n : Int) + b, 0, true⟩, ⟨(n : Int) + B, q, true⟩], [⟨(n : Int) + b, 1⟩, ⟨(n : Int) + B, (q : Int) - 1⟩], ⟨4, b, q⟩⟩, ⟨rnm 5 b q, [⟨(n : Int) + b, 0, true⟩, ⟨(n : Int) + B, q, true⟩], [⟨(n : Int) + b, 2⟩, ⟨(n : Int) + B, (q : Int) - 1⟩], ⟨5, b, q⟩⟩] ++
    (if sec then [⟨rnm 6 b q, [⟨(n : Int) + b, 1, true⟩, ⟨(n : Int) + B, q, true⟩], [⟨(n : Int) + b, 3⟩, ⟨(n : Int) + B, (q : Int) - 1⟩], ⟨6, b, q⟩⟩] else []) := rfl
  generalize faS n B b q sec = S at *
  have HS := Lib.hid hS
  clear hT hS
  go_enter Tryd.func83, Tryd.ntmps83
  go_wp2_with fail
  refine Calls.mono (impl_length_i64) ?_
  rintro e _ ⟨rfl, rfl⟩
  go_wp2_with fail
  go_region
  all_goals
    go_wp2_with fail
    refine Calls.mono (impl_faultFrom' (k := 4) (b := b) (q := q) (s := (n : Int) + (b : Int)) (u := (n : Int) + (B : Int)) (HT.out.keep (by repeat (first | exact Below.refl _ _ | assumption | refine below_allocS ?_ _ | refine below_callS ?_ (by assumption) | (refine Below.alloc ?_ (by first | omega | (simp; done) | (simp; omega)) _) | (refine Below.setCell ?_ (by first | omega | (simp; done) | (simp; omega)) _) | refine Below.drew ?_ | refine below_drewN ?_ _ | (refine below_call ?_ (by assumption) (by first | omega | (simp; done) | (simp; omega))) | (refine Below.trans ?_ (by assumption))))) rfl (by decide) (by omega) (by omega) (by first | assumption | decide | (unfold I64; omega)) (by first | assumption | decide | (unfold I64; omega)) (by first | assumption | decide | (unfold I64; omega)) (by first | assumption | decide | (unfold I64; omega)) (by refine ⟨⟨?_, ?_⟩, ⟨?_, ?_⟩, ⟨?_, ?_⟩, ?_, ?_⟩ <;> first | (simp; done) | (go_simp; done) | (simp [World.cell?, World.alloc, Array.getElem?_push]; done))) ?_
    rintro e w5 ⟨g1, e1, rfl, hBX, G1, E1, hne1, hb_w5⟩
    have hs_w5 := hb_w5.size
    simp at hs_w5
    have hG1 := G1.blk g1 rfl
    have hE1 := E1.blk e1 rfl
    simp at hG1 hE1
    replace G1 := Lib.hid (G1.le (show w.heap.size ≤ _ by simp; omega))
    replace E1 := Lib.hid (E1.le (show w.heap.size ≤ _ by simp; omega))
    replace X := Lib.hid (X.out.keep (show Below _ _ w5 by repeat (first | exact Below.refl _ _ | assumption | refine below_allocS ?_ _ | refine below_callS ?_ (by assumption) | (refine Below.alloc ?_ (by first | omega | (simp; done) | (simp; omega)) _) | (refine Below.setCell ?_ (by first | omega | (simp; done) | (simp; omega)) _) | refine Below.drew ?_ | refine below_drewN ?_ _ | (refine below_call ?_ (by assumption) (by first | omega | (simp; done) | (simp; omega))) | (refine Below.trans ?_ (by assumption)))))
    have HB : Below w.heap.size w w5 := by repeat (first | exact Below.refl _ _ | assumption | refine below_allocS ?_ _ | refine below_callS ?_ (by assumption) | (refine Below.alloc ?_ (by first | omega | (simp; done) | (simp; omega)) _) | (refine Below.setCell ?_ (by first | omega | (simp; done) | (simp; omega)) _) | refine Below.drew ?_ | refine below_drewN ?_ _ | (refine below_call ?_ (by assumption) (by first | omega | (simp; done) | (simp; omega))) | (refine Below.trans ?_ (by assumption)))
    have BX := Lib.hid hBX
    clear hBX hb_w5
    go_wp2_with fail
    refine Calls.mono (impl_faultFrom' (k := 5) (b := b) (q := q) (s := (n : Int) + (b : Int)) (u := (n : Int) + (B : Int)) (HT.out.keep (by repeat (first | exact Below.refl _ _ | assumption | refine below_allocS ?_ _ | refine below_callS ?_ (by assumption) | (refine Below.alloc ?_ (by first | omega | (simp; done) | (simp; omega)) _) | (refine Below.setCell ?_ (by first | omega | (simp; done) | (simp; omega)) _) | refine Below.drew ?_ | refine below_drewN ?_ _ | (refine below_call ?_ (by assumption) (by first | omega | (simp; done) | (simp; omega))) | (refine Below.trans ?_ (by assumption))))) rfl (by decide) (by omega) (by omega) (by first | assumption | decide | (unfold I64; omega)) (by first | assumption | decide | (unfold I64; omega)) (by first | assumption | decide | (unfold I64; omega)) (by first | assumption | decide | (unfold I64; omega)) BX.out) ?_
    rintro e w6 ⟨g2, e2, rfl, hBX, G2, E2, hne2, hb_w6⟩
    have hs_w6 := hb_w6.size
    have hG2 := G2.blk g2 rfl
    have hE2 := E2.blk e2 rfl
    replace G1 := Lib.hid (G1.out.keep (show Below _ _ w6 by repeat (first | exact Below.refl _ _ | assumption | refine below_allocS ?_ _ | refine below_callS ?_ (by assumption) | (refine Below.alloc ?_ (by first | omega | (simp; done) | (simp; omega)) _) | (refine Below.setCell ?_ (by first | omega | (simp; done) | (simp; omega)) _) | refine Below.drew ?_ | refine below_drewN ?_ _ | (refine below_call ?_ (by assumption) (by first | omega | (simp; done) | (simp; omega))) | (refine Below.trans ?_ (by assumption)))))
    replace E1 := Lib.hid (E1.out.keep (show Below _ _ w6 by repeat (first | exact Below.refl _ _ | assumption | refine below_allocS ?_ _ | refine below_callS ?_ (by assumption) | (refine Below.alloc ?_ (by first | omega | (simp; done) | (simp; omega)) _) | (refine Below.setCell ?_ (by first | omega | (simp; done) | (simp; omega)) _) | refine Below.drew ?_ | refine below_drewN ?_ _ | (refine below_call ?_ (by assumption) (by first | omega | (simp; done) | (simp; omega))) | (refine Below.trans ?_ (by assumption)))))
    replace X := Lib.hid (X.out.keep (show Below _ _ w6 by repeat (first | exact Below.refl _ _ | assumption | refine below_allocS ?_ _ | refine below_callS ?_ (by assumption) | (refine Below.alloc ?_ (by first | omega | (simp; done) | (simp; omega)) _) | (refine Below.setCell ?_ (by first | omega | (simp; done) | (simp; omega)) _) | refine Below.drew ?_ | refine below_drewN ?_ _ | (refine below_call ?_ (by assumption) (by first | omega | (simp; done) | (simp; omega))) | (refine Below.trans ?_ (by assumption)))))
    replace HB : Below w.heap.size w w6 := by repeat (first | exact Below.refl _ _ | assumption | refine below_allocS ?_ _ | refine below_callS ?_ (by assumption) | (refine Below.alloc ?_ (by first | omega | (simp; done) | (simp; omega)) _) | (refine Below.setCell ?_ (by first | omega | (simp; done) | (simp; omega)) _) | refine Below.drew ?_ | refine below_drewN ?_ _ | (refine below_call ?_ (by assumption) (by first | omega | (simp; done) | (simp; omega))) | (refine Below.trans ?_ (by assumption)))
    replace G2 := Lib.hid (G2.le (show w.heap.size ≤ _ by omega))
    replace E2 := Lib.hid (E2.le (show w.heap.size ≤ _ by omega))
    replace BX := Lib.hid hBX
    clear hBX hb_w6
    have x3 := X.out.cell 3
    have xl := X.out.lt
    simp at x3
    obtain ⟨r0, hr0⟩ : ∃ r : RR, r = ⟨rnm 4 b q, some ⟨g1, 0, none⟩, 2, 2, some ⟨e1, 0, none⟩, 2, 2, ⟨4, b, q⟩⟩ := ⟨_, rfl⟩
    have H0 := Lib.hid hr0
    clear hr0
    obtain ⟨r1, hr1⟩ : ∃ r : RR, r = ⟨rnm 5 b q, some ⟨g2, 0, none⟩, 2, 2, some ⟨e2, 0, none⟩, 2, 2, ⟨5, b, q⟩⟩ := ⟨_, rfl⟩
    have H1 := Lib.hid hr1
    clear hr1
    have LL := Lib.hid (OwnF.lit (m := 2) (E := 87) (k := 6) (enc := RR.enc) (ok := fun _ => True) (base := w.heap.size) (cs := #[.string (rnm 4 b q), .slice (some ⟨g1, 0, none⟩) 2 2, .slice (some ⟨e1, 0, none⟩) 2 2, .int .i64 4, .int .i64 (b : Int), .int .i64 (q : Int), .string (rnm 5 b q), .slice (some ⟨g2, 0, none⟩) 2 2, .slice (some ⟨e2, 0, none⟩) 2 2, .int .i64 5, .int .i64 (b : Int), .int .i64 (q : Int)]) w6 [r0, r1] (by omega) rfl (by decide) (fun _ => rfl) (fun _ _ => trivial) (by rw [H0.out, H1.out]; rfl))
    cases sec
    · go_wp2_with fail
      go_ret
      have q0 := H0.out; have q1 := H1.out
      refine ⟨_, _, _, [r0, r1], rfl, LL.out, ?_, ?_, by repeat (first | exact Below.refl _ _ | assumption | refine below_allocS ?_ _ | refine below_callS ?_ (by assumption) | (refine Below.alloc ?_ (by first | omega | (simp; done) | (simp; omega)) _) | (refine Below.setCell ?_ (by first | omega | (simp; done) | (simp; omega)) _) | refine Below.drew ?_ | refine below_drewN ?_ _ | (refine below_call ?_ (by assumption) (by first | omega | (simp; done) | (simp; omega))) | (refine Below.trans ?_ (by assumption)))⟩
      · rw [HS.out, q0, q1]; simp only [Bool.false_eq_true, if_false, if_true, List.append_nil, List.cons_append, List.nil_append, RDs]; exact ⟨⟨rfl, rfl, G1.out.keep (by repeat (first | exact Below.refl _ _ | assumption | refine below_allocS ?_ _ | refine below_callS ?_ (by assumption) | (refine Below.alloc ?_ (by first | omega | (simp; done) | (simp; omega)) _) | (refine Below.setCell ?_ (by first | omega | (simp; done) | (simp; omega)) _) | refine Below.drew ?_ | refine below_drewN ?_ _ | (refine below_call ?_ (by assumption) (by first | omega | (simp; done) | (simp; omega))) | (refine Below.trans ?_ (by assumption)))), E1.out.keep (by repeat (first | exact Below.refl _ _ | assumption | refine below_allocS ?_ _ | refine below_callS ?_ (by assumption) | (refine Below.alloc ?_ (by first | omega | (simp; done) | (simp; omega)) _) | (refine Below.setCell ?_ (by first | omega | (simp; done) | (simp; omega)) _) | refine Below.drew ?_ | refine below_drewN ?_ _ | (refine below_call ?_ (by assumption) (by first | omega | (simp; done) | (simp; omega))) | (refine Below.trans ?_ (by assumption))))⟩, ⟨rfl, rfl, G2.out.keep (by repeat (first | exact Below.refl _ _ | assumption | refine below_allocS ?_ _ | refine below_callS ?_ (by assumption) | (refine Below.alloc ?_ (by first | omega | (simp; done) | (simp; omega)) _) | (refine Below.setCell ?_ (by first | omega | (simp; done) | (simp; omega)) _) | refine Below.drew ?_ | refine below_drewN ?_ _ | (refine below_call ?_ (by assumption) (by first | omega | (simp; done) | (simp; omega))) | (refine Below.trans ?_ (by assumption)))), E2.out.keep (by repeat (first | exact Below.refl _ _ | assumption | refine below_allocS ?_ _ | refine below_callS ?_ (by assumption) | (refine Below.alloc ?_ (by first | omega | (simp; done) | (simp; omega)) _) | (refine Below.setCell ?_ (by first | omega | (simp; done) | (simp; omega)) _) | refine Below.drew ?_ | refine below_drewN ?_ _ | (refine below_call ?_ (by assumption) (by first | omega | (simp; done) | (simp; omega))) | (refine Below.trans ?_ (by assumption))))⟩, trivial⟩
      · rw [q0, q1]; simp [RR.blks]; omega
    · go_wp2_with fail
      refine Calls.mono (impl_faultFrom' (k := 6) (b := b) (q := q) (s := (n : Int) + (b : Int)) (u := (n : Int) + (B : Int)) (HT.out.keep (by repeat (first | exact Below.refl _ _ | assumption | refine below_allocS ?_ _ | refine below_callS ?_ (by assumption) | (refine Below.alloc ?_ (by first | omega | (simp; done) | (simp; omega)) _) | (refine Below.setCell ?_ (by first | omega | (simp; done) | (simp; omega)) _) | refine Below.drew ?_ | refine below_drewN ?_ _ | (refine below_call ?_ (by assumption) (by first | omega | (simp; done) | (simp; omega))) | (refine Below.trans ?_ (by assumption))))) rfl (by decide) (by omega) (by omega) (by first | assumption | decide | (unfold I64; omega)) (by first | assumption | decide | (unfold I64; omega)) (by first | assumption | decide | (unfold I64; omega)) (by first | assumption | decide | (unfold I64; omega)) (BX.out.keep (by repeat (first | exact Below.refl _ _ | assumption | refine below_allocS ?_ _ | refine below_callS ?_ (by assumption) | (refine Below.alloc ?_ (by first | omega | (simp; done) | (simp; omega)) _) | (refine Below.setCell ?_ (by first | omega | (simp; done) | (simp; omega)) _) | refine Below.drew ?_ | refine below_drewN ?_ _ | (refine below_call ?_ (by assumption) (by first | omega | (simp; done) | (simp; omega))) | (refine Below.trans ?_ (by assumption)))))) ?_
      rintro e w7 ⟨g3, e3, rfl, hBX, G3, E3, hne3, hb_w7⟩
      have hs_w7 := hb_w7.size
      simp at hs_w7
      have hG3 := G3.blk g3 rfl
      have hE3 := E3.blk e3 rfl
      simp at hG3 hE3
      replace G3 := Lib.hid (G3.le (show w.heap.size ≤ _ by simp; omega))
      replace E3 := Lib.hid (E3.le (show w.heap.size ≤ _ by simp; omega))
      replace G1 := Lib.hid (G1.out.keep (show Below _ _ w7 by repeat (first | exact Below.refl _ _ | assumption | refine below_allocS ?_ _ | refine below_callS ?_ (by assumption) | (refine Below.alloc ?_ (by first | omega | (simp; done) | (simp; omega)) _) | (refine Below.setCell ?_ (by first | omega | (simp; done) | (simp; omega)) _) | refine Below.drew ?_ | refine below_drewN ?_ _ | (refine below_call ?_ (by assumption) (by first | omega | (simp; done) | (simp; omega))) | (refine Below.trans ?_ (by assumption)))))
      replace E1 := Lib.hid (E1.out.keep (show Below _ _ w7 by repeat (first | exact Below.refl _ _ | assumption | refine below_allocS ?_ _ | refine below_callS ?_ (by assumption) | (refine Below.alloc ?_ (by first | omega | (simp; done) | (simp; omega)) _) | (refine Below.setCell ?_ (by first | omega | (simp; done) | (simp; omega)) _) | refine Below.drew ?_ | refine below_drewN ?_ _ | (refine below_call ?_ (by assumption) (by first | omega | (simp; done) | (simp; omega))) | (refine Below.trans ?_ (by assumption)))))
      replace G2 := Lib.hid (G2.out.keep (show Below _ _ w7 by repeat (first | exact Below.refl _ _ | assumption | refine below_allocS ?_ _ | refine below_callS ?_ (by assumption) | (refine Below.alloc ?_ (by first | omega | (simp; done) | (simp; omega)) _) | (refine Below.setCell ?_ (by first | omega | (simp; done) | (simp; omega)) _) | refine Below.drew ?_ | refine below_drewN ?_ _ | (refine below_call ?_ (by assumption) (by first | omega | (simp; done) | (simp; omega))) | (refine Below.trans ?_ (by assumption)))))
      replace E2 := Lib.hid (E2.out.keep (show Below _ _ w7 by repeat (first | exact Below.refl _ _ | assumption | refine below_allocS ?_ _ | refine below_callS ?_ (by assumption) | (refine Below.alloc ?_ (by first | omega | (simp; done) | (simp; omega)) _) | (refine Below.setCell ?_ (by first | omega | (simp; done) | (simp; omega)) _) | refine Below.drew ?_ | refine below_drewN ?_ _ | (refine below_call ?_ (by assumption) (by first | omega | (simp; done) | (simp; omega))) | (refine Below.trans ?_ (by assumption)))))
      replace LL := Lib.hid (LL.out.keep (show Below _ _ w7 by repeat (first | exact Below.refl _ _ | assumption | refine below_allocS ?_ _ | refine below_callS ?_ (by assumption) | (refine Below.alloc ?_ (by first | omega | (simp; done) | (simp; omega)) _) | (refine Below.setCell ?_ (by first | omega | (simp; done) | (simp; omega)) _) | refine Below.drew ?_ | refine below_drewN ?_ _ | (refine below_call ?_ (by assumption) (by first | omega | (simp; done) | (simp; omega))) | (refine Below.trans ?_ (by assumption)))))
      replace HB : Below w.heap.size w w7 := by repeat (first | exact Below.refl _ _ | assumption | refine below_allocS ?_ _ | refine below_callS ?_ (by assumption) | (refine Below.alloc ?_ (by first | omega | (simp; done) | (simp; omega)) _) | (refine Below.setCell ?_ (by first | omega | (simp; done) | (simp; omega)) _) | refine Below.drew ?_ | refine below_drewN ?_ _ | (refine below_call ?_ (by assumption) (by first | omega | (simp; done) | (simp; omega))) | (refine Below.trans ?_ (by assumption)))
      clear hBX hb_w7
      obtain ⟨r2, hr2⟩ : ∃ r : RR, r = ⟨rnm 6 b q, some ⟨g3, 0, none⟩, 2, 2, some ⟨e3, 0, none⟩, 2, 2, ⟨6, b, q⟩⟩ := ⟨_, rfl⟩
      have H2 := Lib.hid hr2
      clear hr2
      go_wp2_with (at_builtin; refine appAtL rfl _ _ rfl Tryd.underlying77 Tryd.infoRR rfl (by decide) (by decide) RR.one w.heap.size _ _ _ _ [r2] LL.out rfl _ rfl (by first | rfl | (simp; done)) (by rw [H2.out]; rfl) rfl (fun _ _ => trivial) (by decide) (by omega) (by decide) (by omega) ?_; intro gM c2 wn ho hb hg hat hsn; have G1 := Lib.hid (G1.out.keepG hg (by intro q0 hq0; simp [Value.ownBlock] at hq0 ⊢; omega)); have E1 := Lib.hid (E1.out.keepG hg (by intro q0 hq0; simp [Value.ownBlock] at hq0 ⊢; omega)); have G2 := Lib.hid (G2.out.keepG hg (by intro q0 hq0; simp [Value.ownBlock] at hq0 ⊢; omega)); have E2 := Lib.hid (E2.out.keepG hg (by intro q0 hq0; simp [Value.ownBlock] at hq0 ⊢; omega)); have G3 := Lib.hid (G3.out.keepG hg (by intro q0 hq0; simp [Value.ownBlock] at hq0 ⊢; omega)); have E3 := Lib.hid (E3.out.keepG hg (by intro q0 hq0; simp [Value.ownBlock] at hq0 ⊢; omega)); have LL := Lib.hid ho; have HB := HB.trans hb; clear ho hb hg)
      go_ret
      have q0 := H0.out; have q1 := H1.out; have q2 := H2.out
      refine ⟨_, _, _, [r0, r1, r2], rfl, LL.out, ?_, ?_, HB⟩
      · rw [HS.out, q0, q1, q2]; simp only [Bool.false_eq_true, if_false, if_true, List.append_nil, List.cons_append, List.nil_append, RDs]; exact ⟨⟨rfl, rfl, G1.out, E1.out⟩, ⟨rfl, rfl, G2.out, E2.out⟩, ⟨rfl, rfl, G3.out, E3.out⟩, trivial⟩
      · rw [q0, q1, q2]; simp [RR.blks]; omega
end Go.Proofs.YtfhogleillgcgaaDoor
