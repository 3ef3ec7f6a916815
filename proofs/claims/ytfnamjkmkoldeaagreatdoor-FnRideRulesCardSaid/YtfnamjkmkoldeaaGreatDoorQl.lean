/- The rules of a block with so many faults that may still come, walked.; All rules of a ride model, walked.; The error of a traffic and a budget; the reference's rule of a ride, walked.; What a rule of a ride model is: the program's function, walked; the law. -/
import Derived.Test.YtfnamjkmkoldeaaGreatDoorL24v
import Derived.RegionTactic
import Derived.BigRegion
import Derived.Test.YtfnamjkmkoldeaaGreatDoorQj
import Derived.Test.YtfnamjkmkoldeaaGreatDoorQg
namespace Go.Proofs.YtfnamjkmkoldeaaGreatDoor
open Go.RowKit
set_option linter.unusedVariables false
set_option linter.unusedSimpArgs false
def faG (n B b q : Nat) (x : Int) : List I2b := [⟨(n : Int) + b, x, true⟩, ⟨(n : Int) + B, q, true⟩]
def faE (n B b q : Nat) (y : Int) : List I2 := [⟨(n : Int) + b, y⟩, ⟨(n : Int) + B, (q : Int) - 1⟩]
def faS (n B b q : Nat) (sec : Bool) : List RS :=
  [⟨rnm 4 b q, faG n B b q 0, faE n B b q 1, ⟨4, b, q⟩⟩, ⟨rnm 5 b q, faG n B b q 0, faE n B b q 2, ⟨5, b, q⟩⟩] ++
  (if sec then [⟨rnm 6 b q, faG n B b q 1, faE n B b q 3, ⟨6, b, q⟩⟩] else [])
def Bx4 (w : World) (p1 p2 p3 p4 : Nat) (v1 v2 v3 v4 : Int) : Prop := (p1 < w.heap.size ∧ w.cell? ⟨p1, 0, none⟩ = some (.int .i64 v1)) ∧ (p2 < w.heap.size ∧ w.cell? ⟨p2, 0, none⟩ = some (.int .i64 v2)) ∧ (p3 < w.heap.size ∧ w.cell? ⟨p3, 0, none⟩ = some (.int .i64 v3)) ∧ (p4 < w.heap.size ∧ w.cell? ⟨p4, 0, none⟩ = some (.int .i64 v4))
theorem Bx4.keep {w w' : World} {p1 p2 p3 p4 : Nat} {v1 v2 v3 v4 : Int} (h : Bx4 w p1 p2 p3 p4 v1 v2 v3 v4) (hb : Below w.heap.size w w') : Bx4 w' p1 p2 p3 p4 v1 v2 v3 v4 := by
  obtain ⟨⟨a1, b1⟩, ⟨a2, b2⟩, ⟨a3, b3⟩, a4, b4⟩ := h
  have hs := hb.size
  exact ⟨⟨by omega, (hb.cell (p := ⟨p1, 0, none⟩) a1).trans b1⟩, ⟨by omega, (hb.cell (p := ⟨p2, 0, none⟩) a2).trans b2⟩, ⟨by omega, (hb.cell (p := ⟨p3, 0, none⟩) a3).trans b3⟩, by omega, (hb.cell (p := ⟨p4, 0, none⟩) a4).trans b4⟩
theorem impl_faultFrom' {k b q : Nat} {K0 x y s u : Int} {pb pq ps pu : Nat} {w : World} (hT : Tab w 0 (strsCells ruleNm)) (hK9 : K0 = (k : Int)) (hk : k < 7) (hb9 : b < 10) (hq9 : q < 10) (hx : I64 x) (hy : I64 y) (hs : I64 s) (hu : I64 u)
    (hX : Bx4 w pb pq ps pu (b : Int) (q : Int) s u) :
    Calls Tryz.prog 150 #[.int .i64 K0, .int .i64 x, .int .i64 y, .pointer (some ⟨pb, 0, none⟩), .pointer (some ⟨pq, 0, none⟩), .pointer (some ⟨ps, 0, none⟩), .pointer (some ⟨pu, 0, none⟩)] w fun e w' => ∃ g1 g2, e = .returned (.agg #[.string (rnm k b q), .slice (some ⟨g1, 0, none⟩) 2 2, .slice (some ⟨g2, 0, none⟩) 2 2, .int .i64 K0, .int .i64 (b : Int), .int .i64 (q : Int)]) ∧ Bx4 w' pb pq ps pu (b : Int) (q : Int) s u ∧ OwnF 3 I2b.enc I2b.ok 142 w' w.heap.size (some ⟨g1, 0, none⟩) 2 2 [⟨s, x, true⟩, ⟨u, q, true⟩] ∧ OwnF 2 I2.enc I2.ok 123 w' w.heap.size (some ⟨g2, 0, none⟩) 2 2 [⟨s, y⟩, ⟨u, (q : Int) - 1⟩] ∧ g1 ≠ g2 ∧ Below w.heap.size w w' := by
  obtain ⟨⟨a1, b1⟩, ⟨a2, b2⟩, ⟨a3, b3⟩, a4, b4⟩ := hX
  refine (impl_faultFrom hT hK9 hk hb9 hq9 hx hy hs hu a1 b1 a2 b2 a3 b3 a4 b4).mono ?_
  rintro e w' ⟨g1, g2, h1, h2, h3, h4, h5⟩
  exact ⟨g1, g2, h1, Bx4.keep ⟨⟨a1, b1⟩, ⟨a2, b2⟩, ⟨a3, b3⟩, a4, b4⟩ h5, h2, h3, h4, h5⟩
set_option maxRecDepth 100000 in
set_option maxHeartbeats 4000000 in
theorem impl_faultRules {B bud n c b q : Nat} {a : Option Addr} {sec : Bool} {w : World} (hT : Tab w 0 (strsCells ruleNm)) (hB8 : B ≤ 8) (hn : n ≤ 4) (hb : b < B) (hq : q ≤ 2) :
    Calls Tryz.prog 125 #[.agg #[.int .i64 (B : Int), .slice a n c, .int .i64 (bud : Int), .bool sec], .int .i64 (b : Int), .int .i64 (q : Int)] w (TrRet w (faS n B b q sec)) := by
  have HT := Lib.hid hT
  have X := Lib.hid (Blk.made w #[.int .i64 (B : Int), .slice a n c, .int .i64 (bud : Int), .bool sec] 90)
  have hS : faS n B b q sec = [⟨rnm 4 b q, [⟨(n : Int) + b, 0, true⟩, ⟨(n : Int) + B, q, true⟩], [⟨(n : Int) + b, 1⟩, ⟨(n : Int) + B, (q : Int) - 1⟩], ⟨4, b, q⟩⟩, ⟨rnm 5 b q, [⟨(n : Int) + b, 0, true⟩, ⟨(n : Int) + B, q, true⟩], [⟨(n : Int) + b, 2⟩, ⟨(n : Int) + B, (q : Int) - 1⟩], ⟨5, b, q⟩⟩] ++
    (if sec then [⟨rnm 6 b q, [⟨(n : Int) + b, 1, true⟩, ⟨(n : Int) + B, q, true⟩], [⟨(n : Int) + b, 3⟩, ⟨(n : Int) + B, (q : Int) - 1⟩], ⟨6, b, q⟩⟩] else []) := rfl
  generalize faS n B b q sec = S at *
  have HS := Lib.hid hS
  clear hT hS
  go_enter Tryz.func125, Tryz.ntmps125
  go_wp2_with fail
  refine Calls.mono (impl_length_i64) ?_
  rintro e _ ⟨rfl, rfl⟩
  go_wp2_with fail
  go_region
  all_goals
    go_wp2_with fail
    refine Calls.mono (impl_faultFrom' (k := 4) (b := b) (q := q) (s := (n : Int) + (b : Int)) (u := (n : Int) + (B : Int)) (HT.out.keep (by repeat (first | exact Below.refl _ _ | assumption | refine below_allocS ?_ _ | refine below_callS ?_ (by assumption) | (refine Below.alloc ?_ (by first | omega | (simp; done) | (simp; omega)) _) | (refine Below.setCell ?_ (by first | omega | (simp; done) | (simp; omega)) _) | refine Below.drew ?_ | refine below_drewN ?_ _ | (refine below_call ?_ (by assumption) (by first | omega | (simp; done) | (simp; omega))) | (refine Below.trans ?_ (by assumption))))) rfl (by decide) (by omega) (by omega) (by first | assumption | decide | (unfold I64; omega)) (by first | assumption | decide | (unfold I64; omega)) (by first | assumption | decide | (unfold I64; omega)) (by first | assumption | decide | (unfold I64; omega)) (by refine ⟨⟨?_, ?_⟩, ⟨?_, ?_⟩, ⟨?_, ?_⟩, ?_, ?_⟩ <;> first | (simp; done) | (go_simp; done) | (simp [World.cell?, World.alloc, Array.getElem?_push]; done))) ?_
    rintro e w5 ⟨g1, e1, rfl, hBX, G1, E1, hne1, hb_w5⟩
    have hs_w5 := hb_w5.size
    simp at hs_w5
    have hG1 := G1.blk g1 rfl
    have hE1 := E1.blk e1 rfl
    simp at hG1 hE1
    replace G1 := Lib.hid (G1.le (show w.heap.size ≤ _ by simp; omega))
    replace E1 := Lib.hid (E1.le (show w.heap.size ≤ _ by simp; omega))
    replace X := Lib.hid (X.out.keep (show Below _ _ w5 by repeat (first | exact Below.refl _ _ | assumption | refine below_allocS ?_ _ | refine below_callS ?_ (by assumption) | (refine Below.alloc ?_ (by first | omega | (simp; done) | (simp; omega)) _) | (refine Below.setCell ?_ (by first | omega | (simp; done) | (simp; omega)) _) | refine Below.drew ?_ | refine below_drewN ?_ _ | (refine below_call ?_ (by assumption) (by first | omega | (simp; done) | (simp; omega))) | (refine Below.trans ?_ (by assumption)))))
    have HB : Below w.heap.size w w5 := by repeat (first | exact Below.refl _ _ | assumption | refine below_allocS ?_ _ | refine below_callS ?_ (by assumption) | (refine Below.alloc ?_ (by first | omega | (simp; done) | (simp; omega)) _) | (refine Below.setCell ?_ (by first | omega | (simp; done) | (simp; omega)) _) | refine Below.drew ?_ | refine below_drewN ?_ _ | (refine below_call ?_ (by assumption) (by first | omega | (simp; done) | (simp; omega))) | (refine Below.trans ?_ (by assumption)))
    have BX := Lib.hid hBX
    clear hBX hb_w5
    go_wp2_with fail
    refine Calls.mono (impl_faultFrom' (k := 5) (b := b) (q := q) (s := (n : Int) + (b : Int)) (u := (n : Int) + (B : Int)) (HT.out.keep (by repeat (first | exact Below.refl _ _ | assumption | refine below_allocS ?_ _ | refine below_callS ?_ (by assumption) | (refine Below.alloc ?_ (by first | omega | (simp; done) | (simp; omega)) _) | (refine Below.setCell ?_ (by first | omega | (simp; done) | (simp; omega)) _) | refine Below.drew ?_ | refine below_drewN ?_ _ | (refine below_call ?_ (by assumption) (by first | omega | (simp; done) | (simp; omega))) | (refine Below.trans ?_ (by assumption))))) rfl (by decide) (by omega) (by omega) (by first | assumption | decide | (unfold I64; omega)) (by first | assumption | decide | (unfold I64; omega)) (by first | assumption | decide | (unfold I64; omega)) (by first | assumption | decide | (unfold I64; omega)) BX.out) ?_
    rintro e w6 ⟨g2, e2, rfl, hBX, G2, E2, hne2, hb_w6⟩
    have hs_w6 := hb_w6.size
    have hG2 := G2.blk g2 rfl
    have hE2 := E2.blk e2 rfl
    replace G1 := Lib.hid (G1.out.keep (show Below _ _ w6 by repeat (first | exact Below.refl _ _ | assumption | refine below_allocS ?_ _ | refine below_callS ?_ (by assumption) | (refine Below.alloc ?_ (by first | omega | (simp; done) | (simp; omega)) _) | (refine Below.setCell ?_ (by first | omega | (simp; done) | (simp; omega)) _) | refine Below.drew ?_ | refine below_drewN ?_ _ | (refine below_call ?_ (by assumption) (by first | omega | (simp; done) | (simp; omega))) | (refine Below.trans ?_ (by assumption)))))
    replace E1 := Lib.hid (E1.out.keep (show Below _ _ w6 by repeat (first | exact Below.refl _ _ | assumption | refine below_allocS ?_ _ | refine below_callS ?_ (by assumption) | (refine Below.alloc ?_ (by first | omega | (simp; done) | (simp; omega)) _) | (refine Below.setCell ?_ (by first | omega | (simp; done) | (simp; omega)) _) | refine Below.drew ?_ | refine below_drewN ?_ _ | (refine below_call ?_ (by assumption) (by first | omega | (simp; done) | (simp; omega))) | (refine Below.trans ?_ (by assumption)))))
    replace X := Lib.hid (X.out.keep (show Below _ _ w6 by repeat (first | exact Below.refl _ _ | assumption | refine below_allocS ?_ _ | refine below_callS ?_ (by assumption) | (refine Below.alloc ?_ (by first | omega | (simp; done) | (simp; omega)) _) | (refine Below.setCell ?_ (by first | omega | (simp; done) | (simp; omega)) _) | refine Below.drew ?_ | refine below_drewN ?_ _ | (refine below_call ?_ (by assumption) (by first | omega | (simp; done) | (simp; omega))) | (refine Below.trans ?_ (by assumption)))))
    replace HB : Below w.heap.size w w6 := by repeat (first | exact Below.refl _ _ | assumption | refine below_allocS ?_ _ | refine below_callS ?_ (by assumption) | (refine Below.alloc ?_ (by first | omega | (simp; done) | (simp; omega)) _) | (refine Below.setCell ?_ (by first | omega | (simp; done) | (simp; omega)) _) | refine Below.drew ?_ | refine below_drewN ?_ _ | (refine below_call ?_ (by assumption) (by first | omega | (simp; done) | (simp; omega))) | (refine Below.trans ?_ (by assumption)))
    replace G2 := Lib.hid (G2.le (show w.heap.size ≤ _ by omega))
    replace E2 := Lib.hid (E2.le (show w.heap.size ≤ _ by omega))
    replace BX := Lib.hid hBX
    clear hBX hb_w6
    have x3 := X.out.cell 3
    have xl := X.out.lt
    simp at x3
    obtain ⟨r0, hr0⟩ : ∃ r : RR, r = ⟨rnm 4 b q, some ⟨g1, 0, none⟩, 2, 2, some ⟨e1, 0, none⟩, 2, 2, ⟨4, b, q⟩⟩ := ⟨_, rfl⟩
    have H0 := Lib.hid hr0
    clear hr0
    obtain ⟨r1, hr1⟩ : ∃ r : RR, r = ⟨rnm 5 b q, some ⟨g2, 0, none⟩, 2, 2, some ⟨e2, 0, none⟩, 2, 2, ⟨5, b, q⟩⟩ := ⟨_, rfl⟩
    have H1 := Lib.hid hr1
    clear hr1
    have LL := Lib.hid (OwnF.lit (m := 2) (E := 117) (k := 6) (enc := RR.enc) (ok := fun _ => True) (base := w.heap.size) (cs := #[.string (rnm 4 b q), .slice (some ⟨g1, 0, none⟩) 2 2, .slice (some ⟨e1, 0, none⟩) 2 2, .int .i64 4, .int .i64 (b : Int), .int .i64 (q : Int), .string (rnm 5 b q), .slice (some ⟨g2, 0, none⟩) 2 2, .slice (some ⟨e2, 0, none⟩) 2 2, .int .i64 5, .int .i64 (b : Int), .int .i64 (q : Int)]) w6 [r0, r1] (by omega) rfl (by decide) (fun _ => rfl) (fun _ _ => trivial) (by rw [H0.out, H1.out]; rfl))
    cases sec
    · go_wp2_with fail
      go_ret
      have q0 := H0.out; have q1 := H1.out
      refine ⟨_, _, _, [r0, r1], rfl, LL.out, ?_, ?_, by repeat (first | exact Below.refl _ _ | assumption | refine below_allocS ?_ _ | refine below_callS ?_ (by assumption) | (refine Below.alloc ?_ (by first | omega | (simp; done) | (simp; omega)) _) | (refine Below.setCell ?_ (by first | omega | (simp; done) | (simp; omega)) _) | refine Below.drew ?_ | refine below_drewN ?_ _ | (refine below_call ?_ (by assumption) (by first | omega | (simp; done) | (simp; omega))) | (refine Below.trans ?_ (by assumption)))⟩
      · rw [HS.out, q0, q1]; simp only [Bool.false_eq_true, if_false, if_true, List.append_nil, List.cons_append, List.nil_append, RDs]; exact ⟨⟨rfl, rfl, G1.out.keep (by repeat (first | exact Below.refl _ _ | assumption | refine below_allocS ?_ _ | refine below_callS ?_ (by assumption) | (refine Below.alloc ?_ (by first | omega | (simp; done) | (simp; omega)) _) | (refine Below.setCell ?_ (by first | omega | (simp; done) | (simp; omega)) _) | refine Below.drew ?_ | refine below_drewN ?_ _ | (refine below_call ?_ (by assumption) (by first | omega | (simp; done) | (simp; omega))) | (refine Below.trans ?_ (by assumption)))), E1.out.keep (by repeat (first | exact Below.refl _ _ | assumption | refine below_allocS ?_ _ | refine below_callS ?_ (by assumption) | (refine Below.alloc ?_ (by first | omega | (simp; done) | (simp; omega)) _) | (refine Below.setCell ?_ (by first | omega | (simp; done) | (simp; omega)) _) | refine Below.drew ?_ | refine below_drewN ?_ _ | (refine below_call ?_ (by assumption) (by first | omega | (simp; done) | (simp; omega))) | (refine Below.trans ?_ (by assumption))))⟩, ⟨rfl, rfl, G2.out.keep (by repeat (first | exact Below.refl _ _ | assumption | refine below_allocS ?_ _ | refine below_callS ?_ (by assumption) | (refine Below.alloc ?_ (by first | omega | (simp; done) | (simp; omega)) _) | (refine Below.setCell ?_ (by first | omega | (simp; done) | (simp; omega)) _) | refine Below.drew ?_ | refine below_drewN ?_ _ | (refine below_call ?_ (by assumption) (by first | omega | (simp; done) | (simp; omega))) | (refine Below.trans ?_ (by assumption)))), E2.out.keep (by repeat (first | exact Below.refl _ _ | assumption | refine below_allocS ?_ _ | refine below_callS ?_ (by assumption) | (refine Below.alloc ?_ (by first | omega | (simp; done) | (simp; omega)) _) | (refine Below.setCell ?_ (by first | omega | (simp; done) | (simp; omega)) _) | refine Below.drew ?_ | refine below_drewN ?_ _ | (refine below_call ?_ (by assumption) (by first | omega | (simp; done) | (simp; omega))) | (refine Below.trans ?_ (by assumption))))⟩, trivial⟩
      · rw [q0, q1]; simp [RR.blks]; omega
    · go_wp2_with fail
      refine Calls.mono (impl_faultFrom' (k := 6) (b := b) (q := q) (s := (n : Int) + (b : Int)) (u := (n : Int) + (B : Int)) (HT.out.keep (by repeat (first | exact Below.refl _ _ | assumption | refine below_allocS ?_ _ | refine below_callS ?_ (by assumption) | (refine Below.alloc ?_ (by first | omega | (simp; done) | (simp; omega)) _) | (refine Below.setCell ?_ (by first | omega | (simp; done) | (simp; omega)) _) | refine Below.drew ?_ | refine below_drewN ?_ _ | (refine below_call ?_ (by assumption) (by first | omega | (simp; done) | (simp; omega))) | (refine Below.trans ?_ (by assumption))))) rfl (by decide) (by omega) (by omega) (by first | assumption | decide | (unfold I64; omega)) (by first | assumption | decide | (unfold I64; omega)) (by first | assumption | decide | (unfold I64; omega)) (by first | assumption | decide | (unfold I64; omega)) (BX.out.keep (by repeat (first | exact Below.refl _ _ | assumption | refine below_allocS ?_ _ | refine below_callS ?_ (by assumption) | (refine Below.alloc ?_ (by first | omega | (simp; done) | (simp; omega)) _) | (refine Below.setCell ?_ (by first | omega | (simp; done) | (simp; omega)) _) | refine Below.drew ?_ | refine below_drewN ?_ _ | (refine below_call ?_ (by assumption) (by first | omega | (simp; done) | (simp; omega))) | (refine Below.trans ?_ (by assumption)))))) ?_
      rintro e w7 ⟨g3, e3, rfl, hBX, G3, E3, hne3, hb_w7⟩
      have hs_w7 := hb_w7.size
      simp at hs_w7
      have hG3 := G3.blk g3 rfl
      have hE3 := E3.blk e3 rfl
      simp at hG3 hE3
      replace G3 := Lib.hid (G3.le (show w.heap.size ≤ _ by simp; omega))
      replace E3 := Lib.hid (E3.le (show w.heap.size ≤ _ by simp; omega))
      replace G1 := Lib.hid (G1.out.keep (show Below _ _ w7 by repeat (first | exact Below.refl _ _ | assumption | refine below_allocS ?_ _ | refine below_callS ?_ (by assumption) | (refine Below.alloc ?_ (by first | omega | (simp; done) | (simp; omega)) _) | (refine Below.setCell ?_ (by first | omega | (simp; done) | (simp; omega)) _) | refine Below.drew ?_ | refine below_drewN ?_ _ | (refine below_call ?_ (by assumption) (by first | omega | (simp; done) | (simp; omega))) | (refine Below.trans ?_ (by assumption)))))
      replace E1 := Lib.hid (E1.out.keep (show Below _ _ w7 by repeat (first | exact Below.refl _ _ | assumption | refine below_allocS ?_ _ | refine below_callS ?_ (by assumption) | (refine Below.alloc ?_ (by first | omega | (simp; done) | (simp; omega)) _) | (refine Below.setCell ?_ (by first | omega | (simp; done) | (simp; omega)) _) | refine Below.drew ?_ | refine below_drewN ?_ _ | (refine below_call ?_ (by assumption) (by first | omega | (simp; done) | (simp; omega))) | (refine Below.trans ?_ (by assumption)))))
      replace G2 := Lib.hid (G2.out.keep (show Below _ _ w7 by repeat (first | exact Below.refl _ _ | assumption | refine below_allocS ?_ _ | refine below_callS ?_ (by assumption) | (refine Below.alloc ?_ (by first | omega | (simp; done) | (simp; omega)) _) | (refine Below.setCell ?_ (by first | omega | (simp; done) | (simp; omega)) _) | refine Below.drew ?_ | refine below_drewN ?_ _ | (refine below_call ?_ (by assumption) (by first | omega | (simp; done) | (simp; omega))) | (refine Below.trans ?_ (by assumption)))))
      replace E2 := Lib.hid (E2.out.keep (show Below _ _ w7 by repeat (first | exact Below.refl _ _ | assumption | refine below_allocS ?_ _ | refine below_callS ?_ (by assumption) | (refine Below.alloc ?_ (by first | omega | (simp; done) | (simp; omega)) _) | (refine Below.setCell ?_ (by first | omega | (simp; done) | (simp; omega)) _) | refine Below.drew ?_ | refine below_drewN ?_ _ | (refine below_call ?_ (by assumption) (by first | omega | (simp; done) | (simp; omega))) | (refine Below.trans ?_ (by assumption)))))
      replace LL := Lib.hid (LL.out.keep (show Below _ _ w7 by repeat (first | exact Below.refl _ _ | assumption | refine below_allocS ?_ _ | refine below_callS ?_ (by assumption) | (refine Below.alloc ?_ (by first | omega | (simp; done) | (simp; omega)) _) | (refine Below.setCell ?_ (by first | omega | (simp; done) | (simp; omega)) _) | refine Below.drew ?_ | refine below_drewN ?_ _ | (refine below_call ?_ (by assumption) (by first | omega | (simp; done) | (simp; omega))) | (refine Below.trans ?_ (by assumption)))))
      replace HB : Below w.heap.size w w7 := by repeat (first | exact Below.refl _ _ | assumption | refine below_allocS ?_ _ | refine below_callS ?_ (by assumption) | (refine Below.alloc ?_ (by first | omega | (simp; done) | (simp; omega)) _) | (refine Below.setCell ?_ (by first | omega | (simp; done) | (simp; omega)) _) | refine Below.drew ?_ | refine below_drewN ?_ _ | (refine below_call ?_ (by assumption) (by first | omega | (simp; done) | (simp; omega))) | (refine Below.trans ?_ (by assumption)))
      clear hBX hb_w7
      obtain ⟨r2, hr2⟩ : ∃ r : RR, r = ⟨rnm 6 b q, some ⟨g3, 0, none⟩, 2, 2, some ⟨e3, 0, none⟩, 2, 2, ⟨6, b, q⟩⟩ := ⟨_, rfl⟩
      have H2 := Lib.hid hr2
      clear hr2
      go_wp2_with (at_builtin; refine appAtL rfl _ _ rfl Tryz.underlying113 Tryz.infoRR rfl (by decide) (by decide) RR.one w.heap.size _ _ _ _ [r2] LL.out rfl _ rfl (by first | rfl | (simp; done)) (by rw [H2.out]; rfl) rfl (fun _ _ => trivial) (by decide) (by omega) (by decide) (by omega) ?_; intro gM c2 wn ho hb hg hat hsn; have G1 := Lib.hid (G1.out.keepG hg (by intro q0 hq0; simp [Value.ownBlock] at hq0 ⊢; omega)); have E1 := Lib.hid (E1.out.keepG hg (by intro q0 hq0; simp [Value.ownBlock] at hq0 ⊢; omega)); have G2 := Lib.hid (G2.out.keepG hg (by intro q0 hq0; simp [Value.ownBlock] at hq0 ⊢; omega)); have E2 := Lib.hid (E2.out.keepG hg (by intro q0 hq0; simp [Value.ownBlock] at hq0 ⊢; omega)); have G3 := Lib.hid (G3.out.keepG hg (by intro q0 hq0; simp [Value.ownBlock] at hq0 ⊢; omega)); have E3 := Lib.hid (E3.out.keepG hg (by intro q0 hq0; simp [Value.ownBlock] at hq0 ⊢; omega)); have LL := Lib.hid ho; have HB := HB.trans hb; clear ho hb hg)
      go_ret
      have q0 := H0.out; have q1 := H1.out; have q2 := H2.out
      refine ⟨_, _, _, [r0, r1, r2], rfl, LL.out, ?_, ?_, HB⟩
      · rw [HS.out, q0, q1, q2]; simp only [Bool.false_eq_true, if_false, if_true, List.append_nil, List.cons_append, List.nil_append, RDs]; exact ⟨⟨rfl, rfl, G1.out, E1.out⟩, ⟨rfl, rfl, G2.out, E2.out⟩, ⟨rfl, rfl, G3.out, E3.out⟩, trivial⟩
      · rw [q0, q1, q2]; simp [RR.blks]; omega
end Go.Proofs.YtfnamjkmkoldeaaGreatDoor
namespace Go.Proofs.YtfnamjkmkoldeaaGreatDoor
open Go.RowKit
set_option linter.unusedVariables false
set_option linter.unusedSimpArgs false
def SOk (S : List RS) : Prop := ∀ s ∈ S, s.g ≠ [] ∧ s.e ≠ []
theorem trS_ok (n B i b : Nat) (sec : Bool) : SOk (trS n B i b sec) := by
  intro s hs
  cases sec <;> simp [trS] at hs
  · rcases hs with rfl | rfl | rfl <;> simp [freeL]
  · rcases hs with rfl | rfl | rfl | rfl <;> simp [freeL]
theorem faS_ok (n B b q : Nat) (sec : Bool) : SOk (faS n B b q sec) := by
  intro s hs
  cases sec <;> simp [faS] at hs
  · rcases hs with rfl | rfl <;> simp [faG, faE]
  · rcases hs with rfl | rfl | rfl <;> simp [faG, faE]
theorem trS_len (n B i b : Nat) (sec : Bool) : 0 < (trS n B i b sec).length ∧ (trS n B i b sec).length ≤ 4 := by cases sec <;> simp [trS]
theorem faS_len (n B b q : Nat) (sec : Bool) : 0 < (faS n B b q sec).length ∧ (faS n B b q sec).length ≤ 3 := by cases sec <;> simp [faS]
theorem trS_x (n B i b : Nat) (sec : Bool) : (trS n B i b sec).map (·.x) = trK i b sec 4 := by
  cases sec <;> simp [trS, trK, List.range, List.range.loop, List.filter]
theorem faS_x (n B b q : Nat) (sec : Bool) : (faS n B b q sec).map (·.x) = faK b q sec 3 := by
  cases sec <;> simp [faS, faK, List.range, List.range.loop, List.filter]
def trSB (n B i : Nat) (sec : Bool) (q : Nat) : List RS := (List.range q).flatMap fun b => trS n B i b sec
def trSI (n B : Nat) (sec : Bool) (q : Nat) : List RS := (List.range q).flatMap fun i => trSB n B i sec B
def faSJ (n B b bud : Nat) (sec : Bool) (q : Nat) : List RS := (List.range q).flatMap fun j => faS n B b (bud - j) sec
def faSI (n B bud : Nat) (sec : Bool) (q : Nat) : List RS := (List.range q).flatMap fun b => faSJ n B b bud sec bud
def rulesS (n B bud : Nat) (sec : Bool) : List RS := trSI n B sec n ++ faSI n B bud sec B
theorem rulesS_x (n B bud : Nat) (sec : Bool) : (rulesS n B bud sec).map (·.x) = kindsL n B bud sec := by
  simp only [rulesS, kindsL, trSI, trSB, faSI, faSJ, trI, trB', faI, faB, List.map_append, List.map_flatMap, trS_x, faS_x]
theorem RDs.keepG {w w' : World} {base : Nat} {r : Option Nat} (hg : w.grownBy w' r) : ∀ {L : List RR} {S : List RS}, RDs w base L S → (∀ b ∈ L.flatMap RR.blks, r ≠ some b) → RDs w' base L S
  | [], [], _, _ => trivial
  | x :: _, _ :: _, h, hn => by
    have h1 := hn _ (by simp [RR.blks] : (x.ga.map (·.block)).getD 0 ∈ _)
    have h2 := hn _ (by simp [RR.blks] : (x.ea.map (·.block)).getD 0 ∈ _)
    refine ⟨⟨h.1.1, h.1.2.1, h.1.2.2.1.keepG hg fun g e => ?_, h.1.2.2.2.keepG hg fun g e => ?_⟩, RDs.keepG hg h.2 fun b hb => hn b (by rw [List.flatMap_cons]; exact List.mem_append_right _ hb)⟩
    · rw [e] at h1; exact h1
    · rw [e] at h2; exact h2
  | [], _ :: _, h, _ => h.elim
  | _ :: _, [], h, _ => h.elim
theorem RDs.blt {w : World} {base : Nat} : ∀ {L : List RR} {S : List RS}, RDs w base L S → SOk S → ∀ b ∈ L.flatMap RR.blks, base ≤ b ∧ b < w.heap.size
  | [], [], _, _ => fun b hb => by cases hb
  | x :: L, s :: S, h, hS => fun b hb => by
    rw [List.flatMap_cons] at hb
    rcases List.mem_append.1 hb with hb | hb
    · have h0 := hS s (List.mem_cons_self ..)
      have l1 := h.1.2.2.1.len
      have l2 := h.1.2.2.2.len
      have p1 := List.length_pos_iff.2 h0.1
      have p2 := List.length_pos_iff.2 h0.2
      simp only [RR.blks, List.mem_cons, List.not_mem_nil, or_false] at hb
      rcases hb with rfl | rfl
      · exact h.1.2.2.1.isSome (by omega)
      · exact h.1.2.2.2.isSome (by omega)
    · exact RDs.blt h.2 (fun s hs => hS s (List.mem_cons_of_mem _ hs)) b hb
  | [], _ :: _, h, _ => h.elim
  | _ :: _, [], h, _ => h.elim
/-- a list of rules of the call's own, each with guard and effect of the call's own, all apart -/
structure RL (w : World) (base : Nat) (a : Option Addr) (n c : Nat) (L : List RR) (S : List RS) : Prop where
  own : OwnF 6 RR.enc (fun _ => True) 117 w base a n c L
  rds : RDs w base L S
  nd : (L.flatMap RR.blks).Nodup
  bl : ∀ b ∈ L.flatMap RR.blks, base ≤ b ∧ b < w.heap.size
  ap : ∀ g, a = some ⟨g, 0, none⟩ → g ∉ L.flatMap RR.blks
theorem RL.keep {w w' : World} {base : Nat} {a : Option Addr} {n c : Nat} {L : List RR} {S : List RS} (h : RL w base a n c L S) (hb : Below w.heap.size w w') : RL w' base a n c L S :=
  ⟨h.own.keep hb, h.rds.keep hb, h.nd, fun b hb' => ⟨(h.bl b hb').1, Nat.lt_of_lt_of_le (h.bl b hb').2 hb.size⟩, h.ap⟩
theorem RL.nil (w : World) (base : Nat) : RL w base none 0 0 [] [] :=
  ⟨⟨World.ownsRow_nil w base _ 6, (fun _ h => by cases h), rfl, fun _ => rfl⟩, trivial, List.nodup_nil, (fun b h => by cases h), fun g h => by cases h⟩
theorem RL.app {w w1 wn : World} {base : Nat} {a : Option Addr} {n c m g' c' : Nat} {L L2 : List RR} {S S2 : List RS} (h : RL w base a n c L S) (hb : Below w.heap.size w w1) (hbase : base ≤ w.heap.size)
    (r2 : RDs w1 w.heap.size L2 S2) (nd2 : (L2.flatMap RR.blks).Nodup) (ok2 : SOk S2) (hown : OwnF 6 RR.enc (fun _ => True) 117 wn base (some ⟨g', 0, none⟩) (n + m) c' (L ++ L2))
    (hg : w1.grownBy wn (Value.slice a n c).ownBlock) (hat : a = some ⟨g', 0, none⟩ ∨ g' = w1.heap.size) : RL wn base (some ⟨g', 0, none⟩) (n + m) c' (L ++ L2) (S ++ S2) := by
  have hbl2 := r2.blt ok2
  have hform : ∀ q, a = some q → ∃ g, q = ⟨g, 0, none⟩ := fun q hq => by
    rcases h.own.1.2 with ⟨he, _⟩ | ⟨g, cap, cur, he, _⟩
    · simp only [Value.slice.injEq] at he; rw [hq] at he; cases he.1
    · simp only [Value.slice.injEq] at he; rw [hq] at he; exact ⟨g, Option.some.inj he.1⟩
  have hne : ∀ b, (Value.slice a n c).ownBlock = some b → a = some ⟨b, 0, none⟩ := fun b e => by
    cases a with
    | none => simp [Value.ownBlock] at e
    | some q =>
      obtain ⟨g, rfl⟩ := hform q rfl
      simp [Value.ownBlock] at e; rw [e]
  have hsz := hg.size
  have hbs := hb.size
  refine ⟨hown, RDs.append ((r2.keepG hg ?_).le hbase) ((h.rds.keep hb).keepG hg ?_), ?_, ?_, ?_⟩
  · intro b hb' e
    have h1 := hne b e
    have h2 := (h.own.blk b h1).2
    have := (hbl2 b hb').1
    omega
  · intro b hb' e
    exact h.ap b (hne b e) hb'
  · rw [List.flatMap_append]
    refine List.nodup_append.2 ⟨h.nd, nd2, fun x hx y hy e => ?_⟩
    have h1 := (h.bl x hx).2
    have h2 := (hbl2 y hy).1
    omega
  · intro b hb'
    rw [List.flatMap_append] at hb'
    rcases List.mem_append.1 hb' with h1 | h1
    · have := h.bl b h1; omega
    · have := hbl2 b h1; omega
  · intro g e hm
    cases e
    rw [List.flatMap_append] at hm
    rcases hat with h0 | h0
    · rcases List.mem_append.1 hm with h1 | h1
      · exact h.ap _ h0 h1
      · have h2 := (h.own.blk _ h0).2
        have := (hbl2 _ h1).1
        omega
    · rcases List.mem_append.1 hm with h1 | h1
      · have := (h.bl _ h1).2; omega
      · have := (hbl2 _ h1).2; omega
def RuRet (w : World) (S : List RS) (e : Ending) (w' : World) : Prop := ∃ a' n' c' L, e = .returned (.slice a' n' c') ∧ RL w' (w.heap.size + 1) a' n' c' L S ∧ n' ≤ 400 ∧ Below w.heap.size w w'
set_option maxRecDepth 100000 in
set_option maxHeartbeats 4000000 in
theorem impl_rules {B bud n c : Nat} {a : Option Addr} {sec : Bool} {w : World} (hT : Tab w 0 (strsCells ruleNm)) (hB : 2 ≤ B) (hB8 : B ≤ 8) (hn : n ≤ 4) (hbud : bud ≤ 2) :
    Calls Tryz.prog 83 #[.agg #[.int .i64 (B : Int), .slice a n c, .int .i64 (bud : Int), .bool sec]] w (RuRet w (rulesS n B bud sec)) := by
  have HT := Lib.hid hT
  have X := Lib.hid (Blk.made w #[.int .i64 (B : Int), .slice a n c, .int .i64 (bud : Int), .bool sec] 90)
  obtain ⟨wA, hwA⟩ : ∃ wA : World, wA = w.alloc (.cells #[.int .i64 (B : Int), .slice a n c, .int .i64 (bud : Int), .bool sec] 90) := ⟨_, rfl⟩
  have hsA : w.heap.size + 1 ≤ wA.heap.size := by rw [hwA]; simp
  have hbA : Below w.heap.size w wA := by rw [hwA]; repeat (first | exact Below.refl _ _ | assumption | refine below_allocS ?_ _ | refine below_callS ?_ (by assumption) | (refine Below.alloc ?_ (by first | omega | (simp; done) | (simp; omega)) _) | (refine Below.setCell ?_ (by first | omega | (simp; done) | (simp; omega)) _) | refine Below.drew ?_ | refine below_drewN ?_ _ | (refine below_call ?_ (by assumption) (by first | omega | (simp; done) | (simp; omega))) | (refine Below.trans ?_ (by assumption)))
  rw [← hwA] at X
  have HwA := Lib.hid hwA
  clear hwA hT
  go_enter Tryz.func83, Tryz.ntmps83
  go_wp2_with fail
  rw [← HwA.out]
  clear HwA
  go_wp2_with fail
  refine Calls.mono (impl_length_i64) ?_
  rintro e _ ⟨rfl, rfl⟩
  go_wp2_with fail
  go_loopw [3, 12] (fun s3 s12 wr => ∃ (a' : Option Addr) (m c' i : Nat) (L : List RR), s3 = .slice a' m c' ∧ s12 = .int .i64 i ∧ i ≤ n ∧ m ≤ 32 * i ∧ w.heap.size + 1 ≤ wr.heap.size ∧ Below w.heap.size w wr ∧ Hid (RL wr (w.heap.size + 1) a' m c' L (trSI n B sec i)) ∧ Hid (Blk wr w.heap.size #[.int .i64 (B : Int), .slice a n c, .int .i64 (bud : Int), .bool sec] 90)) (fun _ s12 _ => n - (intOf s12).toNat)
  case atStart => exact ⟨none, 0, 0, 0, [], rfl, rfl, by omega, by omega, by omega, hbA, Lib.hid (RL.nil _ _), X⟩
  case round =>
    clear X hbA
    obtain ⟨a', m, c', i, L, rfl, rfl, hi, hm, hsr, hbl, O, X⟩ := hrel
    have x0 := X.out.cell 0
    have x1 := X.out.cell 1
    have x2 := X.out.cell 2
    have x3 := X.out.cell 3
    have xl := X.out.lt
    simp at x0 x1 x2 x3
    by_cases hlt : i < n
    · have hlt' : (i : Int) < (n : Int) := by omega
      go_wp2_with fail
      clear x0 x1 x2 x3 xl
      obtain ⟨wo, rfl⟩ : ∃ wo : World, wo = wr := ⟨_, rfl⟩
      go_loopw [3, 18] (fun s3 s18 wr => ∃ (a' : Option Addr) (m c' j : Nat) (L : List RR), s3 = .slice a' m c' ∧ s18 = .int .i64 j ∧ j ≤ B ∧ m ≤ 32 * i + 4 * j ∧ w.heap.size + 1 ≤ wr.heap.size ∧ Below w.heap.size w wr ∧ Hid (RL wr (w.heap.size + 1) a' m c' L (trSI n B sec i ++ trSB n B i sec j)) ∧ Hid (Blk wr w.heap.size #[.int .i64 (B : Int), .slice a n c, .int .i64 (bud : Int), .bool sec] 90)) (fun _ s18 _ => B - (intOf s18).toNat)
      case atStart => exact ⟨_, m, _, 0, L, rfl, rfl, by omega, by omega, by omega, hbl, by show _; rw [show trSI n B sec i ++ trSB n B i sec 0 = trSI n B sec i by simp [trSB]]; exact O, X⟩
      case round =>
        clear O X hbl
        obtain ⟨a', m, c', j, L, rfl, rfl, hj, hm2, hsr, hbl, O, X⟩ := hrel
        have x0 := X.out.cell 0
        have x1 := X.out.cell 1
        have x2 := X.out.cell 2
        have x3 := X.out.cell 3
        have xl := X.out.lt
        simp at x0 x1 x2 x3
        by_cases hjB : j < B
        · have hjB' : (j : Int) < (B : Int) := by omega
          go_wp2_with fail
          clear x0 x1 x2 x3 xl
          refine Calls.mono (impl_trainRules (bud := bud) (HT.out.keep (by repeat (first | exact Below.refl _ _ | assumption | refine below_allocS ?_ _ | refine below_callS ?_ (by assumption) | (refine Below.alloc ?_ (by first | omega | (simp; done) | (simp; omega)) _) | (refine Below.setCell ?_ (by first | omega | (simp; done) | (simp; omega)) _) | refine Below.drew ?_ | refine below_drewN ?_ _ | (refine below_call ?_ (by assumption) (by first | omega | (simp; done) | (simp; omega))) | (refine Below.trans ?_ (by assumption))))) hB hB8 hn hlt hjB) ?_
          rintro e w1 ⟨a2, m2, c2, L2, rfl, ho2, hr2, hn2, hb1⟩
          have hs1 := hb1.size
          have hl2 := ho2.len
          have hl3 := hr2.len
          have hl4 := trS_len n B i j sec
          have hm0 : 0 < m2 := by omega
          have hm4 : m2 ≤ 4 := by omega
          have O2 := Lib.hid ho2.flats
          have R2 := Lib.hid hr2
          have N2 := Lib.hid hn2
          have HB1 := Lib.hid hb1
          clear hl2 hl3 hl4 ho2 hr2 hn2 hb1
          go_wp2_with (at_builtin; refine appAtS rfl _ _ _ _ rfl Tryz.underlying113 Tryz.infoRR rfl (by decide) (by decide) RR.one (w.heap.size + 1) _ _ _ _ (O.out.own.keep HB1.out) rfl _ _ _ _ rfl O2.out hm0 (by omega) (by omega) (by omega) ?_; intro g' c3 wn ho hb hg hat; have O := Lib.hid (RL.app O.out HB1.out (by omega) R2.out N2.out (trS_ok _ _ _ _ _) ho hg hat); have X := Lib.hid ((X.out.keep HB1.out).keepB hb (by omega)); have hbl := Below.trans (below_callS hbl HB1.out) (hb.mono (by omega)); have hsn := hb.size; clear ho hb hg hat)
          go_roundw
          case rel => exact ⟨_, m + m2, _, j + 1, L ++ L2, rfl, by go_num, by omega, by omega, by omega, hbl, by show _; rw [show trSB n B i sec (j + 1) = trSB n B i sec j ++ trS n B i j sec from flat_snoc _ _, ← List.append_assoc]; exact O, X⟩
          case measure => simp [intOf]; omega
        · obtain rfl : B = j := by omega
          have hjB' : ¬ (B : Int) < (B : Int) := by omega
          go_wp2_with fail
          go_roundw
          case rel => exact ⟨_, m, _, i + 1, L, rfl, by go_num, by omega, by omega, hsr, hbl, by show _; rw [show trSI n B sec (i + 1) = trSI n B sec i ++ trSB n B i sec B from flat_snoc _ _]; exact O, X⟩
          case measure => simp [intOf]; omega
    · obtain rfl : n = i := by omega
      have hlt' : ¬ (n : Int) < (n : Int) := by omega
      go_wp2_with fail
      clear x0 x1 x2 x3 xl
      obtain ⟨wo, rfl⟩ : ∃ wo : World, wo = wr := ⟨_, rfl⟩
      go_loopw [3, 32] (fun s3 s32 wr => ∃ (a' : Option Addr) (m c' i : Nat) (L : List RR), s3 = .slice a' m c' ∧ s32 = .int .i64 i ∧ i ≤ B ∧ m ≤ 128 + 6 * i ∧ w.heap.size + 1 ≤ wr.heap.size ∧ Below w.heap.size w wr ∧ Hid (RL wr (w.heap.size + 1) a' m c' L (trSI n B sec n ++ faSI n B bud sec i)) ∧ Hid (Blk wr w.heap.size #[.int .i64 (B : Int), .slice a n c, .int .i64 (bud : Int), .bool sec] 90)) (fun _ s32 _ => B - (intOf s32).toNat)
      case atStart => exact ⟨_, m, _, 0, L, rfl, rfl, by omega, by omega, by omega, hbl, by show _; rw [show trSI n B sec n ++ faSI n B bud sec 0 = trSI n B sec n by simp [faSI]]; exact O, X⟩
      case round =>
        clear O X hbl
        obtain ⟨a', m, c', i, L, rfl, rfl, hi, hm, hsr, hbl, O, X⟩ := hrel
        have x0 := X.out.cell 0
        have x1 := X.out.cell 1
        have x2 := X.out.cell 2
        have x3 := X.out.cell 3
        have xl := X.out.lt
        simp at x0 x1 x2 x3
        by_cases hlt : i < B
        · have hlt' : (i : Int) < (B : Int) := by omega
          go_wp2_with fail
          clear x0 x1 x2 x3 xl
          obtain ⟨wp, rfl⟩ : ∃ wp : World, wp = wr := ⟨_, rfl⟩
          go_loopw [3, 7] (fun s3 s7 wr => ∃ (a' : Option Addr) (m c' j : Nat) (L : List RR), s3 = .slice a' m c' ∧ s7 = .int .i64 ((bud - j : Nat) : Int) ∧ j ≤ bud ∧ m ≤ 128 + 6 * i + 3 * j ∧ w.heap.size + 1 ≤ wr.heap.size ∧ Below w.heap.size w wr ∧ Hid (RL wr (w.heap.size + 1) a' m c' L (trSI n B sec n ++ faSI n B bud sec i ++ faSJ n B i bud sec j)) ∧ Hid (Blk wr w.heap.size #[.int .i64 (B : Int), .slice a n c, .int .i64 (bud : Int), .bool sec] 90)) (fun _ s7 _ => (intOf s7).toNat)
          case atStart => exact ⟨_, m, _, 0, L, rfl, rfl, by omega, by omega, by omega, hbl, by show _; rw [show trSI n B sec n ++ faSI n B bud sec i ++ faSJ n B i bud sec 0 = trSI n B sec n ++ faSI n B bud sec i by simp [faSJ]]; exact O, X⟩
          case round =>
            clear O X hbl
            obtain ⟨a', m, c', j, L, rfl, rfl, hj, hm2, hsr, hbl, O, X⟩ := hrel
            have x0 := X.out.cell 0
            have x1 := X.out.cell 1
            have x2 := X.out.cell 2
            have x3 := X.out.cell 3
            have xl := X.out.lt
            simp at x0 x1 x2 x3
            by_cases hjB : j < bud
            · obtain ⟨k, hk⟩ : ∃ k : Nat, k = bud - j := ⟨_, rfl⟩
              rw [← hk]
              have hk0 : (0 : Int) < (k : Int) := by omega
              have hkn : 0 < k := by omega
              have hk2 : k ≤ 2 := by omega
              have Hk := Lib.hid hk
              clear hk
              go_wp2_with fail
              clear x0 x1 x2 x3 xl
              refine Calls.mono (impl_faultRules (bud := bud) (HT.out.keep (by repeat (first | exact Below.refl _ _ | assumption | refine below_allocS ?_ _ | refine below_callS ?_ (by assumption) | (refine Below.alloc ?_ (by first | omega | (simp; done) | (simp; omega)) _) | (refine Below.setCell ?_ (by first | omega | (simp; done) | (simp; omega)) _) | refine Below.drew ?_ | refine below_drewN ?_ _ | (refine below_call ?_ (by assumption) (by first | omega | (simp; done) | (simp; omega))) | (refine Below.trans ?_ (by assumption))))) hB8 hn hlt hk2) ?_
              rintro e w1 ⟨a2, m2, c2, L2, rfl, ho2, hr2, hn2, hb1⟩
              have hs1 := hb1.size
              have hl2 := ho2.len
              have hl3 := hr2.len
              have hl4 := faS_len n B i k sec
              have hm0 : 0 < m2 := by omega
              have hm4 : m2 ≤ 3 := by omega
              have O2 := Lib.hid ho2.flats
              have R2 := Lib.hid hr2
              have N2 := Lib.hid hn2
              have HB1 := Lib.hid hb1
              clear hl2 hl3 hl4 ho2 hr2 hn2 hb1
              go_wp2_with (at_builtin; refine appAtS rfl _ _ _ _ rfl Tryz.underlying113 Tryz.infoRR rfl (by decide) (by decide) RR.one (w.heap.size + 1) _ _ _ _ (O.out.own.keep HB1.out) rfl _ _ _ _ rfl O2.out hm0 (by omega) (by omega) (by omega) ?_; intro g' c3 wn ho hb hg hat; have O := Lib.hid (RL.app O.out HB1.out (by omega) R2.out N2.out (faS_ok _ _ _ _ _) ho hg hat); have X := Lib.hid ((X.out.keep HB1.out).keepB hb (by omega)); have hbl := Below.trans (below_callS hbl HB1.out) (hb.mono (by omega)); have hsn := hb.size; clear ho hb hg hat)
              go_roundw
              case rel => exact ⟨_, m + m2, _, j + 1, L ++ L2, rfl, by have := Hk.out; congr 1; omega, by omega, by omega, by omega, hbl, by show _; rw [show faSJ n B i bud sec (j + 1) = faSJ n B i bud sec j ++ faS n B i k sec by rw [Hk.out]; exact flat_snoc _ _, ← List.append_assoc]; exact O, X⟩
              case measure => simp [intOf]; omega
            · obtain rfl : bud = j := by omega
              rw [Nat.sub_self]
              go_wp2_with fail
              go_roundw
              case rel => exact ⟨_, m, _, i + 1, L, rfl, by go_num, by omega, by omega, hsr, hbl, by show _; rw [show faSI n B bud sec (i + 1) = faSI n B bud sec i ++ faSJ n B i bud sec bud from flat_snoc _ _, ← List.append_assoc]; exact O, X⟩
              case measure => simp [intOf]; omega
        · obtain rfl : B = i := by omega
          have hlt' : ¬ (B : Int) < (B : Int) := by omega
          go_wp2_with fail
          go_ret
          exact ⟨_, m, _, L, rfl, O.out, by omega, hbl⟩
end Go.Proofs.YtfnamjkmkoldeaaGreatDoor
namespace Go.Proofs.YtfnamjkmkoldeaaGreatDoor
open Go.RowKit
set_option linter.unusedVariables false
set_option linter.unusedSimpArgs false
def rdC (b : Int) (l : List Int) (bud : Int) : Int := if trafB b l = false then 1 else if inB bud 0 2 = false then 2 else 0
set_option maxHeartbeats 1000000 in
theorem spec_l24Code {b bud : Int} {a : Option Addr} {n c : Nat} {l : List Int} {w : World} (hI : Ints w a n c l) (hn : n ≤ 1048576) :
    Calls Tryz.prog 69 #[.agg #[.int .i64 b, .slice a n c], .int .i64 bud] w fun e w' => e = .returned (.int .i64 (rdC b l bud)) ∧ Below w.heap.size w w' := by
  have k1 := fun (wx : World) (hb : Below w.heap.size w wx) => spec_IsTraffic (b := b) (hI.keep hb) hn
  cases ht : trafB b l
  · rw [ht] at k1
    have K1 := Lib.hid k1
    have HT := Lib.hid ht
    clear k1 ht hI
    go_enter Tryz.func69, Tryz.ntmps69
    go_wp2_with fail
    refine Calls.mono (K1.out _ (by repeat (first | exact Below.refl _ _ | assumption | refine below_allocS ?_ _ | refine below_callS ?_ (by assumption) | (refine Below.alloc ?_ (by first | omega | (simp; done) | (simp; omega)) _) | (refine Below.setCell ?_ (by first | omega | (simp; done) | (simp; omega)) _) | refine Below.drew ?_ | refine below_drewN ?_ _ | (refine below_call ?_ (by assumption) (by first | omega | (simp; done) | (simp; omega))) | (refine Below.trans ?_ (by assumption))))) ?_
    rintro e w1 ⟨rfl, hb_w1⟩
    obtain ⟨hc_w1, hf_w1⟩ := bcell hb_w1
    have hs_w1 := hb_w1.size
    go_wp2
    go_ret
    exact ⟨ret_int (by rw [rdC, HT.out]; rfl), by repeat (first | exact Below.refl _ _ | assumption | refine below_allocS ?_ _ | refine below_callS ?_ (by assumption) | (refine Below.alloc ?_ (by first | omega | (simp; done) | (simp; omega)) _) | (refine Below.setCell ?_ (by first | omega | (simp; done) | (simp; omega)) _) | refine Below.drew ?_ | refine below_drewN ?_ _ | (refine below_call ?_ (by assumption) (by first | omega | (simp; done) | (simp; omega))) | (refine Below.trans ?_ (by assumption)))⟩
  · rw [ht] at k1
    have K1 := Lib.hid k1
    have HT := Lib.hid ht
    clear k1 ht hI
    cases hb : inB bud 0 2
    all_goals
      have HB := Lib.hid hb
      clear hb
      go_enter Tryz.func69, Tryz.ntmps69
      go_wp2_with fail
      refine Calls.mono (K1.out _ (by repeat (first | exact Below.refl _ _ | assumption | refine below_allocS ?_ _ | refine below_callS ?_ (by assumption) | (refine Below.alloc ?_ (by first | omega | (simp; done) | (simp; omega)) _) | (refine Below.setCell ?_ (by first | omega | (simp; done) | (simp; omega)) _) | refine Below.drew ?_ | refine below_drewN ?_ _ | (refine below_call ?_ (by assumption) (by first | omega | (simp; done) | (simp; omega))) | (refine Below.trans ?_ (by assumption))))) ?_
      rintro e w1 ⟨rfl, hb_w1⟩
      obtain ⟨hc_w1, hf_w1⟩ := bcell hb_w1
      have hs_w1 := hb_w1.size
      go_wp2_with fail
      refine Calls.mono (spec_l01In) ?_
      rintro e _ ⟨rfl, rfl⟩
      rw [HB.out]
      go_wp2
      go_ret
      exact ⟨ret_int (by rw [rdC, HT.out, HB.out]; rfl), by repeat (first | exact Below.refl _ _ | assumption | refine below_allocS ?_ _ | refine below_callS ?_ (by assumption) | (refine Below.alloc ?_ (by first | omega | (simp; done) | (simp; omega)) _) | (refine Below.setCell ?_ (by first | omega | (simp; done) | (simp; omega)) _) | refine Below.drew ?_ | refine below_drewN ?_ _ | (refine below_call ?_ (by assumption) (by first | omega | (simp; done) | (simp; omega))) | (refine Below.trans ?_ (by assumption)))⟩
set_option maxHeartbeats 1000000 in
theorem impl_rideCode {b bud : Int} {a : Option Addr} {n c : Nat} {l : List Int} {w : World} (hI : Ints w a n c l) (hn : n ≤ 1048576) :
    Calls Tryz.prog 57 #[.agg #[.int .i64 b, .slice a n c], .int .i64 bud] w fun e w' => e = .returned (.int .i64 (rdC b l bud)) ∧ Below w.heap.size w w' := by
  have k1 := fun (wx : World) (hb : Below w.heap.size w wx) => impl_IsTraffic (b := b) (hI.keep hb) hn
  cases ht : trafB b l
  · rw [ht] at k1
    have K1 := Lib.hid k1
    have HT := Lib.hid ht
    clear k1 ht hI
    go_enter Tryz.func57, Tryz.ntmps57
    go_wp2_with fail
    refine Calls.mono (K1.out _ (by repeat (first | exact Below.refl _ _ | assumption | refine below_allocS ?_ _ | refine below_callS ?_ (by assumption) | (refine Below.alloc ?_ (by first | omega | (simp; done) | (simp; omega)) _) | (refine Below.setCell ?_ (by first | omega | (simp; done) | (simp; omega)) _) | refine Below.drew ?_ | refine below_drewN ?_ _ | (refine below_call ?_ (by assumption) (by first | omega | (simp; done) | (simp; omega))) | (refine Below.trans ?_ (by assumption))))) ?_
    rintro e w1 ⟨rfl, hb_w1⟩
    obtain ⟨hc_w1, hf_w1⟩ := bcell hb_w1
    have hs_w1 := hb_w1.size
    go_wp2
    go_ret
    exact ⟨ret_int (by rw [rdC, HT.out]; rfl), by repeat (first | exact Below.refl _ _ | assumption | refine below_allocS ?_ _ | refine below_callS ?_ (by assumption) | (refine Below.alloc ?_ (by first | omega | (simp; done) | (simp; omega)) _) | (refine Below.setCell ?_ (by first | omega | (simp; done) | (simp; omega)) _) | refine Below.drew ?_ | refine below_drewN ?_ _ | (refine below_call ?_ (by assumption) (by first | omega | (simp; done) | (simp; omega))) | (refine Below.trans ?_ (by assumption)))⟩
  · rw [ht] at k1
    have K1 := Lib.hid k1
    have HT := Lib.hid ht
    clear k1 ht hI
    cases hb : inB bud 0 2
    all_goals
      have HB := Lib.hid hb
      clear hb
      go_enter Tryz.func57, Tryz.ntmps57
      go_wp2_with fail
      refine Calls.mono (K1.out _ (by repeat (first | exact Below.refl _ _ | assumption | refine below_allocS ?_ _ | refine below_callS ?_ (by assumption) | (refine Below.alloc ?_ (by first | omega | (simp; done) | (simp; omega)) _) | (refine Below.setCell ?_ (by first | omega | (simp; done) | (simp; omega)) _) | refine Below.drew ?_ | refine below_drewN ?_ _ | (refine below_call ?_ (by assumption) (by first | omega | (simp; done) | (simp; omega))) | (refine Below.trans ?_ (by assumption))))) ?_
      rintro e w1 ⟨rfl, hb_w1⟩
      obtain ⟨hc_w1, hf_w1⟩ := bcell hb_w1
      have hs_w1 := hb_w1.size
      go_wp2_with fail
      refine Calls.mono (impl_within) ?_
      rintro e _ ⟨rfl, rfl⟩
      rw [HB.out]
      go_wp2
      go_ret
      exact ⟨ret_int (by rw [rdC, HT.out, HB.out]; rfl), by repeat (first | exact Below.refl _ _ | assumption | refine below_allocS ?_ _ | refine below_callS ?_ (by assumption) | (refine Below.alloc ?_ (by first | omega | (simp; done) | (simp; omega)) _) | (refine Below.setCell ?_ (by first | omega | (simp; done) | (simp; omega)) _) | refine Below.drew ?_ | refine below_drewN ?_ _ | (refine below_call ?_ (by assumption) (by first | omega | (simp; done) | (simp; omega))) | (refine Below.trans ?_ (by assumption)))⟩
def rdL (b : Int) (l : List Int) (bud : Int) (sec : Bool) : List I3 := kindsL l.length b.toNat bud.toNat sec
def rrC (b : Int) (l : List Int) (bud : Int) (sec : Bool) (r : Int) : Int := if rdC b l bud = 0 then (if inB r 0 ((rdL b l bud sec).length - 1) = true then 0 else 4) else rdC b l bud
def rrX (b : Int) (l : List Int) (bud : Int) (sec : Bool) (r : Int) : I3 := if rrC b l bud sec r = 0 then (rdL b l bud sec).getD r.toNat ⟨0, 0, 0⟩ else ⟨0, 0, 0⟩
theorem rdC_ok {b bud : Int} {l : List Int} (h : rdC b l bud = 0) : 2 ≤ b ∧ b ≤ 8 ∧ 1 ≤ l.length ∧ l.length ≤ 4 ∧ 0 ≤ bud ∧ bud ≤ 2 := by
  unfold rdC at h
  split at h
  · omega
  · rename_i ht
    split at h
    · omega
    · rename_i hb
      have h1 := trafB_split (by simpa using ht)
      have h2 : inB bud 0 2 = true := by simpa using hb
      simp [inB] at h2
      exact ⟨h1.1, h1.2.1, h1.2.2.1, h1.2.2.2.1, h2.1, h2.2⟩
theorem ret_i4 {a b c d a' b' c' d' : Int} (h1 : a = a') (h2 : b = b') (h3 : c = c') (h4 : d = d') : Ending.returned (.tuple #[.int .i64 a, .int .i64 b, .int .i64 c, .int .i64 d]) = .returned (.tuple #[.int .i64 a', .int .i64 b', .int .i64 c', .int .i64 d']) := by rw [h1, h2, h3, h4]
end Go.Proofs.YtfnamjkmkoldeaaGreatDoor
namespace Go.Proofs.YtfnamjkmkoldeaaGreatDoor
open Go.RowKit
set_option linter.unusedVariables false
set_option linter.unusedSimpArgs false
theorem RDs.get {w : World} {base : Nat} {L : List RR} {S : List RS} (h : RDs w base L S) {K : List I3} (hK : S.map (·.x) = K) {q : Nat} {r : RR} (hr : L[q]? = some r) : K[q]? = some r.x := by
  rw [← hK, ← h.xs, List.getElem?_map, hr]; rfl
theorem F6.get {ok : RR → Prop} {w : World} {a : Option Addr} {n c : Nat} {l : List RR} (h : Flats 6 RR.enc ok w a n c l) {i : Nat} (hi : i < n) :
    ∃ b off x, a = some ⟨b, off, none⟩ ∧ b < w.heap.size ∧ l[i]? = some x ∧ w.cell? ⟨b, off + i * 6, none⟩ = some (.string x.nm) ∧ w.cell? ⟨b, off + i * 6 + 1, none⟩ = some (.slice x.ga x.gn x.gc) ∧ w.cell? ⟨b, off + i * 6 + 2, none⟩ = some (.slice x.ea x.en x.ec) ∧ w.cell? ⟨b, off + i * 6 + 3, none⟩ = some (.int .i64 x.x.a) ∧ w.cell? ⟨b, off + i * 6 + 4, none⟩ = some (.int .i64 x.x.b) ∧ w.cell? ⟨b, off + i * 6 + 5, none⟩ = some (.int .i64 x.x.c) := by
  obtain ⟨b, off, x, h1, h2, h3, h4, h5⟩ := h.at hi
  exact ⟨b, off, x, h1, h2, h3, h5 0 _ rfl, h5 1 _ rfl, h5 2 _ rfl, h5 3 _ rfl, h5 4 _ rfl, h5 5 _ rfl⟩
set_option maxHeartbeats 1000000 in
theorem impl_RideRule {b bud r : Int} {a : Option Addr} {n c : Nat} {l : List Int} {sec : Bool} {w : World} (hT : Tab w 0 (strsCells ruleNm)) (hI : Ints w a n c l) (hn : n ≤ 1048576) :
    Calls Tryz.prog 33 #[.agg #[.int .i64 b, .slice a n c], .int .i64 bud, .bool sec, .int .i64 r] w fun e w' => e = .returned (.tuple #[.int .i64 (rrX b l bud sec r).a, .int .i64 (rrX b l bud sec r).b, .int .i64 (rrX b l bud sec r).c, .int .i64 (rrC b l bud sec r)]) ∧ Below w.heap.size w w' := by
  have HT := Lib.hid hT
  have k1 := fun (wx : World) (hb : Below w.heap.size w wx) => impl_rideCode (b := b) (bud := bud) (hI.keep hb) hn
  have hl := hI.len
  by_cases h0 : rdC b l bud = 0
  · obtain ⟨g1, g2, g3, g4, g5, g6⟩ := rdC_ok h0
    obtain ⟨B, rfl⟩ := Int.eq_ofNat_of_zero_le (show 0 ≤ b by omega)
    obtain ⟨D, rfl⟩ := Int.eq_ofNat_of_zero_le g5
    rw [h0] at k1
    have K1 := Lib.hid k1
    have k2 := fun (wx : World) (hb : Below w.heap.size w wx) => impl_rules (B := B) (bud := D) (n := n) (c := c) (a := a) (sec := sec) (w := wx) (HT.out.keep hb) (by omega) (by omega) (by omega) (by omega)
    have hX0 := rulesS_x n B D sec
    have hL : rdL (B : Int) l (D : Int) sec = kindsL n B D sec := by rw [rdL, hl]; rfl
    have hC : rrC (B : Int) l (D : Int) sec r = if inB r 0 ((kindsL n B D sec).length - 1) = true then 0 else 4 := by rw [rrC, if_pos h0, hL]
    have hX : rrX (B : Int) l (D : Int) sec r = if inB r 0 ((kindsL n B D sec).length - 1) = true then (kindsL n B D sec).getD r.toNat ⟨0, 0, 0⟩ else ⟨0, 0, 0⟩ := by
      rw [rrX, hC, hL]
      cases inB r 0 ((kindsL n B D sec).length - 1) <;> rfl
    generalize rrC (B : Int) l (D : Int) sec r = C at *
    generalize rrX (B : Int) l (D : Int) sec r = Y at *
    generalize kindsL n B D sec = KL at *
    generalize rulesS n B D sec = S at *
    have HX0 := Lib.hid hX0
    have K2 := Lib.hid k2
    have HC := Lib.hid hC
    have HX := Lib.hid hX
    clear k1 k2 hC hX hL h0 hI hl hX0 hT
    go_enter Tryz.func33, Tryz.ntmps33
    go_wp2_with fail
    refine Calls.mono (K1.out _ (by repeat (first | exact Below.refl _ _ | assumption | refine below_allocS ?_ _ | refine below_callS ?_ (by assumption) | (refine Below.alloc ?_ (by first | omega | (simp; done) | (simp; omega)) _) | (refine Below.setCell ?_ (by first | omega | (simp; done) | (simp; omega)) _) | refine Below.drew ?_ | refine below_drewN ?_ _ | (refine below_call ?_ (by assumption) (by first | omega | (simp; done) | (simp; omega))) | (refine Below.trans ?_ (by assumption))))) ?_
    rintro e w1 ⟨rfl, hb_w1⟩
    obtain ⟨hc_w1, hf_w1⟩ := bcell hb_w1
    have hs_w1 := hb_w1.size
    simp at hs_w1
    have hz1 : w.heap.size < w1.heap.size := by omega
    go_wp2_with fail
    refine Calls.mono (K2.out _ (by repeat (first | exact Below.refl _ _ | assumption | refine below_allocS ?_ _ | refine below_callS ?_ (by assumption) | (refine Below.alloc ?_ (by first | omega | (simp; done) | (simp; omega)) _) | (refine Below.setCell ?_ (by first | omega | (simp; done) | (simp; omega)) _) | refine Below.drew ?_ | refine below_drewN ?_ _ | (refine below_call ?_ (by assumption) (by first | omega | (simp; done) | (simp; omega))) | (refine Below.trans ?_ (by assumption))))) ?_
    rintro e w2 ⟨a2, m, c2, L, rfl, hR, hm, hb_w2⟩
    obtain ⟨hc_w2, hf_w2⟩ := bcell hb_w2
    have hs_w2 := hb_w2.size
    have hlen := hR.own.len
    have hlk : KL.length = m := by rw [← hlen, ← HX0.out, List.length_map, hR.rds.len]
    have O := Lib.hid hR.own.flats
    have R := Lib.hid hR.rds
    clear hR
    have hm1 : IntKind.i64.wrap ((m : Int) - 1) = (m : Int) - 1 := IntWalk.i64_in _ (by omega)
    rw [hlk] at HC HX
    have HC' := Lib.hid HC.out
    have HLK := Lib.hid hlk
    clear hlk
    cases hr : inB r 0 ((m : Int) - 1)
    · have HR := Lib.hid hr
      clear hr
      go_wp2_with fail
      refine Calls.mono (impl_length_rr) ?_
      rintro e _ ⟨rfl, rfl⟩
      go_wp2_with fail
      refine Calls.mono (impl_within) ?_
      rintro e _ ⟨rfl, rfl⟩
      rw [HR.out]
      go_wp2
      exact bodyPost_ret (v := .tuple #[.int .i64 0, .int .i64 0, .int .i64 0, .int .i64 4]) (by simp [results, Tryz.results33, go_sem]) rfl ⟨ret_i4 (by rw [HX.out, HR.out]; rfl) (by rw [HX.out, HR.out]; rfl) (by rw [HX.out, HR.out]; rfl) (by rw [HC.out, HR.out]; rfl), by repeat (first | exact Below.refl _ _ | assumption | refine below_allocS ?_ _ | refine below_callS ?_ (by assumption) | (refine Below.alloc ?_ (by first | omega | (simp; done) | (simp; omega)) _) | (refine Below.setCell ?_ (by first | omega | (simp; done) | (simp; omega)) _) | refine Below.drew ?_ | refine below_drewN ?_ _ | (refine below_call ?_ (by assumption) (by first | omega | (simp; done) | (simp; omega))) | (refine Below.trans ?_ (by assumption)))⟩
    · have HR := Lib.hid hr
      have hr2 := hr
      simp [inB] at hr2
      obtain ⟨q, rfl⟩ := Int.eq_ofNat_of_zero_le hr2.1
      clear hr
      obtain ⟨bb, off, x, rfl, hbb, hx, c0, c1, c2', c3, c4, c5⟩ := F6.get O.out (i := q) (by omega)
      have Hx := Lib.hid (R.out.get HX0.out hx)
      clear hx
      have hq0 : (0 : Int) ≤ (q : Int) := by omega
      have hq1 : (q : Int) < (m : Int) := by omega
      go_wp2_with fail
      refine Calls.mono (impl_length_rr) ?_
      rintro e _ ⟨rfl, rfl⟩
      go_wp2_with fail
      refine Calls.mono (impl_within) ?_
      rintro e _ ⟨rfl, rfl⟩
      rw [HR.out]
      go_wp2
      go_quiet (fail)
      go_wp2
      have hY : Y = x.x := by rw [HX.out, HR.out, if_pos rfl, Int.toNat_natCast, List.getD_eq_getElem?_getD, Hx.out]; rfl
      have hb2 : Below w.heap.size w w2 := by repeat (first | exact Below.refl _ _ | assumption | refine below_allocS ?_ _ | refine below_callS ?_ (by assumption) | (refine Below.alloc ?_ (by first | omega | (simp; done) | (simp; omega)) _) | (refine Below.setCell ?_ (by first | omega | (simp; done) | (simp; omega)) _) | refine Below.drew ?_ | refine below_drewN ?_ _ | (refine below_call ?_ (by assumption) (by first | omega | (simp; done) | (simp; omega))) | (refine Below.trans ?_ (by assumption)))
      exact bodyPost_ret (v := .tuple #[.int .i64 x.x.a, .int .i64 x.x.b, .int .i64 x.x.c, .int .i64 0]) (by simp [results, Tryz.results33, go_sem]) rfl ⟨ret_i4 (by rw [hY]) (by rw [hY]) (by rw [hY]) (by rw [HC.out, HR.out]; rfl), below_drewN hb2 _⟩
  · have hC : rrC b l bud sec r = rdC b l bud := by rw [rrC, if_neg h0]
    have hX : rrX b l bud sec r = ⟨0, 0, 0⟩ := by rw [rrX, hC, if_neg h0]
    rw [hC, hX]
    generalize rdC b l bud = C at *
    have K1 := Lib.hid k1
    have hC' : (C != 0) = true := by simpa using h0
    clear k1 hC hX h0 hI hl hT
    go_enter Tryz.func33, Tryz.ntmps33
    go_wp2_with fail
    refine Calls.mono (K1.out _ (by repeat (first | exact Below.refl _ _ | assumption | refine below_allocS ?_ _ | refine below_callS ?_ (by assumption) | (refine Below.alloc ?_ (by first | omega | (simp; done) | (simp; omega)) _) | (refine Below.setCell ?_ (by first | omega | (simp; done) | (simp; omega)) _) | refine Below.drew ?_ | refine below_drewN ?_ _ | (refine below_call ?_ (by assumption) (by first | omega | (simp; done) | (simp; omega))) | (refine Below.trans ?_ (by assumption))))) ?_
    rintro e w1 ⟨rfl, hb_w1⟩
    obtain ⟨hc_w1, hf_w1⟩ := bcell hb_w1
    have hs_w1 := hb_w1.size
    go_wp2
    exact bodyPost_ret (v := .tuple #[.int .i64 0, .int .i64 0, .int .i64 0, .int .i64 C]) (by simp [results, Tryz.results33, go_sem]) rfl ⟨rfl, by repeat (first | exact Below.refl _ _ | assumption | refine below_allocS ?_ _ | refine below_callS ?_ (by assumption) | (refine Below.alloc ?_ (by first | omega | (simp; done) | (simp; omega)) _) | (refine Below.setCell ?_ (by first | omega | (simp; done) | (simp; omega)) _) | refine Below.drew ?_ | refine below_drewN ?_ _ | (refine below_call ?_ (by assumption) (by first | omega | (simp; done) | (simp; omega))) | (refine Below.trans ?_ (by assumption)))⟩
end Go.Proofs.YtfnamjkmkoldeaaGreatDoor
