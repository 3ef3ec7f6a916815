/- RideModel of the program, walked.; The ride model of the reference, walked. -/
import Derived.Test.YtfnamjkmkoldeaaGreatDoorRm
import Derived.Test.YtfnamjkmkoldeaaGreatDoorRq
namespace Go.Proofs.YtfnamjkmkoldeaaGreatDoor
open Go.RowKit
set_option linter.unusedVariables false
set_option linter.unusedSimpArgs false
def rmSz (b : Int) (l : List Int) (bud : Int) : List Int := if rdC b l bud = 0 then rideSz l.length b.toNat bud.toNat else []
def rmSt (b : Int) (l : List Int) (bud : Int) : List Int := if rdC b l bud = 0 then rideSt l b.toNat bud.toNat else []
def rmRs (b : Int) (l : List Int) (bud : Int) (sec : Bool) : List RuD := if rdC b l bud = 0 then rideRs l.length b.toNat bud.toNat sec else []
theorem RBd.mono {lo lo' hi hi' : Nat} {a : Option Addr} {l : List (RM × RuD)} (h : RBd lo hi a l) (h1 : lo' ≤ lo) (h2 : hi ≤ hi') : RBd lo' hi' a l :=
  ⟨fun g e => by have := h.1 g e; omega, fun x hx => ⟨fun g e => by have := (h.2 x hx).1 g e; omega, fun g e => by have := (h.2 x hx).2 g e; omega⟩⟩
theorem MOwn.mono {w : World} {lo lo' hi hi' : Nat} {sa : Option Addr} {sn sc : Nat} {ta : Option Addr} {tn tc : Nat} {ra : Option Addr} {rn rc : Nat} {sz st : List Int} {rs : List RuD} (h : MOwn w lo hi sa sn sc ta tn tc ra rn rc sz st rs) (h1 : lo' ≤ lo) (h2 : hi ≤ hi') : MOwn w lo' hi' sa sn sc ta tn tc ra rn rc sz st rs := by
  obtain ⟨l, q1, q2, q3⟩ := h.r
  exact ⟨h.s.le h1, h.t.le h1, ⟨l, q1.le h1, q2.mono h1 h2, q3⟩, h.ap, fun g e => by have := h.bs g e; omega, fun g e => by have := h.bt g e; omega, h.sn, h.tn, h.rn⟩
theorem MOwn.nil (w : World) (lo hi : Nat) : MOwn w lo hi none 0 0 none 0 0 none 0 0 [] [] [] :=
  ⟨OwnI.nil _ _ _, OwnI.nil _ _ _, ⟨[], ⟨OwnF.nil encR_len _ _ _, (fun x hx => by cases hx), fun i j x y hx => by simp at hx⟩, ⟨(fun g e => by cases e), fun x hx => by cases hx⟩, rfl⟩, (fun g e => by cases e), (fun g e => by cases e), (fun g e => by cases e), by decide, by decide, by decide⟩
set_option maxHeartbeats 2000000 in
theorem impl_RideModel {b bud : Int} {a : Option Addr} {n c : Nat} {l : List Int} {sec : Bool} {w : World} (hT : Tab w 0 (strsCells ruleNm)) (hI : Ints w a n c l) (hn : n ≤ 1048576) :
    Calls Tryz.prog 23 #[.agg #[.int .i64 b, .slice a n c], .int .i64 bud, .bool sec] w fun e w' => ∃ a1 n1 c1 a2 n2 c2 a3 n3 c3, e = .returned (.tuple #[.agg #[.slice a1 n1 c1, .slice a2 n2 c2, .slice a3 n3 c3], .int .i64 (rdC b l bud)]) ∧ MOwn w' w.heap.size w'.heap.size a1 n1 c1 a2 n2 c2 a3 n3 c3 (rmSz b l bud) (rmSt b l bud) (rmRs b l bud sec) ∧ Below w.heap.size w w' := by
  have HT := Lib.hid hT
  have k1 := fun (wx : World) (hb : Below w.heap.size w wx) => impl_rideCode (b := b) (bud := bud) (hI.keep hb) hn
  have hl := hI.len
  by_cases h0 : rdC b l bud = 0
  · obtain ⟨g1, g2, g3, g4, g5, g6⟩ := rdC_ok h0
    have HZ : Hid (rmSz b l bud = rideSz l.length b.toNat bud.toNat ∧ rmSt b l bud = rideSt l b.toNat bud.toNat ∧ rmRs b l bud sec = rideRs l.length b.toNat bud.toNat sec) := Lib.hid ⟨if_pos h0, if_pos h0, if_pos h0⟩
    obtain ⟨B, rfl⟩ := Int.eq_ofNat_of_zero_le (show 0 ≤ b by omega)
    obtain ⟨D, rfl⟩ := Int.eq_ofNat_of_zero_le g5
    rw [h0] at k1
    have k2 := fun (wx : World) (hb : Below w.heap.size w wx) => impl_model (B := B) (bud := D) (n := n) (c := c) (a := a) (l := l) (sec := sec) (w := wx) (HT.out.keep hb) (hI.keep hb) (by omega) (by omega) (by omega) (by omega)
    rw [Int.toNat_natCast, Int.toNat_natCast, hl] at HZ
    generalize rmSz (B : Int) l (D : Int) = Z1 at *
    generalize rmSt (B : Int) l (D : Int) = Z2 at *
    generalize rmRs (B : Int) l (D : Int) sec = Z3 at *
    generalize rideSz n B D = Y1 at *
    generalize rideSt l B D = Y2 at *
    generalize rideRs n B D sec = Y3 at *
    obtain ⟨rfl, rfl, rfl⟩ := HZ.out
    have H0 := Lib.hid h0
    have K1 := Lib.hid k1
    have K2 := Lib.hid k2
    clear k1 k2 h0 hI hl hT HZ g6
    go_enter Tryz.func23, Tryz.ntmps23
    go_wp2_with fail
    refine Calls.mono (K1.out _ (by repeat (first | exact Below.refl _ _ | assumption | refine below_allocS ?_ _ | refine below_callS ?_ (by assumption) | (refine Below.alloc ?_ (by first | omega | (simp; done) | (simp; omega)) _) | (refine Below.setCell ?_ (by first | omega | (simp; done) | (simp; omega)) _) | refine Below.drew ?_ | refine below_drewN ?_ _ | (refine below_call ?_ (by assumption) (by first | omega | (simp; done) | (simp; omega))) | (refine Below.trans ?_ (by assumption))))) ?_
    rintro e w1 ⟨rfl, hb_w1⟩
    obtain ⟨hc_w1, hf_w1⟩ := bcell hb_w1
    have hs_w1 := hb_w1.size
    simp at hs_w1
    have hz1 : w.heap.size < w1.heap.size := by omega
    have hz2 : w.heap.size + 1 < w1.heap.size := by omega
    go_wp2_with fail
    refine Calls.mono (K2.out _ (by repeat (first | exact Below.refl _ _ | assumption | refine below_allocS ?_ _ | refine below_callS ?_ (by assumption) | (refine Below.alloc ?_ (by first | omega | (simp; done) | (simp; omega)) _) | (refine Below.setCell ?_ (by first | omega | (simp; done) | (simp; omega)) _) | refine Below.drew ?_ | refine below_drewN ?_ _ | (refine below_call ?_ (by assumption) (by first | omega | (simp; done) | (simp; omega))) | (refine Below.trans ?_ (by assumption))))) ?_
    rintro e w2 ⟨a1, n1, c1, a2, n2, c2, a3, n3, c3, rfl, hM, hb_w2⟩
    obtain ⟨hc_w2, hf_w2⟩ := bcell hb_w2
    have hs_w2 := hb_w2.size
    have HM := Lib.hid hM
    clear hM
    have hy2 : w.heap.size + 1 < w2.heap.size := by omega
    have HF : Hid (MOwn (((w2.setCell ⟨w.heap.size + 1, 0, none⟩ (.slice a1 n1 c1)).setCell ⟨w.heap.size + 1, 1, none⟩ (.slice a2 n2 c2)).setCell ⟨w.heap.size + 1, 2, none⟩ (.slice a3 n3 c3)) w.heap.size ((((w2.setCell ⟨w.heap.size + 1, 0, none⟩ (.slice a1 n1 c1)).setCell ⟨w.heap.size + 1, 1, none⟩ (.slice a2 n2 c2)).setCell ⟨w.heap.size + 1, 2, none⟩ (.slice a3 n3 c3))).heap.size a1 n1 c1 a2 n2 c2 a3 n3 c3 Z1 Z2 Z3) := by
      have h1 := (HM.out.own (Nat.le_refl _)).apart (lo' := w.heap.size + 1) (hi' := w.heap.size + 2) (w' := (((w2.setCell ⟨w.heap.size + 1, 0, none⟩ (.slice a1 n1 c1)).setCell ⟨w.heap.size + 1, 1, none⟩ (.slice a2 n2 c2)).setCell ⟨w.heap.size + 1, 2, none⟩ (.slice a3 n3 c3))) (by repeat (first | with_reducible exact Only.refl _ _ _ | with_reducible assumption | with_reducible refine Only.set ?_ (by first | omega | (simp; omega)) _ _ | with_reducible refine Only.setN ?_ (by first | omega | (simp; omega)) _ _ | with_reducible refine Only.alloc ?_ _ | with_reducible refine Only.drew ?_ | with_reducible refine Only.drewN ?_ _ | with_reducible refine Only.then ?_ (by assumption) | with_reducible refine Only.trans ?_ (by assumption))) (by omega)
      exact Lib.hid (h1.fact.mono (by omega) h1.upto)
    go_wp2
    exact bodyPost_ret (v := .tuple #[.agg #[.slice a1 n1 c1, .slice a2 n2 c2, .slice a3 n3 c3], .int .i64 0]) (by simp [results, Tryz.results23, go_sem, *]) rfl ⟨_, _, _, _, _, _, _, _, _, by rw [H0.out], HF.out, by repeat (first | exact Below.refl _ _ | assumption | refine below_allocS ?_ _ | refine below_callS ?_ (by assumption) | (refine Below.alloc ?_ (by first | omega | (simp; done) | (simp; omega)) _) | (refine Below.setCell ?_ (by first | omega | (simp; done) | (simp; omega)) _) | refine Below.drew ?_ | refine below_drewN ?_ _ | (refine below_call ?_ (by assumption) (by first | omega | (simp; done) | (simp; omega))) | (refine Below.trans ?_ (by assumption)))⟩
  · have HZ : Hid (rmSz b l bud = [] ∧ rmSt b l bud = [] ∧ rmRs b l bud sec = []) := Lib.hid ⟨if_neg h0, if_neg h0, if_neg h0⟩
    generalize rmSz b l bud = Z1 at *
    generalize rmSt b l bud = Z2 at *
    generalize rmRs b l bud sec = Z3 at *
    obtain ⟨rfl, rfl, rfl⟩ := HZ.out
    generalize rdC b l bud = C at *
    have K1 := Lib.hid k1
    have hC' : (C != 0) = true := by simpa using h0
    clear k1 h0 hI hl hT HZ
    go_enter Tryz.func23, Tryz.ntmps23
    go_wp2_with fail
    refine Calls.mono (K1.out _ (by repeat (first | exact Below.refl _ _ | assumption | refine below_allocS ?_ _ | refine below_callS ?_ (by assumption) | (refine Below.alloc ?_ (by first | omega | (simp; done) | (simp; omega)) _) | (refine Below.setCell ?_ (by first | omega | (simp; done) | (simp; omega)) _) | refine Below.drew ?_ | refine below_drewN ?_ _ | (refine below_call ?_ (by assumption) (by first | omega | (simp; done) | (simp; omega))) | (refine Below.trans ?_ (by assumption))))) ?_
    rintro e w1 ⟨rfl, hb_w1⟩
    obtain ⟨hc_w1, hf_w1⟩ := bcell hb_w1
    have hs_w1 := hb_w1.size
    simp at hs_w1
    have hz1 : w.heap.size < w1.heap.size := by omega
    have hz2 : w.heap.size + 1 < w1.heap.size := by omega
    go_wp2
    exact bodyPost_ret (v := .tuple #[.agg #[.slice none 0 0, .slice none 0 0, .slice none 0 0], .int .i64 C]) (by simp [results, Tryz.results23, go_sem, *]) rfl ⟨_, _, _, _, _, _, _, _, _, rfl, MOwn.nil _ _ _, by repeat (first | exact Below.refl _ _ | assumption | refine below_allocS ?_ _ | refine below_callS ?_ (by assumption) | (refine Below.alloc ?_ (by first | omega | (simp; done) | (simp; omega)) _) | (refine Below.setCell ?_ (by first | omega | (simp; done) | (simp; omega)) _) | refine Below.drew ?_ | refine below_drewN ?_ _ | (refine below_call ?_ (by assumption) (by first | omega | (simp; done) | (simp; omega))) | (refine Below.trans ?_ (by assumption)))⟩
end Go.Proofs.YtfnamjkmkoldeaaGreatDoor
namespace Go.Proofs.YtfnamjkmkoldeaaGreatDoor
open Go.RowKit
set_option linter.unusedVariables false
set_option linter.unusedSimpArgs false
set_option maxHeartbeats 1000000 in
theorem spec_l01Own1 {a : Option Addr} {n c : Nat} {l : List Int} {w : World} (hI : Ints w a n c l) (hn : n ≤ 1048576) :
    Calls Tryz.prog 56 #[.slice a n c] w fun e w' => ∃ a c, e = .returned (.slice a n c) ∧ Below w.heap.size w w' ∧ OwnI 2 w' w.heap.size a n c l := by
  have HI := Lib.hid hI
  clear hI
  go_enter Tryz.func56, Tryz.ntmps56
  go_wp2_with (at_builtin; refine appendL_i64 rfl _ _ 22 2 rfl Tryz.underlying22 Tryz.infoi64 w.heap.size _ _ _ _ (OwnI.empty w (Nat.le_refl _)) rfl _ _ _ _ rfl (HI.out.keep ((Below.refl _ _).alloc (Nat.le_refl _) _)) (by omega) (by omega) (by simp) ?_; intro a1 c1 w1 hown1 hb1 hg1 hnil1)
  have Hown := Lib.hid hown1
  clear hown1
  go_ret
  exact ⟨a1, c1, by simp, by repeat (first | exact Below.refl _ _ | assumption | refine below_allocS ?_ _ | refine below_callS ?_ (by assumption) | (refine Below.alloc ?_ (by first | omega | (simp; done) | (simp; omega)) _) | (refine Below.setCell ?_ (by first | omega | (simp; done) | (simp; omega)) _) | refine Below.drew ?_ | refine below_drewN ?_ _ | (refine below_call ?_ (by assumption) (by first | omega | (simp; done) | (simp; omega))) | (refine Below.trans ?_ (by assumption))), by simpa using Hown.out⟩
/-- own rules, not said to be apart -/
def RSo (w : World) (lo : Nat) (a : Option Addr) (n c : Nat) (rs : List RuD) : Prop := ∃ l : List (RM × RuD), OwnF 3 encR (fun _ => True) 98 w lo a n c l ∧ (∀ x ∈ l, RO w lo x) ∧ l.map (·.2) = rs
theorem RSo.keep {w w' : World} {lo : Nat} {a : Option Addr} {n c : Nat} {rs : List RuD} (h : RSo w lo a n c rs) (hb : Below w.heap.size w w') : RSo w' lo a n c rs := by
  obtain ⟨l, h1, h2, h3⟩ := h
  exact ⟨l, h1.keep hb, fun x hx => (h2 x hx).keep hb, h3⟩
theorem RO.keepT {w w' : World} {lo m : Nat} {x : RM × RuD} {a : Option Addr} {E : TypeId} (h : RO w lo x) (ht : Touch w w' m a) (ty : ∀ {g : Nat}, a = some ⟨g, 0, none⟩ → ∃ cur, w.heap[g]? = some (.cells cur E (0, 0))) (h1 : 142 ≠ E) (h2 : 123 ≠ E) : RO w' lo x :=
  ⟨h.nm, h.nms, h.g.keepT ht (typ_apart h.g.typ ty h1), h.gn, h.e.keepT ht (typ_apart h.e.typ ty h2), h.en⟩
theorem RSo.only {w w' : World} {lo p : Nat} {a : Option Addr} {n c : Nat} {rs : List RuD} (h : RSo w lo a n c rs) (ho : Only p (p + 1) w w') (hp : p < lo) : RSo w' lo a n c rs := by
  obtain ⟨l, h1, h2, h3⟩ := h
  exact ⟨l, h1.only ho (fun g e => by have := (h1.blk g e).1; omega), fun x hx => by
    have h := h2 x hx
    exact ⟨h.nm, h.nms, h.g.only ho (fun g e => by have := (h.g.blk g e).1; omega), h.gn, h.e.only ho (fun g e => by have := (h.e.blk g e).1; omega), h.en⟩, h3⟩
/-- a model whose parts lie from lo on -/
structure SOw (w : World) (lo : Nat) (sa : Option Addr) (sn sc : Nat) (ta : Option Addr) (tn tc : Nat) (ra : Option Addr) (rn rc : Nat) (sz st : List Int) (rs : List RuD) : Prop where
  s : OwnI 2 w lo sa sn sc sz
  t : OwnI 2 w lo ta tn tc st
  r : RSo w lo ra rn rc rs
  sn : sn ≤ 1048576
  tn : tn ≤ 1048576
  rn : rn ≤ 1048576
theorem SOw.only {w w' : World} {lo p : Nat} {sa : Option Addr} {sn sc : Nat} {ta : Option Addr} {tn tc : Nat} {ra : Option Addr} {rn rc : Nat} {sz st : List Int} {rs : List RuD} (h : SOw w lo sa sn sc ta tn tc ra rn rc sz st rs) (ho : Only p (p + 1) w w') (hp : p < lo) : SOw w' lo sa sn sc ta tn tc ra rn rc sz st rs :=
  ⟨h.s.only ho (fun g e => by have := (h.s.blk g e).1; omega), h.t.only ho (fun g e => by have := (h.t.blk g e).1; omega), h.r.only ho hp, h.sn, h.tn, h.rn⟩
theorem SOw.rd {w : World} {lo : Nat} {sa : Option Addr} {sn sc : Nat} {ta : Option Addr} {tn tc : Nat} {ra : Option Addr} {rn rc : Nat} {sz st : List Int} {rs : List RuD} (h : SOw w lo sa sn sc ta tn tc ra rn rc sz st rs) : MRd w sa sn sc ta tn tc ra rn rc sz st rs := by
  obtain ⟨l, h1, h2, h3⟩ := h.r
  have zf := h1.flats
  exact ⟨h.s.ints, h.t.ints, ⟨l, ⟨zf.len, zf.cap, zf.pos, fun x hx => (h2 x hx).rum, zf.nil⟩, h3⟩, h.sn, h.tn, h.rn⟩
theorem SOw.le {w : World} {lo lo' : Nat} {sa : Option Addr} {sn sc : Nat} {ta : Option Addr} {tn tc : Nat} {ra : Option Addr} {rn rc : Nat} {sz st : List Int} {rs : List RuD} (h : SOw w lo sa sn sc ta tn tc ra rn rc sz st rs) (hl : lo' ≤ lo) : SOw w lo' sa sn sc ta tn tc ra rn rc sz st rs := by
  obtain ⟨l, h1, h2, h3⟩ := h.r
  exact ⟨h.s.le hl, h.t.le hl, ⟨l, h1.le hl, fun x hx => (h2 x hx).le hl, h3⟩, h.sn, h.tn, h.rn⟩
theorem SOw.nil (w : World) (lo : Nat) : SOw w lo none 0 0 none 0 0 none 0 0 [] [] [] :=
  ⟨OwnI.nil _ _ _, OwnI.nil _ _ _, ⟨[], OwnF.nil encR_len _ _ _, (fun x hx => by cases hx), rfl⟩, by decide, by decide, by decide⟩
/-- .. and below hi -/
structure SOb (w : World) (lo hi : Nat) (sa : Option Addr) (sn sc : Nat) (ta : Option Addr) (tn tc : Nat) (ra : Option Addr) (rn rc : Nat) (sz st : List Int) (rs : List RuD) : Prop where
  s : OwnI 2 w lo sa sn sc sz
  t : OwnI 2 w lo ta tn tc st
  r : ∃ l : List (RM × RuD), OwnF 3 encR (fun _ => True) 98 w lo ra rn rc l ∧ (∀ x ∈ l, RO w lo x) ∧ l.map (·.2) = rs ∧ RBd lo hi ra l
  bs : inI lo hi sa
  bt : inI lo hi ta
  sn : sn ≤ 1048576
  tn : tn ≤ 1048576
  rn : rn ≤ 1048576
theorem SOb.rd {w : World} {lo hi : Nat} {sa : Option Addr} {sn sc : Nat} {ta : Option Addr} {tn tc : Nat} {ra : Option Addr} {rn rc : Nat} {sz st : List Int} {rs : List RuD} (h : SOb w lo hi sa sn sc ta tn tc ra rn rc sz st rs) : MRd w sa sn sc ta tn tc ra rn rc sz st rs := by
  obtain ⟨l, h1, h2, h3, _⟩ := h.r
  exact SOw.rd ⟨h.s, h.t, ⟨l, h1, h2, h3⟩, h.sn, h.tn, h.rn⟩
theorem SOw.own {w : World} {lo : Nat} {sa : Option Addr} {sn sc : Nat} {ta : Option Addr} {tn tc : Nat} {ra : Option Addr} {rn rc : Nat} {sz st : List Int} {rs : List RuD} (h : SOw w lo sa sn sc ta tn tc ra rn rc sz st rs) (_ : w.heap.size ≤ w.heap.size) : Own (fun W => SOb W lo w.heap.size sa sn sc ta tn tc ra rn rc sz st rs) lo w.heap.size w := by
  obtain ⟨l, z1, z2, z3⟩ := h.r
  refine ⟨⟨h.s, h.t, ⟨l, z1, z2, z3, z1.blk, fun x hx => ⟨(z2 x hx).g.blk, (z2 x hx).e.blk⟩⟩, h.s.blk, h.t.blk, h.sn, h.tn, h.rn⟩, Nat.le_refl _, fun w1 w2 hk h1 => ?_⟩
  obtain ⟨l', y1, y2, y3, y4⟩ := h1.r
  refine ⟨OwnI.here h1.bs w1 w2 hk h1.s, OwnI.here h1.bt w1 w2 hk h1.t, ⟨l', OwnF.here y4.1 w1 w2 hk y1, fun x hx => ?_, y3, y4⟩, h1.bs, h1.bt, h1.sn, h1.tn, h1.rn⟩
  have hh := y2 x hx
  exact ⟨hh.nm, hh.nms, OwnF.here (y4.2 x hx).1 w1 w2 hk hh.g, hh.gn, OwnF.here (y4.2 x hx).2 w1 w2 hk hh.e, hh.en⟩
def SmRet (w : World) (sz st : List Int) (rs : List RuD) (e : Ending) (w' : World) : Prop := ∃ a1 n1 c1 a2 n2 c2 a3 n3 c3, e = .returned (.agg #[.slice a1 n1 c1, .slice a2 n2 c2, .slice a3 n3 c3]) ∧ SOw w' (w.heap.size + 2) a1 n1 c1 a2 n2 c2 a3 n3 c3 sz st rs ∧ Below w.heap.size w w'
set_option maxRecDepth 100000 in
set_option maxHeartbeats 4000000 in
theorem spec_l24Model {B bud n c : Nat} {a : Option Addr} {l : List Int} {sec : Bool} {w : World} (hI : Ints w a n c l) (hB : 2 ≤ B) (hB8 : B ≤ 8) (hn : n ≤ 4) (hbud : bud ≤ 2) :
    Calls Tryz.prog 70 #[.agg #[.int .i64 (B : Int), .slice a n c], .int .i64 (bud : Int), .bool sec] w (SmRet w (rideSz n B bud) (rideSt l B bud) (rideRs n B bud sec)) := by
  have HI := Lib.hid hI
  clear hI
  have X := Lib.hid ((Blk.made w #[.int .i64 (B : Int), .slice a n c] 28).keep (show Below _ (w.alloc (.cells #[.int .i64 (B : Int), .slice a n c] 28)) ((w.alloc (.cells #[.int .i64 (B : Int), .slice a n c] 28)).alloc (.cells #[.slice none 0 0, .slice none 0 0, .slice none 0 0] 44)) by repeat (first | exact Below.refl _ _ | assumption | refine below_allocS ?_ _ | refine below_callS ?_ (by assumption) | (refine Below.alloc ?_ (by first | omega | (simp; done) | (simp; omega)) _) | (refine Below.setCell ?_ (by first | omega | (simp; done) | (simp; omega)) _) | refine Below.drew ?_ | refine below_drewN ?_ _ | (refine below_call ?_ (by assumption) (by first | omega | (simp; done) | (simp; omega))) | (refine Below.trans ?_ (by assumption)))))
  have R := Lib.hid (show Blk ((w.alloc (.cells #[.int .i64 (B : Int), .slice a n c] 28)).alloc (.cells #[.slice none 0 0, .slice none 0 0, .slice none 0 0] 44)) (w.heap.size + 1) #[.slice none 0 0, .slice none 0 0, .slice none 0 0] 44 by have h := (Blk.made (w.alloc (.cells #[.int .i64 (B : Int), .slice a n c] 28)) #[.slice none 0 0, .slice none 0 0, .slice none 0 0] 44); simpa using h)
  have hB0 : Below w.heap.size w ((w.alloc (.cells #[.int .i64 (B : Int), .slice a n c] 28)).alloc (.cells #[.slice none 0 0, .slice none 0 0, .slice none 0 0] 44)) := by repeat (first | exact Below.refl _ _ | assumption | refine below_allocS ?_ _ | refine below_callS ?_ (by assumption) | (refine Below.alloc ?_ (by first | omega | (simp; done) | (simp; omega)) _) | (refine Below.setCell ?_ (by first | omega | (simp; done) | (simp; omega)) _) | refine Below.drew ?_ | refine below_drewN ?_ _ | (refine below_call ?_ (by assumption) (by first | omega | (simp; done) | (simp; omega))) | (refine Below.trans ?_ (by assumption)))
  go_enter Tryz.func70, Tryz.ntmps70
  go_wp2_with fail
  obtain ⟨wA, hwA⟩ : ∃ wA : World, wA = (((w.alloc (.cells #[.int .i64 (B : Int), .slice a n c] 28)).alloc (.cells #[.slice none 0 0, .slice none 0 0, .slice none 0 0] 44)).alloc (.cells #[] 2)) := ⟨_, rfl⟩
  have hBA : Below w.heap.size w wA := by rw [hwA]; repeat (first | exact Below.refl _ _ | assumption | refine below_allocS ?_ _ | refine below_callS ?_ (by assumption) | (refine Below.alloc ?_ (by first | omega | (simp; done) | (simp; omega)) _) | (refine Below.setCell ?_ (by first | omega | (simp; done) | (simp; omega)) _) | refine Below.drew ?_ | refine below_drewN ?_ _ | (refine below_call ?_ (by assumption) (by first | omega | (simp; done) | (simp; omega))) | (refine Below.trans ?_ (by assumption)))
  have hsA : w.heap.size + 3 ≤ wA.heap.size := by rw [hwA]; simp
  replace X := Lib.hid (show Blk wA w.heap.size #[.int .i64 (B : Int), .slice a n c] 28 by rw [hwA]; exact X.out.keep (by repeat (first | exact Below.refl _ _ | assumption | refine below_allocS ?_ _ | refine below_callS ?_ (by assumption) | (refine Below.alloc ?_ (by first | omega | (simp; done) | (simp; omega)) _) | (refine Below.setCell ?_ (by first | omega | (simp; done) | (simp; omega)) _) | refine Below.drew ?_ | refine below_drewN ?_ _ | (refine below_call ?_ (by assumption) (by first | omega | (simp; done) | (simp; omega))) | (refine Below.trans ?_ (by assumption)))))
  replace R := Lib.hid (show Blk wA (w.heap.size + 1) #[.slice none 0 0, .slice none 0 0, .slice none 0 0] 44 by rw [hwA]; exact R.out.keep (by repeat (first | exact Below.refl _ _ | assumption | refine below_allocS ?_ _ | refine below_callS ?_ (by assumption) | (refine Below.alloc ?_ (by first | omega | (simp; done) | (simp; omega)) _) | (refine Below.setCell ?_ (by first | omega | (simp; done) | (simp; omega)) _) | refine Below.drew ?_ | refine below_drewN ?_ _ | (refine below_call ?_ (by assumption) (by first | omega | (simp; done) | (simp; omega))) | (refine Below.trans ?_ (by assumption)))))
  have S := Lib.hid (show OwnI 2 wA (w.heap.size + 2) (some ⟨w.heap.size + 1 + 1, 0, none⟩) 0 0 [] by
    have h := OwnI.empty (E := 2) ((w.alloc (.cells #[.int .i64 (B : Int), .slice a n c] 28)).alloc (.cells #[.slice none 0 0, .slice none 0 0, .slice none 0 0] 44)) (base := w.heap.size + 2) (by simp)
    rw [hwA]; simpa using h)
  rw [← hwA]
  clear hwA hB0
  refine Calls.mono (spec_l01Own1 (HI.out.keep hBA) (by omega)) ?_
  rintro e w1 ⟨a2, c2, rfl, hb1, ho2⟩
  have hs1 := hb1.size
  replace X := Lib.hid (X.out.keep hb1)
  replace R := Lib.hid (R.out.keep hb1)
  have hAp0 : Apart (some ⟨w.heap.size + 1 + 1, 0, none⟩) a2 := fun g e e' => by cases e; have := (ho2.blk _ e').1; omega
  replace S := Lib.hid (S.out.keep hb1)
  have T := Lib.hid (ho2.le (show w.heap.size + 2 ≤ _ by omega))
  have hB1 : Below w.heap.size w w1 := below_callS hBA hb1
  have HAp := Lib.hid hAp0
  clear ho2 hb1 hBA hAp0
  go_wp2_with fail
  go_loopw [7, 9] (fun s7 s9 wr => ∃ (i : Nat) (a1 : Option Addr) (c1 : Nat), s7 = .slice a1 i c1 ∧ s9 = .int .i64 i ∧ i ≤ n ∧ w.heap.size + 2 ≤ wr.heap.size ∧ Below w.heap.size w wr ∧ Hid (OwnI 2 wr (w.heap.size + 2) a1 i c1 (List.replicate i (3 * (B : Int)))) ∧ Hid (OwnI 2 wr (w.heap.size + 2) a2 n c2 l) ∧ Hid (Apart a1 a2) ∧ Hid (Blk wr w.heap.size #[.int .i64 (B : Int), .slice a n c] 28) ∧ Hid (Blk wr (w.heap.size + 1) #[.slice none 0 0, .slice none 0 0, .slice none 0 0] 44)) (fun _ s9 _ => n - (intOf s9).toNat)
  case atStart => exact ⟨0, _, 0, rfl, rfl, by omega, by omega, hB1, S, T, HAp, X, R⟩
  case round =>
    clear X R T S hB1 HAp
    obtain ⟨i, a1, c1, rfl, rfl, hi, hsr, hbl, S, T, HAp, X, R⟩ := hrel
    have x0 := X.out.cell 0
    have x1 := X.out.cell 1
    have xl := X.out.lt
    simp at x0 x1
    by_cases hlt : i < n
    · have hlt' : (i : Int) < (n : Int) := by omega
      go_wp2_with (at_builtin; refine appI1 rfl _ _ rfl Tryz.underlying22 Tryz.infoi64 (w.heap.size + 2) _ _ _ _ S.out rfl _ rfl rfl (by first | assumption | decide | (unfold I64; omega)) (by omega) (by omega) ?_; intro g' c3 wn ho hb ht hat hsn; have X' := Lib.hid (X.out.keepA ht (blk_ne X.out S.out.typ (by decide))); have R' := Lib.hid (R.out.keepA ht (blk_ne R.out S.out.typ (by decide))); have T' := Lib.hid (T.out.keepT ht (fun g e e' => HAp.out g e' e)); have HAp' := Lib.hid (show Apart (some ⟨g', 0, none⟩) a2 from fun g e e' => by cases e; rcases hat with h0 | h0; exact HAp.out _ h0 e'; have h2 := (T.out.blk _ e').2; omega); have S' := Lib.hid ho; have hbl' : Below w.heap.size w wn := ht.below hbl (by omega) (fun b e => by have := (S.out.blk b e).1; omega); clear ho hb ht hat x0 x1 xl)
      go_roundw
      case rel => exact ⟨i + 1, _, c3, rfl, by go_num, by omega, by omega, hbl', Lib.hid (by rw [← rep_snoc]; exact S'.out), T', HAp', X', R'⟩
      case measure => simp [intOf]; omega
    · obtain rfl : n = i := by omega
      have hlt' : ¬ (n : Int) < (n : Int) := by omega
      go_wp2_with fail
      clear x0 x1 xl
      obtain ⟨wo, rfl⟩ : ∃ wo : World, wo = wr := ⟨_, rfl⟩
      go_loopw [7, 8, 10] (fun s7 s8 s10 wr => ∃ (i : Nat) (a1 : Option Addr) (c1 : Nat) (a2 : Option Addr) (c2 : Nat), s7 = .slice a1 (n + i) c1 ∧ s8 = .slice a2 (n + i) c2 ∧ s10 = .int .i64 i ∧ i ≤ B ∧ w.heap.size + 2 ≤ wr.heap.size ∧ Below w.heap.size w wr ∧ Hid (OwnI 2 wr (w.heap.size + 2) a1 (n + i) c1 (List.replicate n (3 * (B : Int)) ++ List.replicate i 4)) ∧ Hid (OwnI 2 wr (w.heap.size + 2) a2 (n + i) c2 (l ++ List.replicate i 0)) ∧ Hid (Apart a1 a2) ∧ Hid (Blk wr w.heap.size #[.int .i64 (B : Int), .slice a n c] 28) ∧ Hid (Blk wr (w.heap.size + 1) #[.slice none 0 0, .slice none 0 0, .slice none 0 0] 44)) (fun _ _ s10 _ => B - (intOf s10).toNat)
      case atStart => exact ⟨0, a1, c1, a2, c2, rfl, rfl, rfl, by omega, hsr, hbl, Lib.hid (by simpa using S.out), Lib.hid (by simpa using T.out), HAp, X, R⟩
      case round =>
        clear X R T S HAp hbl hsr
        obtain ⟨i, a1, c1, a2, c2, rfl, rfl, rfl, hi, hsr, hbl, S, T, HAp, X, R⟩ := hrel
        have hsz := hbl.size
        have x0 := X.out.cell 0
        have xl := X.out.lt
        simp at x0
        by_cases hlt : i < B
        · have hlt' : (i : Int) < (B : Int) := by omega
          go_wp2_with (at_builtin; refine appI1 rfl _ _ rfl Tryz.underlying22 Tryz.infoi64 (w.heap.size + 2) _ _ _ _ S.out rfl _ rfl rfl (by first | assumption | decide | (unfold I64; omega)) (by omega) (by omega) ?_; intro g' c3 wn ho hb ht hat hsn; have X2 := Lib.hid (X.out.keepA ht (blk_ne X.out S.out.typ (by decide))); have R2 := Lib.hid (R.out.keepA ht (blk_ne R.out S.out.typ (by decide))); have T2 := Lib.hid (T.out.keepT ht (fun g e e' => HAp.out g e' e)); have HA2 := Lib.hid (show Apart (some ⟨g', 0, none⟩) a2 from fun g e e' => by cases e; rcases hat with h0 | h0; exact HAp.out _ h0 e'; have h2 := (T.out.blk _ e').2; omega); have S2 := Lib.hid ho; have hbl2 : Below w.heap.size w wn := ht.below hbl (by omega) (fun b e => by have := (S.out.blk b e).1; omega); clear ho hb ht hat x0 xl; refine Hid.out ?_)
          clear S T X R HAp
          refine Lib.hid ?_
          go_wp2_with (at_builtin; refine appI1 rfl _ _ rfl Tryz.underlying22 Tryz.infoi64 (w.heap.size + 2) _ _ _ _ T2.out rfl _ rfl rfl (by first | assumption | decide | (unfold I64; omega)) (by omega) (by omega) ?_; intro g2 c4 wq ho hb ht hat hsn; have X' := Lib.hid (X2.out.keepA ht (blk_ne X2.out T2.out.typ (by decide))); have R' := Lib.hid (R2.out.keepA ht (blk_ne R2.out T2.out.typ (by decide))); have S' := Lib.hid (S2.out.keepT ht (fun g e e' => HA2.out g e e')); have HAp' := Lib.hid (show Apart (some ⟨g', 0, none⟩) (some ⟨g2, 0, none⟩) from fun g e e' => by cases e; rcases hat with h0 | h0; exact HA2.out _ rfl (h0.trans e'); cases e'; have h2 := (S2.out.blk _ rfl).2; omega); have T' := Lib.hid ho; have hbl' : Below w.heap.size w wq := ht.below hbl2 (by omega) (fun b e => by have := (T2.out.blk b e).1; omega); clear ho hb ht hat)
          go_roundw
          case rel => exact ⟨i + 1, _, c3, _, c4, rfl, rfl, by go_num, by omega, by omega, hbl', Lib.hid (by rw [← rep_snoc, ← List.append_assoc]; exact S'.out), Lib.hid (by rw [← rep_snoc, ← List.append_assoc]; exact T'.out), HAp', X', R'⟩
          case measure => simp [intOf]; omega
        · obtain rfl : B = i := by omega
          have hlt' : ¬ (B : Int) < (B : Int) := by omega
          have x1 := X.out.cell 1
          simp at x1
          go_wp2_with fail
          clear x0 x1 xl
          obtain ⟨wK, hwK⟩ : ∃ wK : World, wK = wr.alloc (.cells #[] 98) := ⟨_, rfl⟩
          have Z0 := Lib.hid (show RSo wK (w.heap.size + 2) (some ⟨wr.heap.size, 0, none⟩) 0 0 [] by rw [hwK]; exact ⟨[], OwnF.emp (k := 3) (E := 98) (enc := encR) (ok := fun _ => True) (base := w.heap.size + 2) wr hsr encR_len, (fun x hx => by cases hx), rfl⟩)
          have hbK : Below wr.heap.size wr wK := by rw [hwK]; repeat (first | exact Below.refl _ _ | assumption | refine below_allocS ?_ _ | refine below_callS ?_ (by assumption) | (refine Below.alloc ?_ (by first | omega | (simp; done) | (simp; omega)) _) | (refine Below.setCell ?_ (by first | omega | (simp; done) | (simp; omega)) _) | refine Below.drew ?_ | refine below_drewN ?_ _ | (refine below_call ?_ (by assumption) (by first | omega | (simp; done) | (simp; omega))) | (refine Below.trans ?_ (by assumption)))
          replace S := Lib.hid (S.out.keep hbK)
          replace T := Lib.hid (T.out.keep hbK)
          replace X := Lib.hid (X.out.keep hbK)
          replace R := Lib.hid (R.out.keep hbK)
          have hblK := below_callS hbl hbK
          have hsK := hbK.size
          rw [← hwK]
          clear hwK hbK hbl
          refine Calls.mono (spec_l24Kinds hn hB8 hbud) ?_
          rintro e w4 ⟨a4, m, c5, rfl, hK4, hm4, hb4⟩
          have hs4 := hb4.size
          replace S := Lib.hid (S.out.keep hb4)
          replace T := Lib.hid (T.out.keep hb4)
          replace X := Lib.hid (X.out.keep hb4)
          replace R := Lib.hid (R.out.keep hb4)
          replace Z0 := Lib.hid (Z0.out.keep hb4)
          have hbl4 := below_callS hblK hb4
          have HK := Lib.hid hK4
          have HRs := Lib.hid (rideRs_eq n B bud sec)
          have HKa := Lib.hid (fun x (hx : x ∈ kindsL n B bud sec) => kinds_at hx hbud)
          have HKl := Lib.hid hK4.len
          generalize kindsL n B bud sec = KL at *
          clear hK4 hb4 hblK
          go_wp2_with fail
          go_loopw [11, 13] (fun s11 s13 wr => ∃ (a3 : Option Addr) (c6 j : Nat), s11 = .slice a3 j c6 ∧ s13 = .int .i64 j ∧ j ≤ m ∧ w.heap.size + 2 ≤ wr.heap.size ∧ Below w.heap.size w wr ∧ Hid (OwnF 3 I3.enc I3.ok 148 wr (w.heap.size + 2) a4 m c5 KL) ∧ Hid (RSo wr (w.heap.size + 2) a3 j c6 ((KL.take j).map (ruleX n B))) ∧ Hid (OwnI 2 wr (w.heap.size + 2) a1 (n + B) c1 (List.replicate n (3 * (B : Int)) ++ List.replicate B 4)) ∧ Hid (OwnI 2 wr (w.heap.size + 2) a2 (n + B) c2 (l ++ List.replicate B 0)) ∧ Hid (Blk wr w.heap.size #[.int .i64 (B : Int), .slice a n c] 28) ∧ Hid (Blk wr (w.heap.size + 1) #[.slice none 0 0, .slice none 0 0, .slice none 0 0] 44)) (fun _ s13 _ => m - (intOf s13).toNat)
          case atStart => exact ⟨_, 0, 0, rfl, rfl, by omega, by omega, hbl4, Lib.hid (HK.out.le (by omega)), Z0, S, T, X, R⟩
          case round =>
            clear X R T S Z0 hbl4 HK
            obtain ⟨a3, c6, j, rfl, rfl, hj, hsr, hbl, HK, Z, S, T, X, R⟩ := hrel
            by_cases hjm : j < m
            · have hjm' : (j : Int) < (m : Int) := by omega
              have hj0 : (0 : Int) ≤ (j : Int) := by omega
              obtain ⟨b5, off, x, rfl, hb5, hx, hxo, k0, k1, k2⟩ := F3.get HK.out.flats hjm
              obtain ⟨kk, ii, bb, rfl, hcase⟩ := HKa.out x (List.mem_of_getElem? hx)
              have Hx := Lib.hid hx
              simp only at k0 k1 k2
              clear hx hxo
              have mkS := Lib.hid (fun (W : World) (h1 : Blk W w.heap.size #[.int .i64 (B : Int), .slice a n c] 28) (h2 : OwnF 3 I3.enc I3.ok 148 W (w.heap.size + 2) (some ⟨b5, off, none⟩) m c5 KL) => (show W.cell? ⟨w.heap.size, 0, none⟩ = some (.int .i64 (B : Int)) ∧ W.cell? ⟨w.heap.size, 1, none⟩ = some (.slice a n c) ∧ W.cell? ⟨b5, off + j * 3, none⟩ = some (.int .i64 (kk : Int)) ∧ W.cell? ⟨b5, off + j * 3 + 1, none⟩ = some (.int .i64 (ii : Int)) ∧ W.cell? ⟨b5, off + j * 3 + 2, none⟩ = some (.int .i64 (bb : Int)) ∧ b5 < W.heap.size ∧ w.heap.size < W.heap.size from by
                obtain ⟨b', off', x', e', hb', hx', _, q0, q1, q2⟩ := F3.get h2.flats hjm
                simp only [Option.some.injEq, Addr.mk.injEq, and_true] at e'
                obtain ⟨rfl, rfl⟩ := e'
                rw [Hx.out] at hx'
                cases hx'
                exact ⟨h1.cell 0, h1.cell 1, q0, q1, q2, hb', h1.lt⟩))
              rcases hcase with ⟨hk3, hi3, hb3⟩ | ⟨hk4, hk6, hi6, hb6⟩
              · have g1 : (kk : Int) ≤ 3 := by omega
                go_wp2_with fail
                clear k0 k1 k2
                refine wp_region_noPanic ?_
                refine wp_region_held_drew (S := fun wx => wx.cell? ⟨w.heap.size, 0, none⟩ = some (.int .i64 (B : Int)) ∧ wx.cell? ⟨w.heap.size, 1, none⟩ = some (.slice a n c) ∧ wx.cell? ⟨b5, off + j * 3, none⟩ = some (.int .i64 (kk : Int)) ∧ wx.cell? ⟨b5, off + j * 3 + 1, none⟩ = some (.int .i64 (ii : Int)) ∧ wx.cell? ⟨b5, off + j * 3 + 2, none⟩ = some (.int .i64 (bb : Int)) ∧ b5 < wx.heap.size ∧ w.heap.size < wx.heap.size) (by kernel_rfl) (mkS.out wr X.out HK.out) (fun hHeld => ?_)
                refine wpAnyH_take (i := 0) (v := ?_) (by simp only [List.getElem?_toArray, List.getElem?_cons_succ, List.getElem?_cons_zero] <;> rfl) (by kernel_rfl) (by kernel_rfl) (by kernel_rfl) (fun _ _ _ h => h) (Or.inl ⟨by rfl, ?_⟩) (by assumption) ?_
                rotate_left
                · (intro wq hSw; (try dsimp only at hSw); go_simp; try with_reducible rfl)
                try simp only [Act.put, List.setIfInBounds_toArray, List.set_cons_zero, List.set_cons_succ]
                refine wpAnyH_take (i := 1) (v := ?_) (by simp only [List.getElem?_toArray, List.getElem?_cons_succ, List.getElem?_cons_zero] <;> rfl) (by kernel_rfl) (by kernel_rfl) (by kernel_rfl) (fun _ _ _ h => h) (Or.inl ⟨by rfl, ?_⟩) (by assumption) ?_
                rotate_left
                · (intro wq hSw; (try dsimp only at hSw); go_simp; try with_reducible rfl)
                try simp only [Act.put, List.setIfInBounds_toArray, List.set_cons_zero, List.set_cons_succ]
                refine wpAnyH_take (i := 2) (v := ?_) (by simp only [List.getElem?_toArray, List.getElem?_cons_succ, List.getElem?_cons_zero] <;> rfl) (by kernel_rfl) (by kernel_rfl) (by kernel_rfl) (fun _ _ _ h => h) (Or.inl ⟨by rfl, ?_⟩) (by assumption) ?_
                rotate_left
                · (intro wq hSw; (try dsimp only at hSw); go_simp; try with_reducible rfl)
                try simp only [Act.put, List.setIfInBounds_toArray, List.set_cons_zero, List.set_cons_succ]
                refine wpAnyH_take (i := 3) (v := ?_) (by simp only [List.getElem?_toArray, List.getElem?_cons_succ, List.getElem?_cons_zero] <;> rfl) (by kernel_rfl) (by kernel_rfl) (by kernel_rfl) (fun _ _ _ h => h) (Or.inl ⟨by rfl, ?_⟩) (by assumption) ?_
                rotate_left
                · (intro wq hSw; (try dsimp only at hSw); go_simp; try with_reducible rfl)
                try simp only [Act.put, List.setIfInBounds_toArray, List.set_cons_zero, List.set_cons_succ]
                refine wpAnyH_take (i := 4) (v := ?_) (by simp only [List.getElem?_toArray, List.getElem?_cons_succ, List.getElem?_cons_zero] <;> rfl) (by kernel_rfl) (by kernel_rfl) (by kernel_rfl) (fun _ _ _ h => h) (Or.inl ⟨by rfl, ?_⟩) (by assumption) ?_
                rotate_left
                · (intro wq hSw; (try dsimp only at hSw); go_simp; try with_reducible rfl)
                try simp only [Act.put, List.setIfInBounds_toArray, List.set_cons_zero, List.set_cons_succ]
                refine wpAnyH_take (i := 5) (v := ?_) (by simp only [List.getElem?_toArray, List.getElem?_cons_succ, List.getElem?_cons_zero] <;> rfl) (by kernel_rfl) (by kernel_rfl) (by kernel_rfl) (fun _ _ _ h => h) (Or.inl ⟨by rfl, ?_⟩) (by assumption) ?_
                rotate_left
                · (intro wq hSw; (try dsimp only at hSw); go_simp; try with_reducible rfl)
                try simp only [Act.put, List.setIfInBounds_toArray, List.set_cons_zero, List.set_cons_succ]
                refine wpAnyH_take (i := 6) (v := ?_) (by simp only [List.getElem?_toArray, List.getElem?_cons_succ, List.getElem?_cons_zero] <;> rfl) (by kernel_rfl) (by kernel_rfl) (by kernel_rfl) (fun _ _ _ h => h) (Or.inl ⟨by rfl, ?_⟩) (by assumption) ?_
                rotate_left
                · (intro wq hSw; (try dsimp only at hSw); go_simp; try with_reducible rfl)
                try simp only [Act.put, List.setIfInBounds_toArray, List.set_cons_zero, List.set_cons_succ]
                refine wpAnyH_take (i := 7) (v := ?_) (by simp only [List.getElem?_toArray, List.getElem?_cons_succ, List.getElem?_cons_zero] <;> rfl) (by kernel_rfl) (by kernel_rfl) (by kernel_rfl) (fun _ _ _ h => h) (Or.inl ⟨by rfl, ?_⟩) (by assumption) ?_
                rotate_left
                · (intro wq hSw; (try dsimp only at hSw); go_simp; try with_reducible rfl)
                try simp only [Act.put, List.setIfInBounds_toArray, List.set_cons_zero, List.set_cons_succ]
                refine wpAnyH_take (i := 8) (v := ?_) (by simp only [List.getElem?_toArray, List.getElem?_cons_succ, List.getElem?_cons_zero] <;> rfl) (by kernel_rfl) (by kernel_rfl) (by kernel_rfl) (fun _ _ _ h => h) (Or.inl ⟨by rfl, ?_⟩) (by assumption) ?_
                rotate_left
                · (intro wq hSw; (try dsimp only at hSw); go_simp; try with_reducible rfl)
                try simp only [Act.put, List.setIfInBounds_toArray, List.set_cons_zero, List.set_cons_succ]
                refine wpAnyH_take (i := 9) (v := ?_) (by simp only [List.getElem?_toArray, List.getElem?_cons_succ, List.getElem?_cons_zero] <;> rfl) (by kernel_rfl) (by kernel_rfl) (by kernel_rfl) (fun _ _ _ h => h) (Or.inl ⟨by rfl, ?_⟩) (by assumption) ?_
                rotate_left
                · (intro wq hSw; (try dsimp only at hSw); go_simp; try with_reducible rfl)
                try simp only [Act.put, List.setIfInBounds_toArray, List.set_cons_zero, List.set_cons_succ]
                refine wpAnyH_take (i := 10) (v := ?_) (by simp only [List.getElem?_toArray, List.getElem?_cons_succ, List.getElem?_cons_zero] <;> rfl) (by kernel_rfl) (by kernel_rfl) (by kernel_rfl) (fun _ _ _ h => h) (Or.inl ⟨by rfl, ?_⟩) (by assumption) ?_
                rotate_left
                · (intro wq hSw; (try dsimp only at hSw); go_simp; try with_reducible rfl)
                try simp only [Act.put, List.setIfInBounds_toArray, List.set_cons_zero, List.set_cons_succ]
                refine wpAnyH_take (i := 11) (v := ?_) (by simp only [List.getElem?_toArray, List.getElem?_cons_succ, List.getElem?_cons_zero] <;> rfl) (by kernel_rfl) (by kernel_rfl) (by kernel_rfl) (fun _ _ _ h => h) (Or.inl ⟨by rfl, ?_⟩) (by assumption) ?_
                rotate_left
                · (intro wq hSw; (try dsimp only at hSw); go_simp; try with_reducible rfl)
                try simp only [Act.put, List.setIfInBounds_toArray, List.set_cons_zero, List.set_cons_succ]
                refine wpAnyH_take (i := 12) (v := ?_) (by simp only [List.getElem?_toArray, List.getElem?_cons_succ, List.getElem?_cons_zero] <;> rfl) (by kernel_rfl) (by kernel_rfl) (by kernel_rfl) (fun _ _ _ h => h) (Or.inl ⟨by rfl, ?_⟩) (by assumption) ?_
                rotate_left
                · (intro wq hSw; (try dsimp only at hSw); go_simp; try with_reducible rfl)
                try simp only [Act.put, List.setIfInBounds_toArray, List.set_cons_zero, List.set_cons_succ]
                refine wpAnyH_take (i := 13) (v := ?_) (by simp only [List.getElem?_toArray, List.getElem?_cons_succ, List.getElem?_cons_zero] <;> rfl) (by kernel_rfl) (by kernel_rfl) (by kernel_rfl) (fun _ _ _ h => h) (Or.inl ⟨by rfl, ?_⟩) (by assumption) ?_
                rotate_left
                · (intro wq hSw; (try dsimp only at hSw); go_simp; try with_reducible rfl)
                try simp only [Act.put, List.setIfInBounds_toArray, List.set_cons_zero, List.set_cons_succ]
                refine wpAnyH_take (i := 14) (v := ?_) (by simp only [List.getElem?_toArray, List.getElem?_cons_succ, List.getElem?_cons_zero] <;> rfl) (by kernel_rfl) (by kernel_rfl) (by kernel_rfl) (fun _ _ _ h => h) (Or.inl ⟨by rfl, ?_⟩) (by assumption) ?_
                rotate_left
                · (intro wq hSw; (try dsimp only at hSw); go_simp; try with_reducible rfl)
                try simp only [Act.put, List.setIfInBounds_toArray, List.set_cons_zero, List.set_cons_succ]
                refine wpAnyH_take (i := 15) (v := ?_) (by simp only [List.getElem?_toArray, List.getElem?_cons_succ, List.getElem?_cons_zero] <;> rfl) (by kernel_rfl) (by kernel_rfl) (by kernel_rfl) (fun _ _ _ h => h) (Or.inl ⟨by rfl, ?_⟩) (by assumption) ?_
                rotate_left
                · (intro wq hSw; (try dsimp only at hSw); go_simp; try with_reducible rfl)
                try simp only [Act.put, List.setIfInBounds_toArray, List.set_cons_zero, List.set_cons_succ]
                refine wpAnyH_take (i := 16) (v := ?_) (by simp only [List.getElem?_toArray, List.getElem?_cons_succ, List.getElem?_cons_zero] <;> rfl) (by kernel_rfl) (by kernel_rfl) (by kernel_rfl) (fun _ _ _ h => h) (Or.inl ⟨by rfl, ?_⟩) (by assumption) ?_
                rotate_left
                · (intro wq hSw; (try dsimp only at hSw); go_simp; try with_reducible rfl)
                try simp only [Act.put, List.setIfInBounds_toArray, List.set_cons_zero, List.set_cons_succ]
                refine wpAnyH_ready (rs := [17]) (by kernel_rfl) (by simp) ?_
                refine AllReadyH.cons rfl (fun K hK => ?_) AllReadyH.nil
                go_simp
                refine Calls.mono (spec_l24Train rfl hk3 hB hB8 hn hi3 hb3) ?_
                rintro e w5 ⟨RM9, rfl, hro, hb5'⟩
                have hb5w : Below wr.heap.size wr w5 := (Below.drew (Below.refl _ _)).trans hb5'
                have hs5 := hb5w.size
                have hsw := hbl.size
                have RO5 := Lib.hid (hro.le (show w.heap.size + 2 ≤ _ by show _ ≤ wr.heap.size; omega))
                have X5 := Lib.hid (X.out.keep hb5w)
                have K5 := Lib.hid (HK.out.keep hb5w)
                have S5 := Lib.hid (S.out.keep hb5w)
                have T5 := Lib.hid (T.out.keep hb5w)
                have R5 := Lib.hid (R.out.keep hb5w)
                have Z5 := Lib.hid (Z.out.keep hb5w)
                have hbl5 := below_callS hbl hb5w
                clear hro hb5' hb5w
                go_wp2_with fail
                refine hK.out _ _ (mkS.out w5 X5.out K5.out) (fun hHeld => ?_)
                clear hK K
                try simp only [Act.put, List.setIfInBounds_toArray, List.set_cons_zero, List.set_cons_succ]
                refine wpAnyH_ready (rs := [18]) (by kernel_rfl) (by simp) ?_
                refine AllReadyH.cons rfl (fun K hK => ?_) AllReadyH.nil
                go_simp
                have hA5 : Below w5.heap.size w5 (w5.alloc (.cells #[.string RM9.nm, .slice RM9.ga RM9.gn RM9.gc, .slice RM9.ea RM9.en RM9.ec] 98)) := by repeat (first | exact Below.refl _ _ | assumption | refine below_allocS ?_ _ | refine below_callS ?_ (by assumption) | (refine Below.alloc ?_ (by first | omega | (simp; done) | (simp; omega)) _) | (refine Below.setCell ?_ (by first | omega | (simp; done) | (simp; omega)) _) | refine Below.drew ?_ | refine below_drewN ?_ _ | (refine below_call ?_ (by assumption) (by first | omega | (simp; done) | (simp; omega))) | (refine Below.trans ?_ (by assumption)))
                refine hK.out _ _ (mkS.out _ (X5.out.keep hA5) (K5.out.keep hA5)) (fun hHeld => ?_)
                clear hK K
                try simp only [Act.put, List.setIfInBounds_toArray, List.set_cons_zero, List.set_cons_succ]
                refine wpAnyH_ready (rs := [19]) (by kernel_rfl) (by simp) ?_
                refine AllReadyH.cons rfl (fun K hK => ?_) AllReadyH.nil
                obtain ⟨lz, hz1, hz2, hz3⟩ := Z5.out
                have HZ2 := Lib.hid hz2
                have HZ3 := Lib.hid hz3
                have HZ1 := Lib.hid hz1
                clear hz1 hz2 hz3
                refine wp_appAtL (enc := encR) (ok := fun _ => True) (cs := #[.string RM9.nm, .slice RM9.ga RM9.gn RM9.gc, .slice RM9.ea RM9.en RM9.ec]) (.tmp 60) (.tmp 78) (by rfl) Tryz.underlying42 Tryz.infoRule (by rfl) (by decide) (by decide) encR_one (w.heap.size + 2) _ _ _ _ [(RM9, ruleOf n B kk ii bb)] (HZ1.out.keep hA5) (by rfl) w5.heap.size (by rfl) (Blk.made w5 _ _) (by simp [encR, RM.enc]) (by rfl) (fun _ _ => trivial) (by decide) (by omega) (by decide) (by (try simp); omega) ?_
                intro g9 c9 wn ho hb hg
                have ht : Touch (w5.alloc (.cells #[.string RM9.nm, .slice RM9.ga RM9.gn RM9.gc, .slice RM9.ea RM9.en RM9.ec] 98)) wn 1 a3 := ⟨_, hg, fun b e => ⟨by decide, own_block HZ1.out.1 b e⟩⟩
                have hty := fun {g : Nat} => (HZ1.out.keep hA5).typ (g := g)
                have Xn := Lib.hid ((X5.out.keep hA5).keepA ht (blk_ne (X5.out.keep hA5) hty (by decide)))
                have Rn := Lib.hid ((R5.out.keep hA5).keepA ht (blk_ne (R5.out.keep hA5) hty (by decide)))
                have Kn := Lib.hid ((K5.out.keep hA5).keepT ht (typ_apart (K5.out.keep hA5).typ hty (by decide)))
                have Sn := Lib.hid ((S5.out.keep hA5).keepT ht (typ_apart (S5.out.keep hA5).typ hty (by decide)))
                have Tn := Lib.hid ((T5.out.keep hA5).keepT ht (typ_apart (T5.out.keep hA5).typ hty (by decide)))
                have Zn := Lib.hid (show RSo wn (w.heap.size + 2) (some ⟨g9, 0, none⟩) (j + 1) c9 ((KL.take (j + 1)).map (ruleX n B)) from ⟨lz ++ [(RM9, ruleOf n B kk ii bb)], ho, fun y hy => by
                    rcases List.mem_append.1 hy with h | h
                    · exact ((HZ2.out y h).keep hA5).keepT ht hty (by decide) (by decide)
                    · simp at h; rw [h]; exact (RO5.out.keep hA5).keepT ht hty (by decide) (by decide), by rw [List.map_append, HZ3.out, take_at Hx.out, List.map_append]; simp [ruleX]⟩)
                have hbn : Below w.heap.size w wn := ht.below (hbl5.trans (hA5.mono (by omega))) (by (try simp); omega) (fun b e => by have := (HZ1.out.blk b e).1; omega)
                have hsn := hb.size
                (try simp at hsn)
                clear ho hb hg ht hty
                refine hK.out _ _ (mkS.out wn Xn.out Kn.out) (fun hHeld => ?_)
                clear hK K
                try simp only [Act.put, List.setIfInBounds_toArray, List.set_cons_zero, List.set_cons_succ]
                refine wpAnyH_take (i := 20) (v := ?_) (by simp only [List.getElem?_toArray, List.getElem?_cons_succ, List.getElem?_cons_zero] <;> rfl) (by kernel_rfl) (by kernel_rfl) (by kernel_rfl) (fun _ _ _ h => h) (Or.inl ⟨by rfl, ?_⟩) (by assumption) ?_
                rotate_left
                · (intro wq hSw; (try dsimp only at hSw); go_simp; try with_reducible rfl)
                try simp only [Act.put, List.setIfInBounds_toArray, List.set_cons_zero, List.set_cons_succ]
                refine wpAnyH_done (by kernel_rfl) ?_ _
                refine NoPanic.normal ?_
                go_wp2_with fail
                go_roundw
                case rel => exact ⟨_, c9, j + 1, rfl, by go_num, by omega, by omega, hbn, Kn, Zn, Sn, Tn, Xn, Rn⟩
                case measure => simp [intOf]; omega
              · have g1 : ¬ (kk : Int) ≤ 3 := by omega
                go_wp2_with fail
                clear k0 k1 k2
                refine wp_region_noPanic ?_
                refine wp_region_held_drew (S := fun wx => wx.cell? ⟨w.heap.size, 0, none⟩ = some (.int .i64 (B : Int)) ∧ wx.cell? ⟨w.heap.size, 1, none⟩ = some (.slice a n c) ∧ wx.cell? ⟨b5, off + j * 3, none⟩ = some (.int .i64 (kk : Int)) ∧ wx.cell? ⟨b5, off + j * 3 + 1, none⟩ = some (.int .i64 (ii : Int)) ∧ wx.cell? ⟨b5, off + j * 3 + 2, none⟩ = some (.int .i64 (bb : Int)) ∧ b5 < wx.heap.size ∧ w.heap.size < wx.heap.size) (by kernel_rfl) (mkS.out wr X.out HK.out) (fun hHeld => ?_)
                refine wpAnyH_take (i := 0) (v := ?_) (by simp only [List.getElem?_toArray, List.getElem?_cons_succ, List.getElem?_cons_zero] <;> rfl) (by kernel_rfl) (by kernel_rfl) (by kernel_rfl) (fun _ _ _ h => h) (Or.inl ⟨by rfl, ?_⟩) (by assumption) ?_
                rotate_left
                · (intro wq hSw; (try dsimp only at hSw); go_simp; try with_reducible rfl)
                try simp only [Act.put, List.setIfInBounds_toArray, List.set_cons_zero, List.set_cons_succ]
                refine wpAnyH_take (i := 1) (v := ?_) (by simp only [List.getElem?_toArray, List.getElem?_cons_succ, List.getElem?_cons_zero] <;> rfl) (by kernel_rfl) (by kernel_rfl) (by kernel_rfl) (fun _ _ _ h => h) (Or.inl ⟨by rfl, ?_⟩) (by assumption) ?_
                rotate_left
                · (intro wq hSw; (try dsimp only at hSw); go_simp; try with_reducible rfl)
                try simp only [Act.put, List.setIfInBounds_toArray, List.set_cons_zero, List.set_cons_succ]
                refine wpAnyH_take (i := 2) (v := ?_) (by simp only [List.getElem?_toArray, List.getElem?_cons_succ, List.getElem?_cons_zero] <;> rfl) (by kernel_rfl) (by kernel_rfl) (by kernel_rfl) (fun _ _ _ h => h) (Or.inl ⟨by rfl, ?_⟩) (by assumption) ?_
                rotate_left
                · (intro wq hSw; (try dsimp only at hSw); go_simp; try with_reducible rfl)
                try simp only [Act.put, List.setIfInBounds_toArray, List.set_cons_zero, List.set_cons_succ]
                refine wpAnyH_take (i := 3) (v := ?_) (by simp only [List.getElem?_toArray, List.getElem?_cons_succ, List.getElem?_cons_zero] <;> rfl) (by kernel_rfl) (by kernel_rfl) (by kernel_rfl) (fun _ _ _ h => h) (Or.inl ⟨by rfl, ?_⟩) (by assumption) ?_
                rotate_left
                · (intro wq hSw; (try dsimp only at hSw); go_simp; try with_reducible rfl)
                try simp only [Act.put, List.setIfInBounds_toArray, List.set_cons_zero, List.set_cons_succ]
                refine wpAnyH_take (i := 4) (v := ?_) (by simp only [List.getElem?_toArray, List.getElem?_cons_succ, List.getElem?_cons_zero] <;> rfl) (by kernel_rfl) (by kernel_rfl) (by kernel_rfl) (fun _ _ _ h => h) (Or.inl ⟨by rfl, ?_⟩) (by assumption) ?_
                rotate_left
                · (intro wq hSw; (try dsimp only at hSw); go_simp; try with_reducible rfl)
                try simp only [Act.put, List.setIfInBounds_toArray, List.set_cons_zero, List.set_cons_succ]
                refine wpAnyH_take (i := 5) (v := ?_) (by simp only [List.getElem?_toArray, List.getElem?_cons_succ, List.getElem?_cons_zero] <;> rfl) (by kernel_rfl) (by kernel_rfl) (by kernel_rfl) (fun _ _ _ h => h) (Or.inl ⟨by rfl, ?_⟩) (by assumption) ?_
                rotate_left
                · (intro wq hSw; (try dsimp only at hSw); go_simp; try with_reducible rfl)
                try simp only [Act.put, List.setIfInBounds_toArray, List.set_cons_zero, List.set_cons_succ]
                refine wpAnyH_take (i := 6) (v := ?_) (by simp only [List.getElem?_toArray, List.getElem?_cons_succ, List.getElem?_cons_zero] <;> rfl) (by kernel_rfl) (by kernel_rfl) (by kernel_rfl) (fun _ _ _ h => h) (Or.inl ⟨by rfl, ?_⟩) (by assumption) ?_
                rotate_left
                · (intro wq hSw; (try dsimp only at hSw); go_simp; try with_reducible rfl)
                try simp only [Act.put, List.setIfInBounds_toArray, List.set_cons_zero, List.set_cons_succ]
                refine wpAnyH_take (i := 7) (v := ?_) (by simp only [List.getElem?_toArray, List.getElem?_cons_succ, List.getElem?_cons_zero] <;> rfl) (by kernel_rfl) (by kernel_rfl) (by kernel_rfl) (fun _ _ _ h => h) (Or.inl ⟨by rfl, ?_⟩) (by assumption) ?_
                rotate_left
                · (intro wq hSw; (try dsimp only at hSw); go_simp; try with_reducible rfl)
                try simp only [Act.put, List.setIfInBounds_toArray, List.set_cons_zero, List.set_cons_succ]
                refine wpAnyH_take (i := 8) (v := ?_) (by simp only [List.getElem?_toArray, List.getElem?_cons_succ, List.getElem?_cons_zero] <;> rfl) (by kernel_rfl) (by kernel_rfl) (by kernel_rfl) (fun _ _ _ h => h) (Or.inl ⟨by rfl, ?_⟩) (by assumption) ?_
                rotate_left
                · (intro wq hSw; (try dsimp only at hSw); go_simp; try with_reducible rfl)
                try simp only [Act.put, List.setIfInBounds_toArray, List.set_cons_zero, List.set_cons_succ]
                refine wpAnyH_take (i := 9) (v := ?_) (by simp only [List.getElem?_toArray, List.getElem?_cons_succ, List.getElem?_cons_zero] <;> rfl) (by kernel_rfl) (by kernel_rfl) (by kernel_rfl) (fun _ _ _ h => h) (Or.inl ⟨by rfl, ?_⟩) (by assumption) ?_
                rotate_left
                · (intro wq hSw; (try dsimp only at hSw); go_simp; try with_reducible rfl)
                try simp only [Act.put, List.setIfInBounds_toArray, List.set_cons_zero, List.set_cons_succ]
                refine wpAnyH_take (i := 10) (v := ?_) (by simp only [List.getElem?_toArray, List.getElem?_cons_succ, List.getElem?_cons_zero] <;> rfl) (by kernel_rfl) (by kernel_rfl) (by kernel_rfl) (fun _ _ _ h => h) (Or.inl ⟨by rfl, ?_⟩) (by assumption) ?_
                rotate_left
                · (intro wq hSw; (try dsimp only at hSw); go_simp; try with_reducible rfl)
                try simp only [Act.put, List.setIfInBounds_toArray, List.set_cons_zero, List.set_cons_succ]
                refine wpAnyH_take (i := 11) (v := ?_) (by simp only [List.getElem?_toArray, List.getElem?_cons_succ, List.getElem?_cons_zero] <;> rfl) (by kernel_rfl) (by kernel_rfl) (by kernel_rfl) (fun _ _ _ h => h) (Or.inl ⟨by rfl, ?_⟩) (by assumption) ?_
                rotate_left
                · (intro wq hSw; (try dsimp only at hSw); go_simp; try with_reducible rfl)
                try simp only [Act.put, List.setIfInBounds_toArray, List.set_cons_zero, List.set_cons_succ]
                refine wpAnyH_take (i := 12) (v := ?_) (by simp only [List.getElem?_toArray, List.getElem?_cons_succ, List.getElem?_cons_zero] <;> rfl) (by kernel_rfl) (by kernel_rfl) (by kernel_rfl) (fun _ _ _ h => h) (Or.inl ⟨by rfl, ?_⟩) (by assumption) ?_
                rotate_left
                · (intro wq hSw; (try dsimp only at hSw); go_simp; try with_reducible rfl)
                try simp only [Act.put, List.setIfInBounds_toArray, List.set_cons_zero, List.set_cons_succ]
                refine wpAnyH_take (i := 13) (v := ?_) (by simp only [List.getElem?_toArray, List.getElem?_cons_succ, List.getElem?_cons_zero] <;> rfl) (by kernel_rfl) (by kernel_rfl) (by kernel_rfl) (fun _ _ _ h => h) (Or.inl ⟨by rfl, ?_⟩) (by assumption) ?_
                rotate_left
                · (intro wq hSw; (try dsimp only at hSw); go_simp; try with_reducible rfl)
                try simp only [Act.put, List.setIfInBounds_toArray, List.set_cons_zero, List.set_cons_succ]
                refine wpAnyH_take (i := 14) (v := ?_) (by simp only [List.getElem?_toArray, List.getElem?_cons_succ, List.getElem?_cons_zero] <;> rfl) (by kernel_rfl) (by kernel_rfl) (by kernel_rfl) (fun _ _ _ h => h) (Or.inl ⟨by rfl, ?_⟩) (by assumption) ?_
                rotate_left
                · (intro wq hSw; (try dsimp only at hSw); go_simp; try with_reducible rfl)
                try simp only [Act.put, List.setIfInBounds_toArray, List.set_cons_zero, List.set_cons_succ]
                refine wpAnyH_take (i := 15) (v := ?_) (by simp only [List.getElem?_toArray, List.getElem?_cons_succ, List.getElem?_cons_zero] <;> rfl) (by kernel_rfl) (by kernel_rfl) (by kernel_rfl) (fun _ _ _ h => h) (Or.inl ⟨by rfl, ?_⟩) (by assumption) ?_
                rotate_left
                · (intro wq hSw; (try dsimp only at hSw); go_simp; try with_reducible rfl)
                try simp only [Act.put, List.setIfInBounds_toArray, List.set_cons_zero, List.set_cons_succ]
                refine wpAnyH_take (i := 16) (v := ?_) (by simp only [List.getElem?_toArray, List.getElem?_cons_succ, List.getElem?_cons_zero] <;> rfl) (by kernel_rfl) (by kernel_rfl) (by kernel_rfl) (fun _ _ _ h => h) (Or.inl ⟨by rfl, ?_⟩) (by assumption) ?_
                rotate_left
                · (intro wq hSw; (try dsimp only at hSw); go_simp; try with_reducible rfl)
                try simp only [Act.put, List.setIfInBounds_toArray, List.set_cons_zero, List.set_cons_succ]
                refine wpAnyH_ready (rs := [17]) (by kernel_rfl) (by simp) ?_
                refine AllReadyH.cons rfl (fun K hK => ?_) AllReadyH.nil
                go_simp
                refine Calls.mono (spec_l24Fault rfl hk4 hk6 hB hB8 hn hi6 hb6) ?_
                rintro e w5 ⟨RM9, rfl, hro, hb5'⟩
                have hb5w : Below wr.heap.size wr w5 := (Below.drew (Below.refl _ _)).trans hb5'
                have hs5 := hb5w.size
                have hsw := hbl.size
                have RO5 := Lib.hid (hro.le (show w.heap.size + 2 ≤ _ by show _ ≤ wr.heap.size; omega))
                have X5 := Lib.hid (X.out.keep hb5w)
                have K5 := Lib.hid (HK.out.keep hb5w)
                have S5 := Lib.hid (S.out.keep hb5w)
                have T5 := Lib.hid (T.out.keep hb5w)
                have R5 := Lib.hid (R.out.keep hb5w)
                have Z5 := Lib.hid (Z.out.keep hb5w)
                have hbl5 := below_callS hbl hb5w
                clear hro hb5' hb5w
                go_wp2_with fail
                refine hK.out _ _ (mkS.out w5 X5.out K5.out) (fun hHeld => ?_)
                clear hK K
                try simp only [Act.put, List.setIfInBounds_toArray, List.set_cons_zero, List.set_cons_succ]
                refine wpAnyH_ready (rs := [18]) (by kernel_rfl) (by simp) ?_
                refine AllReadyH.cons rfl (fun K hK => ?_) AllReadyH.nil
                go_simp
                have hA5 : Below w5.heap.size w5 (w5.alloc (.cells #[.string RM9.nm, .slice RM9.ga RM9.gn RM9.gc, .slice RM9.ea RM9.en RM9.ec] 98)) := by repeat (first | exact Below.refl _ _ | assumption | refine below_allocS ?_ _ | refine below_callS ?_ (by assumption) | (refine Below.alloc ?_ (by first | omega | (simp; done) | (simp; omega)) _) | (refine Below.setCell ?_ (by first | omega | (simp; done) | (simp; omega)) _) | refine Below.drew ?_ | refine below_drewN ?_ _ | (refine below_call ?_ (by assumption) (by first | omega | (simp; done) | (simp; omega))) | (refine Below.trans ?_ (by assumption)))
                refine hK.out _ _ (mkS.out _ (X5.out.keep hA5) (K5.out.keep hA5)) (fun hHeld => ?_)
                clear hK K
                try simp only [Act.put, List.setIfInBounds_toArray, List.set_cons_zero, List.set_cons_succ]
                refine wpAnyH_ready (rs := [19]) (by kernel_rfl) (by simp) ?_
                refine AllReadyH.cons rfl (fun K hK => ?_) AllReadyH.nil
                obtain ⟨lz, hz1, hz2, hz3⟩ := Z5.out
                have HZ2 := Lib.hid hz2
                have HZ3 := Lib.hid hz3
                have HZ1 := Lib.hid hz1
                clear hz1 hz2 hz3
                refine wp_appAtL (enc := encR) (ok := fun _ => True) (cs := #[.string RM9.nm, .slice RM9.ga RM9.gn RM9.gc, .slice RM9.ea RM9.en RM9.ec]) (.tmp 80) (.tmp 98) (by rfl) Tryz.underlying42 Tryz.infoRule (by rfl) (by decide) (by decide) encR_one (w.heap.size + 2) _ _ _ _ [(RM9, ruleOf n B kk ii bb)] (HZ1.out.keep hA5) (by rfl) w5.heap.size (by rfl) (Blk.made w5 _ _) (by simp [encR, RM.enc]) (by rfl) (fun _ _ => trivial) (by decide) (by omega) (by decide) (by (try simp); omega) ?_
                intro g9 c9 wn ho hb hg
                have ht : Touch (w5.alloc (.cells #[.string RM9.nm, .slice RM9.ga RM9.gn RM9.gc, .slice RM9.ea RM9.en RM9.ec] 98)) wn 1 a3 := ⟨_, hg, fun b e => ⟨by decide, own_block HZ1.out.1 b e⟩⟩
                have hty := fun {g : Nat} => (HZ1.out.keep hA5).typ (g := g)
                have Xn := Lib.hid ((X5.out.keep hA5).keepA ht (blk_ne (X5.out.keep hA5) hty (by decide)))
                have Rn := Lib.hid ((R5.out.keep hA5).keepA ht (blk_ne (R5.out.keep hA5) hty (by decide)))
                have Kn := Lib.hid ((K5.out.keep hA5).keepT ht (typ_apart (K5.out.keep hA5).typ hty (by decide)))
                have Sn := Lib.hid ((S5.out.keep hA5).keepT ht (typ_apart (S5.out.keep hA5).typ hty (by decide)))
                have Tn := Lib.hid ((T5.out.keep hA5).keepT ht (typ_apart (T5.out.keep hA5).typ hty (by decide)))
                have Zn := Lib.hid (show RSo wn (w.heap.size + 2) (some ⟨g9, 0, none⟩) (j + 1) c9 ((KL.take (j + 1)).map (ruleX n B)) from ⟨lz ++ [(RM9, ruleOf n B kk ii bb)], ho, fun y hy => by
                    rcases List.mem_append.1 hy with h | h
                    · exact ((HZ2.out y h).keep hA5).keepT ht hty (by decide) (by decide)
                    · simp at h; rw [h]; exact (RO5.out.keep hA5).keepT ht hty (by decide) (by decide), by rw [List.map_append, HZ3.out, take_at Hx.out, List.map_append]; simp [ruleX]⟩)
                have hbn : Below w.heap.size w wn := ht.below (hbl5.trans (hA5.mono (by omega))) (by (try simp); omega) (fun b e => by have := (HZ1.out.blk b e).1; omega)
                have hsn := hb.size
                (try simp at hsn)
                clear ho hb hg ht hty
                refine hK.out _ _ (mkS.out wn Xn.out Kn.out) (fun hHeld => ?_)
                clear hK K
                try simp only [Act.put, List.setIfInBounds_toArray, List.set_cons_zero, List.set_cons_succ]
                refine wpAnyH_take (i := 20) (v := ?_) (by simp only [List.getElem?_toArray, List.getElem?_cons_succ, List.getElem?_cons_zero] <;> rfl) (by kernel_rfl) (by kernel_rfl) (by kernel_rfl) (fun _ _ _ h => h) (Or.inl ⟨by rfl, ?_⟩) (by assumption) ?_
                rotate_left
                · (intro wq hSw; (try dsimp only at hSw); go_simp; try with_reducible rfl)
                try simp only [Act.put, List.setIfInBounds_toArray, List.set_cons_zero, List.set_cons_succ]
                refine wpAnyH_done (by kernel_rfl) ?_ _
                refine NoPanic.normal ?_
                go_wp2_with fail
                go_roundw
                case rel => exact ⟨_, c9, j + 1, rfl, by go_num, by omega, by omega, hbn, Kn, Zn, Sn, Tn, Xn, Rn⟩
                case measure => simp [intOf]; omega
            · obtain rfl : m = j := by omega
              have hjm' : ¬ (m : Int) < (m : Int) := by omega
              have hsw := hbl.size
              go_wp2_with (at_builtin; refine appI1 rfl _ _ rfl Tryz.underlying22 Tryz.infoi64 (w.heap.size + 2) _ _ _ _ S.out rfl _ rfl rfl (by first | assumption | decide | (unfold I64; omega)) (by omega) (by omega) ?_; intro g' c3 wn ho hb ht hat hsn; have R2 := Lib.hid (R.out.keepA ht (blk_ne R.out S.out.typ (by decide))); have T2 := Lib.hid (T.out.keepT ht (fun g e e' => HAp.out g e' e)); have Z2 : Hid (RSo wn (w.heap.size + 2) a3 m c6 ((KL.take m).map (ruleX n B))) := Lib.hid (by obtain ⟨lz, z1, z2, z3⟩ := Z.out; exact ⟨lz, z1.keepT ht (typ_apart z1.typ S.out.typ (by decide)), fun y hy => (z2 y hy).keepT ht S.out.typ (by decide) (by decide), z3⟩); have HA2 := Lib.hid (show Apart (some ⟨g', 0, none⟩) a2 from fun g e e' => by cases e; rcases hat with h0 | h0; exact HAp.out _ h0 e'; have h2 := (T.out.blk _ e').2; omega); have S2 := Lib.hid ho; have hbl2 : Below w.heap.size w wn := ht.below hbl (by omega) (fun b e => by have := (S.out.blk b e).1; omega); clear ho hb ht hat; refine Hid.out ?_)
              clear S T X R HAp HK Z
              refine Lib.hid ?_
              go_wp2_with (at_builtin; refine appI1 rfl _ _ rfl Tryz.underlying22 Tryz.infoi64 (w.heap.size + 2) _ _ _ _ T2.out rfl _ rfl rfl (by first | assumption | decide | (unfold I64; omega)) (by omega) (by omega) ?_; intro g2 c4 wq ho hb ht hat hsn; have hR := R2.out.keepA ht (blk_ne R2.out T2.out.typ (by decide)); have S' := Lib.hid (S2.out.keepT ht (fun g e e' => HA2.out g e e')); have Z3 : Hid (RSo wq (w.heap.size + 2) a3 m c6 ((KL.take m).map (ruleX n B))) := Lib.hid (by obtain ⟨lz, z1, z2, z3⟩ := Z2.out; exact ⟨lz, z1.keepT ht (typ_apart z1.typ T2.out.typ (by decide)), fun y hy => (z2 y hy).keepT ht T2.out.typ (by decide) (by decide), z3⟩); have T' := Lib.hid ho; have hbl' : Below w.heap.size w wq := ht.below hbl2 (by omega) (fun b e => by have := (T2.out.blk b e).1; omega); have r0 := hR.cell 0; have r1 := hR.cell 1; have r2 := hR.cell 2; have rl := hR.lt; have rf := hR.free; simp at r0 r1 r2; have R' := Lib.hid hR; clear ho hb ht hat hR)
              have HF : Hid (SOw (((wq.setCell ⟨w.heap.size + 1, 0, none⟩ (.slice (some ⟨g', 0, none⟩) (n + B + 1) c3)).setCell ⟨w.heap.size + 1, 1, none⟩ (.slice (some ⟨g2, 0, none⟩) (n + B + 1) c4)).setCell ⟨w.heap.size + 1, 2, none⟩ (.slice a3 m c6)) (w.heap.size + 2) (some ⟨g', 0, none⟩) (n + B + 1) c3 (some ⟨g2, 0, none⟩) (n + B + 1) c4 a3 m c6 (rideSz n B bud) (rideSt l B bud) (rideRs n B bud sec) ∧ Below w.heap.size w (((wq.setCell ⟨w.heap.size + 1, 0, none⟩ (.slice (some ⟨g', 0, none⟩) (n + B + 1) c3)).setCell ⟨w.heap.size + 1, 1, none⟩ (.slice (some ⟨g2, 0, none⟩) (n + B + 1) c4)).setCell ⟨w.heap.size + 1, 2, none⟩ (.slice a3 m c6))) := by
                refine Lib.hid ⟨?_, by repeat (first | exact Below.refl _ _ | assumption | refine below_allocS ?_ _ | refine below_callS ?_ (by assumption) | (refine Below.alloc ?_ (by first | omega | (simp; done) | (simp; omega)) _) | (refine Below.setCell ?_ (by first | omega | (simp; done) | (simp; omega)) _) | refine Below.drew ?_ | refine below_drewN ?_ _ | (refine below_call ?_ (by assumption) (by first | omega | (simp; done) | (simp; omega))) | (refine Below.trans ?_ (by assumption)))⟩
                have hF : Only (w.heap.size + 1) (w.heap.size + 1 + 1) wq (((wq.setCell ⟨w.heap.size + 1, 0, none⟩ (.slice (some ⟨g', 0, none⟩) (n + B + 1) c3)).setCell ⟨w.heap.size + 1, 1, none⟩ (.slice (some ⟨g2, 0, none⟩) (n + B + 1) c4)).setCell ⟨w.heap.size + 1, 2, none⟩ (.slice a3 m c6)) := by repeat (first | with_reducible exact Only.refl _ _ _ | with_reducible assumption | with_reducible refine Only.set ?_ (by first | omega | (simp; omega)) _ _ | with_reducible refine Only.setN ?_ (by first | omega | (simp; omega)) _ _ | with_reducible refine Only.alloc ?_ _ | with_reducible refine Only.drew ?_ | with_reducible refine Only.drewN ?_ _ | with_reducible refine Only.then ?_ (by assumption) | with_reducible refine Only.trans ?_ (by assumption))
                have hSz : rideSz n B bud = List.replicate n (3 * (B : Int)) ++ List.replicate B 4 ++ [(bud : Int) + 1] := by rw [rideSz, List.append_assoc]
                have hSt : rideSt l B bud = l ++ List.replicate B 0 ++ [(bud : Int)] := by rw [rideSt, List.append_assoc]
                have hq : SOw wq (w.heap.size + 2) (some ⟨g', 0, none⟩) (n + B + 1) c3 (some ⟨g2, 0, none⟩) (n + B + 1) c4 a3 m c6 (rideSz n B bud) (rideSt l B bud) (rideRs n B bud sec) := by
                  refine ⟨?_, ?_, ?_, by omega, by omega, by omega⟩
                  · rw [hSz]; exact S'.out
                  · rw [hSt]; exact T'.out
                  · rw [HRs.out]
                    have h := Z3.out
                    rw [List.take_of_length_le (by rw [HKl.out]; exact Nat.le_refl _)] at h
                    exact h
                exact hq.only hF (by omega)
              exact bodyPost_ret (v := .agg #[.slice (some ⟨g', 0, none⟩) (n + B + 1) c3, .slice (some ⟨g2, 0, none⟩) (n + B + 1) c4, .slice a3 m c6]) (by simp [results, Tryz.results70, go_sem, *]) rfl ⟨_, _, _, _, _, _, _, _, _, rfl, HF.out.1, HF.out.2⟩
set_option maxHeartbeats 2000000 in
theorem spec_RideModel {b bud : Int} {a : Option Addr} {n c : Nat} {l : List Int} {sec : Bool} {w : World} (hI : Ints w a n c l) (hn : n ≤ 1048576) :
    Calls Tryz.prog 27 #[.agg #[.int .i64 b, .slice a n c], .int .i64 bud, .bool sec] w fun e w' => ∃ a1 n1 c1 a2 n2 c2 a3 n3 c3, e = .returned (.tuple #[.agg #[.slice a1 n1 c1, .slice a2 n2 c2, .slice a3 n3 c3], .int .i64 (rdC b l bud)]) ∧ SOw w' w.heap.size a1 n1 c1 a2 n2 c2 a3 n3 c3 (rmSz b l bud) (rmSt b l bud) (rmRs b l bud sec) ∧ Below w.heap.size w w' := by
  have k1 := fun (wx : World) (hb : Below w.heap.size w wx) => spec_l24Code (b := b) (bud := bud) (hI.keep hb) hn
  have hl := hI.len
  by_cases h0 : rdC b l bud = 0
  · obtain ⟨g1, g2, g3, g4, g5, g6⟩ := rdC_ok h0
    have HZ : Hid (rmSz b l bud = rideSz l.length b.toNat bud.toNat ∧ rmSt b l bud = rideSt l b.toNat bud.toNat ∧ rmRs b l bud sec = rideRs l.length b.toNat bud.toNat sec) := Lib.hid ⟨if_pos h0, if_pos h0, if_pos h0⟩
    obtain ⟨B, rfl⟩ := Int.eq_ofNat_of_zero_le (show 0 ≤ b by omega)
    obtain ⟨D, rfl⟩ := Int.eq_ofNat_of_zero_le g5
    rw [h0] at k1
    have k2 := fun (wx : World) (hb : Below w.heap.size w wx) => spec_l24Model (B := B) (bud := D) (n := n) (c := c) (a := a) (l := l) (sec := sec) (w := wx) (hI.keep hb) (by omega) (by omega) (by omega) (by omega)
    rw [Int.toNat_natCast, Int.toNat_natCast, hl] at HZ
    generalize rmSz (B : Int) l (D : Int) = Z1 at *
    generalize rmSt (B : Int) l (D : Int) = Z2 at *
    generalize rmRs (B : Int) l (D : Int) sec = Z3 at *
    generalize rideSz n B D = Y1 at *
    generalize rideSt l B D = Y2 at *
    generalize rideRs n B D sec = Y3 at *
    obtain ⟨rfl, rfl, rfl⟩ := HZ.out
    have H0 := Lib.hid h0
    have K1 := Lib.hid k1
    have K2 := Lib.hid k2
    clear k1 k2 h0 hI hl HZ g6
    go_enter Tryz.func27, Tryz.ntmps27
    go_wp2_with fail
    refine Calls.mono (K1.out _ (by repeat (first | exact Below.refl _ _ | assumption | refine below_allocS ?_ _ | refine below_callS ?_ (by assumption) | (refine Below.alloc ?_ (by first | omega | (simp; done) | (simp; omega)) _) | (refine Below.setCell ?_ (by first | omega | (simp; done) | (simp; omega)) _) | refine Below.drew ?_ | refine below_drewN ?_ _ | (refine below_call ?_ (by assumption) (by first | omega | (simp; done) | (simp; omega))) | (refine Below.trans ?_ (by assumption))))) ?_
    rintro e w1 ⟨rfl, hb_w1⟩
    obtain ⟨hc_w1, hf_w1⟩ := bcell hb_w1
    have hs_w1 := hb_w1.size
    simp at hs_w1
    have hz1 : w.heap.size < w1.heap.size := by omega
    have hz2 : w.heap.size + 1 < w1.heap.size := by omega
    go_wp2_with fail
    refine Calls.mono (K2.out _ (by repeat (first | exact Below.refl _ _ | assumption | refine below_allocS ?_ _ | refine below_callS ?_ (by assumption) | (refine Below.alloc ?_ (by first | omega | (simp; done) | (simp; omega)) _) | (refine Below.setCell ?_ (by first | omega | (simp; done) | (simp; omega)) _) | refine Below.drew ?_ | refine below_drewN ?_ _ | (refine below_call ?_ (by assumption) (by first | omega | (simp; done) | (simp; omega))) | (refine Below.trans ?_ (by assumption))))) ?_
    rintro e w2 ⟨a1, n1, c1, a2, n2, c2, a3, n3, c3, rfl, hM, hb_w2⟩
    obtain ⟨hc_w2, hf_w2⟩ := bcell hb_w2
    have hs_w2 := hb_w2.size
    have HM := Lib.hid hM
    clear hM
    have hy2 : w.heap.size + 1 < w2.heap.size := by omega
    have HF : Hid (SOw (((w2.setCell ⟨w.heap.size + 1, 0, none⟩ (.slice a1 n1 c1)).setCell ⟨w.heap.size + 1, 1, none⟩ (.slice a2 n2 c2)).setCell ⟨w.heap.size + 1, 2, none⟩ (.slice a3 n3 c3)) w.heap.size a1 n1 c1 a2 n2 c2 a3 n3 c3 Z1 Z2 Z3) :=
      Lib.hid ((HM.out.only (p := w.heap.size + 1) (w' := (((w2.setCell ⟨w.heap.size + 1, 0, none⟩ (.slice a1 n1 c1)).setCell ⟨w.heap.size + 1, 1, none⟩ (.slice a2 n2 c2)).setCell ⟨w.heap.size + 1, 2, none⟩ (.slice a3 n3 c3))) (by repeat (first | with_reducible exact Only.refl _ _ _ | with_reducible assumption | with_reducible refine Only.set ?_ (by first | omega | (simp; omega)) _ _ | with_reducible refine Only.setN ?_ (by first | omega | (simp; omega)) _ _ | with_reducible refine Only.alloc ?_ _ | with_reducible refine Only.drew ?_ | with_reducible refine Only.drewN ?_ _ | with_reducible refine Only.then ?_ (by assumption) | with_reducible refine Only.trans ?_ (by assumption))) (by omega)).le (by omega))
    go_wp2
    exact bodyPost_ret (v := .tuple #[.agg #[.slice a1 n1 c1, .slice a2 n2 c2, .slice a3 n3 c3], .int .i64 0]) (by simp [results, Tryz.results27, go_sem, *]) rfl ⟨_, _, _, _, _, _, _, _, _, by rw [H0.out], HF.out, by repeat (first | exact Below.refl _ _ | assumption | refine below_allocS ?_ _ | refine below_callS ?_ (by assumption) | (refine Below.alloc ?_ (by first | omega | (simp; done) | (simp; omega)) _) | (refine Below.setCell ?_ (by first | omega | (simp; done) | (simp; omega)) _) | refine Below.drew ?_ | refine below_drewN ?_ _ | (refine below_call ?_ (by assumption) (by first | omega | (simp; done) | (simp; omega))) | (refine Below.trans ?_ (by assumption)))⟩
  · have HZ : Hid (rmSz b l bud = [] ∧ rmSt b l bud = [] ∧ rmRs b l bud sec = []) := Lib.hid ⟨if_neg h0, if_neg h0, if_neg h0⟩
    generalize rmSz b l bud = Z1 at *
    generalize rmSt b l bud = Z2 at *
    generalize rmRs b l bud sec = Z3 at *
    obtain ⟨rfl, rfl, rfl⟩ := HZ.out
    generalize rdC b l bud = C at *
    have K1 := Lib.hid k1
    have hC' : (C != 0) = true := by simpa using h0
    clear k1 h0 hI hl HZ
    go_enter Tryz.func27, Tryz.ntmps27
    go_wp2_with fail
    refine Calls.mono (K1.out _ (by repeat (first | exact Below.refl _ _ | assumption | refine below_allocS ?_ _ | refine below_callS ?_ (by assumption) | (refine Below.alloc ?_ (by first | omega | (simp; done) | (simp; omega)) _) | (refine Below.setCell ?_ (by first | omega | (simp; done) | (simp; omega)) _) | refine Below.drew ?_ | refine below_drewN ?_ _ | (refine below_call ?_ (by assumption) (by first | omega | (simp; done) | (simp; omega))) | (refine Below.trans ?_ (by assumption))))) ?_
    rintro e w1 ⟨rfl, hb_w1⟩
    obtain ⟨hc_w1, hf_w1⟩ := bcell hb_w1
    have hs_w1 := hb_w1.size
    simp at hs_w1
    have hz1 : w.heap.size < w1.heap.size := by omega
    have hz2 : w.heap.size + 1 < w1.heap.size := by omega
    go_wp2
    exact bodyPost_ret (v := .tuple #[.agg #[.slice none 0 0, .slice none 0 0, .slice none 0 0], .int .i64 C]) (by simp [results, Tryz.results27, go_sem, *]) rfl ⟨_, _, _, _, _, _, _, _, _, rfl, SOw.nil _ _, by repeat (first | exact Below.refl _ _ | assumption | refine below_allocS ?_ _ | refine below_callS ?_ (by assumption) | (refine Below.alloc ?_ (by first | omega | (simp; done) | (simp; omega)) _) | (refine Below.setCell ?_ (by first | omega | (simp; done) | (simp; omega)) _) | refine Below.drew ?_ | refine below_drewN ?_ _ | (refine below_call ?_ (by assumption) (by first | omega | (simp; done) | (simp; omega))) | (refine Below.trans ?_ (by assumption)))⟩
theorem spec_RideModel_r {b bud : Int} {a : Option Addr} {n c : Nat} {l : List Int} {sec : Bool} {w : World} (hI : Ints w a n c l) (hn : n ≤ 1048576) :
    Calls Tryz.prog 27 #[.agg #[.int .i64 b, .slice a n c], .int .i64 bud, .bool sec] w fun e w' => ∃ a1 n1 c1 a2 n2 c2 a3 n3 c3, e = .returned (.tuple #[.agg #[.slice a1 n1 c1, .slice a2 n2 c2, .slice a3 n3 c3], .int .i64 (rdC b l bud)]) ∧ Below w.heap.size w w' ∧ SOw w' w.heap.size a1 n1 c1 a2 n2 c2 a3 n3 c3 (rmSz b l bud) (rmSt b l bud) (rmRs b l bud sec) :=
  Calls.mono (spec_RideModel hI hn) fun _ _ ⟨a1, n1, c1, a2, n2, c2, a3, n3, c3, h1, h2, h3⟩ => ⟨a1, n1, c1, a2, n2, c2, a3, n3, c3, h1, h3, h2⟩
theorem impl_RideModel_r {b bud : Int} {a : Option Addr} {n c : Nat} {l : List Int} {sec : Bool} {w : World} (hT : Tab w 0 (strsCells ruleNm)) (hI : Ints w a n c l) (hn : n ≤ 1048576) :
    Calls Tryz.prog 23 #[.agg #[.int .i64 b, .slice a n c], .int .i64 bud, .bool sec] w fun e w' => ∃ a1 n1 c1 a2 n2 c2 a3 n3 c3, e = .returned (.tuple #[.agg #[.slice a1 n1 c1, .slice a2 n2 c2, .slice a3 n3 c3], .int .i64 (rdC b l bud)]) ∧ Below w.heap.size w w' ∧ MOwn w' w.heap.size w'.heap.size a1 n1 c1 a2 n2 c2 a3 n3 c3 (rmSz b l bud) (rmSt b l bud) (rmRs b l bud sec) :=
  Calls.mono (impl_RideModel hT hI hn) fun _ _ ⟨a1, n1, c1, a2, n2, c2, a3, n3, c3, h1, h2, h3⟩ => ⟨a1, n1, c1, a2, n2, c2, a3, n3, c3, h1, h3, h2⟩
theorem flat_len {α : Type} {f : Nat → List α} {k : Nat} : ∀ (q : Nat), (∀ i, i < q → (f i).length ≤ k) → ((List.range q).flatMap f).length ≤ q * k
  | 0, _ => by simp
  | q + 1, h => by
    rw [flat_snoc, List.length_append, Nat.succ_mul]
    have := flat_len q (fun i hi => h i (by omega))
    have := h q (by omega)
    omega
theorem rideRs_len {n B bud : Nat} {sec : Bool} (hn : n ≤ 4) (hB : B ≤ 8) (hbud : bud ≤ 2) : (rideRs n B bud sec).length ≤ 176 := by
  rw [rideRs_eq, List.length_map, kindsL, List.length_append]
  have h1 : (trI B sec n).length ≤ n * (8 * 4) := by
    rw [trI]
    refine flat_len n fun i _ => ?_
    have h2 : (trB' i sec B).length ≤ B * 4 := by
      rw [trB']
      refine flat_len B fun b _ => ?_
      rw [trK, List.length_map]
      exact Nat.le_trans (List.length_filter_le _ _) (by simp)
    omega
  have h3 : (faI bud sec B).length ≤ B * (2 * 3) := by
    rw [faI]
    refine flat_len B fun b _ => ?_
    have h4 : (faB b bud sec bud).length ≤ bud * 3 := by
      rw [faB]
      refine flat_len bud fun j _ => ?_
      rw [faK, List.length_map]
      exact Nat.le_trans (List.length_filter_le _ _) (by simp)
    omega
  omega
theorem cntR_le_of {k : Nat} : ∀ {rs : List RuD}, (∀ r ∈ rs, cnt1 r ≤ k) → cntR rs ≤ rs.length * k
  | [], _ => by simp [cntR]
  | r :: rs, h => by
    have h1 := cntR_le_of (rs := rs) fun x hx => h x (List.mem_cons_of_mem _ hx)
    have h2 := h r (List.mem_cons_self ..)
    have e : cntR (r :: rs) = cnt1 r + cntR rs := by simp [cntR]
    rw [e, List.length_cons, Nat.succ_mul]; omega
theorem rmRs_cnt {b bud : Int} {l : List Int} {sec : Bool} : cntR (rmRs b l bud sec) ≤ 1000000 := by
  by_cases h0 : rdC b l bud = 0
  · obtain ⟨g1, g2, g3, g4, g5, g6⟩ := rdC_ok h0
    rw [rmRs, if_pos h0]
    have hl := rideRs_len (n := l.length) (B := b.toNat) (bud := bud.toNat) (sec := sec) (by omega) (by omega) (by omega)
    have hc : ∀ r ∈ rideRs l.length b.toNat bud.toNat sec, cnt1 r ≤ 100 := by
      intro r hr
      rw [rideRs_eq] at hr
      obtain ⟨x, hx, rfl⟩ := List.mem_map.1 hr
      obtain ⟨k, i, b', rfl, _⟩ := kinds_at hx (by omega)
      have hf := freeL_len l.length i b' ((b' + 1) % b.toNat) l.length
      simp only [ruleX, Int.toNat_natCast, ruleOf, cnt1]
      split
      · simp
      · split
        · simp only [List.length_cons, List.length_nil]; omega
        · split
          · simp
          · split
            · simp
            · split
              · simp [faG, faE]
              · split <;> simp [faG, faE]
    have := cntR_le_of hc
    omega
  · rw [rmRs, if_neg h0]; decide
end Go.Proofs.YtfnamjkmkoldeaaGreatDoor
