/- The reference's search: its state, and how one state is added, walked. -/
import Derived.Test.YtfnamjkmkoldeaaGreatDoorSj
namespace Go.Proofs.YtfnamjkmkoldeaaGreatDoor
open Go.RowKit
set_option linter.unusedVariables false
set_option linter.unusedSimpArgs false
/-- block b is a search that has found the states of L; m values each -/
def SpSt (w : World) (lo b m : Nat) (L : List SN) (ov : Bool) : Prop :=
  ∃ (oa : Option Addr) (oc : Nat) (ta : Option Addr) (tc : Nat) (ka : Option Addr) (kc : Nat) (lo' lt lk : List (QM × List Int)),
    Blk w b #[.slice oa L.length oc, .slice ta L.length tc, .slice ka L.length kc, .bool ov] 73 ∧ lo ≤ b ∧
    SRow w lo lo oa L.length oc lo' ∧ SRow w lo lo ta L.length tc lt ∧ SRow w lo lo ka L.length kc lk ∧ (Apart oa ta ∧ Apart oa ka ∧ Apart ta ka) ∧
    lo'.map (·.2) = L.map (·.v) ∧ lt.map (·.2) = L.map (·.tr) ∧ AscS m (lk.map (·.2)) ∧ ∀ y, y ∈ lk.map (·.2) ↔ y ∈ L.map (·.v)
theorem SpSt.keep {w w' : World} {lo b m : Nat} {L : List SN} {ov : Bool} (h : SpSt w lo b m L ov) (hb : Below w.heap.size w w') : SpSt w' lo b m L ov := by
  obtain ⟨oa, oc, ta, tc, ka, kc, l1, l2, l3, h1, h2, h3, h4, h5, h6, h7⟩ := h
  exact ⟨oa, oc, ta, tc, ka, kc, l1, l2, l3, h1.keep hb, h2, h3.keep hb, h4.keep hb, h5.keep hb, h6, h7⟩
/-- a row stays where another block than a row's is written -/
theorem SRow.setB {w : World} {lo l2 b : Nat} {a : Option Addr} {n c : Nat} {l : List (QM × List Int)} {cs : Array Value} (h : SRow w lo l2 a n c l) (hB : Blk w b cs 73) (j : Nat) (u : Value) : SRow (w.setCell ⟨b, j, none⟩ u) lo l2 a n c l :=
  h.keepG (set_grown b j u) fun cur E e => by
    rw [Blk] at hB
    rw [hB] at e
    simp only [Option.some.injEq, Obj.cells.injEq] at e
    rw [← e.2.1]
    exact ⟨by decide, by decide⟩
theorem SRow.typ {w : World} {lo l2 : Nat} {a : Option Addr} {n c : Nat} {l : List (QM × List Int)} (h : SRow w lo l2 a n c l) {g : Nat} (e : a = some ⟨g, 0, none⟩) : ∃ cur, w.heap[g]? = some (.cells cur 22 (0, 0)) := h.row.typ e
theorem own_setB {w : World} {lo b : Nat} {a : Option Addr} {n c : Nat} {l : List Int} {cs : Array Value} (h : OwnI 2 w lo a n c l) (hB : Blk w b cs 73) (j : Nat) (u : Value) : OwnI 2 (w.setCell ⟨b, j, none⟩ u) lo a n c l :=
  h.keepS hB (by decide) (StepW.set b w j u)
theorem own_touch {w w' : World} {lo n' : Nat} {a a' : Option Addr} {n c n2 c2 l2 l3 : Nat} {l : List Int} {r : List (QM × List Int)} (h : OwnI 2 w lo a n c l) (ht : Touch w w' n' a') (hr : SRow w l2 l3 a' n2 c2 r) : OwnI 2 w' lo a n c l :=
  h.keepT ht fun g e e' => typ_apart (fun {g} e => h.typ e) (fun {g} e => hr.row.typ e) (by decide) g e e'
theorem blk_touch {w w' : World} {b n' : Nat} {a' : Option Addr} {n2 c2 l2 l3 : Nat} {cs : Array Value} {r : List (QM × List Int)} (h : Blk w b cs 73) (ht : Touch w w' n' a') (hr : SRow w l2 l3 a' n2 c2 r) : Blk w' b cs 73 :=
  h.keepA ht (blk_ne h (fun {g} e => hr.row.typ e) (by decide))
theorem row_touch {w w' : World} {lo l2 n' : Nat} {a a' : Option Addr} {n c n2 c2 l3 l4 : Nat} {l r : List (QM × List Int)} (h : SRow w lo l2 a n c l) (ht : Touch w w' n' a') (hr : SRow w l3 l4 a' n2 c2 r) (hap : Apart a a') : SRow w' lo l2 a n c l :=
  h.keepA ht (fun {g} e => hr.row.typ e) hap
theorem Blk.put9 {w : World} {b : Nat} {cs : Array Value} {T : TypeId} (h : Blk w b cs T) (i : Nat) (v : Value) : Blk (w.setCell ⟨b, i, none⟩ v) b (cs.setIfInBounds i v) T := heap_setCell_same w b i cs T v h
/-- what adding a state leaves -/
def addS (L : List SN) (x : SN) : List SN := if L.any (fun y => y.v == x.v) then L else if L.length = 4000 then L else L ++ [x]
def addO (L : List SN) (x : SN) : Bool := !(L.any fun y => y.v == x.v) && decide (L.length = 4000)
theorem addS_old {L : List SN} {x : SN} (h : L.any (fun y => y.v == x.v) = true) : addS L x = L ∧ addO L x = false := by rw [addS, addO, h]; exact ⟨rfl, rfl⟩
theorem addS_full {L : List SN} {x : SN} (h : L.any (fun y => y.v == x.v) = false) (hl : L.length = 4000) : addS L x = L ∧ addO L x = true := by rw [addS, addO, h, hl]; exact ⟨rfl, rfl⟩
theorem addS_new {L : List SN} {x : SN} (h : L.any (fun y => y.v == x.v) = false) (hl : L.length ≠ 4000) : addS L x = L ++ [x] ∧ addO L x = false := by rw [addS, addO, h]; simp [hl]
set_option maxHeartbeats 4000000 in
theorem spec_l21Add {lo b m vn vc rn rc : Nat} {va ra : Option Addr} {L : List SN} {x : SN} {w : World} (hS : SpSt w lo b m L false) (hV : OwnI 2 w lo va vn vc x.v) (hR : OwnI 2 w lo ra rn rc x.tr) (hvm : x.v.length = m) (hm : m ≤ 1048576) (hL : L.length ≤ 4000) (hlo : lo ≤ w.heap.size) :
    Calls Tryz.prog 132 #[.pointer (some ⟨b, 0, none⟩), .slice va vn vc, .slice ra rn rc] w fun e w' => e = .returned (.tuple #[]) ∧ SpSt w' lo b m (addS L x) (addO L x) ∧ StepW b w w' ∧ Below lo w w' := by
  obtain ⟨oa, oc, ta, tc, ka, kc, l1, lt, lk, hB, hlb, hO, hT, hK, ⟨hp1, hp2, hp3⟩, he1, he2, hA, hM⟩ := hS
  have HOS := Lib.hid (fun (h : L.any (fun y => y.v == x.v) = true) => (show SpSt w lo b m (addS L x) (addO L x) by rw [(addS_old h).1, (addS_old h).2]; exact ⟨oa, oc, ta, tc, ka, kc, l1, lt, lk, hB, hlb, hO, hT, hK, ⟨hp1, hp2, hp3⟩, he1, he2, hA, hM⟩))
  have hany : L.any (fun y => y.v == x.v) = decide (x.v ∈ lk.map (·.2)) := by rw [any_map]; exact decide_eq_decide.2 (hM _).symm
  obtain ⟨n, hn⟩ : ∃ n : Nat, L.length = n := ⟨_, rfl⟩
  have HN := Lib.hid hn
  rw [hn] at hB hO hT hK hL
  clear hn
  have c0 := hB.cell 0
  have c1 := hB.cell 1
  have c2 := hB.cell 2
  have c3 := hB.cell 3
  have zl := hB.lt
  have zf := hB.free
  simp at c0 c1 c2 c3
  have K1 := Lib.hid (spec_l20Place hK hV.ints hA hvm hm (by omega))
  cases hin : L.any (fun y => y.v == x.v) with
  | true =>
    rw [← hany, hin] at K1
    have HS := Lib.hid (HOS.out hin)
    clear hB hO hT hK hV hR hp1 hp2 hp3 he1 he2 hA hM hin hany HOS
    go_enter Tryz.func132, Tryz.ntmps132
    go_wp2_with fail
    refine Calls.mono K1.out ?_
    rintro e w1 ⟨p, rfl, hp, hb1⟩
    clear hp
    go_wp2
    exact bodyPost_ret (v := .tuple #[]) (by simp [results, Tryz.results132, go_sem]) rfl ⟨rfl, HS.out.keep hb1, StepW.below hb1, hb1.mono hlo⟩
  | false =>
    have hno : x.v ∉ lk.map (·.2) := by rw [hany] at hin; exact of_decide_eq_false hin
    rw [← hany, hin] at K1
    have HNO := Lib.hid hno
    have HIN := Lib.hid hin
    have HA := Lib.hid hA
    have HM := Lib.hid hM
    have HP := Lib.hid (And.intro hp1 (And.intro hp2 hp3))
    have HE := Lib.hid (And.intro he1 he2)
    have HVM := Lib.hid hvm
    have B0 := Lib.hid hB
    have O0 := Lib.hid hO
    have T0 := Lib.hid hT
    have K0 := Lib.hid hK
    have V0 := Lib.hid hV
    have R0 := Lib.hid hR
    clear hB hO hT hK hV hR hp1 hp2 hp3 he1 he2 hA hM hin hany HOS hno
    by_cases hfull : n = 4000
    · subst hfull
      go_enter Tryz.func132, Tryz.ntmps132
      go_wp2_with fail
      refine Calls.mono K1.out ?_
      rintro e w1 ⟨p, rfl, hp, hb1⟩
      have B1 := Lib.hid (B0.out.keep hb1)
      have hs1 := hb1.size
      clear hp c0 c1 c2 c3 zl zf
      have c0 := B1.out.cell 0
      have c3 := B1.out.cell 3
      have zl := B1.out.lt
      have zf := B1.out.free
      simp at c0 c3
      go_wp2
      refine bodyPost_ret (v := .tuple #[]) (by simp [results, Tryz.results132, go_sem]) rfl ⟨rfl, ?_, (StepW.below hb1).trans (StepW.set b w1 3 _), (hb1.mono hlo).setCell (by simp; omega) _⟩
      rw [(addS_full HIN.out HN.out).1, (addS_full HIN.out HN.out).2]
      have hBn := B1.out.put9 3 (.bool true)
      simp at hBn
      refine ⟨oa, oc, ta, tc, ka, kc, l1, lt, lk, by rw [HN.out]; exact hBn, hlb, by rw [HN.out]; exact (O0.out.keep hb1).setB B1.out _ _, by rw [HN.out]; exact (T0.out.keep hb1).setB B1.out _ _, by rw [HN.out]; exact (K0.out.keep hb1).setB B1.out _ _, HP.out, HE.out.1, HE.out.2, HA.out, HM.out⟩
    · have hne : ¬ (n : Int) = 4000 := by omega
      go_enter Tryz.func132, Tryz.ntmps132
      go_wp2_with fail
      refine Calls.mono K1.out ?_
      rintro e w1 ⟨p0, rfl, hp0, hb1⟩
      have B1 := Lib.hid (B0.out.keep hb1)
      have O1 := Lib.hid (O0.out.keep hb1)
      have T1 := Lib.hid (T0.out.keep hb1)
      have K9 := Lib.hid (K0.out.keep hb1)
      have V1 := Lib.hid (V0.out.keep hb1)
      have R1 := Lib.hid (R0.out.keep hb1)
      have hs1 := hb1.size
      have ST1 := Lib.hid (And.intro (StepW.below (b := b) hb1) (hb1.mono hlo))
      clear hp0 c0 c1 c2 c3 zl zf hb1
      have c0 := B1.out.cell 0
      have zl := B1.out.lt
      have zf := B1.out.free
      simp at c0
      go_wp2_with (at_builtin; refine appS rfl _ _ rfl lo lo _ _ _ _ O1.out rfl _ rfl rfl (⟨va, vn, vc⟩, x.v) V1.out _ rfl (by omega) (by omega) ?_; intro g2 oc2 w2 ho2 hb2 ht2 hat2 hs2; refine Hid.out ?_)
      have B2 := Lib.hid (blk_touch B1.out ht2 O1.out)
      have O2 := Lib.hid ho2
      have T2 := Lib.hid (row_touch T1.out ht2 O1.out HP.out.1.symm)
      have K2 := Lib.hid (row_touch K9.out ht2 O1.out HP.out.2.1.symm)
      have V2 := Lib.hid (own_touch V1.out ht2 O1.out)
      have R2 := Lib.hid (own_touch R1.out ht2 O1.out)
      have ST2 := Lib.hid (And.intro (ST1.out.1.trans (StepW.touch (b := b) O1.out ht2)) (ST1.out.2.trans hb2))
      have hA1 : Apart (some ⟨g2, 0, none⟩) ta := by
        rcases hat2 with h | h
        · rw [← h]; exact HP.out.1
        · exact fun g e e' => by cases e; have := (T1.out.row.blk _ e').2; omega
      have hA2 : Apart (some ⟨g2, 0, none⟩) ka := by
        rcases hat2 with h | h
        · rw [← h]; exact HP.out.2.1
        · exact fun g e e' => by cases e; have := (K9.out.row.blk _ e').2; omega
      have HAP := Lib.hid (And.intro hA1 hA2)
      have hg2 := (O2.out.row.blk g2 rfl)
      clear c0 zl zf ho2 hb2 ht2 hat2 hA1 hA2
      have c0 := B2.out.cell 0
      have c1 := B2.out.cell 1
      have zl := B2.out.lt
      have zf := B2.out.free
      simp at c0 c1
      have B3 := Lib.hid (show Blk (w2.setCell ⟨b, 0, none⟩ (.slice (some ⟨g2, 0, none⟩) (n + 1) oc2)) b #[.slice (some ⟨g2, 0, none⟩) (n + 1) oc2, .slice ta n tc, .slice ka n kc, .bool false] 73 by have h := B2.out.put9 0 (.slice (some ⟨g2, 0, none⟩) (n + 1) oc2); simpa using h)
      have O3 := Lib.hid (show SRow (w2.setCell ⟨b, 0, none⟩ (.slice (some ⟨g2, 0, none⟩) (n + 1) oc2)) lo lo (some ⟨g2, 0, none⟩) (n + 1) oc2 _ from O2.out.setB B2.out _ _)
      have T3 := Lib.hid (show SRow (w2.setCell ⟨b, 0, none⟩ (.slice (some ⟨g2, 0, none⟩) (n + 1) oc2)) lo lo ta n tc _ from T2.out.setB B2.out _ _)
      have K3 := Lib.hid (show SRow (w2.setCell ⟨b, 0, none⟩ (.slice (some ⟨g2, 0, none⟩) (n + 1) oc2)) lo lo ka n kc _ from K2.out.setB B2.out _ _)
      have V3 := Lib.hid (show OwnI 2 (w2.setCell ⟨b, 0, none⟩ (.slice (some ⟨g2, 0, none⟩) (n + 1) oc2)) lo va vn vc x.v from own_setB V2.out B2.out _ _)
      have R3 := Lib.hid (show OwnI 2 (w2.setCell ⟨b, 0, none⟩ (.slice (some ⟨g2, 0, none⟩) (n + 1) oc2)) lo ra rn rc x.tr from own_setB R2.out B2.out _ _)
      have ST3 := Lib.hid (show StepW b w (w2.setCell ⟨b, 0, none⟩ (.slice (some ⟨g2, 0, none⟩) (n + 1) oc2)) ∧ Below lo w (w2.setCell ⟨b, 0, none⟩ (.slice (some ⟨g2, 0, none⟩) (n + 1) oc2)) from ⟨ST2.out.1.trans (StepW.set b w2 0 _), ST2.out.2.setCell hlb _⟩)
      have hs3 : (w2.setCell ⟨b, 0, none⟩ (.slice (some ⟨g2, 0, none⟩) (n + 1) oc2)).heap.size = w2.heap.size := by simp [World.setCell]
      have hlo3 : lo ≤ (w2.setCell ⟨b, 0, none⟩ (.slice (some ⟨g2, 0, none⟩) (n + 1) oc2)).heap.size := by omega
      refine Lib.hid ?_
      go_wp2_with (at_builtin; refine appS rfl _ _ rfl lo lo _ _ _ _ T3.out rfl w2.heap.size rfl hs3.symm (⟨ra, rn, rc⟩, x.tr) R3.out _ rfl (by omega) hlo3 ?_; intro g4 tc4 w4 ho4 hb4 ht4 hat4 hs4; refine Hid.out ?_)
      have B4 := Lib.hid (blk_touch B3.out ht4 T3.out)
      have T4 := Lib.hid ho4
      have O4 := Lib.hid (row_touch O3.out ht4 T3.out HAP.out.1)
      have K4 := Lib.hid (row_touch K3.out ht4 T3.out HP.out.2.2.symm)
      have V4 := Lib.hid (own_touch V3.out ht4 T3.out)
      have ST4 := Lib.hid (And.intro (ST3.out.1.trans (StepW.touch (b := b) T3.out ht4)) (ST3.out.2.trans hb4))
      have hA3 : Apart (some ⟨g2, 0, none⟩) (some ⟨g4, 0, none⟩) := by
        rcases hat4 with h | h
        · rw [← h]; exact HAP.out.1
        · exact fun g e e' => by cases e; cases e'; omega
      have HA3 := Lib.hid hA3
      have hg4 := (T4.out.row.blk g4 rfl)
      have hg24 := (O4.out.row.blk g2 rfl)
      clear c0 c1 zl zf ho4 hb4 ht4 hat4 hA3 hg2
      have c1 := B4.out.cell 1
      have c2 := B4.out.cell 2
      have zl := B4.out.lt
      have zf := B4.out.free
      simp at c1 c2
      have B5 := Lib.hid (show Blk (w4.setCell ⟨b, 1, none⟩ (.slice (some ⟨g4, 0, none⟩) (n + 1) tc4)) b #[.slice (some ⟨g2, 0, none⟩) (n + 1) oc2, .slice (some ⟨g4, 0, none⟩) (n + 1) tc4, .slice ka n kc, .bool false] 73 by have h := B4.out.put9 1 (.slice (some ⟨g4, 0, none⟩) (n + 1) tc4); simpa using h)
      have K5 := Lib.hid (show SRow (w4.setCell ⟨b, 1, none⟩ (.slice (some ⟨g4, 0, none⟩) (n + 1) tc4)) lo lo ka n kc _ from K4.out.setB B4.out _ _)
      have V5 := Lib.hid (show OwnI 2 (w4.setCell ⟨b, 1, none⟩ (.slice (some ⟨g4, 0, none⟩) (n + 1) tc4)) lo va vn vc x.v from own_setB V4.out B4.out _ _)
      have hs5 : (w4.setCell ⟨b, 1, none⟩ (.slice (some ⟨g4, 0, none⟩) (n + 1) tc4)).heap.size = w4.heap.size := by simp [World.setCell]
      refine Lib.hid ?_
      go_wp2_with fail
      refine Calls.mono (spec_l20Insert K5.out V5.out HA.out HVM.out hm (by omega) HNO.out) ?_
      rintro e w6 ⟨p, a6, c6, rfl, hp6, ho6, hb6⟩
      have B6 := Lib.hid (B5.out.keep hb6)
      have K6 := Lib.hid ho6
      have HP6 := Lib.hid hp6
      have HB6 := Lib.hid hb6
      have hs6 := hb6.size
      clear c1 c2 zl zf hp6 ho6 hb6
      have c2 := B6.out.cell 2
      simp at c2
      have zl := B6.out.lt
      have zf := B6.out.free
      go_wp2
      (try simp only [Exit.inBlock, Exit.then])
      refine bodyPost_end (results_none rfl _ _ _) rfl ⟨rfl, ?_, ?_, ?_⟩
      · have hn : L.length ≠ 4000 := by rw [HN.out]; exact hfull
        rw [(addS_new HIN.out hn).1, (addS_new HIN.out hn).2]
        have hL1 : (L ++ [x]).length = n + 1 := by rw [List.length_append, HN.out]; rfl
        obtain ⟨hI1, hI2⟩ := asc_insert HA.out HVM.out HP6.out HNO.out
        have hmap : (lk.take p ++ [((⟨va, vn, vc⟩ : QM), x.v)] ++ lk.drop p).map (·.2) = (lk.map (·.2)).take p ++ [x.v] ++ (lk.map (·.2)).drop p := by simp [List.map_take, List.map_drop]
        have hB7 := B6.out.put9 2 (.slice a6 (n + 1) c6)
        simp at hB7
        refine ⟨_, oc2, _, tc4, a6, c6, _, _, _, by rw [hL1]; exact hB7, hlb, by rw [hL1]; exact ((O4.out.setB B4.out 1 _).keep HB6.out).setB B6.out _ _, by rw [hL1]; exact ((T4.out.setB B4.out 1 _).keep HB6.out).setB B6.out _ _, by rw [hL1]; exact (K6.out.le (by omega) (Nat.le_refl _)).setB B6.out _ _, ⟨HA3.out, fun g e e' => by cases e; have := (K6.out.row.blk _ e').1; omega, fun g e e' => by cases e; have := (K6.out.row.blk _ e').1; omega⟩, by simp [HE.out.1], by simp [HE.out.2], by rw [hmap]; exact hI1, fun y => by rw [hmap, hI2, HM.out]; simp; exact or_comm⟩
      · exact ((ST4.out.1.trans (StepW.set b w4 1 _)).trans (StepW.below HB6.out)).trans (StepW.set b w6 2 _)
      · exact ((ST4.out.2.setCell hlb _).trans (HB6.out.mono (by omega))).setCell hlb _
end Go.Proofs.YtfnamjkmkoldeaaGreatDoor
