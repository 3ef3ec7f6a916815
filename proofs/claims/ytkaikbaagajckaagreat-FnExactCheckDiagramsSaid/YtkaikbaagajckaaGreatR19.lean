/- The reference's search through all states of a model, walked. -/
import Derived.Test.YtkaikbaagajckaaGreatR17
import Derived.Test.YtkaikbaagajckaaGreatR18
import Derived.Test.YtkaikbaagajckaaGreatR12
namespace Go.Proofs.YtkaikbaagajckaaGreat
open Go.RowKit
set_option linter.unusedVariables false
set_option linter.unusedSimpArgs false
theorem enc1_one (y : Int) : ∀ u ∈ enc1 y, u.oneCell' = true := fun u hu => by simp [enc1] at hu; subst hu; rfl
theorem own_lit1 {w : World} {T : TypeId} {z : Int} (hz : I64 z) : OwnI T (w.alloc (.cells #[.int .i64 z] T)) w.heap.size (some ⟨w.heap.size, 0, none⟩) 1 1 [z] :=
  OwnF.i1 (OwnF.lit w [z] (Nat.le_refl _) rfl (by decide) (fun _ => rfl) (fun y hy => by simp at hy; rw [hy]; exact hz) rfl)
theorem SpSt.blk {w : World} {lo b m : Nat} {L : List SN} {ov : Bool} (h : SpSt w lo b m L ov) : ∃ oa oc ta tc ka kc lo' lt, Blk w b #[.slice oa L.length oc, .slice ta L.length tc, .slice ka L.length kc, .bool ov] 93 ∧ SRow w lo lo oa L.length oc lo' ∧ SRow w lo lo ta L.length tc lt ∧ lo'.map (·.2) = L.map (·.v) ∧ lt.map (·.2) = L.map (·.tr) := by
  obtain ⟨oa, oc, ta, tc, ka, kc, l1, l2, l3, h1, h2, h3, h4, h5, h6, h7, h8, _⟩ := h
  exact ⟨oa, oc, ta, tc, ka, kc, l1, l2, h1, h3, h4, h7, h8⟩
theorem SpSt.start {w : World} {lo m : Nat} (hl : lo ≤ w.heap.size) : SpSt (w.alloc (.cells #[.slice none 0 0, .slice none 0 0, .slice none 0 0, .bool false] 93)) lo w.heap.size m [] false :=
  ⟨none, 0, none, 0, none, 0, [], [], [], Blk.made _ _ _, hl, SRow.nil _ _ _, SRow.nil _ _ _, SRow.nil _ _ _, ⟨(fun g e => by cases e), (fun g e => by cases e), (fun g e => by cases e)⟩, rfl, rfl, ⟨(fun x hx => by cases hx), List.Pairwise.nil⟩, fun y => Iff.rfl⟩
/-- where the reference's search stands before it looks at state k -/
def RunAt (rs : List RuD) (st : List Int) (k : Nat) (L : List SN) (ov : Bool) : Prop :=
  L.length ≤ 4000 ∧ (ov = false → k ≤ L.length ∧ ∃ f, f + k = 4002 ∧ runN9 rs f k L = bfsP rs st) ∧ (ov = true → bfsP rs st = none)
/-- .. before it looks at the i-th enabled rule there -/
def InAt (rs : List RuD) (k : Nat) (y : SN) (L : List SN) (i : Nat) (L' : List SN) (ov : Bool) : Prop :=
  L'.length ≤ 4000 ∧ (ov = false → L' = expT rs k y L i) ∧ (ov = true → 4000 < (expN rs k y L).length)
theorem InAt.step {rs : List RuD} {k : Nat} {y : SN} {L : List SN} {i : Nat} {L' : List SN} {q : Nat} {v : List Int} (h : InAt rs k y L i L' false) (hn : (nextP rs y.v)[i]? = some (q, v)) : InAt rs k y L (i + 1) (addS L' ⟨v, k, q, y.dp + 1, y.tr ++ [(q : Int)]⟩) (addO L' ⟨v, k, q, y.dp + 1, y.tr ++ [(q : Int)]⟩) := by
  obtain ⟨h1, h2, _⟩ := h
  have h2 := h2 rfl
  cases ha : L'.any (fun y => y.v == v) with
  | true =>
    rw [(addS_old (x := ⟨v, k, q, y.dp + 1, y.tr ++ [(q : Int)]⟩) ha).1, (addS_old (x := ⟨v, k, q, y.dp + 1, y.tr ++ [(q : Int)]⟩) ha).2]
    refine ⟨h1, fun _ => ?_, fun e => by cases e⟩
    rw [expT_step hn, ← h2, addN_old ha]
  | false =>
    by_cases hl : L'.length = 4000
    · rw [(addS_full (x := ⟨v, k, q, y.dp + 1, y.tr ++ [(q : Int)]⟩) ha hl).1, (addS_full (x := ⟨v, k, q, y.dp + 1, y.tr ++ [(q : Int)]⟩) ha hl).2]
      refine ⟨h1, (fun e => by cases e), fun _ => ?_⟩
      exact exp_over hn (by rw [← h2]; omega) (by rw [← h2]; exact ha)
    · rw [(addS_new (x := ⟨v, k, q, y.dp + 1, y.tr ++ [(q : Int)]⟩) ha hl).1, (addS_new (x := ⟨v, k, q, y.dp + 1, y.tr ++ [(q : Int)]⟩) ha hl).2]
      refine ⟨by rw [List.length_append, List.length_singleton]; omega, fun _ => ?_, fun e => by cases e⟩
      rw [expT_step hn, ← h2, addN_new ha]
theorem sn_step {sz : List Int} {k : Nat} {y : SN} {L' : List SN} {q : Nat} {v : List Int} (h : SNs sz L') (hy : L'[k]? = some y) (hv : SV sz v) : SNs sz (addS L' ⟨v, k, q, y.dp + 1, y.tr ++ [(q : Int)]⟩) := by
  have h1 := h.add hy (r := (q, v)) hv
  cases ha : L'.any (fun y => y.v == v) with
  | true => rw [(addS_old (x := ⟨v, k, q, y.dp + 1, y.tr ++ [(q : Int)]⟩) ha).1]; exact h
  | false =>
    by_cases hl : L'.length = 4000
    · rw [(addS_full (x := ⟨v, k, q, y.dp + 1, y.tr ++ [(q : Int)]⟩) ha hl).1]; exact h
    · rw [(addS_new (x := ⟨v, k, q, y.dp + 1, y.tr ++ [(q : Int)]⟩) ha hl).1]
      rw [addN_new ha] at h1; exact h1
theorem tr_len {sz : List Int} {L : List SN} (h : SNs sz L) : ∀ (j : Nat) (y : SN), L[j]? = some y → y.tr.length ≤ j := by
  intro j
  induction j using Nat.strongRecOn with
  | _ j ih =>
    intro y hy
    rcases h.fr j y hy with ⟨_, h1⟩ | ⟨k, z, _, h2, h3, h4⟩
    · rw [h1]; simp
    · have := ih k h2 z h3
      rw [h4, List.length_append, List.length_singleton]; omega
theorem OwnI.al {E : TypeId} {w w0 : World} {o : Obj} {B base : Nat} {a : Option Addr} {n c : Nat} {l : List Int} (h : OwnI E w base a n c l) (_ : Below B w0 (w.alloc o)) : OwnI E (w.alloc o) base a n c l := h.keep ((Below.refl _ _).alloc (Nat.le_refl _) o)
theorem lit_of {w w0 : World} {B : Nat} {T : TypeId} {z : Int} (_ : Below B w0 (w.alloc (.cells #[.int .i64 z] T))) (hz : I64 z) : OwnI T (w.alloc (.cells #[.int .i64 z] T)) w.heap.size (some ⟨w.heap.size, 0, none⟩) 1 1 [z] := own_lit1 hz
theorem lit_ofd {w w0 : World} {B : Nat} {T : TypeId} {z : Int} (_ : Below B w0 (w.alloc (.cells #[.int .i64 z] T)).drew) (hz : I64 z) : OwnI T (w.alloc (.cells #[.int .i64 z] T)).drew w.heap.size (some ⟨w.heap.size, 0, none⟩) 1 1 [z] := (own_lit1 hz).keep (Below.refl _ _).drew
/-- what the reference's search returns -/
def RunRet (w : World) (rs : List RuD) (st sz : List Int) (e : Ending) (w' : World) : Prop :=
  ∃ b L ov, e = .returned (.pointer (some ⟨b, 0, none⟩)) ∧ SpSt w' w.heap.size b sz.length L ov ∧ Below w.heap.size w w' ∧ bfsP rs st = (if ov = true then none else some L) ∧ SNs sz L
set_option maxHeartbeats 8000000 in
theorem spec_l21Run {sa ta ra : Option Addr} {sn sc tn tc rn rc : Nat} {sz st : List Int} {lr : List (RM × RuD)} {w0 w : World} (hb0 : Below w0.heap.size w0 w) (hR : FR w0 w ra rn rc lr) (hr : rn ≤ 65536) (hT : Ints w ta tn tc st) (htn : tn ≤ 65536)
    (hst : SV sz st) (hru : ∀ r ∈ lr.map (·.2), RuV sz r) (hg : ∀ x ∈ lr, x.1.gn ≤ 1048576 ∧ x.1.en ≤ 1048576) :
    Calls Tryz.prog 120 #[.agg #[.slice sa sn sc, .slice ta tn tc, .slice ra rn rc]] w (RunRet w (lr.map (·.2)) st sz) := by
  obtain ⟨wA, hwA⟩ : ∃ wA : World, wA = w.alloc (.cells #[.slice sa sn sc, .slice ta tn tc, .slice ra rn rc] 36) := ⟨_, rfl⟩
  obtain ⟨wB, hwB⟩ : ∃ wB : World, wB = wA.alloc (.cells #[.slice none 0 0, .slice none 0 0, .slice none 0 0, .bool false] 93) := ⟨_, rfl⟩
  have hsA : wA.heap.size = w.heap.size + 1 := by rw [hwA]; simp
  have hsB : wB.heap.size = w.heap.size + 2 := by rw [hwB]; simp; omega
  have hbA : Below w.heap.size w wA := by rw [hwA]; exact bel
  have hbAB : Below wA.heap.size wA wB := by rw [hwB]; exact bel
  have hbB : Below w.heap.size w wB := below_callS hbA hbAB
  have X := Lib.hid (show Blk wB w.heap.size #[.slice sa sn sc, .slice ta tn tc, .slice ra rn rc] 36 from Blk.keep (by rw [hwA]; exact Blk.made w _ _) hbAB)
  have S0 := Lib.hid (show SpSt wB w.heap.size (w.heap.size + 1) sz.length [] false by
    have h := SpSt.start (w := wA) (lo := w.heap.size) (m := sz.length) (by omega)
    rw [hsA, ← hwB] at h; exact h)
  have HR := Lib.hid hR
  have HT := Lib.hid hT
  have HST := Lib.hid hst
  have HRU := Lib.hid hru
  have HG := Lib.hid hg
  have H0 := Lib.hid hb0
  have htl := hT.len
  have x1 := X.out.cell 1
  have xl := X.out.lt
  simp at x1
  clear hR hT hst hru hg hb0 hbA hbAB
  have Hw := Lib.hid (And.intro hwA hwB)
  clear hwA hwB
  go_enter Tryz.func120, Tryz.ntmps120
  go_wp2_with fail
  rw [← Hw.out.1, ← Hw.out.2]
  refine Calls.mono (spec_l01Own0 (HT.out.keep hbB) (by omega)) ?_
  rintro e w1 ⟨a1, c1, rfl, hb1, ho1⟩
  have hs1 := hb1.size
  have hbc : Below w1.heap.size w1 (w1.alloc (.cells #[] 2)) := bel
  have X1 := Lib.hid ((X.out.keep hb1).keep hbc)
  have S1 := Lib.hid ((S0.out.keep hb1).keep hbc)
  have V1 := Lib.hid ((ho1.keep hbc).le (show w.heap.size ≤ _ by omega))
  have R1 := Lib.hid (OwnI.empty (E := 2) w1 (base := w.heap.size) (by omega))
  have hB1 : Below w.heap.size w (w1.alloc (.cells #[] 2)) := by
    have h1 : Below w.heap.size w w1 := below_call hbB hb1 (by omega)
    exact below_callS h1 hbc
  have HB1 := Lib.hid hB1
  clear hb1 ho1 hbc x1 xl hB1
  go_wp2_with fail
  refine Calls.mono (spec_l21Add (x := ⟨st, -1, 0, 0, []⟩) S1.out V1.out R1.out HST.out.1 (by have := HST.out.1; omega) (by simp) (by simp; omega)) ?_
  rintro e w2 ⟨rfl, hS2, hst2, hbl2⟩
  have hs2 := hst2.size
  simp at hs2
  rw [(addS_new (L := []) (x := ⟨st, -1, 0, 0, []⟩) rfl (by simp)).1, (addS_new (L := []) (x := ⟨st, -1, 0, 0, []⟩) rfl (by simp)).2] at hS2
  have S2 := Lib.hid hS2
  have X2 := Lib.hid (X1.out.keepS hst2 (by omega) (by decide))
  have HB2 := Lib.hid (HB1.out.trans hbl2)
  have SN2 := Lib.hid (SNs.start HST.out)
  have RA := Lib.hid (show RunAt (lr.map (·.2)) st 0 [⟨st, -1, 0, 0, []⟩] false from ⟨by simp, fun _ => ⟨by simp, 4002, rfl, rfl⟩, fun e => by cases e⟩)
  clear hS2 hst2 hbl2 Hw X S0 X1 S1 V1 R1 HB1
  go_wp2_with fail
  go_loopw [4] (fun s4 wr => ∃ (k : Nat) (L : List SN) (ov : Bool), s4 = .int .i64 k ∧ k ≤ 4001 ∧ w.heap.size + 2 ≤ wr.heap.size ∧ Hid (SpSt wr w.heap.size (w.heap.size + 1) sz.length L ov) ∧ Hid (Blk wr w.heap.size #[.slice sa sn sc, .slice ta tn tc, .slice ra rn rc] 36) ∧ Hid (Below w.heap.size w wr) ∧ Hid (SNs sz L) ∧ Hid (RunAt (lr.map (·.2)) st k L ov)) (fun s4 _ => 4002 - (intOf s4).toNat)
  case atStart => exact ⟨0, _, false, rfl, by omega, by omega, S2, X2, HB2, SN2, RA⟩
  case round =>
    clear S2 X2 HB2 SN2 RA hs1 hs2 hsB hbB
    obtain ⟨k, L, ov, rfl, hk, hsr, SS, X, HB, NS, RA⟩ := hrel
    have hk0 : (0 : Int) ≤ (k : Int) := by omega
    obtain ⟨oa, oc, ta', tc', ka, kc, lo', lt, hBlk, hO, hTr, he1, he2⟩ := SS.out.blk
    obtain ⟨n, hn⟩ : ∃ n : Nat, L.length = n := ⟨_, rfl⟩
    have HN := Lib.hid hn
    rw [hn] at hBlk hO hTr
    have hn4 : n ≤ 4000 := by rw [← hn]; exact RA.out.1
    clear hn
    have c0 := hBlk.cell 0
    have c1 := hBlk.cell 1
    have c3 := hBlk.cell 3
    have zl := hBlk.lt
    simp at c0 c1 c3
    cases ov with
    | true =>
      have HD := Lib.hid (RA.out.2.2 rfl)
      have HF := Lib.hid (show bfsP (lr.map (·.2)) st = (if true = true then none else some L) by rw [HD.out]; rfl)
      clear hBlk hO hTr he1 he2
      by_cases hkn : k < n
      · have hkn' : (k : Int) < (n : Int) := by omega
        go_wp2
        go_ret
        exact ⟨w.heap.size + 1, L, true, rfl, SS.out, HB.out, HF.out, NS.out⟩
      · have hkn' : ¬ (k : Int) < (n : Int) := by omega
        go_wp2
        go_ret
        exact ⟨w.heap.size + 1, L, true, rfl, SS.out, HB.out, HF.out, NS.out⟩
    | false =>
      obtain ⟨hkL, f, hf, hrun⟩ := RA.out.2.1 rfl
      have HRN := Lib.hid hrun
      have hkn0 : k ≤ n := by rw [← HN.out]; exact hkL
      by_cases hkn : k < n
      · have hkn' : (k : Int) < (n : Int) := by omega
        obtain ⟨bo, oo, R, v, rfl, hbo, hlv, hov, co⟩ := hO.get hkn
        obtain ⟨bt, ot, R', tr, rfl, hbt, hltr, hot, ct⟩ := hTr.get hkn
        obtain ⟨y, hy⟩ : ∃ y, L[k]? = some y := ⟨_, List.getElem?_eq_getElem (by rw [HN.out]; exact hkn)⟩
        have hyv : y.v = v := by
          have h : (lo'.map (·.2))[k]? = some v := by rw [List.getElem?_map, hlv]; rfl
          rw [he1, List.getElem?_map, hy] at h; simpa using h
        have hyt : y.tr = tr := by
          have h : (lt.map (·.2))[k]? = some tr := by rw [List.getElem?_map, hltr]; rfl
          rw [he2, List.getElem?_map, hy] at h; simpa using h
        subst hyv hyt
        have HY := Lib.hid hy
        have OV := Lib.hid hov
        have OT := Lib.hid hot
        have m0 := X.out.cell 0
        have m1 := X.out.cell 1
        have m2 := X.out.cell 2
        have ml := X.out.lt
        simp at m0 m1 m2
        clear hBlk hO hTr he1 he2 hlv hov hltr hot hy hrun hkL
        have hLV := NS.out.sv y (List.mem_of_getElem? HY.out)
        have hvl : y.v.length = R.n := OV.out.ints.len
        have hRn : R.n ≤ 65536 := by rw [← hvl, hLV.1, ← HST.out.1, htl]; exact htn
        have hb0r : Below w0.heap.size w0 wr := H0.out.trans (HB.out.mono H0.out.size)
        have K6 := Lib.hid (fun (wx : World) (hx : Below wr.heap.size wr wx) => spec_l20Enabled (sa := sa) (ta := ta) (sn := sn) (sc := sc) (tn := tn) (tc := tc) (v := y.v) (hb0r.trans (hx.mono hb0r.size)) (Flats.keep (Flats.keep HR.out HB.out) hx) (by omega) (OV.out.ints.keep hx) (fun x hx t ht => by
          have := (HRU.out _ (List.mem_map_of_mem hx)).1 t ht
          rw [← hvl, hLV.1]; exact this) (fun x hx => (HG.out x hx).1))
        have hbr : Below wr.heap.size wr wr := Below.refl _ _
        clear hLV hb0r
        go_wp2_with fail
        go_region_held3 (fun wx => wx.cell? ⟨w.heap.size, 0, none⟩ = some (.slice sa sn sc) ∧ wx.cell? ⟨w.heap.size, 1, none⟩ = some (.slice ta tn tc) ∧ wx.cell? ⟨w.heap.size, 2, none⟩ = some (.slice ra rn rc) ∧ wx.cell? ⟨w.heap.size + 1, 0, none⟩ = some (.slice (some ⟨bo, oo, none⟩) n oc) ∧ wx.cell? ⟨bo, oo + k, none⟩ = some (.slice R.a R.n R.c) ∧ w.heap.size < wx.heap.size ∧ w.heap.size + 1 < wx.heap.size ∧ bo < wx.heap.size ∧ Below wr.heap.size wr wx) (((try go_split_ands); (repeat' apply And.intro) <;> first | (with_reducible assumption) | (with_reducible exact cell_drew (by with_reducible assumption)) | (with_reducible exact lt_drew (by with_reducible assumption)) | (with_reducible exact Below.drew (by with_reducible assumption)) | (with_reducible exact (hcx _ _ (by with_reducible assumption)).trans (by with_reducible assumption)) | (with_reducible exact Nat.lt_of_lt_of_le (by with_reducible assumption) hsx) | (with_reducible exact below_callS (by with_reducible assumption) hbx) | omega)) (first | (go_at_call 93; go_split_ands; refine Calls.mono (K6.out _ (by assumption)) ?_; rintro e w6 ⟨ae, ne, ce, rfl, hoe, hne, hbx⟩; have HOE := Lib.hid hoe; obtain ⟨hcx, hfx⟩ := bcell hbx; have hsx := hbx.size))
        have hb6 : Below wr.heap.size wr w6 := by go_split_ands; assumption
        have OE6 := Lib.hid (HOE.out.le (show wr.heap.size ≤ _ from Nat.le_refl _))
        have hEl : (enabI (lr.map (·.2)) y.v rn).length = ne := OE6.out.ints.len
        have HEL := Lib.hid hEl
        have hs6 := hb6.size
        have S6 := Lib.hid (SS.out.keep hb6)
        have X6 := Lib.hid (X.out.keep hb6)
        have B6 := Lib.hid (below_call HB.out hb6 HB.out.size)
        have IN6 := Lib.hid (show InAt (lr.map (·.2)) k y L 0 L false from ⟨RA.out.1, fun _ => rfl, fun e => by cases e⟩)
        have OVL := Lib.hid OV.out.ints
        have hRn' : R'.n = y.tr.length := OT.out.ints.len.symm
        have hT4 : R'.n ≤ 4000 := by rw [hRn']; have := tr_len NS.out k y HY.out; omega
        have HVL := Lib.hid (show y.v.length = sz.length from (NS.out.sv y (List.mem_of_getElem? HY.out)).1)
        have HVN := Lib.hid hvl
        have HRLN := Lib.hid (show (lr.map (·.2)).length = rn by rw [List.length_map]; exact HR.out.len)
        have HWR := Lib.hid hb6
        clear hbr K6 HOE hoe hbx hcx hfx hsx hEl c0 c1 c3 m0 m1 m2 ml zl co ct hbo hbt hvl hRn'
        go_split_ands
        go_wp2_with fail
        go_loopw [6] (fun s6 wq => ∃ (i : Nat) (L' : List SN) (ov' : Bool), s6 = .int .i64 i ∧ i ≤ ne ∧ w.heap.size + 2 ≤ wq.heap.size ∧ Hid (SpSt wq w.heap.size (w.heap.size + 1) sz.length L' ov') ∧ Hid (Blk wq w.heap.size #[.slice sa sn sc, .slice ta tn tc, .slice ra rn rc] 36) ∧ Hid (OwnI 2 wq wr.heap.size ae ne ce (enabI (lr.map (·.2)) y.v rn)) ∧ Hid (Below w.heap.size w wq) ∧ Hid (SNs sz L') ∧ Hid (InAt (lr.map (·.2)) k y L i L' ov')) (fun s6 _ => ne + 1 - (intOf s6).toNat)
        case atStart => exact ⟨0, L, false, rfl, by omega, by omega, S6, X6, OE6, B6, NS, IN6⟩
        case round =>
          clear S6 X6 OE6 B6 IN6 SS X OV OT
          obtain ⟨i, L', ov', rfl, hi, hsq, SS, X, OE, HBq, NSq, IN⟩ := hrel
          have hi0 : (0 : Int) ≤ (i : Int) := by omega
          obtain ⟨oa2, oc2, ta2, tc2, ka2, kc2, lo2, lt2, hBlk, hO, hTr, he1, he2⟩ := SS.out.blk
          have HBK := Lib.hid hBlk
          have c3 := hBlk.cell 3
          have zl := hBlk.lt
          simp at c3
          have hend : ∀ (d : ov' = true ∨ ne ≤ i), Hid (∃ ov2, RunAt (lr.map (·.2)) st (k + 1) L' ov2 ∧ ov2 = ov') := fun d => Lib.hid (by
            refine ⟨ov', ⟨IN.out.1, fun e => ?_, fun e => ?_⟩, rfl⟩
            · subst e
              have hd := d.resolve_left (by simp)
              have h1 : L' = expN (lr.map (·.2)) k y L := by
                rw [IN.out.2.1 rfl]; exact expT_all (by rw [nextP_len, HRLN.out, HEL.out]; exact hd)
              have h2 := IN.out.1
              refine ⟨?_, f - 1, by omega, ?_⟩
              · rw [h1]
                have h3 := expT_pre (rs := lr.map (·.2)) (i := k) (x := y) (L := L) 0
                have h4 := expN_len (rs := lr.map (·.2)) (i := k) (x := y) (L := L) (j := 0)
                rw [HN.out] at h3; omega
              · rw [h1, ← HRN.out, show f = (f - 1) + 1 from by omega]
                exact (runN9_step HY.out (by rw [← h1]; omega)).symm
            · rw [← HRN.out, show f = (f - 1) + 1 from by omega]
              exact runN9_over HY.out (IN.out.2.2 e))
          cases ov' with
          | true =>
            have HE := hend (.inl rfl)
            clear hBlk hO hTr he1 he2 hend
            by_cases hin : i < ne
            · have hin' : (i : Int) < (ne : Int) := by omega
              go_wp2
              go_roundw
              case rel =>
                obtain ⟨ov2, hra, rfl⟩ := HE.out
                exact ⟨k + 1, L', true, by go_num, by omega, hsq, SS, X, HBq, NSq, Lib.hid hra⟩
              case measure => simp [intOf]; omega
            · have hin' : ¬ (i : Int) < (ne : Int) := by omega
              go_wp2
              go_roundw
              case rel =>
                obtain ⟨ov2, hra, rfl⟩ := HE.out
                exact ⟨k + 1, L', true, by go_num, by omega, hsq, SS, X, HBq, NSq, Lib.hid hra⟩
              case measure => simp [intOf]; omega
          | false =>
            by_cases hin : i < ne
            · have hin' : (i : Int) < (ne : Int) := by omega
              obtain ⟨be, oe', z, rfl, hbe, hz, ce', hz64⟩ := OE.out.ints.at hin
              rw [← HRLN.out] at hz
              obtain ⟨q, r, rfl, hq, hrq, _, hnx⟩ := enabI_at hz
              have hq64 : I64 (q : Int) := hz64
              obtain ⟨⟨R2, r2⟩, hxr⟩ : ∃ x, lr[q]? = some x := ⟨_, List.getElem?_eq_getElem (by rw [List.length_map] at hq; exact hq)⟩
              have hrr : r2 = r := by
                have h1 : (lr.map (·.2))[q]? = some r2 := by rw [List.getElem?_map, hxr]; rfl
                rw [h1] at hrq; simpa using hrq
              subst hrr
              have hLk : L'[k]? = some y := by rw [IN.out.2.1 rfl]; exact expT_at HY.out i
              obtain ⟨n2, hn2⟩ : ∃ n2 : Nat, L'.length = n2 := ⟨_, rfl⟩
              have hkn2 : k < n2 := by rw [← hn2]; exact (List.getElem?_eq_some_iff.1 hLk).1
              have hkn2' : (k : Int) < (n2 : Int) := by omega
              rw [hn2] at hBlk hO hTr
              clear hn2
              obtain ⟨bo2, oo2, Ra, va, rfl, hbo, hlv, hov, co⟩ := hO.get hkn2
              obtain ⟨bt2, ot2, Rb, tb, rfl, hbt, hltr, hot, ct⟩ := hTr.get hkn2
              have hva : va = y.v := by
                have h : (lo2.map (·.2))[k]? = some va := by rw [List.getElem?_map, hlv]; rfl
                rw [he1, List.getElem?_map, hLk] at h; simpa using h.symm
              have htb : tb = y.tr := by
                have h : (lt2.map (·.2))[k]? = some tb := by rw [List.getElem?_map, hltr]; rfl
                rw [he2, List.getElem?_map, hLk] at h; simpa using h.symm
              subst hva htb
              have OV := Lib.hid hov
              have OT := Lib.hid hot
              have c0 := hBlk.cell 0
              have c1 := hBlk.cell 1
              simp at c0 c1
              have m0 := X.out.cell 0
              have m1 := X.out.cell 1
              have m2 := X.out.cell 2
              have ml := X.out.lt
              simp at m0 m1 m2
              have hvl : y.v.length = Ra.n := OV.out.ints.len
              have hRa : Ra.n ≤ 65536 := by rw [← hvl, HVL.out, ← HST.out.1, htl]; exact htn
              have hRb : Rb.n ≤ 4000 := by
                have h := tr_len NSq.out k y hLk
                rw [← OT.out.ints.len]; omega
              have hruv := HRU.out r2 (List.mem_of_getElem? hrq)
              have hSV2 : SV sz (applyP y.v r2.e) := sv_apply (NSq.out.sv y (List.mem_of_getElem? hLk)) fun a ha z hz => (hruv.2 a ha).2.2 z hz
              have hb0r : Below w0.heap.size w0 wr := H0.out.trans (HBq.out.mono H0.out.size)
              have hloq : w.heap.size ≤ wr.heap.size := by omega
              have KA := Lib.hid (fun (wx : World) (hx : Below wr.heap.size wr wx) => spec_l20Apply (sa := sa) (ta := ta) (sn := sn) (sc := sc) (tn := tn) (tc := tc) (hb0r.trans (hx.mono hb0r.size)) (Flats.keep (Flats.keep HR.out HBq.out) hx) hxr (OV.out.ints.keep hx) (by omega) (fun a ha => by
                have := hruv.2 a ha
                rw [← hvl, HVL.out]; exact ⟨this.1, this.2.1⟩))
              have KO := Lib.hid (fun (wx : World) (hx : Below wr.heap.size wr wx) => spec_l01Own0 (OT.out.ints.keep hx) (by omega))
              have KS := Lib.hid (fun (wx : World) (hx : Below wr.heap.size wr wx) {a13 aT2 : Option Addr} {c13 cT2 : Nat} (hV : OwnI 2 wx wr.heap.size a13 Ra.n c13 (applyP y.v r2.e)) (hT : OwnI 2 wx wr.heap.size aT2 (Rb.n + 1) cT2 (y.tr ++ [(q : Int)])) => spec_l21Add (x := ⟨applyP y.v r2.e, (k : Nat), (q : Nat), y.dp + 1, y.tr ++ [(q : Int)]⟩) (SS.out.keep hx) (hV.le hloq) (hT.le hloq) hSV2.1 (by rw [← HVL.out, hvl]; omega) IN.out.1 (Nat.le_trans hloq hx.size))
              have IN3 := Lib.hid (IN.out.step hnx)
              have SN3 := Lib.hid (sn_step (q := q) NSq.out hLk hSV2)
              clear hend hBlk hO hTr he1 he2 hlv hltr hov hot hz hz64 hq hrq hnx hxr hLk hvl hruv hSV2 hb0r SS NSq IN
              go_wp2_with fail
              refine wp_region_noPanic ?_
              refine wp_region_L (L := 28) (S := fun wx => Below wr.heap.size wr wx) (by kernel_rfl) ?_ (fun hHeld => ?_)
              · exact (Below.refl _ _).drew
              refine wpAnyL_take (i := 0) (v := ?_) (by simp only [List.getElem?_toArray, List.getElem?_cons_succ, List.getElem?_cons_zero] <;> rfl) (by kernel_rfl) (by decide) (by kernel_rfl) (by kernel_rfl) (by kernel_rfl) (by kernel_rfl) (fun _ _ _ h => h) (Or.inl ⟨by rfl, ?_⟩) (by assumption) ?_
              rotate_left
              · (intro wv hSw; (try dsimp only at hSw); obtain ⟨hcq, _⟩ := bcell hSw; have hsq := Below.size hSw; go_simp; try with_reducible rfl)
              try simp only [Act.put, s1, s2, s3]
              refine wpAnyL_take (i := 1) (v := ?_) (by simp only [List.getElem?_toArray, List.getElem?_cons_succ, List.getElem?_cons_zero] <;> rfl) (by kernel_rfl) (by decide) (by kernel_rfl) (by kernel_rfl) (by kernel_rfl) (by kernel_rfl) (fun _ _ _ h => h) (Or.inl ⟨by rfl, ?_⟩) (by assumption) ?_
              rotate_left
              · (intro wv hSw; (try dsimp only at hSw); obtain ⟨hcq, _⟩ := bcell hSw; have hsq := Below.size hSw; have p0 := (hcq _ _ ml).trans m0; have p1 := (hcq _ _ ml).trans m1; have p2 := (hcq _ _ ml).trans m2; have pl := Nat.lt_of_lt_of_le ml hsq; go_simp; try with_reducible rfl)
              try simp only [Act.put, s1, s2, s3]
              refine wpAnyL_take (i := 2) (v := ?_) (by simp only [List.getElem?_toArray, List.getElem?_cons_succ, List.getElem?_cons_zero] <;> rfl) (by kernel_rfl) (by decide) (by kernel_rfl) (by kernel_rfl) (by kernel_rfl) (by kernel_rfl) (fun _ _ _ h => h) (Or.inl ⟨by rfl, ?_⟩) (by assumption) ?_
              rotate_left
              · (intro wv hSw; (try dsimp only at hSw); obtain ⟨hcq, _⟩ := bcell hSw; have hsq := Below.size hSw; go_simp; try with_reducible rfl)
              try simp only [Act.put, s1, s2, s3]
              refine wpAnyL_take (i := 3) (v := ?_) (by simp only [List.getElem?_toArray, List.getElem?_cons_succ, List.getElem?_cons_zero] <;> rfl) (by kernel_rfl) (by decide) (by kernel_rfl) (by kernel_rfl) (by kernel_rfl) (by kernel_rfl) (fun _ _ _ h => h) (Or.inl ⟨by rfl, ?_⟩) (by assumption) ?_
              rotate_left
              · (intro wv hSw; (try dsimp only at hSw); obtain ⟨hcq, _⟩ := bcell hSw; have hsq := Below.size hSw; go_simp; try with_reducible rfl)
              try simp only [Act.put, s1, s2, s3]
              refine wpAnyL_take (i := 4) (v := ?_) (by simp only [List.getElem?_toArray, List.getElem?_cons_succ, List.getElem?_cons_zero] <;> rfl) (by kernel_rfl) (by decide) (by kernel_rfl) (by kernel_rfl) (by kernel_rfl) (by kernel_rfl) (fun _ _ _ h => h) (Or.inl ⟨by rfl, ?_⟩) (by assumption) ?_
              rotate_left
              · (intro wv hSw; (try dsimp only at hSw); obtain ⟨hcq, _⟩ := bcell hSw; have hsq := Below.size hSw; go_simp; try with_reducible rfl)
              try simp only [Act.put, s1, s2, s3]
              refine wpAnyL_take (i := 5) (v := ?_) (by simp only [List.getElem?_toArray, List.getElem?_cons_succ, List.getElem?_cons_zero] <;> rfl) (by kernel_rfl) (by decide) (by kernel_rfl) (by kernel_rfl) (by kernel_rfl) (by kernel_rfl) (fun _ _ _ h => h) (Or.inl ⟨by rfl, ?_⟩) (by assumption) ?_
              rotate_left
              · (intro wv hSw; (try dsimp only at hSw); obtain ⟨hcq, _⟩ := bcell hSw; have hsq := Below.size hSw; have p0 := (hcq _ _ zl).trans c0; have pl := Nat.lt_of_lt_of_le zl hsq; go_simp; try with_reducible rfl)
              try simp only [Act.put, s1, s2, s3]
              refine wpAnyL_take (i := 6) (v := ?_) (by simp only [List.getElem?_toArray, List.getElem?_cons_succ, List.getElem?_cons_zero] <;> rfl) (by kernel_rfl) (by decide) (by kernel_rfl) (by kernel_rfl) (by kernel_rfl) (by kernel_rfl) (fun _ _ _ h => h) (Or.inl ⟨by rfl, ?_⟩) (by assumption) ?_
              rotate_left
              · (intro wv hSw; (try dsimp only at hSw); obtain ⟨hcq, _⟩ := bcell hSw; have hsq := Below.size hSw; go_simp; try with_reducible rfl)
              try simp only [Act.put, s1, s2, s3]
              refine wpAnyL_take (i := 7) (v := ?_) (by simp only [List.getElem?_toArray, List.getElem?_cons_succ, List.getElem?_cons_zero] <;> rfl) (by kernel_rfl) (by decide) (by kernel_rfl) (by kernel_rfl) (by kernel_rfl) (by kernel_rfl) (fun _ _ _ h => h) (Or.inl ⟨by rfl, ?_⟩) (by assumption) ?_
              rotate_left
              · (intro wv hSw; (try dsimp only at hSw); obtain ⟨hcq, _⟩ := bcell hSw; have hsq := Below.size hSw; go_simp; try with_reducible rfl)
              try simp only [Act.put, s1, s2, s3]
              refine wpAnyL_take (i := 8) (v := ?_) (by simp only [List.getElem?_toArray, List.getElem?_cons_succ, List.getElem?_cons_zero] <;> rfl) (by kernel_rfl) (by decide) (by kernel_rfl) (by kernel_rfl) (by kernel_rfl) (by kernel_rfl) (fun _ _ _ h => h) (Or.inl ⟨by rfl, ?_⟩) (by assumption) ?_
              rotate_left
              · (intro wv hSw; (try dsimp only at hSw); obtain ⟨hcq, _⟩ := bcell hSw; have hsq := Below.size hSw; have p0 := (hcq _ _ hbo).trans co; have pl := Nat.lt_of_lt_of_le hbo hsq; go_simp; try with_reducible rfl)
              try simp only [Act.put, s1, s2, s3]
              refine wpAnyL_take (i := 9) (v := ?_) (by simp only [List.getElem?_toArray, List.getElem?_cons_succ, List.getElem?_cons_zero] <;> rfl) (by kernel_rfl) (by decide) (by kernel_rfl) (by kernel_rfl) (by kernel_rfl) (by kernel_rfl) (fun _ _ _ h => h) (Or.inl ⟨by rfl, ?_⟩) (by assumption) ?_
              rotate_left
              · (intro wv hSw; (try dsimp only at hSw); obtain ⟨hcq, _⟩ := bcell hSw; have hsq := Below.size hSw; go_simp; try with_reducible rfl)
              try simp only [Act.put, s1, s2, s3]
              refine wpAnyL_take (i := 10) (v := ?_) (by simp only [List.getElem?_toArray, List.getElem?_cons_succ, List.getElem?_cons_zero] <;> rfl) (by kernel_rfl) (by decide) (by kernel_rfl) (by kernel_rfl) (by kernel_rfl) (by kernel_rfl) (fun _ _ _ h => h) (Or.inl ⟨by rfl, ?_⟩) (by assumption) ?_
              rotate_left
              · (intro wv hSw; (try dsimp only at hSw); obtain ⟨hcq, _⟩ := bcell hSw; have hsq := Below.size hSw; go_simp; try with_reducible rfl)
              try simp only [Act.put, s1, s2, s3]
              refine wpAnyL_take (i := 11) (v := ?_) (by simp only [List.getElem?_toArray, List.getElem?_cons_succ, List.getElem?_cons_zero] <;> rfl) (by kernel_rfl) (by decide) (by kernel_rfl) (by kernel_rfl) (by kernel_rfl) (by kernel_rfl) (fun _ _ _ h => h) (Or.inl ⟨by rfl, ?_⟩) (by assumption) ?_
              rotate_left
              · (intro wv hSw; (try dsimp only at hSw); obtain ⟨hcq, _⟩ := bcell hSw; have hsq := Below.size hSw; go_simp; try with_reducible rfl)
              try simp only [Act.put, s1, s2, s3]
              refine wpAnyL_take (i := 12) (v := ?_) (by simp only [List.getElem?_toArray, List.getElem?_cons_succ, List.getElem?_cons_zero] <;> rfl) (by kernel_rfl) (by decide) (by kernel_rfl) (by kernel_rfl) (by kernel_rfl) (by kernel_rfl) (fun _ _ _ h => h) (Or.inl ⟨by rfl, ?_⟩) (by assumption) ?_
              rotate_left
              · (intro wv hSw; (try dsimp only at hSw); obtain ⟨hcq, _⟩ := bcell hSw; have hsq := Below.size hSw; have p0 := (hcq _ _ hbe).trans ce'; have pl := Nat.lt_of_lt_of_le hbe hsq; go_simp; try with_reducible rfl)
              try simp only [Act.put, s1, s2, s3]
              refine wpAnyL_take (i := 14) (v := ?_) (by simp only [List.getElem?_toArray, List.getElem?_cons_succ, List.getElem?_cons_zero] <;> rfl) (by kernel_rfl) (by decide) (by kernel_rfl) (by kernel_rfl) (by kernel_rfl) (by kernel_rfl) (fun _ _ _ h => h) (Or.inl ⟨by rfl, ?_⟩) (by assumption) ?_
              rotate_left
              · (intro wv hSw; (try dsimp only at hSw); obtain ⟨hcq, _⟩ := bcell hSw; have hsq := Below.size hSw; go_simp; try with_reducible rfl)
              try simp only [Act.put, s1, s2, s3]
              refine wpAnyL_take (i := 15) (v := ?_) (by simp only [List.getElem?_toArray, List.getElem?_cons_succ, List.getElem?_cons_zero] <;> rfl) (by kernel_rfl) (by decide) (by kernel_rfl) (by kernel_rfl) (by kernel_rfl) (by kernel_rfl) (fun _ _ _ h => h) (Or.inl ⟨by rfl, ?_⟩) (by assumption) ?_
              rotate_left
              · (intro wv hSw; (try dsimp only at hSw); obtain ⟨hcq, _⟩ := bcell hSw; have hsq := Below.size hSw; go_simp; try with_reducible rfl)
              try simp only [Act.put, s1, s2, s3]
              refine wpAnyL_take (i := 16) (v := ?_) (by simp only [List.getElem?_toArray, List.getElem?_cons_succ, List.getElem?_cons_zero] <;> rfl) (by kernel_rfl) (by decide) (by kernel_rfl) (by kernel_rfl) (by kernel_rfl) (by kernel_rfl) (fun _ _ _ h => h) (Or.inl ⟨by rfl, ?_⟩) (by assumption) ?_
              rotate_left
              · (intro wv hSw; (try dsimp only at hSw); obtain ⟨hcq, _⟩ := bcell hSw; have hsq := Below.size hSw; go_simp; try with_reducible rfl)
              try simp only [Act.put, s1, s2, s3]
              refine wpAnyL_take (i := 17) (v := ?_) (by simp only [List.getElem?_toArray, List.getElem?_cons_succ, List.getElem?_cons_zero] <;> rfl) (by kernel_rfl) (by decide) (by kernel_rfl) (by kernel_rfl) (by kernel_rfl) (by kernel_rfl) (fun _ _ _ h => h) (Or.inl ⟨by rfl, ?_⟩) (by assumption) ?_
              rotate_left
              · (intro wv hSw; (try dsimp only at hSw); obtain ⟨hcq, _⟩ := bcell hSw; have hsq := Below.size hSw; have p0 := (hcq _ _ zl).trans c1; have pl := Nat.lt_of_lt_of_le zl hsq; go_simp; try with_reducible rfl)
              try simp only [Act.put, s1, s2, s3]
              refine wpAnyL_take (i := 18) (v := ?_) (by simp only [List.getElem?_toArray, List.getElem?_cons_succ, List.getElem?_cons_zero] <;> rfl) (by kernel_rfl) (by decide) (by kernel_rfl) (by kernel_rfl) (by kernel_rfl) (by kernel_rfl) (fun _ _ _ h => h) (Or.inl ⟨by rfl, ?_⟩) (by assumption) ?_
              rotate_left
              · (intro wv hSw; (try dsimp only at hSw); obtain ⟨hcq, _⟩ := bcell hSw; have hsq := Below.size hSw; go_simp; try with_reducible rfl)
              try simp only [Act.put, s1, s2, s3]
              refine wpAnyL_take (i := 19) (v := ?_) (by simp only [List.getElem?_toArray, List.getElem?_cons_succ, List.getElem?_cons_zero] <;> rfl) (by kernel_rfl) (by decide) (by kernel_rfl) (by kernel_rfl) (by kernel_rfl) (by kernel_rfl) (fun _ _ _ h => h) (Or.inl ⟨by rfl, ?_⟩) (by assumption) ?_
              rotate_left
              · (intro wv hSw; (try dsimp only at hSw); obtain ⟨hcq, _⟩ := bcell hSw; have hsq := Below.size hSw; go_simp; try with_reducible rfl)
              try simp only [Act.put, s1, s2, s3]
              refine wpAnyL_take (i := 20) (v := ?_) (by simp only [List.getElem?_toArray, List.getElem?_cons_succ, List.getElem?_cons_zero] <;> rfl) (by kernel_rfl) (by decide) (by kernel_rfl) (by kernel_rfl) (by kernel_rfl) (by kernel_rfl) (fun _ _ _ h => h) (Or.inl ⟨by rfl, ?_⟩) (by assumption) ?_
              rotate_left
              · (intro wv hSw; (try dsimp only at hSw); obtain ⟨hcq, _⟩ := bcell hSw; have hsq := Below.size hSw; have p0 := (hcq _ _ hbt).trans ct; have pl := Nat.lt_of_lt_of_le hbt hsq; go_simp; try with_reducible rfl)
              try simp only [Act.put, s1, s2, s3]
              refine wpAnyL_take (i := 22) (v := ?_) (by simp only [List.getElem?_toArray, List.getElem?_cons_succ, List.getElem?_cons_zero] <;> rfl) (by kernel_rfl) (by decide) (by kernel_rfl) (by kernel_rfl) (by kernel_rfl) (by kernel_rfl) (fun _ _ _ h => h) (Or.inl ⟨by rfl, ?_⟩) (by assumption) ?_
              rotate_left
              · (intro wv hSw; (try dsimp only at hSw); obtain ⟨hcq, _⟩ := bcell hSw; have hsq := Below.size hSw; go_simp; try with_reducible rfl)
              try simp only [Act.put, s1, s2, s3]
              refine wpAnyL_take (i := 23) (v := ?_) (by simp only [List.getElem?_toArray, List.getElem?_cons_succ, List.getElem?_cons_zero] <;> rfl) (by kernel_rfl) (by decide) (by kernel_rfl) (by kernel_rfl) (by kernel_rfl) (by kernel_rfl) (fun _ _ _ h => h) (Or.inl ⟨by rfl, ?_⟩) (by assumption) ?_
              rotate_left
              · (intro wv hSw; (try dsimp only at hSw); obtain ⟨hcq, _⟩ := bcell hSw; have hsq := Below.size hSw; go_simp; try with_reducible rfl)
              try simp only [Act.put, s1, s2, s3]
              refine wpAnyL_take (i := 24) (v := ?_) (by simp only [List.getElem?_toArray, List.getElem?_cons_succ, List.getElem?_cons_zero] <;> rfl) (by kernel_rfl) (by decide) (by kernel_rfl) (by kernel_rfl) (by kernel_rfl) (by kernel_rfl) (fun _ _ _ h => h) (Or.inl ⟨by rfl, ?_⟩) (by assumption) ?_
              rotate_left
              · (intro wv hSw; (try dsimp only at hSw); obtain ⟨hcq, _⟩ := bcell hSw; have hsq := Below.size hSw; go_simp; try with_reducible rfl)
              try simp only [Act.put, s1, s2, s3]
              refine wpAnyL_take (i := 25) (v := ?_) (by simp only [List.getElem?_toArray, List.getElem?_cons_succ, List.getElem?_cons_zero] <;> rfl) (by kernel_rfl) (by decide) (by kernel_rfl) (by kernel_rfl) (by kernel_rfl) (by kernel_rfl) (fun _ _ _ h => h) (Or.inl ⟨by rfl, ?_⟩) (by assumption) ?_
              rotate_left
              · (intro wv hSw; (try dsimp only at hSw); obtain ⟨hcq, _⟩ := bcell hSw; have hsq := Below.size hSw; have p0 := (hcq _ _ hbe).trans ce'; have pl := Nat.lt_of_lt_of_le hbe hsq; go_simp; try with_reducible rfl)
              try simp only [Act.put, s1, s2, s3]
              refine wpAnyL_ready (rs := [13, 26]) (by kernel_rfl) (by simp) ?_
              refine AllReadyL.cons rfl (fun K hK => ?_) ?_
              · go_simp
                refine Calls.mono (KA.out _ hHeld) ?_
                rintro e wn ⟨a13, c13, rfl, ho, hbn⟩
                (try have HAP := Lib.hid (Apart.of (fun g e => (HT.out.blk g e).2) (fun g e => (ho.blk g e).1)))
                have hst : Below wr.heap.size wr wn := below_callS hHeld hbn
                (try replace HV := Lib.hid (HV.out.keep hbn))
                (try replace HT := Lib.hid (HT.out.keep hbn))
                (try replace HT2 := Lib.hid (HT2.out.keep hbn))
                (try replace HLt := Lib.hid (HLt.out.keep hbn))
                have HV := Lib.hid (ho.le (show wr.heap.size ≤ _ from Below.size hHeld))
                clear ho hbn
                go_wp2_with fail
                refine hK.out _ _ hst (fun hHeld => ?_)
                clear hst
                clear hK K
                try simp only [Act.put, s1, s2, s3]
                refine wpAnyL_ready (rs := [21, 26]) (by kernel_rfl) (by simp) ?_
                refine AllReadyL.cons rfl (fun K hK => ?_) ?_
                · go_simp
                  refine Calls.mono (KO.out _ hHeld) ?_
                  rintro e wn ⟨aT, cT, rfl, hbn, ho⟩
                  (try have HAP := Lib.hid (Apart.symm (Apart.of (fun g e => (HV.out.blk g e).2) (fun g e => (ho.blk g e).1))))
                  have hst : Below wr.heap.size wr wn := below_callS hHeld hbn
                  (try replace HV := Lib.hid (HV.out.keep hbn))
                  (try replace HT := Lib.hid (HT.out.keep hbn))
                  (try replace HT2 := Lib.hid (HT2.out.keep hbn))
                  (try replace HLt := Lib.hid (HLt.out.keep hbn))
                  have HT := Lib.hid (ho.le (show wr.heap.size ≤ _ from Below.size hHeld))
                  clear ho hbn
                  go_wp2_with fail
                  refine hK.out _ _ hst (fun hHeld => ?_)
                  clear hst
                  clear hK K
                  try simp only [Act.put, s1, s2, s3]
                  refine wpAnyL_ready (rs := [26]) (by kernel_rfl) (by simp) ?_
                  refine AllReadyL.cons rfl (fun K hK => ?_) ?_
                  · go_simp
                    refine hK.out _ _ bel (fun hHeld => ?_)
                    have HLt := Lib.hid (by first | exact lit_of (show Below _ _ (World.alloc _ (.cells #[.int .i64 (q : Int)] 2)) from hHeld) hq64 | exact lit_ofd (show Below _ _ (World.drew (World.alloc _ (.cells #[.int .i64 (q : Int)] 2))) from hHeld) hq64)
                    (try replace HV := Lib.hid (HV.out.al (show Below _ _ (World.alloc _ _) from hHeld)))
                    (try replace HT := Lib.hid (HT.out.al (show Below _ _ (World.alloc _ _) from hHeld)))
                    clear hK K
                    try simp only [Act.put, s1, s2, s3]
                    refine wpAnyL_ready (rs := [27]) (by kernel_rfl) (by simp) ?_
                    refine AllReadyL.cons rfl (fun K hK => ?_) ?_
                    · refine wp_appendL_F (k := 1) (enc := enc1) (ok := I64) _ _ 22 2 rfl Tryz.underlying22 Tryz.infoi64 rfl (by decide) (by decide) enc1_one wr.heap.size _ _ _ _ HT.out.f1 rfl _ _ _ [(q : Int)] rfl HLt.out.f1.flats (by omega) (by omega) (Below.size hHeld) ?_
                      intro aT2 cT2 wn ho hbB hgB
                      have hst : Below wr.heap.size wr wn := Below.trans hHeld hbB
                      (try replace HV := Lib.hid (HV.out.keepG hgB fun g e e' => HAP.out g (own_block HT.out.1 g e') e))
                      have HT2 := Lib.hid ho.i1
                      clear ho hbB hgB
                      refine hK.out _ _ hst (fun hHeld => ?_)
                      clear hst
                      clear hK K
                      try simp only [Act.put, s1, s2, s3]
                      refine wpAnyL_ready (rs := [28]) (by kernel_rfl) (by simp) ?_
                      refine AllReadyL.last rfl (fun K hK => ?_)
                      go_simp
                      refine Calls.mono (KS.out _ hHeld HV.out HT2.out) ?_
                      rintro e wz ⟨rfl, hS3, hst3, hbl3⟩
                      have S3 := Lib.hid hS3
                      have ST3 := Lib.hid ((StepW.below (b := w.heap.size + 1) hHeld).trans hst3)
                      have BL3 := Lib.hid (Below.trans (HBq.out.trans (Below.mono hHeld HBq.out.size)) hbl3)
                      clear hS3 hst3 hbl3 HV HT2
                      go_wp2_with fail
                      refine hK.out _ _ ?_
                      clear hK K
                      refine wpAnyL_done (by kernel_rfl) ?_ _
                      refine NoPanic.normal ?_
                      go_wp2_with fail
                      go_roundw
                      case rel => exact ⟨i + 1, _, _, by go_num, by omega, by have := ST3.out.size; omega, S3, Lib.hid (X.out.keepS ST3.out (by omega) (by decide)), Lib.hid (OE.out.keepS HBK.out (by decide) ST3.out), BL3, SN3, IN3⟩
                      case measure => simp [intOf]; omega
                    exact AllReadyL.nil
                  exact AllReadyL.nil
                refine AllReadyL.cons rfl (fun K hK => ?_) ?_
                · go_simp
                  refine hK.out _ _ bel (fun hHeld => ?_)
                  have HLt := Lib.hid (by first | exact lit_of (show Below _ _ (World.alloc _ (.cells #[.int .i64 (q : Int)] 2)) from hHeld) hq64 | exact lit_ofd (show Below _ _ (World.drew (World.alloc _ (.cells #[.int .i64 (q : Int)] 2))) from hHeld) hq64)
                  (try replace HV := Lib.hid (HV.out.al (show Below _ _ (World.alloc _ _) from hHeld)))
                  (try replace HT := Lib.hid (HT.out.al (show Below _ _ (World.alloc _ _) from hHeld)))
                  clear hK K
                  try simp only [Act.put, s1, s2, s3]
                  refine wpAnyL_ready (rs := [21]) (by kernel_rfl) (by simp) ?_
                  refine AllReadyL.cons rfl (fun K hK => ?_) ?_
                  · go_simp
                    refine Calls.mono (KO.out _ hHeld) ?_
                    rintro e wn ⟨aT, cT, rfl, hbn, ho⟩
                    (try have HAP := Lib.hid (Apart.symm (Apart.of (fun g e => (HV.out.blk g e).2) (fun g e => (ho.blk g e).1))))
                    have hst : Below wr.heap.size wr wn := below_callS hHeld hbn
                    (try replace HV := Lib.hid (HV.out.keep hbn))
                    (try replace HT := Lib.hid (HT.out.keep hbn))
                    (try replace HT2 := Lib.hid (HT2.out.keep hbn))
                    (try replace HLt := Lib.hid (HLt.out.keep hbn))
                    have HT := Lib.hid (ho.le (show wr.heap.size ≤ _ from Below.size hHeld))
                    clear ho hbn
                    go_wp2_with fail
                    refine hK.out _ _ hst (fun hHeld => ?_)
                    clear hst
                    clear hK K
                    try simp only [Act.put, s1, s2, s3]
                    refine wpAnyL_ready (rs := [27]) (by kernel_rfl) (by simp) ?_
                    refine AllReadyL.cons rfl (fun K hK => ?_) ?_
                    · refine wp_appendL_F (k := 1) (enc := enc1) (ok := I64) _ _ 22 2 rfl Tryz.underlying22 Tryz.infoi64 rfl (by decide) (by decide) enc1_one wr.heap.size _ _ _ _ HT.out.f1 rfl _ _ _ [(q : Int)] rfl HLt.out.f1.flats (by omega) (by omega) (Below.size hHeld) ?_
                      intro aT2 cT2 wn ho hbB hgB
                      have hst : Below wr.heap.size wr wn := Below.trans hHeld hbB
                      (try replace HV := Lib.hid (HV.out.keepG hgB fun g e e' => HAP.out g (own_block HT.out.1 g e') e))
                      have HT2 := Lib.hid ho.i1
                      clear ho hbB hgB
                      refine hK.out _ _ hst (fun hHeld => ?_)
                      clear hst
                      clear hK K
                      try simp only [Act.put, s1, s2, s3]
                      refine wpAnyL_ready (rs := [28]) (by kernel_rfl) (by simp) ?_
                      refine AllReadyL.last rfl (fun K hK => ?_)
                      go_simp
                      refine Calls.mono (KS.out _ hHeld HV.out HT2.out) ?_
                      rintro e wz ⟨rfl, hS3, hst3, hbl3⟩
                      have S3 := Lib.hid hS3
                      have ST3 := Lib.hid ((StepW.below (b := w.heap.size + 1) hHeld).trans hst3)
                      have BL3 := Lib.hid (Below.trans (HBq.out.trans (Below.mono hHeld HBq.out.size)) hbl3)
                      clear hS3 hst3 hbl3 HV HT2
                      go_wp2_with fail
                      refine hK.out _ _ ?_
                      clear hK K
                      refine wpAnyL_done (by kernel_rfl) ?_ _
                      refine NoPanic.normal ?_
                      go_wp2_with fail
                      go_roundw
                      case rel => exact ⟨i + 1, _, _, by go_num, by omega, by have := ST3.out.size; omega, S3, Lib.hid (X.out.keepS ST3.out (by omega) (by decide)), Lib.hid (OE.out.keepS HBK.out (by decide) ST3.out), BL3, SN3, IN3⟩
                      case measure => simp [intOf]; omega
                    exact AllReadyL.nil
                  exact AllReadyL.nil
                exact AllReadyL.nil
              refine AllReadyL.cons rfl (fun K hK => ?_) ?_
              · go_simp
                refine hK.out _ _ bel (fun hHeld => ?_)
                have HLt := Lib.hid (by first | exact lit_of (show Below _ _ (World.alloc _ (.cells #[.int .i64 (q : Int)] 2)) from hHeld) hq64 | exact lit_ofd (show Below _ _ (World.drew (World.alloc _ (.cells #[.int .i64 (q : Int)] 2))) from hHeld) hq64)
                (try replace HV := Lib.hid (HV.out.al (show Below _ _ (World.alloc _ _) from hHeld)))
                (try replace HT := Lib.hid (HT.out.al (show Below _ _ (World.alloc _ _) from hHeld)))
                clear hK K
                try simp only [Act.put, s1, s2, s3]
                refine wpAnyL_ready (rs := [13]) (by kernel_rfl) (by simp) ?_
                refine AllReadyL.cons rfl (fun K hK => ?_) ?_
                · go_simp
                  refine Calls.mono (KA.out _ hHeld) ?_
                  rintro e wn ⟨a13, c13, rfl, ho, hbn⟩
                  (try have HAP := Lib.hid (Apart.of (fun g e => (HT.out.blk g e).2) (fun g e => (ho.blk g e).1)))
                  have hst : Below wr.heap.size wr wn := below_callS hHeld hbn
                  (try replace HV := Lib.hid (HV.out.keep hbn))
                  (try replace HT := Lib.hid (HT.out.keep hbn))
                  (try replace HT2 := Lib.hid (HT2.out.keep hbn))
                  (try replace HLt := Lib.hid (HLt.out.keep hbn))
                  have HV := Lib.hid (ho.le (show wr.heap.size ≤ _ from Below.size hHeld))
                  clear ho hbn
                  go_wp2_with fail
                  refine hK.out _ _ hst (fun hHeld => ?_)
                  clear hst
                  clear hK K
                  try simp only [Act.put, s1, s2, s3]
                  refine wpAnyL_ready (rs := [21]) (by kernel_rfl) (by simp) ?_
                  refine AllReadyL.cons rfl (fun K hK => ?_) ?_
                  · go_simp
                    refine Calls.mono (KO.out _ hHeld) ?_
                    rintro e wn ⟨aT, cT, rfl, hbn, ho⟩
                    (try have HAP := Lib.hid (Apart.symm (Apart.of (fun g e => (HV.out.blk g e).2) (fun g e => (ho.blk g e).1))))
                    have hst : Below wr.heap.size wr wn := below_callS hHeld hbn
                    (try replace HV := Lib.hid (HV.out.keep hbn))
                    (try replace HT := Lib.hid (HT.out.keep hbn))
                    (try replace HT2 := Lib.hid (HT2.out.keep hbn))
                    (try replace HLt := Lib.hid (HLt.out.keep hbn))
                    have HT := Lib.hid (ho.le (show wr.heap.size ≤ _ from Below.size hHeld))
                    clear ho hbn
                    go_wp2_with fail
                    refine hK.out _ _ hst (fun hHeld => ?_)
                    clear hst
                    clear hK K
                    try simp only [Act.put, s1, s2, s3]
                    refine wpAnyL_ready (rs := [27]) (by kernel_rfl) (by simp) ?_
                    refine AllReadyL.cons rfl (fun K hK => ?_) ?_
                    · refine wp_appendL_F (k := 1) (enc := enc1) (ok := I64) _ _ 22 2 rfl Tryz.underlying22 Tryz.infoi64 rfl (by decide) (by decide) enc1_one wr.heap.size _ _ _ _ HT.out.f1 rfl _ _ _ [(q : Int)] rfl HLt.out.f1.flats (by omega) (by omega) (Below.size hHeld) ?_
                      intro aT2 cT2 wn ho hbB hgB
                      have hst : Below wr.heap.size wr wn := Below.trans hHeld hbB
                      (try replace HV := Lib.hid (HV.out.keepG hgB fun g e e' => HAP.out g (own_block HT.out.1 g e') e))
                      have HT2 := Lib.hid ho.i1
                      clear ho hbB hgB
                      refine hK.out _ _ hst (fun hHeld => ?_)
                      clear hst
                      clear hK K
                      try simp only [Act.put, s1, s2, s3]
                      refine wpAnyL_ready (rs := [28]) (by kernel_rfl) (by simp) ?_
                      refine AllReadyL.last rfl (fun K hK => ?_)
                      go_simp
                      refine Calls.mono (KS.out _ hHeld HV.out HT2.out) ?_
                      rintro e wz ⟨rfl, hS3, hst3, hbl3⟩
                      have S3 := Lib.hid hS3
                      have ST3 := Lib.hid ((StepW.below (b := w.heap.size + 1) hHeld).trans hst3)
                      have BL3 := Lib.hid (Below.trans (HBq.out.trans (Below.mono hHeld HBq.out.size)) hbl3)
                      clear hS3 hst3 hbl3 HV HT2
                      go_wp2_with fail
                      refine hK.out _ _ ?_
                      clear hK K
                      refine wpAnyL_done (by kernel_rfl) ?_ _
                      refine NoPanic.normal ?_
                      go_wp2_with fail
                      go_roundw
                      case rel => exact ⟨i + 1, _, _, by go_num, by omega, by have := ST3.out.size; omega, S3, Lib.hid (X.out.keepS ST3.out (by omega) (by decide)), Lib.hid (OE.out.keepS HBK.out (by decide) ST3.out), BL3, SN3, IN3⟩
                      case measure => simp [intOf]; omega
                    exact AllReadyL.nil
                  exact AllReadyL.nil
                exact AllReadyL.nil
              exact AllReadyL.nil
            · have hin' : ¬ (i : Int) < (ne : Int) := by omega
              have HE := hend (.inr (by omega))
              clear hBlk hO hTr he1 he2 hend
              go_wp2
              go_roundw
              case rel =>
                obtain ⟨ov2, hra, rfl⟩ := HE.out
                exact ⟨k + 1, L', false, by go_num, by omega, hsq, SS, X, HBq, NSq, Lib.hid hra⟩
              case measure => simp [intOf]; omega
      · have hkn' : ¬ (k : Int) < (n : Int) := by omega
        have HF := Lib.hid (show bfsP (lr.map (·.2)) st = (if false = true then none else some L) by
          rw [← HRN.out, show f = (f - 1) + 1 from by omega]
          exact runN9_done (List.getElem?_eq_none (by rw [HN.out]; omega)))
        clear hBlk hO hTr he1 he2
        go_wp2
        go_ret
        exact ⟨w.heap.size + 1, L, false, rfl, SS.out, HB.out, HF.out, NS.out⟩
end Go.Proofs.YtkaikbaagajckaaGreat
