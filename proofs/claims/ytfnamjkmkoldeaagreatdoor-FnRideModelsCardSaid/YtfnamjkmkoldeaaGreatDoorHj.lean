/- The search through the states of a model: the program, walked. -/
import Derived.Test.YtfnamjkmkoldeaaGreatDoorQe
import Derived.Test.YtfnamjkmkoldeaaGreatDoorQf
import Derived.Test.YtfnamjkmkoldeaaGreatDoorHi
namespace Go.Proofs.YtfnamjkmkoldeaaGreatDoor
open Go.RowKit
set_option linter.unusedVariables false
set_option linter.unusedSimpArgs false
set_option maxHeartbeats 4000000 in
theorem impl_explore {sa ta ra : Option Addr} {sn sc tn tc rn rc : Nat} {sz st : List Int} {lr : List (RM × RuD)} {w0 w : World} (hb0 : Below w0.heap.size w0 w) (hR : FR w0 w ra rn rc lr) (hr : rn ≤ 65536) (hT : Ints w ta tn tc st) (htn : tn ≤ 65536)
    (hz : ∀ z ∈ sz, z ≤ 256) (hst : SV sz st) (hru : ∀ r ∈ lr.map (·.2), RuV sz r) (hg : ∀ x ∈ lr, x.1.gn ≤ 1048576 ∧ x.1.en ≤ 1048576) :
    Calls Tryz.prog 134 #[.agg #[.slice sa sn sc, .slice ta tn tc, .slice ra rn rc]] w (ExRet w (bfsP (lr.map (·.2)) st)) := by
  have X := Lib.hid (Blk.made w #[.slice sa sn sc, .slice ta tn tc, .slice ra rn rc] 44)
  have hbA : Below w.heap.size w (w.alloc (.cells #[.slice sa sn sc, .slice ta tn tc, .slice ra rn rc] 44)) := by repeat (first | exact Below.refl _ _ | assumption | refine below_allocS ?_ _ | refine below_callS ?_ (by assumption) | (refine Below.alloc ?_ (by first | omega | (simp; done) | (simp; omega)) _) | (refine Below.setCell ?_ (by first | omega | (simp; done) | (simp; omega)) _) | refine Below.drew ?_ | refine below_drewN ?_ _ | (refine below_call ?_ (by assumption) (by first | omega | (simp; done) | (simp; omega))) | (refine Below.trans ?_ (by assumption)))
  have HR := Lib.hid hR
  have HT := Lib.hid hT
  have HZ := Lib.hid hz
  have HST := Lib.hid hst
  have HRU := Lib.hid hru
  have HG := Lib.hid hg
  have H0 := Lib.hid hb0
  have x1 := X.out.cell 1
  have xl := X.out.lt
  simp at x1
  clear hR hT hz hst hru hg hb0
  go_enter Tryz.func134, Tryz.ntmps134
  go_wp2_with fail
  refine Calls.mono (slices_Clone_i64 (HT.out.keep hbA) (by omega)) ?_
  rintro e w1 ⟨a1, c1, rfl, hb1, ho1, hnl⟩
  have hs1 := hb1.size
  simp at hs1
  have O1 := Lib.hid ho1
  have X1 := Lib.hid (X.out.keep hb1)
  have hbw1 : Below w.heap.size w w1 := by repeat (first | exact Below.refl _ _ | assumption | refine below_allocS ?_ _ | refine below_callS ?_ (by assumption) | (refine Below.alloc ?_ (by first | omega | (simp; done) | (simp; omega)) _) | (refine Below.setCell ?_ (by first | omega | (simp; done) | (simp; omega)) _) | refine Below.drew ?_ | refine below_drewN ?_ _ | (refine below_call ?_ (by assumption) (by first | omega | (simp; done) | (simp; omega))) | (refine Below.trans ?_ (by assumption)))
  have x1' := X1.out.cell 1
  have xl' := X1.out.lt
  simp at x1'
  have hmm := @run_makeMap Tryz.prog
  have HO1 := Lib.hid ho1
  clear x1 xl ho1 hb1 hnl
  go_wp2_with fail
  have hQ := QOwn.one (w := w1) (lo := w.heap.size + 1) (⟨a1, tn, c1⟩, ⟨st, -1, 0, 0, []⟩) (HO1.out.le (by simp)) hs1 #[.slice a1 tn c1, .int .i64 (-1), .int .i64 0, .int .i64 0] rfl
  obtain ⟨w2, hw2⟩ : ∃ w2 : World, w2 = w1.alloc (.cells #[.slice a1 tn c1, .int .i64 (-1), .int .i64 0, .int .i64 0] 130) := ⟨_, rfl⟩
  have hb2 : Below w1.heap.size w1 w2 := by rw [hw2]; repeat (first | exact Below.refl _ _ | assumption | refine below_allocS ?_ _ | refine below_callS ?_ (by assumption) | (refine Below.alloc ?_ (by first | omega | (simp; done) | (simp; omega)) _) | (refine Below.setCell ?_ (by first | omega | (simp; done) | (simp; omega)) _) | refine Below.drew ?_ | refine below_drewN ?_ _ | (refine below_call ?_ (by assumption) (by first | omega | (simp; done) | (simp; omega))) | (refine Below.trans ?_ (by assumption)))
  have hs2 : w2.heap.size = w1.heap.size + 1 := by rw [hw2]; simp
  have hM := SetM.made w2
  rw [← hs2]
  rw [← hw2] at hQ ⊢
  obtain ⟨mb, hmb⟩ : ∃ mb : Nat, mb = w2.heap.size := ⟨_, rfl⟩
  rw [← hmb] at hM ⊢
  obtain ⟨w3, hw3⟩ : ∃ w3 : World, w3 = w2.alloc (.map #[] 0) := ⟨_, rfl⟩
  have hb3 : Below w2.heap.size w2 w3 := by rw [hw3]; repeat (first | exact Below.refl _ _ | assumption | refine below_allocS ?_ _ | refine below_callS ?_ (by assumption) | (refine Below.alloc ?_ (by first | omega | (simp; done) | (simp; omega)) _) | (refine Below.setCell ?_ (by first | omega | (simp; done) | (simp; omega)) _) | refine Below.drew ?_ | refine below_drewN ?_ _ | (refine below_call ?_ (by assumption) (by first | omega | (simp; done) | (simp; omega))) | (refine Below.trans ?_ (by assumption)))
  have hs3 : mb + 1 ≤ w3.heap.size := by rw [hw3, hmb]; simp
  rw [← hw3] at hM ⊢
  have hb13 : Below w1.heap.size w1 w3 := hb2.trans (hb3.mono (by omega))
  have hbw3 : Below w.heap.size w w3 := hbw1.trans (hb13.mono (by omega))
  refine Calls.mono (impl_stateKey (HT.out.keep hbw3) (by omega) (sv_range HZ.out HST.out)) ?_
  rintro e w4 ⟨rfl, hb4⟩
  have hmbl : w.heap.size + 1 ≤ mb := by omega
  have M4 := Lib.hid (hM.keep hb4)
  have Q4 := Lib.hid ((hQ.keep hb3).keep hb4)
  have X4 := Lib.hid ((X1.out.keep hb13).keep hb4)
  have hs4 : mb + 1 ≤ w4.heap.size := by have := hb4.size; omega
  have hbw4 : Below w.heap.size w w4 := hbw3.trans (hb4.mono (by have := hbw3.size; omega))
  obtain ⟨g4, hg4⟩ : ∃ g4 : Nat, g4 = w1.heap.size := ⟨_, rfl⟩
  have hg4' : w.heap.size + 1 ≤ g4 := by omega
  rw [← hg4] at Q4 ⊢
  clear hQ hM hw2 hw3 hb2 hs2 hmb hs3 hb3 hb13 hbw3 hb4 hbw1 hs1 x1' xl' HO1 O1 X1 hg4
  have hks : (ByteArray.mk (keyL st).toArray).size ≤ maxLen := by
    have h1 := HT.out.len
    rw [show (ByteArray.mk (keyL st).toArray).size = (keyL st).length from by simp [ByteArray.size], keyL_len]
    unfold maxLen; omega
  go_wp2_with (refine SetM.ins M4.out rfl _ _ _ rfl rfl (by decide) _ rfl rfl hks ?_; intro w5 hm5 hg5; have I5 := Lib.hid (exInv_start hm5 hg5 M4.out Q4.out X4.out hbw4 hmbl hs4 HST.out))
  clear M4 Q4 X4 hbw4 hmbl hs4 hks
  obtain ⟨cs, hcs⟩ : ∃ cs : Array Value, cs = #[.slice sa sn sc, .slice ta tn tc, .slice ra rn rc] := ⟨_, rfl⟩
  have HCS := Lib.hid hcs
  have I5' : Hid (ExInv w w5 mb cs sz [⟨st, -1, 0, 0, []⟩] (some ⟨g4, 0, none⟩) 1 1 [(⟨a1, tn, c1⟩, ⟨st, -1, 0, 0, []⟩)]) := by rw [hcs]; exact I5
  clear I5 hcs hm5 hg5 hmm
  go_loopw [4, 6] (fun s4 s6 wr => ∃ (i f n c : Nat) (a : Option Addr) (l : List (QM × SN)) (L : List SN), s4 = .slice a n c ∧ s6 = .int .i64 i ∧ i ≤ n ∧ n ≤ 4000 ∧ f + i = 4002 ∧ Hid (runN9 (lr.map (·.2)) f i L = bfsP (lr.map (·.2)) st) ∧ Hid (ExInv w wr mb cs sz L a n c l)) (fun _ s6 _ => 4002 - (intOf s6).toNat)
  case atStart => exact ⟨0, 4002, 1, 1, _, _, _, rfl, rfl, by omega, by omega, by omega, Lib.hid rfl, I5'⟩
  case round =>
    clear I5'
    obtain ⟨i, f, n, c, a, l, L, rfl, rfl, hi, hn, hf, HB, I⟩ := hrel
    by_cases hlt : i < n
    · have hlt' : (i : Int) < (n : Int) := by omega
      have hi0 : (0 : Int) ≤ (i : Int) := by omega
      obtain ⟨b, off, R, y, rfl, hb, hly, hoy, c0, c1', c2, c3⟩ := I.out.q.get hlt
      have HY := Lib.hid (show L[i]? = some y by rw [← I.out.e, List.getElem?_map, hly]; rfl)
      have OY := Lib.hid hoy
      have hX := I.out.x
      rw [HCS.out] at hX
      have y0 := hX.cell 0
      have y1 := hX.cell 1
      have y2 := hX.cell 2
      have yl := hX.lt
      simp at y0 y1 y2
      clear hX hly hoy c1' c2 c3
      have hLV := I.out.sn.sv y (List.mem_of_getElem? HY.out)
      have hvl : y.v.length = R.n := OY.out.ints.len
      have hRn : R.n ≤ 65536 := by rw [← hvl, hLV.1, ← HST.out.1, HT.out.len]; exact htn
      have hb0r : Below w0.heap.size w0 wr := H0.out.trans (I.out.bl.mono H0.out.size)
      have K6 := Lib.hid (fun (wx : World) (hx : Below wr.heap.size wr wx) => impl_enabled (sa := sa) (ta := ta) (sn := sn) (sc := sc) (tn := tn) (tc := tc) (v := y.v) (hb0r.trans (hx.mono hb0r.size)) ((HR.out.keep I.out.bl).keep hx) (by omega) (OY.out.ints.keep hx) (fun x hx t ht => by
        have := (HRU.out _ (List.mem_map_of_mem hx)).1 t ht
        rw [← hvl, hLV.1]; exact this) (fun x hx => (HG.out x hx).1))
      have hbr : Below wr.heap.size wr wr := Below.refl _ _
      clear hLV hb0r
      go_wp2_with fail
      go_region_held3 (fun wx => wx.cell? ⟨w.heap.size, 0, none⟩ = some (.slice sa sn sc) ∧ wx.cell? ⟨w.heap.size, 1, none⟩ = some (.slice ta tn tc) ∧ wx.cell? ⟨w.heap.size, 2, none⟩ = some (.slice ra rn rc) ∧ wx.cell? ⟨b, off + i * 4, none⟩ = some (.slice R.a R.n R.c) ∧ w.heap.size < wx.heap.size ∧ b < wx.heap.size ∧ Below wr.heap.size wr wx) (((try go_split_ands); (repeat' apply And.intro) <;> first | assumption | exact Below.drew (Below.refl _ _) | exact Blk.keep (by assumption) hbx | exact Blk.drew (by assumption) | exact Blk.drew (Blk.made _ _ _) | exact Below.drew (by assumption) | exact Below.drew (below_allocS (by first | exact Below.refl _ _ | assumption) _) | exact below_callS (by assumption) hbx | exact below_call (by assumption) hbx (Below.size (by assumption)) | exact (hcx _ _ (by assumption)).trans (by assumption) | omega | (simp [*]; done) | (simp; omega))) (first | (go_at_call 82; go_split_ands; refine Calls.mono (K6.out _ (by assumption)) ?_; rintro e w6 ⟨ae, ne, ce, rfl, hoe, hne, hbx⟩; have HOE := Lib.hid hoe; obtain ⟨hcx, hfx⟩ := bcell hbx; have hsx := hbx.size))
      have hb6 : Below wr.heap.size wr w6 := by go_split_ands; assumption
      have I6 := Lib.hid (I.out.keep hb6)
      have OE := Lib.hid (HOE.out.le (show wr.heap.size ≤ _ from Nat.le_refl _))
      have hlw : w.heap.size + 1 ≤ wr.heap.size := I.out.lo
      have hsz6 := hb6.size
      have HB6 := Lib.hid hb6
      have hEl : (enabI (lr.map (·.2)) y.v rn).length = ne := OE.out.ints.len
      have HEL := Lib.hid hEl
      clear K6 HOE hoe hbx hcx hfx hsx hb6 hEl c0 y0 y1 y2 yl I hbr
      have hrl : (lr.map (·.2)).length = rn := by rw [List.length_map]; exact HR.out.len
      have HRL := Lib.hid hrl
      clear hrl
      go_split_ands
      go_wp2_with fail
      go_loopw [4, 35] (fun s4 s35 wq => ∃ (j n' c' : Nat) (a' : Option Addr) (l' : List (QM × SN)), s4 = .slice a' n' c' ∧ s35 = .int .i64 j ∧ j ≤ ne ∧ n ≤ n' ∧ n' ≤ 4000 + j ∧ wr.heap.size ≤ wq.heap.size ∧ Hid (OwnI 2 wq wr.heap.size ae ne ce (enabI (lr.map (·.2)) y.v rn)) ∧ Hid (ExInv w wq mb cs sz (expT (lr.map (·.2)) i y L j) a' n' c' l')) (fun _ s35 _ => ne - (intOf s35).toNat)
      case atStart => exact ⟨0, n, c, _, l, rfl, rfl, by omega, by omega, by omega, hsz6, OE, I6⟩
      case round =>
        clear I6 OE
        obtain ⟨j, n', c', a', l', rfl, rfl, hj, hnn, hn', hsq, OE, J⟩ := hrel
        by_cases hjt : j < ne
        · have hjt' : (j : Int) < (ne : Int) := by omega
          have hj0 : (0 : Int) ≤ (j : Int) := by omega
          obtain ⟨be, oe, z, rfl, hbe, hz, hze, hz64⟩ := OE.out.ints.at hjt
          rw [← HRL.out] at hz
          obtain ⟨q, r, rfl, hq, hrq, _, hnx⟩ := enabI_at hz
          have hqn : q < rn := by rw [← HRL.out]; exact hq
          have hqn' : (q : Int) < (rn : Int) := by omega
          have hq0 : (0 : Int) ≤ (q : Int) := by omega
          obtain ⟨br, or', R2, r2, rfl, hbr2, hxr, hru2, d0, d1, d2⟩ := FR.get (HR.out.keep J.out.bl) hqn
          have hrr : r2 = r := by
            have h1 : (lr.map (·.2))[q]? = some r2 := by rw [List.getElem?_map, hxr]; rfl
            rw [h1] at hrq; simpa using hrq
          subst hrr
          have hin : i < n' := by omega
          have hin' : (i : Int) < (n' : Int) := by omega
          have HP : Hid ((expT (lr.map (·.2)) i y L j)[i]? = some y) := Lib.hid (by
            obtain ⟨t, ht, _⟩ := foldN_pre i y ((nextP (lr.map (·.2)) y.v).take j) L
            rw [expT, ht, List.getElem?_append_left (by have := (List.getElem?_eq_some_iff.1 HY.out).1; exact this)]
            exact HY.out)
          obtain ⟨bl, ol, RQ, yq, rfl, hbl, hlq, hoq, e0, e1, e2, e3⟩ := J.out.q.get hin
          have hyq : yq = y := by
            have h1 : (expT (lr.map (·.2)) i y L j)[i]? = some yq := by rw [← J.out.e, List.getElem?_map, hlq]; rfl
            rw [HP.out] at h1; simpa using h1.symm
          subst hyq
          have HNX := Lib.hid hnx
          have hX := J.out.x
          rw [HCS.out] at hX
          have y2 := hX.cell 2
          have yl := hX.lt
          simp at y2
          have hSV := J.out.sn.sv yq (List.mem_of_getElem? HP.out)
          have hvl : yq.v.length = RQ.n := hoq.ints.len
          have hRn : RQ.n ≤ 65536 := by rw [← hvl, hSV.1, ← HST.out.1, HT.out.len]; exact htn
          have hb0r : Below w0.heap.size w0 wr := H0.out.trans (J.out.bl.mono H0.out.size)
          have hruv := HRU.out r2 (List.mem_of_getElem? hrq)
          have hSV2 : SV sz (applyP yq.v r2.e) := sv_apply hSV fun a ha z hz => (hruv.2 a ha).2.2 z hz
          have HSV2 := Lib.hid hSV2
          have hF2 := hru2.2.2.2.2.1
          have hen := hru2.2.2.2.2.2
          have hnmr : R2.nm = r2.nm := hru2.1
          have K9 := Lib.hid (fun (wx : World) (hx : Below wr.heap.size wr wx) => impl_apply (ga := R2.ga) (gn := R2.gn) (gc := R2.gc) (nm := R2.nm) ((hF2.keep hb0r).keep hx) hen (hoq.ints.keep hx) (by omega) (fun a ha => by
            have := hruv.2 a ha
            rw [← hvl, hSV.1]; exact ⟨this.1, this.2.1⟩))
          have hbq : Below wr.heap.size wr wr := Below.refl _ _
          clear hSV hb0r hruv hSV2 hF2 hen hnmr hru2 hX hoq hlq hxr hrq hq hz hz64 hnx e1 e2
          go_wp2_with fail
          go_region_held3 (fun wx => wx.cell? ⟨w.heap.size, 2, none⟩ = some (.slice (some ⟨br, or', none⟩) rn rc) ∧ wx.cell? ⟨br, or' + q * 3, none⟩ = some (.string R2.nm) ∧ wx.cell? ⟨br, or' + q * 3 + 1, none⟩ = some (.slice R2.ga R2.gn R2.gc) ∧ wx.cell? ⟨br, or' + q * 3 + 2, none⟩ = some (.slice R2.ea R2.en R2.ec) ∧ wx.cell? ⟨bl, ol + i * 4, none⟩ = some (.slice RQ.a RQ.n RQ.c) ∧ w.heap.size < wx.heap.size ∧ br < wx.heap.size ∧ bl < wx.heap.size ∧ Below wr.heap.size wr wx) (((try go_split_ands); (repeat' apply And.intro) <;> first | (with_reducible assumption) | (with_reducible exact cell_drew (by with_reducible assumption)) | (with_reducible exact lt_drew (by with_reducible assumption)) | (with_reducible exact Below.drew (by with_reducible assumption)) | (with_reducible exact (hcx _ _ (by with_reducible assumption)).trans (by with_reducible assumption)) | (with_reducible exact Nat.lt_of_lt_of_le (by with_reducible assumption) hsx) | (with_reducible exact below_callS (by with_reducible assumption) hbx) | omega)) (first | (go_at_call 65; go_split_ands; refine Calls.mono (K9.out _ (by assumption)) ?_; rintro e w7 ⟨a7, c7, rfl, ho7, hbx⟩; have HO7 := Lib.hid ho7; obtain ⟨hcx, hfx⟩ := bcell hbx; have hsx := hbx.size))
          have hb7 : Below wr.heap.size wr w7 := by go_split_ands; assumption
          have J7 := Lib.hid (J.out.keep hb7)
          have OE7 := Lib.hid (OE.out.keep hb7)
          have HB7 := Lib.hid hb7
          have hs7 := hb7.size
          clear K9 ho7 hbx hcx hfx hsx hb7 J OE
          go_split_ands
          go_wp2_with fail
          refine Calls.mono (impl_stateKey HO7.out.ints (by omega) (sv_range HZ.out HSV2.out)) ?_
          rintro e w8 ⟨rfl, hb8⟩
          have J8 := Lib.hid (J7.out.keep hb8)
          have hs8 := hb8.size
          have OE8 := Lib.hid (OE7.out.keep hb8)
          have O8 := Lib.hid (HO7.out.keep hb8)
          have hks : (ByteArray.mk (keyL (applyP yq.v r2.e)).toArray).size ≤ maxLen := by
            have h1 := O8.out.ints.len
            rw [show (ByteArray.mk (keyL (applyP yq.v r2.e)).toArray).size = (keyL (applyP yq.v r2.e)).length from List.size_toArray, keyL_len]
            unfold maxLen; omega
          have hlk := J8.out.m.look hks
          rw [data_keyL] at hlk
          cases hh : hasL (expT (lr.map (·.2)) i yq L j) (keyL (applyP yq.v r2.e)) with
          | true =>
            rw [hh] at hlk
            have HO := Lib.hid ((hasL_any HZ.out J8.out.sn.sv HSV2.out).symm.trans hh)
            go_wp2_with fail
            go_roundw
            case rel =>
              refine ⟨j + 1, n', c', _, l', rfl, by go_num, by omega, hnn, by omega, by omega, OE8, ?_⟩
              rw [expT_step HNX.out, addN_old HO.out]; exact J8
            case measure => simp [intOf]; omega
          | false =>
            rw [hh] at hlk
            have HN9 := Lib.hid ((hasL_any HZ.out J8.out.sn.sv HSV2.out).symm.trans hh)
            have hdp := J8.out.dp i yq HP.out
            have hlo8 := J8.out.lo
            have hml8 := J8.out.ml
            have HO8 := Lib.hid (O8.out.le (show w.heap.size + 1 ≤ _ by omega))
            clear hh O8 J7 OE7 HO7
            go_wp2_with (first
              | (refine SetM.put J8.out.m rfl _ _ _ rfl rfl (by unfold maxLen; omega) _ rfl rfl hks ?_; intro w9 hm9 hg9; have M9 := Lib.hid (hm9.congr fun k => (by rw [data_keyL])); have G9 := Lib.hid hg9; have hs9 := hg9.size; have Q9 := Lib.hid (J8.out.q.keepG hg9 J8.out.m.nc); have O9 := Lib.hid (HO8.out.keepG hg9 fun g e e' => (by cases e'; obtain ⟨cur, h1⟩ := HO8.out.typ e; exact J8.out.m.nc _ _ h1)); have OE9 := Lib.hid (OE8.out.keepG hg9 fun g e e' => (by cases e'; obtain ⟨cur, h1⟩ := OE8.out.typ e; exact J8.out.m.nc _ _ h1)); obtain ⟨b9, o9, R9, y9, he9, hb9, hl9, ho9, q0, q1, q2, q3⟩ := Q9.out.get hin; have hy9 : yq = y9 := (by (have h1 : (expT (lr.map (·.2)) i yq L j)[i]? = some y9 := (by rw [← J8.out.e, List.getElem?_map, hl9]; rfl)); rw [HP.out] at h1; simpa using h1); subst hy9; simp only [Option.some.injEq, Addr.mk.injEq, and_true] at he9; obtain ⟨hh1, hh2⟩ := he9; rw [← hh1] at hb9; rw [← hh1, ← hh2] at q3; clear hl9 ho9 q0 q1 q2 hh1 hh2 hm9 hg9)
              | (at_builtin; have hq9 := Q9; refine appQ rfl _ _ rfl (w.heap.size + 1) _ _ _ _ Q9.out rfl _ rfl rfl (⟨a7, _, c7⟩, ⟨applyP yq.v r2.e, (i : Nat), (q : Nat), yq.dp + 1, yq.tr ++ [(q : Int)]⟩) O9.out _ rfl (by omega) (by omega) ?_; intro g10 c10 w10 hq10 hb10 ht10 hat10 hs10; have J10 := Lib.hid (J8.out.app M9.out G9.out hq10 ht10 hb10 HP.out HSV2.out HN9.out); have OE10 := Lib.hid (OE9.out.keepT ht10 fun g e e' => typ_apart (fun {g} e => OE9.out.typ e) (fun {g} e => Q9.out.row.typ e) (by decide) g e e')))
            go_roundw
            case rel =>
              rw [← expT_step HNX.out] at J10
              exact ⟨j + 1, n' + 1, c10, _, _, rfl, by go_num, by omega, by omega, by omega, by omega, OE10, J10⟩
            case measure => simp [intOf]; omega
        · obtain rfl : j = ne := by omega
          have hjt' : ¬ (j : Int) < (j : Int) := by omega
          have HE : Hid (expT (lr.map (·.2)) i y L j = expN (lr.map (·.2)) i y L) := Lib.hid (expT_all (by rw [nextP_len, HRL.out, HEL.out]; exact Nat.le_refl _))
          have J2 := Lib.hid J.out
          rw [HE.out] at J2
          have hlen := J2.out.len
          by_cases hov : 4000 < n'
          · have hov' : (4000 : Int) < (n' : Int) := by omega
            have HD : Hid (bfsP (lr.map (·.2)) st = none) := Lib.hid (by
              rw [← HB.out, show f = (f - 1) + 1 from by omega]
              exact runN9_over HY.out (by omega))
            clear hlen
            go_wp2
            go_ret2
            refine ⟨J2.out.bl, ?_⟩
            rw [HD.out]
            rfl
          · have hov' : ¬ (4000 : Int) < (n' : Int) := by omega
            have HD : Hid (runN9 (lr.map (·.2)) (f - 1) (i + 1) (expN (lr.map (·.2)) i y L) = bfsP (lr.map (·.2)) st) := Lib.hid (by
              rw [← HB.out, show f = (f - 1) + 1 from by omega]
              exact (runN9_step HY.out (by omega)).symm)
            clear hlen
            go_wp2
            go_roundw
            case rel => exact ⟨i + 1, f - 1, n', c', _, _, _, rfl, by go_num, by omega, by omega, by omega, HD, J2⟩
            case measure => simp [intOf]; omega
    · obtain rfl : i = n := by omega
      have hlt' : ¬ (i : Int) < (i : Int) := by omega
      have HD : Hid (bfsP (lr.map (·.2)) st = some L) := Lib.hid (by
        rw [← HB.out, show f = (f - 1) + 1 from by omega]
        exact runN9_done (List.getElem?_eq_none (by rw [I.out.len]; exact Nat.le_refl _)))
      go_wp2
      go_ret2
      refine ⟨I.out.bl, ?_⟩
      rw [HD.out]
      exact ⟨_, _, _, _, by rfl, I.out.q.le (by omega), I.out.e⟩
end Go.Proofs.YtfnamjkmkoldeaaGreatDoor
