/- The traffic in a ride state, walked.; Tests, rules and states of models: what the search of the reference calls, walked. -/
import Derived.Test.YtkaikbaagajckaaGreatN21
import Derived.Test.YtkaikbaagajckaaGreatN14
namespace Go.Proofs.YtkaikbaagajckaaGreat
open Go.RowKit
set_option linter.unusedVariables false
set_option linter.unusedSimpArgs false
def OwnRet0 (E : TypeId) (w : World) (n : Nat) (l : List Int) (e : Ending) (w' : World) : Prop :=
  ∃ a c, e = .returned (.slice a n c) ∧ Below w.heap.size w w' ∧ OwnI E w' w.heap.size a n c l
set_option maxHeartbeats 1000000 in
theorem spec_l01Own0 {a : Option Addr} {n c : Nat} {l : List Int} {w : World} (hI : Ints w a n c l) (hn : n ≤ 1048576) :
    Calls Tryz.prog 159 #[.slice a n c] w (OwnRet0 2 w n l) := by
  have HI := Lib.hid hI
  clear hI
  go_enter Tryz.func159, Tryz.ntmps159
  go_wp2_with (at_builtin; refine appendL_i64 rfl _ _ 22 2 rfl Tryz.underlying22 Tryz.infoi64 w.heap.size _ _ _ _ (OwnI.empty w (Nat.le_refl _)) rfl _ _ _ _ rfl (HI.out.keep ((Below.refl _ _).alloc (Nat.le_refl _) _)) (by omega) (by omega) (by simp) ?_; intro a1 c1 w1 hown1 hb1 hg1 hnil1)
  have Hown := Lib.hid hown1
  clear hown1
  go_ret
  exact ⟨a1, c1, by simp, bel, by simpa using Hown.out⟩
theorem holdsP_tst {v : List Int} {t : I2b} : (((v.getD t.a.toNat 0 == t.b) == t.c)) = !(tstP v t) := by
  rw [tstP]; cases (v.getD t.a.toNat 0 == t.b) <;> cases t.c <;> rfl
theorem holds_no {v : List Int} {g : List I2b} {k : Nat} {t : I2b} (h : g[k]? = some t) (ht : tstP v t = true) : holdsP v g = false := all_take_false h (by rw [holdsP_tst, ht]; rfl)
theorem holds_step {v : List Int} {g : List I2b} {k : Nat} {t : I2b} (h : g[k]? = some t) (hk : holdsP v (g.take k) = true) (ht : tstP v t = false) : holdsP v (g.take (k + 1)) = true := all_take_step h hk (by rw [holdsP_tst, ht]; rfl)
set_option maxHeartbeats 1000000 in
theorem spec_l20Holds {va ga : Option Addr} {vn vc gn gc : Nat} {v : List Int} {g : List I2b} {w : World} (hI : Ints w va vn vc v) (hG : F2b w ga gn gc g) (hg : gn ≤ 1048576) (hv : ∀ t ∈ g, 0 ≤ t.a ∧ t.a < (vn : Int)) :
    Calls Tryz.prog 74 #[.slice va vn vc, .slice ga gn gc] w fun e w' => e = .returned (.bool (holdsP v g)) ∧ Below w.heap.size w w' := by
  have HI := Lib.hid hI
  have HG := Lib.hid (hG.toV (m := vn) hv)
  have HL := Lib.hid hG.len
  clear hI hG hv
  go_enter Tryz.func74, Tryz.ntmps74
  go_wp2_with fail
  go_loopw [5] (fun s5 wr => ∃ j : Nat, s5 = .int .i64 j ∧ j ≤ gn ∧ Below w.heap.size w wr ∧ Hid (holdsP v (g.take j) = true)) (fun s5 _ => gn - (intOf s5).toNat)
  case atStart => exact ⟨0, rfl, by omega, Below.refl _ _, Lib.hid rfl⟩
  case round =>
    obtain ⟨j, rfl, hj, hbl, A⟩ := hrel
    by_cases hlt : j < gn
    · have hlt' : (j : Int) < (gn : Int) := by omega
      have hj0 : (0 : Int) ≤ (j : Int) := by omega
      obtain ⟨b, off, x, rfl, hb, hx, ⟨⟨xa, xb⟩, hx0, hx1⟩, c0, c1, c2⟩ := FV.get (HG.out.keep hbl) hlt
      have Hx := Lib.hid hx
      obtain ⟨x1, x2, x3⟩ := x
      simp only at xa xb hx0 hx1 c0 c1 c2
      obtain ⟨q, rfl⟩ := Int.eq_ofNat_of_zero_le hx0
      obtain ⟨b', off', y, rfl, hb', hy, hcell, hyw⟩ := (HI.out.keep hbl).at (k := q) (by omega)
      have hq1 : (q : Int) < (vn : Int) := by omega
      have HT := Lib.hid (show tstP v ⟨(q : Int), x2, x3⟩ = ((y == x2) != x3) by rw [tstP, Int.toNat_natCast, List.getD_eq_getElem?_getD, hy]; rfl)
      clear hy hx
      cases hq : (y == x2)
      · cases x3
        · have HQ := Lib.hid (HT.out.trans (show _ = false by rw [hq]; rfl))
          go_wp2
          go_quiet (fail)
          go_wp2
          go_roundw
          case rel => exact ⟨j + 1, by go_num, by omega, bel, Lib.hid (holds_step Hx.out A.out HQ.out)⟩
          case measure => simp [intOf]; omega
        · have HQ := Lib.hid (HT.out.trans (show _ = true by rw [hq]; rfl))
          go_wp2
          go_quiet (fail)
          go_wp2
          go_ret
          exact ⟨ret_bool (holds_no Hx.out HQ.out).symm, bel⟩
      · cases x3
        · have HQ := Lib.hid (HT.out.trans (show _ = true by rw [hq]; rfl))
          go_wp2
          go_quiet (fail)
          go_wp2
          go_ret
          exact ⟨ret_bool (holds_no Hx.out HQ.out).symm, bel⟩
        · have HQ := Lib.hid (HT.out.trans (show _ = false by rw [hq]; rfl))
          go_wp2
          go_quiet (fail)
          go_wp2
          go_roundw
          case rel => exact ⟨j + 1, by go_num, by omega, bel, Lib.hid (holds_step Hx.out A.out HQ.out)⟩
          case measure => simp [intOf]; omega
    · obtain rfl : gn = j := by omega
      have hlt' : ¬ (gn : Int) < (gn : Int) := by omega
      have hA := A.out
      rw [List.take_of_length_le (by rw [HL.out]; exact Nat.le_refl _)] at hA
      have HA := Lib.hid hA
      clear hA
      go_wp2
      go_ret
      exact ⟨ret_bool HA.out.symm, hbl⟩
set_option maxHeartbeats 4000000 in
theorem spec_l20Enabled {sa ta ra va : Option Addr} {sn sc tn tc rn rc vn vc : Nat} {v : List Int} {lr : List (RM × RuD)} {w0 w : World} (hb0 : Below w0.heap.size w0 w) (hR : FR w0 w ra rn rc lr) (hr : rn ≤ 1048576) (hV : Ints w va vn vc v) (hv : ∀ x ∈ lr, ∀ t ∈ x.2.g, 0 ≤ t.a ∧ t.a < (vn : Int)) (hg : ∀ x ∈ lr, x.1.gn ≤ 1048576) :
    Calls Tryz.prog 93 #[.agg #[.slice sa sn sc, .slice ta tn tc, .slice ra rn rc], .slice va vn vc] w fun e w' => ∃ a n c, e = .returned (.slice a n c) ∧ OwnI 2 w' w.heap.size a n c (enabI (lr.map (·.2)) v rn) ∧ n ≤ rn ∧ Below w.heap.size w w' := by
  obtain ⟨wA, hwA⟩ : ∃ wA : World, wA = w.alloc (.cells #[.slice sa sn sc, .slice ta tn tc, .slice ra rn rc] 36) := ⟨_, rfl⟩
  obtain ⟨wB, hwB⟩ : ∃ wB : World, wB = wA.alloc (.cells #[] 2) := ⟨_, rfl⟩
  have hsA : wA.heap.size = w.heap.size + 1 := by rw [hwA]; simp
  have hsB : w.heap.size + 1 ≤ wB.heap.size := by rw [hwB]; simp; omega
  have hbA : Below w.heap.size w wA := by rw [hwA]; exact bel
  have hbAB : Below wA.heap.size wA wB := by rw [hwB]; exact bel
  have hbB : Below w.heap.size w wB := below_callS hbA hbAB
  have X := Lib.hid (show Blk wB w.heap.size #[.slice sa sn sc, .slice ta tn tc, .slice ra rn rc] 36 from Blk.keep (by rw [hwA]; exact Blk.made w _ _) hbAB)
  have O0 := Lib.hid (show OwnI 2 wB (w.heap.size + 1) (some ⟨w.heap.size + 1, 0, none⟩) 0 0 [] by
    have h := OwnI.empty (E := 2) wA (base := w.heap.size + 1) (by omega)
    rw [hsA, ← hwB] at h; exact h)
  have HR := Lib.hid hR
  have HV := Lib.hid hV
  have HVT := Lib.hid hv
  have HG := Lib.hid hg
  have H0 := Lib.hid hb0
  clear hR hV hv hg hb0 hbA hbAB
  have Hw := Lib.hid (And.intro hwA (And.intro hwB hsA))
  clear hwA hwB hsA
  go_enter Tryz.func93, Tryz.ntmps93
  go_wp2_with fail
  go_loopw [5, 6] (fun s5 s6 wr => ∃ (j : Nat) (a : Option Addr) (n c : Nat), s5 = .slice a n c ∧ s6 = .int .i64 j ∧ j ≤ rn ∧ n ≤ j ∧ w.heap.size + 1 ≤ wr.heap.size ∧ Below w.heap.size w wr ∧ Hid (Blk wr w.heap.size #[.slice sa sn sc, .slice ta tn tc, .slice ra rn rc] 36) ∧ Hid (OwnI 2 wr (w.heap.size + 1) a n c (enabI (lr.map (·.2)) v j))) (fun _ s6 _ => rn - (intOf s6).toNat)
  case atStart =>
    obtain ⟨rfl, rfl, _⟩ := Hw.out
    exact ⟨0, _, 0, 0, by rfl, rfl, by omega, by omega, hsB, hbB, X, O0⟩
  case round =>
    clear X hbB hsB Hw O0
    obtain ⟨j, a, n, c, rfl, rfl, hj, hnj, hsr, hbl, X, O⟩ := hrel
    have x2 := X.out.cell 2
    have xl := X.out.lt
    simp at x2
    by_cases hlt : j < rn
    · have hlt' : (j : Int) < (rn : Int) := by omega
      have hj0 : (0 : Int) ≤ (j : Int) := by omega
      obtain ⟨b, off, R, r, rfl, hb, hx, hru, c0, c1, c2⟩ := FR.get (Flats.keep HR.out hbl) hlt
      have hxm := List.mem_of_getElem? hx
      have hgv := HVT.out _ hxm
      have hgn := HG.out _ hxm
      obtain ⟨_, _, hF, _⟩ := hru
      simp only at hgv hgn hF
      have Hx := Lib.hid (show (lr.map (·.2))[j]? = some r by rw [List.getElem?_map, hx]; rfl)
      have HF := Lib.hid hF
      have HGV := Lib.hid hgv
      have HGN := Lib.hid hgn
      have hb1 : Below w0.heap.size w0 wr := (H0.out).trans (hbl.mono H0.out.size)
      clear hx hxm hgv hgn hF
      go_wp2_with fail
      refine Calls.mono (spec_l20Holds ((HV.out.keep hbl)) ((HF.out.keep hb1)) HGN.out HGV.out) ?_
      rintro e w1 ⟨rfl, hbh⟩
      have hs1 := hbh.size
      have hbw1 : Below w.heap.size w w1 := below_callS hbl hbh
      have X1 := Lib.hid (X.out.keep hbh)
      have O1 := Lib.hid (O.out.keep hbh)
      clear c0 c1 c2 X O x2 xl
      cases hh : holdsP v r.g with
      | true =>
        have HY := Lib.hid (enabI_yes Hx.out hh)
        have hj64 : I64 (j : Int) := (by first | assumption | decide | (unfold I64; omega))
        go_wp2_with (at_builtin; (refine appI1 rfl _ _ rfl Tryz.underlying22 Tryz.infoi64 (w.heap.size + 1) _ _ _ _ O1.out rfl _ rfl rfl (by first | assumption | decide | (unfold I64; omega)) (by omega) (by omega) ?_; intro g' c3 wn ho hb4 ht hat hsn; have X2 := Lib.hid (X1.out.keepA ht (fun e => by have := (O1.out.blk _ e).1; omega)); have S := Lib.hid ho; clear ho ht))
        go_roundw
        case rel =>
          refine ⟨j + 1, _, _, _, rfl, by go_num, by omega, by omega, by omega, hbw1.trans (hb4.mono (by omega)), X2, ?_⟩
          rw [HY.out]; exact S
        case measure => simp [intOf]; omega
      | false =>
        have HN := Lib.hid (enabI_no Hx.out hh)
        go_wp2
        go_roundw
        case rel =>
          refine ⟨j + 1, _, _, _, rfl, by go_num, by omega, by omega, by omega, hbw1, X1, ?_⟩
          rw [HN.out]; exact O1
        case measure => simp [intOf]; omega
    · obtain rfl : rn = j := by omega
      have hlt' : ¬ (rn : Int) < (rn : Int) := by omega
      go_wp2
      go_ret
      exact ⟨_, _, _, rfl, O.out.le (by omega), hnj, hbl⟩
set_option maxHeartbeats 2000000 in
theorem spec_l20Apply {sa ta ra va : Option Addr} {sn sc tn tc rn rc vn vc k : Nat} {R : RM} {r : RuD} {v : List Int} {lr : List (RM × RuD)} {w0 w : World} (hb0 : Below w0.heap.size w0 w) (hR : FR w0 w ra rn rc lr) (hk : lr[k]? = some (R, r)) (hV : Ints w va vn vc v) (hvn : vn ≤ 1048576) (hv : ∀ a ∈ r.e, 0 ≤ a.a ∧ a.a < (vn : Int)) :
    Calls Tryz.prog 95 #[.agg #[.slice sa sn sc, .slice ta tn tc, .slice ra rn rc], .slice va vn vc, .int .i64 (k : Int)] w fun e w' => ∃ a c, e = .returned (.slice a vn c) ∧ OwnI 2 w' w.heap.size a vn c (applyP v r.e) ∧ Below w.heap.size w w' := by
  have hkl : k < rn := by rw [← hR.len]; exact (List.getElem?_eq_some_iff.1 hk).1
  have hkl' : (k : Int) < (rn : Int) := by omega
  have hk0 : (0 : Int) ≤ (k : Int) := by omega
  have X := Lib.hid (Blk.made w #[.slice sa sn sc, .slice ta tn tc, .slice ra rn rc] 36)
  have hbA : Below w.heap.size w (w.alloc (.cells #[.slice sa sn sc, .slice ta tn tc, .slice ra rn rc] 36)) := bel
  have HR := Lib.hid hR
  have HK := Lib.hid hk
  have HV := Lib.hid hV
  have HVT := Lib.hid hv
  have H0 := Lib.hid hb0
  clear hR hV hv hb0 hk
  go_enter Tryz.func95, Tryz.ntmps95
  go_wp2_with fail
  refine Calls.mono (spec_l01Own0 (HV.out.keep hbA) hvn) ?_
  rintro e w1 ⟨a1, c1, rfl, hb1, ho1⟩
  have hs1 := hb1.size
  simp at hs1
  have hX := X.out.keep hb1
  have x2 := hX.cell 2
  have xl := hX.lt
  simp at x2
  have hbl1 : Below w.heap.size w w1 := bel
  have O := Lib.hid (ho1.le (show w.heap.size + 1 ≤ _ by simp))
  obtain ⟨b, off, R', r', rfl, hb, hx, hru, c0, c1', c2⟩ := FR.get (Flats.keep HR.out hbl1) hkl
  have hxe : R' = R ∧ r' = r := by
    have h := HK.out
    rw [hx] at h; simpa using h
  obtain ⟨rfl, rfl⟩ := hxe
  have HE := Lib.hid (hru.2.2.2.2.1.keep H0.out)
  have HEN := Lib.hid hru.2.2.2.2.2
  have HLE := Lib.hid hru.2.2.2.2.1.len
  have hEN := hru.2.2.2.2.2
  clear ho1 hb1 hX hx hru
  obtain ⟨qnm, qga, qgn, qgc, qea, qen, qec⟩ := R'
  simp only at hEN HE HLE HEN c0 c1' c2
  go_wp2_with fail
  clear x2 xl c0 c1' c2
  go_loopw [9] (fun s9 wr => ∃ j : Nat, s9 = .int .i64 j ∧ j ≤ qen ∧ w.heap.size + 1 ≤ wr.heap.size ∧ Below w.heap.size w wr ∧ Hid (OwnI 2 wr (w.heap.size + 1) a1 vn c1 (applyP v (r'.e.take j)))) (fun s9 _ => qen - (intOf s9).toNat)
  case atStart => exact ⟨0, rfl, by omega, hs1, hbl1, O⟩
  case round =>
    clear O hbl1 hs1
    obtain ⟨j, rfl, hj, hsr, hbl, O⟩ := hrel
    by_cases hlt : j < qen
    · have hlt' : (j : Int) < (qen : Int) := by omega
      have hj0 : (0 : Int) ≤ (j : Int) := by omega
      obtain ⟨b2, o2, x, rfl, hb2, hx, hxo, c0, c1'⟩ := F2.get (HE.out.keep hbl) hlt
      have hxv := HVT.out x (List.mem_of_getElem? hx)
      have Hx := Lib.hid hx
      obtain ⟨xa, xb⟩ := x
      simp only at hxv c0 c1'
      obtain ⟨q, rfl⟩ := Int.eq_ofNat_of_zero_le hxv.1
      have hq : q < vn := by omega
      have hq' : (q : Int) < (vn : Int) := by omega
      have hq0 : (0 : Int) ≤ (q : Int) := by omega
      obtain ⟨g, rfl⟩ := O.out.shape (by omega)
      obtain ⟨y, hy, hyo, hcell⟩ := O.out.cell hq
      have hfz := O.out.free
      have hgl := (O.out.lt).2
      have hgl1 := (O.out.lt).1
      have hxo2 := hxo.2
      clear hx hy hxo hyo hxv
      go_wp2
      go_region
      go_wp2
      go_roundw
      case rel =>
        refine ⟨j + 1, by go_num, by omega, by simp; omega, ?_, Lib.hid ?_⟩
        · exact bel
        · rw [applyP_take Hx.out]
          exact (O.out.set q hxo2).keep bel
      case measure => simp [intOf]; omega
    · obtain rfl : qen = j := by omega
      have hlt' : ¬ (qen : Int) < (qen : Int) := by omega
      have hO := O.out
      rw [List.take_of_length_le (by rw [HLE.out]; exact Nat.le_refl _)] at hO
      have HO := Lib.hid hO
      clear hO O
      go_wp2
      go_ret
      exact ⟨_, _, rfl, HO.out.le (by omega), hbl⟩
end Go.Proofs.YtkaikbaagajckaaGreat
