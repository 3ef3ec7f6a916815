/- What a run of a replay takes of the interlock: the reference, walked. -/
import Derived.Test.YtipkncjjkkijfaaGreatDoorZ2
import Derived.Test.YtipkncjjkkijfaaGreatDoorZ6
import Derived.Test.YtipkncjjkkijfaaGreatDoorZ9
import Derived.RegionTactic
import Derived.BigRegion
import Derived.Test.YtipkncjjkkijfaaGreatDoorAi
namespace Go.Proofs.YtipkncjjkkijfaaGreatDoor
open Go.RowKit
set_option linter.unusedVariables false
set_option linter.unusedSimpArgs false
theorem enc1_one : ∀ y : Int, ∀ u ∈ enc1 y, u.oneCell' = true := fun y u h => by simp [enc1] at h; subst h; rfl
theorem flAt_a {i : Nat} {x : Int} : ∀ y ∈ flAt i x, y.a = (i : Int) := by
  intro y hy
  unfold flAt at hy
  split at hy
  · simp at hy; rw [hy]
  · split at hy
    · simp at hy; rw [hy]
    · split at hy
      · simp at hy; rcases hy with rfl | rfl <;> rfl
      · cases hy
set_option maxHeartbeats 1000000 in
theorem spec_l25Faults {a : Option Addr} {n c : Nat} {st : List Int} {w : World} (hI : Ints w a n c st) (hn : n ≤ 8) :
    Calls Tryz.prog 68 #[.slice a n c] w fun e w' => ∃ (a' : Option Addr) (n' c' : Nat) (L : List I3), e = .returned (.slice a' n' c') ∧ OwnF 3 I3.enc I3.ok 136 w' w.heap.size a' n' c' L ∧ n' ≤ 16 ∧ (∀ x ∈ L, 0 ≤ x.a ∧ x.a < n) ∧ Below w.heap.size w w' := by
  have HI := Lib.hid hI
  clear hI
  go_enter Tryz.func68, Tryz.ntmps68
  go_wp2_with fail
  obtain ⟨wA, hwA⟩ : ∃ v, v = w.alloc (.cells #[] 136) := ⟨_, rfl⟩
  have hbA : Below w.heap.size w wA := by rw [hwA]; exact below_alloc1 (Below.refl _ _) _
  have O0 := Lib.hid (show OwnF 3 I3.enc I3.ok 136 wA w.heap.size (some ⟨w.heap.size, 0, none⟩) 0 0 [] by rw [hwA]; exact OwnF.emp w (Nat.le_refl _) (fun _ => rfl))
  rw [← hwA]
  clear hwA
  go_loopw [3, 4] (fun s3 s4 wr => ∃ (k q cq : Nat) (aq : Option Addr) (L : List I3), s3 = .slice aq q cq ∧ s4 = .int .i64 (k : Int) ∧ k ≤ n ∧ q ≤ 2 * k ∧ Below w.heap.size w wr ∧ Hid (OwnF 3 I3.enc I3.ok 136 wr w.heap.size aq q cq L) ∧ Hid (∀ x ∈ L, 0 ≤ x.a ∧ x.a < n)) (fun _ s4 _ => n - (intOf s4).toNat)
  case atStart => exact ⟨0, 0, 0, _, [], rfl, rfl, by omega, by omega, hbA, O0, Lib.hid (fun x h => by cases h)⟩
  case round =>
    clear O0 hbA
    obtain ⟨k, q, cq, aq, L, rfl, rfl, hk, hq, hbl, O, E⟩ := hrel
    by_cases hlt : k < n
    · have hk0 : (0 : Int) ≤ (k : Int) := by omega
      have hlt' : (k : Int) < (n : Int) := by omega
      obtain ⟨b, off, x, rfl, hb, hx, c0, hwf⟩ := (HI.out.keep hbl).at hlt
      clear hx hwf
      go_wp2_with fail
      refine Calls.mono (spec_l24Faults (i := k) (x := x) (by omega)) ?_
      rintro e w2 ⟨n2, a2, c2, rfl, hb2, hF⟩
      have F2' := Lib.hid hF
      have O2 := Lib.hid (O.out.keep hb2)
      have B2 := below_callS hbl hb2
      have hl2 := hF.len
      have hle := flAt_len k x
      have hn2 : n2 ≤ 2 := by omega
      have HE := Lib.hid (show ∀ y ∈ L ++ flAt k x, 0 ≤ y.a ∧ y.a < n by
        intro y hy
        rcases List.mem_append.1 hy with hy | hy
        · exact E.out y hy
        · rw [flAt_a y hy]; omega)
      clear hF hb2 O hbl hl2 hle E
      go_wp2_with (at_builtin; refine appendL_F rfl _ _ 100 136 rfl Tryz.underlying100 Tryz.infoSensorFault rfl (by decide) (by decide) I3.one3 w.heap.size _ _ _ _ O2.out rfl _ _ _ _ rfl F2'.out (by omega) (by omega) B2.size ?_; intro aD cD wD hoD hbD hgD hnD; refine Hid.out ?_)
      have OD := Lib.hid hoD
      have BD := B2.trans hbD
      clear hoD hbD hgD hnD O2 B2 F2'
      refine Lib.hid ?_
      go_wp2_with fail
      go_roundw
      case rel => exact ⟨k + 1, q + n2, cD, aD, _, rfl, by go_num, by omega, by omega, BD, OD, HE⟩
      case measure => simp only [intOf]; omega
    · have hlt' : ¬ (k : Int) < (n : Int) := by omega
      go_wp2
      go_ret
      first | exact ⟨aq, q, cq, L, rfl, O.out, by omega, E.out, hbl⟩ | exact ⟨aq, q, cq, rfl, L, O.out, by omega, E.out, hbl⟩
set_option maxHeartbeats 2000000 in
theorem spec_l11Channel {B : Nat} {ch : Int} {a a2 : Option Addr} {n c n2 c2 : Nat} {l : List Int} {L : List I3} {w : World} (hI : Ints w a n c l) (hF : F3 w a2 n2 c2 L) (ht : trafB (B : Int) l = true) (hn2 : n2 ≤ 16) (hL : ∀ x ∈ L, 0 ≤ x.a ∧ x.a < B) :
    Calls Tryz.prog 83 #[.agg #[.int .i64 (B : Int), .slice a n c], .slice a2 n2 c2, .int .i64 ch] w fun e w' => ∃ (a' : Option Addr) (c' : Nat) (l' : List Int), e = .returned (.slice a' B c') ∧ OwnI 2 w' w.heap.size a' B c' l' ∧ Below w.heap.size w w' := by
  obtain ⟨hB2, hB8, hl1, hl4, hpl⟩ := trafB_split ht
  have hln := hI.len
  obtain ⟨wA, hwA⟩ : ∃ v, v = w.alloc (.cells #[.int .i64 (B : Int), .slice a n c] 26) := ⟨_, rfl⟩
  have hbA : Below w.heap.size w wA := by rw [hwA]; exact below_alloc1 (Below.refl _ _) _
  have hsA : wA.heap.size = w.heap.size + 1 := by rw [hwA]; exact Array.size_push _
  have XA := Lib.hid (show Blk wA w.heap.size #[.int .i64 (B : Int), .slice a n c] 26 by rw [hwA]; exact Blk.made w _ _)
  obtain ⟨wB, hwB⟩ : ∃ v, v = wA.alloc (.cells #[] 2) := ⟨_, rfl⟩
  have hbB : Below wA.heap.size wA wB := by rw [hwB]; exact below_alloc1 (Below.refl _ _) _
  have OB := Lib.hid (show OwnF 1 enc1 I64 2 wB wA.heap.size (some ⟨w.heap.size + 1, 0, none⟩) 0 0 [] by rw [hwB, ← hsA]; exact OwnF.emp wA (Nat.le_refl _) (fun _ => rfl))
  have HI := Lib.hid hI
  have HF := Lib.hid hF
  have HL := Lib.hid hL
  have HP := Lib.hid (fun (x : Int) hx => (show 0 ≤ x ∧ x ≤ 1000 by have := hpl x hx; omega))
  have hn4 : n ≤ 1000 := by omega
  have hB8' : B ≤ 8 := by omega
  clear hI hF hL hpl ht hl1 hl4 hln
  go_enter Tryz.func83, Tryz.ntmps83
  go_upto_region 2 with fail
  rw [← hwA, ← hwB]
  clear hwA hwB
  go_wp2_with fail
  go_loopw [7, 8] (fun s7 s8 wr => ∃ (k cq : Nat) (aq : Option Addr) (L1 : List Int), s7 = .slice aq k cq ∧ s8 = .int .i64 (k : Int) ∧ k ≤ B ∧ Below wA.heap.size wA wr ∧ Hid (OwnF 1 enc1 I64 2 wr wA.heap.size aq k cq L1)) (fun _ s8 _ => B - (intOf s8).toNat)
  case atStart => exact ⟨0, 0, _, [], rfl, rfl, by omega, hbB, OB⟩
  case round =>
    clear OB hbB
    obtain ⟨k, cq, aq, L1, rfl, rfl, hk, hbl, O⟩ := hrel
    have X := Lib.hid (XA.out.keep hbl)
    have hbw := below_callS hbA hbl
    have x0 := X.out.cell 0
    have x1 := X.out.cell 1
    have xl := X.out.lt
    simp only [List.getElem?_toArray, List.getElem?_cons_zero, List.getElem?_cons_succ] at x0 x1
    by_cases hlt : k < B
    · have hk0 : (0 : Int) ≤ (k : Int) := by omega
      have hlt' : (k : Int) < (B : Int) := by omega
      go_wp2_with fail
      refine Calls.mono (spec_l10Count (b := k) (HI.out.keep hbw) hn4 (by omega) hB8' HP.out) ?_
      rintro e w2 ⟨rfl, hb2⟩
      have hcn := cntN_le B l k
      have hll := HI.out.len
      obtain ⟨cn, hcn'⟩ : ∃ cn : Nat, cntN B l k = cn := ⟨_, rfl⟩
      rw [hcn'] at hcn ⊢
      have O2 := Lib.hid (O.out.keep hb2)
      have B2 := below_callS hbl hb2
      have hm : I64 (min 1 (cn : Int)) := by unfold I64; omega
      clear hb2 O hbl hbw x0 x1 xl X hcn hll hcn'
      go_wp2_with (at_builtin; refine appOne (min 1 (cn : Int)) rfl _ _ rfl Tryz.underlying24 Tryz.infoi64 rfl (by decide) (by decide) enc1_one _ _ _ _ O2.out rfl _ rfl rfl rfl hm (by omega) B2 ?_; intro aD cD wD hoD hbD; refine Hid.out ?_)
      have OD := Lib.hid hoD
      clear hoD O2 B2 hm
      refine Lib.hid ?_
      go_wp2_with fail
      go_roundw
      case rel => exact ⟨k + 1, cD, aD, _, rfl, by go_num, by omega, hbD, OD⟩
      case measure => simp only [intOf]; omega
    · have hlt' : ¬ (k : Int) < (B : Int) := by omega
      obtain rfl : k = B := by omega
      have OI := Lib.hid (O.out.i1)
      obtain ⟨g, hg⟩ := O.out.shape (show 0 < k by omega)
      subst hg
      clear X O
      go_wp2_with fail
      clear x0 x1 xl
      go_loopw [9] (fun s9 wr' => ∃ (j : Nat) (L2 : List Int), s9 = .int .i64 (j : Int) ∧ j ≤ n2 ∧ Below wA.heap.size wA wr' ∧ Hid (OwnI 2 wr' wA.heap.size (some ⟨g, 0, none⟩) k cq L2)) (fun s9 _ => n2 - (intOf s9).toNat)
      case atStart => exact ⟨0, L1, rfl, by omega, hbl, OI⟩
      case round =>
        clear OI hbl hbw
        obtain ⟨j, L2, rfl, hj, hbl, O⟩ := hrel
        have hbw := below_callS hbA hbl
        by_cases hlt2 : j < n2
        · have hj0 : (0 : Int) ≤ (j : Int) := by omega
          have hlt2' : (j : Int) < (n2 : Int) := by omega
          obtain ⟨b', off, x, rfl, hb', hx, hwf, c0, c1, c2⟩ := F3.get (HF.out.keep hbw) hlt2
          have hxa := HL.out x (List.mem_of_getElem? hx)
          obtain ⟨xa, xb, xc⟩ := x
          simp only at hxa c0 c1 c2
          obtain ⟨p, rfl⟩ := Int.eq_ofNat_of_zero_le hxa.1
          have hp0 : (0 : Int) ≤ (p : Int) := by omega
          have hpk : (p : Int) < (k : Int) := by omega
          have hwc : I64 xc := hwf.2.2
          obtain ⟨y, hy, _, hcy⟩ := O.out.cell (k := p) (by omega)
          have hfz := O.out.free p
          have hgl := (O.out.lt).2
          have hgb : wA.heap.size ≤ (⟨g, p, none⟩ : Addr).block := (O.out.lt).1
          clear hx hwf hxa hy
          by_cases hch : xb = ch
          · have hch' : (xb == ch) = true := by simpa using hch
            go_wp2_with fail
            go_region
            go_wp2_with fail
            go_roundw
            case rel => exact ⟨j + 1, L2.set p xc, by go_num, by omega, by first | exact (Below.setCell hbl hgb _).drew | exact bel, Lib.hid (by first | exact (O.out.set p hwc) | exact (O.out.set p hwc).keep (Below.drew (Below.refl _ _)) | exact (O.out.set p hwc).keep bel)⟩
            case measure => simp only [intOf]; omega
          · have hch' : (xb == ch) = false := by simpa using hch
            go_wp2_with fail
            go_roundw
            case rel => exact ⟨j + 1, L2, by go_num, by omega, hbl, O⟩
            case measure => simp only [intOf]; omega
        · have hlt2' : ¬ (j : Int) < (n2 : Int) := by omega
          go_wp2
          go_ret
          have hle := hbA.size
          have OF := O.out.le hle
          first | exact ⟨_, cq, rfl, ⟨L2, OF⟩, hbw⟩ | exact ⟨_, cq, rfl, L2, OF, hbw⟩ | exact ⟨_, cq, L2, rfl, OF, hbw⟩
end Go.Proofs.YtipkncjjkkijfaaGreatDoor
