/- What the channels report: the program, walked.; A train that holds is released exactly if its move is permitted: the plain law of the statement. -/
import Derived.Test.YtfnamjkmkoldeaaGreatDoorYc
import Derived.Test.YtfnamjkmkoldeaaGreatDoorYe
import Derived.Test.YtfnamjkmkoldeaaGreatDoorYa
import Derived.Test.YtfnamjkmkoldeaaGreatDoorYd
import Derived.Test.YtfnamjkmkoldeaaGreatDoorQe
import Derived.Test.YtfnamjkmkoldeaaGreatDoorRs
namespace Go.Proofs.YtfnamjkmkoldeaaGreatDoor
open Go.RowKit
set_option linter.unusedVariables false
set_option linter.unusedSimpArgs false
theorem repL_step {m : List Int} {fl : List I3} {i : Nat} {x : I3} (h : fl[i]? = some x) : repL m (fl.take (i + 1)) = repF (repL m (fl.take i)) x := by
  rw [take_at h, repL, List.foldl_append]; rfl
theorem repF_0 (p : List Int × List Int) (k : Nat) (x : Int) : repF p ⟨(k : Int), 0, x⟩ = (p.1.set k x, p.2) := by rw [repF, if_pos rfl, Int.toNat_natCast]
theorem repF_1 (p : List Int × List Int) (k : Nat) (x : Int) : repF p ⟨(k : Int), 1, x⟩ = (p.1, p.2.set k x) := by rw [repF, if_neg (by simp), Int.toNat_natCast]
set_option maxRecDepth 100000 in
set_option maxHeartbeats 4000000 in
theorem impl_reportOf {B n c fn fc : Nat} {a fa : Option Addr} {l : List Int} {fl : List I3} {w : World} (hI : Ints w a n c l) (hn : n ≤ 4) (hB : 2 ≤ B) (hB8 : B ≤ 8) (hp : ∀ x ∈ l, 0 ≤ x ∧ x < 3 * (B : Int)) (hF : F3 w fa fn fc fl) (hfn : fn ≤ 8) (hg : ∀ y ∈ fl, 0 ≤ y.a ∧ y.a < (B : Int) ∧ (y.b = 0 ∨ y.b = 1) ∧ (y.c = 0 ∨ y.c = 1)) :
    Calls Tryz.prog 77 #[.agg #[.int .i64 (B : Int), .slice a n c], .slice fa fn fc] w fun e w' => ∃ a1 c1 a2 c2, e = .returned (.agg #[.slice a1 B c1, .slice a2 B c2]) ∧ OwnI 2 w' w.heap.size a1 B c1 (repL (repM B l) fl).1 ∧ OwnI 2 w' w.heap.size a2 B c2 (repL (repM B l) fl).2 ∧ Below w.heap.size w w' := by
  obtain ⟨wA, hwA⟩ : ∃ wA : World, wA = (w.alloc (.cells #[.int .i64 (B : Int), .slice a n c] 28)).alloc (.cells #[.slice none 0 0, .slice none 0 0] 58) := ⟨_, rfl⟩
  have hsA : wA.heap.size = w.heap.size + 2 := by rw [hwA]; simp
  have hbA : Below w.heap.size w wA := by rw [hwA]; repeat (first | exact Below.refl _ _ | assumption | refine below_allocS ?_ _ | refine below_callS ?_ (by assumption) | (refine Below.alloc ?_ (by first | omega | (simp; done) | (simp; omega)) _) | (refine Below.setCell ?_ (by first | omega | (simp; done) | (simp; omega)) _) | refine Below.drew ?_ | refine below_drewN ?_ _ | (refine below_call ?_ (by assumption) (by first | omega | (simp; done) | (simp; omega))) | (refine Below.trans ?_ (by assumption)))
  have X0 : Blk wA w.heap.size #[.int .i64 (B : Int), .slice a n c] 28 := by rw [hwA]; exact (Blk.made w _ _).keep (by repeat (first | exact Below.refl _ _ | assumption | refine below_allocS ?_ _ | refine below_callS ?_ (by assumption) | (refine Below.alloc ?_ (by first | omega | (simp; done) | (simp; omega)) _) | (refine Below.setCell ?_ (by first | omega | (simp; done) | (simp; omega)) _) | refine Below.drew ?_ | refine below_drewN ?_ _ | (refine below_call ?_ (by assumption) (by first | omega | (simp; done) | (simp; omega))) | (refine Below.trans ?_ (by assumption))))
  have R0 : Blk wA (w.heap.size + 1) #[.slice none 0 0, .slice none 0 0] 58 := by rw [hwA]; have := Blk.made (w.alloc (.cells #[.int .i64 (B : Int), .slice a n c] 28)) #[.slice none 0 0, .slice none 0 0] 58; simpa using this
  obtain ⟨i0, hi, hz0, hz1, hz2⟩ := info_parts Tryz.infoi64
  obtain ⟨w1, hmk, hown, hgr⟩ := run_make_full (P := Tryz.prog) wA wA.heap.size 22 2 i0 (.int .i64 0) 1 Tryz.underlying22 hi hz0 hz1 .i64 .i64 B (by rw [hz2]; omega) (by unfold maxLen; omega) (Nat.le_refl _)
  have hb1 : Below wA.heap.size wA w1 := (Below.refl _ _).grown hgr (Nat.le_refl _) (fun k h => by cases h)
  have ho : OwnI 2 w1 wA.heap.size (some ⟨wA.heap.size, 0, none⟩) B B ((repM B l).take 0 ++ List.replicate (B - 0) 0) := by
    refine ⟨?_, fun x hx => ?_⟩
    · have : (madeCells (Value.cells (.int .i64 0)) (B * 1)).toList = ((repM B l).take 0 ++ List.replicate (B - 0) 0).map (Value.int .i64) := by
        rw [Nat.mul_one, show Value.cells (.int .i64 0) = #[.int .i64 0] from rfl, toList_madeCells_one]; simp
      rw [this] at hown; exact hown
    · simp at hx; rw [hx.2]; exact ⟨by omega, by omega⟩
  rw [hsA] at ho hmk
  have HI := Lib.hid hI
  have HF := Lib.hid hF
  have HG := Lib.hid hg
  have HPL := Lib.hid hp
  have HML := Lib.hid (show (repM B l).length = B by rw [repM, List.length_map, cntL_len])
  have O := Lib.hid ho
  have X := Lib.hid (X0.keep hb1)
  have R := Lib.hid (R0.keep hb1)
  have HB1 := Lib.hid (below_callS hbA hb1)
  have K1 := Lib.hid (impl_uses (hI.keep (below_callS hbA hb1)) hn hB hB8 hp)
  rw [hwA] at hmk
  clear hI hF hg hp ho hown hgr hi hz0 hz1 hz2 X0 R0 hb1 hbA hwA hsA
  have m0 := X.out.cell 0
  have m1 := X.out.cell 1
  have ml := X.out.lt
  simp at m0 m1
  go_enter Tryz.func77, Tryz.ntmps77
  go_wp2_with fail
  clear hmk
  refine Calls.mono K1.out ?_
  rintro e w2 ⟨a2, n2, c2, rfl, hb2, hu2⟩
  obtain rfl : B = n2 := by rw [← hu2.len, cntL_len]
  have hs1 := (O.out.lt).2
  have hs2 := hb2.size
  have U := Lib.hid (hu2.le (show w.heap.size + 3 ≤ w1.heap.size by omega))
  have R2 := Lib.hid (R.out.keep hb2)
  have O2 := Lib.hid (O.out.keep hb2)
  have HB2 := Lib.hid (below_call HB1.out hb2 HB1.out.size)
  clear hu2 hb2 m0 m1 ml K1 X R O HB1
  go_wp2_with fail
  go_loopw [6, 7, 17] (fun _ _ s17 wr => ∃ j : Nat, s17 = .int .i64 j ∧ j ≤ B ∧ w.heap.size + 3 ≤ wr.heap.size ∧ Hid (Below w.heap.size w wr) ∧ Hid (Blk wr (w.heap.size + 1) #[.slice none 0 0, .slice none 0 0] 58) ∧ Hid (OwnI 2 wr (w.heap.size + 3) a2 B c2 (cntL B l)) ∧ Hid (OwnI 2 wr (w.heap.size + 2) (some ⟨w.heap.size + 2, 0, none⟩) B B ((repM B l).take j ++ List.replicate (B - j) 0))) (fun _ _ s17 _ => B - (intOf s17).toNat)
  case atStart => exact ⟨0, rfl, by omega, by omega, HB2, R2, U, O2⟩
  case round =>
    clear HB2 R2 U O2
    obtain ⟨j, rfl, hj, hsr, HB, R, U, O⟩ := hrel
    by_cases hlt : j < B
    · have hlt' : (j : Int) < (B : Int) := by omega
      have hj0 : (0 : Int) ≤ (j : Int) := by omega
      obtain ⟨bu, ou, u, rfl, hbu, hu, hcu, _⟩ := U.out.ints.at hlt
      rw [cntL_at hlt] at hu
      simp only [Option.some.injEq] at hu
      obtain ⟨z, hz, hzo, hcz⟩ := O.out.cell hlt
      have hgl := (O.out.lt).2
      have hfz := O.out.free
      have hub : bu ≠ w.heap.size + 2 := fun e => by
        rcases U.out.form with ⟨e1, _⟩ | ⟨g', e1⟩
        · cases e1
        · have h2 := (U.out.blk g' e1).1
          cases e1
          omega
      have hm := repM_at (ps := l) hlt
      clear hz
      by_cases hc0 : cntN B l j = 0
      · rw [if_pos hc0] at hm
        obtain rfl : u = 0 := by omega
        have HS := Lib.hid (set_fill (z := (0 : Int)) hm B HML.out)
        clear hu hm hc0
        go_wp2
        go_roundw
        case rel =>
          refine ⟨j + 1, by go_num, by omega, by simp [World.setCell]; omega, Lib.hid (HB.out.setCell (by simp) _), Lib.hid (R.out.keepG (set_grown _ _ _) (by simp)), Lib.hid (U.out.keepG (set_grown _ _ _) (fun g e e' => by simp at e e'; exact hub (by omega))), Lib.hid ?_⟩
          rw [← HS.out]; exact O.out.set j ⟨by omega, by omega⟩
        case measure => simp [intOf]; omega
      · rw [if_neg hc0] at hm
        have hu1 : ¬ u < 1 := by omega
        have hmin : min u 1 = 1 := by omega
        have HS := Lib.hid (set_fill (z := (0 : Int)) hm B HML.out)
        clear hu hm hc0
        go_wp2
        go_roundw
        case rel =>
          refine ⟨j + 1, by go_num, by omega, by simp [World.setCell]; omega, Lib.hid (HB.out.setCell (by simp) _), Lib.hid (R.out.keepG (set_grown _ _ _) (by simp)), Lib.hid (U.out.keepG (set_grown _ _ _) (fun g e e' => by simp at e e'; exact hub (by omega))), Lib.hid ?_⟩
          rw [← HS.out]; exact O.out.set j ⟨by omega, by omega⟩
        case measure => simp [intOf]; omega
    · obtain rfl : B = j := by omega
      have hlt' : ¬ (B : Int) < (B : Int) := by omega
      have OM := Lib.hid (show OwnI 2 wr (w.heap.size + 2) (some ⟨w.heap.size + 2, 0, none⟩) B B (repM B l) by
        have h := O.out
        rw [take_len HML.out, Nat.sub_self, List.replicate_zero, List.append_nil] at h; exact h)
      clear U O
      go_wp2_with fail
      refine Calls.mono (slices_Clone_i64 OM.out.ints (by omega)) ?_
      rintro e w3 ⟨a3, c3, rfl, hb3, ho3, _⟩
      obtain ⟨g3, rfl⟩ := ho3.shape (by omega)
      have O3 := Lib.hid (ho3.le (show w.heap.size + 3 ≤ wr.heap.size from hsr))
      have OM3 := Lib.hid (OM.out.keep hb3)
      have R3 := Lib.hid (R.out.keep hb3)
      have hs3 := hb3.size
      have HB3 := Lib.hid (below_call HB.out hb3 HB.out.size)
      clear ho3 hb3 OM R HB
      have hb4 : Below w3.heap.size w3 (w3.alloc (.cells #[.slice (some ⟨w.heap.size + 2, 0, none⟩) B B, .slice (some ⟨g3, 0, none⟩) B c3] 58)) := by repeat (first | exact Below.refl _ _ | assumption | refine below_allocS ?_ _ | refine below_callS ?_ (by assumption) | (refine Below.alloc ?_ (by first | omega | (simp; done) | (simp; omega)) _) | (refine Below.setCell ?_ (by first | omega | (simp; done) | (simp; omega)) _) | refine Below.drew ?_ | refine below_drewN ?_ _ | (refine below_call ?_ (by assumption) (by first | omega | (simp; done) | (simp; omega))) | (refine Below.trans ?_ (by assumption)))
      have P4 := Lib.hid (Blk.made w3 #[.slice (some ⟨w.heap.size + 2, 0, none⟩) B B, .slice (some ⟨g3, 0, none⟩) B c3] 58)
      have O4 := Lib.hid (O3.out.keep hb4)
      have OM4 := Lib.hid (OM3.out.keep hb4)
      have R4 := Lib.hid (R3.out.keep hb4)
      have HB4 := Lib.hid (below_call HB3.out hb4 HB3.out.size)
      have hg3 := O3.out.lt
      clear hb4 O3 OM3 R3 HB3
      go_wp2_with fail
      go_loopw [10, 34] (fun _ s34 wq => ∃ i : Nat, s34 = .int .i64 i ∧ i ≤ fn ∧ w3.heap.size + 1 ≤ wq.heap.size ∧ Hid (Below w.heap.size w wq) ∧ Hid (Blk wq (w.heap.size + 1) #[.slice none 0 0, .slice none 0 0] 58) ∧ Hid (Blk wq w3.heap.size #[.slice (some ⟨w.heap.size + 2, 0, none⟩) B B, .slice (some ⟨g3, 0, none⟩) B c3] 58) ∧ Hid (OwnI 2 wq (w.heap.size + 2) (some ⟨w.heap.size + 2, 0, none⟩) B B (repL (repM B l) (fl.take i)).1) ∧ Hid (OwnI 2 wq (w.heap.size + 3) (some ⟨g3, 0, none⟩) B c3 (repL (repM B l) (fl.take i)).2)) (fun _ s34 _ => fn - (intOf s34).toNat)
      case atStart => exact ⟨0, rfl, by omega, by simp, HB4, R4, P4, Lib.hid (by simpa [repL] using OM4.out), Lib.hid (by simpa [repL] using O4.out)⟩
      case round =>
        clear HB4 R4 P4 OM4 O4
        obtain ⟨i, rfl, hi, hsq, HB, R, P, O1, O2⟩ := hrel
        have p0 := P.out.cell 0
        have p1 := P.out.cell 1
        have pl := P.out.lt
        simp at p0 p1
        by_cases hin : i < fn
        · have hin' : (i : Int) < (fn : Int) := by omega
          have hi0 : (0 : Int) ≤ (i : Int) := by omega
          obtain ⟨b, off, x, rfl, hb, hx, hwf, hc0, hc1, hc2⟩ := F3.get (HF.out.keep HB.out) hin
          have HS := Lib.hid (repL_step (m := repM B l) hx)
          have hgx := HG.out _ (List.mem_of_getElem? hx)
          clear hx hwf
          obtain ⟨xa, xb, xc⟩ := x
          obtain ⟨g0, g1, g2, g3'⟩ := hgx
          simp only at g0 g1 g2 g3' hc0 hc1 hc2
          obtain ⟨k, rfl⟩ := Int.eq_ofNat_of_zero_le g0
          have hk : k < B := by omega
          obtain ⟨z1, _, _, hz1⟩ := O1.out.cell hk
          obtain ⟨z2, _, _, hz2⟩ := O2.out.cell hk
          have hgl1 := (O1.out.lt).2
          have hgl2 := (O2.out.lt).2
          have hfz1 := O1.out.free
          have hfz2 := O2.out.free
          have hxc : I64 xc := by unfold I64; omega
          rcases g2 with rfl | rfl
          · rw [repF_0] at HS
            go_wp2
            go_roundw
            case rel =>
              refine ⟨i + 1, by go_num, by omega, by simp [World.setCell]; omega, Lib.hid ?_, Lib.hid ?_, Lib.hid ?_, Lib.hid ?_, Lib.hid ?_⟩
              · exact below_allocS (HB.out.setCell (by simp) _) _
              · exact (R.out.keepG (set_grown (w.heap.size + 2) k (.int .i64 xc)) (by simp)).keep (by repeat (first | exact Below.refl _ _ | assumption | refine below_allocS ?_ _ | refine below_callS ?_ (by assumption) | (refine Below.alloc ?_ (by first | omega | (simp; done) | (simp; omega)) _) | (refine Below.setCell ?_ (by first | omega | (simp; done) | (simp; omega)) _) | refine Below.drew ?_ | refine below_drewN ?_ _ | (refine below_call ?_ (by assumption) (by first | omega | (simp; done) | (simp; omega))) | (refine Below.trans ?_ (by assumption))))
              · exact (P.out.keepG (set_grown (w.heap.size + 2) k (.int .i64 xc)) (by simp; omega)).keep (by repeat (first | exact Below.refl _ _ | assumption | refine below_allocS ?_ _ | refine below_callS ?_ (by assumption) | (refine Below.alloc ?_ (by first | omega | (simp; done) | (simp; omega)) _) | (refine Below.setCell ?_ (by first | omega | (simp; done) | (simp; omega)) _) | refine Below.drew ?_ | refine below_drewN ?_ _ | (refine below_call ?_ (by assumption) (by first | omega | (simp; done) | (simp; omega))) | (refine Below.trans ?_ (by assumption))))
              · rw [HS.out]; exact (O1.out.set k hxc).keep (by repeat (first | exact Below.refl _ _ | assumption | refine below_allocS ?_ _ | refine below_callS ?_ (by assumption) | (refine Below.alloc ?_ (by first | omega | (simp; done) | (simp; omega)) _) | (refine Below.setCell ?_ (by first | omega | (simp; done) | (simp; omega)) _) | refine Below.drew ?_ | refine below_drewN ?_ _ | (refine below_call ?_ (by assumption) (by first | omega | (simp; done) | (simp; omega))) | (refine Below.trans ?_ (by assumption))))
              · rw [HS.out]; exact (O2.out.keepG (set_grown (w.heap.size + 2) k (.int .i64 xc)) (fun g e e' => by simp at e e'; omega)).keep (by repeat (first | exact Below.refl _ _ | assumption | refine below_allocS ?_ _ | refine below_callS ?_ (by assumption) | (refine Below.alloc ?_ (by first | omega | (simp; done) | (simp; omega)) _) | (refine Below.setCell ?_ (by first | omega | (simp; done) | (simp; omega)) _) | refine Below.drew ?_ | refine below_drewN ?_ _ | (refine below_call ?_ (by assumption) (by first | omega | (simp; done) | (simp; omega))) | (refine Below.trans ?_ (by assumption))))
            case measure => simp [intOf]; omega
          · rw [repF_1] at HS
            go_wp2
            go_roundw
            case rel =>
              refine ⟨i + 1, by go_num, by omega, by simp [World.setCell]; omega, Lib.hid ?_, Lib.hid ?_, Lib.hid ?_, Lib.hid ?_, Lib.hid ?_⟩
              · exact below_allocS (HB.out.setCell (by simp; omega) _) _
              · exact (R.out.keepG (set_grown g3 k (.int .i64 xc)) (by simp; omega)).keep (by repeat (first | exact Below.refl _ _ | assumption | refine below_allocS ?_ _ | refine below_callS ?_ (by assumption) | (refine Below.alloc ?_ (by first | omega | (simp; done) | (simp; omega)) _) | (refine Below.setCell ?_ (by first | omega | (simp; done) | (simp; omega)) _) | refine Below.drew ?_ | refine below_drewN ?_ _ | (refine below_call ?_ (by assumption) (by first | omega | (simp; done) | (simp; omega))) | (refine Below.trans ?_ (by assumption))))
              · exact (P.out.keepG (set_grown g3 k (.int .i64 xc)) (by simp; omega)).keep (by repeat (first | exact Below.refl _ _ | assumption | refine below_allocS ?_ _ | refine below_callS ?_ (by assumption) | (refine Below.alloc ?_ (by first | omega | (simp; done) | (simp; omega)) _) | (refine Below.setCell ?_ (by first | omega | (simp; done) | (simp; omega)) _) | refine Below.drew ?_ | refine below_drewN ?_ _ | (refine below_call ?_ (by assumption) (by first | omega | (simp; done) | (simp; omega))) | (refine Below.trans ?_ (by assumption))))
              · rw [HS.out]; exact (O1.out.keepG (set_grown g3 k (.int .i64 xc)) (fun g e e' => by simp at e e'; omega)).keep (by repeat (first | exact Below.refl _ _ | assumption | refine below_allocS ?_ _ | refine below_callS ?_ (by assumption) | (refine Below.alloc ?_ (by first | omega | (simp; done) | (simp; omega)) _) | (refine Below.setCell ?_ (by first | omega | (simp; done) | (simp; omega)) _) | refine Below.drew ?_ | refine below_drewN ?_ _ | (refine below_call ?_ (by assumption) (by first | omega | (simp; done) | (simp; omega))) | (refine Below.trans ?_ (by assumption))))
              · rw [HS.out]; exact (O2.out.set k hxc).keep (by repeat (first | exact Below.refl _ _ | assumption | refine below_allocS ?_ _ | refine below_callS ?_ (by assumption) | (refine Below.alloc ?_ (by first | omega | (simp; done) | (simp; omega)) _) | (refine Below.setCell ?_ (by first | omega | (simp; done) | (simp; omega)) _) | refine Below.drew ?_ | refine below_drewN ?_ _ | (refine below_call ?_ (by assumption) (by first | omega | (simp; done) | (simp; omega))) | (refine Below.trans ?_ (by assumption))))
            case measure => simp [intOf]; omega
        · obtain rfl : fn = i := by omega
          have hin' : ¬ (fn : Int) < (fn : Int) := by omega
          have HE := Lib.hid (show fl.take fn = fl from take_len HF.out.len)
          rw [HE.out] at O1 O2
          have r0 := R.out.cell 0
          have r1 := R.out.cell 1
          have rl := R.out.lt
          have rf := R.out.free
          simp at r0 r1
          go_wp2
          refine bodyPost_ret (v := .agg #[.slice (some ⟨w.heap.size + 2, 0, none⟩) B B, .slice (some ⟨g3, 0, none⟩) B c3]) (by simp [results, Tryz.results77, go_sem, *]) rfl ⟨_, _, _, _, rfl, ?_, ?_, (HB.out.setCell (by simp) _).setCell (by simp) _⟩
          · exact (O1.out.only (((Only.refl (w.heap.size + 1) (w.heap.size + 2) _).set ⟨Nat.le_refl _, Nat.lt_succ_self _⟩ 0 _).set ⟨Nat.le_refl _, Nat.lt_succ_self _⟩ 1 _) (fun g hg => .inr (by have := (O1.out.blk g hg).1; omega))).le (by omega)
          · exact (O2.out.only (((Only.refl (w.heap.size + 1) (w.heap.size + 2) _).set ⟨Nat.le_refl _, Nat.lt_succ_self _⟩ 0 _).set ⟨Nat.le_refl _, Nat.lt_succ_self _⟩ 1 _) (fun g hg => .inr (by have := (O2.out.blk g hg).1; omega))).le (by omega)
set_option maxHeartbeats 2000000 in
theorem impl_ReportOf {B n c fn fc : Nat} {a fa : Option Addr} {l : List Int} {fl : List I3} {w : World} (hI : Ints w a n c l) (ht : trafB (B : Int) l = true) (hF : F3 w fa fn fc fl) (hfn : fn ≤ 8) (hg : ∀ y ∈ fl, 0 ≤ y.a ∧ y.a < (B : Int) ∧ (y.b = 0 ∨ y.b = 1) ∧ (y.c = 0 ∨ y.c = 1)) (hd : fl.Pairwise fun o f => sameS f o = false) :
    Calls Tryz.prog 30 #[.agg #[.int .i64 (B : Int), .slice a n c], .slice fa fn fc] w fun e w' => ∃ a1 c1 a2 c2, e = .returned (.tuple #[.agg #[.slice a1 B c1, .slice a2 B c2], .int .i64 0]) ∧ OwnI 2 w' w.heap.size a1 B c1 (repL (repM B l) fl).1 ∧ OwnI 2 w' w.heap.size a2 B c2 (repL (repM B l) fl).2 ∧ Below w.heap.size w w' := by
  obtain ⟨t1, t2, t3, t4, t5⟩ := trafB_split ht
  have hn4 : n ≤ 4 := by rw [← hI.len]; exact t4
  have K1 := Lib.hid (fun (wx : World) (hb : Below w.heap.size w wx) => impl_IsTraffic (b := (B : Int)) (hI.keep hb) (by omega))
  rw [ht] at K1
  have K2 := Lib.hid (fun (wx : World) (hb : Below w.heap.size w wx) => impl_areFaults_ok (rows := (B : Int)) (hF.keep hb) hfn ⟨t1, t2⟩ hg hd)
  have K3 := Lib.hid (fun (wx : World) (hb : Below w.heap.size w wx) => impl_reportOf (B := B) (hI.keep hb) hn4 (by omega) (by omega) (fun x hx => by have := t5 x hx; omega) (hF.keep hb) hfn hg)
  obtain ⟨W, hW⟩ : ∃ W, W = (w.alloc (.cells #[.int .i64 (B : Int), .slice a n c] 28)).alloc (.cells #[.slice none 0 0, .slice none 0 0] 58) := ⟨_, rfl⟩
  have hbW : Below w.heap.size w W := by rw [hW]; repeat (first | exact Below.refl _ _ | assumption | refine below_allocS ?_ _ | refine below_callS ?_ (by assumption) | (refine Below.alloc ?_ (by first | omega | (simp; done) | (simp; omega)) _) | (refine Below.setCell ?_ (by first | omega | (simp; done) | (simp; omega)) _) | refine Below.drew ?_ | refine below_drewN ?_ _ | (refine below_call ?_ (by assumption) (by first | omega | (simp; done) | (simp; omega))) | (refine Below.trans ?_ (by assumption)))
  have hsW : W.heap.size = w.heap.size + 2 := by rw [hW]; simp
  have X := Lib.hid (show Blk W w.heap.size #[.int .i64 (B : Int), .slice a n c] 28 by rw [hW]; exact (Blk.made w _ _).keep (by repeat (first | exact Below.refl _ _ | assumption | refine below_allocS ?_ _ | refine below_callS ?_ (by assumption) | (refine Below.alloc ?_ (by first | omega | (simp; done) | (simp; omega)) _) | (refine Below.setCell ?_ (by first | omega | (simp; done) | (simp; omega)) _) | refine Below.drew ?_ | refine below_drewN ?_ _ | (refine below_call ?_ (by assumption) (by first | omega | (simp; done) | (simp; omega))) | (refine Below.trans ?_ (by assumption)))))
  have R := Lib.hid (show Blk W (w.heap.size + 1) #[.slice none 0 0, .slice none 0 0] 58 by rw [hW]; have := Blk.made (w.alloc (.cells #[.int .i64 (B : Int), .slice a n c] 28)) #[.slice none 0 0, .slice none 0 0] 58; simpa using this)
  clear hI hF hg hd ht t1 t2 t3 t4 t5
  go_enter Tryz.func30, Tryz.ntmps30
  go_wp2_with fail
  rw [← hW]
  clear hW
  have x0 := X.out.cell 0
  have x1 := X.out.cell 1
  have xl := X.out.lt
  simp at x0 x1
  go_wp2_with fail
  refine Calls.mono (K1.out _ hbW) ?_
  rintro e w1 ⟨rfl, hb1⟩
  have hb01 := below_callS hbW hb1
  have X1 := Lib.hid (X.out.keep hb1)
  have R1 := Lib.hid (R.out.keep hb1)
  have hs1 := hb1.size
  clear x0 x1 xl X R hb1 hbW
  have x0 := X1.out.cell 0
  have xl := X1.out.lt
  simp at x0
  go_wp2_with fail
  refine Calls.mono (K2.out _ hb01) ?_
  rintro e w2 ⟨rfl, hb2⟩
  have hb02 := below_callS hb01 hb2
  have X2 := Lib.hid (X1.out.keep hb2)
  have R2 := Lib.hid (R1.out.keep hb2)
  have hs2 := hb2.size
  clear x0 xl X1 R1 hb2 hb01
  have x0 := X2.out.cell 0
  have x1 := X2.out.cell 1
  have xl := X2.out.lt
  simp at x0 x1
  go_wp2_with fail
  refine Calls.mono (K3.out _ hb02) ?_
  rintro e w3 ⟨a1, c1, a2, c2, rfl, ho1, ho2, hb3⟩
  have R3 := Lib.hid (R2.out.keep hb3)
  have HB3 := Lib.hid (below_callS hb02 hb3)
  have O1 := Lib.hid (ho1.le (show w.heap.size + 2 ≤ w2.heap.size by omega))
  have O2 := Lib.hid (ho2.le (show w.heap.size + 2 ≤ w2.heap.size by omega))
  clear ho1 ho2 hb3 hb02 x0 x1 xl X2 R2
  have r0 := R3.out.cell 0
  have r1 := R3.out.cell 1
  have rl := R3.out.lt
  have rf := R3.out.free
  simp at r0 r1
  go_wp2
  refine bodyPost_ret (v := .tuple #[.agg #[.slice a1 B c1, .slice a2 B c2], .int .i64 0]) (by simp [results, Tryz.results30, go_sem, *]) rfl ⟨_, _, _, _, rfl, ?_, ?_, (HB3.out.setCell (by simp) _).setCell (by simp) _⟩
  · exact (O1.out.only (((Only.refl (w.heap.size + 1) (w.heap.size + 2) _).set ⟨Nat.le_refl _, Nat.lt_succ_self _⟩ 0 _).set ⟨Nat.le_refl _, Nat.lt_succ_self _⟩ 1 _) (fun g hg => .inr (by have := (O1.out.blk g hg).1; omega))).le (by omega)
  · exact (O2.out.only (((Only.refl (w.heap.size + 1) (w.heap.size + 2) _).set ⟨Nat.le_refl _, Nat.lt_succ_self _⟩ 0 _).set ⟨Nat.le_refl _, Nat.lt_succ_self _⟩ 1 _) (fun g hg => .inr (by have := (O2.out.blk g hg).1; omega))).le (by omega)
end Go.Proofs.YtfnamjkmkoldeaaGreatDoor
namespace Go.Proofs.YtfnamjkmkoldeaaGreatDoor
open Go.RowKit
set_option linter.unusedVariables false
set_option linter.unusedSimpArgs false
theorem enabI_in {rs : List RuD} {v : List Int} {j : Nat} {x : Int} : x ∈ enabI rs v j ↔ ∃ k : Nat, x = (k : Int) ∧ k < j ∧ holdsP v (rs.getD k zRu).g = true := by
  rw [enabI, List.mem_map]
  constructor
  · rintro ⟨k, hk, rfl⟩
    obtain ⟨h1, h2⟩ := List.mem_filter.1 hk
    exact ⟨k, rfl, List.mem_range.1 h1, h2⟩
  · rintro ⟨k, rfl, h1, h2⟩
    exact ⟨k, List.mem_filter.2 ⟨List.mem_range.2 h1, h2⟩, rfl⟩
/-- a rule releases a train -/
def relP (b : Int) (l : List Int) (bud : Int) (sec : Bool) (t x : Int) : Bool := ((rrX b l bud sec x).b == t) && (((rrX b l bud sec x).a == 1) || ((rrX b l bud sec x).a == 2))
theorem rr_at {b bud : Int} {l : List Int} {sec : Bool} (h0 : rdC b l bud = 0) {k : Nat} {x : I3} (hx : (rdL b l bud sec)[k]? = some x) : rrC b l bud sec (k : Int) = 0 ∧ rrX b l bud sec (k : Int) = x := by
  have hk := (List.getElem?_eq_some_iff.1 hx).1
  have hi : inB (k : Int) 0 ((rdL b l bud sec).length - 1) = true := by
    rw [inB, Bool.and_eq_true, decide_eq_true_eq, decide_eq_true_eq]; omega
  have h1 : rrC b l bud sec (k : Int) = 0 := by rw [rrC, if_pos h0, if_pos hi]
  refine ⟨h1, ?_⟩
  rw [rrX, if_pos h1, Int.toNat_natCast, List.getD_eq_getElem?_getD, hx]; rfl
theorem fst01 {x y : Int} (h : y = 0 ∨ y = 1) : (fstA x y = 0 ∨ fstA x y = 1) ∧ (sndA x y = 0 ∨ sndA x y = 1) := by
  rw [fstA, sndA]
  constructor
  · split
    · exact .inl rfl
    · exact h
  · split
    · exact .inr rfl
    · split
      · exact .inl rfl
      · exact h
/-- a report has bits -/
theorem rep01 {B : Nat} {ps mid : List Int} (hl : mid.length = B) : (∀ x ∈ (repL (repM B ps) (flsOf mid)).1, x = 0 ∨ x = 1) ∧ (∀ x ∈ (repL (repM B ps) (flsOf mid)).2, x = 0 ∨ x = 1) := by
  have hml : (repM B ps).length = mid.length := by rw [hl, repM, List.length_map, cntL_len]
  obtain ⟨l1, l2⟩ := rep_len (m := repM B ps) hml
  have H : ∀ c, c < B → ∃ x y, (y = 0 ∨ y = 1) ∧ (repL (repM B ps) (flsOf mid)).1[c]? = some (fstA x y) ∧ (repL (repM B ps) (flsOf mid)).2[c]? = some (sndA x y) := fun c hc => by
    have hx := List.getElem?_eq_getElem (show c < mid.length by omega)
    have hy := repM_at (ps := ps) hc
    exact ⟨_, _, by split <;> simp, rep_at hml hx hy⟩
  constructor
  · intro z hz
    obtain ⟨c, hc⟩ := List.getElem?_of_mem hz
    have hcB : c < B := by have := (List.getElem?_eq_some_iff.1 hc).1; omega
    obtain ⟨x, y, hy, h1, _⟩ := H c hcB
    rw [hc] at h1
    simp only [Option.some.injEq] at h1
    rw [h1]; exact (fst01 hy).1
  · intro z hz
    obtain ⟨c, hc⟩ := List.getElem?_of_mem hz
    have hcB : c < B := by have := (List.getElem?_eq_some_iff.1 hc).1; omega
    obtain ⟨x, y, hy, _, h1⟩ := H c hcB
    rw [hc] at h1
    simp only [Option.some.injEq] at h1
    rw [h1]; exact (fst01 hy).2
theorem prm_pm {B n t : Nat} {Fa Ga ps : List Int} (ht : t < n) : ((pmL B Fa Ga ps n).any fun y => y == (t : Int)) = prm B Fa Ga (ps.getD t 0) := by
  rw [Bool.eq_iff_iff, List.any_eq_true]
  constructor
  · rintro ⟨x, hx, he⟩
    rw [pmL] at hx
    obtain ⟨q, hq, rfl⟩ := List.mem_map.1 hx
    obtain ⟨_, h2⟩ := List.mem_filter.1 hq
    have : q = t := by have := eq_of_beq he; omega
    subst this; exact h2
  · intro h
    exact ⟨(t : Int), List.mem_map.2 ⟨t, List.mem_filter.2 ⟨List.mem_range.2 ht, h⟩, rfl⟩, by simp⟩
/-- what the law says of the last state of a trace -/
theorem rel_law {B bud n : Nat} {sec : Bool} {l v : List Int} (h0 : rdC (B : Int) l (bud : Int) = 0) (hl : l.length = n) (h : RideI n B bud sec v) :
    (∀ x ∈ enabI (rideRs n B bud sec) v (rideRs n B bud sec).length, rrC (B : Int) l (bud : Int) sec x = 0) ∧
    ∀ t p : Nat, v[t]? = some (p : Int) → t < n → p % 3 = 1 →
      ((enabI (rideRs n B bud sec) v (rideRs n B bud sec).length).any (relP (B : Int) l (bud : Int) sec (t : Int))) = ((pmL B (repL (repM B (v.take n)) (flsOf (midN n B v))).1 (repL (repM B (v.take n)) (flsOf (midN n B v))).2 (v.take n) n).any fun y => y == (t : Int)) := by
  obtain ⟨g1, g2, g3, g4, g5, g6⟩ := rdC_ok h0
  have hK : rdL (B : Int) l (bud : Int) sec = kindsL n B bud sec := by rw [rdL, hl, Int.toNat_natCast, Int.toNat_natCast]
  have hlen : (rideRs n B bud sec).length = (kindsL n B bud sec).length := by rw [rideRs_eq, List.length_map]
  have hR : ∀ (k : Nat) (x : I3), (kindsL n B bud sec)[k]? = some x → (rideRs n B bud sec).getD k zRu = ruleX n B x := fun k x hx => by
    rw [List.getD_eq_getElem?_getD, rideRs_eq, List.getElem?_map, hx]; rfl
  have hA : ∀ (k : Nat) (x : I3), (kindsL n B bud sec)[k]? = some x → rrC (B : Int) l (bud : Int) sec (k : Int) = 0 ∧ rrX (B : Int) l (bud : Int) sec (k : Int) = x := fun k x hx => rr_at h0 (by rw [hK]; exact hx)
  refine ⟨fun x hx => ?_, fun t p hp htn hp3 => ?_⟩
  · obtain ⟨k, rfl, hk, _⟩ := enabI_in.1 hx
    rw [hlen] at hk
    exact (hA k _ (List.getElem?_eq_getElem hk)).1
  · have hpB := h.sv.2 t _ _ hp (sz_lo htn)
    have hb : p / 3 < B := by omega
    have hv : v[t]? = some (3 * ((p / 3 : Nat) : Int) + 1) := by rw [hp]; congr 1; omega
    have hvl := h.len
    have hml : (midN n B v).length = B := by rw [midN, List.length_take, List.length_drop]; omega
    have hrl := rep_len (m := repM B (v.take n)) (mid := midN n B v) (by rw [hml, repM, List.length_map, cntL_len])
    have hC : (p / 3 + 1) % B < B := Nat.mod_lt _ (by omega)
    obtain ⟨f, hf⟩ : ∃ f, (repL (repM B (v.take n)) (flsOf (midN n B v))).1[(p / 3 + 1) % B]? = some f := ⟨_, List.getElem?_eq_getElem (by rw [hrl.1, hml]; exact hC)⟩
    obtain ⟨g, hg⟩ : ∃ g, (repL (repM B (v.take n)) (flsOf (midN n B v))).2[(p / 3 + 1) % B]? = some g := ⟨_, List.getElem?_eq_getElem (by rw [hrl.2, hml]; exact hC)⟩
    have hi := rel_iff (sec := sec) (bud := bud) (by omega) h htn hb hv hf hg
    have hps : (v.take n).getD t 0 = (p : Int) := by rw [List.getD_eq_getElem?_getD, List.getElem?_take, if_pos htn, hp]; rfl
    have e : (((p : Int) / 3 + 1) % (B : Int)).toNat = (p / 3 + 1) % B := by
      rw [show ((p : Int) / 3 + 1) % (B : Int) = (((p / 3 + 1) % B : Nat) : Int) by push_cast; rfl, Int.toNat_natCast]
    have hpr : prm B (repL (repM B (v.take n)) (flsOf (midN n B v))).1 (repL (repM B (v.take n)) (flsOf (midN n B v))).2 (p : Int) = (f == 0 && g == 0) := by
      rw [prm, e, List.getD_eq_getElem?_getD, hf, List.getD_eq_getElem?_getD, hg]
      have : ((p : Int) % 3 != 1) = false := by rw [bne_eq_false_iff_eq]; omega
      rw [this]; rfl
    rw [prm_pm htn, hps, hpr, Bool.eq_iff_iff, List.any_eq_true, Bool.and_eq_true, beq_iff_eq, beq_iff_eq, ← hi]
    constructor
    · rintro ⟨x, hx, hr⟩
      obtain ⟨k, rfl, hk, hh⟩ := enabI_in.1 hx
      rw [hlen] at hk
      have hkx := List.getElem?_eq_getElem hk
      obtain ⟨k', i', b', he, _⟩ := kinds_at2 (List.getElem_mem hk)
      rw [he] at hkx
      rw [hR k _ hkx] at hh
      simp only [ruleX, Int.toNat_natCast] at hh
      rw [relP, (hA k _ hkx).2] at hr
      simp only [Bool.and_eq_true, Bool.or_eq_true, beq_iff_eq] at hr
      exact ⟨k', i', b', List.mem_of_getElem? hkx, by omega, by omega, hh⟩
    · rintro ⟨k', i', j', hm, rfl, hk, hh⟩
      obtain ⟨k, hkx⟩ := List.getElem?_of_mem hm
      have hkl := (List.getElem?_eq_some_iff.1 hkx).1
      refine ⟨(k : Int), enabI_in.2 ⟨k, rfl, by rw [hlen]; exact hkl, ?_⟩, ?_⟩
      · rw [hR k _ hkx]
        simp only [ruleX, Int.toNat_natCast]
        exact hh
      · rw [relP, (hA k _ hkx).2]
        simp only [Bool.and_eq_true, Bool.or_eq_true, beq_iff_eq]
        exact ⟨trivial, by omega⟩
theorem fol_last {rs : List RuD} {v : List Int} {tr : List Int} {S : List (List Int)} (h : folP rs v tr = some S) : S.length = tr.length + 1 := folP_len h
/-- a trace that may be followed leads through ride states -/
theorem ft_gives {B : Nat} {bud : Int} {l tr : List Int} {sec : Bool} (h0 : rdC (B : Int) l bud = 0) (hC : ftC (rmRs (B : Int) l bud sec) (rmSt (B : Int) l bud) tr = 0) : ∃ (D : Nat) (S : List (List Int)), bud = (D : Int) ∧ folP (rmRs (B : Int) l bud sec) (rmSt (B : Int) l bud) tr = some S ∧ S.length = tr.length + 1 ∧ rmRs (B : Int) l bud sec = rideRs l.length B D sec ∧ rmSz (B : Int) l bud = rideSz l.length B D ∧ ∀ s ∈ S, RideI l.length B D sec s := by
  obtain ⟨g1, g2, g3, g4, g5, g6⟩ := rdC_ok h0
  obtain ⟨D, rfl⟩ := Int.eq_ofNat_of_zero_le g5
  obtain ⟨e1, e2, e3⟩ := ride_gives (sec := sec) h0
  rw [Int.toNat_natCast, Int.toNat_natCast] at e1 e2 e3
  have ht : trafB (B : Int) l = true := by
    rw [rdC] at h0
    split at h0
    · cases h0
    · rename_i ht; simpa using ht
  obtain ⟨_, _, _, _, h5⟩ := trafB_split ht
  rw [e2, e3] at hC ⊢
  rw [e1]
  unfold ftC at hC
  split at hC
  · cases hC
  · rename_i hlen
    split at hC
    · cases hC
    · rename_i hall
      cases hf : folP (rideRs l.length B D sec) (rideSt l B D) tr with
      | none => rw [hf] at hC; cases hC
      | some S =>
        refine ⟨D, S, rfl, rfl, folP_len hf, rfl, rfl, fun s hs => ?_⟩
        refine RideI.fol (by omega) (by omega) (by omega) (by omega) (RideI.start rfl h5) (fun r hr => ?_) hf s hs
        have ha : allIn 0 (((rideRs l.length B D sec).length : Int) - 1) tr = true := by simpa using hall
        rw [allIn, List.all_eq_true] at ha
        have := ha r hr
        rw [inB, Bool.and_eq_true, decide_eq_true_eq, decide_eq_true_eq] at this
        exact this
/-- a ride state of a trace: its traffic, its faults -/
theorem state_gives {n B D : Nat} {l v : List Int} {sec : Bool} (h0 : rdC (B : Int) l (D : Int) = 0) (hl : l.length = n) (h : RideI n B D sec v) : rideCode (B : Int) l v = 0 ∧ trafB (B : Int) (v.take n) = true ∧ fiC (B : Int) l v = 0 ∧ fiL (B : Int) l v = flsOf (midN n B v) ∧ (flsOf (midN n B v)).length ≤ 2 ∧ v.length ≤ 20 ∧ stateB (rideSz n B D) v = true ∧
    (∀ y ∈ flsOf (midN n B v), 0 ≤ y.a ∧ y.a < (B : Int) ∧ (y.b = 0 ∨ y.b = 1) ∧ (y.c = 0 ∨ y.c = 1)) ∧ (flsOf (midN n B v)).Pairwise (fun o f => sameS f o = false) := by
  obtain ⟨g1, g2, g3, g4, g5, g6⟩ := rdC_ok h0
  have ht : trafB (B : Int) l = true := by
    rw [rdC] at h0
    split at h0
    · cases h0
    · rename_i ht; simpa using ht
  have hvl := h.len
  have hml : (midN n B v).length = B := by rw [midN, List.length_take, List.length_drop]; omega
  have hr : rideCode (B : Int) l v = 0 := sv_ride (bu := D) ht (by omega) (by rw [hl]; exact h.sv)
  obtain ⟨q, hq1, hq2⟩ := h.few
  have hf2 : (flsOf (midN n B v)).length ≤ 2 := by rw [fls_wt]; omega
  have hm : midOf (B : Int) l.length v = midN n B v := by rw [midOf, hl, Int.toNat_natCast]; rfl
  have hfi : fiC (B : Int) l v = 0 := by rw [fiC, if_pos hr, hm, if_pos (by omega)]
  obtain ⟨w1, w2, _⟩ := fls_good (midN n B v) B (by omega)
  rw [show List.take B (midN n B v) = midN n B v from List.take_of_length_le (Nat.le_of_eq hml)] at w1 w2
  refine ⟨hr, ?_, hfi, ?_, hf2, by omega, stateB_of h.sv, fun y hy => ?_, w2⟩
  · have htl : (v.take n).length = n := by rw [List.length_take]; omega
    rw [trafB, htl, Bool.and_eq_true, Bool.and_eq_true, allIn, List.all_eq_true]
    refine ⟨⟨?_, ?_⟩, fun x hx => ?_⟩
    · rw [inB, Bool.and_eq_true, decide_eq_true_eq, decide_eq_true_eq]; omega
    · rw [inB, Bool.and_eq_true, decide_eq_true_eq, decide_eq_true_eq]; omega
    · obtain ⟨k, hk⟩ := List.getElem?_of_mem hx
      have hkn : k < n := by have := (List.getElem?_eq_some_iff.1 hk).1; omega
      rw [List.getElem?_take, if_pos hkn] at hk
      have := h.sv.2 k _ _ hk (sz_lo hkn)
      rw [inB, Bool.and_eq_true, decide_eq_true_eq, decide_eq_true_eq]; omega
  · rw [fiL, if_pos hfi, hm]
  · have := w1 y hy
    exact ⟨this.1, this.2.1, this.2.2⟩
end Go.Proofs.YtfnamjkmkoldeaaGreatDoor
