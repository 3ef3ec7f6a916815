/- How many lists of bits have the value 1: the reference, walked. -/
import Derived.Test.YtkaikbaagajckaaWc
namespace Go.Proofs.Ytkaikbaagajckaa
open Go.RowKit
set_option linter.unusedVariables false
set_option linter.unusedSimpArgs false
attribute [local go_sem ↓] Go.wp_at_zero Go.wp_at_succ
theorem shl_u {v s : Int} (hv : 0 ≤ v ∧ v ≤ 1048576) (hs0 : 0 ≤ s) (hs20 : s ≤ 20) : IntKind.i64.wrap (v * 2 ^ min (IntKind.u64.wrap s).toNat 64) = v * 2 ^ s.toNat := by
  have h := shl_in hv hs0 hs20
  have hu : IntKind.u64.wrap s = s := by
    unfold IntKind.wrap
    simp [IntKind.signed, IntKind.bits]
    omega
  rw [hu, Nat.min_eq_left (by omega)]
  exact IntWalk.i64_in _ (by omega)
set_option maxRecDepth 100000 in
set_option maxHeartbeats 4000000 in
theorem spec_l22Ones {a : Option Addr} {n c : Nat} {L : List I3} {inp root : Int} {w : World} (hI : F3 w a n c L) (hn : n ≤ 2000) (hS : Snd inp L) (hr : RefB root L.length) (h0 : 0 ≤ inp) (h20 : inp ≤ 20) :
    Calls Try.prog 55 #[.agg #[.int .i64 inp, .slice a n c, .int .i64 root]] w fun e w' => e = .returned (.int .i64 (onesN inp L root : Int)) ∧ Below w.heap.size w w' := by
  have HI := Lib.hid hI
  obtain rfl : L.length = n := hI.len
  have HS := Lib.hid hS
  have HR := Lib.hid hr
  have hb0 : Below w.heap.size w (w.alloc (.cells #[.int .i64 inp, .slice a L.length c, .int .i64 root] 26)) := by repeat (first | exact Below.refl _ _ | assumption | refine below_allocS ?_ _ | refine below_callS ?_ (by assumption) | (refine Below.alloc ?_ (by first | omega | (simp; done) | (simp; omega)) _) | (refine Below.setCell ?_ (by first | omega | (simp; done) | (simp; omega)) _) | refine Below.drew ?_ | refine below_drewN ?_ _ | (refine below_call ?_ (by assumption) (by first | omega | (simp; done) | (simp; omega))) | (refine Below.trans ?_ (by assumption)))
  clear hI hS hr
  go_enter Try.func55, Try.ntmps55
  go_wp2_with fail
  have X0 := Lib.hid ((Blk.made w #[.int .i64 inp, .slice a L.length c, .int .i64 root] 26).keep (below_alloc1 (Below.refl _ _) (.cells #[.int .i64 0, .int .i64 1] 2)))
  have O0 := Lib.hid (show OwnI 2 ((w.alloc (.cells #[.int .i64 inp, .slice a L.length c, .int .i64 root] 26)).alloc (.cells #[.int .i64 0, .int .i64 1] 2)) (w.heap.size + 1) (some ⟨w.heap.size + 1, 0, none⟩) 2 2 [0, 1] from by
    have h := OwnF.lit (k := 1) (m := 2) (enc := enc1) (ok := I64) (E := 2) (cs := #[.int .i64 0, .int .i64 1]) (base := w.heap.size + 1) (w.alloc (.cells #[.int .i64 inp, .slice a L.length c, .int .i64 root] 26)) [0, 1] (by simp) rfl (by decide) (fun _ => rfl) (fun x hx => by simp at hx; unfold I64; omega) rfl
    have h2 := h.i1
    simpa using h2)
  have HB0 := Lib.hid (below_alloc1 hb0 (.cells #[.int .i64 0, .int .i64 1] 2))
  go_loopw [3, 4] (fun s3 s4 wr => ∃ (j g mc : Nat), s3 = .slice (some ⟨g, 0, none⟩) (j + 2) mc ∧ s4 = .int .i64 j ∧ j ≤ L.length ∧ w.heap.size + 1 < wr.heap.size ∧ Hid (Below w.heap.size w wr) ∧ Hid (Blk wr w.heap.size #[.int .i64 inp, .slice a L.length c, .int .i64 root] 26) ∧ Hid (OwnI 2 wr (w.heap.size + 1) (some ⟨g, 0, none⟩) (j + 2) mc (cntL inp L (j + 2)))) (fun _ s4 _ => L.length - (intOf s4).toNat)
  case atStart => exact ⟨0, _, 2, rfl, rfl, by omega, by simp, HB0, X0, Lib.hid (by rw [cntL_two]; exact O0.out)⟩
  case round =>
    clear X0 O0 HB0 hb0
    obtain ⟨j, g, mc, rfl, rfl, hj, hsr, HB, X, O⟩ := hrel
    have hgl := O.out.lt
    have y0 := X.out.cell 0
    have y1 := X.out.cell 1
    have y2 := X.out.cell 2
    have yl := X.out.lt
    simp only [List.getElem?_toArray, List.getElem?_cons_succ, List.getElem?_cons_zero] at y0 y1 y2
    by_cases hlt : j < L.length
    · have hlt' : (j : Int) < (L.length : Int) := by omega
      have hj0 : (0 : Int) ≤ (j : Int) := by omega
      obtain ⟨b1, o1, x, rfl, hb1, hx, hwf, c0, c1, c2⟩ := F3.get (HI.out.keep HB.out) hlt
      obtain ⟨q1, q2, q3, q4⟩ := HS.out.ord _ _ hx
      have f1 := HS.out.redu.frst.low _ _ hx
      have f2 := HS.out.redu.frst.high _ _ hx
      have hcn := cnt_next (n := inp) HS.out.redu.frst hx
      have l1 := lvl_le HS.out.ord (f1.mono (Nat.le_of_lt hlt))
      have l2 := lvl_le HS.out.ord (f2.mono (Nat.le_of_lt hlt))
      have m1 := cnt_few HS.out h0 h20 (f1.mono (Nat.le_of_lt hlt))
      have m2 := cnt_few HS.out h0 h20 (f2.mono (Nat.le_of_lt hlt))
      have R1 := Lib.hid (f1.mono (Nat.le_of_lt hlt))
      have R2 := Lib.hid (f2.mono (Nat.le_of_lt hlt))
      obtain ⟨xa, xb, xc⟩ := x
      simp only at c0 c1 c2 q1 q2 q3 q4 f1 f2 hcn l1 l2 m1 m2 R1 R2
      obtain ⟨i, rfl⟩ : ∃ i : Nat, xa = (i : Int) := ⟨xa.toNat, by omega⟩
      obtain ⟨qb, rfl⟩ : ∃ q : Nat, xb = (q : Int) := ⟨xb.toNat, by have := f1.1; omega⟩
      obtain ⟨qc, rfl⟩ : ∃ q : Nat, xc = (q : Int) := ⟨xc.toNat, by have := f2.1; omega⟩
      have f1' := f1.2
      have f2' := f2.2
      have hbR : Below wr.heap.size wr (wr.alloc (.cells #[.int .i64 (i : Int), .int .i64 (qb : Int), .int .i64 (qc : Int)] 76)) := below_alloc1 (Below.refl _ _) _
      have XA := Lib.hid (X.out.keep hbR)
      have OA := Lib.hid (O.out.keep hbR)
      have HBA := Lib.hid (below_callS HB.out hbR)
      have ZA := Lib.hid (Blk.made wr #[.int .i64 (i : Int), .int .i64 (qb : Int), .int .i64 (qc : Int)] 76)
      have hsA : wr.heap.size ≤ (wr.alloc (.cells #[.int .i64 (i : Int), .int .i64 (qb : Int), .int .i64 (qc : Int)] 76)).heap.size := hbR.size
      have hsh1 := shl_in (v := (cntR inp L (qb : Int) : Int)) (s := lvlN inp L (qb : Int) - ((i : Int) + 1)) ⟨by omega, by omega⟩ (by omega) (by omega)
      have hsh2 := shl_in (v := (cntR inp L (qc : Int) : Int)) (s := lvlN inp L (qc : Int) - ((i : Int) + 1)) ⟨by omega, by omega⟩ (by omega) (by omega)
      obtain ⟨wA, hwA⟩ : ∃ wA, wA = wr.alloc (.cells #[.int .i64 (i : Int), .int .i64 (qb : Int), .int .i64 (qc : Int)] 76) := ⟨_, rfl⟩
      rw [← hwA] at XA OA HBA ZA hsA
      have GET := Lib.hid (fun (wx : World) (h : OwnI 2 wx (w.heap.size + 1) (some ⟨g, 0, none⟩) (j + 2) mc (cntL inp L (j + 2))) (q : Nat) (hq : q < j + 2) => (show wx.cell? ⟨g, q, none⟩ = some (.int .i64 (cntR inp L (q : Int) : Int)) from by
        obtain ⟨v, hv, _, hc⟩ := h.cell hq
        rw [cntL_at hq] at hv
        cases hv
        exact hc))
      have hgA : g < wA.heap.size := OA.out.lt.2
      have zq := GET.out _ OA.out qb (by omega)
      have z0 := ZA.out.cell 0
      have z1 := ZA.out.cell 1
      have z2 := ZA.out.cell 2
      have zl := ZA.out.lt
      have d0 := XA.out.cell 0
      have d1 := XA.out.cell 1
      have d2 := XA.out.cell 2
      have dl := XA.out.lt
      simp only [List.getElem?_toArray, List.getElem?_cons_succ, List.getElem?_cons_zero] at z0 z1 z2 d0 d1 d2
      have e1 : IntKind.i64.wrap (lvlN inp L (qb : Int) - (i : Int)) = lvlN inp L (qb : Int) - (i : Int) := IntWalk.i64_in _ (by omega)
      have e2 : IntKind.i64.wrap (lvlN inp L (qc : Int) - (i : Int)) = lvlN inp L (qc : Int) - (i : Int) := IntWalk.i64_in _ (by omega)
      have e3 : IntKind.i64.wrap (lvlN inp L (qb : Int) - (i : Int) - 1) = lvlN inp L (qb : Int) - ((i : Int) + 1) := by rw [IntWalk.i64_in _ (by omega)]; omega
      have e4 : IntKind.i64.wrap (lvlN inp L (qc : Int) - (i : Int) - 1) = lvlN inp L (qc : Int) - ((i : Int) + 1) := by rw [IntWalk.i64_in _ (by omega)]; omega
      have e5 := shl_u (v := (cntR inp L (qb : Int) : Int)) (s := lvlN inp L (qb : Int) - ((i : Int) + 1)) ⟨by omega, by omega⟩ (by omega) (by omega)
      have e7 := shl_u (v := (cntR inp L (qc : Int) : Int)) (s := lvlN inp L (qc : Int) - ((i : Int) + 1)) ⟨by omega, by omega⟩ (by omega) (by omega)
      have e6 : IntKind.i64.wrap ((cntR inp L (qb : Int) : Int) * 2 ^ (lvlN inp L (qb : Int) - ((i : Int) + 1)).toNat + (cntR inp L (qc : Int) : Int) * 2 ^ (lvlN inp L (qc : Int) - ((i : Int) + 1)).toNat) = (cntR inp L ((j : Int) + 2) : Int) := by
        rw [hcn]; exact IntWalk.i64_in _ (by omega)
      have hcI : I64 (cntR inp L ((j : Int) + 2) : Int) := by unfold I64; omega
      clear hcn hbR hx hwf
      go_wp2_with fail
      rw [← hwA]
      clear hwA c0 c1 c2 y0 y1 y2 yl
      refine wp_region_noPanic ?_
      refine wp_region_held_drew (S := (fun wx => wx.cell? ⟨g, qb, none⟩ = some (.int .i64 (cntR inp L (qb : Int) : Int)) ∧ wx.cell? ⟨wr.heap.size, 0, none⟩ = some (.int .i64 (i : Int)) ∧ wx.cell? ⟨wr.heap.size, 1, none⟩ = some (.int .i64 (qb : Int)) ∧ wx.cell? ⟨wr.heap.size, 2, none⟩ = some (.int .i64 (qc : Int)) ∧ wx.cell? ⟨w.heap.size, 0, none⟩ = some (.int .i64 inp) ∧ wx.cell? ⟨w.heap.size, 1, none⟩ = some (.slice (some ⟨b1, o1, none⟩) L.length c) ∧ wx.cell? ⟨w.heap.size, 2, none⟩ = some (.int .i64 root) ∧ g < wx.heap.size ∧ wr.heap.size < wx.heap.size ∧ w.heap.size < wx.heap.size ∧ Below wA.heap.size wA wx)) (by kernel_rfl) ?_ (fun hHeld => ?_)
      · (try dsimp only); (((try go_split_ands); (repeat' apply And.intro) <;> first | (with_reducible assumption) | (with_reducible exact (hcx _ _ (by assumption)).trans (by assumption)) | (with_reducible exact Nat.lt_of_lt_of_le (by assumption) hsx) | (with_reducible exact below_callS (by assumption) hbx) | (with_reducible exact Below.drew (by assumption)) | (with_reducible exact Go.Proofs.Ytkaikbaagajckaa.cellR_drew (by assumption)) | (with_reducible exact Go.Proofs.Ytkaikbaagajckaa.ltR_drew (by assumption)) | (with_reducible exact (Below.refl _ _).drew)))
      refine wpAnyH_take (i := 0) (v := ?_) (by simp only [List.getElem?_toArray, List.getElem?_cons_succ, List.getElem?_cons_zero] <;> rfl) (by kernel_rfl) (by kernel_rfl) (by kernel_rfl) (fun _ _ _ h => h) (Or.inl ⟨by rfl, ?_⟩) (by assumption) ?_
      rotate_left
      · (intro wq hSw; (try dsimp only at hSw); go_simp; try with_reducible rfl)
      try simp only [Act.put, List.setIfInBounds_toArray, List.set_cons_zero, List.set_cons_succ]
      refine wpAnyH_take (i := 1) (v := ?_) (by simp only [List.getElem?_toArray, List.getElem?_cons_succ, List.getElem?_cons_zero] <;> rfl) (by kernel_rfl) (by kernel_rfl) (by kernel_rfl) (fun _ _ _ h => h) (Or.inl ⟨by rfl, ?_⟩) (by assumption) ?_
      rotate_left
      · (intro wq hSw; (try dsimp only at hSw); go_simp; try with_reducible rfl)
      try simp only [Act.put, List.setIfInBounds_toArray, List.set_cons_zero, List.set_cons_succ]
      refine wpAnyH_take (i := 2) (v := ?_) (by simp only [List.getElem?_toArray, List.getElem?_cons_succ, List.getElem?_cons_zero] <;> rfl) (by kernel_rfl) (by kernel_rfl) (by kernel_rfl) (fun _ _ _ h => h) (Or.inl ⟨by rfl, ?_⟩) (by assumption) ?_
      rotate_left
      · (intro wq hSw; (try dsimp only at hSw); go_simp; try with_reducible rfl)
      try simp only [Act.put, List.setIfInBounds_toArray, List.set_cons_zero, List.set_cons_succ]
      refine wpAnyH_take (i := 3) (v := ?_) (by simp only [List.getElem?_toArray, List.getElem?_cons_succ, List.getElem?_cons_zero] <;> rfl) (by kernel_rfl) (by kernel_rfl) (by kernel_rfl) (fun _ _ _ h => h) (Or.inl ⟨by rfl, ?_⟩) (by assumption) ?_
      rotate_left
      · (intro wq hSw; (try dsimp only at hSw); go_simp; try with_reducible rfl)
      try simp only [Act.put, List.setIfInBounds_toArray, List.set_cons_zero, List.set_cons_succ]
      refine wpAnyH_take (i := 4) (v := ?_) (by simp only [List.getElem?_toArray, List.getElem?_cons_succ, List.getElem?_cons_zero] <;> rfl) (by kernel_rfl) (by kernel_rfl) (by kernel_rfl) (fun _ _ _ h => h) (Or.inl ⟨by rfl, ?_⟩) (by assumption) ?_
      rotate_left
      · (intro wq hSw; (try dsimp only at hSw); go_simp; try with_reducible rfl)
      try simp only [Act.put, List.setIfInBounds_toArray, List.set_cons_zero, List.set_cons_succ]
      refine wpAnyH_take (i := 5) (v := ?_) (by simp only [List.getElem?_toArray, List.getElem?_cons_succ, List.getElem?_cons_zero] <;> rfl) (by kernel_rfl) (by kernel_rfl) (by kernel_rfl) (fun _ _ _ h => h) (Or.inl ⟨by rfl, ?_⟩) (by assumption) ?_
      rotate_left
      · (intro wq hSw; (try dsimp only at hSw); go_simp; try with_reducible rfl)
      try simp only [Act.put, List.setIfInBounds_toArray, List.set_cons_zero, List.set_cons_succ]
      refine wpAnyH_take (i := 6) (v := ?_) (by simp only [List.getElem?_toArray, List.getElem?_cons_succ, List.getElem?_cons_zero] <;> rfl) (by kernel_rfl) (by kernel_rfl) (by kernel_rfl) (fun _ _ _ h => h) (Or.inl ⟨by rfl, ?_⟩) (by assumption) ?_
      rotate_left
      · (intro wq hSw; (try dsimp only at hSw); go_simp; try with_reducible rfl)
      try simp only [Act.put, List.setIfInBounds_toArray, List.set_cons_zero, List.set_cons_succ]
      refine wpAnyH_take (i := 7) (v := ?_) (by simp only [List.getElem?_toArray, List.getElem?_cons_succ, List.getElem?_cons_zero] <;> rfl) (by kernel_rfl) (by kernel_rfl) (by kernel_rfl) (fun _ _ _ h => h) (Or.inl ⟨by rfl, ?_⟩) (by assumption) ?_
      rotate_left
      · (intro wq hSw; (try dsimp only at hSw); go_simp; try with_reducible rfl)
      try simp only [Act.put, List.setIfInBounds_toArray, List.set_cons_zero, List.set_cons_succ]
      refine wpAnyH_take (i := 9) (v := ?_) (by simp only [List.getElem?_toArray, List.getElem?_cons_succ, List.getElem?_cons_zero] <;> rfl) (by kernel_rfl) (by kernel_rfl) (by kernel_rfl) (fun _ _ _ h => h) (Or.inl ⟨by rfl, ?_⟩) (by assumption) ?_
      rotate_left
      · (intro wq hSw; (try dsimp only at hSw); go_simp; try with_reducible rfl)
      try simp only [Act.put, List.setIfInBounds_toArray, List.set_cons_zero, List.set_cons_succ]
      refine wpAnyH_take (i := 10) (v := ?_) (by simp only [List.getElem?_toArray, List.getElem?_cons_succ, List.getElem?_cons_zero] <;> rfl) (by kernel_rfl) (by kernel_rfl) (by kernel_rfl) (fun _ _ _ h => h) (Or.inl ⟨by rfl, ?_⟩) (by assumption) ?_
      rotate_left
      · (intro wq hSw; (try dsimp only at hSw); go_simp; try with_reducible rfl)
      try simp only [Act.put, List.setIfInBounds_toArray, List.set_cons_zero, List.set_cons_succ]
      refine wpAnyH_ready (rs := [8]) (by kernel_rfl) (by simp) ?_
      refine AllReadyH.cons rfl (fun K hK => ?_) AllReadyH.nil
      go_simp
      (go_at_call 113; refine Calls.mono (spec_l22Level (HI.out.keep (below_callS HBA.out (by first | assumption | (go_split_ands; assumption)))) (by omega) R1.out) ?_; rintro e wx2 ⟨rfl, hbx⟩; obtain ⟨hcx, hfx⟩ := bcell hbx; have hsx := hbx.size)
      go_wp2_with fail
      refine hK.out _ _ ?_ (fun hHeld => ?_)
      · (try dsimp only); (((try go_split_ands); (repeat' apply And.intro) <;> first | (with_reducible assumption) | (with_reducible exact (hcx _ _ (by assumption)).trans (by assumption)) | (with_reducible exact Nat.lt_of_lt_of_le (by assumption) hsx) | (with_reducible exact below_callS (by assumption) hbx) | (with_reducible exact Below.drew (by assumption)) | (with_reducible exact Go.Proofs.Ytkaikbaagajckaa.cellR_drew (by assumption)) | (with_reducible exact Go.Proofs.Ytkaikbaagajckaa.ltR_drew (by assumption)) | (with_reducible exact (Below.refl _ _).drew)))
      clear hK K
      try simp only [Act.put, List.setIfInBounds_toArray, List.set_cons_zero, List.set_cons_succ]
      refine wpAnyH_take (i := 11) (v := ?_) (by simp only [List.getElem?_toArray, List.getElem?_cons_succ, List.getElem?_cons_zero] <;> rfl) (by kernel_rfl) (by kernel_rfl) (by kernel_rfl) (fun _ _ _ h => h) (Or.inl ⟨by rfl, ?_⟩) (by assumption) ?_
      rotate_left
      · (intro wq hSw; (try dsimp only at hSw); go_simp; try with_reducible rfl)
      try simp only [Act.put, List.setIfInBounds_toArray, List.set_cons_zero, List.set_cons_succ]
      refine wpAnyH_take (i := 12) (v := ?_) (by simp only [List.getElem?_toArray, List.getElem?_cons_succ, List.getElem?_cons_zero] <;> rfl) (by kernel_rfl) (by kernel_rfl) (by kernel_rfl) (fun _ _ _ h => h) (Or.inl ⟨by rfl, ?_⟩) (by assumption) ?_
      rotate_left
      · (intro wq hSw; (try dsimp only at hSw); go_simp; try with_reducible rfl)
      try simp only [Act.put, List.setIfInBounds_toArray, List.set_cons_zero, List.set_cons_succ]
      refine wpAnyH_take (i := 13) (v := ?_) (by simp only [List.getElem?_toArray, List.getElem?_cons_succ, List.getElem?_cons_zero] <;> rfl) (by kernel_rfl) (by kernel_rfl) (by kernel_rfl) (fun _ _ _ h => h) (Or.inl ⟨by rfl, ?_⟩) (by assumption) ?_
      rotate_left
      · (intro wq hSw; (try dsimp only at hSw); go_simp; try with_reducible rfl)
      try simp only [Act.put, List.setIfInBounds_toArray, List.set_cons_zero, List.set_cons_succ]
      refine wpAnyH_take (i := 14) (v := ?_) (by simp only [List.getElem?_toArray, List.getElem?_cons_succ, List.getElem?_cons_zero] <;> rfl) (by kernel_rfl) (by kernel_rfl) (by kernel_rfl) (fun _ _ _ h => h) (Or.inl ⟨by rfl, ?_⟩) (by assumption) ?_
      rotate_left
      · (intro wq hSw; (try dsimp only at hSw); go_simp; try with_reducible rfl)
      try simp only [Act.put, List.setIfInBounds_toArray, List.set_cons_zero, List.set_cons_succ]
      refine wpAnyH_take (i := 15) (v := ?_) (by simp only [List.getElem?_toArray, List.getElem?_cons_succ, List.getElem?_cons_zero] <;> rfl) (by kernel_rfl) (by kernel_rfl) (by kernel_rfl) (fun _ _ _ h => h) (Or.inl ⟨by rfl, ?_⟩) (by assumption) ?_
      rotate_left
      · (intro wq hSw; (try dsimp only at hSw); go_simp; try with_reducible rfl)
      try simp only [Act.put, List.setIfInBounds_toArray, List.set_cons_zero, List.set_cons_succ]
      refine wpAnyH_done (by kernel_rfl) ?_ _
      refine NoPanic.normal ?_
      clear z0 z1 z2 d0 d1 d2 zl dl zq
      obtain ⟨wB, hwB, hbB⟩ : ∃ wB, wB = wx2 ∧ Below wA.heap.size wA wB := ⟨wx2, rfl, hHeld.2.2.2.2.2.2.2.2.2.2⟩
      have XB := Lib.hid (XA.out.keep hbB)
      have OB := Lib.hid (OA.out.keep hbB)
      have ZB := Lib.hid (ZA.out.keep hbB)
      have HBB := Lib.hid (below_callS HBA.out hbB)
      have hsB : wA.heap.size ≤ wB.heap.size := hbB.size
      rw [← hwB]
      clear hwB hHeld hcx hfx hsx hbx
      clear hHeld
      have zq := GET.out _ OB.out qc (by omega)
      have z0 := ZB.out.cell 0
      have z1 := ZB.out.cell 1
      have z2 := ZB.out.cell 2
      have zl := ZB.out.lt
      have d0 := XB.out.cell 0
      have d1 := XB.out.cell 1
      have d2 := XB.out.cell 2
      have dl := XB.out.lt
      have hgB := OB.out.lt.2
      simp only [List.getElem?_toArray, List.getElem?_cons_succ, List.getElem?_cons_zero] at z0 z1 z2 d0 d1 d2
      go_wp2_with fail
      refine wp_region_noPanic ?_
      refine wp_region_held_drew (S := (fun wx => wx.cell? ⟨g, qc, none⟩ = some (.int .i64 (cntR inp L (qc : Int) : Int)) ∧ wx.cell? ⟨wr.heap.size, 0, none⟩ = some (.int .i64 (i : Int)) ∧ wx.cell? ⟨wr.heap.size, 1, none⟩ = some (.int .i64 (qb : Int)) ∧ wx.cell? ⟨wr.heap.size, 2, none⟩ = some (.int .i64 (qc : Int)) ∧ wx.cell? ⟨w.heap.size, 0, none⟩ = some (.int .i64 inp) ∧ wx.cell? ⟨w.heap.size, 1, none⟩ = some (.slice (some ⟨b1, o1, none⟩) L.length c) ∧ wx.cell? ⟨w.heap.size, 2, none⟩ = some (.int .i64 root) ∧ g < wx.heap.size ∧ wr.heap.size < wx.heap.size ∧ w.heap.size < wx.heap.size ∧ Below wB.heap.size wB wx)) (by kernel_rfl) ?_ (fun hHeld => ?_)
      · (try dsimp only); (((try go_split_ands); (repeat' apply And.intro) <;> first | (with_reducible assumption) | (with_reducible exact (hcx _ _ (by assumption)).trans (by assumption)) | (with_reducible exact Nat.lt_of_lt_of_le (by assumption) hsx) | (with_reducible exact below_callS (by assumption) hbx) | (with_reducible exact Below.drew (by assumption)) | (with_reducible exact Go.Proofs.Ytkaikbaagajckaa.cellR_drew (by assumption)) | (with_reducible exact Go.Proofs.Ytkaikbaagajckaa.ltR_drew (by assumption)) | (with_reducible exact (Below.refl _ _).drew)))
      refine wpAnyH_take (i := 0) (v := ?_) (by simp only [List.getElem?_toArray, List.getElem?_cons_succ, List.getElem?_cons_zero] <;> rfl) (by kernel_rfl) (by kernel_rfl) (by kernel_rfl) (fun _ _ _ h => h) (Or.inl ⟨by rfl, ?_⟩) (by assumption) ?_
      rotate_left
      · (intro wq hSw; (try dsimp only at hSw); go_simp; try with_reducible rfl)
      try simp only [Act.put, List.setIfInBounds_toArray, List.set_cons_zero, List.set_cons_succ]
      refine wpAnyH_take (i := 1) (v := ?_) (by simp only [List.getElem?_toArray, List.getElem?_cons_succ, List.getElem?_cons_zero] <;> rfl) (by kernel_rfl) (by kernel_rfl) (by kernel_rfl) (fun _ _ _ h => h) (Or.inl ⟨by rfl, ?_⟩) (by assumption) ?_
      rotate_left
      · (intro wq hSw; (try dsimp only at hSw); go_simp; try with_reducible rfl)
      try simp only [Act.put, List.setIfInBounds_toArray, List.set_cons_zero, List.set_cons_succ]
      refine wpAnyH_take (i := 2) (v := ?_) (by simp only [List.getElem?_toArray, List.getElem?_cons_succ, List.getElem?_cons_zero] <;> rfl) (by kernel_rfl) (by kernel_rfl) (by kernel_rfl) (fun _ _ _ h => h) (Or.inl ⟨by rfl, ?_⟩) (by assumption) ?_
      rotate_left
      · (intro wq hSw; (try dsimp only at hSw); go_simp; try with_reducible rfl)
      try simp only [Act.put, List.setIfInBounds_toArray, List.set_cons_zero, List.set_cons_succ]
      refine wpAnyH_take (i := 3) (v := ?_) (by simp only [List.getElem?_toArray, List.getElem?_cons_succ, List.getElem?_cons_zero] <;> rfl) (by kernel_rfl) (by kernel_rfl) (by kernel_rfl) (fun _ _ _ h => h) (Or.inl ⟨by rfl, ?_⟩) (by assumption) ?_
      rotate_left
      · (intro wq hSw; (try dsimp only at hSw); go_simp; try with_reducible rfl)
      try simp only [Act.put, List.setIfInBounds_toArray, List.set_cons_zero, List.set_cons_succ]
      refine wpAnyH_take (i := 4) (v := ?_) (by simp only [List.getElem?_toArray, List.getElem?_cons_succ, List.getElem?_cons_zero] <;> rfl) (by kernel_rfl) (by kernel_rfl) (by kernel_rfl) (fun _ _ _ h => h) (Or.inl ⟨by rfl, ?_⟩) (by assumption) ?_
      rotate_left
      · (intro wq hSw; (try dsimp only at hSw); go_simp; try with_reducible rfl)
      try simp only [Act.put, List.setIfInBounds_toArray, List.set_cons_zero, List.set_cons_succ]
      refine wpAnyH_take (i := 5) (v := ?_) (by simp only [List.getElem?_toArray, List.getElem?_cons_succ, List.getElem?_cons_zero] <;> rfl) (by kernel_rfl) (by kernel_rfl) (by kernel_rfl) (fun _ _ _ h => h) (Or.inl ⟨by rfl, ?_⟩) (by assumption) ?_
      rotate_left
      · (intro wq hSw; (try dsimp only at hSw); go_simp; try with_reducible rfl)
      try simp only [Act.put, List.setIfInBounds_toArray, List.set_cons_zero, List.set_cons_succ]
      refine wpAnyH_take (i := 6) (v := ?_) (by simp only [List.getElem?_toArray, List.getElem?_cons_succ, List.getElem?_cons_zero] <;> rfl) (by kernel_rfl) (by kernel_rfl) (by kernel_rfl) (fun _ _ _ h => h) (Or.inl ⟨by rfl, ?_⟩) (by assumption) ?_
      rotate_left
      · (intro wq hSw; (try dsimp only at hSw); go_simp; try with_reducible rfl)
      try simp only [Act.put, List.setIfInBounds_toArray, List.set_cons_zero, List.set_cons_succ]
      refine wpAnyH_take (i := 7) (v := ?_) (by simp only [List.getElem?_toArray, List.getElem?_cons_succ, List.getElem?_cons_zero] <;> rfl) (by kernel_rfl) (by kernel_rfl) (by kernel_rfl) (fun _ _ _ h => h) (Or.inl ⟨by rfl, ?_⟩) (by assumption) ?_
      rotate_left
      · (intro wq hSw; (try dsimp only at hSw); go_simp; try with_reducible rfl)
      try simp only [Act.put, List.setIfInBounds_toArray, List.set_cons_zero, List.set_cons_succ]
      refine wpAnyH_take (i := 9) (v := ?_) (by simp only [List.getElem?_toArray, List.getElem?_cons_succ, List.getElem?_cons_zero] <;> rfl) (by kernel_rfl) (by kernel_rfl) (by kernel_rfl) (fun _ _ _ h => h) (Or.inl ⟨by rfl, ?_⟩) (by assumption) ?_
      rotate_left
      · (intro wq hSw; (try dsimp only at hSw); go_simp; try with_reducible rfl)
      try simp only [Act.put, List.setIfInBounds_toArray, List.set_cons_zero, List.set_cons_succ]
      refine wpAnyH_take (i := 10) (v := ?_) (by simp only [List.getElem?_toArray, List.getElem?_cons_succ, List.getElem?_cons_zero] <;> rfl) (by kernel_rfl) (by kernel_rfl) (by kernel_rfl) (fun _ _ _ h => h) (Or.inl ⟨by rfl, ?_⟩) (by assumption) ?_
      rotate_left
      · (intro wq hSw; (try dsimp only at hSw); go_simp; try with_reducible rfl)
      try simp only [Act.put, List.setIfInBounds_toArray, List.set_cons_zero, List.set_cons_succ]
      refine wpAnyH_ready (rs := [8]) (by kernel_rfl) (by simp) ?_
      refine AllReadyH.cons rfl (fun K hK => ?_) AllReadyH.nil
      go_simp
      (go_at_call 113; refine Calls.mono (spec_l22Level (HI.out.keep (below_callS HBB.out (by first | assumption | (go_split_ands; assumption)))) (by omega) R2.out) ?_; rintro e wx2 ⟨rfl, hbx⟩; obtain ⟨hcx, hfx⟩ := bcell hbx; have hsx := hbx.size)
      go_wp2_with fail
      refine hK.out _ _ ?_ (fun hHeld => ?_)
      · (try dsimp only); (((try go_split_ands); (repeat' apply And.intro) <;> first | (with_reducible assumption) | (with_reducible exact (hcx _ _ (by assumption)).trans (by assumption)) | (with_reducible exact Nat.lt_of_lt_of_le (by assumption) hsx) | (with_reducible exact below_callS (by assumption) hbx) | (with_reducible exact Below.drew (by assumption)) | (with_reducible exact Go.Proofs.Ytkaikbaagajckaa.cellR_drew (by assumption)) | (with_reducible exact Go.Proofs.Ytkaikbaagajckaa.ltR_drew (by assumption)) | (with_reducible exact (Below.refl _ _).drew)))
      clear hK K
      try simp only [Act.put, List.setIfInBounds_toArray, List.set_cons_zero, List.set_cons_succ]
      refine wpAnyH_take (i := 11) (v := ?_) (by simp only [List.getElem?_toArray, List.getElem?_cons_succ, List.getElem?_cons_zero] <;> rfl) (by kernel_rfl) (by kernel_rfl) (by kernel_rfl) (fun _ _ _ h => h) (Or.inl ⟨by rfl, ?_⟩) (by assumption) ?_
      rotate_left
      · (intro wq hSw; (try dsimp only at hSw); go_simp; try with_reducible rfl)
      try simp only [Act.put, List.setIfInBounds_toArray, List.set_cons_zero, List.set_cons_succ]
      refine wpAnyH_take (i := 12) (v := ?_) (by simp only [List.getElem?_toArray, List.getElem?_cons_succ, List.getElem?_cons_zero] <;> rfl) (by kernel_rfl) (by kernel_rfl) (by kernel_rfl) (fun _ _ _ h => h) (Or.inl ⟨by rfl, ?_⟩) (by assumption) ?_
      rotate_left
      · (intro wq hSw; (try dsimp only at hSw); go_simp; try with_reducible rfl)
      try simp only [Act.put, List.setIfInBounds_toArray, List.set_cons_zero, List.set_cons_succ]
      refine wpAnyH_take (i := 13) (v := ?_) (by simp only [List.getElem?_toArray, List.getElem?_cons_succ, List.getElem?_cons_zero] <;> rfl) (by kernel_rfl) (by kernel_rfl) (by kernel_rfl) (fun _ _ _ h => h) (Or.inl ⟨by rfl, ?_⟩) (by assumption) ?_
      rotate_left
      · (intro wq hSw; (try dsimp only at hSw); go_simp; try with_reducible rfl)
      try simp only [Act.put, List.setIfInBounds_toArray, List.set_cons_zero, List.set_cons_succ]
      refine wpAnyH_take (i := 14) (v := ?_) (by simp only [List.getElem?_toArray, List.getElem?_cons_succ, List.getElem?_cons_zero] <;> rfl) (by kernel_rfl) (by kernel_rfl) (by kernel_rfl) (fun _ _ _ h => h) (Or.inl ⟨by rfl, ?_⟩) (by assumption) ?_
      rotate_left
      · (intro wq hSw; (try dsimp only at hSw); go_simp; try with_reducible rfl)
      try simp only [Act.put, List.setIfInBounds_toArray, List.set_cons_zero, List.set_cons_succ]
      refine wpAnyH_take (i := 15) (v := ?_) (by simp only [List.getElem?_toArray, List.getElem?_cons_succ, List.getElem?_cons_zero] <;> rfl) (by kernel_rfl) (by kernel_rfl) (by kernel_rfl) (fun _ _ _ h => h) (Or.inl ⟨by rfl, ?_⟩) (by assumption) ?_
      rotate_left
      · (intro wq hSw; (try dsimp only at hSw); go_simp; try with_reducible rfl)
      try simp only [Act.put, List.setIfInBounds_toArray, List.set_cons_zero, List.set_cons_succ]
      refine wpAnyH_done (by kernel_rfl) ?_ _
      refine NoPanic.normal ?_
      clear z0 z1 z2 d0 d1 d2 zl dl zq
      obtain ⟨wC, hwC, hbC⟩ : ∃ wC, wC = wx2 ∧ Below wB.heap.size wB wC := ⟨wx2, rfl, hHeld.2.2.2.2.2.2.2.2.2.2⟩
      have XC := Lib.hid (XB.out.keep hbC)
      have OC := Lib.hid (OB.out.keep hbC)
      have HBC := Lib.hid (below_callS HBB.out hbC)
      have hsC : wB.heap.size ≤ wC.heap.size := hbC.size
      rw [← hwC]
      clear hwC hHeld hcx hfx hsx hbx
      clear hHeld
      go_wp2_with (at_builtin; refine appI1 (z := (cntR inp L ((j : Int) + 2) : Int)) rfl _ _ rfl Try.underlying28 Try.infoi64 (w.heap.size + 1) _ _ _ _ OC.out rfl _ rfl rfl hcI (by omega) (by omega) ?_; intro g' c' wn ho hb ht hat hsz; have ON := Lib.hid ho; have XN := Lib.hid (XC.out.keepA ht (blk_ne XC.out OC.out.typN (by decide))); have HBN := Lib.hid (show Below w.heap.size w wn from HBC.out.trans (hb.mono (by omega))); clear ho hb ht hat)
      go_roundw
      case rel =>
        refine ⟨j + 1, g', c', rfl, by go_num, by omega, by omega, HBN, XN, Lib.hid ?_⟩
        have h := ON.out
        rw [show (cntR inp L ((j : Int) + 2) : Int) = (cntR inp L ((j + 2 : Nat) : Int) : Int) by rw [show ((j : Nat) : Int) + 2 = ((j + 2 : Nat) : Int) by omega], ← cntL_next] at h
        exact h
      case measure => simp [intOf]; omega
    · have hjn : j = L.length := by omega
      subst hjn
      have hlt' : ¬ (L.length : Int) < (L.length : Int) := by omega
      obtain ⟨q, rfl⟩ : ∃ q : Nat, root = (q : Int) := ⟨root.toNat, by have := HR.out.1; omega⟩
      have hqn := HR.out.2
      have l0 := lvl_pos HS.out.ord h0 HR.out
      have l1 := lvl_le HS.out.ord HR.out
      have m1 := cnt_few HS.out h0 h20 HR.out
      have zq : wr.cell? ⟨g, q, none⟩ = some (.int .i64 (cntR inp L (q : Int) : Int)) := by
        obtain ⟨v, hv, _, hc⟩ := O.out.cell (k := q) (by omega)
        rw [cntL_at (by omega)] at hv
        cases hv
        exact hc
      have gl := hgl.2
      have e5 := shl_u (v := (cntR inp L (q : Int) : Int)) (s := lvlN inp L (q : Int)) ⟨by omega, by omega⟩ (by omega) (by omega)
      have hq0 : (0 : Int) ≤ (q : Int) := by omega
      have hq1 : (q : Int) < (L.length : Int) + 2 := by omega
      go_wp2_with fail
      refine wp_region_noPanic ?_
      refine wp_region_held_drew (S := (fun wx => wx.cell? ⟨g, q, none⟩ = some (.int .i64 (cntR inp L (q : Int) : Int)) ∧ wx.cell? ⟨w.heap.size, 0, none⟩ = some (.int .i64 inp) ∧ wx.cell? ⟨w.heap.size, 1, none⟩ = some (.slice a L.length c) ∧ wx.cell? ⟨w.heap.size, 2, none⟩ = some (.int .i64 (q : Int)) ∧ g < wx.heap.size ∧ w.heap.size < wx.heap.size ∧ Below wr.heap.size wr wx)) (by kernel_rfl) ?_ (fun hHeld => ?_)
      · (try dsimp only); (((try go_split_ands); (repeat' apply And.intro) <;> first | (with_reducible assumption) | (with_reducible exact (hcx _ _ (by assumption)).trans (by assumption)) | (with_reducible exact Nat.lt_of_lt_of_le (by assumption) hsx) | (with_reducible exact below_callS (by assumption) hbx) | (with_reducible exact Below.drew (by assumption)) | (with_reducible exact Go.Proofs.Ytkaikbaagajckaa.cellR_drew (by assumption)) | (with_reducible exact Go.Proofs.Ytkaikbaagajckaa.ltR_drew (by assumption)) | (with_reducible exact (Below.refl _ _).drew)))
      refine wpAnyH_take (i := 0) (v := ?_) (by simp only [List.getElem?_toArray, List.getElem?_cons_succ, List.getElem?_cons_zero] <;> rfl) (by kernel_rfl) (by kernel_rfl) (by kernel_rfl) (fun _ _ _ h => h) (Or.inl ⟨by rfl, ?_⟩) (by assumption) ?_
      rotate_left
      · (intro wq hSw; (try dsimp only at hSw); go_simp; try with_reducible rfl)
      try simp only [Act.put, List.setIfInBounds_toArray, List.set_cons_zero, List.set_cons_succ]
      refine wpAnyH_take (i := 1) (v := ?_) (by simp only [List.getElem?_toArray, List.getElem?_cons_succ, List.getElem?_cons_zero] <;> rfl) (by kernel_rfl) (by kernel_rfl) (by kernel_rfl) (fun _ _ _ h => h) (Or.inl ⟨by rfl, ?_⟩) (by assumption) ?_
      rotate_left
      · (intro wq hSw; (try dsimp only at hSw); go_simp; try with_reducible rfl)
      try simp only [Act.put, List.setIfInBounds_toArray, List.set_cons_zero, List.set_cons_succ]
      refine wpAnyH_take (i := 2) (v := ?_) (by simp only [List.getElem?_toArray, List.getElem?_cons_succ, List.getElem?_cons_zero] <;> rfl) (by kernel_rfl) (by kernel_rfl) (by kernel_rfl) (fun _ _ _ h => h) (Or.inl ⟨by rfl, ?_⟩) (by assumption) ?_
      rotate_left
      · (intro wq hSw; (try dsimp only at hSw); go_simp; try with_reducible rfl)
      try simp only [Act.put, List.setIfInBounds_toArray, List.set_cons_zero, List.set_cons_succ]
      refine wpAnyH_take (i := 3) (v := ?_) (by simp only [List.getElem?_toArray, List.getElem?_cons_succ, List.getElem?_cons_zero] <;> rfl) (by kernel_rfl) (by kernel_rfl) (by kernel_rfl) (fun _ _ _ h => h) (Or.inl ⟨by rfl, ?_⟩) (by assumption) ?_
      rotate_left
      · (intro wq hSw; (try dsimp only at hSw); go_simp; try with_reducible rfl)
      try simp only [Act.put, List.setIfInBounds_toArray, List.set_cons_zero, List.set_cons_succ]
      refine wpAnyH_take (i := 4) (v := ?_) (by simp only [List.getElem?_toArray, List.getElem?_cons_succ, List.getElem?_cons_zero] <;> rfl) (by kernel_rfl) (by kernel_rfl) (by kernel_rfl) (fun _ _ _ h => h) (Or.inl ⟨by rfl, ?_⟩) (by assumption) ?_
      rotate_left
      · (intro wq hSw; (try dsimp only at hSw); go_simp; try with_reducible rfl)
      try simp only [Act.put, List.setIfInBounds_toArray, List.set_cons_zero, List.set_cons_succ]
      refine wpAnyH_take (i := 5) (v := ?_) (by simp only [List.getElem?_toArray, List.getElem?_cons_succ, List.getElem?_cons_zero] <;> rfl) (by kernel_rfl) (by kernel_rfl) (by kernel_rfl) (fun _ _ _ h => h) (Or.inl ⟨by rfl, ?_⟩) (by assumption) ?_
      rotate_left
      · (intro wq hSw; (try dsimp only at hSw); go_simp; try with_reducible rfl)
      try simp only [Act.put, List.setIfInBounds_toArray, List.set_cons_zero, List.set_cons_succ]
      refine wpAnyH_take (i := 6) (v := ?_) (by simp only [List.getElem?_toArray, List.getElem?_cons_succ, List.getElem?_cons_zero] <;> rfl) (by kernel_rfl) (by kernel_rfl) (by kernel_rfl) (fun _ _ _ h => h) (Or.inl ⟨by rfl, ?_⟩) (by assumption) ?_
      rotate_left
      · (intro wq hSw; (try dsimp only at hSw); go_simp; try with_reducible rfl)
      try simp only [Act.put, List.setIfInBounds_toArray, List.set_cons_zero, List.set_cons_succ]
      refine wpAnyH_take (i := 7) (v := ?_) (by simp only [List.getElem?_toArray, List.getElem?_cons_succ, List.getElem?_cons_zero] <;> rfl) (by kernel_rfl) (by kernel_rfl) (by kernel_rfl) (fun _ _ _ h => h) (Or.inl ⟨by rfl, ?_⟩) (by assumption) ?_
      rotate_left
      · (intro wq hSw; (try dsimp only at hSw); go_simp; try with_reducible rfl)
      try simp only [Act.put, List.setIfInBounds_toArray, List.set_cons_zero, List.set_cons_succ]
      refine wpAnyH_ready (rs := [8]) (by kernel_rfl) (by simp) ?_
      refine AllReadyH.cons rfl (fun K hK => ?_) AllReadyH.nil
      go_simp
      (go_at_call 113; refine Calls.mono (spec_l22Level (HI.out.keep (below_callS HB.out (by first | assumption | (go_split_ands; assumption)))) (by omega) HR.out) ?_; rintro e wx2 ⟨rfl, hbx⟩; obtain ⟨hcx, hfx⟩ := bcell hbx; have hsx := hbx.size)
      go_wp2_with fail
      refine hK.out _ _ ?_ (fun hHeld => ?_)
      · (try dsimp only); (((try go_split_ands); (repeat' apply And.intro) <;> first | (with_reducible assumption) | (with_reducible exact (hcx _ _ (by assumption)).trans (by assumption)) | (with_reducible exact Nat.lt_of_lt_of_le (by assumption) hsx) | (with_reducible exact below_callS (by assumption) hbx) | (with_reducible exact Below.drew (by assumption)) | (with_reducible exact Go.Proofs.Ytkaikbaagajckaa.cellR_drew (by assumption)) | (with_reducible exact Go.Proofs.Ytkaikbaagajckaa.ltR_drew (by assumption)) | (with_reducible exact (Below.refl _ _).drew)))
      clear hK K
      try simp only [Act.put, List.setIfInBounds_toArray, List.set_cons_zero, List.set_cons_succ]
      refine wpAnyH_take (i := 9) (v := ?_) (by simp only [List.getElem?_toArray, List.getElem?_cons_succ, List.getElem?_cons_zero] <;> rfl) (by kernel_rfl) (by kernel_rfl) (by kernel_rfl) (fun _ _ _ h => h) (Or.inl ⟨by rfl, ?_⟩) (by assumption) ?_
      rotate_left
      · (intro wq hSw; (try dsimp only at hSw); go_simp; try with_reducible rfl)
      try simp only [Act.put, List.setIfInBounds_toArray, List.set_cons_zero, List.set_cons_succ]
      refine wpAnyH_take (i := 10) (v := ?_) (by simp only [List.getElem?_toArray, List.getElem?_cons_succ, List.getElem?_cons_zero] <;> rfl) (by kernel_rfl) (by kernel_rfl) (by kernel_rfl) (fun _ _ _ h => h) (Or.inl ⟨by rfl, ?_⟩) (by assumption) ?_
      rotate_left
      · (intro wq hSw; (try dsimp only at hSw); go_simp; try with_reducible rfl)
      try simp only [Act.put, List.setIfInBounds_toArray, List.set_cons_zero, List.set_cons_succ]
      refine wpAnyH_take (i := 11) (v := ?_) (by simp only [List.getElem?_toArray, List.getElem?_cons_succ, List.getElem?_cons_zero] <;> rfl) (by kernel_rfl) (by kernel_rfl) (by kernel_rfl) (fun _ _ _ h => h) (Or.inl ⟨by rfl, ?_⟩) (by assumption) ?_
      rotate_left
      · (intro wq hSw; (try dsimp only at hSw); go_simp; try with_reducible rfl)
      try simp only [Act.put, List.setIfInBounds_toArray, List.set_cons_zero, List.set_cons_succ]
      refine wpAnyH_done (by kernel_rfl) ?_ _
      refine NoPanic.normal ?_
      have hbE := below_callS HB.out hHeld.2.2.2.2.2.2
      go_split_ands
      go_wp2
      go_ret
      exact ⟨ret_int (by rw [onesN]; push_cast; rfl), hbE⟩
end Go.Proofs.Ytkaikbaagajckaa
