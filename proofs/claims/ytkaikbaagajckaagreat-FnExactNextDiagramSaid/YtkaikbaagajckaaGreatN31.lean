/- The value of a diagram at a list of bits, the first list with the value 1: walked.; The first list of bits with the value 1: both functions, walked.; How many lists of bits have the value 1: both functions, walked. -/
import Derived.Test.YtkaikbaagajckaaGreatN29
import Derived.Test.YtkaikbaagajckaaGreatN30
import Derived.Test.YtkaikbaagajckaaGreatN09
import Derived.Test.YtkaikbaagajckaaGreatN24
import Derived.Test.YtkaikbaagajckaaGreatPu
import Derived.Deep.DrawnRows
namespace Go.Proofs.YtkaikbaagajckaaGreat
open Go.RowKit
set_option linter.unusedVariables false
set_option linter.unusedSimpArgs false


end Go.Proofs.YtkaikbaagajckaaGreat
namespace Go.Proofs.YtkaikbaagajckaaGreat
open Go.RowKit
set_option linter.unusedVariables false
set_option linter.unusedSimpArgs false
attribute [local go_sem ↓] Go.wp_at_zero Go.wp_at_succ
theorem shl_in {v s : Int} (hv : 0 ≤ v ∧ v ≤ 1048576) (hs0 : 0 ≤ s) (hs20 : s ≤ 20) : 0 ≤ v * 2 ^ s.toNat ∧ v * 2 ^ s.toNat ≤ 1099511627776 := by
  have h1 : (2 : Int) ^ s.toNat ≤ 1048576 := by
    have h := pow_20 (k := s.toNat) (by omega)
    have h2 : ((2 ^ s.toNat : Nat) : Int) ≤ ((1048576 : Nat) : Int) := Int.ofNat_le.2 h
    rw [Int.natCast_pow] at h2
    exact h2
  have h0 : (0 : Int) ≤ 2 ^ s.toNat := Int.pow_nonneg (by decide)
  refine ⟨Int.mul_nonneg hv.1 h0, ?_⟩
  have := Int.mul_le_mul hv.2 h1 h0 (by decide)
  omega
/-- the counts of the references below m -/
def cntL (n : Int) (L : List I3) (m : Nat) : List Int := (List.range m).map fun q : Nat => (cntR n L (q : Int) : Int)
theorem cntL_at {n : Int} {L : List I3} {m q : Nat} (h : q < m) : (cntL n L m)[q]? = some (cntR n L (q : Int) : Int) := by simp [cntL, h]
theorem cntL_two (n : Int) (L : List I3) : cntL n L 2 = [0, 1] := by
  have e0 := cnt_low (n := n) (L := L) (show ((0 : Nat) : Int) < 2 by decide)
  have e1 := cnt_low (n := n) (L := L) (show ((1 : Nat) : Int) < 2 by decide)
  simp only [cntL, List.range_succ, List.range_zero, List.nil_append, List.map_append, List.map_cons, List.map_nil, List.cons_append]
  rw [e0, e1]; rfl
theorem cntL_next (n : Int) (L : List I3) (m : Nat) : cntL n L (m + 1) = cntL n L m ++ [(cntR n L (m : Int) : Int)] := by simp [cntL, List.range_succ]
theorem cnt_next {n : Int} {L : List I3} (hF : Frst L) {j : Nat} {x : I3} (hx : L[j]? = some x) : ((cntR n L ((j : Int) + 2) : Nat) : Int) = (cntR n L x.b : Int) * 2 ^ (lvlN n L x.b - (x.a + 1)).toNat + (cntR n L x.c : Int) * 2 ^ (lvlN n L x.c - (x.a + 1)).toNat := by
  have h := cnt_node (n := n) hF hx
  rw [h]
  push_cast
  rfl
set_option maxRecDepth 100000 in
set_option maxHeartbeats 2000000 in
theorem impl_ones_1 {bC bD m mc n c q : Nat} {g off : Nat} {a : Option Addr} {L : List I3} {inp root input s : Int} {v : Int} {w : World} (hC : Blk w bC #[.slice (some ⟨g, off, none⟩) m mc] 22) (hD : Blk w bD #[.int .i64 inp, .slice a n c, .int .i64 root] 40) (hI : F3 w a n c L) (hn : n ≤ 4190000)
    (hq : q < m) (hcell : w.cell? ⟨g, off + q, none⟩ = some (.int .i64 v)) (hg : g < w.heap.size) (hr : RefB (q : Int) L.length) (hs : lvlN inp L (q : Int) - input = s) (hs0 : 0 ≤ s) (hs20 : s ≤ 20) (hv : 0 ≤ v ∧ v ≤ 1048576) :
    Calls Tryz.prog 157 #[.int .i64 (q : Int), .int .i64 input, .pointer (some ⟨bC, 0, none⟩), .pointer (some ⟨bD, 0, none⟩)] w fun e w' => e = .returned (.int .i64 (v * 2 ^ s.toNat)) ∧ Below w.heap.size w w' := by
  have HI := Lib.hid hI
  have c0 := hC.cell 0
  have cl := hC.lt
  have d0 := hD.cell 0
  have d1 := hD.cell 1
  have d2 := hD.cell 2
  have dl := hD.lt
  simp only [List.getElem?_toArray, List.getElem?_cons_zero, List.getElem?_cons_succ] at c0 d0 d1 d2
  have HR := Lib.hid hr
  have hq0 : (0 : Int) ≤ (q : Int) := by omega
  have hq1 : (q : Int) < (m : Int) := by omega
  have hrA : Below w.heap.size w w.drew := (Below.refl _ _).drew
  have hsh := shl_in hv hs0 hs20
  have e9 : IntKind.i64.wrap (v * 2 ^ s.toNat) = v * 2 ^ s.toNat := IntWalk.i64_in _ (by omega)
  have es : IntKind.i64.wrap (lvlN inp L (q : Int) - input) = s := by rw [hs]; exact IntWalk.i64_in _ (by omega)
  clear hI hC hD hr hs
  go_enter Tryz.func157, Tryz.ntmps157
  go_wp2_with fail
  refine wp_region_noPanic ?_
  refine wp_region_held_drew (S := (fun wx => wx.cell? ⟨bC, 0, none⟩ = some (.slice (some ⟨g, off, none⟩) m mc) ∧ wx.cell? ⟨g, off + q, none⟩ = some (.int .i64 v) ∧ wx.cell? ⟨bD, 0, none⟩ = some (.int .i64 inp) ∧ wx.cell? ⟨bD, 1, none⟩ = some (.slice a n c) ∧ wx.cell? ⟨bD, 2, none⟩ = some (.int .i64 root) ∧ bC < wx.heap.size ∧ g < wx.heap.size ∧ bD < wx.heap.size ∧ Below w.heap.size w wx)) (by kernel_rfl) ?_ (fun hHeld => ?_)
  · (try dsimp only); (((try go_split_ands); (repeat' apply And.intro) <;> with_reducible (first | assumption | exact (hcx _ _ (by assumption)).trans (by assumption) | exact Nat.lt_of_lt_of_le (by assumption) hsx | exact below_callS (by assumption) hbx | exact Below.drew (by assumption) | exact cellR_drew (by assumption) | exact ltR_drew (by assumption) | exact (Below.refl _ _).drew)))
  refine tkH 0 ?_
  try simp only [pu]
  refine tkH 1 ?_
  try simp only [pu]
  refine tkH 2 ?_
  try simp only [pu]
  refine tkH 3 ?_
  try simp only [pu]
  refine tkH 4 ?_
  try simp only [pu]
  refine tkH 5 ?_
  try simp only [pu]
  refine tkH 7 ?_
  try simp only [pu]
  refine wpAnyH_ready (rs := [6]) (by kernel_rfl) (by simp) ?_
  refine AllReadyH.cons rfl (fun K hK => ?_) AllReadyH.nil
  go_simp
  (go_at_call 139; refine Calls.mono (impl_inputOf (HI.out.keep (by first | assumption | (go_split_ands; assumption))) hn HR.out) ?_; rintro e wx2 ⟨rfl, hbx⟩; obtain ⟨hcx, hfx⟩ := bcell hbx; have hsx := hbx.size)
  go_wp2_with fail
  refine hK.out _ _ ?_ (fun hHeld => ?_)
  · (try dsimp only); (((try go_split_ands); (repeat' apply And.intro) <;> with_reducible (first | assumption | exact (hcx _ _ (by assumption)).trans (by assumption) | exact Nat.lt_of_lt_of_le (by assumption) hsx | exact below_callS (by assumption) hbx | exact Below.drew (by assumption) | exact cellR_drew (by assumption) | exact ltR_drew (by assumption) | exact (Below.refl _ _).drew)))
  clear hK K
  try simp only [pu]
  refine tkH 8 ?_
  try simp only [pu]
  refine tkH 9 ?_
  try simp only [pu]
  refine tkH 10 ?_
  try simp only [pu]
  refine wpAnyH_done (by kernel_rfl) ?_ _
  refine NoPanic.normal ?_
  go_split_ands
  go_wp2
  go_ret
  exact ⟨rfl, by assumption⟩
set_option maxRecDepth 100000 in
set_option maxHeartbeats 4000000 in
theorem impl_ones {a : Option Addr} {n c : Nat} {L : List I3} {inp root : Int} {w : World} (hI : F3 w a n c L) (hn : n ≤ 4190000) (hS : Snd inp L) (hr : RefB root L.length) (h0 : 0 ≤ inp) (h20 : inp ≤ 20) :
    Calls Tryz.prog 88 #[.agg #[.int .i64 inp, .slice a n c, .int .i64 root]] w fun e w' => e = .returned (.int .i64 (onesN inp L root : Int)) ∧ Below w.heap.size w w' := by
  have HI := Lib.hid hI
  obtain rfl : L.length = n := hI.len
  have HS := Lib.hid hS
  have HR := Lib.hid hr
  have hb0 : Below w.heap.size w (w.alloc (.cells #[.int .i64 inp, .slice a L.length c, .int .i64 root] 40)) := bel
  have hmf : ∀ (fn : Fn) (first cap : Array Value) (w : World), (Instr.makeFunc fn first cap).run Tryz.prog w = .ok (.func fn first cap) w := fun _ _ _ _ => rfl
  clear hI hS hr
  go_enter Tryz.func88, Tryz.ntmps88
  go_wp2_with fail
  have X0 := Lib.hid ((Blk.made w #[.int .i64 inp, .slice a L.length c, .int .i64 root] 40).keep (below_alloc1 (below_alloc1 (Below.refl _ _) (.cells #[.int .i64 0, .int .i64 1] 2)) (.cells #[.slice (some ⟨w.heap.size + 1, 0, none⟩) 2 2] 22)))
  have C0 := Lib.hid (Blk.made2 w (.cells #[.int .i64 inp, .slice a L.length c, .int .i64 root] 40) (.cells #[.int .i64 0, .int .i64 1] 2) #[.slice (some ⟨w.heap.size + 1, 0, none⟩) 2 2] 22)
  have O0 := Lib.hid (show OwnI 2 (((w.alloc (.cells #[.int .i64 inp, .slice a L.length c, .int .i64 root] 40)).alloc (.cells #[.int .i64 0, .int .i64 1] 2)).alloc (.cells #[.slice (some ⟨w.heap.size + 1, 0, none⟩) 2 2] 22)) (w.heap.size + 1) (some ⟨w.heap.size + 1, 0, none⟩) 2 2 [0, 1] from by
    refine OwnI.keep ?_ (below_alloc1 (Below.refl _ _) _)
    have h := OwnF.lit (k := 1) (m := 2) (enc := enc1) (ok := I64) (E := 2) (cs := #[.int .i64 0, .int .i64 1]) (base := w.heap.size + 1) (w.alloc (.cells #[.int .i64 inp, .slice a L.length c, .int .i64 root] 40)) [0, 1] (by simp) rfl (by decide) (fun _ => rfl) (fun x hx => by simp at hx; unfold I64; omega) rfl
    have h2 := h.i1
    simpa using h2)
  have HB0 := Lib.hid (below_alloc1 (below_alloc1 hb0 (.cells #[.int .i64 0, .int .i64 1] 2)) (.cells #[.slice (some ⟨w.heap.size + 1, 0, none⟩) 2 2] 22))
  go_loopw [12] (fun s12 wr => ∃ j : Nat, s12 = .int .i64 j ∧ j ≤ L.length ∧ w.heap.size + 1 + 1 < wr.heap.size ∧ Hid (Below w.heap.size w wr) ∧ Hid (Blk wr w.heap.size #[.int .i64 inp, .slice a L.length c, .int .i64 root] 40) ∧ Hid (∃ g mc, Blk wr (w.heap.size + 1 + 1) #[.slice (some ⟨g, 0, none⟩) (j + 2) mc] 22 ∧ OwnI 2 wr (w.heap.size + 1) (some ⟨g, 0, none⟩) (j + 2) mc (cntL inp L (j + 2)))) (fun s12 _ => L.length - (intOf s12).toNat)
  case atStart => exact ⟨0, rfl, by omega, by simp, HB0, X0, Lib.hid ⟨_, _, C0.out, by rw [cntL_two]; exact O0.out⟩⟩
  case round =>
    clear X0 C0 O0 HB0 hb0
    obtain ⟨j, rfl, hj, hsr, HB, X, CO⟩ := hrel
    obtain ⟨g, mc, hC, hO⟩ := CO.out
    have hgl := hO.lt
    have hcd := fun e : g = w.heap.size + 1 + 1 => blk_ne hC hO.typN (by decide) (by rw [e])
    by_cases hlt : j < L.length
    · have hlt' : (j : Int) < (L.length : Int) := by omega
      have hj0 : (0 : Int) ≤ (j : Int) := by omega
      obtain ⟨b1, o1, x, rfl, hb1, hx, hwf, c0, c1, c2⟩ := F3.get (HI.out.keep HB.out) hlt
      obtain ⟨q1, q2, q3, q4⟩ := HS.out.ord _ _ hx
      have f1 := HS.out.redu.frst.low _ _ hx
      have f2 := HS.out.redu.frst.high _ _ hx
      have hcn := cnt_next (n := inp) HS.out.redu.frst hx
      have l1 := lvl_le HS.out.ord (f1.mono (Nat.le_of_lt hlt))
      have l2 := lvl_le HS.out.ord (f2.mono (Nat.le_of_lt hlt))
      have m1 := cnt_few HS.out h0 h20 (f1.mono (Nat.le_of_lt hlt))
      have m2 := cnt_few HS.out h0 h20 (f2.mono (Nat.le_of_lt hlt))
      have R1 := Lib.hid (f1.mono (Nat.le_of_lt hlt))
      have R2 := Lib.hid (f2.mono (Nat.le_of_lt hlt))
      obtain ⟨xa, xb, xc⟩ := x
      simp only at c0 c1 c2 q1 q2 q3 q4 f1 f2 hcn l1 l2 m1 m2 R1 R2
      obtain ⟨i, rfl⟩ : ∃ i : Nat, xa = (i : Int) := ⟨xa.toNat, by omega⟩
      obtain ⟨qb, rfl⟩ : ∃ q : Nat, xb = (q : Int) := ⟨xb.toNat, by have := f1.1; omega⟩
      obtain ⟨qc, rfl⟩ : ∃ q : Nat, xc = (q : Int) := ⟨xc.toNat, by have := f2.1; omega⟩
      have f1' := f1.2
      have f2' := f2.2
      have HCN := Lib.hid hcn
      have e5 : IntKind.i64.wrap ((i : Int) + 1) = (i : Int) + 1 := IntWalk.i64_in _ (by omega)
      have hbR : Below wr.heap.size wr (wr.alloc (.cells #[.int .i64 (i : Int), .int .i64 (qb : Int), .int .i64 (qc : Int)] 117)) := below_alloc1 (Below.refl _ _) _
      have XA := Lib.hid (X.out.keep hbR)
      have CA := Lib.hid (hC.keep hbR)
      have OA := Lib.hid (hO.keep hbR)
      have HBA := Lib.hid (below_callS HB.out hbR)
      have ZA := Lib.hid (Blk.made wr #[.int .i64 (i : Int), .int .i64 (qb : Int), .int .i64 (qc : Int)] 117)
      have hsA : wr.heap.size ≤ (wr.alloc (.cells #[.int .i64 (i : Int), .int .i64 (qb : Int), .int .i64 (qc : Int)] 117)).heap.size := hbR.size
      have hsh1 := shl_in (v := (cntR inp L (qb : Int) : Int)) (s := lvlN inp L (qb : Int) - ((i : Int) + 1)) ⟨by omega, by omega⟩ (by omega) (by omega)
      have hsh2 := shl_in (v := (cntR inp L (qc : Int) : Int)) (s := lvlN inp L (qc : Int) - ((i : Int) + 1)) ⟨by omega, by omega⟩ (by omega) (by omega)
      obtain ⟨wA, hwA⟩ : ∃ wA, wA = wr.alloc (.cells #[.int .i64 (i : Int), .int .i64 (qb : Int), .int .i64 (qc : Int)] 117) := ⟨_, rfl⟩
      rw [← hwA] at XA CA OA HBA ZA hsA
      have GET := Lib.hid (fun (wx : World) (hb : Below wA.heap.size wA wx) (q : Nat) (hq : q < j + 2) => (show wx.cell? ⟨g, q, none⟩ = some (.int .i64 (cntR inp L (q : Int) : Int)) from by
        obtain ⟨v, hv, _, hc⟩ := (OA.out.keep hb).cell hq
        rw [cntL_at hq] at hv
        cases hv
        exact hc))
      have hgA : g < wA.heap.size := OA.out.lt.2
      have c0' := CA.out.cell 0
      have cl' := CA.out.lt
      have z0 := ZA.out.cell 0
      have z1 := ZA.out.cell 1
      have z2 := ZA.out.cell 2
      have zl := ZA.out.lt
      simp only [List.getElem?_toArray, List.getElem?_cons_succ, List.getElem?_cons_zero] at c0' z0 z1 z2
      have e6 : IntKind.i64.wrap ((cntR inp L (qb : Int) : Int) * 2 ^ (lvlN inp L (qb : Int) - ((i : Int) + 1)).toNat + (cntR inp L (qc : Int) : Int) * 2 ^ (lvlN inp L (qc : Int) - ((i : Int) + 1)).toNat) = (cntR inp L ((j : Int) + 2) : Int) := by
        rw [hcn]; exact IntWalk.i64_in _ (by omega)
      have hcI : I64 (cntR inp L ((j : Int) + 2) : Int) := by unfold I64; omega
      clear hcn HCN
      clear CO hC hO hbR hx hwf
      go_wp2_with fail
      rw [← hwA]
      clear hwA c0 c1 c2
      refine wp_region_noPanic ?_
      refine wp_region_M (L := 17) (S := (fun wx => wx.cell? ⟨w.heap.size + 1 + 1, 0, none⟩ = some (.slice (some ⟨g, 0, none⟩) (j + 2) mc) ∧ wx.cell? ⟨wr.heap.size, 0, none⟩ = some (.int .i64 (i : Int)) ∧ wx.cell? ⟨wr.heap.size, 1, none⟩ = some (.int .i64 (qb : Int)) ∧ wx.cell? ⟨wr.heap.size, 2, none⟩ = some (.int .i64 (qc : Int)) ∧ w.heap.size + 1 + 1 < wx.heap.size ∧ wr.heap.size < wx.heap.size ∧ Below wA.heap.size wA wx)) (by kernel_rfl) ?_ (fun hHeld => ?_)
      · exact ⟨c0', z0, z1, z2, cl', zl, (Below.refl _ _).drew⟩
      clear c0' cl' z0 z1 z2 zl
      refine tkM0 0 (v := ?_) ?_ ?_
      rotate_left
      · (intro wv hSw; (try dsimp only at hSw); obtain ⟨h1, h2, h3, h4, h5, h6, h7⟩ := hSw; go_simp; try with_reducible rfl)
      try simp only [pu]
      refine tkM0 1 (v := ?_) ?_ ?_
      rotate_left
      · (intro wv hSw; (try dsimp only at hSw); obtain ⟨h1, h2, h3, h4, h5, h6, h7⟩ := hSw; go_simp; try with_reducible rfl)
      try simp only [pu]
      refine tkM0 2 (v := ?_) ?_ ?_
      rotate_left
      · (intro wv hSw; (try dsimp only at hSw); obtain ⟨h1, h2, h3, h4, h5, h6, h7⟩ := hSw; go_simp; try with_reducible rfl)
      try simp only [pu]
      refine tkM0 3 (v := ?_) ?_ ?_
      rotate_left
      · (intro wv hSw; (try dsimp only at hSw); obtain ⟨h1, h2, h3, h4, h5, h6, h7⟩ := hSw; go_simp; try with_reducible rfl)
      try simp only [pu]
      refine tkM0 4 (v := ?_) ?_ ?_
      rotate_left
      · (intro wv hSw; (try dsimp only at hSw); obtain ⟨h1, h2, h3, h4, h5, h6, h7⟩ := hSw; go_simp; try with_reducible rfl)
      try simp only [pu]
      refine tkM0 5 (v := ?_) ?_ ?_
      rotate_left
      · (intro wv hSw; (try dsimp only at hSw); obtain ⟨h1, h2, h3, h4, h5, h6, h7⟩ := hSw; go_simp; try with_reducible rfl)
      try simp only [pu]
      refine tkM0 6 (v := ?_) ?_ ?_
      rotate_left
      · (intro wv hSw; (try dsimp only at hSw); obtain ⟨h1, h2, h3, h4, h5, h6, h7⟩ := hSw; go_simp; try with_reducible rfl)
      try simp only [pu]
      refine tkM0 8 (v := ?_) ?_ ?_
      rotate_left
      · (intro wv hSw; (try dsimp only at hSw); obtain ⟨h1, h2, h3, h4, h5, h6, h7⟩ := hSw; go_simp; try with_reducible rfl)
      try simp only [pu]
      refine tkM0 9 (v := ?_) ?_ ?_
      rotate_left
      · (intro wv hSw; (try dsimp only at hSw); obtain ⟨h1, h2, h3, h4, h5, h6, h7⟩ := hSw; go_simp; try with_reducible rfl)
      try simp only [pu]
      refine tkM0 10 (v := ?_) ?_ ?_
      rotate_left
      · (intro wv hSw; (try dsimp only at hSw); obtain ⟨h1, h2, h3, h4, h5, h6, h7⟩ := hSw; go_simp; try with_reducible rfl)
      try simp only [pu]
      refine tkM0 11 (v := ?_) ?_ ?_
      rotate_left
      · (intro wv hSw; (try dsimp only at hSw); obtain ⟨h1, h2, h3, h4, h5, h6, h7⟩ := hSw; go_simp; try with_reducible rfl)
      try simp only [pu]
      refine tkM0 12 (v := ?_) ?_ ?_
      rotate_left
      · (intro wv hSw; (try dsimp only at hSw); obtain ⟨h1, h2, h3, h4, h5, h6, h7⟩ := hSw; go_simp; try with_reducible rfl)
      try simp only [pu]
      refine tkM0 13 (v := ?_) ?_ ?_
      rotate_left
      · (intro wv hSw; (try dsimp only at hSw); obtain ⟨h1, h2, h3, h4, h5, h6, h7⟩ := hSw; go_simp; try with_reducible rfl)
      try simp only [pu]
      refine wpAnyM_ready (rs := [7]) (by kernel_rfl) (by simp) ?_
      refine AllReadyM.cons rfl (fun K hK => ?_) AllReadyM.nil
      go_simp
      (refine Calls.mono (impl_ones_1 (off := 0) (CA.out.keep (by first | assumption | (go_split_ands; assumption))) (XA.out.keep (by first | assumption | (go_split_ands; assumption))) (HI.out.keep (below_callS HBA.out (by first | assumption | (go_split_ands; assumption)))) (by omega) (q := qb) (s := lvlN inp L (qb : Int) - ((i : Int) + 1)) (v := (cntR inp L (qb : Int) : Int)) (by omega) (by rw [Nat.zero_add]; exact (GET.out _ (by first | assumption | (go_split_ands; assumption)) qb (by omega))) (Nat.lt_of_lt_of_le hgA (Below.size (by first | assumption | (go_split_ands; assumption)))) R1.out rfl (by omega) (by omega) ⟨by omega, by omega⟩) ?_; rintro e wx2 ⟨rfl, hbx⟩; obtain ⟨hcx, hfx⟩ := bcell hbx; have hsx := hbx.size)
      go_wp2_with fail
      refine hK.out _ _ ?_ (fun hHeld => ?_)
      · (try dsimp only); (((try go_split_ands); (repeat' apply And.intro) <;> with_reducible (first | assumption | exact (hcx _ _ (by assumption)).trans (by assumption) | exact Nat.lt_of_lt_of_le (by assumption) hsx | exact below_callS (by assumption) hbx | exact Below.drew (by assumption) | exact cellR_drew (by assumption) | exact ltR_drew (by assumption) | exact (Below.refl _ _).drew)))
      clear hK K
      try simp only [pu]
      refine wpAnyM_ready (rs := [14]) (by kernel_rfl) (by simp) ?_
      refine AllReadyM.cons rfl (fun K hK => ?_) AllReadyM.nil
      go_simp
      (refine Calls.mono (impl_ones_1 (off := 0) (CA.out.keep (by first | assumption | (go_split_ands; assumption))) (XA.out.keep (by first | assumption | (go_split_ands; assumption))) (HI.out.keep (below_callS HBA.out (by first | assumption | (go_split_ands; assumption)))) (by omega) (q := qc) (s := lvlN inp L (qc : Int) - ((i : Int) + 1)) (v := (cntR inp L (qc : Int) : Int)) (by omega) (by rw [Nat.zero_add]; exact (GET.out _ (by first | assumption | (go_split_ands; assumption)) qc (by omega))) (Nat.lt_of_lt_of_le hgA (Below.size (by first | assumption | (go_split_ands; assumption)))) R2.out rfl (by omega) (by omega) ⟨by omega, by omega⟩) ?_; rintro e wx2 ⟨rfl, hbx⟩; obtain ⟨hcx, hfx⟩ := bcell hbx; have hsx := hbx.size)
      go_wp2_with fail
      refine hK.out _ _ ?_ (fun hHeld => ?_)
      · (try dsimp only); (((try go_split_ands); (repeat' apply And.intro) <;> with_reducible (first | assumption | exact (hcx _ _ (by assumption)).trans (by assumption) | exact Nat.lt_of_lt_of_le (by assumption) hsx | exact below_callS (by assumption) hbx | exact Below.drew (by assumption) | exact cellR_drew (by assumption) | exact ltR_drew (by assumption) | exact (Below.refl _ _).drew)))
      clear hK K
      try simp only [pu]
      refine tkP 15 ?_
      try simp only [pu]
      have hbh : Below wA.heap.size wA wx2 := hHeld.2.2.2.2.2.2
      refine wpAnyM_ready (rs := [16]) (by kernel_rfl) (by simp) ?_
      refine AllReadyM.cons rfl (fun K hK => ?_) AllReadyM.nil
      go_simp
      have hbX : Below wx2.heap.size wx2 (wx2.alloc (.cells #[.int .i64 (cntR inp L ((j : Int) + 2) : Int)] 2)) := below_alloc1 (Below.refl _ _) _
      obtain ⟨Y, hY⟩ : ∃ Y, Y = wx2.alloc (.cells #[.int .i64 (cntR inp L ((j : Int) + 2) : Int)] 2) := ⟨_, rfl⟩
      have L6 := Lib.hid (show Blk Y wx2.heap.size #[.int .i64 (cntR inp L ((j : Int) + 2) : Int)] 2 by rw [hY]; exact Blk.made _ _ _)
      rw [← hY] at hbX ⊢
      clear hY
      have hbY := below_callS hbh hbX
      have CY := Lib.hid (CA.out.keep hbY)
      have OY := Lib.hid (OA.out.keep hbY)
      have ZY := Lib.hid (ZA.out.keep hbY)
      have XY := Lib.hid (XA.out.keep hbY)
      have HBY := Lib.hid (below_callS HBA.out hbY)
      have hsY := hbY.size
      have SS := Lib.hid (fun (wx : World) (h1 : Blk wx (w.heap.size + 1 + 1) #[.slice (some ⟨g, 0, none⟩) (j + 2) mc] 22) (h2 : Blk wx wr.heap.size #[.int .i64 (i : Int), .int .i64 (qb : Int), .int .i64 (qc : Int)] 117) => (⟨h1.cell 0, h2.cell 0, h2.cell 1, h2.cell 2, h1.lt, h2.lt⟩ : wx.cell? ⟨w.heap.size + 1 + 1, 0, none⟩ = some (.slice (some ⟨g, 0, none⟩) (j + 2) mc) ∧ wx.cell? ⟨wr.heap.size, 0, none⟩ = some (.int .i64 (i : Int)) ∧ wx.cell? ⟨wr.heap.size, 1, none⟩ = some (.int .i64 (qb : Int)) ∧ wx.cell? ⟨wr.heap.size, 2, none⟩ = some (.int .i64 (qc : Int)) ∧ w.heap.size + 1 + 1 < wx.heap.size ∧ wr.heap.size < wx.heap.size))
      refine hK.out _ _ ?_ (fun hHeld => ?_)
      · have h := SS.out _ CY.out ZY.out
        exact ⟨h.1, h.2.1, h.2.2.1, h.2.2.2.1, h.2.2.2.2.1, h.2.2.2.2.2, hbY⟩
      clear hK K
      try simp only [pu]
      refine wpAnyM_ready (rs := [17]) (by kernel_rfl) (by simp) ?_
      refine AllReadyM.last rfl (fun K hK => ?_)
      refine wp_appAtL (k := 1) (m := 1) (enc := enc1) (ok := I64) _ _ rfl Tryz.underlying22 Tryz.infoi64 rfl (by decide) (by decide) (fun y u hu => by simp [enc1] at hu; subst hu; rfl) (w.heap.size + 1) (some ⟨g, 0, none⟩) (j + 2) mc (cntL inp L (j + 2)) [(cntR inp L ((j : Int) + 2) : Int)] OY.out.f1 rfl _ rfl L6.out rfl rfl (fun y hy => by simp at hy; rw [hy]; exact hcI) (by decide) (by omega) (by decide) (by omega) ?_
      intro g' c' w6 h1 h2 h3
      have ht : Touch Y w6 1 (some ⟨g, 0, none⟩) := ⟨_, h3, fun b e => ⟨by decide, own_block OY.out.1 b e⟩⟩
      have C7 := Lib.hid (CY.out.keepA ht (fun e => hcd (by simpa using e)))
      have Z7 := Lib.hid (ZY.out.keepA ht (blk_ne ZY.out OY.out.typN (by decide)))
      have X7 := Lib.hid (XY.out.keepA ht (blk_ne XY.out OY.out.typN (by decide)))
      have O7 := Lib.hid h1.i1
      have HB7 := Lib.hid (show Below w.heap.size w w6 from HBY.out.trans (h2.mono (by omega)))
      have hb7 : Below (w.heap.size + 1) Y w6 := h2
      have hs7 := h3.size
      clear h1 h2 h3 ht
      refine hK.out _ _ ?_
      clear hK K
      try simp only [pu]
      have c0 := C7.out.cell 0
      have cl := C7.out.lt
      have cf := C7.out.free
      simp only [List.getElem?_toArray, List.getElem?_cons_zero] at c0
      refine wpAnyM_ready (rs := [18]) (by kernel_rfl) (by simp) ?_
      refine AllReadyM.then (by kernel_rfl) rfl (fun K hK => ?_)
      go_simp
      refine hK.out _ _ ?_
      clear hK K
      try simp only [pu]
      refine wpAnyM_done (by kernel_rfl) ?_ _
      refine NoPanic.normal ?_
      have hg7 := O7.out.lt
      have hcd7 : g' ≠ w.heap.size + 1 + 1 := fun e => blk_ne C7.out O7.out.typN (by decide) (by rw [e])
      have C8 := Lib.hid (C7.out.set 0 (.slice (some ⟨g', 0, none⟩) (j + 2 + 1) c'))
      have O8 := Lib.hid (O7.out.keepG (set_grown (w.heap.size + 1 + 1) 0 (.slice (some ⟨g', 0, none⟩) (j + 2 + 1) c')) (fun g e e' => by simp at e e'; omega))
      have X8 := Lib.hid (X7.out.keepG (set_grown (w.heap.size + 1 + 1) 0 (.slice (some ⟨g', 0, none⟩) (j + 2 + 1) c')) (by simp; omega))
      have HB8 := Lib.hid (HB7.out.setCell (p := ⟨w.heap.size + 1 + 1, 0, none⟩) (by simp only; omega) (.slice (some ⟨g', 0, none⟩) (j + 2 + 1) c'))
      go_wp2_with fail
      go_roundw
      case rel =>
        refine ⟨j + 1, by go_num, by omega, by simp [World.setCell]; omega, HB8, X8, Lib.hid ⟨g', c', ?_, ?_⟩⟩
        · exact C8.out
        · have h := O8.out
          rw [show (cntR inp L ((j : Int) + 2) : Int) = (cntR inp L ((j + 2 : Nat) : Int) : Int) by rw [show ((j : Nat) : Int) + 2 = ((j + 2 : Nat) : Int) by omega], ← cntL_next] at h
          exact h
      case measure => simp [intOf]; omega
    · have hjn : j = L.length := by omega
      subst hjn
      have hlt' : ¬ (L.length : Int) < (L.length : Int) := by omega
      obtain ⟨q, rfl⟩ : ∃ q : Nat, root = (q : Int) := ⟨root.toNat, by have := HR.out.1; omega⟩
      have hqn := HR.out.2
      have l0 := lvl_pos HS.out.ord h0 HR.out
      have l1 := lvl_le HS.out.ord HR.out
      have m1 := cnt_few HS.out h0 h20 HR.out
      have x2 := X.out.cell 2
      have xl := X.out.lt
      simp only [List.getElem?_toArray, List.getElem?_cons_succ, List.getElem?_cons_zero] at x2
      have HC := Lib.hid hC
      have HO := Lib.hid hO
      clear hC hO CO
      go_wp2_with fail
      refine Calls.mono (impl_ones_1 (off := 0) HC.out X.out (HI.out.keep HB.out) (by omega) (q := q) (s := lvlN inp L (q : Int)) (v := (cntR inp L (q : Int) : Int)) (by omega) (by
        rw [Nat.zero_add]
        obtain ⟨v, hv, _, hc⟩ := HO.out.cell (k := q) (by omega)
        rw [cntL_at (by omega)] at hv
        cases hv
        exact hc) (by omega) HR.out (by omega) l0 (by omega) ⟨by omega, by omega⟩) ?_
      rintro e w2 ⟨rfl, hb2⟩
      go_wp2
      go_ret
      exact ⟨ret_int (by rw [onesN]; push_cast; rfl), below_callS HB.out hb2⟩
end Go.Proofs.YtkaikbaagajckaaGreat
