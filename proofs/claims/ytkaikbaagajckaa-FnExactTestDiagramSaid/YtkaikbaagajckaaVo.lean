/- The canonical diagram of a forest: the program, walked. -/
import Derived.Test.YtkaikbaagajckaaVn
import Derived.Test.YtkaikbaagajckaaJa
namespace Go.Proofs.Ytkaikbaagajckaa
open Go.RowKit
set_option linter.unusedVariables false
set_option linter.unusedSimpArgs false
/-- the new names as the program keeps them -/
def plF (P : Nms) (q : Int) : Option Int := if q = 0 then some 0 else if q = 1 then some 1 else if 0 ≤ q ∧ P q.toNat > 0 then some (P q.toNat) else none
theorem plF_low (P : Nms) {r : Nat} (h : r < 2) : plF P (r : Int) = some (r : Int) := by
  have : r = 0 ∨ r = 1 := by omega
  rcases this with rfl | rfl <;> simp [plF]
theorem plF_old {P : Nms} {r : Nat} (h : ¬ r < 2) (hp : P r > 0) : plF P (r : Int) = some (P r) := by
  rw [plF, if_neg (by omega), if_neg (by omega), Int.toNat_natCast, if_pos ⟨by omega, hp⟩]
theorem plF_new {P : Nms} {r : Nat} (h : ¬ r < 2) (hp : ¬ P r > 0) : plF P (r : Int) = none := by
  rw [plF, if_neg (by omega), if_neg (by omega), Int.toNat_natCast, if_neg (fun h => hp h.2)]
theorem plF_put {P : Nms} {r : Nat} {v : Int} (h : ¬ r < 2) (hv : v > 0) (q : Int) : (if q = (r : Int) then some v else plF P q) = plF (fun k => if k = r then v else P k) q := by
  by_cases hq : q = (r : Int)
  · rw [if_pos hq, hq, plF_old h (by rw [if_pos rfl]; exact hv), if_pos rfl]
  · rw [if_neg hq, plF, plF]
    split
    · rfl
    · split
      · rfl
      · by_cases h0 : 0 ≤ q
        · have : ¬ q.toNat = r := by omega
          rw [if_neg this]
        · rw [if_neg (fun h => h0 h.1), if_neg (fun h => h0 h.1)]
theorem wk_few {N D : List I3} {P : Nms} (h : WkI N D P) (hF : Frst N) : D.length ≤ N.length := by
  have hch : ∀ k, k < D.length → ∃ r : Nat, P r = (k : Int) + 2 ∧ 2 ≤ r ∧ r - 2 < N.length := fun k hk => by
    obtain ⟨r, hr⟩ := h.from' k hk
    obtain ⟨g, x, _, hx, _⟩ := h.nodes hF (show P r > 0 by omega)
    exact ⟨r, hr, g, (List.getElem?_eq_some_iff.1 hx).1⟩
  have key : ∀ m, m ≤ D.length → ∃ S : List Nat, S.length = m ∧ S.Nodup ∧ ∀ s ∈ S, s < N.length ∧ ∃ k, k < m ∧ P (s + 2) = (k : Int) + 2 := by
    intro m
    induction m with
    | zero => intro _; exact ⟨[], rfl, List.nodup_nil, fun s h => by cases h⟩
    | succ m ih =>
      intro hm
      obtain ⟨S, h1, h2, h3⟩ := ih (by omega)
      obtain ⟨r, hr, g, hl⟩ := hch m (by omega)
      refine ⟨(r - 2) :: S, by simp [h1], ?_, fun s hs => ?_⟩
      · rw [List.nodup_cons]
        refine ⟨fun hin => ?_, h2⟩
        obtain ⟨_, k, hk, hP⟩ := h3 _ hin
        rw [show r - 2 + 2 = r by omega, hr] at hP
        omega
      · rcases List.mem_cons.1 hs with rfl | hs
        · exact ⟨hl, m, by omega, by rw [show r - 2 + 2 = r by omega]; exact hr⟩
        · obtain ⟨g1, k, g2, g3⟩ := h3 s hs
          exact ⟨g1, k, by omega, g3⟩
  obtain ⟨S, s1, s2, s3⟩ := key D.length (Nat.le_refl _)
  have hsub := nodup_lt N.length S s2 fun s hs => (s3 s hs).1
  omega
theorem wk_ref {N D : List I3} {P : Nms} {r : Nat} {A : List I3 × Nms × Int} (h : WkR N D P r A) (hF : Frst N) : 0 ≤ A.2.2 ∧ A.2.2 ≤ (N.length : Int) + 2 := by
  rw [h.ref, rvN]
  split
  · omega
  · rename_i h2
    rw [Int.toNat_natCast]
    obtain ⟨_, x, k, _, hk, hd, _⟩ := h.inv.nodes hF (h.vis (by omega))
    have h1 := (List.getElem?_eq_some_iff.1 hd).1
    have h2 := wk_few h.inv hF
    omega
/-- what the walk of the program has at hand -/
structure CanW (w : World) (lo bF p bM mp bV bD : Nat) (inp : Int) (na : Option Addr) (n nc mb : Nat) (N : List I3) (da : Option Addr) (dc mn : Nat) (D : List I3) (P : Nms) : Prop where
  f : Blk w bF #[.pointer (some ⟨p, 0, none⟩)] 87
  fo : Blk w p #[.int .i64 inp, .slice na n nc, .map (some mb)] 140
  nd : F3 w na n nc N
  m : Blk w bM #[.map (some mp)] 141
  pl : MapA 2 I64 litK1 w mp mn (plF P)
  v : Blk w bV #[.func (.func 117) #[] #[.pointer (some ⟨bM, 0, none⟩), .pointer (some ⟨bF, 0, none⟩), .pointer (some ⟨bV, 0, none⟩), .pointer (some ⟨bD, 0, none⟩)]] 89
  d : Blk w bD #[.int .i64 inp, .slice da D.length dc, .int .i64 0] 26
  own : OwnF 3 I3.enc I3.ok 76 w lo da D.length dc D
  few : mn ≤ D.length + 2
  lows : bF < lo ∧ p < lo ∧ bM < lo ∧ mp < lo ∧ bV < lo ∧ bD < lo ∧ lo ≤ w.heap.size
  lown : ∀ g off, na = some ⟨g, off, none⟩ → g < lo ∧ g ≠ bD ∧ g ≠ mp
/-- what it may write: the map, the diagram's box, the new nodes' block -/
structure FrC (mp bD : Nat) (da : Option Addr) (w : World) (da' : Option Addr) (w' : World) : Prop where
  os : w'.os = w.os
  tape : w'.tape = w.tape
  output : w'.output = w.output
  size : w.heap.size ≤ w'.heap.size
  block : ∀ k, k < w.heap.size → k ≠ mp → k ≠ bD → (∀ g, da = some ⟨g, 0, none⟩ → k ≠ g) → w'.heap[k]? = w.heap[k]?
  fresh : ∀ g, da' = some ⟨g, 0, none⟩ → da = some ⟨g, 0, none⟩ ∨ w.heap.size ≤ g
theorem FrC.refl (mp bD : Nat) (da : Option Addr) (w : World) : FrC mp bD da w da w := ⟨rfl, rfl, rfl, Nat.le_refl _, fun _ _ _ _ _ => rfl, fun _ h => .inl h⟩
theorem FrC.trans {mp bD : Nat} {da da' da'' : Option Addr} {w w' w'' : World} (h : FrC mp bD da w da' w') (h' : FrC mp bD da' w' da'' w'') : FrC mp bD da w da'' w'' :=
  ⟨h'.os.trans h.os, h'.tape.trans h.tape, h'.output.trans h.output, Nat.le_trans h.size h'.size, fun k h0 h1 h2 h3 => (h'.block k (Nat.lt_of_lt_of_le h0 h.size) h1 h2 (fun g e => by
    rcases h.fresh g e with h4 | h4
    · exact h3 g h4
    · omega)).trans (h.block k h0 h1 h2 h3), fun g e => by
    rcases h'.fresh g e with h4 | h4
    · exact h.fresh g h4
    · exact .inr (Nat.le_trans h.size h4)⟩
theorem FrC.of_below {mp bD : Nat} {da : Option Addr} {w w' : World} (h : Below w.heap.size w w') : FrC mp bD da w da w' := ⟨h.os, h.tape, h.output, h.size, fun k h0 _ _ _ => h.block k h0, fun _ e => .inl e⟩
theorem Blk.frc {mp bD b : Nat} {da da' : Option Addr} {w w' : World} {cs : Array Value} {T : TypeId} (h : Blk w b cs T) (hf : FrC mp bD da w da' w') (h1 : b ≠ mp) (h2 : b ≠ bD) (h3 : ∀ g, da = some ⟨g, 0, none⟩ → b ≠ g) : Blk w' b cs T := (hf.block b h.lt h1 h2 h3).trans h
theorem CanW.keep {w w' : World} {lo bF p bM mp bV bD : Nat} {inp : Int} {na : Option Addr} {n nc mb : Nat} {N : List I3} {da : Option Addr} {dc mn : Nat} {D : List I3} {P : Nms} (h : CanW w lo bF p bM mp bV bD inp na n nc mb N da dc mn D P) (hb : Below w.heap.size w w') : CanW w' lo bF p bM mp bV bD inp na n nc mb N da dc mn D P :=
  ⟨h.f.keep hb, h.fo.keep hb, h.nd.keep hb, h.m.keep hb, h.pl.keep hb, h.v.keep hb, h.d.keep hb, h.own.keep hb, h.few, ⟨h.lows.1, h.lows.2.1, h.lows.2.2.1, h.lows.2.2.2.1, h.lows.2.2.2.2.1, h.lows.2.2.2.2.2.1, Nat.le_trans h.lows.2.2.2.2.2.2 hb.size⟩, h.lown⟩
set_option maxRecDepth 100000 in
set_option maxHeartbeats 1000000 in
theorem impl_visit_old {lo bF p bM mp bV bD n nc mb r : Nat} {inp q : Int} {na : Option Addr} {N : List I3} {D : List I3} {P : Nms} {da : Option Addr} {dc mn : Nat} {w : World} (hC : CanW w lo bF p bM mp bV bD inp na n nc mb N da dc mn D P) (hr : r ≤ 4194100) (hq : plF P (r : Int) = some q) :
    Calls Try.prog 117 #[.int .i64 (r : Int), .pointer (some ⟨bM, 0, none⟩), .pointer (some ⟨bF, 0, none⟩), .pointer (some ⟨bV, 0, none⟩), .pointer (some ⟨bD, 0, none⟩)] w fun e w' => e = .returned (.int .i64 q) ∧ w = w' := by
  have hlk := hC.pl.look keyI Try.underlying141 (x := (r : Int)) (by unfold I64; omega) true
  rw [hq] at hlk
  have hl := (show (Instr.lookup 141 (.map (some mp)) (.int .i64 (r : Int)) true).run Try.prog w = .ok (.tuple #[.int .i64 q, .bool true]) w from hlk)
  have m0 := hC.m.cell 0
  have ml := hC.m.lt
  simp at m0
  clear hC hlk hq
  go_enter Try.func117, Try.ntmps117
  go_wp2
  go_ret
  exact ⟨rfl, rfl⟩
set_option maxRecDepth 100000 in
set_option maxHeartbeats 4000000 in
theorem impl_visit {lo bF p bM mp bV bD n nc mb : Nat} {inp : Int} {na : Option Addr} {N : List I3} (hR : Redu N) (hN : N.length ≤ 4194000) (hinp : I64 inp) : ∀ (f r : Nat) (D : List I3) (P : Nms) (da : Option Addr) (dc mn : Nat) (w : World), CanW w lo bF p bM mp bV bD inp na n nc mb N da dc mn D P → WkI N D P → r ≤ f → r < N.length + 2 →
    Calls Try.prog 117 #[.int .i64 (r : Int), .pointer (some ⟨bM, 0, none⟩), .pointer (some ⟨bF, 0, none⟩), .pointer (some ⟨bV, 0, none⟩), .pointer (some ⟨bD, 0, none⟩)] w fun e w' => e = .returned (.int .i64 (wlkN appN N f (D, P) r).2.2) ∧ ∃ da' dc' mn', CanW w' lo bF p bM mp bV bD inp na n nc mb N da' dc' mn' (wlkN appN N f (D, P) r).1 (wlkN appN N f (D, P) r).2.1 ∧ FrC mp bD da w da' w' := by
  intro f
  induction f with
  | zero =>
    intro r D P da dc mn w hC hW hr hrn
    have h2 : r < 2 := by omega
    rw [wlk_low _ _ _ _ h2]
    refine (impl_visit_old hC (by omega) (plF_low P h2)).mono ?_
    rintro e w' ⟨rfl, rfl⟩
    exact ⟨rfl, _, _, _, hC, FrC.refl _ _ _ _⟩
  | succ f ih =>
    intro r D P da dc mn w hC hW hr hrn
    by_cases h2 : r < 2
    · rw [wlk_low _ _ _ _ h2]
      refine (impl_visit_old hC (by omega) (plF_low P h2)).mono ?_
      rintro e w' ⟨rfl, rfl⟩
      exact ⟨rfl, _, _, _, hC, FrC.refl _ _ _ _⟩
    by_cases hp : P r > 0
    · rw [wlk_old _ _ _ _ h2 hp]
      refine (impl_visit_old hC (by omega) (plF_old h2 hp)).mono ?_
      rintro e w' ⟨rfl, rfl⟩
      exact ⟨rfl, _, _, _, hC, FrC.refl _ _ _ _⟩
    obtain ⟨x, hx⟩ : ∃ x, N[r - 2]? = some x := ⟨_, List.getElem?_eq_getElem (by omega)⟩
    have h3 := hR.frst.low _ _ hx
    have h4 := hR.frst.high _ _ hx
    unfold RefB at h3 h4
    have hb0 : (x.b.toNat : Int) = x.b := by omega
    have hc0 : (x.c.toNat : Int) = x.c := by omega
    obtain ⟨_, R1⟩ := wlk_same hR.nodup hR.frst hR.diff f x.b.toNat D P (by omega) (by omega) hW
    rw [wlk_new _ _ _ _ h2 hp hx]
    have C1 := fun (da : Option Addr) (dc mn : Nat) (w : World) (hC : CanW w lo bF p bM mp bV bD inp na n nc mb N da dc mn D P) => ih x.b.toNat D P da dc mn w hC hW (by omega) (by omega)
    rw [hb0] at C1
    generalize wlkN appN N f (D, P) x.b.toNat = A at *
    obtain ⟨D1, P1, r1⟩ := A
    obtain ⟨_, R2⟩ := wlk_same hR.nodup hR.frst hR.diff f x.c.toNat D1 P1 (by omega) (by omega) R1.inv
    have C2 := fun (da : Option Addr) (dc mn : Nat) (w : World) (hC : CanW w lo bF p bM mp bV bD inp na n nc mb N da dc mn D1 P1) => ih x.c.toNat D1 P1 da dc mn w hC R1.inv (by omega) (by omega)
    rw [hc0] at C2
    simp only at C1 ⊢
    generalize wlkN appN N f (D1, P1) x.c.toNat = B at *
    obtain ⟨D2, P2, r2⟩ := B
    simp only [appN] at C2 ⊢
    have hlk := hC.pl.look keyI Try.underlying141 (x := (r : Int)) (by unfold I64; omega) true
    rw [plF_new h2 hp] at hlk
    have hl := (show (Instr.lookup 141 (.map (some mp)) (.int .i64 (r : Int)) true).run Try.prog w = .ok (.tuple #[.int .i64 0, .bool false]) w from hlk)
    obtain ⟨k, hk⟩ : ∃ k, r - 2 = k := ⟨_, rfl⟩
    rw [hk] at hx h3 h4
    have i1 : IntKind.i64.wrap ((r : Int) - 2) = (k : Int) := by rw [IntWalk.i64_in _ (by omega)]; omega
    have HK := Lib.hid hk
    have hkn : k < n := by rw [← hC.nd.len]; exact (List.getElem?_eq_some_iff.1 hx).1
    obtain ⟨b, off, y, rfl, hb, hy, hwf, hc0', hc1', hc2'⟩ := F3.get hC.nd hkn
    rw [hx] at hy
    cases hy
    have HC := Lib.hid hC
    have K1 := Lib.hid C1
    have K2 := Lib.hid C2
    have m0 := hC.m.cell 0
    have ml := hC.m.lt
    have f0 := hC.f.cell 0
    have fl := hC.f.lt
    have q1 := hC.fo.cell 1
    have ql := hC.fo.lt
    have v0 := hC.v.cell 0
    have vl := hC.v.lt
    simp at m0 f0 q1 v0
    have hr1 : 0 ≤ r1 ∧ r1 ≤ (N.length : Int) + 2 := wk_ref R1 hR.frst
    have hr2 : 0 ≤ r2 ∧ r2 ≤ (N.length : Int) + 2 := wk_ref R2 hR.frst
    have hd2 : D2.length ≤ N.length := wk_few R2.inv hR.frst
    have I1 := Lib.hid R1.inv
    have I2 := Lib.hid R2.inv
    have hk0 : (0 : Int) ≤ (k : Int) := by omega
    have hkn' : (k : Int) < (n : Int) := by omega
    clear hC hlk hx C1 C2 R1 R2 ih hW hk
    have hbW : Below w.heap.size w (w.alloc (.cells #[.int .i64 x.a, .int .i64 x.b, .int .i64 x.c] 76)) := by repeat (first | exact Below.refl _ _ | assumption | refine below_allocS ?_ _ | refine below_callS ?_ (by assumption) | (refine Below.alloc ?_ (by first | omega | (simp; done) | (simp; omega)) _) | (refine Below.setCell ?_ (by first | omega | (simp; done) | (simp; omega)) _) | refine Below.drew ?_ | refine below_drewN ?_ _ | (refine below_call ?_ (by assumption) (by first | omega | (simp; done) | (simp; omega))) | (refine Below.trans ?_ (by assumption)))
    have X1 := Lib.hid (Blk.made w #[.int .i64 x.a, .int .i64 x.b, .int .i64 x.c] 76)
    have hdg : ∀ g, da = some ⟨g, 0, none⟩ → w.heap.size ≠ g := fun g e => by have := (HC.out.own.blk g e).2; omega
    obtain ⟨z1, z2, z3, z4, z5, z6, z7⟩ := HC.out.lows
    go_enter Try.func117, Try.ntmps117
    go_wp2_with fail
    refine Calls.mono (K1.out _ _ _ _ (HC.out.keep hbW)) ?_
    rintro e w1 ⟨rfl, da1, dc1, mn1, hC1, hF1⟩
    have hs1 := hF1.size
    simp at hs1
    have HC1 := Lib.hid hC1
    have X2 := Lib.hid (X1.out.frc hF1 (by omega) (by omega) hdg)
    have HF1 := Lib.hid ((FrC.of_below (mp := mp) (bD := bD) (da := da) hbW).trans hF1)
    have hdg1 : ∀ g, da1 = some ⟨g, 0, none⟩ → w.heap.size ≠ g := fun g e => by
      rcases hF1.fresh g e with h | h
      · exact hdg g h
      · simp at h; omega
    clear hC1 hF1 m0 ml f0 fl q1 ql v0 vl X1 hbW hc0' hc1' hc2' hb hl
    have v0 := HC1.out.v.cell 0
    have vl := HC1.out.v.lt
    have x2 := X2.out.cell 2
    have xl := X2.out.lt
    simp at v0 x2
    go_wp2_with fail
    refine Calls.mono (K2.out _ _ _ _ HC1.out) ?_
    rintro e w2 ⟨rfl, da2, dc2, mn2, hC2, hF2⟩
    have hs2 := hF2.size
    have HC2 := Lib.hid hC2
    have X3 := Lib.hid (X2.out.frc hF2 (by omega) (by omega) hdg1)
    have HF2 := Lib.hid (HF1.out.trans hF2)
    clear hC2 hF2 v0 vl x2 xl X2 HF1 HC1 K1 K2
    have d1 := HC2.out.d.cell 1
    have dl := HC2.out.d.lt
    have df := HC2.out.d.free
    have x0 := X3.out.cell 0
    have xl := X3.out.lt
    simp at d1 x0
    have hx64 : I3.ok ⟨x.a, r1, r2⟩ := ⟨hwf.1, (by show I64 r1; unfold I64; omega), (by show I64 r2; unfold I64; omega)⟩
    go_wp2_with (at_builtin; refine appAtL (k := 3) (m := 1) (enc := I3.enc) (ok := I3.ok) rfl _ _ rfl Try.underlying24 Try.infoNode rfl (by decide) (by decide) I3.one9 lo _ _ _ _ [⟨x.a, r1, r2⟩] HC2.out.own rfl _ rfl rfl rfl rfl (fun y hy => by simp at hy; rw [hy]; exact hx64) (by decide) (by omega) (by decide) (by omega) ?_; intro g' c' w3 h1 h2 h3 h4 h5; have O4 := Lib.hid h1; have G4 := Lib.hid h2; have H4 := Lib.hid h3; clear h1 h2 h3; refine Hid.out ?_)
    have ht4 : Touch w2 w3 1 da2 := ⟨_, H4.out, fun b e => ⟨by decide, own_block HC2.out.own.1 b e⟩⟩
    have hty := fun {g : Nat} (e : da2 = some ⟨g, 0, none⟩) => HC2.out.own.typN e
    have f4 := Lib.hid (HC2.out.f.keepA ht4 (blk_ne HC2.out.f hty (by decide)))
    have fo4 := Lib.hid (HC2.out.fo.keepA ht4 (blk_ne HC2.out.fo hty (by decide)))
    have m4 := Lib.hid (HC2.out.m.keepA ht4 (blk_ne HC2.out.m hty (by decide)))
    have v4 := Lib.hid (HC2.out.v.keepA ht4 (blk_ne HC2.out.v hty (by decide)))
    have d4 := Lib.hid (HC2.out.d.keepA ht4 (blk_ne HC2.out.d hty (by decide)))
    have n4 := Lib.hid (HC2.out.nd.only (lo := lo) (hi := w3.heap.size) ⟨G4.out.os, G4.out.tape, G4.out.output, G4.out.size, fun k hk hr => G4.out.block k (by have := G4.out.size; omega)⟩ (fun g off e => .inl (HC2.out.lown g off e).1))
    have p4 := Lib.hid (HC2.out.pl.keepG H4.out (fun e => by
      have e1 := own_block HC2.out.own.1 _ e
      obtain ⟨cur, hc⟩ := HC2.out.own.typN e1
      obtain ⟨es, cl, hm⟩ := HC2.out.pl.isMap
      rw [hm] at hc
      cases hc))
    have NE : ∀ {b : Nat} {cs : Array Value} {T : TypeId}, Blk w3 b cs T → T ≠ 26 → b ≠ bD := fun {b cs T} h hT e => by
      have h2 := d4.out
      rw [Blk] at h h2
      rw [e, h2] at h
      simp only [Option.some.injEq, Obj.cells.injEq] at h
      exact hT h.2.1.symm
    have nf := NE f4.out (by decide)
    have nfo := NE fo4.out (by decide)
    have nm := NE m4.out (by decide)
    have nv := NE v4.out (by decide)
    have ng : g' ≠ bD := fun e => blk_ne d4.out O4.out.typN (by decide) (by rw [e])
    have np : mp ≠ bD := fun e => by
      obtain ⟨es, cl, hm⟩ := p4.out.isMap
      have h := d4.out
      rw [Blk, ← e, hm] at h
      cases h
    have HFR4 := Lib.hid (show FrC mp bD da2 w2 (some ⟨g', 0, none⟩) w3 from ⟨H4.out.os, H4.out.tape, H4.out.output, H4.out.size, fun k h1 h2 h3 h9 => H4.out.block k h1 (fun e => h9 k (own_block HC2.out.own.1 _ e.symm) rfl), fun g e => by
      cases e
      rcases h4 with h | h
      · exact .inl h
      · exact .inr (by omega)⟩)
    clear NE d1 dl df x0 xl X3 ht4 hty
    have d1 := d4.out.cell 1
    have dl := d4.out.lt
    have df := d4.out.free
    simp at d1
    refine Lib.hid ?_
    go_wp2_with fail
    obtain ⟨w4, hw4⟩ : ∃ w4, w4 = w3.setCell ⟨bD, 1, none⟩ (.slice (some ⟨g', 0, none⟩) (D2.length + 1) c') := ⟨_, rfl⟩
    have hsg := set_grown (w := w3) bD 1 (.slice (some ⟨g', 0, none⟩) (D2.length + 1) c')
    rw [← hw4] at hsg
    have d5 := Lib.hid (show Blk w4 bD #[.int .i64 inp, .slice (some ⟨g', 0, none⟩) (D2.length + 1) c', .int .i64 0] 26 by rw [hw4]; exact d4.out.set 1 _)
    have f5 := Lib.hid (f4.out.keepG hsg (by simpa using fun e => nf e.symm))
    have fo5 := Lib.hid (fo4.out.keepG hsg (by simpa using fun e => nfo e.symm))
    have m5 := Lib.hid (m4.out.keepG hsg (by simpa using fun e => nm e.symm))
    have v5 := Lib.hid (v4.out.keepG hsg (by simpa using fun e => nv e.symm))
    have o5 := Lib.hid (O4.out.keepG hsg (fun g e e' => by simp at e e'; omega))
    have p5 := Lib.hid (p4.out.keepG hsg (by simpa using fun e => np e.symm))
    have n5 := Lib.hid (n4.out.only (lo := bD) (hi := bD + 1) ⟨hsg.os, hsg.tape, hsg.output, hsg.size, fun k hk hr => hsg.block k hk (fun e => by simp at e; omega)⟩ (fun g off e => by have := (HC2.out.lown g off e).2.1; omega))
    have HFR5 := Lib.hid (show FrC mp bD (some ⟨g', 0, none⟩) w3 (some ⟨g', 0, none⟩) w4 from ⟨hsg.os, hsg.tape, hsg.output, hsg.size, fun k h1 h2 h3 h9 => hsg.block k h1 (fun e => h3 (by simpa using e)), fun g e => .inl e⟩)
    have hs4 := hsg.size
    have hlow := HC2.out.lows
    have hlwn := Lib.hid HC2.out.lown
    have hfew := HC2.out.few
    rw [← hw4]
    clear hw4 hsg d1 dl df d4 f4 fo4 m4 v4 O4 p4 n4
    have m0 := m5.out.cell 0
    have ml := m5.out.lt
    have d1 := d5.out.cell 1
    have dl := d5.out.lt
    simp at m0 d1
    go_wp2_with fail
    refine wp_region_noPanic ?_
    refine wp_region_M (L := 6) (S := fun wx => Below w4.heap.size w4 wx) (by kernel_rfl) ?_ (fun hHeld => ?_)
    · exact (Below.refl _ _).drew
    refine wpAnyM_take (i := 0) (v := ?_) (by simp only [List.getElem?_toArray, List.getElem?_cons_succ, List.getElem?_cons_zero] <;> rfl) (by kernel_rfl) (by kernel_rfl) (by kernel_rfl) (by kernel_rfl) (by kernel_rfl) (fun _ _ _ h => h) (Or.inl ⟨by rfl, ?_⟩) (by assumption) ?_
    rotate_left
    · (intro wv hSw; (try dsimp only at hSw); obtain ⟨hcq, _⟩ := bcell hSw; have hsq := Below.size hSw; have q0 := (hcq _ _ ml).trans m0; have ql := Nat.lt_of_lt_of_le ml hsq; go_simp; try with_reducible rfl)
    try simp only [Act.put, List.setIfInBounds_toArray, List.set_cons_zero, List.set_cons_succ]
    refine wpAnyM_take (i := 1) (v := ?_) (by simp only [List.getElem?_toArray, List.getElem?_cons_succ, List.getElem?_cons_zero] <;> rfl) (by kernel_rfl) (by kernel_rfl) (by kernel_rfl) (by kernel_rfl) (by kernel_rfl) (fun _ _ _ h => h) (Or.inl ⟨by rfl, ?_⟩) (by assumption) ?_
    rotate_left
    · (intro wv hSw; (try dsimp only at hSw); obtain ⟨hcq, _⟩ := bcell hSw; have hsq := Below.size hSw; go_simp; try with_reducible rfl)
    try simp only [Act.put, List.setIfInBounds_toArray, List.set_cons_zero, List.set_cons_succ]
    refine wpAnyM_take (i := 2) (v := ?_) (by simp only [List.getElem?_toArray, List.getElem?_cons_succ, List.getElem?_cons_zero] <;> rfl) (by kernel_rfl) (by kernel_rfl) (by kernel_rfl) (by kernel_rfl) (by kernel_rfl) (fun _ _ _ h => h) (Or.inl ⟨by rfl, ?_⟩) (by assumption) ?_
    rotate_left
    · (intro wv hSw; (try dsimp only at hSw); obtain ⟨hcq, _⟩ := bcell hSw; have hsq := Below.size hSw; go_simp; try with_reducible rfl)
    try simp only [Act.put, List.setIfInBounds_toArray, List.set_cons_zero, List.set_cons_succ]
    refine wpAnyM_take (i := 3) (v := ?_) (by simp only [List.getElem?_toArray, List.getElem?_cons_succ, List.getElem?_cons_zero] <;> rfl) (by kernel_rfl) (by kernel_rfl) (by kernel_rfl) (by kernel_rfl) (by kernel_rfl) (fun _ _ _ h => h) (Or.inl ⟨by rfl, ?_⟩) (by assumption) ?_
    rotate_left
    · (intro wv hSw; (try dsimp only at hSw); obtain ⟨hcq, _⟩ := bcell hSw; have hsq := Below.size hSw; have q0 := (hcq _ _ dl).trans d1; have ql := Nat.lt_of_lt_of_le dl hsq; go_simp; try with_reducible rfl)
    try simp only [Act.put, List.setIfInBounds_toArray, List.set_cons_zero, List.set_cons_succ]
    refine wpAnyM_ready (rs := [4]) (by kernel_rfl) (by simp) ?_
    refine AllReadyM.cons rfl (fun K hK => ?_) AllReadyM.nil
    go_simp
    refine Calls.mono impl_length_Node ?_
    rintro e _ ⟨rfl, rfl⟩
    go_wp2_with fail
    refine hK.out _ _ hHeld (fun hHeld => ?_)
    clear hK K
    try simp only [Act.put, List.setIfInBounds_toArray, List.set_cons_zero, List.set_cons_succ]
    refine wpAnyM_take (i := 5) (v := ?_) (by simp only [List.getElem?_toArray, List.getElem?_cons_succ, List.getElem?_cons_zero] <;> rfl) (by kernel_rfl) (by kernel_rfl) (by kernel_rfl) (by kernel_rfl) (by kernel_rfl) (fun _ _ _ h => h) (Or.inl ⟨by rfl, ?_⟩) (by assumption) ?_
    rotate_left
    · (intro wv hSw; (try dsimp only at hSw); obtain ⟨hcq, _⟩ := bcell hSw; have hsq := Below.size hSw; go_simp; try with_reducible rfl)
    try simp only [Act.put, List.setIfInBounds_toArray, List.set_cons_zero, List.set_cons_succ]
    refine wpAnyM_ready (rs := [6]) (by kernel_rfl) (by simp) ?_
    refine AllReadyM.last rfl (fun K hK => ?_)
    refine MapA.wp (p5.out.keep hHeld) keyI Try.underlying141 (by unfold maxLen; omega) (x := (r : Int)) (by unfold I64; omega) (v := (D2.length : Int) + 2) (by unfold I64; omega) _ _ _ rfl rfl rfl (by first | rfl | (show Value.int .i64 _ = Value.int .i64 _; congr 1; omega) | (show Value.int .i64 _ = Value.int .i64 _; congr 1; rw [IntWalk.i64_in _ (by push_cast; omega)]; push_cast; omega)) ?_
    intro w5 hm5 hg5
    have hM : ∀ {b : Nat} {cs : Array Value} {T : TypeId}, Blk w4 b cs T → (some mp : Option Nat) ≠ some b := fun {b cs T} h e => by
      simp only [Option.some.injEq] at e
      obtain ⟨es, cl, hm⟩ := p5.out.isMap
      rw [Blk, ← e, hm] at h
      cases h
    have d6 := Lib.hid ((d5.out.keep hHeld).keepG hg5 (hM d5.out))
    have f6 := Lib.hid ((f5.out.keep hHeld).keepG hg5 (hM f5.out))
    have fo6 := Lib.hid ((fo5.out.keep hHeld).keepG hg5 (hM fo5.out))
    have m6 := Lib.hid ((m5.out.keep hHeld).keepG hg5 (hM m5.out))
    have v6 := Lib.hid ((v5.out.keep hHeld).keepG hg5 (hM v5.out))
    have o6 := Lib.hid ((o5.out.keep hHeld).keepG hg5 (fun g e e' => by
      obtain ⟨cur, hc⟩ := o5.out.typN e
      obtain ⟨es, cl, hm⟩ := p5.out.isMap
      simp only [Option.some.injEq] at e'
      rw [← e', hm] at hc
      cases hc))
    have n6 := Lib.hid ((n5.out.keep hHeld).only (lo := mp) (hi := mp + 1) ⟨hg5.os, hg5.tape, hg5.output, hg5.size, fun k hk hr => hg5.block k hk (fun e => by simp at e; omega)⟩ (fun g off e => by have := (hlwn.out g off e).2.2; omega))
    have HFR6 := Lib.hid (show FrC mp bD (some ⟨g', 0, none⟩) w4 (some ⟨g', 0, none⟩) w5 from (FrC.of_below hHeld).trans ⟨hg5.os, hg5.tape, hg5.output, hg5.size, fun k h1 h2 h3 h9 => hg5.block k h1 (fun e => h2 (by simpa using e)), fun g e => .inl e⟩)
    have M6 := Lib.hid hm5
    have hl6 := (show (Instr.lookup 141 (.map (some mp)) (.int .i64 (r : Int)) false).run Try.prog w5 = .ok (.int .i64 ((D2.length : Int) + 2)) w5 from by
      have h := hm5.look keyI Try.underlying141 (x := (r : Int)) (by unfold I64; omega) false
      simp only [if_true] at h
      exact h)
    have hs5 := hg5.size
    have hsz := Below.size hHeld
    refine hK.out _ _ ?_
    clear hK K
    try simp only [Act.put, List.setIfInBounds_toArray, List.set_cons_zero, List.set_cons_succ]
    refine wpAnyM_done (by kernel_rfl) ?_ _
    refine NoPanic.normal ?_
    clear hM hm5 hg5 m0 ml d1 dl hHeld
    have m0 := m6.out.cell 0
    have ml := m6.out.lt
    simp at m0
    go_wp2
    go_ret
    have hlen : (D2 ++ [(⟨x.a, r1, r2⟩ : I3)]).length = D2.length + 1 := by simp
    refine ⟨rfl, some ⟨g', 0, none⟩, c', mn2 + 1, ?_, ((HF2.out.trans HFR4.out).trans HFR5.out).trans HFR6.out⟩
    refine ⟨f6.out, fo6.out, n6.out, m6.out, M6.out.congr (fun q _ => plF_put h2 (by omega) q), v6.out, by rw [hlen]; exact d6.out, by rw [hlen]; exact o6.out, by rw [hlen]; omega, ⟨hlow.1, hlow.2.1, hlow.2.2.1, hlow.2.2.2.1, hlow.2.2.2.2.1, hlow.2.2.2.2.2.1, ?_⟩, hlwn.out⟩
    have h9 := hlow.2.2.2.2.2.2
    have h8 : w4.heap.size ≤ w5.heap.size := Nat.le_trans hsz hs5
    omega
end Go.Proofs.Ytkaikbaagajckaa
