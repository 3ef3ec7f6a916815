/- Decision diagrams: the reference's walk, over nodes that need not be different: plain laws.; The canonical diagram of a reference among nodes: the reference, walked.; The canonical diagram of a forest: the program, walked. -/
import Derived.Test.YtkaikbaagajckaaGreatN15
import Derived.Test.YtkaikbaagajckaaGreatN18
import Derived.Test.YtkaikbaagajckaaGreatPu
import Derived.Test.YtkaikbaagajckaaGreatN13
import Derived.Test.YtkaikbaagajckaaGreatN16
namespace Go.Proofs.YtkaikbaagajckaaGreat
open Go.RowKit
set_option linter.unusedVariables false
set_option linter.unusedSimpArgs false
/-- how many references below m have a name -/
def nmC (P : Nms) : Nat → Nat
  | 0 => 0
  | m + 1 => nmC P m + (if P m > 0 then 1 else 0)
theorem nmC_le (P : Nms) : ∀ m, nmC P m ≤ m
  | 0 => Nat.le_refl _
  | m + 1 => by
    have := nmC_le P m
    rw [nmC]
    split <;> omega
theorem nmC_far {P : Nms} {r : Nat} {v : Int} : ∀ m, m ≤ r → nmC (fun q => if q = r then v else P q) m = nmC P m
  | 0, _ => rfl
  | m + 1, h => by
    rw [nmC, nmC, nmC_far m (by omega), if_neg (show ¬ m = r by omega)]
theorem nmC_new {P : Nms} {r : Nat} {v : Int} (h : ¬ P r > 0) (hv : v > 0) : ∀ m, r < m → nmC (fun q => if q = r then v else P q) m = nmC P m + 1
  | 0, hr => by omega
  | m + 1, hr => by
    rw [nmC, nmC]
    by_cases e : m = r
    · subst e
      rw [nmC_far m (Nat.le_refl _), if_pos rfl, if_pos hv, if_neg h]
    · rw [nmC_new h hv m (by omega), if_neg e]; omega
theorem nmC_ge {P : Nms} {r : Nat} {v : Int} (h : ¬ P r > 0) : ∀ m, nmC P m ≤ nmC (fun q => if q = r then v else P q) m
  | 0 => Nat.le_refl _
  | m + 1 => by
    have := nmC_ge (v := v) h m
    rw [nmC, nmC]
    by_cases e : m = r
    · subst e
      rw [if_neg h]; omega
    · rw [if_neg e]; omega
structure WmI (N D : List I3) (P : Nms) : Prop where
  frst : Frst D
  nm : ∀ q, RefB (P q) D.length
  few : D.length ≤ nmC P (N.length + 2)
theorem WmI.start (N : List I3) : WmI N [] (fun _ => 0) := ⟨Frst.nil, fun q => ⟨by omega, by simp⟩, by simp⟩
theorem WmI.len {N D : List I3} {P : Nms} (h : WmI N D P) : D.length ≤ N.length + 2 := Nat.le_trans h.few (nmC_le _ _)
structure WmR (N : List I3) (D : List I3) (P : Nms) (r : Nat) (A : List I3 × Nms × Int) : Prop where
  inv : WmI N A.1 A.2.1
  ref : RefB A.2.2 A.1.length
  far : ∀ q, r < q → A.2.1 q = P q
  len : D.length ≤ A.1.length
theorem wm_inv {N : List I3} (hF : Frst N) : ∀ (f r : Nat) (D : List I3) (P : Nms), r ≤ f → r < N.length + 2 → WmI N D P → WmR N D P r (wlkN mkN N f (D, P) r) := by
  intro f
  induction f with
  | zero =>
    intro r D P hr hrn h
    rw [wlk_low _ _ _ _ (show r < 2 by omega)]
    exact ⟨h, ⟨by simp only; omega, by simp only; omega⟩, fun q _ => rfl, Nat.le_refl _⟩
  | succ f ih =>
    intro r D P hr hrn h
    by_cases h2 : r < 2
    · rw [wlk_low _ _ _ _ h2]
      exact ⟨h, ⟨by simp only; omega, by simp only; omega⟩, fun q _ => rfl, Nat.le_refl _⟩
    by_cases hp : P r > 0
    · rw [wlk_old _ _ _ _ h2 hp]
      exact ⟨h, h.nm r, fun q _ => rfl, Nat.le_refl _⟩
    obtain ⟨x, hx⟩ : ∃ x, N[r - 2]? = some x := ⟨_, List.getElem?_eq_getElem (by omega)⟩
    have h3 := hF.low _ _ hx
    have h4 := hF.high _ _ hx
    unfold RefB at h3 h4
    have R1 := ih x.b.toNat D P (by omega) (by omega) h
    rw [wlk_new _ _ _ _ h2 hp hx]
    generalize wlkN mkN N f (D, P) x.b.toNat = A at *
    obtain ⟨D1, P1, r1⟩ := A
    have R2 := ih x.c.toNat D1 P1 (by omega) (by omega) R1.inv
    simp only at R1 R2 ⊢
    generalize wlkN mkN N f (D1, P1) x.c.toNat = B at *
    obtain ⟨D2, P2, r2⟩ := B
    have q1 : RefB r1 D2.length := R1.ref.mono R2.len
    have q2 : RefB r2 D2.length := R2.ref
    have hpr : ¬ P2 r > 0 := by
      have e2 : P2 r = P1 r := R2.far r (by omega)
      have e1 : P1 r = P r := R1.far r (by omega)
      rw [e2, e1]; exact hp
    have hA := R2.inv.frst.add (i := x.a) q1 q2
    have hl1 : D.length ≤ D1.length := R1.len
    have hl2 : D1.length ≤ D2.length := R2.len
    have hf1 := R1.far
    have hf2 := R2.far
    have hnm := R2.inv.nm
    have hfw := R2.inv.few
    simp only at hA hf1 hf2 hnm hfw ⊢
    obtain ⟨t, ht, ht1⟩ := mkN_pre D2 x.a r1 r2
    have hl3 : D2.length ≤ (mkN D2 x.a r1 r2).1.length := by rw [ht, List.length_append]; omega
    refine ⟨⟨hA.1, fun q => ?_, ?_⟩, hA.2, fun q hq => ?_, by simp only; omega⟩
    · simp only
      split
      · exact hA.2
      · exact (hnm q).mono hl3
    · simp only
      by_cases he : r1 = r2
      · rw [mkN_eq he]
        exact Nat.le_trans hfw (nmC_ge hpr _)
      · cases hpos : posN ⟨x.a, r1, r2⟩ D2 with
        | some k =>
          rw [mkN_old he hpos]
          exact Nat.le_trans hfw (nmC_ge hpr _)
        | none =>
          rw [mkN_new he (posN_none.1 hpos)]
          have e9 := nmC_new (P := P2) (r := r) (v := (D2.length : Int) + 2) hpr (by omega) (N.length + 2) (by omega)
          simp only [List.length_append, List.length_cons, List.length_nil]
          rw [e9]; omega
    · simp only
      rw [if_neg (by omega), hf2 q (by omega), hf1 q (by omega)]
theorem canm_ref {N : List I3} (hF : Frst N) {root : Int} (hr : RefB root N.length) : Frst (canN mkN N root).1 ∧ RefB (canN mkN N root).2 (canN mkN N root).1.length ∧ (canN mkN N root).1.length ≤ N.length + 2 := by
  have h := wm_inv hF root.toNat root.toNat [] (fun _ => 0) (Nat.le_refl _) (by unfold RefB at hr; omega) (WmI.start N)
  exact ⟨h.inv.frst, h.ref, h.inv.len⟩
/-- the names as the reference keeps them -/
def nmsL (P : Nms) (m : Nat) : List Int := (List.range m).map P
theorem nmsL_len (P : Nms) (m : Nat) : (nmsL P m).length = m := by simp [nmsL]
theorem nmsL_at (P : Nms) {m r : Nat} (h : r < m) : (nmsL P m)[r]? = some (P r) := by simp [nmsL, h]
theorem nmsL_set (P : Nms) {m r : Nat} (h : r < m) (v : Int) : (nmsL P m).set r v = nmsL (fun q => if q = r then v else P q) m := by
  apply List.ext_getElem?
  intro i
  rw [List.getElem?_set]
  by_cases hi : i < m
  · rw [nmsL_at _ hi, nmsL_len, nmsL_at _ hi]
    by_cases e : r = i
    · rw [if_pos e, if_pos h, if_pos e.symm]
    · rw [if_neg e, if_neg (fun h => e h.symm)]
  · rw [List.getElem?_eq_none (by rw [nmsL_len]; omega), List.getElem?_eq_none (l := nmsL (fun q => if q = r then v else P q) m) (by rw [nmsL_len]; omega)]
    by_cases e : r = i
    · omega
    · rw [if_neg e]
theorem nmsL_zero (m : Nat) : nmsL (fun _ => 0) m = List.replicate m 0 := by
  apply List.ext_getElem?
  intro i
  by_cases hi : i < m
  · rw [nmsL_at _ hi, List.getElem?_replicate, if_pos hi]
  · rw [List.getElem?_eq_none (by rw [nmsL_len]; omega), List.getElem?_replicate, if_neg hi]
theorem OwnI.typN {E : TypeId} {w : World} {base : Nat} {a : Option Addr} {n c : Nat} {l : List Int} (h : OwnI E w base a n c l) {g : Nat} (e : a = some ⟨g, 0, none⟩) : ∃ cur, w.heap[g]? = some (.cells cur E (0, 0)) := by
  subst e
  rcases h.1.2 with ⟨he, _⟩ | ⟨g', cap, cur, he, hb, hg, _⟩
  · simp only [Value.slice.injEq] at he; cases he.1
  · simp only [Value.slice.injEq, Option.some.injEq, Addr.mk.injEq] at he
    obtain ⟨⟨rfl, _⟩, _⟩ := he
    exact ⟨cur, hg⟩
theorem OwnI.atB {E : TypeId} {w w' : World} {base g : Nat} {n c : Nat} {l : List Int} (h : OwnI E w base (some ⟨g, 0, none⟩) n c l) (hb : w'.heap[g]? = w.heap[g]?) : OwnI E w' base (some ⟨g, 0, none⟩) n c l :=
  OwnI.here (lo := g) (hi := g + 1) (fun g' e => by simp at e; omega) w w' (fun k h1 h2 => by rw [show k = g by omega]; exact hb) h
theorem Flats.keepB {α : Type} {k : Nat} {enc : α → List Value} {ok : α → Prop} {w w' : World} {a : Option Addr} {n c B : Nat} {l : List α} (h : Flats k enc ok w a n c l) (hb : Below B w w') (hB : n = 0 ∨ ∀ g off, a = some ⟨g, off, none⟩ → g < B) : Flats k enc ok w' a n c l := by
  rcases hB with h0 | hB
  · exact ⟨h.len, h.cap, .inl h0, h.wf, h.nil⟩
  · exact h.only (lo := B) (hi := w'.heap.size) ⟨hb.os, hb.tape, hb.output, hb.size, fun q h1 h2 => hb.block q (by have := hb.size; omega)⟩ (fun g off e => .inl (hB g off e))
theorem Flats.lies {α : Type} {k : Nat} {enc : α → List Value} {ok : α → Prop} {w : World} {a : Option Addr} {n c : Nat} {l : List α} (h : Flats k enc ok w a n c l) : n = 0 ∨ ∀ g off, a = some ⟨g, off, none⟩ → g < w.heap.size := by
  rcases h.pos with h0 | ⟨b, o, ha, hb, _⟩
  · exact .inl h0
  · refine .inr fun g off e => ?_
    rw [ha] at e
    simp only [Option.some.injEq, Addr.mk.injEq] at e
    omega
/-- what the reference's walk has at hand -/
structure WlkA (w : World) (lo p gn mc : Nat) (na : Option Addr) (n nc : Nat) (N : List I3) (da : Option Addr) (dc : Nat) (D : List I3) (P : Nms) : Prop where
  nd : F3 w na n nc N
  b : BldA w lo p da dc D
  nm : OwnI 2 w lo (some ⟨gn, 0, none⟩) (N.length + 2) mc (nmsL P (N.length + 2))
  lown : n = 0 ∨ ∀ g off, na = some ⟨g, off, none⟩ → g < lo
  low : lo ≤ w.heap.size
/-- what it may write: the build, its nodes, the names -/
structure FrW (lo p gn : Nat) (w w' : World) : Prop where
  os : w'.os = w.os
  tape : w'.tape = w.tape
  output : w'.output = w.output
  size : w.heap.size ≤ w'.heap.size
  block : ∀ k, k < w.heap.size → k < lo → w'.heap[k]? = w.heap[k]?
theorem FrW.refl (lo p gn : Nat) (w : World) : FrW lo p gn w w := ⟨rfl, rfl, rfl, Nat.le_refl _, fun _ _ _ => rfl⟩
theorem FrW.trans {lo p gn : Nat} {w w' w'' : World} (h : FrW lo p gn w w') (h' : FrW lo p gn w' w'') : FrW lo p gn w w'' :=
  ⟨h'.os.trans h.os, h'.tape.trans h.tape, h'.output.trans h.output, Nat.le_trans h.size h'.size, fun k h0 h1 => (h'.block k (Nat.lt_of_lt_of_le h0 h.size) h1).trans (h.block k h0 h1)⟩
theorem FrW.below {lo p gn : Nat} {w w' : World} (h : FrW lo p gn w w') (hl : lo ≤ w.heap.size) : Below lo w w' := ⟨h.os, h.tape, h.output, h.size, fun k hk => h.block k (by omega) hk⟩
set_option maxRecDepth 100000 in
set_option maxHeartbeats 4000000 in
theorem spec_l22Walk {lo p gn mc n nc : Nat} {na : Option Addr} {N : List I3} (hF : Frst N) (hN : N.length ≤ 1048575) : ∀ (f r : Nat) (D : List I3) (P : Nms) (da : Option Addr) (dc : Nat) (w : World), WlkA w lo p gn mc na n nc N da dc D P → WmI N D P → r ≤ f → r < N.length + 2 →
    Calls Tryz.prog 151 #[.slice na n nc, .pointer (some ⟨p, 0, none⟩), .slice (some ⟨gn, 0, none⟩) (N.length + 2) mc, .int .i64 (r : Int)] w fun e w' => e = .returned (.int .i64 (wlkN mkN N f (D, P) r).2.2) ∧ (∃ da' dc', WlkA w' lo p gn mc na n nc N da' dc' (wlkN mkN N f (D, P) r).1 (wlkN mkN N f (D, P) r).2.1) ∧ FrW lo p gn w w' := by
  have low : ∀ (f r : Nat) (D : List I3) (P : Nms) (da : Option Addr) (dc : Nat) (w : World), r < 2 → WlkA w lo p gn mc na n nc N da dc D P →
      Calls Tryz.prog 151 #[.slice na n nc, .pointer (some ⟨p, 0, none⟩), .slice (some ⟨gn, 0, none⟩) (N.length + 2) mc, .int .i64 (r : Int)] w fun e w' => e = .returned (.int .i64 (wlkN mkN N f (D, P) r).2.2) ∧ (∃ da' dc', WlkA w' lo p gn mc na n nc N da' dc' (wlkN mkN N f (D, P) r).1 (wlkN mkN N f (D, P) r).2.1) ∧ FrW lo p gn w w' := by
    intro f r D P da dc w h2 hC
    rw [wlk_low _ _ _ _ h2]
    have HC := Lib.hid hC
    clear hC
    have h2' : (r : Int) < 2 := by omega
    go_enter Tryz.func151, Tryz.ntmps151
    go_wp2
    go_ret
    exact ⟨rfl, ⟨_, _, HC.out⟩, FrW.refl _ _ _ _⟩
  intro f
  induction f with
  | zero =>
    intro r D P da dc w hC hW hr hrn
    exact low 0 r D P da dc w (by omega) hC
  | succ f ih =>
    intro r D P da dc w hC hW hr hrn
    by_cases h2 : r < 2
    · exact low _ r D P da dc w h2 hC
    have h2' : ¬ (r : Int) < 2 := by omega
    obtain ⟨v0, hv0, hvi, hcell⟩ := hC.nm.cell (k := r) (by omega)
    rw [nmsL_at P (by omega)] at hv0
    cases hv0
    have hm1 : (0 : Int) ≤ (r : Int) := by omega
    have hm2 : (r : Int) < (N.length : Int) + 2 := by omega
    have gnl := hC.nm.lt.2
    by_cases hp : P r > 0
    · rw [wlk_old _ _ _ _ h2 hp]
      have HC := Lib.hid hC
      clear hC ih low
      have hp' : 0 < P r := hp
      go_enter Tryz.func151, Tryz.ntmps151
      go_wp2
      go_ret
      exact ⟨rfl, ⟨_, _, HC.out⟩, FrW.refl _ _ _ _⟩
    · have hpN : ¬ 0 < P r := hp
      obtain ⟨x, hx⟩ : ∃ x, N[r - 2]? = some x := ⟨_, List.getElem?_eq_getElem (by omega)⟩
      have h3 := hF.low _ _ hx
      have h4 := hF.high _ _ hx
      unfold RefB at h3 h4
      have hb0 : (x.b.toNat : Int) = x.b := by omega
      have hc0 : (x.c.toNat : Int) = x.c := by omega
      have R1 := wm_inv hF f x.b.toNat D P (by omega) (by omega) hW
      rw [wlk_new _ _ _ _ h2 hp hx]
      have C1 := fun (da : Option Addr) (dc : Nat) (w : World) (hC : WlkA w lo p gn mc na n nc N da dc D P) => ih x.b.toNat D P da dc w hC hW (by omega) (by omega)
      rw [hb0] at C1
      generalize wlkN mkN N f (D, P) x.b.toNat = A at *
      obtain ⟨D1, P1, r1⟩ := A
      have R2 := wm_inv hF f x.c.toNat D1 P1 (by omega) (by omega) R1.inv
      have C2 := fun (da : Option Addr) (dc : Nat) (w : World) (hC : WlkA w lo p gn mc na n nc N da dc D1 P1) => ih x.c.toNat D1 P1 da dc w hC R1.inv (by omega) (by omega)
      rw [hc0] at C2
      simp only at C1 ⊢
      generalize wlkN mkN N f (D1, P1) x.c.toNat = B at *
      obtain ⟨D2, P2, r2⟩ := B
      have hd2 := R2.inv.len
      have hq1 := R1.ref
      have hq2 := R2.ref
      have hln := R2.len
      have hMK := (R2.inv.frst.add (i := x.a) (hq1.mono hln) hq2).2
      obtain ⟨t, ht, ht1⟩ := mkN_pre D2 x.a r1 r2
      simp only at C2 hd2 hq1 hq2 hln hMK ⊢
      rw [ht, List.length_append] at hMK
      unfold RefB at hq1 hq2 hMK
      obtain ⟨k, hk⟩ : ∃ k, r - 2 = k := ⟨_, rfl⟩
      rw [hk] at hx h3 h4
      have i1 : IntKind.i64.wrap ((r : Int) - 2) = (k : Int) := by rw [IntWalk.i64_in _ (by omega)]; omega
      have hkn : k < n := by rw [← hC.nd.len]; exact (List.getElem?_eq_some_iff.1 hx).1
      obtain ⟨b, off, y, rfl, hb, hy, hwf, hc0', hc1', hc2'⟩ := F3.get hC.nd hkn
      rw [hx] at hy
      cases hy
      have GET := Lib.hid (fun (w' : World) (D' : List I3) (P' : Nms) (da' : Option Addr) (dc' : Nat) (h : WlkA w' lo p gn mc (some ⟨b, off, none⟩) n nc N da' dc' D' P') => (show b < w'.heap.size ∧ w'.cell? ⟨b, off + k * 3, none⟩ = some (.int .i64 x.a) ∧ w'.cell? ⟨b, off + k * 3 + 1, none⟩ = some (.int .i64 x.b) ∧ w'.cell? ⟨b, off + k * 3 + 2, none⟩ = some (.int .i64 x.c) from by
        obtain ⟨b', off', y', e, hb', hy', _, q0, q1, q2⟩ := F3.get h.nd hkn
        rw [hx] at hy'
        cases hy'
        cases e
        exact ⟨hb', q0, q1, q2⟩))
      have HC := Lib.hid hC
      have K1 := Lib.hid C1
      have K2 := Lib.hid C2
      have hk0 : (0 : Int) ≤ (k : Int) := by omega
      have hkn' : (k : Int) < (n : Int) := by omega
      have HT := Lib.hid ht
      clear hC hx C1 C2 R1 R2 ih hW hk low ht
      go_enter Tryz.func151, Tryz.ntmps151
      go_wp2_with fail
      refine Calls.mono (K1.out _ _ _ HC.out) ?_
      rintro e w1 ⟨rfl, ⟨da1, dc1, hC1⟩, hF1⟩
      have HC1 := Lib.hid hC1
      have HF1 := Lib.hid hF1
      obtain ⟨gb, g0, g1, g2⟩ := GET.out _ _ _ _ _ hC1
      clear hC1 hF1 hb hc0' hc1' hc2' hcell gnl
      go_wp2_with fail
      refine Calls.mono (K2.out _ _ _ HC1.out) ?_
      rintro e w2 ⟨rfl, ⟨da2, dc2, hC2⟩, hF2⟩
      have HC2 := Lib.hid hC2
      have HF2 := Lib.hid (HF1.out.trans hF2)
      clear gb g0 g1 g2
      obtain ⟨gb, g0, g1, g2⟩ := GET.out _ _ _ _ _ hC2
      clear hC2 hF2 HF1 HC1
      go_wp2_with fail
      refine Calls.mono (spec_l22Node HC2.out.b (by omega) hwf.1 (by unfold I64; omega) (by unfold I64; omega) HC2.out.low) ?_
      rintro e w3 ⟨rfl, ⟨da3, dc3, hB3⟩, hF3⟩
      have hb3 : Below lo w2 w3 := hF3.below (Below.refl _ _) HC2.out.low (Nat.le_refl _) HC2.out.b.lop HC2.out.b.lop
      have hgp : gn ≠ p := fun e => by
        obtain ⟨cur, hc⟩ := HC2.out.nm.typN rfl
        have h := HC2.out.b.blk
        rw [Blk, ← e, hc] at h
        simp at h
      have N3 := Lib.hid (HC2.out.nm.atB (hF3.block gn HC2.out.nm.lt.2 hgp hgp (.inr (fun cs l he => by
        obtain ⟨cur, hc⟩ := HC2.out.nm.typN rfl
        rw [hc] at he
        simp at he))))
      have B3 := Lib.hid hB3
      have D3 := Lib.hid (HC2.out.nd.keepB hb3 HC2.out.lown)
      have HF3 := Lib.hid (HF2.out.trans (show FrW lo p gn w2 w3 from ⟨hF3.os, hF3.tape, hF3.output, hF3.size, fun q h0 h1 => hb3.block q h1⟩))
      have LOWN := Lib.hid HC2.out.lown
      have hlo3 : lo ≤ w3.heap.size := Nat.le_trans HC2.out.low hF3.size
      clear hB3 hF3 hb3 HF2 HC2 gb g0 g1 g2 HC
      obtain ⟨v0, hv0, hvi, hcell⟩ := N3.out.cell (k := r) (by omega)
      have gnl := N3.out.lt.2
      have gnf := N3.out.free
      clear hv0
      have hmv : I64 (mkN D2 x.a r1 r2).2 := by unfold I64; omega
      go_wp2_with fail
      go_ret
      have hsg := set_grown (w := w3) gn r (.int .i64 (mkN D2 x.a r1 r2).2)
      have hbl : Below lo w3 (w3.setCell ⟨gn, r, none⟩ (.int .i64 (mkN D2 x.a r1 r2).2)) := ⟨hsg.os, hsg.tape, hsg.output, hsg.size, fun q hq => hsg.block q (by omega) (fun e => by have := N3.out.lt.1; simp at e; omega)⟩
      refine ⟨rfl, ⟨da3, dc3, D3.out.keepB hbl LOWN.out, ⟨B3.out.blk.keepG hsg (by simpa using hgp), B3.out.own.keepG hsg (fun g e e' => ?_), B3.out.lop⟩, ?_, LOWN.out, Nat.le_trans hlo3 hsg.size⟩, HF3.out.trans ⟨hsg.os, hsg.tape, hsg.output, hsg.size, fun q h0 h1 => hbl.block q h1⟩⟩
      · obtain ⟨c1, e1⟩ := B3.out.own.typN e
        obtain ⟨c2, e2⟩ := N3.out.typN rfl
        simp only [Option.some.injEq] at e'
        rw [← e', e2] at e1
        simp at e1
      · have h := N3.out.set r hmv
        rw [nmsL_set P2 (by omega)] at h
        exact h
theorem OwnI.zeros9 {E : TypeId} {base m : Nat} {cs : Array Value} (w : World) (h : base ≤ w.heap.size) (hm : m ≤ 2000000) (hc : cs = (List.replicate m (Value.int .i64 0)).toArray) : OwnI E (w.alloc (.cells cs E)) base (some ⟨w.heap.size, 0, none⟩) m m (List.replicate m 0) := by
  subst hc
  refine ⟨?_, fun x hx => ?_⟩
  · have := World.ownsRow_lit (base := base) (e := E) (size := 1) w (List.replicate m (Value.int .i64 0)).toArray m h (by unfold maxLen; omega) (by simp)
    simpa using this
  · obtain ⟨_, rfl⟩ := List.mem_replicate.1 hx; decide
theorem mkZ (n : Nat) (hn : n ≤ 1048580) (w : World) : (Instr.makeSlice 22 (.int .i64 (n : Int)) (.int .i64 (n : Int))).run Tryz.prog w = .ok (.slice (some ⟨w.heap.size, 0, none⟩) n n) (w.alloc (.cells (List.replicate n (Value.int .i64 0)).toArray 2)) := by
  obtain ⟨i0, hi, hz0, hz1, hz2⟩ := info_parts Tryz.infoi64
  have h := run_make (P := Tryz.prog) w 22 2 i0 (.int .i64 0) Tryz.underlying22 hi hz0 .i64 .i64 (n : Int) (n : Int) (by omega) (by omega) (by rw [hz2]; omega) (by omega)
  rw [hz1, Nat.mul_one] at h
  rw [h, Int.toNat_natCast, show madeCells (Value.cells (.int .i64 0)) n = (List.replicate n (Value.int .i64 0)).toArray from ?_]
  rw [show Value.cells (.int .i64 0) = #[.int .i64 0] from rfl]
  apply Array.toList_inj.1
  rw [toList_madeCells_one]
set_option maxRecDepth 100000 in
set_option maxHeartbeats 4000000 in
theorem spec_l22Canonical {n nc : Nat} {inp root : Int} {na : Option Addr} {N : List I3} {w : World} (hF : Frst N) (hN : N.length ≤ 1048575) (hI : F3 w na n nc N) (hr : RefB root N.length) :
    Calls Tryz.prog 81 #[.int .i64 inp, .slice na n nc, .int .i64 root] w fun e w' => ∃ da dc, e = .returned (.agg #[.int .i64 inp, .slice da (canN mkN N root).1.length dc, .int .i64 (canN mkN N root).2]) ∧ OwnF 3 I3.enc I3.ok 117 w' w.heap.size da (canN mkN N root).1.length dc (canN mkN N root).1 ∧ Below w.heap.size w w' := by
  obtain ⟨r, rfl⟩ : ∃ r : Nat, root = (r : Int) := ⟨root.toNat, by have := hr.1; omega⟩
  have hrn : r < N.length + 2 := by have := hr.2; omega
  obtain rfl : N.length = n := hI.len
  have HI := Lib.hid hI
  obtain ⟨m, hm⟩ : ∃ m, m = N.length + 2 := ⟨_, rfl⟩
  have hmk : ∀ wx : World, (Instr.makeSlice 22 (.int .i64 ((N.length : Int) + 2)) (.int .i64 ((N.length : Int) + 2))).run Tryz.prog wx = .ok (.slice (some ⟨wx.heap.size, 0, none⟩) m m) (wx.alloc (.cells (Array.replicate m (Value.int .i64 0)) 2)) := fun wx => by
    have h := mkZ m (by omega) wx
    rw [show (m : Int) = (N.length : Int) + 2 by omega, show (List.replicate m (Value.int .i64 0)).toArray = Array.replicate m (Value.int .i64 0) by simp] at h
    exact h
  have HM := Lib.hid hm
  clear hI hm
  go_enter Tryz.func81, Tryz.ntmps81
  go_wp2_with fail
  obtain rfl := HM.out
  have hb3 := fun (o1 o2 o3 : Obj) => below_alloc1 (below_alloc1 (below_alloc1 (Below.refl w.heap.size w) o1) o2) o3
  have X3 := Lib.hid ((Blk.made w #[.int .i64 0, .slice none 0 0, .int .i64 0] 40).keep (below_alloc1 (below_alloc1 (Below.refl _ _) (.cells #[.slice none 0 0] 110)) (.cells (Array.replicate (N.length + 2) (Value.int .i64 0)) 2)))
  refine Calls.mono (spec_l22Walk (lo := w.heap.size + 1) (n := N.length) (nc := nc) (na := na) hF hN r r [] (fun _ => 0) none 0 _ ?_ (WmI.start N) (Nat.le_refl _) hrn) ?_
  · refine ⟨HI.out.keep (hb3 _ _ _), ⟨(Blk.made1 _ _ _ _).keep (below_alloc1 (Below.refl _ _) _), ⟨World.ownsRow_nil _ _ _ 3, (fun _ h => by cases h), rfl, fun _ => rfl⟩, Nat.le_refl _⟩, ?_, HI.out.lies.imp id (fun h g off e => Nat.lt_succ_of_lt (h g off e)), ?_⟩
    · rw [nmsL_zero]
      have h := OwnI.zeros9 (E := 2) (base := w.heap.size + 1) (m := N.length + 2) ((w.alloc (.cells #[.int .i64 0, .slice none 0 0, .int .i64 0] 40)).alloc (.cells #[.slice none 0 0] 110)) (by simp) (by omega) (by simp : Array.replicate (N.length + 2) (Value.int .i64 0) = _)
      simpa using h
    · simp
  rintro e w5 ⟨rfl, ⟨da, dc, hC⟩, hFr⟩
  have hb5 : Below w.heap.size w w5 := (hb3 _ _ _).trans ((hFr.below (by simp)).mono (by omega))
  have X5 := Lib.hid (X3.out.keepB (hFr.below (by simp)) (by omega))
  have HB5 := Lib.hid hb5
  have HC := Lib.hid hC
  have hs5 := hFr.size
  simp at hs5
  have hcan : canN mkN N (r : Int) = ((wlkN mkN N r ([], fun _ => 0) r).1, (wlkN mkN N r ([], fun _ => 0) r).2.2) := by rw [canN, Int.toNat_natCast]
  have HCAN := Lib.hid hcan
  clear hcan hC hFr hb5 hb3 X3
  generalize wlkN mkN N r ([], fun _ => 0) r = A at *
  obtain ⟨D, P, rt⟩ := A
  simp only at HC HCAN
  have d0 := HC.out.b.blk.cell 0
  have dl := HC.out.b.blk.lt
  have x0 := X5.out.cell 0
  have x1 := X5.out.cell 1
  have x2 := X5.out.cell 2
  have xl := X5.out.lt
  have xf := X5.out.free
  simp only [List.getElem?_toArray, List.getElem?_cons_succ, List.getElem?_cons_zero] at d0 x0 x1 x2
  go_wp2
  have hne : ∀ g, da = some ⟨g, 0, none⟩ → (some w.heap.size : Option Nat) ≠ some g := fun g e e' => by
    have := (HC.out.b.own.blk g e).1
    simp at e'
    omega
  have O := HC.out.b.own
  have HB := HB5.out
  refine bodyPost_ret (v := .agg #[.int .i64 inp, .slice da D.length dc, .int .i64 rt]) (by simp [results, Tryz.results81, go_sem, *]) rfl ⟨da, dc, ?_, ?_, ?_⟩
  · rw [HCAN.out]
  · rw [HCAN.out]
    exact (((O.keepG (set_grown _ _ _) hne).keepG (set_grown _ _ _) hne).keepG (set_grown _ _ _) hne).le (by omega)
  · exact bel
/-- the new names as the program keeps them -/
def plF (P : Nms) (q : Int) : Option Int := if q = 0 then some 0 else if q = 1 then some 1 else if 0 ≤ q ∧ P q.toNat > 0 then some (P q.toNat) else none
theorem plF_low (P : Nms) {r : Nat} (h : r < 2) : plF P (r : Int) = some (r : Int) := by
  have : r = 0 ∨ r = 1 := by omega
  rcases this with rfl | rfl <;> simp [plF]
theorem plF_old {P : Nms} {r : Nat} (h : ¬ r < 2) (hp : P r > 0) : plF P (r : Int) = some (P r) := by
  rw [plF, if_neg (by omega), if_neg (by omega), Int.toNat_natCast, if_pos ⟨by omega, hp⟩]
theorem plF_new {P : Nms} {r : Nat} (h : ¬ r < 2) (hp : ¬ P r > 0) : plF P (r : Int) = none := by
  rw [plF, if_neg (by omega), if_neg (by omega), Int.toNat_natCast, if_neg (fun h => hp h.2)]
theorem plF_put {P : Nms} {r : Nat} {v : Int} (h : ¬ r < 2) (hv : v > 0) (q : Int) : (if q = (r : Int) then some v else plF P q) = plF (fun k => if k = r then v else P k) q := by
  by_cases hq : q = (r : Int)
  · rw [if_pos hq, hq, plF_old h (by rw [if_pos rfl]; exact hv), if_pos rfl]
  · rw [if_neg hq, plF, plF]
    split
    · rfl
    · split
      · rfl
      · by_cases h0 : 0 ≤ q
        · have : ¬ q.toNat = r := by omega
          rw [if_neg this]
        · rw [if_neg (fun h => h0 h.1), if_neg (fun h => h0 h.1)]
theorem wk_few {N D : List I3} {P : Nms} (h : WkI N D P) (hF : Frst N) : D.length ≤ N.length := by
  have hch : ∀ k, k < D.length → ∃ r : Nat, P r = (k : Int) + 2 ∧ 2 ≤ r ∧ r - 2 < N.length := fun k hk => by
    obtain ⟨r, hr⟩ := h.from' k hk
    obtain ⟨g, x, _, hx, _⟩ := h.nodes hF (show P r > 0 by omega)
    exact ⟨r, hr, g, (List.getElem?_eq_some_iff.1 hx).1⟩
  have key : ∀ m, m ≤ D.length → ∃ S : List Nat, S.length = m ∧ S.Nodup ∧ ∀ s ∈ S, s < N.length ∧ ∃ k, k < m ∧ P (s + 2) = (k : Int) + 2 := by
    intro m
    induction m with
    | zero => intro _; exact ⟨[], rfl, List.nodup_nil, fun s h => by cases h⟩
    | succ m ih =>
      intro hm
      obtain ⟨S, h1, h2, h3⟩ := ih (by omega)
      obtain ⟨r, hr, g, hl⟩ := hch m (by omega)
      refine ⟨(r - 2) :: S, by simp [h1], ?_, fun s hs => ?_⟩
      · rw [List.nodup_cons]
        refine ⟨fun hin => ?_, h2⟩
        obtain ⟨_, k, hk, hP⟩ := h3 _ hin
        rw [show r - 2 + 2 = r by omega, hr] at hP
        omega
      · rcases List.mem_cons.1 hs with rfl | hs
        · exact ⟨hl, m, by omega, by rw [show r - 2 + 2 = r by omega]; exact hr⟩
        · obtain ⟨g1, k, g2, g3⟩ := h3 s hs
          exact ⟨g1, k, by omega, g3⟩
  obtain ⟨S, s1, s2, s3⟩ := key D.length (Nat.le_refl _)
  have hsub := nodup_lt N.length S s2 fun s hs => (s3 s hs).1
  omega
theorem wk_ref {N D : List I3} {P : Nms} {r : Nat} {A : List I3 × Nms × Int} (h : WkR N D P r A) (hF : Frst N) : 0 ≤ A.2.2 ∧ A.2.2 ≤ (N.length : Int) + 2 := by
  rw [h.ref, rvN]
  split
  · omega
  · rename_i h2
    rw [Int.toNat_natCast]
    obtain ⟨_, x, k, _, hk, hd, _⟩ := h.inv.nodes hF (h.vis (by omega))
    have h1 := (List.getElem?_eq_some_iff.1 hd).1
    have h2 := wk_few h.inv hF
    omega
/-- what the walk of the program has at hand -/
structure CanW (w : World) (lo bF p bM mp bV bD : Nat) (inp : Int) (na : Option Addr) (n nc mb : Nat) (N : List I3) (da : Option Addr) (dc mn : Nat) (D : List I3) (P : Nms) : Prop where
  f : Blk w bF #[.pointer (some ⟨p, 0, none⟩)] 101
  fo : Blk w p #[.int .i64 inp, .slice na n nc, .map (some mb)] 213
  nd : F3 w na n nc N
  m : Blk w bM #[.map (some mp)] 214
  pl : MapA 2 I64 litK1 w mp mn (plF P)
  v : Blk w bV #[.func (.func 173) #[] #[.pointer (some ⟨bM, 0, none⟩), .pointer (some ⟨bF, 0, none⟩), .pointer (some ⟨bV, 0, none⟩), .pointer (some ⟨bD, 0, none⟩)]] 183
  d : Blk w bD #[.int .i64 inp, .slice da D.length dc, .int .i64 0] 40
  own : OwnF 3 I3.enc I3.ok 117 w lo da D.length dc D
  few : mn ≤ D.length + 2
  lows : bF < lo ∧ p < lo ∧ bM < lo ∧ mp < lo ∧ bV < lo ∧ bD < lo ∧ lo ≤ w.heap.size
  lown : ∀ g off, na = some ⟨g, off, none⟩ → g < lo ∧ g ≠ bD ∧ g ≠ mp
/-- what it may write: the map, the diagram's box, the new nodes' block -/
structure FrC (mp bD : Nat) (da : Option Addr) (w : World) (da' : Option Addr) (w' : World) : Prop where
  os : w'.os = w.os
  tape : w'.tape = w.tape
  output : w'.output = w.output
  size : w.heap.size ≤ w'.heap.size
  block : ∀ k, k < w.heap.size → k ≠ mp → k ≠ bD → (∀ g, da = some ⟨g, 0, none⟩ → k ≠ g) → w'.heap[k]? = w.heap[k]?
  fresh : ∀ g, da' = some ⟨g, 0, none⟩ → da = some ⟨g, 0, none⟩ ∨ w.heap.size ≤ g
theorem FrC.refl (mp bD : Nat) (da : Option Addr) (w : World) : FrC mp bD da w da w := ⟨rfl, rfl, rfl, Nat.le_refl _, fun _ _ _ _ _ => rfl, fun _ h => .inl h⟩
theorem FrC.trans {mp bD : Nat} {da da' da'' : Option Addr} {w w' w'' : World} (h : FrC mp bD da w da' w') (h' : FrC mp bD da' w' da'' w'') : FrC mp bD da w da'' w'' :=
  ⟨h'.os.trans h.os, h'.tape.trans h.tape, h'.output.trans h.output, Nat.le_trans h.size h'.size, fun k h0 h1 h2 h3 => (h'.block k (Nat.lt_of_lt_of_le h0 h.size) h1 h2 (fun g e => by
    rcases h.fresh g e with h4 | h4
    · exact h3 g h4
    · omega)).trans (h.block k h0 h1 h2 h3), fun g e => by
    rcases h'.fresh g e with h4 | h4
    · exact h.fresh g h4
    · exact .inr (Nat.le_trans h.size h4)⟩
theorem FrC.of_below {mp bD : Nat} {da : Option Addr} {w w' : World} (h : Below w.heap.size w w') : FrC mp bD da w da w' := ⟨h.os, h.tape, h.output, h.size, fun k h0 _ _ _ => h.block k h0, fun _ e => .inl e⟩
theorem Blk.frc {mp bD b : Nat} {da da' : Option Addr} {w w' : World} {cs : Array Value} {T : TypeId} (h : Blk w b cs T) (hf : FrC mp bD da w da' w') (h1 : b ≠ mp) (h2 : b ≠ bD) (h3 : ∀ g, da = some ⟨g, 0, none⟩ → b ≠ g) : Blk w' b cs T := (hf.block b h.lt h1 h2 h3).trans h
theorem CanW.keep {w w' : World} {lo bF p bM mp bV bD : Nat} {inp : Int} {na : Option Addr} {n nc mb : Nat} {N : List I3} {da : Option Addr} {dc mn : Nat} {D : List I3} {P : Nms} (h : CanW w lo bF p bM mp bV bD inp na n nc mb N da dc mn D P) (hb : Below w.heap.size w w') : CanW w' lo bF p bM mp bV bD inp na n nc mb N da dc mn D P :=
  ⟨h.f.keep hb, h.fo.keep hb, h.nd.keep hb, h.m.keep hb, h.pl.keep hb, h.v.keep hb, h.d.keep hb, h.own.keep hb, h.few, ⟨h.lows.1, h.lows.2.1, h.lows.2.2.1, h.lows.2.2.2.1, h.lows.2.2.2.2.1, h.lows.2.2.2.2.2.1, Nat.le_trans h.lows.2.2.2.2.2.2 hb.size⟩, h.lown⟩
set_option maxRecDepth 100000 in
set_option maxHeartbeats 1000000 in
theorem impl_visit_old {lo bF p bM mp bV bD n nc mb r : Nat} {inp q : Int} {na : Option Addr} {N : List I3} {D : List I3} {P : Nms} {da : Option Addr} {dc mn : Nat} {w : World} (hC : CanW w lo bF p bM mp bV bD inp na n nc mb N da dc mn D P) (hr : r ≤ 4194100) (hq : plF P (r : Int) = some q) :
    Calls Tryz.prog 173 #[.int .i64 (r : Int), .pointer (some ⟨bM, 0, none⟩), .pointer (some ⟨bF, 0, none⟩), .pointer (some ⟨bV, 0, none⟩), .pointer (some ⟨bD, 0, none⟩)] w fun e w' => e = .returned (.int .i64 q) ∧ w = w' := by
  have hlk := hC.pl.look keyI Tryz.underlying214 (x := (r : Int)) (by unfold I64; omega) true
  rw [hq] at hlk
  have hl := (show (Instr.lookup 214 (.map (some mp)) (.int .i64 (r : Int)) true).run Tryz.prog w = .ok (.tuple #[.int .i64 q, .bool true]) w from hlk)
  have m0 := hC.m.cell 0
  have ml := hC.m.lt
  simp at m0
  clear hC hlk hq
  go_enter Tryz.func173, Tryz.ntmps173
  go_wp2
  go_ret
  exact ⟨rfl, rfl⟩
set_option maxRecDepth 100000 in
set_option maxHeartbeats 4000000 in
theorem impl_visit {lo bF p bM mp bV bD n nc mb : Nat} {inp : Int} {na : Option Addr} {N : List I3} (hR : Redu N) (hN : N.length ≤ 4194000) (hinp : I64 inp) : ∀ (f r : Nat) (D : List I3) (P : Nms) (da : Option Addr) (dc mn : Nat) (w : World), CanW w lo bF p bM mp bV bD inp na n nc mb N da dc mn D P → WkI N D P → r ≤ f → r < N.length + 2 →
    Calls Tryz.prog 173 #[.int .i64 (r : Int), .pointer (some ⟨bM, 0, none⟩), .pointer (some ⟨bF, 0, none⟩), .pointer (some ⟨bV, 0, none⟩), .pointer (some ⟨bD, 0, none⟩)] w fun e w' => e = .returned (.int .i64 (wlkN appN N f (D, P) r).2.2) ∧ ∃ da' dc' mn', CanW w' lo bF p bM mp bV bD inp na n nc mb N da' dc' mn' (wlkN appN N f (D, P) r).1 (wlkN appN N f (D, P) r).2.1 ∧ FrC mp bD da w da' w' := by
  intro f
  induction f with
  | zero =>
    intro r D P da dc mn w hC hW hr hrn
    have h2 : r < 2 := by omega
    rw [wlk_low _ _ _ _ h2]
    refine (impl_visit_old hC (by omega) (plF_low P h2)).mono ?_
    rintro e w' ⟨rfl, rfl⟩
    exact ⟨rfl, _, _, _, hC, FrC.refl _ _ _ _⟩
  | succ f ih =>
    intro r D P da dc mn w hC hW hr hrn
    by_cases h2 : r < 2
    · rw [wlk_low _ _ _ _ h2]
      refine (impl_visit_old hC (by omega) (plF_low P h2)).mono ?_
      rintro e w' ⟨rfl, rfl⟩
      exact ⟨rfl, _, _, _, hC, FrC.refl _ _ _ _⟩
    by_cases hp : P r > 0
    · rw [wlk_old _ _ _ _ h2 hp]
      refine (impl_visit_old hC (by omega) (plF_old h2 hp)).mono ?_
      rintro e w' ⟨rfl, rfl⟩
      exact ⟨rfl, _, _, _, hC, FrC.refl _ _ _ _⟩
    obtain ⟨x, hx⟩ : ∃ x, N[r - 2]? = some x := ⟨_, List.getElem?_eq_getElem (by omega)⟩
    have h3 := hR.frst.low _ _ hx
    have h4 := hR.frst.high _ _ hx
    unfold RefB at h3 h4
    have hb0 : (x.b.toNat : Int) = x.b := by omega
    have hc0 : (x.c.toNat : Int) = x.c := by omega
    obtain ⟨_, R1⟩ := wlk_same hR.nodup hR.frst hR.diff f x.b.toNat D P (by omega) (by omega) hW
    rw [wlk_new _ _ _ _ h2 hp hx]
    have C1 := fun (da : Option Addr) (dc mn : Nat) (w : World) (hC : CanW w lo bF p bM mp bV bD inp na n nc mb N da dc mn D P) => ih x.b.toNat D P da dc mn w hC hW (by omega) (by omega)
    rw [hb0] at C1
    generalize wlkN appN N f (D, P) x.b.toNat = A at *
    obtain ⟨D1, P1, r1⟩ := A
    obtain ⟨_, R2⟩ := wlk_same hR.nodup hR.frst hR.diff f x.c.toNat D1 P1 (by omega) (by omega) R1.inv
    have C2 := fun (da : Option Addr) (dc mn : Nat) (w : World) (hC : CanW w lo bF p bM mp bV bD inp na n nc mb N da dc mn D1 P1) => ih x.c.toNat D1 P1 da dc mn w hC R1.inv (by omega) (by omega)
    rw [hc0] at C2
    simp only at C1 ⊢
    generalize wlkN appN N f (D1, P1) x.c.toNat = B at *
    obtain ⟨D2, P2, r2⟩ := B
    simp only [appN] at C2 ⊢
    have hlk := hC.pl.look keyI Tryz.underlying214 (x := (r : Int)) (by unfold I64; omega) true
    rw [plF_new h2 hp] at hlk
    have hl := (show (Instr.lookup 214 (.map (some mp)) (.int .i64 (r : Int)) true).run Tryz.prog w = .ok (.tuple #[.int .i64 0, .bool false]) w from hlk)
    obtain ⟨k, hk⟩ : ∃ k, r - 2 = k := ⟨_, rfl⟩
    rw [hk] at hx h3 h4
    have i1 : IntKind.i64.wrap ((r : Int) - 2) = (k : Int) := by rw [IntWalk.i64_in _ (by omega)]; omega
    have HK := Lib.hid hk
    have hkn : k < n := by rw [← hC.nd.len]; exact (List.getElem?_eq_some_iff.1 hx).1
    obtain ⟨b, off, y, rfl, hb, hy, hwf, hc0', hc1', hc2'⟩ := F3.get hC.nd hkn
    rw [hx] at hy
    cases hy
    have HC := Lib.hid hC
    have K1 := Lib.hid C1
    have K2 := Lib.hid C2
    have m0 := hC.m.cell 0
    have ml := hC.m.lt
    have f0 := hC.f.cell 0
    have fl := hC.f.lt
    have q1 := hC.fo.cell 1
    have ql := hC.fo.lt
    have v0 := hC.v.cell 0
    have vl := hC.v.lt
    simp at m0 f0 q1 v0
    have hr1 : 0 ≤ r1 ∧ r1 ≤ (N.length : Int) + 2 := wk_ref R1 hR.frst
    have hr2 : 0 ≤ r2 ∧ r2 ≤ (N.length : Int) + 2 := wk_ref R2 hR.frst
    have hd2 : D2.length ≤ N.length := wk_few R2.inv hR.frst
    have I1 := Lib.hid R1.inv
    have I2 := Lib.hid R2.inv
    have hk0 : (0 : Int) ≤ (k : Int) := by omega
    have hkn' : (k : Int) < (n : Int) := by omega
    clear hC hlk hx C1 C2 R1 R2 ih hW hk
    have hbW : Below w.heap.size w (w.alloc (.cells #[.int .i64 x.a, .int .i64 x.b, .int .i64 x.c] 117)) := bel
    have X1 := Lib.hid (Blk.made w #[.int .i64 x.a, .int .i64 x.b, .int .i64 x.c] 117)
    have hdg : ∀ g, da = some ⟨g, 0, none⟩ → w.heap.size ≠ g := fun g e => by have := (HC.out.own.blk g e).2; omega
    obtain ⟨z1, z2, z3, z4, z5, z6, z7⟩ := HC.out.lows
    go_enter Tryz.func173, Tryz.ntmps173
    go_wp2_with fail
    refine Calls.mono (K1.out _ _ _ _ (HC.out.keep hbW)) ?_
    rintro e w1 ⟨rfl, da1, dc1, mn1, hC1, hF1⟩
    have hs1 := hF1.size
    simp at hs1
    have HC1 := Lib.hid hC1
    have X2 := Lib.hid (X1.out.frc hF1 (by omega) (by omega) hdg)
    have HF1 := Lib.hid ((FrC.of_below (mp := mp) (bD := bD) (da := da) hbW).trans hF1)
    have hdg1 : ∀ g, da1 = some ⟨g, 0, none⟩ → w.heap.size ≠ g := fun g e => by
      rcases hF1.fresh g e with h | h
      · exact hdg g h
      · simp at h; omega
    clear hC1 hF1 m0 ml f0 fl q1 ql v0 vl X1 hbW hc0' hc1' hc2' hb hl
    have v0 := HC1.out.v.cell 0
    have vl := HC1.out.v.lt
    have x2 := X2.out.cell 2
    have xl := X2.out.lt
    simp at v0 x2
    go_wp2_with fail
    refine Calls.mono (K2.out _ _ _ _ HC1.out) ?_
    rintro e w2 ⟨rfl, da2, dc2, mn2, hC2, hF2⟩
    have hs2 := hF2.size
    have HC2 := Lib.hid hC2
    have X3 := Lib.hid (X2.out.frc hF2 (by omega) (by omega) hdg1)
    have HF2 := Lib.hid (HF1.out.trans hF2)
    clear hC2 hF2 v0 vl x2 xl X2 HF1 HC1 K1 K2
    have d1 := HC2.out.d.cell 1
    have dl := HC2.out.d.lt
    have df := HC2.out.d.free
    have x0 := X3.out.cell 0
    have xl := X3.out.lt
    simp at d1 x0
    have hx64 : I3.ok ⟨x.a, r1, r2⟩ := ⟨hwf.1, (by show I64 r1; unfold I64; omega), (by show I64 r2; unfold I64; omega)⟩
    go_wp2_with (at_builtin; refine appAtL (k := 3) (m := 1) (enc := I3.enc) (ok := I3.ok) rfl _ _ rfl Tryz.underlying38 Tryz.infoNode9 rfl (by decide) (by decide) I3.one9 lo _ _ _ _ [⟨x.a, r1, r2⟩] HC2.out.own rfl _ rfl rfl rfl rfl (fun y hy => by simp at hy; rw [hy]; exact hx64) (by decide) (by omega) (by decide) (by omega) ?_; intro g' c' w3 h1 h2 h3 h4 h5; have O4 := Lib.hid h1; have G4 := Lib.hid h2; have H4 := Lib.hid h3; clear h1 h2 h3; refine Hid.out ?_)
    have ht4 : Touch w2 w3 1 da2 := ⟨_, H4.out, fun b e => ⟨by decide, own_block HC2.out.own.1 b e⟩⟩
    have hty := fun {g : Nat} (e : da2 = some ⟨g, 0, none⟩) => HC2.out.own.typN e
    have f4 := Lib.hid (HC2.out.f.keepA ht4 (blk_ne HC2.out.f hty (by decide)))
    have fo4 := Lib.hid (HC2.out.fo.keepA ht4 (blk_ne HC2.out.fo hty (by decide)))
    have m4 := Lib.hid (HC2.out.m.keepA ht4 (blk_ne HC2.out.m hty (by decide)))
    have v4 := Lib.hid (HC2.out.v.keepA ht4 (blk_ne HC2.out.v hty (by decide)))
    have d4 := Lib.hid (HC2.out.d.keepA ht4 (blk_ne HC2.out.d hty (by decide)))
    have n4 := Lib.hid (HC2.out.nd.only (lo := lo) (hi := w3.heap.size) ⟨G4.out.os, G4.out.tape, G4.out.output, G4.out.size, fun k hk hr => G4.out.block k (by have := G4.out.size; omega)⟩ (fun g off e => .inl (HC2.out.lown g off e).1))
    have p4 := Lib.hid (HC2.out.pl.keepG H4.out (fun e => by
      have e1 := own_block HC2.out.own.1 _ e
      obtain ⟨cur, hc⟩ := HC2.out.own.typN e1
      obtain ⟨es, cl, hm⟩ := HC2.out.pl.isMap
      rw [hm] at hc
      cases hc))
    have NE : ∀ {b : Nat} {cs : Array Value} {T : TypeId}, Blk w3 b cs T → T ≠ 40 → b ≠ bD := fun {b cs T} h hT e => by
      have h2 := d4.out
      rw [Blk] at h h2
      rw [e, h2] at h
      simp only [Option.some.injEq, Obj.cells.injEq] at h
      exact hT h.2.1.symm
    have nf := NE f4.out (by decide)
    have nfo := NE fo4.out (by decide)
    have nm := NE m4.out (by decide)
    have nv := NE v4.out (by decide)
    have ng : g' ≠ bD := fun e => blk_ne d4.out O4.out.typN (by decide) (by rw [e])
    have np : mp ≠ bD := fun e => by
      obtain ⟨es, cl, hm⟩ := p4.out.isMap
      have h := d4.out
      rw [Blk, ← e, hm] at h
      cases h
    have HFR4 := Lib.hid (show FrC mp bD da2 w2 (some ⟨g', 0, none⟩) w3 from ⟨H4.out.os, H4.out.tape, H4.out.output, H4.out.size, fun k h1 h2 h3 h9 => H4.out.block k h1 (fun e => h9 k (own_block HC2.out.own.1 _ e.symm) rfl), fun g e => by
      cases e
      rcases h4 with h | h
      · exact .inl h
      · exact .inr (by omega)⟩)
    clear NE d1 dl df x0 xl X3 ht4 hty
    have d1 := d4.out.cell 1
    have dl := d4.out.lt
    have df := d4.out.free
    simp at d1
    refine Lib.hid ?_
    go_wp2_with fail
    obtain ⟨w4, hw4⟩ : ∃ w4, w4 = w3.setCell ⟨bD, 1, none⟩ (.slice (some ⟨g', 0, none⟩) (D2.length + 1) c') := ⟨_, rfl⟩
    have hsg := set_grown (w := w3) bD 1 (.slice (some ⟨g', 0, none⟩) (D2.length + 1) c')
    rw [← hw4] at hsg
    have d5 := Lib.hid (show Blk w4 bD #[.int .i64 inp, .slice (some ⟨g', 0, none⟩) (D2.length + 1) c', .int .i64 0] 40 by rw [hw4]; exact d4.out.set 1 _)
    have f5 := Lib.hid (f4.out.keepG hsg (by simpa using fun e => nf e.symm))
    have fo5 := Lib.hid (fo4.out.keepG hsg (by simpa using fun e => nfo e.symm))
    have m5 := Lib.hid (m4.out.keepG hsg (by simpa using fun e => nm e.symm))
    have v5 := Lib.hid (v4.out.keepG hsg (by simpa using fun e => nv e.symm))
    have o5 := Lib.hid (O4.out.keepG hsg (fun g e e' => by simp at e e'; omega))
    have p5 := Lib.hid (p4.out.keepG hsg (by simpa using fun e => np e.symm))
    have n5 := Lib.hid (n4.out.only (lo := bD) (hi := bD + 1) ⟨hsg.os, hsg.tape, hsg.output, hsg.size, fun k hk hr => hsg.block k hk (fun e => by simp at e; omega)⟩ (fun g off e => by have := (HC2.out.lown g off e).2.1; omega))
    have HFR5 := Lib.hid (show FrC mp bD (some ⟨g', 0, none⟩) w3 (some ⟨g', 0, none⟩) w4 from ⟨hsg.os, hsg.tape, hsg.output, hsg.size, fun k h1 h2 h3 h9 => hsg.block k h1 (fun e => h3 (by simpa using e)), fun g e => .inl e⟩)
    have hs4 := hsg.size
    have hlow := HC2.out.lows
    have hlwn := Lib.hid HC2.out.lown
    have hfew := HC2.out.few
    rw [← hw4]
    clear hw4 hsg d1 dl df d4 f4 fo4 m4 v4 O4 p4 n4
    have m0 := m5.out.cell 0
    have ml := m5.out.lt
    have d1 := d5.out.cell 1
    have dl := d5.out.lt
    simp at m0 d1
    go_wp2_with fail
    refine wp_region_noPanic ?_
    refine wp_region_M (L := 6) (S := fun wx => Below w4.heap.size w4 wx) (by kernel_rfl) ?_ (fun hHeld => ?_)
    · exact (Below.refl _ _).drew
    refine tkM0 0 (v := ?_) ?_ ?_
    rotate_left
    · (intro wv hSw; (try dsimp only at hSw); obtain ⟨hcq, _⟩ := bcell hSw; have hsq := Below.size hSw; have q0 := (hcq _ _ ml).trans m0; have ql := Nat.lt_of_lt_of_le ml hsq; go_simp; try with_reducible rfl)
    try simp only [pu]
    refine tkMB 1 ?_
    try simp only [pu]
    refine tkMB 2 ?_
    try simp only [pu]
    refine tkM0 3 (v := ?_) ?_ ?_
    rotate_left
    · (intro wv hSw; (try dsimp only at hSw); obtain ⟨hcq, _⟩ := bcell hSw; have hsq := Below.size hSw; have q0 := (hcq _ _ dl).trans d1; have ql := Nat.lt_of_lt_of_le dl hsq; go_simp; try with_reducible rfl)
    try simp only [pu]
    refine wpAnyM_ready (rs := [4]) (by kernel_rfl) (by simp) ?_
    refine AllReadyM.cons rfl (fun K hK => ?_) AllReadyM.nil
    go_simp
    refine Calls.mono impl_length_Node ?_
    rintro e _ ⟨rfl, rfl⟩
    go_wp2_with fail
    refine hK.out _ _ hHeld (fun hHeld => ?_)
    clear hK K
    try simp only [pu]
    refine tkMB 5 ?_
    try simp only [pu]
    refine wpAnyM_ready (rs := [6]) (by kernel_rfl) (by simp) ?_
    refine AllReadyM.last rfl (fun K hK => ?_)
    refine MapA.wp (p5.out.keep hHeld) keyI Tryz.underlying214 (by unfold maxLen; omega) (x := (r : Int)) (by unfold I64; omega) (v := (D2.length : Int) + 2) (by unfold I64; omega) _ _ _ rfl rfl rfl (by first | rfl | (show Value.int .i64 _ = Value.int .i64 _; congr 1; omega) | (show Value.int .i64 _ = Value.int .i64 _; congr 1; rw [IntWalk.i64_in _ (by push_cast; omega)]; push_cast; omega)) ?_
    intro w5 hm5 hg5
    have hM : ∀ {b : Nat} {cs : Array Value} {T : TypeId}, Blk w4 b cs T → (some mp : Option Nat) ≠ some b := fun {b cs T} h e => by
      simp only [Option.some.injEq] at e
      obtain ⟨es, cl, hm⟩ := p5.out.isMap
      rw [Blk, ← e, hm] at h
      cases h
    have d6 := Lib.hid ((d5.out.keep hHeld).keepG hg5 (hM d5.out))
    have f6 := Lib.hid ((f5.out.keep hHeld).keepG hg5 (hM f5.out))
    have fo6 := Lib.hid ((fo5.out.keep hHeld).keepG hg5 (hM fo5.out))
    have m6 := Lib.hid ((m5.out.keep hHeld).keepG hg5 (hM m5.out))
    have v6 := Lib.hid ((v5.out.keep hHeld).keepG hg5 (hM v5.out))
    have o6 := Lib.hid ((o5.out.keep hHeld).keepG hg5 (fun g e e' => by
      obtain ⟨cur, hc⟩ := o5.out.typN e
      obtain ⟨es, cl, hm⟩ := p5.out.isMap
      simp only [Option.some.injEq] at e'
      rw [← e', hm] at hc
      cases hc))
    have n6 := Lib.hid ((n5.out.keep hHeld).only (lo := mp) (hi := mp + 1) ⟨hg5.os, hg5.tape, hg5.output, hg5.size, fun k hk hr => hg5.block k hk (fun e => by simp at e; omega)⟩ (fun g off e => by have := (hlwn.out g off e).2.2; omega))
    have HFR6 := Lib.hid (show FrC mp bD (some ⟨g', 0, none⟩) w4 (some ⟨g', 0, none⟩) w5 from (FrC.of_below hHeld).trans ⟨hg5.os, hg5.tape, hg5.output, hg5.size, fun k h1 h2 h3 h9 => hg5.block k h1 (fun e => h2 (by simpa using e)), fun g e => .inl e⟩)
    have M6 := Lib.hid hm5
    have hl6 := (show (Instr.lookup 214 (.map (some mp)) (.int .i64 (r : Int)) false).run Tryz.prog w5 = .ok (.int .i64 ((D2.length : Int) + 2)) w5 from by
      have h := hm5.look keyI Tryz.underlying214 (x := (r : Int)) (by unfold I64; omega) false
      simp only [if_true] at h
      exact h)
    have hs5 := hg5.size
    have hsz := Below.size hHeld
    refine hK.out _ _ ?_
    clear hK K
    try simp only [pu]
    refine wpAnyM_done (by kernel_rfl) ?_ _
    refine NoPanic.normal ?_
    clear hM hm5 hg5 m0 ml d1 dl hHeld
    have m0 := m6.out.cell 0
    have ml := m6.out.lt
    simp at m0
    go_wp2
    go_ret
    have hlen : (D2 ++ [(⟨x.a, r1, r2⟩ : I3)]).length = D2.length + 1 := by simp
    refine ⟨rfl, some ⟨g', 0, none⟩, c', mn2 + 1, ?_, ((HF2.out.trans HFR4.out).trans HFR5.out).trans HFR6.out⟩
    refine ⟨f6.out, fo6.out, n6.out, m6.out, M6.out.congr (fun q _ => plF_put h2 (by omega) q), v6.out, by rw [hlen]; exact d6.out, by rw [hlen]; exact o6.out, by rw [hlen]; omega, ⟨hlow.1, hlow.2.1, hlow.2.2.1, hlow.2.2.2.1, hlow.2.2.2.2.1, hlow.2.2.2.2.2.1, ?_⟩, hlwn.out⟩
    have h9 := hlow.2.2.2.2.2.2
    have h8 : w4.heap.size ≤ w5.heap.size := Nat.le_trans hsz hs5
    omega
end Go.Proofs.YtkaikbaagajckaaGreat
