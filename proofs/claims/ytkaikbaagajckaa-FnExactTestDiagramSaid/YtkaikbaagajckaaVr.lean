/- The canonical diagram of a reference among nodes: the reference, walked. -/
import Derived.Test.YtkaikbaagajckaaVp
import Derived.Test.YtkaikbaagajckaaJa
namespace Go.Proofs.Ytkaikbaagajckaa
open Go.RowKit
set_option linter.unusedVariables false
set_option linter.unusedSimpArgs false
theorem OwnI.typN {E : TypeId} {w : World} {base : Nat} {a : Option Addr} {n c : Nat} {l : List Int} (h : OwnI E w base a n c l) {g : Nat} (e : a = some ⟨g, 0, none⟩) : ∃ cur, w.heap[g]? = some (.cells cur E (0, 0)) := by
  subst e
  rcases h.1.2 with ⟨he, _⟩ | ⟨g', cap, cur, he, hb, hg, _⟩
  · simp only [Value.slice.injEq] at he; cases he.1
  · simp only [Value.slice.injEq, Option.some.injEq, Addr.mk.injEq] at he
    obtain ⟨⟨rfl, _⟩, _⟩ := he
    exact ⟨cur, hg⟩
theorem OwnI.atB {E : TypeId} {w w' : World} {base g : Nat} {n c : Nat} {l : List Int} (h : OwnI E w base (some ⟨g, 0, none⟩) n c l) (hb : w'.heap[g]? = w.heap[g]?) : OwnI E w' base (some ⟨g, 0, none⟩) n c l :=
  OwnI.here (lo := g) (hi := g + 1) (fun g' e => by simp at e; omega) w w' (fun k h1 h2 => by rw [show k = g by omega]; exact hb) h
theorem Flats.keepB {α : Type} {k : Nat} {enc : α → List Value} {ok : α → Prop} {w w' : World} {a : Option Addr} {n c B : Nat} {l : List α} (h : Flats k enc ok w a n c l) (hb : Below B w w') (hB : n = 0 ∨ ∀ g off, a = some ⟨g, off, none⟩ → g < B) : Flats k enc ok w' a n c l := by
  rcases hB with h0 | hB
  · exact ⟨h.len, h.cap, .inl h0, h.wf, h.nil⟩
  · exact h.only (lo := B) (hi := w'.heap.size) ⟨hb.os, hb.tape, hb.output, hb.size, fun q h1 h2 => hb.block q (by have := hb.size; omega)⟩ (fun g off e => .inl (hB g off e))
theorem Flats.lies {α : Type} {k : Nat} {enc : α → List Value} {ok : α → Prop} {w : World} {a : Option Addr} {n c : Nat} {l : List α} (h : Flats k enc ok w a n c l) : n = 0 ∨ ∀ g off, a = some ⟨g, off, none⟩ → g < w.heap.size := by
  rcases h.pos with h0 | ⟨b, o, ha, hb, _⟩
  · exact .inl h0
  · refine .inr fun g off e => ?_
    rw [ha] at e
    simp only [Option.some.injEq, Addr.mk.injEq] at e
    omega
/-- what the reference's walk has at hand -/
structure WlkA (w : World) (lo p gn mc : Nat) (na : Option Addr) (n nc : Nat) (N : List I3) (da : Option Addr) (dc : Nat) (D : List I3) (P : Nms) : Prop where
  nd : F3 w na n nc N
  b : BldA w lo p da dc D
  nm : OwnI 2 w lo (some ⟨gn, 0, none⟩) (N.length + 2) mc (nmsL P (N.length + 2))
  lown : n = 0 ∨ ∀ g off, na = some ⟨g, off, none⟩ → g < lo
  low : lo ≤ w.heap.size
/-- what it may write: the build, its nodes, the names -/
structure FrW (lo p gn : Nat) (w w' : World) : Prop where
  os : w'.os = w.os
  tape : w'.tape = w.tape
  output : w'.output = w.output
  size : w.heap.size ≤ w'.heap.size
  block : ∀ k, k < w.heap.size → k < lo → w'.heap[k]? = w.heap[k]?
theorem FrW.refl (lo p gn : Nat) (w : World) : FrW lo p gn w w := ⟨rfl, rfl, rfl, Nat.le_refl _, fun _ _ _ => rfl⟩
theorem FrW.trans {lo p gn : Nat} {w w' w'' : World} (h : FrW lo p gn w w') (h' : FrW lo p gn w' w'') : FrW lo p gn w w'' :=
  ⟨h'.os.trans h.os, h'.tape.trans h.tape, h'.output.trans h.output, Nat.le_trans h.size h'.size, fun k h0 h1 => (h'.block k (Nat.lt_of_lt_of_le h0 h.size) h1).trans (h.block k h0 h1)⟩
theorem FrW.below {lo p gn : Nat} {w w' : World} (h : FrW lo p gn w w') (hl : lo ≤ w.heap.size) : Below lo w w' := ⟨h.os, h.tape, h.output, h.size, fun k hk => h.block k (by omega) hk⟩
set_option maxRecDepth 100000 in
set_option maxHeartbeats 4000000 in
theorem spec_l22Walk {lo p gn mc n nc : Nat} {na : Option Addr} {N : List I3} (hF : Frst N) (hN : N.length ≤ 1048000) : ∀ (f r : Nat) (D : List I3) (P : Nms) (da : Option Addr) (dc : Nat) (w : World), WlkA w lo p gn mc na n nc N da dc D P → WmI N D P → r ≤ f → r < N.length + 2 →
    Calls Try.prog 121 #[.slice na n nc, .pointer (some ⟨p, 0, none⟩), .slice (some ⟨gn, 0, none⟩) (N.length + 2) mc, .int .i64 (r : Int)] w fun e w' => e = .returned (.int .i64 (wlkN mkN N f (D, P) r).2.2) ∧ (∃ da' dc', WlkA w' lo p gn mc na n nc N da' dc' (wlkN mkN N f (D, P) r).1 (wlkN mkN N f (D, P) r).2.1) ∧ FrW lo p gn w w' := by
  have low : ∀ (f r : Nat) (D : List I3) (P : Nms) (da : Option Addr) (dc : Nat) (w : World), r < 2 → WlkA w lo p gn mc na n nc N da dc D P →
      Calls Try.prog 121 #[.slice na n nc, .pointer (some ⟨p, 0, none⟩), .slice (some ⟨gn, 0, none⟩) (N.length + 2) mc, .int .i64 (r : Int)] w fun e w' => e = .returned (.int .i64 (wlkN mkN N f (D, P) r).2.2) ∧ (∃ da' dc', WlkA w' lo p gn mc na n nc N da' dc' (wlkN mkN N f (D, P) r).1 (wlkN mkN N f (D, P) r).2.1) ∧ FrW lo p gn w w' := by
    intro f r D P da dc w h2 hC
    rw [wlk_low _ _ _ _ h2]
    have HC := Lib.hid hC
    clear hC
    have h2' : (r : Int) < 2 := by omega
    go_enter Try.func121, Try.ntmps121
    go_wp2
    go_ret
    exact ⟨rfl, ⟨_, _, HC.out⟩, FrW.refl _ _ _ _⟩
  intro f
  induction f with
  | zero =>
    intro r D P da dc w hC hW hr hrn
    exact low 0 r D P da dc w (by omega) hC
  | succ f ih =>
    intro r D P da dc w hC hW hr hrn
    by_cases h2 : r < 2
    · exact low _ r D P da dc w h2 hC
    have h2' : ¬ (r : Int) < 2 := by omega
    obtain ⟨v0, hv0, hvi, hcell⟩ := hC.nm.cell (k := r) (by omega)
    rw [nmsL_at P (by omega)] at hv0
    cases hv0
    have hm1 : (0 : Int) ≤ (r : Int) := by omega
    have hm2 : (r : Int) < (N.length : Int) + 2 := by omega
    have gnl := hC.nm.lt.2
    by_cases hp : P r > 0
    · rw [wlk_old _ _ _ _ h2 hp]
      have HC := Lib.hid hC
      clear hC ih low
      have hp' : 0 < P r := hp
      go_enter Try.func121, Try.ntmps121
      go_wp2
      go_ret
      exact ⟨rfl, ⟨_, _, HC.out⟩, FrW.refl _ _ _ _⟩
    · have hpN : ¬ 0 < P r := hp
      obtain ⟨x, hx⟩ : ∃ x, N[r - 2]? = some x := ⟨_, List.getElem?_eq_getElem (by omega)⟩
      have h3 := hF.low _ _ hx
      have h4 := hF.high _ _ hx
      unfold RefB at h3 h4
      have hb0 : (x.b.toNat : Int) = x.b := by omega
      have hc0 : (x.c.toNat : Int) = x.c := by omega
      have R1 := wm_inv hF f x.b.toNat D P (by omega) (by omega) hW
      rw [wlk_new _ _ _ _ h2 hp hx]
      have C1 := fun (da : Option Addr) (dc : Nat) (w : World) (hC : WlkA w lo p gn mc na n nc N da dc D P) => ih x.b.toNat D P da dc w hC hW (by omega) (by omega)
      rw [hb0] at C1
      generalize wlkN mkN N f (D, P) x.b.toNat = A at *
      obtain ⟨D1, P1, r1⟩ := A
      have R2 := wm_inv hF f x.c.toNat D1 P1 (by omega) (by omega) R1.inv
      have C2 := fun (da : Option Addr) (dc : Nat) (w : World) (hC : WlkA w lo p gn mc na n nc N da dc D1 P1) => ih x.c.toNat D1 P1 da dc w hC R1.inv (by omega) (by omega)
      rw [hc0] at C2
      simp only at C1 ⊢
      generalize wlkN mkN N f (D1, P1) x.c.toNat = B at *
      obtain ⟨D2, P2, r2⟩ := B
      have hd2 := R2.inv.len
      have hq1 := R1.ref
      have hq2 := R2.ref
      have hln := R2.len
      have hMK := (R2.inv.frst.add (i := x.a) (hq1.mono hln) hq2).2
      obtain ⟨t, ht, ht1⟩ := mkN_pre D2 x.a r1 r2
      simp only at C2 hd2 hq1 hq2 hln hMK ⊢
      rw [ht, List.length_append] at hMK
      unfold RefB at hq1 hq2 hMK
      obtain ⟨k, hk⟩ : ∃ k, r - 2 = k := ⟨_, rfl⟩
      rw [hk] at hx h3 h4
      have i1 : IntKind.i64.wrap ((r : Int) - 2) = (k : Int) := by rw [IntWalk.i64_in _ (by omega)]; omega
      have hkn : k < n := by rw [← hC.nd.len]; exact (List.getElem?_eq_some_iff.1 hx).1
      obtain ⟨b, off, y, rfl, hb, hy, hwf, hc0', hc1', hc2'⟩ := F3.get hC.nd hkn
      rw [hx] at hy
      cases hy
      have GET := Lib.hid (fun (w' : World) (D' : List I3) (P' : Nms) (da' : Option Addr) (dc' : Nat) (h : WlkA w' lo p gn mc (some ⟨b, off, none⟩) n nc N da' dc' D' P') => (show b < w'.heap.size ∧ w'.cell? ⟨b, off + k * 3, none⟩ = some (.int .i64 x.a) ∧ w'.cell? ⟨b, off + k * 3 + 1, none⟩ = some (.int .i64 x.b) ∧ w'.cell? ⟨b, off + k * 3 + 2, none⟩ = some (.int .i64 x.c) from by
        obtain ⟨b', off', y', e, hb', hy', _, q0, q1, q2⟩ := F3.get h.nd hkn
        rw [hx] at hy'
        cases hy'
        cases e
        exact ⟨hb', q0, q1, q2⟩))
      have HC := Lib.hid hC
      have K1 := Lib.hid C1
      have K2 := Lib.hid C2
      have hk0 : (0 : Int) ≤ (k : Int) := by omega
      have hkn' : (k : Int) < (n : Int) := by omega
      have HT := Lib.hid ht
      clear hC hx C1 C2 R1 R2 ih hW hk low ht
      go_enter Try.func121, Try.ntmps121
      go_wp2_with fail
      refine Calls.mono (K1.out _ _ _ HC.out) ?_
      rintro e w1 ⟨rfl, ⟨da1, dc1, hC1⟩, hF1⟩
      have HC1 := Lib.hid hC1
      have HF1 := Lib.hid hF1
      obtain ⟨gb, g0, g1, g2⟩ := GET.out _ _ _ _ _ hC1
      clear hC1 hF1 hb hc0' hc1' hc2' hcell gnl
      go_wp2_with fail
      refine Calls.mono (K2.out _ _ _ HC1.out) ?_
      rintro e w2 ⟨rfl, ⟨da2, dc2, hC2⟩, hF2⟩
      have HC2 := Lib.hid hC2
      have HF2 := Lib.hid (HF1.out.trans hF2)
      clear gb g0 g1 g2
      obtain ⟨gb, g0, g1, g2⟩ := GET.out _ _ _ _ _ hC2
      clear hC2 hF2 HF1 HC1
      go_wp2_with fail
      refine Calls.mono (spec_l22Node HC2.out.b (by omega) hwf.1 (by unfold I64; omega) (by unfold I64; omega) HC2.out.low) ?_
      rintro e w3 ⟨rfl, ⟨da3, dc3, hB3⟩, hF3⟩
      have hb3 : Below lo w2 w3 := hF3.below (Below.refl _ _) HC2.out.low (Nat.le_refl _) HC2.out.b.lop HC2.out.b.lop
      have hgp : gn ≠ p := fun e => by
        obtain ⟨cur, hc⟩ := HC2.out.nm.typN rfl
        have h := HC2.out.b.blk
        rw [Blk, ← e, hc] at h
        simp at h
      have N3 := Lib.hid (HC2.out.nm.atB (hF3.block gn HC2.out.nm.lt.2 hgp hgp (.inr (fun cs l he => by
        obtain ⟨cur, hc⟩ := HC2.out.nm.typN rfl
        rw [hc] at he
        simp at he))))
      have B3 := Lib.hid hB3
      have D3 := Lib.hid (HC2.out.nd.keepB hb3 HC2.out.lown)
      have HF3 := Lib.hid (HF2.out.trans (show FrW lo p gn w2 w3 from ⟨hF3.os, hF3.tape, hF3.output, hF3.size, fun q h0 h1 => hb3.block q h1⟩))
      have LOWN := Lib.hid HC2.out.lown
      have hlo3 : lo ≤ w3.heap.size := Nat.le_trans HC2.out.low hF3.size
      clear hB3 hF3 hb3 HF2 HC2 gb g0 g1 g2 HC
      obtain ⟨v0, hv0, hvi, hcell⟩ := N3.out.cell (k := r) (by omega)
      have gnl := N3.out.lt.2
      have gnf := N3.out.free
      clear hv0
      have hmv : I64 (mkN D2 x.a r1 r2).2 := by unfold I64; omega
      go_wp2_with fail
      go_ret
      have hsg := set_grown (w := w3) gn r (.int .i64 (mkN D2 x.a r1 r2).2)
      have hbl : Below lo w3 (w3.setCell ⟨gn, r, none⟩ (.int .i64 (mkN D2 x.a r1 r2).2)) := ⟨hsg.os, hsg.tape, hsg.output, hsg.size, fun q hq => hsg.block q (by omega) (fun e => by have := N3.out.lt.1; simp at e; omega)⟩
      refine ⟨rfl, ⟨da3, dc3, D3.out.keepB hbl LOWN.out, ⟨B3.out.blk.keepG hsg (by simpa using hgp), B3.out.own.keepG hsg (fun g e e' => ?_), B3.out.lop⟩, ?_, LOWN.out, Nat.le_trans hlo3 hsg.size⟩, HF3.out.trans ⟨hsg.os, hsg.tape, hsg.output, hsg.size, fun q h0 h1 => hbl.block q h1⟩⟩
      · obtain ⟨c1, e1⟩ := B3.out.own.typN e
        obtain ⟨c2, e2⟩ := N3.out.typN rfl
        simp only [Option.some.injEq] at e'
        rw [← e', e2] at e1
        simp at e1
      · have h := N3.out.set r hmv
        rw [nmsL_set P2 (by omega)] at h
        exact h
theorem mkZ (n : Nat) (hn : n ≤ 1048576) (w : World) : (Instr.makeSlice 28 (.int .i64 (n : Int)) (.int .i64 (n : Int))).run Try.prog w = .ok (.slice (some ⟨w.heap.size, 0, none⟩) n n) (w.alloc (.cells (List.replicate n (Value.int .i64 0)).toArray 2)) := by
  obtain ⟨i0, hi, hz0, hz1, hz2⟩ := info_parts Try.infoi64
  have h := run_make (P := Try.prog) w 28 2 i0 (.int .i64 0) Try.underlying28 hi hz0 .i64 .i64 (n : Int) (n : Int) (by omega) (by omega) (by rw [hz2]; omega) (by omega)
  rw [hz1, Nat.mul_one] at h
  rw [h, Int.toNat_natCast, show madeCells (Value.cells (.int .i64 0)) n = (List.replicate n (Value.int .i64 0)).toArray from ?_]
  rw [show Value.cells (.int .i64 0) = #[.int .i64 0] from rfl]
  apply Array.toList_inj.1
  rw [toList_madeCells_one]
set_option maxRecDepth 100000 in
set_option maxHeartbeats 4000000 in
theorem spec_l22Canonical {n nc : Nat} {inp root : Int} {na : Option Addr} {N : List I3} {w : World} (hF : Frst N) (hN : N.length ≤ 1048000) (hI : F3 w na n nc N) (hr : RefB root N.length) :
    Calls Try.prog 75 #[.int .i64 inp, .slice na n nc, .int .i64 root] w fun e w' => ∃ da dc, e = .returned (.agg #[.int .i64 inp, .slice da (canN mkN N root).1.length dc, .int .i64 (canN mkN N root).2]) ∧ OwnF 3 I3.enc I3.ok 76 w' w.heap.size da (canN mkN N root).1.length dc (canN mkN N root).1 ∧ Below w.heap.size w w' := by
  obtain ⟨r, rfl⟩ : ∃ r : Nat, root = (r : Int) := ⟨root.toNat, by have := hr.1; omega⟩
  have hrn : r < N.length + 2 := by have := hr.2; omega
  obtain rfl : N.length = n := hI.len
  have HI := Lib.hid hI
  obtain ⟨m, hm⟩ : ∃ m, m = N.length + 2 := ⟨_, rfl⟩
  have hmk : ∀ wx : World, (Instr.makeSlice 28 (.int .i64 ((N.length : Int) + 2)) (.int .i64 ((N.length : Int) + 2))).run Try.prog wx = .ok (.slice (some ⟨wx.heap.size, 0, none⟩) m m) (wx.alloc (.cells (Array.replicate m (Value.int .i64 0)) 2)) := fun wx => by
    have h := mkZ m (by omega) wx
    rw [show (m : Int) = (N.length : Int) + 2 by omega, show (List.replicate m (Value.int .i64 0)).toArray = Array.replicate m (Value.int .i64 0) by simp] at h
    exact h
  have HM := Lib.hid hm
  clear hI hm
  go_enter Try.func75, Try.ntmps75
  go_wp2_with fail
  obtain rfl := HM.out
  have hb3 := fun (o1 o2 o3 : Obj) => below_alloc1 (below_alloc1 (below_alloc1 (Below.refl w.heap.size w) o1) o2) o3
  have X3 := Lib.hid ((Blk.made w #[.int .i64 0, .slice none 0 0, .int .i64 0] 26).keep (below_alloc1 (below_alloc1 (Below.refl _ _) (.cells #[.slice none 0 0] 100)) (.cells (Array.replicate (N.length + 2) (Value.int .i64 0)) 2)))
  refine Calls.mono (spec_l22Walk (lo := w.heap.size + 1) (n := N.length) (nc := nc) (na := na) hF hN r r [] (fun _ => 0) none 0 _ ?_ (WmI.start N) (Nat.le_refl _) hrn) ?_
  · refine ⟨HI.out.keep (hb3 _ _ _), ⟨(Blk.made1 _ _ _ _).keep (below_alloc1 (Below.refl _ _) _), ⟨World.ownsRow_nil _ _ _ 3, (fun _ h => by cases h), rfl, fun _ => rfl⟩, Nat.le_refl _⟩, ?_, HI.out.lies.imp id (fun h g off e => Nat.lt_succ_of_lt (h g off e)), ?_⟩
    · rw [nmsL_zero]
      have h := OwnI.zeros (E := 2) (base := w.heap.size + 1) (m := N.length + 2) ((w.alloc (.cells #[.int .i64 0, .slice none 0 0, .int .i64 0] 26)).alloc (.cells #[.slice none 0 0] 100)) (by simp) (by omega) (by simp : Array.replicate (N.length + 2) (Value.int .i64 0) = _)
      simpa using h
    · simp
  rintro e w5 ⟨rfl, ⟨da, dc, hC⟩, hFr⟩
  have hb5 : Below w.heap.size w w5 := (hb3 _ _ _).trans ((hFr.below (by simp)).mono (by omega))
  have X5 := Lib.hid (X3.out.keepB (hFr.below (by simp)) (by omega))
  have HB5 := Lib.hid hb5
  have HC := Lib.hid hC
  have hs5 := hFr.size
  simp at hs5
  have hcan : canN mkN N (r : Int) = ((wlkN mkN N r ([], fun _ => 0) r).1, (wlkN mkN N r ([], fun _ => 0) r).2.2) := by rw [canN, Int.toNat_natCast]
  have HCAN := Lib.hid hcan
  clear hcan hC hFr hb5 hb3 X3
  generalize wlkN mkN N r ([], fun _ => 0) r = A at *
  obtain ⟨D, P, rt⟩ := A
  simp only at HC HCAN
  have d0 := HC.out.b.blk.cell 0
  have dl := HC.out.b.blk.lt
  have x0 := X5.out.cell 0
  have x1 := X5.out.cell 1
  have x2 := X5.out.cell 2
  have xl := X5.out.lt
  have xf := X5.out.free
  simp only [List.getElem?_toArray, List.getElem?_cons_succ, List.getElem?_cons_zero] at d0 x0 x1 x2
  go_wp2
  have hne : ∀ g, da = some ⟨g, 0, none⟩ → (some w.heap.size : Option Nat) ≠ some g := fun g e e' => by
    have := (HC.out.b.own.blk g e).1
    simp at e'
    omega
  have O := HC.out.b.own
  have HB := HB5.out
  refine bodyPost_ret (v := .agg #[.int .i64 inp, .slice da D.length dc, .int .i64 rt]) (by simp [results, Try.results75, go_sem, *]) rfl ⟨da, dc, ?_, ?_, ?_⟩
  · rw [HCAN.out]
  · rw [HCAN.out]
    exact (((O.keepG (set_grown _ _ _) hne).keepG (set_grown _ _ _) hne).keepG (set_grown _ _ _) hne).le (by omega)
  · repeat (first | exact Below.refl _ _ | assumption | refine below_allocS ?_ _ | refine below_callS ?_ (by assumption) | (refine Below.alloc ?_ (by first | omega | (simp; done) | (simp; omega)) _) | (refine Below.setCell ?_ (by first | omega | (simp; done) | (simp; omega)) _) | refine Below.drew ?_ | refine below_drewN ?_ _ | (refine below_call ?_ (by assumption) (by first | omega | (simp; done) | (simp; omega))) | (refine Below.trans ?_ (by assumption)))
end Go.Proofs.Ytkaikbaagajckaa
