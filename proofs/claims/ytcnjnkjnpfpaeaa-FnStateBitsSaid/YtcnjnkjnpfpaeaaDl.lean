/- Draws of models, walked: a valid one. -/
import Derived.Test.YtcnjnkjnpfpaeaaDk
import Derived.Test.YtcnjnkjnpfpaeaaJe
import Derived.Test.YtcnjnkjnpfpaeaaAi
import Derived.Test.YtcnjnkjnpfpaeaaAt
namespace Go.Proofs.Ytcnjnkjnpfpaeaa
open Go.RowKit
set_option linter.unusedVariables false
set_option linter.unusedSimpArgs false
attribute [local go_sem ↓] Go.wp_at_zero Go.wp_at_succ
/-- a slice of rules that is the call's own, with no word on which lie apart -/
structure RRow (w : World) (lo : Nat) (a : Option Addr) (n c : Nat) (l : List (RM × RuD)) : Prop where
  row : OwnF 3 encR (fun _ => True) 64 w lo a n c l
  each : ∀ x ∈ l, RO w lo x
theorem RO.dw {T : TypeId} {lo b B : Nat} {w w' : World} {x : RM × RuD} (h : RO w B x) (hd : Dw T lo b w w') (hB : b < B) : RO w' B x := ⟨h.nm, h.nms, h.g.dw hd hB, h.gn, h.e.dw hd hB, h.en⟩
theorem RRow.dw {T : TypeId} {lo b B : Nat} {w w' : World} {a : Option Addr} {n c : Nat} {l : List (RM × RuD)} (h : RRow w B a n c l) (hd : Dw T lo b w w') (hB : b < B) : RRow w' B a n c l := ⟨h.row.dw hd hB, fun x hx => (h.each x hx).dw hd hB⟩
theorem RRow.keep {w w' : World} {lo : Nat} {a : Option Addr} {n c : Nat} {l : List (RM × RuD)} (h : RRow w lo a n c l) (hb : Below w.heap.size w w') : RRow w' lo a n c l := ⟨h.row.keep hb, fun x hx => (h.each x hx).keep hb⟩
theorem RRow.le {w : World} {lo lo' : Nat} {a : Option Addr} {n c : Nat} {l : List (RM × RuD)} (h : RRow w lo a n c l) (hl : lo' ≤ lo) : RRow w lo' a n c l := ⟨h.row.le hl, fun x hx => (h.each x hx).le hl⟩
theorem RRow.fr {w : World} {lo : Nat} {a : Option Addr} {n c : Nat} {l : List (RM × RuD)} (h : RRow w lo a n c l) : FR w w a n c l := by
  have hf := h.row.flats
  exact ⟨hf.len, hf.cap, hf.pos, fun x hx => (h.each x hx).rum, hf.nil⟩
theorem Below.onlyB {B : Nat} {w w' : World} (hb : Below B w w') : Only B w.heap.size w w' := ⟨hb.os, hb.tape, hb.output, hb.size, fun k hk hr => hb.block k (by omega)⟩
theorem OwnI.keepB {E : TypeId} {w w' : World} {base B : Nat} {a : Option Addr} {n c : Nat} {l : List Int} (h : OwnI E w base a n c l) (hb : Below B w w') (hB : ∀ g, a = some ⟨g, 0, none⟩ → g < B) : OwnI E w' base a n c l := h.only (Below.onlyB hb) fun g e => .inl (hB g e)
theorem OwnF.keepB {α : Type} {k : Nat} {enc : α → List Value} {ok : α → Prop} {E : TypeId} {w w' : World} {base B : Nat} {a : Option Addr} {n c : Nat} {l : List α} (h : OwnF k enc ok E w base a n c l) (hb : Below B w w') (hB : ∀ g, a = some ⟨g, 0, none⟩ → g < B) : OwnF k enc ok E w' base a n c l := h.only (Below.onlyB hb) fun g e => .inl (hB g e)
/-- all blocks of a slice of rules lie below B -/
def RBl (B : Nat) (a : Option Addr) (l : List (RM × RuD)) : Prop := (∀ g, a = some ⟨g, 0, none⟩ → g < B) ∧ ∀ x ∈ l, (∀ g, x.1.ga = some ⟨g, 0, none⟩ → g < B) ∧ ∀ g, x.1.ea = some ⟨g, 0, none⟩ → g < B
theorem RRow.bl {w : World} {lo : Nat} {a : Option Addr} {n c : Nat} {l : List (RM × RuD)} (h : RRow w lo a n c l) : RBl w.heap.size a l :=
  ⟨fun g e => (h.row.blk g e).2, fun x hx => ⟨fun g e => ((h.each x hx).g.blk g e).2, fun g e => ((h.each x hx).e.blk g e).2⟩⟩
theorem RRow.keepB {w w' : World} {lo B : Nat} {a : Option Addr} {n c : Nat} {l : List (RM × RuD)} (h : RRow w lo a n c l) (hb : Below B w w') (hB : RBl B a l) : RRow w' lo a n c l :=
  ⟨OwnF.keepB h.row hb hB.1, fun x hx => by have h1 := h.each x hx; exact ⟨h1.nm, h1.nms, OwnF.keepB h1.g hb (hB.2 x hx).1, h1.gn, OwnF.keepB h1.e hb (hB.2 x hx).2, h1.en⟩⟩
theorem RRow.only {w w' : World} {lo l2 h2 : Nat} {a : Option Addr} {n c : Nat} {l : List (RM × RuD)} (h : RRow w lo a n c l) (ho : Only l2 h2 w w') (hd : h2 ≤ lo) : RRow w' lo a n c l :=
  ⟨h.row.only ho fun g e => .inr (Nat.le_trans hd (h.row.blk g e).1), fun x hx => by
    have h1 := h.each x hx
    exact ⟨h1.nm, h1.nms, h1.g.only ho fun g e => .inr (Nat.le_trans hd (h1.g.blk g e).1), h1.gn, h1.e.only ho fun g e => .inr (Nat.le_trans hd (h1.e.blk g e).1), h1.en⟩⟩
theorem RO.keepT9 {w w' : World} {lo m : Nat} {x : RM × RuD} {a : Option Addr} {E : TypeId} (h : RO w lo x) (ht : Touch w w' m a) (ty : ∀ {g : Nat}, a = some ⟨g, 0, none⟩ → ∃ cur, w.heap[g]? = some (.cells cur E (0, 0))) (h1 : 74 ≠ E) (h2 : 76 ≠ E) : RO w' lo x :=
  ⟨h.nm, h.nms, h.g.keepT ht (typ_apart h.g.typ ty h1), h.gn, h.e.keepT ht (typ_apart h.e.typ ty h2), h.en⟩
theorem encR_one9 (y : RM × RuD) : ∀ u ∈ encR y, u.oneCell' = true := fun u hu => by
  simp only [encR, RM.enc, List.mem_cons, List.not_mem_nil, or_false] at hu
  rcases hu with rfl | rfl | rfl <;> rfl
theorem mid_join {P : Program} {md : Region.Mode} {ops : Array Oper} {Q : Exit → Act → World → Prop} {S : World → Prop} {n : Nat} {l0 : Array Bool} {a : Act} {w : World} (m : Nat) (l1 : Array Bool) (R : Act → Act → World → Prop)
    (hm : ∀ a1 w1, R a a1 w1 → wpAnyH P md ops Q S m l1 a1 w1) (h : (∀ a1 w1, R a a1 w1 → wpAnyH P md ops Q S m l1 a1 w1) → wpAnyH P md ops Q S n l0 a w) : wpAnyH P md ops Q S n l0 a w := h hm
theorem mid_at {P : Program} {md : Region.Mode} {ops : Array Oper} {Q : Exit → Act → World → Prop} {S : World → Prop} {n m : Nat} {l l1 : Array Bool} {a : Act} {w : World} (hl : l = l1) (hn : n = m) (h : wpAnyH P md ops Q S m l1 a w) : wpAnyH P md ops Q S n l a w := by subst hl hn; exact h
/-- rules with few tests and assigns -/
def SmR (l : List (RM × RuD)) : Prop := ∀ x ∈ l, x.1.gn ≤ 100 ∧ x.1.en ≤ 100
/-- a drawn valid model, as far as its bounds go -/
def DrV (lo b : Nat) (w : World) (e : Ending) (w' : World) : Prop := ∃ (sa ta ra : Option Addr) (sn sc tc rn rc : Nat) (sz st : List Int) (l : List (RM × RuD)), e = .returned (.agg #[.slice sa sn sc, .slice ta sn tc, .slice ra rn rc]) ∧ OwnI 2 w' w.heap.size sa sn sc sz ∧ OwnI 2 w' w.heap.size ta sn tc st ∧ RRow w' w.heap.size ra rn rc l ∧ 1 ≤ sn ∧ sn ≤ 4 ∧ rn ≤ 8 ∧ (∀ z ∈ sz, 1 ≤ z ∧ z ≤ 4) ∧ Apart sa ta ∧ SmR l ∧ Dw 55 lo b w w'
set_option maxRecDepth 100000 in
set_option maxHeartbeats 8000000 in
theorem spec_l20DrawValid {b lo : Nat} {w0 w : World} (hD : Dw 55 lo b w0 w) :
    Calls Try.prog 60 #[.pointer (some ⟨b, 0, none⟩)] w (DrV lo b w) := by
  have hbl := hD.src.lt.2
  have HS := Lib.hid hD.start
  clear hD
  go_enter Try.func60, Try.ntmps60
  go_wp2_with fail
  obtain ⟨wA, hwA⟩ : ∃ v, v = ((w.alloc (.cells #[.slice none 0 0, .slice none 0 0, .slice none 0 0] 27)).alloc (.cells #[] 2)).alloc (.cells #[] 2) := ⟨_, rfl⟩
  have hbA : Below w.heap.size w wA := by rw [hwA]; exact below_alloc1 (below_alloc1 (below_alloc1 (Below.refl _ _) _) _) _
  have hsA : wA.heap.size = w.heap.size + 3 := by rw [hwA]; simp
  have X0 := Lib.hid (show Blk wA w.heap.size #[.slice none 0 0, .slice none 0 0, .slice none 0 0] 27 by rw [hwA]; exact (Blk.made w _ _).keep (below_alloc1 (below_alloc1 (Below.refl _ _) _) _))
  have S0 := Lib.hid (show OwnI 2 wA (w.heap.size + 1) (some ⟨w.heap.size + 1, 0, none⟩) 0 0 [] by
    rw [hwA]
    have h := (OwnI.zeros (E := 2) (base := w.heap.size + 1) (m := 0) (cs := #[]) (w.alloc (.cells #[.slice none 0 0, .slice none 0 0, .slice none 0 0] 27)) (by simp) (by decide) rfl)
    have h2 := h.keep (below_alloc1 (Below.refl _ _) (.cells #[] 2))
    simpa using h2)
  have T0 := Lib.hid (show OwnI 2 wA (w.heap.size + 1) (some ⟨w.heap.size + 1 + 1, 0, none⟩) 0 0 [] by
    rw [hwA]
    have h := (OwnI.zeros (E := 2) (base := w.heap.size + 1) (m := 0) (cs := #[]) ((w.alloc (.cells #[.slice none 0 0, .slice none 0 0, .slice none 0 0] 27)).alloc (.cells #[] 2)) (by simp) (by decide) rfl)
    simpa using h)
  have D0 := Lib.hid (HS.out.below hbA)
  rw [← hwA]
  clear hwA hbA HS
  refine Calls.mono (dw_next (b := b) (lo := lo) D0.out.src (by decide)) ?_
  rintro e w1 ⟨k0, rfl, hk0, hk1, hd⟩
  have hk2 : k0 < 4 := by omega
  have hs1 := hd.size
  have D1 := Lib.hid (D0.out.trans hd)
  have X1 := Lib.hid (X0.out.dw hd (by omega))
  have S1 := Lib.hid (S0.out.dw hd (by omega))
  have T1 := Lib.hid (T0.out.dw hd (by omega))
  have e0 : IntKind.i64.wrap (1 + k0) = 1 + k0 := IntWalk.i64_in _ (by omega)
  clear hd D0 X0 S0 T0 hk1
  go_wp2_with fail
  go_loopw [3, 4, 5] (fun s3 s4 s5 wr => ∃ (gs gt m c1 c2 : Nat) (sz st : List Int) (k : Int), s3 = .slice (some ⟨gs, 0, none⟩) m c1 ∧ s4 = .slice (some ⟨gt, 0, none⟩) m c2 ∧ s5 = .int .i64 k ∧ 0 ≤ k ∧ (m : Int) + k ≤ 4 ∧ 1 ≤ (m : Int) + k ∧ w.heap.size + 3 ≤ wr.heap.size ∧ gs ≠ gt ∧ Hid (Dw 55 lo b w wr) ∧ Hid (Blk wr w.heap.size #[.slice none 0 0, .slice none 0 0, .slice none 0 0] 27) ∧ Hid (OwnI 2 wr (w.heap.size + 1) (some ⟨gs, 0, none⟩) m c1 sz) ∧ Hid (OwnI 2 wr (w.heap.size + 1) (some ⟨gt, 0, none⟩) m c2 st) ∧ Hid (∀ z ∈ sz, 1 ≤ z ∧ z ≤ 4)) (fun _ _ s5 _ => (intOf s5).toNat)
  case atStart => exact ⟨_, _, 0, 0, 0, [], [], 1 + k0, rfl, rfl, rfl, by omega, by omega, by omega, by omega, by omega, D1, X1, S1, T1, Lib.hid (fun z h => by cases h)⟩
  case round =>
    clear D1 X1 S1 T1
    obtain ⟨gs, gt, m, c1, c2, sz, st, k, rfl, rfl, rfl, hk0, hmk, hmk1, hsr, hne, HD, X, S, T, Z⟩ := hrel
    by_cases hk : 0 < k
    · have e2 : IntKind.i64.wrap (k - 1) = k - 1 := IntWalk.i64_in _ (by omega)
      go_wp2_with fail
      refine Calls.mono (dw_next (b := b) (lo := lo) HD.out.src (by decide)) ?_
      rintro e w2 ⟨v, rfl, hv0, hv1, hd⟩
      have hv2 : v < 4 := by omega
      have hs2 := hd.size
      have D2 := Lib.hid (HD.out.trans hd)
      have X2 := Lib.hid (X.out.dw hd (by omega))
      have S2 := Lib.hid (S.out.dw hd (by omega))
      have T2 := Lib.hid (T.out.dw hd (by omega))
      have e3 : IntKind.i64.wrap (1 + v) = 1 + v := IntWalk.i64_in _ (by omega)
      clear hd HD X S T hv1
      have bs2 := S2.out.blk gs rfl
      have bt2 := T2.out.blk gt rfl
      go_wp2_with (at_builtin; refine appI1 rfl _ _ rfl Try.underlying24 Try.infoi64 (w.heap.size + 1) _ _ _ _ S2.out rfl _ rfl rfl (by unfold I64; omega) (by omega) (by omega) ?_; intro g3 c3 w3 ho3 hb3 ht3 hat3 hz3; refine Hid.out ?_)
      have hs3 := hb3.size
      have hon := ht3.only (lo := gs) (hi := gs + 1) (fun g e => by simp at e; omega)
      have S3 := Lib.hid ho3
      have T3 := Lib.hid (T2.out.only hon (fun g e => by simp at e; omega))
      have X3 := Lib.hid (X2.out.keepB hb3 (by omega))
      have D3 := Lib.hid (D2.out.own hb3 (by omega))
      have hne3 : g3 ≠ gt := by
        rcases hat3 with e | e
        · simp at e; omega
        · omega
      clear ho3 hb3 ht3 hat3 hon S2 T2 X2 D2
      refine Lib.hid ?_
      go_wp2_with fail
      refine Calls.mono (dw_next (b := b) (lo := lo) D3.out.src (by unfold I64; omega)) ?_
      rintro e w4 ⟨x, rfl, hx0, hx1, hd⟩
      have hx4 : x ≤ 4 := by omega
      have hs4 := hd.size
      have D4 := Lib.hid (D3.out.trans hd)
      have X4 := Lib.hid (X3.out.dw hd (by omega))
      have S4 := Lib.hid (S3.out.dw hd (by omega))
      have T4 := Lib.hid (T3.out.dw hd (by omega))
      clear hd D3 X3 S3 T3 hx1
      have bs4 := S4.out.blk g3 rfl
      have bt4 := T4.out.blk gt rfl
      go_wp2_with (at_builtin; refine appI1 rfl _ _ rfl Try.underlying24 Try.infoi64 (w.heap.size + 1) _ _ _ _ T4.out rfl _ rfl rfl (by unfold I64; omega) (by omega) (by omega) ?_; intro g5 c5 w5 ho5 hb5 ht5 hat5 hz5; refine Hid.out ?_)
      have hs5 := hb5.size
      have hon := ht5.only (lo := gt) (hi := gt + 1) (fun g e => by simp at e; omega)
      have T5 := Lib.hid ho5
      have S5 := Lib.hid (S4.out.only hon (fun g e => by simp at e; omega))
      have X5 := Lib.hid (X4.out.keepB hb5 (by omega))
      have D5 := Lib.hid (D4.out.own hb5 (by omega))
      have hne5 : g3 ≠ g5 := by
        rcases hat5 with e | e
        · simp at e; omega
        · omega
      clear ho5 hb5 ht5 hat5 hon S4 T4 X4 D4
      have Z5 := Lib.hid (show ∀ z ∈ sz ++ [1 + v], 1 ≤ z ∧ z ≤ 4 from fun z hz => by
        rcases List.mem_append.1 hz with h | h
        · exact Z.out z h
        · simp at h; omega)
      refine Lib.hid ?_
      go_wp2
      go_roundw
      case rel => exact ⟨g3, g5, m + 1, c3, c5, _, _, k - 1, rfl, rfl, by go_num, by omega, by omega, by omega, by omega, hne5, D5, X5, S5, T5, Z5⟩
      case measure => simp [intOf]; omega
    · go_wp2_with fail
      have bs0 := (S.out.blk gs rfl).2
      have bt0 := (T.out.blk gt rfl).2
      obtain ⟨wB, hwB⟩ : ∃ v, v = (wr.alloc (.cells #[.slice (some ⟨gs, 0, none⟩) m c1, .slice (some ⟨gt, 0, none⟩) m c2, .slice none 0 0] 27)).alloc (.cells #[] 64) := ⟨_, rfl⟩
      have hbB : Below wr.heap.size wr wB := by rw [hwB]; exact below_alloc1 (below_alloc1 (Below.refl _ _) _) _
      have hsB : wB.heap.size = wr.heap.size + 2 := by rw [hwB]; simp
      have M0 := Lib.hid (show Blk wB wr.heap.size #[.slice (some ⟨gs, 0, none⟩) m c1, .slice (some ⟨gt, 0, none⟩) m c2, .slice none 0 0] 27 by rw [hwB]; exact (Blk.made wr _ _).keep (below_alloc1 (Below.refl _ _) _))
      have R0 := Lib.hid (show RRow wB (wr.heap.size + 1) (some ⟨wr.heap.size + 1, 0, none⟩) 0 0 [] by
        rw [hwB]
        refine ⟨?_, fun x h => by cases h⟩
        have h := OwnF.emp (k := 3) (enc := encR) (ok := fun _ => True) (E := 64) (base := wr.heap.size + 1) (wr.alloc (.cells #[.slice (some ⟨gs, 0, none⟩) m c1, .slice (some ⟨gt, 0, none⟩) m c2, .slice none 0 0] 27)) (by simp) (fun _ => rfl)
        simpa using h)
      have D0 := Lib.hid (HD.out.below hbB)
      have X0 := Lib.hid (X.out.keep hbB)
      have S0 := Lib.hid (S.out.keep hbB)
      have T0 := Lib.hid (T.out.keep hbB)
      rw [← hwB]
      clear hwB hbB HD X S T
      refine Calls.mono (dw_next (b := b) (lo := lo) D0.out.src (by decide)) ?_
      rintro e w2 ⟨n0, rfl, hn0, hn1, hd⟩
      have hn2 : n0 < 9 := by omega
      have hs2 := hd.size
      have D2 := Lib.hid (D0.out.trans hd)
      have X2 := Lib.hid (X0.out.dw hd (by omega))
      have S2 := Lib.hid (S0.out.dw hd (by omega))
      have T2 := Lib.hid (T0.out.dw hd (by omega))
      have M2 := Lib.hid (M0.out.dw hd (by omega))
      have R2 := Lib.hid (R0.out.dw hd (by omega))
      clear hd D0 X0 S0 T0 M0 R0 hn1
      go_wp2_with fail
      generalize wr.heap.size = p at *
      go_loopw [8, 9] (fun s8 s9 wq => ∃ (a : Option Addr) (q c : Nat) (l : List (RM × RuD)) (n : Int), s8 = .slice a q c ∧ s9 = .int .i64 n ∧ 0 ≤ n ∧ (q : Int) + n ≤ 8 ∧ p + 2 ≤ wq.heap.size ∧ Hid (Dw 55 lo b w wq) ∧ Hid (Blk wq w.heap.size #[.slice none 0 0, .slice none 0 0, .slice none 0 0] 27) ∧ Hid (OwnI 2 wq (w.heap.size + 1) (some ⟨gs, 0, none⟩) m c1 sz) ∧ Hid (OwnI 2 wq (w.heap.size + 1) (some ⟨gt, 0, none⟩) m c2 st) ∧ Hid (Blk wq p #[.slice (some ⟨gs, 0, none⟩) m c1, .slice (some ⟨gt, 0, none⟩) m c2, .slice none 0 0] 27) ∧ Hid (RRow wq (p + 1) a q c l) ∧ Hid (SmR l)) (fun _ s9 _ => (intOf s9).toNat)
      case atStart => exact ⟨_, 0, 0, [], n0, rfl, rfl, hn0, by omega, by omega, D2, X2, S2, T2, M2, R2, Lib.hid (fun x hx => by cases hx)⟩
      case round =>
        clear D2 X2 S2 T2 M2 R2
        obtain ⟨a, q, c, l, n, rfl, rfl, hn0, hqn, hsq, HD, X, S, T, M, R, QS⟩ := hrel
        by_cases hn : 0 < n
        · have e4 : IntKind.i64.wrap (n - 1) = n - 1 := IntWalk.i64_in _ (by omega)
          go_wp2_with fail
          obtain ⟨wE, hwE⟩ : ∃ v, v = wr.alloc (.cells #[] 76) := ⟨_, rfl⟩
          have hbE : Below wr.heap.size wr wE := by rw [hwE]; exact below_alloc1 (Below.refl _ _) _
          have hsE : wE.heap.size = wr.heap.size + 1 := by rw [hwE]; simp
          have E0 := Lib.hid (show OwnA wE wr.heap.size (some ⟨wr.heap.size, 0, none⟩) 0 0 [] by rw [hwE]; exact OwnF.emp (k := 2) (enc := I2.enc) (ok := I2.ok) (E := 76) wr (Nat.le_refl _) (fun _ => rfl))
          have D0 := Lib.hid (HD.out.below hbE)
          have X0 := Lib.hid (X.out.keep hbE)
          have S0 := Lib.hid (S.out.keep hbE)
          have T0 := Lib.hid (T.out.keep hbE)
          have M0 := Lib.hid (M.out.keep hbE)
          have R0 := Lib.hid (R.out.keep hbE)
          have RB := Lib.hid R.out.bl
          rw [← hwE]
          clear hwE hbE HD X S T M
          generalize wr.heap.size = p2 at *
          go_loopw [10, 11] (fun s10 s11 wr => ∃ (ae : Option Addr) (q5 c5 : Nat) (l5 : List I2) (v : Int), s10 = .slice ae q5 c5 ∧ s11 = .int .i64 v ∧ 0 ≤ v ∧ v ≤ (m : Int) ∧ (q5 : Int) ≤ v ∧ p2 + 1 ≤ wr.heap.size ∧ Hid (Dw 55 lo b w wr) ∧ Hid (Blk wr w.heap.size #[.slice none 0 0, .slice none 0 0, .slice none 0 0] 27) ∧ Hid (OwnI 2 wr (w.heap.size + 1) (some ⟨gs, 0, none⟩) m c1 sz) ∧ Hid (OwnI 2 wr (w.heap.size + 1) (some ⟨gt, 0, none⟩) m c2 st) ∧ Hid (Blk wr p #[.slice (some ⟨gs, 0, none⟩) m c1, .slice (some ⟨gt, 0, none⟩) m c2, .slice none 0 0] 27) ∧ Hid (RRow wr (p + 1) a q c l) ∧ Hid (OwnA wr p2 ae q5 c5 l5)) (fun _ s11 _ => (m - intOf s11).toNat)
          case atStart => exact ⟨_, 0, 0, [], 0, rfl, rfl, by omega, by omega, by omega, by omega, D0, X0, S0, T0, M0, R0, E0⟩
          case round =>
            clear D0 X0 S0 T0 M0 R0 E0 R
            obtain ⟨ae, q5, c5, l5, v, rfl, rfl, hv0, hvm, hq5, hs5, HD, X, S, T, M, R, E⟩ := hrel
            by_cases hv : v < (m : Int)
            · have e5 : IntKind.i64.wrap (v + 1) = v + 1 := IntWalk.i64_in _ (by omega)
              have hsb : ∀ g, (some ⟨gs, 0, none⟩ : Option Addr) = some ⟨g, 0, none⟩ → g < p2 := fun g e => by simp at e; omega
              have htb : ∀ g, (some ⟨gt, 0, none⟩ : Option Addr) = some ⟨g, 0, none⟩ → g < p2 := fun g e => by simp at e; omega
              go_wp2_with fail
              refine Calls.mono (dw_next (b := b) (lo := lo) HD.out.src (by decide)) ?_
              rintro e w3 ⟨x, rfl, hx0, hx1, hd⟩
              have hs3 := hd.size
              have D3 := Lib.hid (HD.out.trans hd)
              have X3 := Lib.hid (X.out.dw hd (by omega))
              have S3 := Lib.hid (S.out.dw hd (by omega))
              have T3 := Lib.hid (T.out.dw hd (by omega))
              have M3 := Lib.hid (M.out.dw hd (by omega))
              have R3 := Lib.hid (R.out.dw hd (by omega))
              have E3 := Lib.hid (E.out.dw hd (by omega))
              clear hd HD X S T M R E hx1
              obtain ⟨v', rfl⟩ : ∃ y : Nat, v = (y : Int) := ⟨v.toNat, by omega⟩
              obtain ⟨z, hz, hzi, hzc⟩ := S3.out.cell (k := v') (by omega)
              have gl := (S3.out.blk gs rfl).2
              by_cases hx : x = 0
              · by_cases hq : q5 < 4
                · subst hx
                  go_wp2_with fail
                  refine Calls.mono (dw_next (b := b) (lo := lo) D3.out.src hzi) ?_
                  rintro e w4 ⟨y, rfl, hy0, hy1, hd⟩
                  have hyi : I64 y := by unfold I64 at hzi ⊢; omega
                  have hs4 := hd.size
                  have D4 := Lib.hid (D3.out.trans hd)
                  have X4 := Lib.hid (X3.out.dw hd (by omega))
                  have S4 := Lib.hid (S3.out.dw hd (by omega))
                  have T4 := Lib.hid (T3.out.dw hd (by omega))
                  have M4 := Lib.hid (M3.out.dw hd (by omega))
                  have R4 := Lib.hid (R3.out.dw hd (by omega))
                  have E4 := Lib.hid (E3.out.dw hd (by omega))
                  clear hd D3 X3 S3 T3 M3 R3 E3 hy1 hzc gl
                  go_wp2_with (at_builtin; refine appI2 (lo := lo) (b := b) (w0 := w) rfl _ _ rfl Try.underlying62 Try.infoAssign rfl (by decide) p2 _ _ _ _ E4.out rfl _ rfl rfl (by unfold I64; omega) hyi (by omega) D4.out (by omega) (by omega) ?_; intro a5 c5 w5 ho5 hb5 hd5; refine Hid.out ?_)
                  have hs5' := hb5.size
                  have D5 := Lib.hid hd5
                  have E5 := Lib.hid ho5
                  have X5 := Lib.hid (X4.out.keepB hb5 (by omega))
                  have S5 := Lib.hid (OwnI.keepB S4.out hb5 hsb)
                  have T5 := Lib.hid (OwnI.keepB T4.out hb5 htb)
                  have M5 := Lib.hid (M4.out.keepB hb5 (by omega))
                  have R5 := Lib.hid (R4.out.keepB hb5 RB.out)
                  clear hd5 ho5 hb5 D4 X4 S4 T4 M4 R4 E4
                  refine Lib.hid ?_
                  go_wp2
                  go_roundw
                  case rel => exact ⟨a5, q5 + 1, c5, _, _, rfl, by go_num, by omega, by omega, by omega, by omega, D5, X5, S5, T5, M5, R5, E5⟩
                  case measure => simp [intOf]; omega
                · exfalso; omega
              · go_wp2
                go_roundw
                case rel => exact ⟨ae, q5, c5, l5, _, rfl, by go_num, by omega, by omega, by omega, by omega, D3, X3, S3, T3, M3, R3, E3⟩
                case measure => simp [intOf]; omega
            · skip -- region
              go_wp2_with fail
              have HNE := Lib.hid (show ∀ g off, (some ⟨gs, 0, none⟩ : Option Addr) = some ⟨g, off, none⟩ → g ≠ b from fun g off e => by have := (S.out.blk gs rfl).1; simp at e; omega)
              refine wp_region_noPanic ?_
              refine wp_region_held_drew (S := fun wx => Blk wx p #[.slice (some ⟨gs, 0, none⟩) m c1, .slice (some ⟨gt, 0, none⟩) m c2, .slice none 0 0] 27) (by kernel_rfl) (M.out.drew) (fun hHeld => ?_)
              have D := HD.out.start.drew
              refine tkH0 0 (v := ?_) ?_ ?_
              rotate_left
              · (intro wv hSw; clear hSw; go_simp; try with_reducible rfl)
              try simp only [Act.put, s1, s2, s3]
              refine tkH0 2 (v := ?_) ?_ ?_
              rotate_left
              · (intro wv hSw; clear hSw; go_simp; try with_reducible rfl)
              try simp only [Act.put, s1, s2, s3]
              refine tkH0 6 (v := ?_) ?_ ?_
              rotate_left
              · (intro wv hSw; clear hSw; go_simp; try with_reducible rfl)
              try simp only [Act.put, s1, s2, s3]
              refine tkH0 7 (v := ?_) ?_ ?_
              rotate_left
              · (intro wv hSw; have q0 := Blk.cell hSw 0; have q1 := Blk.cell hSw 1; have q2 := Blk.cell hSw 2; have ql := Blk.lt hSw; simp only [List.getElem?_toArray, List.getElem?_cons_zero, List.getElem?_cons_succ] at q0 q1 q2; clear hSw; go_simp; try with_reducible rfl)
              try simp only [Act.put, s1, s2, s3]
              refine tkH0 9 (v := ?_) ?_ ?_
              rotate_left
              · (intro wv hSw; clear hSw; go_simp; try with_reducible rfl)
              try simp only [Act.put, s1, s2, s3]
              refine mid_join (m := 4) (l1 := #[true, true, true, true, true, true, true, true, true, true, false, false, false, false]) (R := fun a0 a1 w1 => ∃ (u1 u3 u4 : Value) (nm : ByteArray) (ag : Option Addr) (ng cg : Nat) (lg : List I2b), a1 = (((((a0.put (some 71) u1).put (some 73) u3).put (some 74) u4).put (some 75) (.string nm)).put (some 78) (.slice ag ng cg)) ∧ nm.size ≤ 100 ∧ (ng : Int) ≤ 2 ∧ OwnT w1 wr.heap.size ag ng cg lg ∧ Dw 55 lo b wr w1 ∧ Blk w1 p #[.slice (some ⟨gs, 0, none⟩) m c1, .slice (some ⟨gt, 0, none⟩) m c2, .slice none 0 0] 27) ?_ (fun hm => ?_)
              rotate_left
              · have hmid := Lib.hid hm
                clear hm
                refine wpAnyH_ready (rs := [1, 3]) (by kernel_rfl) (by simp) ?_
                refine AllReadyH.cons rfl (fun K hK => ?_) (AllReadyH.cons rfl (fun K hK => ?_) AllReadyH.nil)
                · skip
                  go_simp
                  obtain ⟨y1, hwa⟩ : ∃ v, v = (World.alloc wr (.cells #[.string ⟨#[103, 111]⟩, .string ⟨#[115, 116, 111, 112, 95, 49]⟩, .string ⟨#[111, 112, 101, 110]⟩, .string ⟨#[99, 108, 111, 115, 101]⟩, .string ⟨#[102, 97, 105, 108]⟩, .string ⟨#[114, 50]⟩] 9)).drew := ⟨_, rfl⟩
                  replace D : Dw 55 lo b wr y1 := by rw [hwa]; exact (HD.out.start.alloc _).drew
                  have RS := Lib.hid (show Blk y1 wr.heap.size #[.string ⟨#[103, 111]⟩, .string ⟨#[115, 116, 111, 112, 95, 49]⟩, .string ⟨#[111, 112, 101, 110]⟩, .string ⟨#[99, 108, 111, 115, 101]⟩, .string ⟨#[102, 97, 105, 108]⟩, .string ⟨#[114, 50]⟩] 9 by rw [hwa]; exact (Blk.made wr _ _).drew)
                  have hbs := RS.out.lt
                  have hbw : wr.heap.size ≤ wr.heap.size := by first | exact Nat.le_refl _ | omega
                  clear hHeld
                  rw [← hwa]
                  clear hwa
                  go_wp2_with fail
                  refine hK.out _ _ (M.out.dw D (by omega)) (fun hHeld => ?_)
                  clear hK K
                  try simp only [Act.put, s1, s2, s3]
                  refine wpAnyH_ready (rs := [3]) (by kernel_rfl) (by simp) ?_
                  refine AllReadyH.cons rfl (fun K hK => ?_) AllReadyH.nil
                  go_simp
                  refine Calls.mono (dw_next (b := b) (lo := lo) D.src (by decide)) ?_
                  rintro e y2 ⟨r, rfl, hr0, hr1, hd⟩
                  have hr6 : r < 6 := by omega
                  have hbk := D.src.lt
                  have hz := hd.size
                  replace D := D.trans hd
                  replace RS := Lib.hid (RS.out.dw hd (by omega))
                  skip
                  clear hd hHeld hr1
                  obtain ⟨r6, rfl⟩ : ∃ y : Nat, r = (y : Int) := ⟨r.toNat, by omega⟩
                  go_wp2_with fail
                  refine hK.out _ _ (M.out.dw D (by omega)) (fun hHeld => ?_)
                  clear hK K
                  try simp only [Act.put, s1, s2, s3]
                  have hy_y2 := D.size
                  have hr60 : (0 : Int) ≤ (r6 : Int) := by omega
                  have hr66 : (r6 : Int) < 6 := by omega
                  refine tkH0 4 (v := ?_) ?_ ?_
                  rotate_left
                  · (intro wv hSw; clear hSw; go_simp; try with_reducible rfl)
                  try simp only [Act.put, s1, s2, s3]
                  refine wpAnyH_ready (rs := [5, 8]) (by kernel_rfl) (by simp) ?_
                  refine AllReadyH.cons rfl (fun K hK => ?_) (AllReadyH.cons rfl (fun K hK => ?_) AllReadyH.nil)
                  · skip
                    obtain ⟨nm, hnc, hnm⟩ : ∃ nm : ByteArray, y2.cell? ⟨wr.heap.size, r6, none⟩ = some (.string nm) ∧ nm.size ≤ 100 := by
                      rw [RS.out.cell]
                      rcases (show r6 = 0 ∨ r6 = 1 ∨ r6 = 2 ∨ r6 = 3 ∨ r6 = 4 ∨ r6 = 5 by omega) with rfl | rfl | rfl | rfl | rfl | rfl <;> exact ⟨_, rfl, by decide⟩
                    have hbl9 := RS.out.lt
                    go_simp
                    clear hnc hHeld
                    go_wp2_with fail
                    refine hK.out _ _ (M.out.dw D (by omega)) (fun hHeld => ?_)
                    clear hK K
                    try simp only [Act.put, s1, s2, s3]
                    refine wpAnyH_ready (rs := [8]) (by kernel_rfl) (by simp) ?_
                    refine AllReadyH.cons rfl (fun K hK => ?_) AllReadyH.nil
                    go_simp
                    have hbk := D.src.lt
                    refine Calls.mono (spec_l20DrawTests D (Ints.dw S.out.ints D HNE.out) HNE.out (by omega) (by omega) (by decide) (by decide)) ?_
                    rintro e y3 ⟨ag, ng, cg, lg, rfl, hG, hng, hd⟩
                    have hz := hd.size
                    have G := Lib.hid (show OwnT y3 wr.heap.size ag ng cg lg from hG.le (by first | exact Nat.le_refl _ | omega))
                    replace D := D.trans hd
                    replace RS := Lib.hid (RS.out.dw hd (by omega))
                    clear hd hG hHeld
                    go_wp2_with fail
                    refine hK.out _ _ (M.out.dw D (by omega)) (fun hHeld => ?_)
                    clear hK K
                    try simp only [Act.put, s1, s2, s3]
                    have hy_y3 := D.size
                    refine mid_at (l1 := #[true, true, true, true, true, true, true, true, true, true, false, false, false, false]) (m := 4) (by kernel_rfl) (by kernel_rfl) (hmid.out _ _ ?_)
                    refine ⟨.slice (some ⟨wr.heap.size, 0, none⟩) 6 6, .int .i64 (r6 : Int), .pointer (some ⟨wr.heap.size, r6, none⟩), nm, ag, ng, cg, lg, ?_, hnm, hng, G.out, D, hHeld⟩
                    simp only [Act.put, List.setIfInBounds_toArray, List.set_cons_zero, List.set_cons_succ]
                  · skip
                    go_simp
                    have hbk := D.src.lt
                    refine Calls.mono (spec_l20DrawTests D (Ints.dw S.out.ints D HNE.out) HNE.out (by omega) (by omega) (by decide) (by decide)) ?_
                    rintro e y4 ⟨ag, ng, cg, lg, rfl, hG, hng, hd⟩
                    have hz := hd.size
                    have G := Lib.hid (show OwnT y4 wr.heap.size ag ng cg lg from hG.le (by first | exact Nat.le_refl _ | omega))
                    replace D := D.trans hd
                    replace RS := Lib.hid (RS.out.dw hd (by omega))
                    clear hd hG hHeld
                    go_wp2_with fail
                    refine hK.out _ _ (M.out.dw D (by omega)) (fun hHeld => ?_)
                    clear hK K
                    try simp only [Act.put, s1, s2, s3]
                    have hy_y4 := D.size
                    refine wpAnyH_ready (rs := [5]) (by kernel_rfl) (by simp) ?_
                    refine AllReadyH.cons rfl (fun K hK => ?_) AllReadyH.nil
                    obtain ⟨nm, hnc, hnm⟩ : ∃ nm : ByteArray, y4.cell? ⟨wr.heap.size, r6, none⟩ = some (.string nm) ∧ nm.size ≤ 100 := by
                      rw [RS.out.cell]
                      rcases (show r6 = 0 ∨ r6 = 1 ∨ r6 = 2 ∨ r6 = 3 ∨ r6 = 4 ∨ r6 = 5 by omega) with rfl | rfl | rfl | rfl | rfl | rfl <;> exact ⟨_, rfl, by decide⟩
                    have hbl9 := RS.out.lt
                    go_simp
                    clear hnc hHeld
                    go_wp2_with fail
                    refine hK.out _ _ (M.out.dw D (by omega)) (fun hHeld => ?_)
                    clear hK K
                    try simp only [Act.put, s1, s2, s3]
                    refine mid_at (l1 := #[true, true, true, true, true, true, true, true, true, true, false, false, false, false]) (m := 4) (by kernel_rfl) (by kernel_rfl) (hmid.out _ _ ?_)
                    refine ⟨.slice (some ⟨wr.heap.size, 0, none⟩) 6 6, .int .i64 (r6 : Int), .pointer (some ⟨wr.heap.size, r6, none⟩), nm, ag, ng, cg, lg, ?_, hnm, hng, G.out, D, hHeld⟩
                    simp only [Act.put, List.setIfInBounds_toArray, List.set_cons_zero, List.set_cons_succ]
                · skip
                  go_simp
                  refine Calls.mono (dw_next (b := b) (lo := lo) D.src (by decide)) ?_
                  rintro e y5 ⟨r, rfl, hr0, hr1, hd⟩
                  have hr6 : r < 6 := by omega
                  have hbk := D.src.lt
                  have hz := hd.size
                  replace D := D.trans hd
                  clear hd hHeld hr1
                  obtain ⟨r6, rfl⟩ : ∃ y : Nat, r = (y : Int) := ⟨r.toNat, by omega⟩
                  go_wp2_with fail
                  refine hK.out _ _ (M.out.dw D (by omega)) (fun hHeld => ?_)
                  clear hK K
                  try simp only [Act.put, s1, s2, s3]
                  have hy_y5 := D.size
                  refine wpAnyH_ready (rs := [1, 8]) (by kernel_rfl) (by simp) ?_
                  refine AllReadyH.cons rfl (fun K hK => ?_) (AllReadyH.cons rfl (fun K hK => ?_) AllReadyH.nil)
                  · skip
                    go_simp
                    obtain ⟨y6, hwa⟩ : ∃ v, v = World.alloc y5 (.cells #[.string ⟨#[103, 111]⟩, .string ⟨#[115, 116, 111, 112, 95, 49]⟩, .string ⟨#[111, 112, 101, 110]⟩, .string ⟨#[99, 108, 111, 115, 101]⟩, .string ⟨#[102, 97, 105, 108]⟩, .string ⟨#[114, 50]⟩] 9) := ⟨_, rfl⟩
                    replace D : Dw 55 lo b wr y6 := by rw [hwa]; exact D.alloc _
                    have RS := Lib.hid (show Blk y6 y5.heap.size #[.string ⟨#[103, 111]⟩, .string ⟨#[115, 116, 111, 112, 95, 49]⟩, .string ⟨#[111, 112, 101, 110]⟩, .string ⟨#[99, 108, 111, 115, 101]⟩, .string ⟨#[102, 97, 105, 108]⟩, .string ⟨#[114, 50]⟩] 9 by rw [hwa]; exact Blk.made y5 _ _)
                    have hbs := RS.out.lt
                    have hbw : wr.heap.size ≤ y5.heap.size := by first | exact Nat.le_refl _ | omega
                    clear hHeld
                    rw [← hwa]
                    clear hwa
                    go_wp2_with fail
                    refine hK.out _ _ (M.out.dw D (by omega)) (fun hHeld => ?_)
                    clear hK K
                    try simp only [Act.put, s1, s2, s3]
                    have hr60 : (0 : Int) ≤ (r6 : Int) := by omega
                    have hr66 : (r6 : Int) < 6 := by omega
                    refine tkH0 4 (v := ?_) ?_ ?_
                    rotate_left
                    · (intro wv hSw; clear hSw; go_simp; try with_reducible rfl)
                    try simp only [Act.put, s1, s2, s3]
                    refine wpAnyH_ready (rs := [5, 8]) (by kernel_rfl) (by simp) ?_
                    refine AllReadyH.cons rfl (fun K hK => ?_) (AllReadyH.cons rfl (fun K hK => ?_) AllReadyH.nil)
                    · skip
                      obtain ⟨nm, hnc, hnm⟩ : ∃ nm : ByteArray, y6.cell? ⟨y5.heap.size, r6, none⟩ = some (.string nm) ∧ nm.size ≤ 100 := by
                        rw [RS.out.cell]
                        rcases (show r6 = 0 ∨ r6 = 1 ∨ r6 = 2 ∨ r6 = 3 ∨ r6 = 4 ∨ r6 = 5 by omega) with rfl | rfl | rfl | rfl | rfl | rfl <;> exact ⟨_, rfl, by decide⟩
                      have hbl9 := RS.out.lt
                      go_simp
                      clear hnc hHeld
                      go_wp2_with fail
                      refine hK.out _ _ (M.out.dw D (by omega)) (fun hHeld => ?_)
                      clear hK K
                      try simp only [Act.put, s1, s2, s3]
                      refine wpAnyH_ready (rs := [8]) (by kernel_rfl) (by simp) ?_
                      refine AllReadyH.cons rfl (fun K hK => ?_) AllReadyH.nil
                      go_simp
                      have hbk := D.src.lt
                      refine Calls.mono (spec_l20DrawTests D (Ints.dw S.out.ints D HNE.out) HNE.out (by omega) (by omega) (by decide) (by decide)) ?_
                      rintro e y7 ⟨ag, ng, cg, lg, rfl, hG, hng, hd⟩
                      have hz := hd.size
                      have G := Lib.hid (show OwnT y7 wr.heap.size ag ng cg lg from hG.le (by first | exact Nat.le_refl _ | omega))
                      replace D := D.trans hd
                      replace RS := Lib.hid (RS.out.dw hd (by omega))
                      clear hd hG hHeld
                      go_wp2_with fail
                      refine hK.out _ _ (M.out.dw D (by omega)) (fun hHeld => ?_)
                      clear hK K
                      try simp only [Act.put, s1, s2, s3]
                      have hy_y7 := D.size
                      refine mid_at (l1 := #[true, true, true, true, true, true, true, true, true, true, false, false, false, false]) (m := 4) (by kernel_rfl) (by kernel_rfl) (hmid.out _ _ ?_)
                      refine ⟨.slice (some ⟨y5.heap.size, 0, none⟩) 6 6, .int .i64 (r6 : Int), .pointer (some ⟨y5.heap.size, r6, none⟩), nm, ag, ng, cg, lg, ?_, hnm, hng, G.out, D, hHeld⟩
                      simp only [Act.put, List.setIfInBounds_toArray, List.set_cons_zero, List.set_cons_succ]
                    · skip
                      go_simp
                      have hbk := D.src.lt
                      refine Calls.mono (spec_l20DrawTests D (Ints.dw S.out.ints D HNE.out) HNE.out (by omega) (by omega) (by decide) (by decide)) ?_
                      rintro e y8 ⟨ag, ng, cg, lg, rfl, hG, hng, hd⟩
                      have hz := hd.size
                      have G := Lib.hid (show OwnT y8 wr.heap.size ag ng cg lg from hG.le (by first | exact Nat.le_refl _ | omega))
                      replace D := D.trans hd
                      replace RS := Lib.hid (RS.out.dw hd (by omega))
                      clear hd hG hHeld
                      go_wp2_with fail
                      refine hK.out _ _ (M.out.dw D (by omega)) (fun hHeld => ?_)
                      clear hK K
                      try simp only [Act.put, s1, s2, s3]
                      have hy_y8 := D.size
                      refine wpAnyH_ready (rs := [5]) (by kernel_rfl) (by simp) ?_
                      refine AllReadyH.cons rfl (fun K hK => ?_) AllReadyH.nil
                      obtain ⟨nm, hnc, hnm⟩ : ∃ nm : ByteArray, y8.cell? ⟨y5.heap.size, r6, none⟩ = some (.string nm) ∧ nm.size ≤ 100 := by
                        rw [RS.out.cell]
                        rcases (show r6 = 0 ∨ r6 = 1 ∨ r6 = 2 ∨ r6 = 3 ∨ r6 = 4 ∨ r6 = 5 by omega) with rfl | rfl | rfl | rfl | rfl | rfl <;> exact ⟨_, rfl, by decide⟩
                      have hbl9 := RS.out.lt
                      go_simp
                      clear hnc hHeld
                      go_wp2_with fail
                      refine hK.out _ _ (M.out.dw D (by omega)) (fun hHeld => ?_)
                      clear hK K
                      try simp only [Act.put, s1, s2, s3]
                      refine mid_at (l1 := #[true, true, true, true, true, true, true, true, true, true, false, false, false, false]) (m := 4) (by kernel_rfl) (by kernel_rfl) (hmid.out _ _ ?_)
                      refine ⟨.slice (some ⟨y5.heap.size, 0, none⟩) 6 6, .int .i64 (r6 : Int), .pointer (some ⟨y5.heap.size, r6, none⟩), nm, ag, ng, cg, lg, ?_, hnm, hng, G.out, D, hHeld⟩
                      simp only [Act.put, List.setIfInBounds_toArray, List.set_cons_zero, List.set_cons_succ]
                  · skip
                    go_simp
                    have hbk := D.src.lt
                    refine Calls.mono (spec_l20DrawTests D (Ints.dw S.out.ints D HNE.out) HNE.out (by omega) (by omega) (by decide) (by decide)) ?_
                    rintro e y9 ⟨ag, ng, cg, lg, rfl, hG, hng, hd⟩
                    have hz := hd.size
                    have G := Lib.hid (show OwnT y9 wr.heap.size ag ng cg lg from hG.le (by first | exact Nat.le_refl _ | omega))
                    replace D := D.trans hd
                    clear hd hG hHeld
                    go_wp2_with fail
                    refine hK.out _ _ (M.out.dw D (by omega)) (fun hHeld => ?_)
                    clear hK K
                    try simp only [Act.put, s1, s2, s3]
                    have hy_y9 := D.size
                    refine wpAnyH_ready (rs := [1]) (by kernel_rfl) (by simp) ?_
                    refine AllReadyH.cons rfl (fun K hK => ?_) AllReadyH.nil
                    go_simp
                    obtain ⟨y10, hwa⟩ : ∃ v, v = World.alloc y9 (.cells #[.string ⟨#[103, 111]⟩, .string ⟨#[115, 116, 111, 112, 95, 49]⟩, .string ⟨#[111, 112, 101, 110]⟩, .string ⟨#[99, 108, 111, 115, 101]⟩, .string ⟨#[102, 97, 105, 108]⟩, .string ⟨#[114, 50]⟩] 9) := ⟨_, rfl⟩
                    replace D : Dw 55 lo b wr y10 := by rw [hwa]; exact D.alloc _
                    have RS := Lib.hid (show Blk y10 y9.heap.size #[.string ⟨#[103, 111]⟩, .string ⟨#[115, 116, 111, 112, 95, 49]⟩, .string ⟨#[111, 112, 101, 110]⟩, .string ⟨#[99, 108, 111, 115, 101]⟩, .string ⟨#[102, 97, 105, 108]⟩, .string ⟨#[114, 50]⟩] 9 by rw [hwa]; exact Blk.made y9 _ _)
                    have hg9 : Below y9.heap.size y9 y10 := by rw [hwa]; exact below_alloc1 (Below.refl _ _) _
                    replace G := Lib.hid (G.out.keep hg9)
                    clear hg9
                    have hbs := RS.out.lt
                    have hbw : wr.heap.size ≤ y9.heap.size := by first | exact Nat.le_refl _ | omega
                    clear hHeld
                    rw [← hwa]
                    clear hwa
                    go_wp2_with fail
                    refine hK.out _ _ (M.out.dw D (by omega)) (fun hHeld => ?_)
                    clear hK K
                    try simp only [Act.put, s1, s2, s3]
                    have hr60 : (0 : Int) ≤ (r6 : Int) := by omega
                    have hr66 : (r6 : Int) < 6 := by omega
                    refine tkH0 4 (v := ?_) ?_ ?_
                    rotate_left
                    · (intro wv hSw; clear hSw; go_simp; try with_reducible rfl)
                    try simp only [Act.put, s1, s2, s3]
                    refine wpAnyH_ready (rs := [5]) (by kernel_rfl) (by simp) ?_
                    refine AllReadyH.cons rfl (fun K hK => ?_) AllReadyH.nil
                    obtain ⟨nm, hnc, hnm⟩ : ∃ nm : ByteArray, y10.cell? ⟨y9.heap.size, r6, none⟩ = some (.string nm) ∧ nm.size ≤ 100 := by
                      rw [RS.out.cell]
                      rcases (show r6 = 0 ∨ r6 = 1 ∨ r6 = 2 ∨ r6 = 3 ∨ r6 = 4 ∨ r6 = 5 by omega) with rfl | rfl | rfl | rfl | rfl | rfl <;> exact ⟨_, rfl, by decide⟩
                    have hbl9 := RS.out.lt
                    go_simp
                    clear hnc hHeld
                    go_wp2_with fail
                    refine hK.out _ _ (M.out.dw D (by omega)) (fun hHeld => ?_)
                    clear hK K
                    try simp only [Act.put, s1, s2, s3]
                    refine mid_at (l1 := #[true, true, true, true, true, true, true, true, true, true, false, false, false, false]) (m := 4) (by kernel_rfl) (by kernel_rfl) (hmid.out _ _ ?_)
                    refine ⟨.slice (some ⟨y9.heap.size, 0, none⟩) 6 6, .int .i64 (r6 : Int), .pointer (some ⟨y9.heap.size, r6, none⟩), nm, ag, ng, cg, lg, ?_, hnm, hng, G.out, D, hHeld⟩
                    simp only [Act.put, List.setIfInBounds_toArray, List.set_cons_zero, List.set_cons_succ]
              clear D hHeld
              rintro a1 w6 ⟨u1, u3, u4, nm, ag, ng, cg, lg, rfl, hnm, hng, hG, D, hHeld⟩
              try simp only [Act.put, s1, s2, s3]
              clear HNE
              have hsD := D.size
              have X6 := Lib.hid (X.out.dw D (by omega))
              have S6 := Lib.hid (S.out.dw D (by omega))
              have T6 := Lib.hid (T.out.dw D (by omega))
              have M6 := Lib.hid (M.out.dw D (by omega))
              have R6 := Lib.hid (R.out.dw D (by omega))
              have E6 := Lib.hid (E.out.dw D (by omega))
              have G6 := Lib.hid hG
              have D6 := Lib.hid (HD.out.trans D)
              clear hG D HD X S T M R E
              refine tkH0 10 (v := ?_) ?_ ?_
              rotate_left
              · (intro wv hSw; clear hSw; go_simp; try with_reducible rfl)
              try simp only [Act.put, s1, s2, s3]
              refine wpAnyH_ready (rs := [11]) (by kernel_rfl) (by simp) ?_
              refine AllReadyH.cons rfl (fun K hK => ?_) AllReadyH.nil
              go_simp
              have hA7 : Below w6.heap.size w6 (w6.alloc (.cells #[.string nm, .slice ag ng cg, .slice ae q5 c5] 64)) := below_alloc1 (Below.refl _ _) _
              refine hK.out _ _ (M6.out.keep hA7) (fun hHeld => ?_)
              clear hK K
              try simp only [Act.put, s1, s2, s3]
              refine wpAnyH_ready (rs := [12]) (by kernel_rfl) (by simp) ?_
              refine AllReadyH.cons rfl (fun K hK => ?_) AllReadyH.nil
              have hng9 : ng ≤ 1048576 := by omega
              have hq59 : q5 ≤ 1048576 := by omega
              have RO6 := Lib.hid (show RO w6 (p + 1) (⟨nm, ag, ng, cg, ae, q5, c5⟩, ⟨nm, lg, l5⟩) from ⟨rfl, by show nm.size ≤ maxLen; unfold maxLen; omega, G6.out.le (by omega), hng9, E6.out.le (by omega), hq59⟩)
              refine wp_appAtL (k := 3) (enc := encR) (ok := fun _ => True) (cs := #[.string nm, .slice ag ng cg, .slice ae q5 c5]) (.tmp 70) (.tmp 81) (by rfl) Try.underlying25 Try.infoRule (by rfl) (by decide) (by decide) encR_one9 (p + 1) _ _ _ _ [(⟨nm, ag, ng, cg, ae, q5, c5⟩, ⟨nm, lg, l5⟩)] (R6.out.row.keep hA7) (by rfl) w6.heap.size (by rfl) (Blk.made w6 _ _) (by simp [encR, RM.enc]) (by rfl) (fun _ _ => trivial) (by decide) (by omega) (by decide) (by (try simp); omega) ?_
              intro g9 c9 wn ho hb hg
              have ht : Touch (w6.alloc (.cells #[.string nm, .slice ag ng cg, .slice ae q5 c5] 64)) wn 1 a := ⟨_, hg, fun b e => ⟨by decide, own_block R6.out.row.1 b e⟩⟩
              have hty := fun {g : Nat} => (R6.out.row.keep hA7).typ (g := g)
              have Xn := Lib.hid ((X6.out.keep hA7).keepA ht (blk_ne (X6.out.keep hA7) hty (by decide)))
              have Mn := Lib.hid ((M6.out.keep hA7).keepA ht (blk_ne (M6.out.keep hA7) hty (by decide)))
              have Sn := Lib.hid ((S6.out.keep hA7).keepT ht (typ_apart (S6.out.keep hA7).typ hty (by decide)))
              have Tn := Lib.hid ((T6.out.keep hA7).keepT ht (typ_apart (T6.out.keep hA7).typ hty (by decide)))
              have Qn := Lib.hid (show SmR (l ++ [(⟨nm, ag, ng, cg, ae, q5, c5⟩, ⟨nm, lg, l5⟩)]) from fun y hy => by
                rcases List.mem_append.1 hy with hy | hy
                · exact QS.out y hy
                · simp only [List.mem_singleton] at hy
                  subst hy
                  exact ⟨show ng ≤ 100 by omega, show q5 ≤ 100 by omega⟩)
              have Rn := Lib.hid (show RRow wn (p + 1) (some ⟨g9, 0, none⟩) (q + 1) c9 (l ++ [(⟨nm, ag, ng, cg, ae, q5, c5⟩, ⟨nm, lg, l5⟩)]) from ⟨ho, fun y hy => by
                rcases List.mem_append.1 hy with h | h
                · exact ((R6.out.each y h).keep hA7).keepT9 ht hty (by decide) (by decide)
                · simp at h; rw [h]; exact (RO6.out.keep hA7).keepT9 ht hty (by decide) (by decide)⟩)
              have Dn := Lib.hid ((D6.out.below hA7).own hb (by omega))
              have hsn := hb.size
              (try simp at hsn)
              clear ho hb hg ht hty
              refine hK.out _ _ Mn.out (fun hHeld => ?_)
              clear hK K
              try simp only [Act.put, s1, s2, s3]
              refine tkH0 13 (v := ?_) ?_ ?_
              rotate_left
              · (intro wv hSw; clear hSw; go_simp; try with_reducible rfl)
              try simp only [Act.put, s1, s2, s3]
              refine wpAnyH_done (by kernel_rfl) ?_ _
              refine NoPanic.normal ?_
              clear hHeld X6 S6 T6 M6 R6 E6 G6 D6 RO6
              go_wp2
              go_roundw
              case rel => exact ⟨some ⟨g9, 0, none⟩, q + 1, c9, _, n - 1, rfl, by go_num, by omega, by omega, by omega, Dn, Xn, Sn, Tn, Mn, Rn, Qn⟩
              case measure => simp [intOf]; omega
        · have hk' : ¬ 0 < n := hn
          have x0 := X.out.cell 0
          have x1 := X.out.cell 1
          have x2 := X.out.cell 2
          have xl := X.out.lt
          have xf := X.out.free
          simp only [List.getElem?_toArray, List.getElem?_cons_zero, List.getElem?_cons_succ] at x0 x1 x2
          have hgs := (S.out.blk gs rfl).1
          have hgt := (T.out.blk gt rfl).1
          go_wp2
          have hon : ∀ v0 v1 v2 : Value, Only w.heap.size (w.heap.size + 1) wr (((wr.setCell ⟨w.heap.size, 0, none⟩ v0).setCell ⟨w.heap.size, 1, none⟩ v1).setCell ⟨w.heap.size, 2, none⟩ v2) := fun v0 v1 v2 => ((((Only.refl w.heap.size (w.heap.size + 1) wr).set ⟨Nat.le_refl _, Nat.lt_succ_self _⟩ 0 _).set ⟨Nat.le_refl _, Nat.lt_succ_self _⟩ 1 _).set ⟨Nat.le_refl _, Nat.lt_succ_self _⟩ 2 _)
          refine bodyPost_ret (v := .agg #[.slice (some ⟨gs, 0, none⟩) m c1, .slice (some ⟨gt, 0, none⟩) m c2, .slice a q c]) (by simp [results, Try.results60, go_sem, *]) rfl ⟨_, _, _, m, c1, c2, q, c, sz, st, l, rfl, (S.out.only (hon _ _ _) fun g e => by simp at e; omega).le (Nat.le_succ _), (T.out.only (hon _ _ _) fun g e => by simp at e; omega).le (Nat.le_succ _), (R.out.only (hon _ _ _) (by omega)).le (by omega), by omega, by omega, by omega, Z.out, (fun g e e' => by simp at e e'; omega), QS.out, ?_⟩
          exact ((HD.out.set (Nat.le_refl _) 0 _).set (Nat.le_refl _) 1 _).set (Nat.le_refl _) 2 _
end Go.Proofs.Ytcnjnkjnpfpaeaa
