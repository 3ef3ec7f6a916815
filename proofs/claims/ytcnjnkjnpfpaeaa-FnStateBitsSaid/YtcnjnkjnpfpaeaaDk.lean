/- Draws of models, walked: tests. -/
import Derived.Test.YtcnjnkjnpfpaeaaJb
import Derived.Test.YtcnjnkjnpfpaeaaDa
import Derived.Test.YtcnjnkjnpfpaeaaAi
import Derived.Deep.DrawnRows
namespace Go.Proofs.Ytcnjnkjnpfpaeaa
open Go.RowKit
set_option linter.unusedVariables false
set_option linter.unusedSimpArgs false
attribute [local go_sem ↓] Go.wp_at_zero Go.wp_at_succ
theorem I2b.one9 (y : I2b) : ∀ u ∈ y.enc, u.oneCell' = true := fun u hu => by
  simp only [I2b.enc, List.mem_cons, List.not_mem_nil, or_false] at hu
  rcases hu with rfl | rfl | rfl <;> rfl
theorem appIb {zv : Value} {by' : Nat} {P : Program} {w w0 : World} {T : TypeId} {lo b : Nat} {ops : Array Oper} {rest : List Oper} {o : Oper} {act : Act} {Q : Exit → Act → World → Prop} {x0 x1 : Int} {x2 : Bool} {t e : TypeId} (hgd : o.guard = none) (s x : Operand)
    (ho : o.op = .call { callee := .builtin .append, args := #[s, x], argTypes := #[t, t] }) (ht : P.underlying t = some (.slice e)) (hinfo : (P.info? e).map (fun i => (i.zero, i.size, i.bytes)) = some (some zv, 3, by'))
    (hzs : zv.cells.size = 3) (hby : by' ≤ 128) (base : Nat) (a : Option Addr) (n c : Nat) (l : List I2b) (hown : OwnF 3 I2b.enc I2b.ok e w base a n c l) (hs : act.eval s = .slice a n c) (gx : Nat) (hx : act.eval x = .slice (some ⟨gx, 0, none⟩) 1 1) (hg : gx = w.heap.size) (h0 : I64 x0) (h1 : I64 x1)
    (hn : n ≤ 4194304) (hD : Dw T lo b w0 w) (hw0 : w0.heap.size ≤ base) (hbase : base ≤ w.heap.size)
    (K : ∀ a' c' w', OwnF 3 I2b.enc I2b.ok e w' base a' (n + 1) c' (l ++ [⟨x0, x1, x2⟩]) → Below base w w' → Dw T lo b w0 w' → wpList P ops Q rest (act.put o.dst (.slice a' (n + 1) c')) w') : wpList P ops Q (o :: rest) act (w.alloc (.cells #[.int .i64 x0, .int .i64 x1, .bool x2] e)) :=
  appF (m := 1) (l2 := [⟨x0, x1, x2⟩]) hgd s x ho ht hinfo hzs (by decide) hby I2b.one9 base a n c l hown hs gx hx hg rfl rfl (by intro y hy; simp at hy; subst hy; exact ⟨h0, h1⟩) hn (by decide) hD hw0 hbase K
set_option maxHeartbeats 4000000 in
theorem spec_l20DrawTests {b lo sn sc tn tc rn rc : Nat} {most : Int} {sa ta ra : Option Addr} {sz : List Int} {w0 w : World} (hD : Dw 55 lo b w0 w) (hI : Ints w sa sn sc sz) (hne : ∀ g off, sa = some ⟨g, off, none⟩ → g ≠ b) (hn : sn ≤ 1048576) (h1 : 1 ≤ sn) (hm0 : 0 ≤ most) (hm : most ≤ 10) :
    Calls Try.prog 65 #[.pointer (some ⟨b, 0, none⟩), .agg #[.slice sa sn sc, .slice ta tn tc, .slice ra rn rc], .int .i64 most] w fun e w' => ∃ (a : Option Addr) (n c : Nat) (l : List I2b), e = .returned (.slice a n c) ∧ OwnF 3 I2b.enc I2b.ok 74 w' w.heap.size a n c l ∧ (n : Int) ≤ most ∧ Dw 55 lo b w w' := by
  have hbl := hD.src.lt.2
  have HS := Lib.hid hD.start
  have HI := Lib.hid hI
  have HNE := Lib.hid hne
  have HLO := Lib.hid (show ∀ g off, sa = some ⟨g, off, none⟩ → g < w.heap.size from fun g off e => by
    rcases hI.pos with h | ⟨b', o', e', hlt, _⟩
    · omega
    · rw [e] at e'; simp only [Option.some.injEq, Addr.mk.injEq] at e'; omega)
  have e0 : IntKind.i64.wrap (most + 1) = most + 1 := IntWalk.i64_in _ (by omega)
  clear hD hI hne
  go_enter Try.func65, Try.ntmps65
  go_wp2_with fail
  have X0 := Lib.hid ((Blk.made w #[.slice sa sn sc, .slice ta tn tc, .slice ra rn rc] 27).keep (below_alloc1 (Below.refl _ _) (.cells #[] 74)))
  have O0 := Lib.hid (show OwnF 3 I2b.enc I2b.ok 74 ((w.alloc (.cells #[.slice sa sn sc, .slice ta tn tc, .slice ra rn rc] 27)).alloc (.cells #[] 74)) (w.heap.size + 1) (some ⟨w.heap.size + 1, 0, none⟩) 0 0 [] from by
    have h := OwnF.emp (k := 3) (enc := I2b.enc) (ok := I2b.ok) (E := 74) (base := w.heap.size + 1) (w.alloc (.cells #[.slice sa sn sc, .slice ta tn tc, .slice ra rn rc] 27)) (by simp) (fun _ => rfl)
    simpa using h)
  have D0 := Lib.hid ((HS.out.alloc (.cells #[.slice sa sn sc, .slice ta tn tc, .slice ra rn rc] 27)).alloc (.cells #[] 74))
  have I0 := Lib.hid (HI.out.keep (below_alloc1 (below_alloc1 (Below.refl _ _) (.cells #[.slice sa sn sc, .slice ta tn tc, .slice ra rn rc] 27)) (.cells #[] 74)))
  refine Calls.mono (dw_next (b := b) (lo := lo) D0.out.src (by unfold I64; omega)) ?_
  rintro e w1 ⟨k0, rfl, hk0, hk1, hd⟩
  have hk2 : k0 ≤ most := by omega
  have hs1 := hd.size
  have hs1' : w.heap.size + 2 ≤ w1.heap.size := by simpa using hs1
  have D1 := Lib.hid (D0.out.trans hd)
  have X1 := Lib.hid (X0.out.dw hd (by omega))
  have O1 := Lib.hid (O0.out.dw hd (by omega))
  have I1 := Lib.hid (I0.out.dw hd HNE.out)
  clear hd D0 X0 O0 I0 hs1 hk1 HS HI
  go_wp2_with fail
  go_loopw [7, 8] (fun s7 s8 wr => ∃ (a : Option Addr) (m c : Nat) (L : List I2b) (k : Int), s7 = .slice a m c ∧ s8 = .int .i64 k ∧ 0 ≤ k ∧ (m : Int) + k ≤ most ∧ w.heap.size + 2 ≤ wr.heap.size ∧ Hid (Dw 55 lo b w wr) ∧ Hid (Blk wr w.heap.size #[.slice sa sn sc, .slice ta tn tc, .slice ra rn rc] 27) ∧ Hid (OwnF 3 I2b.enc I2b.ok 74 wr (w.heap.size + 1) a m c L) ∧ Hid (Ints wr sa sn sc sz)) (fun _ s8 _ => (intOf s8).toNat)
  case atStart => exact ⟨_, 0, 0, [], k0, rfl, rfl, hk0, by omega, hs1', D1, X1, O1, I1⟩
  case round =>
    clear D1 X1 O1 I1
    obtain ⟨a, m, c, L, k, rfl, rfl, hk0, hmk, hsr, HD, X, O, I⟩ := hrel
    by_cases hk : 0 < k
    · have e2 : IntKind.i64.wrap (k - 1) = k - 1 := IntWalk.i64_in _ (by omega)
      have x0 := X.out.cell 0
      have x1 := X.out.cell 1
      have x2 := X.out.cell 2
      have xl := X.out.lt
      simp only [List.getElem?_toArray, List.getElem?_cons_zero, List.getElem?_cons_succ] at x0 x1 x2
      go_wp2_with fail
      refine Calls.mono (dw_next (b := b) (lo := lo) HD.out.src (by unfold I64; omega)) ?_
      rintro e w2 ⟨v, rfl, hv0, hv1, hd⟩
      have hvn : v < (sn : Int) := by omega
      have hs2 := hd.size
      have D2 := Lib.hid (HD.out.trans hd)
      have X2 := Lib.hid (X.out.dw hd (by omega))
      have O2 := Lib.hid (O.out.dw hd (by omega))
      have I2 := Lib.hid (I.out.dw hd HNE.out)
      clear hd HD X O I x0 x1 x2 xl hv1
      obtain ⟨q, rfl⟩ : ∃ q : Nat, v = (q : Int) := ⟨v.toNat, by omega⟩
      obtain ⟨sb, so, z, rfl, hsb, hz, hzc, hz64⟩ := I2.out.at (show q < sn by omega)
      have x0 := X2.out.cell 0
      have x1 := X2.out.cell 1
      have x2 := X2.out.cell 2
      have xl := X2.out.lt
      simp only [List.getElem?_toArray, List.getElem?_cons_zero, List.getElem?_cons_succ] at x0 x1 x2
      go_wp2_with fail
      refine Calls.mono (dw_next (b := b) (lo := lo) D2.out.src hz64) ?_
      rintro e w3 ⟨x, rfl, hx0, hx1, hd⟩
      have hxi : I64 x := by unfold I64 at hz64 ⊢; omega
      have hs3 := hd.size
      have D3 := Lib.hid (D2.out.trans hd)
      have X3 := Lib.hid (X2.out.dw hd (by omega))
      have O3 := Lib.hid (O2.out.dw hd (by omega))
      have I3 := Lib.hid (I2.out.dw hd HNE.out)
      clear hd D2 X2 O2 I2 x0 x1 x2 xl hx1 hzc hsb
      go_wp2_with fail
      refine Calls.mono (dw_next (b := b) (lo := lo) D3.out.src (by decide)) ?_
      rintro e w4 ⟨y, rfl, hy0, hy1, hd⟩
      have hs4 := hd.size
      have D4 := Lib.hid (D3.out.trans hd)
      have X4 := Lib.hid (X3.out.dw hd (by omega))
      have O4 := Lib.hid (O3.out.dw hd (by omega))
      have I4 := Lib.hid (I3.out.dw hd HNE.out)
      clear hd D3 X3 O3 I3 hy1
      go_wp2_with (at_builtin; refine appIb (lo := lo) (b := b) (w0 := w) rfl _ _ rfl Try.underlying61 Try.infoTest rfl (by decide) (w.heap.size + 1) _ _ _ _ O4.out rfl _ rfl rfl (by unfold I64; omega) hxi (by omega) D4.out (by omega) (by omega) ?_; intro a5 c5 w5 ho5 hb5 hd5)
      have D5 := Lib.hid hd5
      have O5 := Lib.hid ho5
      have X5 := Lib.hid (X4.out.keepB hb5 (by omega))
      have hs5 := hb5.size
      have I5 := Lib.hid (I4.out.only (lo := w.heap.size + 1) (hi := w4.heap.size) ⟨hb5.os, hb5.tape, hb5.output, hb5.size, fun k hk hr => hb5.block k (by omega)⟩ (fun g off e => .inl (Nat.lt_succ_of_lt (HLO.out g off e))))
      clear hd5 ho5 hb5 D4 X4 O4 I4
      go_roundw
      case rel => exact ⟨a5, m + 1, c5, _, k - 1, rfl, by go_num, by omega, by omega, by omega, D5, X5, O5, I5⟩
      case measure => simp [intOf]; omega
    · have hk' : ¬ 0 < k := hk
      go_wp2
      go_ret
      exact ⟨a, m, c, rfl, ⟨L, O.out.le (Nat.le_succ _)⟩, by omega, HD.out⟩
end Go.Proofs.Ytcnjnkjnpfpaeaa
