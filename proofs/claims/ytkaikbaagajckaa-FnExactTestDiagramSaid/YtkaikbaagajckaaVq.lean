/- The canonical diagram of a reference among a forest's nodes: the program, walked. -/
import Derived.Test.YtkaikbaagajckaaVo
import Derived.Test.YtkaikbaagajckaaVp
import Derived.Laws.EntriesVeiled
namespace Go.Proofs.Ytkaikbaagajckaa
open Go.RowKit
set_option linter.unusedVariables false
set_option linter.unusedSimpArgs false
/-- an entry of a map's literal -/
theorem MapA.insL {α : Type} {Kt : TypeId} {enc : α → Value} {ok : α → Prop} {lit : α → Lit} [DecidableEq α] {w : World} {b n : Nat} {f : α → Option Int} (h : MapA Kt ok lit w b n f) (hK : KeyA Kt enc ok lit) {t : TypeId} (ht : Try.prog.underlying t = some (.map Kt 2)) (hn : n < maxLen) {x : α} (hx : ok x) {v : Int} (hv : I64 v)
    {o : Oper} {ops : Array Oper} {rest : List Oper} {act : Act} {Q : Exit → Act → World → Prop} (hgd : o.guard = none) (m y z : Operand) (hop : o.op = Op.insert t m y z) (hm : act.eval m = .map (some b)) (hy : act.eval y = enc x) (hz : act.eval z = .int .i64 v)
    (hk : ∀ w', MapA Kt ok lit w' b (n + 1) (fun y => if y = x then some v else f y) → w.grownBy w' (some b) → wpList Try.prog ops Q rest (act.put o.dst undef) w') : wpList Try.prog ops Q (o :: rest) act w := by
  obtain ⟨w', hrun, h1, h2⟩ := h.put hK ht hn hx hv
  refine wpList_plain hgd fun K hKK => ?_
  unfold Oper.wp
  simp [execOp, hop, hm, hy, hz, hrun, Result.andThen]
  exact hKK _ _ (hk w' h1 h2)
set_option maxRecDepth 100000 in
set_option maxHeartbeats 4000000 in
theorem impl_canonical {lo p mb nc mn : Nat} {inp root : Int} {na : Option Addr} {L : List I3} {w : World} (hFor : ForA w lo p mb inp na nc mn L) (hR : Redu L) (hL : L.length ≤ 4194000) (hinp : I64 inp) (hr : RefB root L.length) :
    Calls Try.prog 67 #[.pointer (some ⟨p, 0, none⟩), .int .i64 root] w fun e w' => ∃ da dc, e = .returned (.agg #[.int .i64 inp, .slice da (canN mkN L root).1.length dc, .int .i64 (canN mkN L root).2]) ∧ OwnF 3 I3.enc I3.ok 76 w' w.heap.size da (canN mkN L root).1.length dc (canN mkN L root).1 ∧ Below w.heap.size w w' := by
  obtain ⟨r, rfl⟩ : ∃ r : Nat, root = (r : Int) := ⟨root.toNat, by have := hr.1; omega⟩
  have hrn : r < L.length + 2 := by have := hr.2; omega
  have p0 := hFor.blk.cell 0
  have pl := hFor.blk.lt
  simp at p0
  have HF := Lib.hid hFor
  clear hFor
  have hmm := @run_makeMap Try.prog
  have M0 : Hid (∀ o1 o2 o3, MapA 2 I64 litK1 ((((w.alloc o1).alloc o2).alloc o3).alloc (.map #[] 0)) (w.heap.size + 1 + 1 + 1) 0 (fun _ => none)) := Lib.hid fun o1 o2 o3 => by
    have h := MapA.made (Kt := 2) (ok := I64) (lit := litK1) (((w.alloc o1).alloc o2).alloc o3)
    simpa using h
  go_enter Try.func67, Try.ntmps67
  go_wp2_with (first
    | ((with_reducible show wpList _ _ _ (Oper.mk _ (Op.insert _ _ _ _) _ _ _ _ :: _) _ _); refine MapA.insL M1.out keyI Try.underlying141 (by unfold maxLen; omega) (x := (1 : Int)) (by unfold I64; omega) (v := (1 : Int)) (by unfold I64; omega) rfl _ _ _ rfl rfl rfl rfl ?_; intro w2 hm2 hg2; have M2 := Lib.hid hm2; have G2 := Lib.hid hg2; clear hm2 hg2)
    | ((with_reducible show wpList _ _ _ (Oper.mk _ (Op.insert _ _ _ _) _ _ _ _ :: _) _ _); refine MapA.insL (M0.out _ _ _) keyI Try.underlying141 (by unfold maxLen; omega) (x := (0 : Int)) (by unfold I64; omega) (v := (0 : Int)) (by unfold I64; omega) rfl _ _ _ rfl rfl rfl rfl ?_; intro w1 hm1 hg1; have M1 := Lib.hid hm1; have G1 := Lib.hid hg1; clear hm1 hg1))
  have hs1 : w.heap.size + 4 ≤ w1.heap.size := by have := G1.out.size; simp at this; omega
  have hs2 : w1.heap.size ≤ w2.heap.size := G2.out.size
  have lift : ∀ {b : Nat} {cs : Array Value} {T : TypeId}, Blk ((((w.alloc (.cells #[.pointer (some ⟨p, 0, none⟩)] 87)).alloc (.cells #[.int .i64 0, .slice none 0 0, .int .i64 0] 26)).alloc (.cells #[.int .i64 inp, .slice none 0 0, .int .i64 0] 26)).alloc (.map #[] 0)) b cs T → w.heap.size + 1 + 1 + 1 ≠ b → Blk w2 b cs T := fun h hb => (h.keepN G1.out hb).keepN G2.out hb
  have bF2 := Lib.hid (lift (b := w.heap.size) (cs := #[.pointer (some ⟨p, 0, none⟩)]) (T := 87) ((Blk.made _ _ _).keep (below_alloc1 (below_alloc1 (below_alloc1 (Below.refl _ _) _) _) _)) (by omega))
  have bR2 := Lib.hid (lift (b := w.heap.size + 1) (cs := #[.int .i64 0, .slice none 0 0, .int .i64 0]) (T := 26) ((Blk.made1 _ _ _ _).keep (below_alloc1 (below_alloc1 (Below.refl _ _) _) _)) (by omega))
  have bD2 := Lib.hid (lift (b := w.heap.size + 1 + 1) (cs := #[.int .i64 inp, .slice none 0 0, .int .i64 0]) (T := 26) ((Blk.made2 _ _ _ _ _).keep (below_alloc1 (Below.refl _ _) _)) (by omega))
  have hg02 : w.grownBy w2 (some (w.heap.size + 1 + 1 + 1)) := grownBy_trans (grownBy_trans (grownBy_allocT (grownBy_allocT (grownBy_allocT (grownBy_allocT (grownBy_refl _ _) _) _) _) _) G1.out) G2.out
  have hb02 : Below w.heap.size w w2 := ⟨hg02.os, hg02.tape, hg02.output, hg02.size, fun k hk => hg02.block k hk (fun e => by simp at e; omega)⟩
  have hbW := fun (o1 o2 : Obj) => (below_alloc1 (below_alloc1 (Below.refl w2.heap.size w2) o1) o2)
  have hb0W := fun (o1 o2 : Obj) => below_callS hb02 (hbW o1 o2)
  have M3 := Lib.hid (M2.out.congr (g := plF (fun _ => 0)) (fun x _ => by
    by_cases e1 : x = 1
    · subst e1; rfl
    · by_cases e0 : x = 0
      · subst e0; rfl
      · rw [if_neg e1, if_neg e0, plF, if_neg e0, if_neg e1, if_neg (by simp)]))
  have HR := Lib.hid hR
  have hlof : ∀ g off, na = some ⟨g, off, none⟩ → g < w.heap.size := fun g off e => by
    rcases HF.out.own.flats.pos with h | ⟨b, o, ha, hb, _⟩
    · have := HF.out.own.1.2
      rcases this with ⟨he, _⟩ | ⟨g', cap, cur, he, _, hg, _⟩
      · simp only [Value.slice.injEq] at he; rw [he.1] at e; cases e
      · simp only [Value.slice.injEq] at he
        rw [he.1] at e
        simp only [Option.some.injEq, Addr.mk.injEq] at e
        exact (HF.out.own.blk g (by rw [he.1, e.1])).2
    · rw [ha] at e
      simp only [Option.some.injEq, Addr.mk.injEq] at e
      omega
  refine Calls.mono (impl_visit (lo := w2.heap.size + 2) (p := p) (mp := w.heap.size + 1 + 1 + 1) (na := na) (n := L.length) (inp := inp) (nc := nc) (mb := mb) hR hL hinp r r [] (fun _ => 0) none 0 2 _ ?_ (WkI.start L) (Nat.le_refl _) hrn) ?_
  · refine ⟨bF2.out.keep (hbW _ _), (HF.out.keep (hb0W _ _)).blk, (HF.out.keep (hb0W _ _)).own.flats, ?_, M3.out.keep (hbW _ _), Blk.made1 _ _ _ _, bD2.out.keep (hbW _ _), ⟨World.ownsRow_nil _ _ _ 3, (fun _ h => by cases h), rfl, fun _ => rfl⟩, by omega, ?_, fun g off e => ?_⟩
    · exact (Blk.made _ _ _).keep (below_alloc1 (Below.refl _ _) _)
    · simp
      have := HF.out.blk.lt
      omega
    · have := hlof g off e
      omega
  rintro e w5 ⟨rfl, da, dc, mn', hC, hFr⟩
  have hca := Lib.hid (can_same hR hr)
  rw [canN, canN, Int.toNat_natCast] at hca
  have X5 := Lib.hid ((bR2.out.keep (hbW _ _)).frc hFr (by omega) (by omega) (fun g e => by cases e))
  have HC := Lib.hid hC
  have HB5 := Lib.hid (show Below w.heap.size w w5 from ⟨hFr.os.trans (hb0W _ _).os, hFr.tape.trans (hb0W _ _).tape, hFr.output.trans (hb0W _ _).output, Nat.le_trans (hb0W _ _).size hFr.size, fun k hk => (hFr.block k (Nat.lt_of_lt_of_le hk (hb0W _ _).size) (by omega) (by omega) (fun g e => by cases e)).trans ((hb0W _ _).block k hk)⟩)
  have hs5 := hFr.size
  simp at hs5
  clear hC hFr hbW hb0W lift
  generalize wlkN appN L r ([], fun _ => 0) r = A at *
  obtain ⟨D, P, rt⟩ := A
  simp only at HC
  have d0 := HC.out.d.cell 0
  have d1 := HC.out.d.cell 1
  have d2 := HC.out.d.cell 2
  have dl := HC.out.d.lt
  have df := HC.out.d.free
  have x0 := X5.out.cell 0
  have x1 := X5.out.cell 1
  have x2 := X5.out.cell 2
  have xl := X5.out.lt
  have xf := X5.out.free
  simp only [List.getElem?_toArray, List.getElem?_cons_succ, List.getElem?_cons_zero] at d0 d1 d2 x0 x1 x2
  go_wp2
  have hcan : canN mkN L (r : Int) = (D, rt) := by rw [canN, Int.toNat_natCast]; exact hca.out
  have hne : ∀ {b : Nat}, b < w2.heap.size → ∀ g, da = some ⟨g, 0, none⟩ → (some b : Option Nat) ≠ some g := fun {b} hb g e e' => by
    have := (HC.out.own.blk g e).1
    simp at e'
    omega
  have O := HC.out.own
  have HB := HB5.out
  refine bodyPost_ret (v := .agg #[.int .i64 inp, .slice da D.length dc, .int .i64 rt]) (by simp [results, Try.results67, go_sem, *]) rfl ⟨da, dc, ?_, ?_, ?_⟩
  · rw [hcan]
  · rw [hcan]
    exact ((((O.keepG (set_grown _ _ _) (hne (by omega))).keepG (set_grown _ _ _) (hne (by omega))).keepG (set_grown _ _ _) (hne (by omega))).keepG (set_grown _ _ _) (hne (by omega))).le (by omega)
  · repeat (first | exact Below.refl _ _ | assumption | refine below_allocS ?_ _ | refine below_callS ?_ (by assumption) | (refine Below.alloc ?_ (by first | omega | (simp; done) | (simp; omega)) _) | (refine Below.setCell ?_ (by first | omega | (simp; done) | (simp; omega)) _) | refine Below.drew ?_ | refine below_drewN ?_ _ | (refine below_call ?_ (by assumption) (by first | omega | (simp; done) | (simp; omega))) | (refine Below.trans ?_ (by assumption)))
set_option maxRecDepth 100000 in
set_option maxHeartbeats 2000000 in
theorem impl_limited {lo p mb nc mn : Nat} {inp root : Int} {na : Option Addr} {L : List I3} {w : World} (hFor : ForA w lo p mb inp na nc mn L) (hR : Redu L) (hL : L.length ≤ 4194000) (hinp : I64 inp) (hr : RefB root L.length) (hfew : (canN mkN L root).1.length ≤ 2000) :
    Calls Try.prog 73 #[.pointer (some ⟨p, 0, none⟩), .int .i64 root] w fun e w' => ∃ da dc, e = .returned (.tuple #[.agg #[.int .i64 inp, .slice da (canN mkN L root).1.length dc, .int .i64 (canN mkN L root).2], .int .i64 0]) ∧ OwnF 3 I3.enc I3.ok 76 w' w.heap.size da (canN mkN L root).1.length dc (canN mkN L root).1 ∧ Below w.heap.size w w' := by
  have hbW := fun (o : Obj) => below_alloc1 (Below.refl w.heap.size w) o
  have HF := Lib.hid hFor
  clear hFor
  go_enter Try.func73, Try.ntmps73
  go_wp2_with fail
  refine Calls.mono (impl_canonical (HF.out.keep (hbW _)) hR hL hinp hr) ?_
  rintro e w1 ⟨da, dc, rfl, hO, hb1⟩
  have X1 := Lib.hid ((Blk.made w #[.int .i64 0, .slice none 0 0, .int .i64 0] 26).keep hb1)
  have hs1 := hb1.size
  simp at hs1
  have O1 := Lib.hid hO
  have HB1 := Lib.hid (below_callS (hbW _) hb1)
  clear hO hb1 hbW
  have hn : ¬ (2000 : Int) < ((canN mkN L root).1.length : Int) := by omega
  have x0 := X1.out.cell 0
  have x1 := X1.out.cell 1
  have x2 := X1.out.cell 2
  have xl := X1.out.lt
  have xf := X1.out.free
  simp only [List.getElem?_toArray, List.getElem?_cons_succ, List.getElem?_cons_zero] at x0 x1 x2
  go_wp2
  have hne : ∀ g, da = some ⟨g, 0, none⟩ → (some w.heap.size : Option Nat) ≠ some g := fun g e e' => by
    have := (O1.out.blk g e).1
    simp at e' this
    omega
  have hb0 : Below w.heap.size w w1 := HB1.out
  refine bodyPost_ret (v := .tuple #[.agg #[.int .i64 inp, .slice da (canN mkN L root).1.length dc, .int .i64 (canN mkN L root).2], .int .i64 0]) (by simp [results, Try.results73, go_sem, *]) rfl ⟨da, dc, rfl, ?_, ?_⟩
  · exact ((((O1.out.keepG (set_grown _ _ _) hne).keepG (set_grown _ _ _) hne).keepG (set_grown _ _ _) hne).keep (below_alloc1 (Below.refl _ _) _)).le (by simp)
  · repeat (first | exact Below.refl _ _ | assumption | refine below_allocS ?_ _ | refine below_callS ?_ (by assumption) | (refine Below.alloc ?_ (by first | omega | (simp; done) | (simp; omega)) _) | (refine Below.setCell ?_ (by first | omega | (simp; done) | (simp; omega)) _) | refine Below.drew ?_ | refine below_drewN ?_ _ | (refine below_call ?_ (by assumption) (by first | omega | (simp; done) | (simp; omega))) | (refine Below.trans ?_ (by assumption)))
end Go.Proofs.Ytkaikbaagajckaa
