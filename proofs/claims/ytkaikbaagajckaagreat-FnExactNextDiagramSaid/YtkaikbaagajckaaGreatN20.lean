/- The canonical diagram of a reference among a forest's nodes: the program, walked.; Sets of lists of bits as diagrams: the program, walked.; Sets of lists of bits as diagrams: the reference, walked.; Diagrams that are not too large: the reference, walked.; The reference's comparison of states, its binary search and its insertion, walked. -/
import Derived.Test.YtkaikbaagajckaaGreatN19
import Derived.Test.YtkaikbaagajckaaGreatN18
import Derived.Laws.EntriesVeiled
import Derived.Test.YtkaikbaagajckaaGreatPu
import Derived.Test.YtkaikbaagajckaaGreatN15
import Derived.Test.YtkaikbaagajckaaGreatN17
import Derived.Test.YtkaikbaagajckaaGreatN01
import Derived.Test.YtkaikbaagajckaaGreatN10
import Derived.Deep.DrawnRows
import Derived.BigRegion
import Derived.BigQuiet
namespace Go.Proofs.YtkaikbaagajckaaGreat
open Go.RowKit
set_option linter.unusedVariables false
set_option linter.unusedSimpArgs false
/-- an entry of a map's literal -/
theorem MapA.insL {α : Type} {Kt : TypeId} {enc : α → Value} {ok : α → Prop} {lit : α → Lit} [DecidableEq α] {w : World} {b n : Nat} {f : α → Option Int} (h : MapA Kt ok lit w b n f) (hK : KeyA Kt enc ok lit) {t : TypeId} (ht : Tryz.prog.underlying t = some (.map Kt 2)) (hn : n < maxLen) {x : α} (hx : ok x) {v : Int} (hv : I64 v)
    {o : Oper} {ops : Array Oper} {rest : List Oper} {act : Act} {Q : Exit → Act → World → Prop} (hgd : o.guard = none) (m y z : Operand) (hop : o.op = Op.insert t m y z) (hm : act.eval m = .map (some b)) (hy : act.eval y = enc x) (hz : act.eval z = .int .i64 v)
    (hk : ∀ w', MapA Kt ok lit w' b (n + 1) (fun y => if y = x then some v else f y) → w.grownBy w' (some b) → wpList Tryz.prog ops Q rest (act.put o.dst undef) w') : wpList Tryz.prog ops Q (o :: rest) act w := by
  obtain ⟨w', hrun, h1, h2⟩ := h.put hK ht hn hx hv
  refine wpList_plain hgd fun K hKK => ?_
  unfold Oper.wp
  simp [execOp, hop, hm, hy, hz, hrun, Result.andThen]
  exact hKK _ _ (hk w' h1 h2)
set_option maxRecDepth 100000 in
set_option maxHeartbeats 4000000 in
theorem impl_canonical {lo p mb nc mn : Nat} {inp root : Int} {na : Option Addr} {L : List I3} {w : World} (hFor : ForA w lo p mb inp na nc mn L) (hR : Redu L) (hL : L.length ≤ 4194000) (hinp : I64 inp) (hr : RefB root L.length) :
    Calls Tryz.prog 109 #[.pointer (some ⟨p, 0, none⟩), .int .i64 root] w fun e w' => ∃ da dc, e = .returned (.agg #[.int .i64 inp, .slice da (canN mkN L root).1.length dc, .int .i64 (canN mkN L root).2]) ∧ OwnF 3 I3.enc I3.ok 117 w' w.heap.size da (canN mkN L root).1.length dc (canN mkN L root).1 ∧ Below w.heap.size w w' := by
  obtain ⟨r, rfl⟩ : ∃ r : Nat, root = (r : Int) := ⟨root.toNat, by have := hr.1; omega⟩
  have hrn : r < L.length + 2 := by have := hr.2; omega
  have p0 := hFor.blk.cell 0
  have pl := hFor.blk.lt
  simp at p0
  have HF := Lib.hid hFor
  clear hFor
  have hmm := @run_makeMap Tryz.prog
  have M0 : Hid (∀ o1 o2 o3, MapA 2 I64 litK1 ((((w.alloc o1).alloc o2).alloc o3).alloc (.map #[] 0)) (w.heap.size + 1 + 1 + 1) 0 (fun _ => none)) := Lib.hid fun o1 o2 o3 => by
    have h := MapA.made (Kt := 2) (ok := I64) (lit := litK1) (((w.alloc o1).alloc o2).alloc o3)
    simpa using h
  go_enter Tryz.func109, Tryz.ntmps109
  go_wp2_with (first
    | ((with_reducible show wpList _ _ _ (Oper.mk _ (Op.insert _ _ _ _) _ _ _ _ :: _) _ _); refine MapA.insL M1.out keyI Tryz.underlying214 (by unfold maxLen; omega) (x := (1 : Int)) (by unfold I64; omega) (v := (1 : Int)) (by unfold I64; omega) rfl _ _ _ rfl rfl rfl rfl ?_; intro w2 hm2 hg2; have M2 := Lib.hid hm2; have G2 := Lib.hid hg2; clear hm2 hg2)
    | ((with_reducible show wpList _ _ _ (Oper.mk _ (Op.insert _ _ _ _) _ _ _ _ :: _) _ _); refine MapA.insL (M0.out _ _ _) keyI Tryz.underlying214 (by unfold maxLen; omega) (x := (0 : Int)) (by unfold I64; omega) (v := (0 : Int)) (by unfold I64; omega) rfl _ _ _ rfl rfl rfl rfl ?_; intro w1 hm1 hg1; have M1 := Lib.hid hm1; have G1 := Lib.hid hg1; clear hm1 hg1))
  have hs1 : w.heap.size + 4 ≤ w1.heap.size := by have := G1.out.size; simp at this; omega
  have hs2 : w1.heap.size ≤ w2.heap.size := G2.out.size
  have lift : ∀ {b : Nat} {cs : Array Value} {T : TypeId}, Blk ((((w.alloc (.cells #[.pointer (some ⟨p, 0, none⟩)] 101)).alloc (.cells #[.int .i64 0, .slice none 0 0, .int .i64 0] 40)).alloc (.cells #[.int .i64 inp, .slice none 0 0, .int .i64 0] 40)).alloc (.map #[] 0)) b cs T → w.heap.size + 1 + 1 + 1 ≠ b → Blk w2 b cs T := fun h hb => (h.keepN G1.out hb).keepN G2.out hb
  have bF2 := Lib.hid (lift (b := w.heap.size) (cs := #[.pointer (some ⟨p, 0, none⟩)]) (T := 101) ((Blk.made _ _ _).keep (below_alloc1 (below_alloc1 (below_alloc1 (Below.refl _ _) _) _) _)) (by omega))
  have bR2 := Lib.hid (lift (b := w.heap.size + 1) (cs := #[.int .i64 0, .slice none 0 0, .int .i64 0]) (T := 40) ((Blk.made1 _ _ _ _).keep (below_alloc1 (below_alloc1 (Below.refl _ _) _) _)) (by omega))
  have bD2 := Lib.hid (lift (b := w.heap.size + 1 + 1) (cs := #[.int .i64 inp, .slice none 0 0, .int .i64 0]) (T := 40) ((Blk.made2 _ _ _ _ _).keep (below_alloc1 (Below.refl _ _) _)) (by omega))
  have hg02 : w.grownBy w2 (some (w.heap.size + 1 + 1 + 1)) := grownBy_trans (grownBy_trans (grownBy_allocT (grownBy_allocT (grownBy_allocT (grownBy_allocT (grownBy_refl _ _) _) _) _) _) G1.out) G2.out
  have hb02 : Below w.heap.size w w2 := ⟨hg02.os, hg02.tape, hg02.output, hg02.size, fun k hk => hg02.block k hk (fun e => by simp at e; omega)⟩
  have hbW := fun (o1 o2 : Obj) => (below_alloc1 (below_alloc1 (Below.refl w2.heap.size w2) o1) o2)
  have hb0W := fun (o1 o2 : Obj) => below_callS hb02 (hbW o1 o2)
  have M3 := Lib.hid (M2.out.congr (g := plF (fun _ => 0)) (fun x _ => by
    by_cases e1 : x = 1
    · subst e1; rfl
    · by_cases e0 : x = 0
      · subst e0; rfl
      · rw [if_neg e1, if_neg e0, plF, if_neg e0, if_neg e1, if_neg (by simp)]))
  have HR := Lib.hid hR
  have hlof : ∀ g off, na = some ⟨g, off, none⟩ → g < w.heap.size := fun g off e => by
    rcases HF.out.own.flats.pos with h | ⟨b, o, ha, hb, _⟩
    · have := HF.out.own.1.2
      rcases this with ⟨he, _⟩ | ⟨g', cap, cur, he, _, hg, _⟩
      · simp only [Value.slice.injEq] at he; rw [he.1] at e; cases e
      · simp only [Value.slice.injEq] at he
        rw [he.1] at e
        simp only [Option.some.injEq, Addr.mk.injEq] at e
        exact (HF.out.own.blk g (by rw [he.1, e.1])).2
    · rw [ha] at e
      simp only [Option.some.injEq, Addr.mk.injEq] at e
      omega
  refine Calls.mono (impl_visit (lo := w2.heap.size + 2) (p := p) (mp := w.heap.size + 1 + 1 + 1) (na := na) (n := L.length) (inp := inp) (nc := nc) (mb := mb) hR hL hinp r r [] (fun _ => 0) none 0 2 _ ?_ (WkI.start L) (Nat.le_refl _) hrn) ?_
  · refine ⟨bF2.out.keep (hbW _ _), (HF.out.keep (hb0W _ _)).blk, (HF.out.keep (hb0W _ _)).own.flats, ?_, M3.out.keep (hbW _ _), Blk.made1 _ _ _ _, bD2.out.keep (hbW _ _), ⟨World.ownsRow_nil _ _ _ 3, (fun _ h => by cases h), rfl, fun _ => rfl⟩, by omega, ?_, fun g off e => ?_⟩
    · exact (Blk.made _ _ _).keep (below_alloc1 (Below.refl _ _) _)
    · simp
      have := HF.out.blk.lt
      omega
    · have := hlof g off e
      omega
  rintro e w5 ⟨rfl, da, dc, mn', hC, hFr⟩
  have hca := Lib.hid (can_same hR hr)
  rw [canN, canN, Int.toNat_natCast] at hca
  have X5 := Lib.hid ((bR2.out.keep (hbW _ _)).frc hFr (by omega) (by omega) (fun g e => by cases e))
  have HC := Lib.hid hC
  have HB5 := Lib.hid (show Below w.heap.size w w5 from ⟨hFr.os.trans (hb0W _ _).os, hFr.tape.trans (hb0W _ _).tape, hFr.output.trans (hb0W _ _).output, Nat.le_trans (hb0W _ _).size hFr.size, fun k hk => (hFr.block k (Nat.lt_of_lt_of_le hk (hb0W _ _).size) (by omega) (by omega) (fun g e => by cases e)).trans ((hb0W _ _).block k hk)⟩)
  have hs5 := hFr.size
  simp at hs5
  clear hC hFr hbW hb0W lift
  generalize wlkN appN L r ([], fun _ => 0) r = A at *
  obtain ⟨D, P, rt⟩ := A
  simp only at HC
  have d0 := HC.out.d.cell 0
  have d1 := HC.out.d.cell 1
  have d2 := HC.out.d.cell 2
  have dl := HC.out.d.lt
  have df := HC.out.d.free
  have x0 := X5.out.cell 0
  have x1 := X5.out.cell 1
  have x2 := X5.out.cell 2
  have xl := X5.out.lt
  have xf := X5.out.free
  simp only [List.getElem?_toArray, List.getElem?_cons_succ, List.getElem?_cons_zero] at d0 d1 d2 x0 x1 x2
  go_wp2
  have hcan : canN mkN L (r : Int) = (D, rt) := by rw [canN, Int.toNat_natCast]; exact hca.out
  have hne : ∀ {b : Nat}, b < w2.heap.size → ∀ g, da = some ⟨g, 0, none⟩ → (some b : Option Nat) ≠ some g := fun {b} hb g e e' => by
    have := (HC.out.own.blk g e).1
    simp at e'
    omega
  have O := HC.out.own
  have HB := HB5.out
  refine bodyPost_ret (v := .agg #[.int .i64 inp, .slice da D.length dc, .int .i64 rt]) (by simp [results, Tryz.results109, go_sem, *]) rfl ⟨da, dc, ?_, ?_, ?_⟩
  · rw [hcan]
  · rw [hcan]
    exact ((((O.keepG (set_grown _ _ _) (hne (by omega))).keepG (set_grown _ _ _) (hne (by omega))).keepG (set_grown _ _ _) (hne (by omega))).keepG (set_grown _ _ _) (hne (by omega))).le (by omega)
  · exact bel
set_option maxRecDepth 100000 in
set_option maxHeartbeats 2000000 in
theorem impl_limited {lo p mb nc mn : Nat} {inp root : Int} {na : Option Addr} {L : List I3} {w : World} (hFor : ForA w lo p mb inp na nc mn L) (hR : Redu L) (hL : L.length ≤ 4194000) (hinp : I64 inp) (hr : RefB root L.length) (hfew : (canN mkN L root).1.length ≤ 2000) :
    Calls Tryz.prog 90 #[.pointer (some ⟨p, 0, none⟩), .int .i64 root] w fun e w' => ∃ da dc, e = .returned (.tuple #[.agg #[.int .i64 inp, .slice da (canN mkN L root).1.length dc, .int .i64 (canN mkN L root).2], .int .i64 0]) ∧ OwnF 3 I3.enc I3.ok 117 w' w.heap.size da (canN mkN L root).1.length dc (canN mkN L root).1 ∧ Below w.heap.size w w' := by
  have hbW := fun (o : Obj) => below_alloc1 (Below.refl w.heap.size w) o
  have HF := Lib.hid hFor
  clear hFor
  go_enter Tryz.func90, Tryz.ntmps90
  go_wp2_with fail
  refine Calls.mono (impl_canonical (HF.out.keep (hbW _)) hR hL hinp hr) ?_
  rintro e w1 ⟨da, dc, rfl, hO, hb1⟩
  have X1 := Lib.hid ((Blk.made w #[.int .i64 0, .slice none 0 0, .int .i64 0] 40).keep hb1)
  have hs1 := hb1.size
  simp at hs1
  have O1 := Lib.hid hO
  have HB1 := Lib.hid (below_callS (hbW _) hb1)
  clear hO hb1 hbW
  have hn : ¬ (2000 : Int) < ((canN mkN L root).1.length : Int) := by omega
  have x0 := X1.out.cell 0
  have x1 := X1.out.cell 1
  have x2 := X1.out.cell 2
  have xl := X1.out.lt
  have xf := X1.out.free
  simp only [List.getElem?_toArray, List.getElem?_cons_succ, List.getElem?_cons_zero] at x0 x1 x2
  go_wp2
  have hne : ∀ g, da = some ⟨g, 0, none⟩ → (some w.heap.size : Option Nat) ≠ some g := fun g e e' => by
    have := (O1.out.blk g e).1
    simp at e' this
    omega
  have hb0 : Below w.heap.size w w1 := HB1.out
  refine bodyPost_ret (v := .tuple #[.agg #[.int .i64 inp, .slice da (canN mkN L root).1.length dc, .int .i64 (canN mkN L root).2], .int .i64 0]) (by simp [results, Tryz.results90, go_sem, *]) rfl ⟨da, dc, rfl, ?_, ?_⟩
  · exact ((((O1.out.keepG (set_grown _ _ _) hne).keepG (set_grown _ _ _) hne).keepG (set_grown _ _ _) hne).keep (below_alloc1 (Below.refl _ _) _)).le (by simp)
  · exact bel
theorem Ints.keepL {w w' : World} {a : Option Addr} {n c B : Nat} {l : List Int} (h : Ints w a n c l) (hb : Below B w w') (hB : n = 0 ∨ ∀ g off, a = some ⟨g, off, none⟩ → g < B) : Ints w' a n c l := by
  refine ⟨h.len, h.cap, ?_, h.wf, h.nil⟩
  rcases hB with h0 | hB
  · exact .inl h0
  · rcases h.pos with h0 | ⟨b, off, ha, hlt, hc⟩
    · exact .inl h0
    · have hlt2 := hB b off ha
      refine .inr ⟨b, off, ha, Nat.lt_of_lt_of_le hlt hb.size, fun i x hx => ?_⟩
      rw [World.cell?_of_block (a := ⟨b, off + i, none⟩) (hb.block b hlt2)]
      exact hc i x hx
/-- lists that lie below a block -/
structure LsA (w : World) (lo : Nat) (a : Option Addr) (n c : Nat) (l : List (QM × List Int)) : Prop where
  row : Flats 1 encS (fun _ => True) w a n c l
  low : n = 0 ∨ ∀ g off, a = some ⟨g, off, none⟩ → g < lo
  each : ∀ x ∈ l, Ints w x.1.a x.1.n x.1.c x.2 ∧ (x.1.n = 0 ∨ ∀ g off, x.1.a = some ⟨g, off, none⟩ → g < lo)
theorem LsA.keep {w w' : World} {lo : Nat} {a : Option Addr} {n c : Nat} {l : List (QM × List Int)} (h : LsA w lo a n c l) (hb : Below lo w w') : LsA w' lo a n c l :=
  ⟨h.row.keepB hb h.low, h.low, fun x hx => ⟨(h.each x hx).1.keepL hb (h.each x hx).2, (h.each x hx).2⟩⟩
theorem LsA.len {w : World} {lo : Nat} {a : Option Addr} {n c : Nat} {l : List (QM × List Int)} (h : LsA w lo a n c l) : l.length = n := h.row.len
theorem LsA.get {w : World} {lo : Nat} {a : Option Addr} {n c : Nat} {l : List (QM × List Int)} (h : LsA w lo a n c l) {i : Nat} (hi : i < n) :
    ∃ b off R v, a = some ⟨b, off, none⟩ ∧ b < w.heap.size ∧ l[i]? = some (R, v) ∧ Ints w R.a R.n R.c v ∧ w.cell? ⟨b, off + i, none⟩ = some (.slice R.a R.n R.c) := by
  obtain ⟨b, off, x, h1, h2, h3, _, h5⟩ := h.row.at hi
  have := h5 0 _ rfl
  rw [Nat.mul_one] at this
  exact ⟨b, off, x.1, x.2, h1, h2, h3, (h.each x (List.mem_of_getElem? h3)).1, by simpa using this⟩
theorem LsA.head {w : World} {lo : Nat} {a : Option Addr} {n c m : Nat} {l : List (QM × List Int)} (h : LsA w lo a n c l) (hm : m ≤ n) : LsA w lo a m c (l.take m) :=
  ⟨h.row.take hm, h.low.elim (fun e => .inl (by omega)) .inr, fun x hx => h.each x (List.mem_of_mem_take hx)⟩
theorem LsA.tail {w : World} {lo : Nat} {a : Option Addr} {n c m : Nat} {l : List (QM × List Int)} (h : LsA w lo a n c l) (hm : m ≤ n) : LsA w lo (if c = m then a else Option.map (fun x => x.add m) a) (n - m) (c - m) (l.drop m) := by
  have h1 := h.row.part (lo := m) (hi := n) hm (Nat.le_refl _)
  rw [show (l.drop m).take (n - m) = l.drop m from List.take_of_length_le (by rw [List.length_drop, h.len]; exact Nat.le_refl _), Nat.mul_one] at h1
  refine ⟨h1, ?_, fun x hx => h.each x (List.mem_of_mem_drop hx)⟩
  rcases h.low with h0 | h0
  · exact .inl (by omega)
  · rcases h.row.pos with hp | ⟨b, off, ha, _⟩
    · exact .inl (by omega)
    · subst ha
      refine .inr fun g o e => ?_
      split at e
      · exact h0 g o e
      · simp only [Option.map_some, Option.some.injEq] at e
        have e1 : b = g := by rw [← show ((⟨b, off, none⟩ : Addr).add m).block = b by unfold Addr.add; split <;> rfl, e]
        exact h0 g off (by rw [e1])
theorem Below.drewN9 {B : Nat} {w w' : World} (h : Below B w w') : ∀ n, Below B w (w'.drewN n)
  | 0 => h
  | n + 1 => (Below.drewN9 h n).drew
set_option maxHeartbeats 1000000 in
theorem slices_IndexFunc_S {g : Nat} {lb : Array Value} {p : List Int → Bool} {lo : Nat} {a : Option Addr} {n c : Nat} {l : List (QM × List Int)} {w : World}
    (eg : ∀ args w, (callFunc g args).run Tryz.prog w = .ok (.enter g args) w) (hp : ∀ (W : World) (R : QM) (v : List Int), Ints W R.a R.n R.c v → (R, v) ∈ l → Below w.heap.size w W → Calls Tryz.prog g (#[.slice R.a R.n R.c] ++ lb) W fun e w' => e = .returned (.bool (p v)) ∧ Below W.heap.size W w') (hI : LsA w lo a n c l) (hlo : lo ≤ w.heap.size) (hn : n ≤ 1048576) :
    Calls Tryz.prog 188 #[.slice a n c, .func (.func g) #[] lb] w fun e w' => e = .returned (.int .i64 (idxF (fun x : QM × List Int => p x.2) l)) ∧ Below w.heap.size w w' := by
  have HP := Lib.hid hp
  have HI := Lib.hid hI
  clear hp hI
  go_enter Tryz.func188, Tryz.ntmps188
  go_wp2
  go_loopg [5, 8] n (fun gg _ s8 wr => ∃ kk : Nat, kk ≤ n ∧ n - kk ≤ gg ∧ s8 = .int .i64 kk ∧ Below w.heap.size w wr ∧ Hid ((l.take kk).any (fun x : QM × List Int => p x.2) = false))
  case atStart => exact ⟨0, Nat.zero_le _, by omega, rfl, Below.refl _ _, rfl⟩
  case round =>
    obtain ⟨kk, hkk, hg, rfl, hbl, A⟩ := hrel
    by_cases hlt : kk < n
    · obtain ⟨b, off, R, r, rfl, hb, hx, hwf, c0⟩ := (HI.out.keep (hbl.mono hlo)).get hlt
      have Hx := Lib.hid hx
      have hcall := HP.out _ R r hwf (List.mem_of_getElem? hx) hbl
      clear hx hwf
      cases hq : p r with
      | true =>
        have Hq := Lib.hid hq
        rw [hq] at hcall
        clear hq
        go_wp2_with (go_at_fn g; refine hcall.mono ?_; rintro e w1 ⟨rfl, hb1⟩)
        go_ret
        exact ⟨ret_int (by rw [idxF_hit Hx.out Hq.out A.out]), below_call hbl hb1 hbl.size⟩
      | false =>
        have Hq := Lib.hid hq
        rw [hq] at hcall
        clear hq
        go_wp2_with (go_at_fn g; refine hcall.mono ?_; rintro e w1 ⟨rfl, hb1⟩)
        go_roundg (n - (kk + 1))
        case measure => omega
        case rel => exact ⟨kk + 1, by omega, by omega, by go_num, below_call hbl hb1 hbl.size, any_take_step Hx.out A.out Hq.out⟩
    · go_wp2
      go_ret
      have e : l.take kk = l := take_len (by have := HI.out.len; omega)
      have h1 := A.out
      rw [e] at h1
      exact ⟨ret_int (by rw [idxF_miss h1]), hbl⟩
theorem idx_cut {i : Nat} : ∀ (ls : List (QM × List Int)), (idxF (fun x : QM × List Int => x.2.getD i 0 == 1) ls < 0 → cutN i (ls.map (·.2)) = ls.length) ∧ (¬ idxF (fun x : QM × List Int => x.2.getD i 0 == 1) ls < 0 → idxF (fun x : QM × List Int => x.2.getD i 0 == 1) ls = (cutN i (ls.map (·.2)) : Int))
  | [] => ⟨fun _ => rfl, fun h => absurd (by rw [idxF]; omega) h⟩
  | x :: r => by
    obtain ⟨h1, h2⟩ := idx_cut (i := i) r
    rw [idxF, List.map_cons, cutN, List.takeWhile_cons]
    rw [cutN] at h1 h2
    cases hx : (x.2.getD i 0 == 1) with
    | true => exact ⟨fun h => by simp at h, fun _ => rfl⟩
    | false =>
      simp only [Bool.false_eq_true, if_false, Bool.not_false, if_true]
      by_cases hn : idxF (fun x : QM × List Int => x.2.getD i 0 == 1) r < 0
      · rw [if_pos hn]
        exact ⟨fun _ => by rw [List.length_cons, List.length_cons, h1 hn], fun h => absurd (by omega) h⟩
      · rw [if_neg hn, h2 hn]
        exact ⟨fun h => by omega, fun _ => by rw [List.length_cons]; push_cast; rfl⟩
set_option maxHeartbeats 1000000 in
theorem impl_setOf_1 {b i n c : Nat} {a : Option Addr} {v : List Int} {w : World} (hB : Blk w b #[.int .i64 (i : Int)] 2) (hV : Ints w a n c v) (hi : i < n) (hn : n ≤ 1048576) :
    Calls Tryz.prog 189 (#[.slice a n c] ++ #[.pointer (some ⟨b, 0, none⟩)]) w fun e w' => e = .returned (.bool (v.getD i 0 == 1)) ∧ Below w.heap.size w w' := by
  have i0 := hB.cell 0
  have il := hB.lt
  simp only [List.getElem?_toArray, List.getElem?_cons_zero] at i0
  obtain ⟨b', off, z, rfl, hb', hz, hzc, _⟩ := hV.at hi
  have hin : (i : Int) < (n : Int) := by omega
  have hi0 : (0 : Int) ≤ (i : Int) := by omega
  have HF := Lib.hid (show v.getD i 0 = z by rw [List.getD_eq_getElem?_getD, hz]; rfl)
  clear hB hV hz
  show Calls _ _ #[.slice (some ⟨b', off, none⟩) n c, .pointer (some ⟨b, 0, none⟩)] _ _
  go_enter Tryz.func189, Tryz.ntmps189
  go_wp2
  go_ret
  exact ⟨ret_bool (by rw [HF.out]), bel⟩
set_option maxRecDepth 100000 in
set_option maxHeartbeats 4000000 in
theorem impl_setOf {lo p mb N : Nat} : ∀ (k i : Nat) (ls : List (QM × List Int)) (L : List I3) (a : Option Addr) (n c : Nat) (w : World), LsA w lo a n c ls → (∀ x ∈ ls, x.2.length = N) → (∃ na nc mn, ForA w lo p mb (N : Int) na nc mn L) → i + k = N → N ≤ 20 → n ≤ 1048576 → L.length + 2 ^ k ≤ 2097152 → lo ≤ w.heap.size →
    Calls Tryz.prog 133 #[.pointer (some ⟨p, 0, none⟩), .slice a n c, .int .i64 (i : Int)] w fun e w' => e = .returned (.int .i64 (stN k i (ls.map (·.2)) L).2) ∧ (∃ na nc mn, ForA w' lo p mb (N : Int) na nc mn (stN k i (ls.map (·.2)) L).1) ∧ FrF lo p mb w w' := by
  intro k
  induction k with
  | zero =>
    intro i ls L a n c w hA hl hF hik hN hn hL hlo
    have hln := hA.len
    by_cases h0 : n = 0
    · subst h0
      obtain rfl : ls = [] := List.eq_nil_of_length_eq_zero hln
      have HFO := Lib.hid hF
      clear hA hF hl
      go_enter Tryz.func133, Tryz.ntmps133
      go_wp2
      go_ret
      obtain ⟨na, nc, mn, h⟩ := HFO.out
      refine ⟨ret_int (by simp only [List.map_nil, st_nil]), ⟨na, nc, mn, ?_⟩, FrF.of_below bel⟩
      simp only [List.map_nil, st_nil]
      exact h.keep bel
    · have e0 : ((n : Int) == 0) = false := by simpa using (show ¬ (n : Int) = 0 by omega)
      obtain rfl : i = N := by omega
      have hne : ls.map (·.2) ≠ [] := fun e => h0 (by rw [← hln, ← List.length_map (f := fun x : QM × List Int => x.2), e]; rfl)
      obtain ⟨na, nc, mn, hfor⟩ := hF
      obtain ⟨W, hW⟩ : ∃ W, W = w.alloc (.cells #[.int .i64 (i : Int)] 2) := ⟨_, rfl⟩
      have hbW : Below w.heap.size w W := by rw [hW]; exact below_alloc1 (Below.refl _ _) _
      have B := Lib.hid (show Blk W w.heap.size #[.int .i64 (i : Int)] 2 by rw [hW]; exact Blk.made _ _ _)
      have F1 := Lib.hid (hfor.keep hbW)
      have HS := Lib.hid (st_end (i := i) (L := L) hne)
      have b0 := B.out.cell 0
      have bl := B.out.lt
      have p0 := F1.out.blk.cell 0
      have pl := F1.out.blk.lt
      simp only [List.getElem?_toArray, List.getElem?_cons_zero] at b0 p0
      clear hA hfor hl hne
      go_enter Tryz.func133, Tryz.ntmps133
      go_wp2_with fail
      rw [← hW]
      clear hW
      go_quiet (fail)
      go_wp2
      go_ret
      refine ⟨ret_int (by rw [HS.out]), ⟨na, nc, mn, ?_⟩, FrF.of_below (Below.drewN9 hbW _)⟩
      rw [HS.out]
      exact F1.out.keep (Below.drewN9 (Below.refl _ _) _)
  | succ k ih =>
    intro i ls L a n c w hA hl hF hik hN hn hL hlo
    have hln := hA.len
    by_cases h0 : n = 0
    · subst h0
      obtain rfl : ls = [] := List.eq_nil_of_length_eq_zero hln
      have HFO := Lib.hid hF
      clear hA hF hl
      go_enter Tryz.func133, Tryz.ntmps133
      go_wp2
      go_ret
      obtain ⟨na, nc, mn, h⟩ := HFO.out
      refine ⟨ret_int (by simp only [List.map_nil, st_nil]), ⟨na, nc, mn, ?_⟩, FrF.of_below bel⟩
      simp only [List.map_nil, st_nil]
      exact h.keep bel
    · have e0 : ((n : Int) == 0) = false := by simpa using (show ¬ (n : Int) = 0 by omega)
      have ei : ((i : Int) == (N : Int)) = false := by simpa using (show ¬ (i : Int) = (N : Int) by omega)
      have hne : ls.map (·.2) ≠ [] := fun e => h0 (by rw [← hln, ← List.length_map (f := fun x : QM × List Int => x.2), e]; rfl)
      have hncap := hA.row.cap
      obtain ⟨na, nc, mn, hfor⟩ := hF
      obtain ⟨W, hW⟩ : ∃ W, W = w.alloc (.cells #[.int .i64 (i : Int)] 2) := ⟨_, rfl⟩
      have hbW : Below w.heap.size w W := by rw [hW]; exact below_alloc1 (Below.refl _ _) _
      have B := Lib.hid (show Blk W w.heap.size #[.int .i64 (i : Int)] 2 by rw [hW]; exact Blk.made _ _ _)
      have F1 := Lib.hid (hfor.keep hbW)
      have A1 := Lib.hid (hA.keep (hbW.mono hlo))
      have hlop := hfor.lop
      have hlom := hfor.lom
      have hsW := hbW.size
      have HFW := Lib.hid (FrF.of_below (lo := lo) (p := p) (mb := mb) hbW)
      obtain ⟨q1, q2, q3⟩ := st_ref k (i + 1) ((ls.map (·.2)).take (cutN i (ls.map (·.2)))) L
      obtain ⟨A, hAe⟩ : ∃ A, stN k (i + 1) ((ls.map (·.2)).take (cutN i (ls.map (·.2)))) L = A := ⟨_, rfl⟩
      rw [hAe] at q1 q2 q3
      obtain ⟨r1, r2, r3⟩ := st_ref k (i + 1) ((ls.map (·.2)).drop (cutN i (ls.map (·.2)))) A.1
      obtain ⟨C, hCe⟩ : ∃ C, stN k (i + 1) ((ls.map (·.2)).drop (cutN i (ls.map (·.2)))) A.1 = C := ⟨_, rfl⟩
      rw [hCe] at r1 r2 r3
      have HNW := Lib.hid (st_new hne hAe hCe)
      obtain ⟨A1', A2⟩ := A
      obtain ⟨C1, C2⟩ := C
      simp only at q1 q2 q3 r1 r2 r3
      have hpw : 2 ^ (k + 1) = 2 ^ k + 2 ^ k := by rw [Nat.pow_succ]; omega
      have hq2 : I64 A2 := by have h1 := q1.1; have h2 := q1.2; unfold I64; omega
      have hr2 : I64 C2 := by have h1 := r1.1; have h2 := r1.2; unfold I64; omega
      have hcl : cutN i (ls.map (·.2)) ≤ n := by have := cut_le i (ls.map (·.2)); rw [List.length_map, hln] at this; exact this
      have KI := Lib.hid (fun (wx : World) (hb : Below W.heap.size W wx) => slices_IndexFunc_S (g := 189) (lb := #[.pointer (some ⟨w.heap.size, 0, none⟩)]) (p := fun v => v.getD i 0 == 1) (lo := lo) (w := wx) (fun _ _ => by kernel_rfl) (fun W' R v hv hm hb' => impl_setOf_1 ((B.out.keep hb).keep hb') hv (by have h1 := hl (R, v) hm; have h2 := hv.len; simp only at h1; omega) (by have h1 := hl (R, v) hm; have h2 := hv.len; simp only at h1; omega)) (A1.out.keep (hb.mono (by omega))) (by have := hb.size; omega) hn)
      have K2 := Lib.hid (fun (m : Nat) (hm : cutN i (ls.map (·.2)) = m) (nn cc : Nat) (hn' : m = nn) (hc : c = cc) (wx : World) (hA' : LsA wx lo a n c ls) (hF' : ForA wx lo p mb (N : Int) na nc mn L) (hlx : lo ≤ wx.heap.size) => by
        have h := ih (i + 1) (ls.take m) L a m c wx (hA'.head (by omega)) (fun x hx => hl x (List.mem_of_mem_take hx)) ⟨_, _, _, hF'⟩ (by omega) hN (by omega) (by omega) hlx
        rw [List.map_take, ← hm, hAe, hm, hn', hc] at h
        exact h)
      have K3 := Lib.hid (fun (m : Nat) (hm : cutN i (ls.map (·.2)) = m) (aa : Option Addr) (nn cc : Nat) (ha : (if c = m then a else Option.map (fun x => x.add m) a) = aa) (hn' : n - m = nn) (hc : c - m = cc) (wx : World) (hA' : LsA wx lo a n c ls) (hF' : ∃ na nc mn, ForA wx lo p mb (N : Int) na nc mn A1') (hlx : lo ≤ wx.heap.size) => by
        have h := ih (i + 1) (ls.drop m) A1' _ (n - m) (c - m) wx (hA'.tail (by omega)) (fun x hx => hl x (List.mem_of_mem_drop hx)) hF' (by omega) hN (by omega) (by omega) hlx
        rw [List.map_drop, ← hm, hCe, hm, ha, hn', hc] at h
        exact h)
      have HIX := Lib.hid (idx_cut (i := i) ls)
      have hms : ∀ m, cutN i (ls.map (·.2)) = m → (0 : Int) ≤ (m : Int) ∧ (m : Int) ≤ (n : Int) ∧ (m : Int) ≤ (c : Int) ∧ m ≤ n := fun m hm => by omega
      have HMS := Lib.hid hms
      have e1 : IntKind.i64.wrap ((i : Int) + 1) = ((i + 1 : Nat) : Int) := by rw [IntWalk.i64_in _ (by omega)]; rfl
      have b0 := B.out.cell 0
      have bl := B.out.lt
      have p0 := F1.out.blk.cell 0
      have pl := F1.out.blk.lt
      simp only [List.getElem?_toArray, List.getElem?_cons_zero] at b0 p0
      have hbp : w.heap.size ≠ p := fun e => by
        have h := F1.out.blk
        have h2 := B.out
        rw [Blk] at h h2
        rw [e, h] at h2
        simp at h2
      have hbm : w.heap.size ≠ mb := fun e => by
        obtain ⟨es, cl, hm⟩ := F1.out.map.isMap
        have h2 := B.out
        rw [Blk, e, hm] at h2
        cases h2
      have HLN := Lib.hid hln
      clear hA hfor hl hne hAe hCe ih hcl hms hln
      go_enter Tryz.func133, Tryz.ntmps133
      go_wp2_with fail
      rw [← hW]
      clear hW
      go_quiet (fail)
      have hbD : Below W.heap.size W (W.drewN nq) := Below.drewN9 (Below.refl _ _) _
      go_wp2_with fail
      refine Calls.mono (KI.out _ hbD) ?_
      rintro e w2 ⟨rfl, hb2⟩
      have hb3 := below_callS hbD hb2
      have B2 := Lib.hid (B.out.keep hb3)
      have F2 := Lib.hid (F1.out.keep hb3)
      have A2' := Lib.hid (A1.out.keep (hb3.mono (by omega)))
      have HF2 := Lib.hid (HFW.out.trans (FrF.of_below hb3))
      have hs2 := hb3.size
      clear hb2 hb3 hbD b0 p0 pl KI F1 A1 bl HFW
      have b0 := B2.out.cell 0
      have bl := B2.out.lt
      simp only [List.getElem?_toArray, List.getElem?_cons_zero] at b0
      obtain ⟨v, hv⟩ : ∃ v, idxF (fun x : QM × List Int => x.2.getD i 0 == 1) ls = v := ⟨_, rfl⟩
      rw [hv] at HIX ⊢
      have hge : -1 ≤ v := by rw [← hv]; exact idxF_ge _ _
      have HM : ∃ m : Nat, Hid (cutN i (ls.map (·.2)) = m) ∧ (0 : Int) ≤ (m : Int) ∧ (m : Int) ≤ (n : Int) ∧ (m : Int) ≤ (c : Int) ∧ m ≤ n ∧ ((v < 0 ∧ m = n) ∨ (¬ v < 0 ∧ v = (m : Int))) := by
        by_cases hneg : v < 0
        · have h1 := HIX.out.1 hneg
          rw [HLN.out] at h1
          obtain ⟨m1, m2, m3, m4⟩ := HMS.out n h1
          exact ⟨n, h1, m1, m2, m3, m4, .inl ⟨hneg, rfl⟩⟩
        · have h1 := HIX.out.2 (by omega)
          obtain ⟨m1, m2, m3, m4⟩ := HMS.out _ rfl
          exact ⟨_, Lib.hid rfl, m1, m2, m3, m4, .inr ⟨hneg, h1⟩⟩
      clear hv HIX HMS
      obtain ⟨m, HCM, m1, m2, m3, m4, hcase⟩ := HM
      have hcase : (v < 0 ∧ m = n ∧ c = m) ∨ (v < 0 ∧ m = n ∧ ¬ c = m) ∨ (¬ v < 0 ∧ v = (m : Int) ∧ c = m) ∨ (¬ v < 0 ∧ v = (m : Int) ∧ ¬ c = m) := by
        rcases hcase with h1 | h1 <;> by_cases h : c = m
        · exact .inl ⟨h1.1, h1.2, h⟩
        · exact .inr (.inl ⟨h1.1, h1.2, h⟩)
        · exact .inr (.inr (.inl ⟨h1.1, h1.2, h⟩))
        · exact .inr (.inr (.inr ⟨h1.1, h1.2, h⟩))
      rcases hcase with ⟨hneg, hmn, hcm⟩ | ⟨hneg, hmn, hcm⟩ | ⟨hneg, hvm, hcm⟩ | ⟨hneg, hvm, hcm⟩
      case' inl => (subst hmn; go_wp2_with fail)
      case' inr.inl => (subst hmn; go_wp2_with fail)
      case' inr.inr.inl => (subst hvm; go_wp2_with fail)
      case' inr.inr.inr => (subst hvm; go_wp2_with fail)
      all_goals
        refine wp_region_noPanic ?_
        refine wp_region_M (L := 16) (S := (fun wx => wx.cell? ⟨w.heap.size, 0, none⟩ = some (.int .i64 (i : Int)) ∧ w.heap.size < wx.heap.size)) (by kernel_rfl) ?_ (fun hHeld => ?_)
        · exact ⟨b0, bl⟩
        have hbD : Below w2.heap.size w2 w2.drew := (Below.refl _ _).drew
        have B3 := Lib.hid (B2.out.keep hbD)
        have F3 := Lib.hid (F2.out.keep hbD)
        have A3 := Lib.hid (A2'.out.keep (hbD.mono (by omega)))
        have HF3 := Lib.hid (HF2.out.trans (FrF.of_below hbD))
        have hs3 : W.heap.size ≤ w2.drew.heap.size := by have := hbD.size; omega
        clear hbD b0 bl hs2 B2 F2 A2' HF2
        refine tkM0 0 (v := ?_) ?_ ?_
        rotate_left
        · (intro wv hSw; (try dsimp only at hSw); obtain ⟨h1', h2'⟩ := hSw; go_simp; try with_reducible rfl)
        try simp only [pu]
        refine tkM0 1 (v := ?_) ?_ ?_
        rotate_left
        · (intro wv hSw; (try dsimp only at hSw); obtain ⟨h1', h2'⟩ := hSw; go_simp; try with_reducible rfl)
        try simp only [pu]
        refine tkM0 2 (v := ?_) ?_ ?_
        rotate_left
        · (intro wv hSw; (try dsimp only at hSw); obtain ⟨h1', h2'⟩ := hSw; go_simp; try with_reducible rfl)
        try simp only [pu]
        refine tkM0 3 (v := ?_) ?_ ?_
        rotate_left
        · (intro wv hSw; (try dsimp only at hSw); obtain ⟨h1', h2'⟩ := hSw; go_simp; try with_reducible rfl)
        try simp only [pu]
        refine tkM0 4 (v := ?_) ?_ ?_
        rotate_left
        · (intro wv hSw; (try dsimp only at hSw); obtain ⟨h1', h2'⟩ := hSw; go_simp; try with_reducible rfl)
        try simp only [pu]
        refine tkM0 5 (v := ?_) ?_ ?_
        rotate_left
        · (intro wv hSw; (try dsimp only at hSw); obtain ⟨h1', h2'⟩ := hSw; go_simp; try with_reducible rfl)
        try simp only [pu]
        refine tkM0 6 (v := ?_) ?_ ?_
        rotate_left
        · (intro wv hSw; (try dsimp only at hSw); obtain ⟨h1', h2'⟩ := hSw; go_simp; try with_reducible rfl)
        try simp only [pu]
        refine tkM0 7 (v := ?_) ?_ ?_
        rotate_left
        · (intro wv hSw; (try dsimp only at hSw); obtain ⟨h1', h2'⟩ := hSw; go_simp; try with_reducible rfl)
        try simp only [pu]
        refine tkM0 9 (v := ?_) ?_ ?_
        rotate_left
        · (intro wv hSw; (try dsimp only at hSw); obtain ⟨h1', h2'⟩ := hSw; go_simp; try with_reducible rfl)
        try simp only [pu]
        refine tkM0 10 (v := ?_) ?_ ?_
        rotate_left
        · (intro wv hSw; (try dsimp only at hSw); obtain ⟨h1', h2'⟩ := hSw; go_simp; try with_reducible rfl)
        try simp only [pu]
        refine tkM0 11 (v := ?_) ?_ ?_
        rotate_left
        · (intro wv hSw; (try dsimp only at hSw); obtain ⟨h1', h2'⟩ := hSw; go_simp; try with_reducible rfl)
        try simp only [pu]
        refine tkM0 12 (v := ?_) ?_ ?_
        rotate_left
        · (intro wv hSw; (try dsimp only at hSw); obtain ⟨h1', h2'⟩ := hSw; go_simp; try with_reducible rfl)
        try simp only [pu]
        refine tkM0 13 (v := ?_) ?_ ?_
        rotate_left
        · (intro wv hSw; (try dsimp only at hSw); obtain ⟨h1', h2'⟩ := hSw; go_simp; try with_reducible rfl)
        try simp only [pu]
        refine tkM0 14 (v := ?_) ?_ ?_
        rotate_left
        · (intro wv hSw; (try dsimp only at hSw); obtain ⟨h1', h2'⟩ := hSw; go_simp; try with_reducible rfl)
        try simp only [pu]
        refine wpAnyM_ready (rs := [8]) (by kernel_rfl) (by simp) ?_
        refine AllReadyM.cons rfl (fun K hK => ?_) AllReadyM.nil
        go_simp
        refine Calls.mono (K2.out m HCM.out _ _ (by first | rfl | omega) (by first | rfl | omega) _ A3.out F3.out (by omega)) ?_
        rintro e w5 ⟨rfl, hF5, hf5⟩
        have B5 := Lib.hid (B3.out.frf hf5 hbp (by decide) hbm)
        have hb5 := hf5.below (Below.refl lo _) (by omega) (Nat.le_refl _) hlop hlom
        have A5 := Lib.hid (A3.out.keep hb5)
        have HF5 := Lib.hid (HF3.out.trans hf5)
        have F5 := Lib.hid hF5
        have hs5 := hf5.size
        clear hF5 hf5 hb5 B3 A3 F3 HF3
        go_wp2_with fail
        refine hK.out _ _ ⟨B5.out.cell 0, B5.out.lt⟩ (fun hHeld => ?_)
        clear hK K
        try simp only [pu]
        refine wpAnyM_ready (rs := [15]) (by kernel_rfl) (by simp) ?_
        refine AllReadyM.cons rfl (fun K hK => ?_) AllReadyM.nil
        go_simp
        refine Calls.mono (K3.out m HCM.out _ _ _ (by first | exact if_pos (by assumption) | exact if_neg (by assumption)) (by first | rfl | omega) (by first | rfl | omega) _ A5.out F5.out (by omega)) ?_
        rintro e w6 ⟨rfl, ⟨na6, nc6, mn6, hF6⟩, hf6⟩
        have B6 := Lib.hid (B5.out.frf hf6 hbp (by decide) hbm)
        have HF6 := Lib.hid (HF5.out.trans hf6)
        have F6 := Lib.hid hF6
        have hs6 := hf6.size
        clear hF6 hf6 B5 A5 F5 HF5
        go_wp2_with fail
        refine hK.out _ _ ⟨B6.out.cell 0, B6.out.lt⟩ (fun hHeld => ?_)
        clear hK K
        try simp only [pu]
        refine wpAnyM_ready (rs := [16]) (by kernel_rfl) (by simp) ?_
        refine AllReadyM.last rfl (fun K hK => ?_)
        go_simp
        refine Calls.mono (impl_node F6.out (by omega) (by unfold I64; omega) hq2 hr2 (by omega)) ?_
        rintro e w7 ⟨rfl, hF7, hf7⟩
        have HF7 := Lib.hid (HF6.out.trans hf7)
        have F7 := Lib.hid hF7
        clear hF7 hf7 hHeld
        go_wp2_with fail
        refine hK.out _ _ ?_
        clear hK K
        try simp only [pu]
        refine wpAnyM_ready (rs := [17]) (by kernel_rfl) (by simp) ?_
        refine AllReadyM.then (by kernel_rfl) rfl (fun K hK => ?_)
        go_simp
        refine hK.out _ _ ?_
        clear hK K
        try simp only [pu]
        refine wpAnyM_done (by kernel_rfl) ?_ _
        refine NoPanic.normal ?_
        go_wp2
        go_ret
        refine ⟨ret_int (by rw [HNW.out]), ?_, HF7.out⟩
        rw [HNW.out]
        exact F7.out
theorem cut_of {i : Nat} : ∀ {j : Nat} {ls : List (List Int)}, j ≤ ls.length → (∀ x ∈ ls.take j, (x.getD i 0 == 1) = false) → (∀ x, ls[j]? = some x → (x.getD i 0 == 1) = true) → cutN i ls = j
  | 0, [], _, _, _ => rfl
  | 0, x :: r, _, _, h => by
    rw [cutN, List.takeWhile_cons, h x rfl]; rfl
  | j + 1, [], hl, _, _ => by simp at hl
  | j + 1, x :: r, hl, ht, h => by
    have h1 := ht x (by simp)
    have h2 := cut_of (i := i) (j := j) (ls := r) (by simpa using hl) (fun y hy => ht y (by simp [hy])) (fun y hy => h y (by simpa using hy))
    rw [cutN] at h2 ⊢
    rw [List.takeWhile_cons, h1]
    simp only [Bool.not_false, if_true, List.length_cons, h2]
set_option maxRecDepth 100000 in
set_option maxHeartbeats 4000000 in
theorem spec_l23Set {lo p N : Nat} : ∀ (k i : Nat) (ls : List (QM × List Int)) (L : List I3) (a : Option Addr) (n c : Nat) (w : World), LsA w lo a n c ls → (∀ x ∈ ls, x.2.length = N ∧ ∀ z ∈ x.2, z = 0 ∨ z = 1) → (∃ na nc, BldA w lo p na nc L) → i + k = N → N ≤ 20 → n ≤ 1048576 → L.length + 2 ^ k ≤ 1048576 → lo ≤ w.heap.size →
    Calls Tryz.prog 122 #[.pointer (some ⟨p, 0, none⟩), .slice a n c, .int .i64 (i : Int), .int .i64 (N : Int)] w fun e w' => e = .returned (.int .i64 (stN k i (ls.map (·.2)) L).2) ∧ (∃ na nc, BldA w' lo p na nc (stN k i (ls.map (·.2)) L).1) ∧ FrF lo p p w w' := by
  intro k
  induction k with
  | zero =>
    intro i ls L a n c w hA hl hF hik hN hn hL hlo
    have hln := hA.len
    by_cases h0 : n = 0
    · subst h0
      obtain rfl : ls = [] := List.eq_nil_of_length_eq_zero hln
      have HFO := Lib.hid hF
      clear hA hF hl
      go_enter Tryz.func122, Tryz.ntmps122
      go_wp2
      go_ret
      refine ⟨ret_int (by simp only [List.map_nil, st_nil]), ?_, FrF.refl _ _ _ _⟩
      simp only [List.map_nil, st_nil]
      exact HFO.out
    · have e0 : ((n : Int) == 0) = false := by simpa using (show ¬ (n : Int) = 0 by omega)
      obtain rfl : i = N := by omega
      have hne : ls.map (·.2) ≠ [] := fun e => h0 (by rw [← hln, ← List.length_map (f := fun x : QM × List Int => x.2), e]; rfl)
      have HFO := Lib.hid hF
      have HS := Lib.hid (st_end (i := i) (L := L) hne)
      clear hA hF hl hne
      go_enter Tryz.func122, Tryz.ntmps122
      go_wp2
      go_ret
      refine ⟨ret_int (by rw [HS.out]), ?_, FrF.refl _ _ _ _⟩
      rw [HS.out]
      exact HFO.out
  | succ k ih =>
    intro i ls L a n c w hA hl hF hik hN hn hL hlo
    have hln := hA.len
    by_cases h0 : n = 0
    · subst h0
      obtain rfl : ls = [] := List.eq_nil_of_length_eq_zero hln
      have HFO := Lib.hid hF
      clear hA hF hl
      go_enter Tryz.func122, Tryz.ntmps122
      go_wp2
      go_ret
      refine ⟨ret_int (by simp only [List.map_nil, st_nil]), ?_, FrF.refl _ _ _ _⟩
      simp only [List.map_nil, st_nil]
      exact HFO.out
    · have e0 : ((n : Int) == 0) = false := by simpa using (show ¬ (n : Int) = 0 by omega)
      have ei : ((i : Int) == (N : Int)) = false := by simpa using (show ¬ (i : Int) = (N : Int) by omega)
      have hne : ls.map (·.2) ≠ [] := fun e => h0 (by rw [← hln, ← List.length_map (f := fun x : QM × List Int => x.2), e]; rfl)
      have hncap := hA.row.cap
      have HFO := Lib.hid hF
      have HA := Lib.hid hA
      have HL := Lib.hid hl
      obtain ⟨q1, q2, q3⟩ := st_ref k (i + 1) ((ls.map (·.2)).take (cutN i (ls.map (·.2)))) L
      obtain ⟨A, hAe⟩ : ∃ A, stN k (i + 1) ((ls.map (·.2)).take (cutN i (ls.map (·.2)))) L = A := ⟨_, rfl⟩
      rw [hAe] at q1 q2 q3
      obtain ⟨r1, r2, r3⟩ := st_ref k (i + 1) ((ls.map (·.2)).drop (cutN i (ls.map (·.2)))) A.1
      obtain ⟨C, hCe⟩ : ∃ C, stN k (i + 1) ((ls.map (·.2)).drop (cutN i (ls.map (·.2)))) A.1 = C := ⟨_, rfl⟩
      rw [hCe] at r1 r2 r3
      have HNW := Lib.hid (st_new hne hAe hCe)
      obtain ⟨A1', A2⟩ := A
      obtain ⟨C1, C2⟩ := C
      simp only at q1 q2 q3 r1 r2 r3
      have hpw : 2 ^ (k + 1) = 2 ^ k + 2 ^ k := by rw [Nat.pow_succ]; omega
      have hq2 : I64 A2 := by have h1 := q1.1; have h2 := q1.2; unfold I64; omega
      have hr2 : I64 C2 := by have h1 := r1.1; have h2 := r1.2; unfold I64; omega
      have K2 := Lib.hid (fun (m : Nat) (hm : cutN i (ls.map (·.2)) = m) (hmn : m ≤ n) (nn cc : Nat) (hn' : m = nn) (hc : c = cc) (wx : World) (hA' : LsA wx lo a n c ls) (hF' : ∃ na nc, BldA wx lo p na nc L) (hlx : lo ≤ wx.heap.size) => by
        have h := ih (i + 1) (ls.take m) L a m c wx (hA'.head (by omega)) (fun x hx => hl x (List.mem_of_mem_take hx)) hF' (by omega) hN (by omega) (by omega) hlx
        rw [List.map_take, ← hm, hAe, hm, hn', hc, show ((i + 1 : Nat) : Int) = (i : Int) + 1 from rfl] at h
        exact h)
      have K3 := Lib.hid (fun (m : Nat) (hm : cutN i (ls.map (·.2)) = m) (hmn : m ≤ n) (aa : Option Addr) (nn cc : Nat) (ha : (if c = m then a else Option.map (fun x => x.add m) a) = aa) (hn' : n - m = nn) (hc : c - m = cc) (wx : World) (hA' : LsA wx lo a n c ls) (hF' : ∃ na nc, BldA wx lo p na nc A1') (hlx : lo ≤ wx.heap.size) => by
        have h := ih (i + 1) (ls.drop m) A1' _ (n - m) (c - m) wx (hA'.tail (by omega)) (fun x hx => hl x (List.mem_of_mem_drop hx)) hF' (by omega) hN (by omega) (by omega) hlx
        rw [List.map_drop, ← hm, hCe, hm, ha, hn', hc, show ((i + 1 : Nat) : Int) = (i : Int) + 1 from rfl] at h
        exact h)
      have e1 : IntKind.i64.wrap ((i : Int) + 1) = (i : Int) + 1 := IntWalk.i64_in _ (by omega)
      have hi0 : (0 : Int) ≤ (i : Int) := by omega
      have hiN : (i : Int) < (N : Int) := by omega
      clear hA hF hl hne hAe hCe ih
      go_enter Tryz.func122, Tryz.ntmps122
      go_wp2_with fail
      go_loopw [9] (fun s9 wr => ∃ j : Nat, s9 = .int .i64 j ∧ j ≤ n ∧ wr = w ∧ Hid (∀ x ∈ (ls.map (·.2)).take j, (x.getD i 0 == 1) = false)) (fun s9 _ => n - (intOf s9).toNat)
      case atStart => exact ⟨0, rfl, by omega, rfl, Lib.hid (fun x hx => by simp at hx)⟩
      case round =>
        obtain ⟨j, rfl, hj, rfl, Z⟩ := hrel
        have hj0 : (0 : Int) ≤ (j : Int) := by omega
        have hjn : (j : Int) ≤ (n : Int) := by omega
        have hjc : (j : Int) ≤ (c : Int) := by omega
        have hcase : (∃ (b off : Nat) (R : QM) (v : List Int) (b' off' : Nat) (z : Int), j < n ∧ (j : Int) < (n : Int) ∧ a = some ⟨b, off, none⟩ ∧ b < wr.heap.size ∧ wr.cell? ⟨b, off + j, none⟩ = some (.slice R.a R.n R.c) ∧ R.n = N ∧ R.a = some ⟨b', off', none⟩ ∧ b' < wr.heap.size ∧ wr.cell? ⟨b', off' + i, none⟩ = some (.int .i64 z) ∧ Hid (ls[j]? = some (R, v) ∧ v.getD i 0 = z) ∧ z = 0) ∨
            ((∃ (b off : Nat) (R : QM) (v : List Int) (b' off' : Nat) (z : Int), j < n ∧ (j : Int) < (n : Int) ∧ a = some ⟨b, off, none⟩ ∧ b < wr.heap.size ∧ wr.cell? ⟨b, off + j, none⟩ = some (.slice R.a R.n R.c) ∧ R.n = N ∧ R.a = some ⟨b', off', none⟩ ∧ b' < wr.heap.size ∧ wr.cell? ⟨b', off' + i, none⟩ = some (.int .i64 z) ∧ z = 1) ∧ Hid (cutN i (ls.map (·.2)) = j)) ∨ (n = j ∧ ¬ (j : Int) < (n : Int) ∧ Hid (cutN i (ls.map (·.2)) = j)) := by
          by_cases hlt : j < n
          · obtain ⟨b, off, R, v, e1, hb, hx, hv, hc⟩ := HA.out.get hlt
            have h1 := HL.out (R, v) (List.mem_of_getElem? hx)
            simp only at h1
            have hvl := hv.len
            obtain ⟨b', off', z, e2, hb', hz, hzc, _⟩ := hv.at (show i < R.n by omega)
            have hzd : v.getD i 0 = z := by rw [List.getD_eq_getElem?_getD, hz]; rfl
            rcases h1.2 z (List.mem_of_getElem? hz) with h0 | h0
            · exact .inl ⟨b, off, R, v, b', off', z, hlt, by omega, e1, hb, hc, by omega, e2, hb', hzc, Lib.hid ⟨hx, hzd⟩, h0⟩
            · refine .inr (.inl ⟨⟨b, off, R, v, b', off', z, hlt, by omega, e1, hb, hc, by omega, e2, hb', hzc, h0⟩, Lib.hid (cut_of (by rw [List.length_map]; omega) Z.out fun x h => ?_)⟩)
              rw [List.getElem?_map, hx] at h
              simp at h
              rw [← h, hzd, h0]; rfl
          · refine .inr (.inr ⟨by omega, by omega, Lib.hid (cut_of (by rw [List.length_map]; omega) Z.out fun x h => ?_)⟩)
            rw [List.getElem?_eq_none (by rw [List.length_map]; omega)] at h
            cases h
        rcases hcase with ⟨b, off, R, v, b', off', z, hlt, hlt', rfl, hb, hc, hRn, hRa, hb', hzc, HX, rfl⟩ | hrest
        · have hRn' : (R.n : Int) = (N : Int) := by omega
          have HZ := Lib.hid (show ∀ x ∈ (ls.map (·.2)).take (j + 1), (x.getD i 0 == 1) = false from fun x hx => by
            have h1 : (ls.map (·.2))[j]? = some v := by rw [List.getElem?_map, HX.out.1]; rfl
            rw [take_at h1] at hx
            rcases List.mem_append.1 hx with h2 | h2
            · exact Z.out x h2
            · simp at h2; rw [h2, HX.out.2]; rfl)
          clear Z HX
          rw [hRa, hRn] at hc
          clear hRa hRn
          go_wp2
          go_roundw
          case rel => exact ⟨j + 1, by go_num, by omega, (by first | rfl | trivial), HZ⟩
          case measure => simp [intOf]; omega
        · rcases hrest with ⟨⟨b, off, R, v, b', off', z, hlt, hlt', rfl, hb, hc, hRn, hRa, hb', hzc, rfl⟩, HC⟩ | ⟨hnj, hlt', HC⟩
          case' inr.inr => (clear Z hnj; rcases Nat.eq_or_lt_of_le (show j ≤ c by omega) with hcj | hcj)
          case' inr.inr.inr => (have hcm : ¬ c = j := (by omega); clear hcj; go_wp2_with fail)
          case' inr.inr.inl => (have hcm : c = j := (by omega); clear hcj; go_wp2_with fail)
          case' inr.inl => (have hcm : ¬ c = j := (by omega); rw [hRa, hRn] at hc; clear hRa hRn Z; go_wp2_with fail)
          all_goals
            refine Calls.mono (K2.out j HC.out hj _ _ (by first | rfl | omega) (by first | rfl | omega) wr HA.out HFO.out hlo) ?_
            rintro e w1 ⟨rfl, hF1, hf1⟩
            obtain ⟨na, nc, hbl⟩ := HFO.out
            have hb1 := hf1.below (Below.refl lo wr) hlo (Nat.le_refl _) hbl.lop hbl.lop
            have Hf1 := Lib.hid hf1
            have HF1 := Lib.hid hF1
            have hs1 := hf1.size
            have HA1 := Lib.hid (HA.out.keep hb1)
            clear hF1 hf1 hb1 hbl
            go_wp2_with fail
            refine Calls.mono (K3.out j HC.out hj _ _ _ (by first | exact if_pos (by assumption) | exact if_neg (by assumption) | (rw [if_neg hcm, Option.map_some]; congr 1; by_cases hj9 : j = 0 <;> simp [Addr.add, hj9])) (by first | rfl | omega) (by first | rfl | omega) w1 HA1.out HF1.out (by omega)) ?_
            rintro e w2 ⟨rfl, hF2, hf2⟩
            obtain ⟨na2, nc2, hF2⟩ := hF2
            have Hf2 := Lib.hid (Hf1.out.trans hf2)
            have HF2 := Lib.hid hF2
            have hs2 := Hf2.out.size
            clear hF2 hf2
            go_wp2_with fail
            refine Calls.mono (spec_l22Node HF2.out (by omega) (by unfold I64; omega) hq2 hr2 (by omega)) ?_
            rintro e w3 ⟨rfl, hF3, hf3⟩
            have HF3 := Lib.hid hF3
            have Hf3 := Lib.hid (Hf2.out.trans hf3)
            clear hF3 hf3
            go_wp2
            go_ret
            refine ⟨ret_int (by rw [HNW.out]), ?_, Hf3.out⟩
            rw [HNW.out]
            exact HF3.out
end Go.Proofs.YtkaikbaagajckaaGreat
namespace Go.Proofs.YtkaikbaagajckaaGreat
open Go.RowKit
set_option linter.unusedVariables false
set_option linter.unusedSimpArgs false
attribute [local go_sem ↓] Go.wp_at_zero Go.wp_at_succ
/-- a diagram that is not too large, or a code -/
def lmC (n : Int) (L : List I3) (rt : Int) : Int × List I3 × Int × Int := if L.length ≤ 2000 then (n, L, rt, 0) else (0, [], 0, 3)
theorem lmC_yes {n : Int} {L : List I3} {rt : Int} (h : L.length ≤ 2000) : lmC n L rt = (n, L, rt, 0) := if_pos h
theorem lmC_no {n : Int} {L : List I3} {rt : Int} (h : ¬ L.length ≤ 2000) : lmC n L rt = (0, [], 0, 3) := if_neg h
set_option maxHeartbeats 2000000 in
theorem spec_l22Small {base n c : Nat} {a : Option Addr} {L : List I3} {inp rt : Int} {w : World} (hO : OwnF 3 I3.enc I3.ok 117 w base a n c L) (hn : n ≤ 1048576) (hbase : base ≤ w.heap.size) :
    Calls Tryz.prog 80 #[.agg #[.int .i64 inp, .slice a n c, .int .i64 rt]] w fun e w' => ∃ da dc, e = .returned (.tuple #[.agg #[.int .i64 (lmC inp L rt).1, .slice da (lmC inp L rt).2.1.length dc, .int .i64 (lmC inp L rt).2.2.1], .int .i64 (lmC inp L rt).2.2.2]) ∧ OwnF 3 I3.enc I3.ok 117 w' base da (lmC inp L rt).2.1.length dc (lmC inp L rt).2.1 ∧ Below w.heap.size w w' := by
  obtain rfl : L.length = n := hO.len
  have O := Lib.hid hO
  have hal : ∀ g, a = some ⟨g, 0, none⟩ → g < w.heap.size := fun g e => (hO.blk g e).2
  clear hO
  by_cases h2 : L.length ≤ 2000
  · have HC := Lib.hid (lmC_yes (n := inp) (rt := rt) h2)
    have h2' : ¬ (2000 : Int) < (L.length : Int) := by omega
    go_enter Tryz.func80, Tryz.ntmps80
    go_wp2
    have hne : ∀ y, a = some ⟨y, 0, none⟩ → (some (w.heap.size + 1) : Option Nat) ≠ some y := fun y e e' => by
      have := hal y e
      simp at e'
      omega
    refine bodyPost_ret (v := .tuple #[.agg #[.int .i64 inp, .slice a L.length c, .int .i64 rt], .int .i64 0]) (by simp [results, Tryz.results80, go_sem, *]) rfl ⟨a, c, by rw [HC.out], by rw [HC.out]; exact O.out.keep bel, bel⟩
  · have HC := Lib.hid (lmC_no (n := inp) (rt := rt) h2)
    have h2' : (2000 : Int) < (L.length : Int) := by omega
    go_enter Tryz.func80, Tryz.ntmps80
    go_wp2
    refine bodyPost_ret (v := .tuple #[.agg #[.int .i64 0, .slice none 0 0, .int .i64 0], .int .i64 3]) (by simp [results, Tryz.results80, go_sem, *]) rfl ⟨none, 0, by rw [HC.out]; rfl, by rw [HC.out]; exact ⟨World.ownsRow_nil _ _ _ 3, (fun _ h => by cases h), rfl, fun _ => rfl⟩, bel⟩
end Go.Proofs.YtkaikbaagajckaaGreat
namespace Go.Proofs.YtkaikbaagajckaaGreat
open Go.RowKit
set_option linter.unusedVariables false
set_option linter.unusedSimpArgs false
set_option maxHeartbeats 1000000 in
theorem spec_l20Compare {xa ya : Option Addr} {n xc yc : Nat} {x y : List Int} {w : World} (hX : Ints w xa n xc x) (hY : Ints w ya n yc y) (hn : n ≤ 1048576) :
    Calls Tryz.prog 193 #[.slice xa n xc, .slice ya n yc] w fun e w' => e = .returned (.int .i64 (cmpL x y)) ∧ Below w.heap.size w w' := by
  have HX := Lib.hid hX
  have HY := Lib.hid hY
  clear hX hY
  go_enter Tryz.func193, Tryz.ntmps193
  go_wp2_with fail
  go_loopw [5] (fun s5 wr => ∃ j : Nat, s5 = .int .i64 j ∧ j ≤ n ∧ Below w.heap.size w wr ∧ Hid (x.take j = y.take j)) (fun s5 _ => n - (intOf s5).toNat)
  case atStart => exact ⟨0, rfl, by omega, Below.refl _ _, Lib.hid rfl⟩
  case round =>
    obtain ⟨j, rfl, hj, hbl, A⟩ := hrel
    by_cases hlt : j < n
    · have hlt' : (j : Int) < (n : Int) := by omega
      have hj0 : (0 : Int) ≤ (j : Int) := by omega
      obtain ⟨b1, o1, u, rfl, hb1, hu, hc1, huw⟩ := (HX.out.keep hbl).at hlt
      obtain ⟨b2, o2, v, rfl, hb2, hv, hc2, hvw⟩ := (HY.out.keep hbl).at hlt
      have HU := Lib.hid hu
      have HV := Lib.hid hv
      clear hu hv
      by_cases h1 : u < v
      · have HQ := Lib.hid (cmpL_lt A.out HU.out HV.out h1)
        go_wp2
        go_quiet (fail)
        go_wp2
        go_ret
        exact ⟨ret_int HQ.out.symm, bel⟩
      · by_cases h2 : v < u
        · have HQ := Lib.hid (cmpL_gt A.out HU.out HV.out h2)
          go_wp2
          go_quiet (fail)
          go_wp2
          go_quiet (fail)
          go_wp2
          go_ret
          exact ⟨ret_int HQ.out.symm, bel⟩
        · have HQ := Lib.hid (take_eq_step A.out HU.out (show y[j]? = some u by rw [HV.out]; congr 1; omega))
          go_wp2
          go_quiet (fail)
          go_wp2
          go_quiet (fail)
          go_wp2
          go_roundw
          case rel => exact ⟨j + 1, by go_num, by omega, bel, HQ⟩
          case measure => simp [intOf]; omega
    · obtain rfl : n = j := by omega
      have hlt' : ¬ (n : Int) < (n : Int) := by omega
      have HQ := Lib.hid (cmpL_done A.out (by rw [HX.out.len]; exact Nat.le_refl _) (by rw [HY.out.len]; exact Nat.le_refl _))
      go_wp2
      go_ret
      exact ⟨ret_int HQ.out.symm, hbl⟩
set_option maxHeartbeats 1000000 in
theorem spec_l20Place {lo l2 n c m vn vc : Nat} {a va : Option Addr} {l : List (QM × List Int)} {v : List Int} {w : World} (hL : SRow w lo l2 a n c l) (hV : Ints w va vn vc v) (hA : AscS m (l.map (·.2))) (hvm : v.length = m) (hm : m ≤ 1048576) (hn : n ≤ 1048576) :
    Calls Tryz.prog 158 #[.slice a n c, .slice va vn vc] w fun e w' => ∃ p : Nat, e = .returned (.tuple #[.int .i64 (p : Int), .bool (decide (v ∈ l.map (·.2)))]) ∧ Plc (l.map (·.2)) v p ∧ Below w.heap.size w w' := by
  have hvn : vn = m := by rw [← hV.len, hvm]
  subst hvn
  have HL := Lib.hid hL
  have HV := Lib.hid hV
  have HA := Lib.hid hA
  have HVM := Lib.hid hvm
  have HLL := Lib.hid (show (l.map (·.2)).length = n by rw [List.length_map]; exact hL.len)
  clear hL hV hA hvm
  go_enter Tryz.func158, Tryz.ntmps158
  go_wp2_with fail
  go_loopw [6, 7] (fun s6 s7 wr => ∃ p q : Nat, s6 = .int .i64 p ∧ s7 = .int .i64 q ∧ p ≤ q ∧ q ≤ n ∧ Below w.heap.size w wr ∧ Hid ((∀ (i : Nat) (x : List Int), (l.map (·.2))[i]? = some x → i < p → cmpL x v < 0) ∧ ∀ (i : Nat) (x : List Int), (l.map (·.2))[i]? = some x → q ≤ i → 0 ≤ cmpL x v)) (fun s6 s7 _ => (intOf s7).toNat - (intOf s6).toNat)
  case atStart => exact ⟨0, n, rfl, rfl, by omega, by omega, Below.refl _ _, Lib.hid ⟨fun i x _ h => by omega, fun i x h1 h2 => by have := (List.getElem?_eq_some_iff.1 h1).1; rw [HLL.out] at this; omega⟩⟩
  case round =>
    obtain ⟨p, q, rfl, rfl, hpq, hqn, hbl, A⟩ := hrel
    by_cases hlt : p < q
    · have hlt' : (p : Int) < (q : Int) := by omega
      obtain ⟨k, hk⟩ : ∃ k : Nat, k = (p + q) / 2 := ⟨_, rfl⟩
      have hk1 : p ≤ k := by omega
      have hk2 : k < q := by omega
      have e1 : ((p : Int) + (q : Int)) / 2 = (k : Int) := by omega
      have e2 : ((p : Int) + (q : Int)).tdiv 2 = (k : Int) := by rw [Int.tdiv_eq_ediv_of_nonneg (by omega)]; exact e1
      clear hk
      have hk0 : (0 : Int) ≤ (k : Int) := by omega
      have hkn : (k : Int) < (n : Int) := by omega
      obtain ⟨b, off, R, x, rfl, hb, hx, hox, hc⟩ := (HL.out.keep hbl).get (show k < n by omega)
      have HX := Lib.hid (show (l.map (·.2))[k]? = some x by rw [List.getElem?_map, hx]; rfl)
      have hRn : R.n = vn := by rw [← hox.ints.len]; exact HA.out.1 x (List.mem_of_getElem? HX.out)
      have HO := Lib.hid hox
      clear hx hox
      go_wp2_with fail
      have K := spec_l20Compare (w := wr) HO.out.ints (by rw [hRn]; exact HV.out.keep hbl) (by omega)
      rw [hRn] at K
      refine Calls.mono K ?_
      rintro e w1 ⟨rfl, hb1⟩
      have hb2 : Below w.heap.size w w1 := below_callS hbl hb1
      clear K hb1
      by_cases hcmp : cmpL x v < 0
      · have HU := Lib.hid (plc_up HA.out HVM.out HX.out hcmp)
        go_wp2
        go_roundw
        case rel => exact ⟨k + 1, q, by go_num, rfl, by omega, hqn, hb2, Lib.hid ⟨HU.out, A.out.2⟩⟩
        case measure => simp [intOf]; omega
      · have HU := Lib.hid (plc_dn HA.out HVM.out HX.out hcmp)
        go_wp2
        go_roundw
        case rel => exact ⟨p, k, rfl, rfl, by omega, by omega, hb2, Lib.hid ⟨A.out.1, HU.out⟩⟩
        case measure => simp [intOf]; omega
    · obtain rfl : p = q := by omega
      have hlt' : ¬ (p : Int) < (p : Int) := by omega
      have HP := Lib.hid (show Plc (l.map (·.2)) v p from ⟨by rw [HLL.out]; exact hqn, A.out.1, A.out.2⟩)
      have HM := Lib.hid (plc_mem HA.out HVM.out HP.out)
      by_cases hpn : p < n
      · have hpn' : (p : Int) < (n : Int) := by omega
        have hp0 : (0 : Int) ≤ (p : Int) := by omega
        obtain ⟨b, off, R, x, rfl, hb, hx, hox, hc⟩ := (HL.out.keep hbl).get hpn
        have HX := Lib.hid (show (l.map (·.2))[p]? = some x by rw [List.getElem?_map, hx]; rfl)
        have hRn : R.n = vn := by rw [← hox.ints.len]; exact HA.out.1 x (List.mem_of_getElem? HX.out)
        have HO := Lib.hid hox
        clear hx hox
        have hD : decide (v ∈ l.map (·.2)) = decide (cmpL x v = 0) := by
          rw [Bool.eq_iff_iff, decide_eq_true_iff, decide_eq_true_iff, ← HM.out]
          constructor
          · rintro ⟨y, hy, h0⟩; rw [HX.out] at hy; cases hy; exact h0
          · intro h0; exact ⟨x, HX.out, h0⟩
        have HD := Lib.hid hD
        clear hD
        go_wp2_with fail
        have K := spec_l20Compare (w := wr) HO.out.ints (by rw [hRn]; exact HV.out.keep hbl) (by omega)
        rw [hRn] at K
        refine Calls.mono K ?_
        rintro e w1 ⟨rfl, hb1⟩
        have hb2 : Below w.heap.size w w1 := below_callS hbl hb1
        go_wp2
        go_ret2
        exact ⟨p, by rw [HD.out]; rfl, HP.out, hb2⟩
      · have hpn' : ¬ (p : Int) < (n : Int) := by omega
        have HD := Lib.hid (show decide (v ∈ l.map (·.2)) = false by
          rw [decide_eq_false_iff_not, ← HM.out]
          rintro ⟨y, hy, _⟩
          have := (List.getElem?_eq_some_iff.1 hy).1
          rw [HLL.out] at this; omega)
        go_wp2
        go_ret2
        exact ⟨p, by rw [HD.out]; rfl, HP.out, hbl⟩
end Go.Proofs.YtkaikbaagajckaaGreat
