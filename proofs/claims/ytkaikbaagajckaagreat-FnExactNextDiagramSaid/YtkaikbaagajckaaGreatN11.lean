/- Maps to int64 that the call makes: keyed by int64, by a node, by a pair.; The source of drawn numbers, walked.; What a draw leaves: the source alone has moved, all that is new is the call's own.; Draws: the steps of a walk, each for whatever world stands there. -/
import Derived.Test.YtkaikbaagajckaaGreatN10
import Derived.Test.YtkaikbaagajckaaGreatN01
import Derived.Maps.Own
import Derived.Maps.Views
import Derived.Maps.OwnOps
import Derived.DeepKeys4
import Derived.RegionTactic
import Derived.BigRegion
import Derived.Test.YtkaikbaagajckaaGreatN09
namespace Go.Proofs.YtkaikbaagajckaaGreat
open Go.RowKit
set_option linter.unusedVariables false
set_option linter.unusedSimpArgs false
/-- how keys of a kind stand for what they mean -/
structure KeyA {α : Type} (Kt : TypeId) (enc : α → Value) (ok : α → Prop) (lit : α → Lit) : Prop where
  keyed : Maps.Keyed Tryz.prog Kt
  key : ∀ x, ok x → keyOf Tryz.prog Kt (enc x) = some (lit x)
  inj : ∀ x y, enc x = enc y → x = y
/-- block b is a map of at most n entries that answers as f does -/
def MapA {α : Type} (Kt : TypeId) (ok : α → Prop) (lit : α → Lit) (w : World) (b n : Nat) (f : α → Option Int) : Prop :=
  ∃ D : DataW Unit, w.ownsMap Tryz.prog Kt (plainElem Tryz.prog 2) b n D ∧ Maps.IsMap D ∧ ∀ x, ok x → match f x with | some v => (∀ z, D.atKey (lit x) z = .lit (.int .i64 v)) | none => ∀ z, D.atKey (lit x) z = z
section
variable {α : Type} {Kt : TypeId} {enc : α → Value} {ok : α → Prop} {lit : α → Lit}
theorem MapA.lt {w : World} {b n : Nat} {f : α → Option Int} (h : MapA Kt ok lit w b n f) : b < w.heap.size := by
  obtain ⟨D, h1, _⟩ := h
  exact h1.lt
theorem MapA.made (w : World) : MapA Kt ok lit (w.alloc (.map #[] 0)) w.heap.size 0 (fun _ : α => none) :=
  ⟨.map [], World.ownsMap_made w _ _ _, ⟨_, rfl⟩, fun x _ z => rfl⟩
theorem MapA.keepG {w w' : World} {b n : Nat} {f : α → Option Int} {r : Option Nat} (h : MapA Kt ok lit w b n f) (hg : w.grownBy w' r) (hne : r ≠ some b) : MapA Kt ok lit w' b n f := by
  obtain ⟨D, h1, h2, h3⟩ := h
  exact ⟨D, h1.kept hg (fun e => hne e.symm), h2, h3⟩
theorem MapA.keep {w w' : World} {b n : Nat} {f : α → Option Int} (h : MapA Kt ok lit w b n f) (hb : Below w.heap.size w w') : MapA Kt ok lit w' b n f := h.keepG (grownBy_below hb none) (fun e => by cases e)
/-- only the block counts -/
theorem MapA.at {w w' : World} {b n : Nat} {f : α → Option Int} (h : MapA Kt ok lit w b n f) (hb : w'.heap[b]? = w.heap[b]?) : MapA Kt ok lit w' b n f := by
  obtain ⟨D, ⟨es, clock, h1, r⟩, h2, h3⟩ := h
  exact ⟨D, ⟨es, clock, hb.trans h1, r⟩, h2, h3⟩
theorem MapA.isMap {w : World} {b n : Nat} {f : α → Option Int} (h : MapA Kt ok lit w b n f) : ∃ es clock, w.heap[b]? = some (.map es clock) := by
  obtain ⟨D, ⟨es, clock, h1, r⟩, h2, h3⟩ := h
  exact ⟨es, clock, h1⟩
theorem MapA.congr {w : World} {b n : Nat} {f g : α → Option Int} (h : MapA Kt ok lit w b n f) (he : ∀ x, ok x → f x = g x) : MapA Kt ok lit w b n g := by
  obtain ⟨D, h1, h2, h3⟩ := h
  exact ⟨D, h1, h2, fun x hx => by have := h3 x hx; rw [he x hx] at this; exact this⟩
/-- 'v, ok := m[k]' and 'm[k]' -/
theorem MapA.look {w : World} {b n : Nat} {f : α → Option Int} (h : MapA Kt ok lit w b n f) (hK : KeyA Kt enc ok lit) {t : TypeId} (ht : Tryz.prog.underlying t = some (.map Kt 2)) {x : α} (hx : ok x) (c : Bool) :
    (Instr.lookup t (.map (some b)) (enc x) c).run Tryz.prog w = .ok (match f x with | some v => if c then .tuple #[.int .i64 v, .bool true] else .int .i64 v | none => if c then .tuple #[.int .i64 0, .bool false] else .int .i64 0) w := by
  obtain ⟨D, ⟨es, clock, hb, hF, _, rfl⟩, h2, h3⟩ := h
  have hat := h3 x hx
  have hz : (zeroValue 2).run Tryz.prog w = .ok (.int .i64 0) w := by kernel_rfl
  rcases Maps.fit_look c hK.keyed ht hz hb hF (hK.key x hx) with ⟨hrun, _, ha⟩ | ⟨e0, y, _, _, hrun, hRv, ha, _⟩
  · cases hf : f x with
    | none => exact hrun
    | some v =>
      rw [hf] at hat
      have := hat .nil
      rw [ha] at this
      cases this
  · obtain ⟨a, hv, hy, hwf⟩ := plainElem_int_inv Tryz.underlying2 hRv
    cases hf : f x with
    | none =>
      rw [hf] at hat
      have := hat .nil
      rw [ha, hy] at this
      cases this
    | some v =>
      rw [hf] at hat
      have := hat .nil
      rw [ha, hy] at this
      simp only [DataW.lit.injEq, Lit.int.injEq, true_and] at this
      rw [hrun, hv, this]
/-- 'm[k] = v' -/
theorem MapA.put [DecidableEq α] {w : World} {b n : Nat} {f : α → Option Int} (h : MapA Kt ok lit w b n f) (hK : KeyA Kt enc ok lit) {t : TypeId} (ht : Tryz.prog.underlying t = some (.map Kt 2)) (hn : n < maxLen) {x : α} (hx : ok x) {v : Int} (hv : I64 v) :
    ∃ w', (Instr.mapUpdate t (.map (some b)) (enc x) (.int .i64 v)).run Tryz.prog w = .ok () w' ∧ MapA Kt ok lit w' b (n + 1) (fun y => if y = x then some v else f y) ∧ w.grownBy w' (some b) := by
  obtain ⟨D, h1, h2, h3⟩ := h
  obtain ⟨w', hrun, hown, hg⟩ := h1.update hK.keyed ht hn (hK.key x hx) (plainElem_int Tryz.underlying2 hv.wf)
  refine ⟨w', hrun, ⟨_, hown, h2.put _ _, fun y hy => ?_⟩, hg⟩
  by_cases e : y = x
  · subst e
    have e9 : (if y = y then some v else f y) = some v := if_pos rfl
    simp only [e9]
    intro z
    exact Maps.atKey_put_same h2 (hK.keyed.key (hK.key y hx)) _ _
  · have e9 : (if y = x then some v else f y) = f y := if_neg e
    simp only [e9]
    have hne : lit y ≠ lit x := fun el => e (hK.inj y x (hK.keyed.inj (hK.key y hy) (by rw [el]; exact hK.key x hx)))
    have := h3 y hy
    cases hf : f y with
    | none => rw [hf] at this; intro z; rw [Maps.atKey_put_other hne]; exact this z
    | some u => rw [hf] at this; intro z; rw [Maps.atKey_put_other hne]; exact this z
/-- .. as an operation of a drawn region -/
theorem MapA.wp [DecidableEq α] {w : World} {b n : Nat} {f : α → Option Int} (h : MapA Kt ok lit w b n f) (hK : KeyA Kt enc ok lit) {t : TypeId} (ht : Tryz.prog.underlying t = some (.map Kt 2)) (hn : n < maxLen) {x : α} (hx : ok x) {v : Int} (hv : I64 v)
    {o : Oper} {act : Act} {K : Act → World → Prop} {Q : Exit → Act → World → Prop} (m y z : Operand) (hop : o.op = Op.mapUpdate t m y z) (hm : act.eval m = .map (some b)) (hy : act.eval y = enc x) (hz : act.eval z = .int .i64 v)
    (hk : ∀ w', MapA Kt ok lit w' b (n + 1) (fun y => if y = x then some v else f y) → w.grownBy w' (some b) → K (act.put o.dst undef) w') : o.wp Tryz.prog act w K Q := by
  obtain ⟨w', hrun, h1, h2⟩ := h.put hK ht hn hx hv
  unfold Oper.wp
  simp [execOp, hop, hm, hy, hz, hrun, Result.andThen]
  exact hk w' h1 h2
end
/-! ### the keys -/
def encK1 (x : Int) : Value := .int .i64 x
def litK1 (x : Int) : Lit := .int .i64 x
theorem keyI : KeyA 2 encK1 I64 litK1 := ⟨Maps.int_keyed Tryz.underlying2, fun x hx => Maps.keyOf_int_mk Tryz.underlying2 hx.wf, fun x y h => by simpa [encK1] using h⟩
def encK3 (x : I3) : Value := .agg #[.int .i64 x.a, .int .i64 x.b, .int .i64 x.c]
def litK3 (x : I3) : Lit := .string (keyBytes [.int .i64 x.a, .int .i64 x.b, .int .i64 x.c])
theorem key3_at {P : Program} {Kt I m : Nat} {fs : Array Field} (hu : P.underlying Kt = some (.struct fs)) (hI : P.underlying I = some (.int .i64)) (hk : P.keyType Kt = true) (hm : P.types.size = m + 1) (hc : P.cellsOf Kt = 3) (hcI : P.cellsOf I = 1)
    (hf : fs.toList.map (fun f => (f.type, f.offset)) = [(I, 0), (I, 1), (I, 2)]) (hn : ∀ f ∈ fs.toList, f.name ≠ "_") (x : I3) (h : x.ok) : keyOf P Kt (encK3 x) = some (litK3 x) := by
  have h1 := h.1.wf
  have h2 := h.2.1.wf
  have h3 := h.2.2.wf
  obtain ⟨l⟩ := fs
  rcases l with _ | ⟨f0, _ | ⟨f1, _ | ⟨f2, _ | ⟨f3, r⟩⟩⟩⟩
  · simp at hf
  · simp at hf
  · simp at hf
  · simp only [List.map_cons, List.map_nil, List.cons.injEq, Prod.mk.injEq, and_true] at hf
    obtain ⟨⟨t0, o0⟩, ⟨t1, o1⟩, ⟨t2, o2⟩⟩ := hf
    have n0 := hn f0 (by simp)
    have n1 := hn f1 (by simp)
    have n2 := hn f2 (by simp)
    simp [keyOf, hu, hk, encK3, Value.formed, hc, Program.keyLits, hm, n0, n1, n2, Value.cells, t0, t1, t2, o0, o1, o2, hcI, hI, h1, h2, h3, litK3]
  · simp at hf
theorem Tryz.laidV : laidOutB Tryz.prog = true := by kernel_rfl
theorem Tryz.rowNode : (117 : TypeId) < Tryz.prog.types.size := of_decide_eq_true (by kernel_rfl)
theorem Tryz.deepNode : Tryz.prog.keyTypeAt 3 117 = true := by kernel_rfl
theorem keyedN : Maps.Keyed Tryz.prog 117 := Maps.Keyed.of_law (deep_law_laid Tryz.laidV (m := 3) (by omega) Tryz.rowNode Tryz.deepNode (by rw [Tryz.underlying117]))
theorem Tryz.cellsNode : Tryz.prog.cellsOf 117 = 3 := by kernel_rfl
theorem Tryz.cellsI : Tryz.prog.cellsOf 2 = 1 := by kernel_rfl
theorem Tryz.keyNode : Tryz.prog.keyType 117 = true := by kernel_rfl
theorem Tryz.someTypes : 0 < Tryz.prog.types.size := of_decide_eq_true (by kernel_rfl)
theorem keyN_at (x : I3) (h : x.ok) : keyOf Tryz.prog 117 (encK3 x) = some (litK3 x) := by
  obtain ⟨m, hm⟩ : ∃ m, Tryz.prog.types.size = m + 1 := ⟨Tryz.prog.types.size - 1, by have := Tryz.someTypes; omega⟩
  exact key3_at Tryz.underlying117 Tryz.underlying2 Tryz.keyNode hm Tryz.cellsNode Tryz.cellsI rfl (fun f hf => by
    simp at hf
    rcases hf with rfl | rfl | rfl <;> decide) x h
theorem keyN : KeyA 117 encK3 I3.ok litK3 := ⟨keyedN, keyN_at, fun x y h => by
  simp [encK3] at h
  rw [I3.eta x, I3.eta y, h.1, h.2.1, h.2.2]⟩
instance I64.dec (x : Int) : Decidable (I64 x) := inferInstanceAs (Decidable (_ ∧ _))
/-- bytes that are read: '.slice a n c' -/
structure Byts (w : World) (a : Option Addr) (n c : Nat) : Prop where
  cap : n ≤ c
  pos : n = 0 ∨ ∃ b off, a = some ⟨b, off, none⟩ ∧ b < w.heap.size ∧ ∀ i, i < n → ∃ x : Int, 0 ≤ x ∧ x ≤ 255 ∧ w.cell? ⟨b, off + i, none⟩ = some (.int .u8 x)
theorem Byts.keep {w w' : World} {a : Option Addr} {n c : Nat} (h : Byts w a n c) (hb : Below w.heap.size w w') : Byts w' a n c := by
  refine ⟨h.cap, ?_⟩
  rcases h.pos with h0 | ⟨b, off, ha, hlt, hc⟩
  · exact .inl h0
  · exact .inr ⟨b, off, ha, Nat.lt_of_lt_of_le hlt hb.size, fun i hi => by obtain ⟨x, h1, h2, h3⟩ := hc i hi; exact ⟨x, h1, h2, (hb.cell (p := ⟨b, off + i, none⟩) hlt).trans h3⟩⟩
theorem Byts.at {w : World} {a : Option Addr} {n c : Nat} (h : Byts w a n c) {k : Nat} (hk : k < n) : ∃ b off x, a = some ⟨b, off, none⟩ ∧ b < w.heap.size ∧ (0 : Int) ≤ x ∧ x ≤ 255 ∧ w.cell? ⟨b, off + k, none⟩ = some (.int .u8 x) := by
  obtain ⟨b, off, ha, hlt, hc⟩ := h.pos.resolve_left (by omega)
  obtain ⟨x, h1, h2, h3⟩ := hc k hk
  exact ⟨b, off, x, ha, hlt, h1, h2, h3⟩
/-- bytes in blocks below lo -/
def BytsLo (w : World) (lo : Nat) (a : Option Addr) (n c : Nat) : Prop := Byts w a n c ∧ lo ≤ w.heap.size ∧ (n = 0 ∨ ∃ b off, a = some ⟨b, off, none⟩ ∧ b < lo)
theorem Byts.lo {w : World} {a : Option Addr} {n c : Nat} (h : Byts w a n c) : BytsLo w w.heap.size a n c :=
  ⟨h, Nat.le_refl _, h.pos.imp_right fun ⟨b, off, ha, hlt, _⟩ => ⟨b, off, ha, hlt⟩⟩
theorem BytsLo.below {w w' : World} {lo : Nat} {a : Option Addr} {n c : Nat} (h : BytsLo w lo a n c) (hb : Below lo w w') : BytsLo w' lo a n c := by
  obtain ⟨h1, h2, h3⟩ := h
  refine ⟨⟨h1.cap, ?_⟩, Nat.le_trans h2 hb.size, h3⟩
  rcases h3 with h0 | ⟨b, off, ha, hlt⟩
  · exact .inl h0
  · rcases h1.pos with h0 | ⟨b', off', ha', hlt', hc⟩
    · exact .inl h0
    · rw [ha] at ha'
      simp only [Option.some.injEq, Addr.mk.injEq, and_true] at ha'
      obtain ⟨rfl, rfl⟩ := ha'
      exact .inr ⟨b, off, ha, Nat.lt_of_lt_of_le hlt' hb.size, fun i hi => by obtain ⟨x, h1, h2, h3⟩ := hc i hi; exact ⟨x, h1, h2, (hb.cell (p := ⟨b, off + i, none⟩) hlt).trans h3⟩⟩
/-- block b is a source whose bytes lie below lo -/
def Src (T : TypeId) (w : World) (lo b : Nat) : Prop :=
  ∃ a n c p s, Blk w b #[.slice a n c, .int .i64 p, .int .i64 s] T ∧ BytsLo w lo a n c ∧ n ≤ 4096 ∧ 0 ≤ p ∧ p ≤ n ∧ 0 ≤ s ∧ s < 2147483647 ∧ lo ≤ b
theorem Src.lt {T : TypeId} {w : World} {lo b : Nat} (h : Src T w lo b) : lo ≤ b ∧ b < w.heap.size := by
  obtain ⟨a, n, c, p, s, h1, _, _, _, _, _, _, h2⟩ := h
  exact ⟨h2, h1.lt⟩
/-- the source stays where other blocks from lo on are written -/
theorem Src.apart {T : TypeId} {w w' : World} {lo b l2 h2 : Nat} (h : Src T w lo b) (ho : Only l2 h2 w w') (hd : b < l2 ∨ h2 ≤ b) (hl : lo ≤ l2) : Src T w' lo b := by
  have hlt := h.lt
  obtain ⟨a, n, c, p, s, h1, h3, r⟩ := h
  refine ⟨a, n, c, p, s, h1.apart ho hd, h3.below ?_, r⟩
  exact ⟨ho.os, ho.tape, ho.output, ho.size, fun k hk => ho.block k (by omega) (.inl (by omega))⟩
theorem Src.keep {T : TypeId} {w w' : World} {lo b : Nat} (h : Src T w lo b) (hb : Below w.heap.size w w') : Src T w' lo b :=
  h.apart (Only.of_below (lo := w.heap.size) (hi := w.heap.size) hb) (.inl h.lt.2) (Nat.le_of_lt (Nat.lt_of_le_of_lt h.lt.1 h.lt.2))
theorem Src.alloc {T : TypeId} {w : World} {lo b : Nat} (h : Src T w lo b) (o : Obj) : Src T (w.alloc o) lo b := h.keep ((Below.refl _ _).alloc (Nat.le_refl _) o)
theorem Src.drewN {T : TypeId} {w : World} {lo b : Nat} (h : Src T w lo b) (n : Nat) : Src T (w.drewN n) lo b := h.keep ⟨rfl, rfl, rfl, Nat.le_refl _, fun _ _ => rfl⟩
theorem Src.drew {T : TypeId} {w : World} {lo b : Nat} (h : Src T w lo b) : Src T w.drew lo b := h.keep ⟨rfl, rfl, rfl, Nat.le_refl _, fun _ _ => rfl⟩
theorem Src.set {T : TypeId} {w : World} {lo b b' : Nat} (h : Src T w lo b) (hb : b' ≠ b) (hl : lo ≤ b') (i : Nat) (v : Value) : Src T (w.setCell ⟨b', i, none⟩ v) lo b := by
  have := (Only.refl b' (b' + 1) w).set ⟨Nat.le_refl _, Nat.lt_succ_self _⟩ i v
  exact h.apart this (by omega) hl
theorem Blk.set {w : World} {b : Nat} {cs : Array Value} {T : TypeId} (h : Blk w b cs T) (i : Nat) (v : Value) : Blk (w.setCell ⟨b, i, none⟩ v) b (cs.setIfInBounds i v) T := by
  exact heap_setCell_same w b i cs T v h
def allI64 : List Int → Prop
  | [] => True
  | x :: r => I64 x ∧ allI64 r
theorem allI64.mem : ∀ {l : List Int}, allI64 l → ∀ x ∈ l, I64 x
  | [], _, x, h => by cases h
  | y :: r, h, x, hx => by
    rcases List.mem_cons.1 hx with rfl | hx
    · exact h.1
    · exact allI64.mem h.2 x hx
/-- what l01Next answers -/
def NextIn (n r : Int) : Prop := 0 ≤ r ∧ (n ≤ 1 → r = 0) ∧ (1 < n → r < n)
theorem NextIn.i64 {n r : Int} (h : NextIn n r) (hn : I64 n) : I64 r := by
  obtain ⟨h1, h2, h3⟩ := h
  unfold I64 at hn ⊢
  by_cases h : n ≤ 1
  · have := h2 h; omega
  · have := h3 (by omega); omega
def Sm (x : Int) : Prop := -1000000 ≤ x ∧ x ≤ 1000000
theorem Sm.i64 {x : Int} (h : Sm x) : I64 x := ⟨by have := h.1; omega, by have := h.2; omega⟩
def Sm5 (x : Int) : Prop := -100000 ≤ x ∧ x ≤ 100000
theorem Sm5.i64 {x : Int} (h : Sm5 x) : I64 x := ⟨by have := h.1; omega, by have := h.2; omega⟩
/-- from w to w' only the source b is written, and it is a source there -/
structure Dw (T : TypeId) (lo b : Nat) (w w' : World) : Prop where
  only : Only b (b + 1) w w'
  src : Src T w' lo b
  lt : b < w.heap.size
theorem Dw.start {T : TypeId} {lo b : Nat} {w w' : World} (h : Dw T lo b w w') : Dw T lo b w' w' := ⟨Only.refl _ _ _, h.src, h.src.lt.2⟩
theorem Dw.of {T : TypeId} {lo b : Nat} {w : World} (h : Src T w lo b) : Dw T lo b w w := ⟨Only.refl _ _ _, h, h.lt.2⟩
theorem Dw.trans {T : TypeId} {lo b : Nat} {w w' w'' : World} (h : Dw T lo b w w') (h' : Dw T lo b w' w'') : Dw T lo b w w'' := ⟨h.only.trans h'.only, h'.src, h.lt⟩
theorem Dw.belowG {T : TypeId} {lo b B : Nat} {w w' w'' : World} (h : Dw T lo b w w') (hb : Below B w' w'') (hB : w.heap.size ≤ B) : Dw T lo b w w'' := by
  have hlt := h.src.lt
  have hb0 := h.lt
  have hs := h.only.size
  refine ⟨⟨hb.os.trans h.only.os, hb.tape.trans h.only.tape, hb.output.trans h.only.output, Nat.le_trans hs hb.size, fun k hk hr => (hb.block k (by omega)).trans (h.only.block k hk hr)⟩, ?_, h.lt⟩
  refine h.src.apart (l2 := B) (h2 := w'.heap.size) ⟨hb.os, hb.tape, hb.output, hb.size, fun k hk hr => hb.block k (by omega)⟩ (.inl (by omega)) (by omega)
theorem Dw.below {T : TypeId} {lo b : Nat} {w w' w'' : World} (h : Dw T lo b w w') (hb : Below w'.heap.size w' w'') : Dw T lo b w w'' := h.belowG hb h.only.size
theorem Dw.alloc {T : TypeId} {lo b : Nat} {w w' : World} (h : Dw T lo b w w') (o : Obj) : Dw T lo b w (w'.alloc o) := h.below ((Below.refl _ _).alloc (Nat.le_refl _) o)
theorem Dw.drewN {T : TypeId} {lo b : Nat} {w w' : World} (h : Dw T lo b w w') (n : Nat) : Dw T lo b w (w'.drewN n) := h.below ⟨rfl, rfl, rfl, Nat.le_refl _, fun _ _ => rfl⟩
theorem Dw.drew {T : TypeId} {lo b : Nat} {w w' : World} (h : Dw T lo b w w') : Dw T lo b w w'.drew := h.below ⟨rfl, rfl, rfl, Nat.le_refl _, fun _ _ => rfl⟩
theorem Dw.set {T : TypeId} {lo b g : Nat} {w w' : World} (h : Dw T lo b w w') (hg : w.heap.size ≤ g) (i : Nat) (v : Value) : Dw T lo b w (w'.setCell ⟨g, i, none⟩ v) :=
  h.belowG ((Below.refl w.heap.size w').setCell (p := ⟨g, i, none⟩) hg v) (Nat.le_refl _)
theorem Dw.size {T : TypeId} {lo b : Nat} {w w' : World} (h : Dw T lo b w w') : w.heap.size ≤ w'.heap.size := h.only.size
theorem Dw.out {T : TypeId} {b : Nat} {w w1 w' : World} (h : Dw T w.heap.size b w1 w') (h0 : Below w.heap.size w w1) : Below w.heap.size w w' := by
  have := (h.src.lt).1
  exact h.only.below h0 this h0.size
/-- what a cell that is there holds -/
def valAt (w : World) (g i : Nat) : Value := (w.cell? ⟨g, i, none⟩).getD undef
theorem valAt_of {w : World} {g i : Nat} (h : (w.cell? ⟨g, i, none⟩).isSome = true) : w.cell? ⟨g, i, none⟩ = some (valAt w g i) := by
  obtain ⟨v, hv⟩ := Option.isSome_iff_exists.1 h
  rw [valAt, hv]; rfl
theorem Dw.has {T : TypeId} {lo b g o : Nat} {w w' : World} (h : Dw T lo b w w') {u : Value} (hc : w.cell? ⟨g, o, none⟩ = some u) (hne : g ≠ b) : w'.cell? ⟨g, o, none⟩ = some (valAt w' g o) := by
  have hlt := World.block_lt_of_cell? w _ hc
  refine valAt_of ?_
  rw [ocell h.only g o hlt (by omega), hc]; rfl
theorem cell_drew {w : World} {a : Addr} {u : Value} (h : w.cell? a = some u) : w.drew.cell? a = some u := h
theorem lt_drew {w : World} {g : Nat} (h : g < w.heap.size) : g < w.drew.heap.size := h
theorem Blk.has {w : World} {b : Nat} {cs : Array Value} {T : TypeId} (h : Blk w b cs T) {i : Nat} (hi : i < cs.size) : w.cell? ⟨b, i, none⟩ = some (valAt w b i) := by
  refine valAt_of ?_
  rw [h.cell i]; simp [hi]
theorem Blk.dw {T T' : TypeId} {lo b g : Nat} {w w' : World} {cs : Array Value} (h : Blk w g cs T') (hd : Dw T lo b w w') (hne : g ≠ b) : Blk w' g cs T' := h.apart hd.only (by omega)
theorem OwnI.dw {E T : TypeId} {lo b B : Nat} {w w' : World} {a : Option Addr} {n c : Nat} {l : List Int} (h : OwnI E w B a n c l) (hd : Dw T lo b w w') (hB : b < B) : OwnI E w' B a n c l :=
  h.only hd.only fun g hg => by have := (h.blk g hg).1; omega
theorem OwnF.dw {α : Type} {k : Nat} {enc : α → List Value} {ok : α → Prop} {E T : TypeId} {lo b B : Nat} {w w' : World} {a : Option Addr} {n c : Nat} {l : List α} (h : OwnF k enc ok E w B a n c l) (hd : Dw T lo b w w') (hB : b < B) : OwnF k enc ok E w' B a n c l :=
  h.only hd.only fun g hg => by have := (h.blk g hg).1; omega
theorem Ints.dw {T : TypeId} {lo b : Nat} {w w' : World} {a : Option Addr} {n c : Nat} {l : List Int} (h : Ints w a n c l) (hd : Dw T lo b w w') (hne : ∀ g off, a = some ⟨g, off, none⟩ → g ≠ b) : Ints w' a n c l :=
  h.only hd.only fun g off e => by have := hne g off e; omega
theorem OwnI.ne {E : TypeId} {w : World} {B b : Nat} {a : Option Addr} {n c : Nat} {l : List Int} (h : OwnI E w B a n c l) (hB : b < B) : ∀ g off, a = some ⟨g, off, none⟩ → g ≠ b := fun g off e => by
  rcases h.form with ⟨h1, _⟩ | ⟨q, h1⟩
  · rw [h1] at e; cases e
  · have := (h.blk q h1).1
    rw [h1] at e; simp only [Option.some.injEq, Addr.mk.injEq] at e; omega
theorem OwnI.zeros {E : TypeId} {base m : Nat} {cs : Array Value} (w : World) (h : base ≤ w.heap.size) (hm : m ≤ 1048576) (hc : cs = (List.replicate m (Value.int .i64 0)).toArray) : OwnI E (w.alloc (.cells cs E)) base (some ⟨w.heap.size, 0, none⟩) m m (List.replicate m 0) := by
  subst hc
  refine ⟨?_, fun x hx => ?_⟩
  · have := World.ownsRow_lit (base := base) (e := E) (size := 1) w (List.replicate m (Value.int .i64 0)).toArray m h (by unfold maxLen; omega) (by simp)
    simpa using this
  · obtain ⟨_, rfl⟩ := List.mem_replicate.1 hx; decide
theorem OwnF.zeros {α : Type} {k m : Nat} {enc : α → List Value} {ok : α → Prop} {E : TypeId} {base : Nat} {cs : Array Value} (w : World) (z : α) (h : base ≤ w.heap.size) (hm : m ≤ 1048576) (hk : ∀ x, (enc x).length = k) (hz : ok z) (hc : cs = ((List.replicate m z).flatMap enc).toArray) : OwnF k enc ok E (w.alloc (.cells cs E)) base (some ⟨w.heap.size, 0, none⟩) m m (List.replicate m z) := by
  subst hc
  refine ⟨?_, fun x hx => ?_, by simp, hk⟩
  · have hl : ((List.replicate m z).flatMap enc).length = m * k := by
      induction m with
      | zero => simp
      | succ m ih => rw [List.replicate_succ, List.flatMap_cons, List.length_append, hk, ih (by omega), Nat.succ_mul, Nat.add_comm]
    have := World.ownsRow_lit (base := base) (e := E) (size := k) w ((List.replicate m z).flatMap enc).toArray m h (by unfold maxLen; omega) (by simp [hl])
    simpa using this
  · obtain ⟨_, rfl⟩ := List.mem_replicate.1 hx; exact hz
theorem I3.one (y : I3) : ∀ u ∈ y.enc, u.oneCell' = true := fun u hu => by
  simp only [I3.enc, List.mem_cons, List.not_mem_nil, or_false] at hu
  rcases hu with rfl | rfl | rfl <;> rfl
theorem I2.one (y : I2) : ∀ u ∈ y.enc, u.oneCell' = true := fun u hu => by
  simp only [I2.enc, List.mem_cons, List.not_mem_nil, or_false] at hu
  rcases hu with rfl | rfl <;> rfl
/-- where nothing but blocks from base on is written, base behind the source -/
theorem Dw.own {T : TypeId} {lo b B : Nat} {w0 w w' : World} (h : Dw T lo b w0 w) (hb : Below B w w') (hB : w0.heap.size ≤ B) : Dw T lo b w0 w' := h.belowG hb hB
theorem lit_flats {α : Type} {k : Nat} {enc : α → List Value} {ok : α → Prop} (w : World) (T : TypeId) (l : List α) (cs : Array Value) (hk : ∀ x, (enc x).length = k) (h0 : 0 < k) (hcs : cs = (l.flatMap enc).toArray) (hl : ∀ x ∈ l, ok x) :
    Flats k enc ok (w.alloc (.cells cs T)) (some ⟨w.heap.size, 0, none⟩) l.length l.length l := by
  subst hcs
  refine ⟨rfl, Nat.le_refl _, .inr ⟨w.heap.size, 0, rfl, by simp, fun i x hx j v hv => ?_⟩, hl, fun h => by cases h⟩
  have := (Blk.made w (l.flatMap enc).toArray T).cell (i * k + j)
  rw [Nat.zero_add, this]
  have h1 := flat_get hk hx hv
  simpa using h1
end Go.Proofs.YtkaikbaagajckaaGreat
