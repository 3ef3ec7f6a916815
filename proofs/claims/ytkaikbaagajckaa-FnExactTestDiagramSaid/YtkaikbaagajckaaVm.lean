/- Maps to int64 that the call makes: keyed by int64, by a node, by a pair. -/
import Derived.Test.YtkaikbaagajckaaJa
import Derived.Test.YtkaikbaagajckaaL01
import Derived.Test.YtkaikbaagajckaaEx
import Derived.Maps.Own
import Derived.Maps.Views
import Derived.Maps.OwnOps
import Derived.DeepKeys4
namespace Go.Proofs.Ytkaikbaagajckaa
open Go.RowKit
set_option linter.unusedVariables false
set_option linter.unusedSimpArgs false
/-- how keys of a kind stand for what they mean -/
structure KeyA {α : Type} (Kt : TypeId) (enc : α → Value) (ok : α → Prop) (lit : α → Lit) : Prop where
  keyed : Maps.Keyed Try.prog Kt
  key : ∀ x, ok x → keyOf Try.prog Kt (enc x) = some (lit x)
  inj : ∀ x y, enc x = enc y → x = y
/-- block b is a map of at most n entries that answers as f does -/
def MapA {α : Type} (Kt : TypeId) (ok : α → Prop) (lit : α → Lit) (w : World) (b n : Nat) (f : α → Option Int) : Prop :=
  ∃ D : DataW Unit, w.ownsMap Try.prog Kt (plainElem Try.prog 2) b n D ∧ Maps.IsMap D ∧ ∀ x, ok x → match f x with | some v => (∀ z, D.atKey (lit x) z = .lit (.int .i64 v)) | none => ∀ z, D.atKey (lit x) z = z
section
variable {α : Type} {Kt : TypeId} {enc : α → Value} {ok : α → Prop} {lit : α → Lit}
theorem MapA.lt {w : World} {b n : Nat} {f : α → Option Int} (h : MapA Kt ok lit w b n f) : b < w.heap.size := by
  obtain ⟨D, h1, _⟩ := h
  exact h1.lt
theorem MapA.made (w : World) : MapA Kt ok lit (w.alloc (.map #[] 0)) w.heap.size 0 (fun _ : α => none) :=
  ⟨.map [], World.ownsMap_made w _ _ _, ⟨_, rfl⟩, fun x _ z => rfl⟩
theorem MapA.keepG {w w' : World} {b n : Nat} {f : α → Option Int} {r : Option Nat} (h : MapA Kt ok lit w b n f) (hg : w.grownBy w' r) (hne : r ≠ some b) : MapA Kt ok lit w' b n f := by
  obtain ⟨D, h1, h2, h3⟩ := h
  exact ⟨D, h1.kept hg (fun e => hne e.symm), h2, h3⟩
theorem MapA.keep {w w' : World} {b n : Nat} {f : α → Option Int} (h : MapA Kt ok lit w b n f) (hb : Below w.heap.size w w') : MapA Kt ok lit w' b n f := h.keepG (grownBy_below hb none) (fun e => by cases e)
/-- only the block counts -/
theorem MapA.at {w w' : World} {b n : Nat} {f : α → Option Int} (h : MapA Kt ok lit w b n f) (hb : w'.heap[b]? = w.heap[b]?) : MapA Kt ok lit w' b n f := by
  obtain ⟨D, ⟨es, clock, h1, r⟩, h2, h3⟩ := h
  exact ⟨D, ⟨es, clock, hb.trans h1, r⟩, h2, h3⟩
theorem MapA.isMap {w : World} {b n : Nat} {f : α → Option Int} (h : MapA Kt ok lit w b n f) : ∃ es clock, w.heap[b]? = some (.map es clock) := by
  obtain ⟨D, ⟨es, clock, h1, r⟩, h2, h3⟩ := h
  exact ⟨es, clock, h1⟩
theorem MapA.congr {w : World} {b n : Nat} {f g : α → Option Int} (h : MapA Kt ok lit w b n f) (he : ∀ x, ok x → f x = g x) : MapA Kt ok lit w b n g := by
  obtain ⟨D, h1, h2, h3⟩ := h
  exact ⟨D, h1, h2, fun x hx => by have := h3 x hx; rw [he x hx] at this; exact this⟩
/-- 'v, ok := m[k]' and 'm[k]' -/
theorem MapA.look {w : World} {b n : Nat} {f : α → Option Int} (h : MapA Kt ok lit w b n f) (hK : KeyA Kt enc ok lit) {t : TypeId} (ht : Try.prog.underlying t = some (.map Kt 2)) {x : α} (hx : ok x) (c : Bool) :
    (Instr.lookup t (.map (some b)) (enc x) c).run Try.prog w = .ok (match f x with | some v => if c then .tuple #[.int .i64 v, .bool true] else .int .i64 v | none => if c then .tuple #[.int .i64 0, .bool false] else .int .i64 0) w := by
  obtain ⟨D, ⟨es, clock, hb, hF, _, rfl⟩, h2, h3⟩ := h
  have hat := h3 x hx
  have hz : (zeroValue 2).run Try.prog w = .ok (.int .i64 0) w := by kernel_rfl
  rcases Maps.fit_look c hK.keyed ht hz hb hF (hK.key x hx) with ⟨hrun, _, ha⟩ | ⟨e0, y, _, _, hrun, hRv, ha, _⟩
  · cases hf : f x with
    | none => exact hrun
    | some v =>
      rw [hf] at hat
      have := hat .nil
      rw [ha] at this
      cases this
  · obtain ⟨a, hv, hy, hwf⟩ := plainElem_int_inv Try.underlying2 hRv
    cases hf : f x with
    | none =>
      rw [hf] at hat
      have := hat .nil
      rw [ha, hy] at this
      cases this
    | some v =>
      rw [hf] at hat
      have := hat .nil
      rw [ha, hy] at this
      simp only [DataW.lit.injEq, Lit.int.injEq, true_and] at this
      rw [hrun, hv, this]
/-- 'm[k] = v' -/
theorem MapA.put [DecidableEq α] {w : World} {b n : Nat} {f : α → Option Int} (h : MapA Kt ok lit w b n f) (hK : KeyA Kt enc ok lit) {t : TypeId} (ht : Try.prog.underlying t = some (.map Kt 2)) (hn : n < maxLen) {x : α} (hx : ok x) {v : Int} (hv : I64 v) :
    ∃ w', (Instr.mapUpdate t (.map (some b)) (enc x) (.int .i64 v)).run Try.prog w = .ok () w' ∧ MapA Kt ok lit w' b (n + 1) (fun y => if y = x then some v else f y) ∧ w.grownBy w' (some b) := by
  obtain ⟨D, h1, h2, h3⟩ := h
  obtain ⟨w', hrun, hown, hg⟩ := h1.update hK.keyed ht hn (hK.key x hx) (plainElem_int Try.underlying2 hv.wf)
  refine ⟨w', hrun, ⟨_, hown, h2.put _ _, fun y hy => ?_⟩, hg⟩
  by_cases e : y = x
  · subst e
    have e9 : (if y = y then some v else f y) = some v := if_pos rfl
    simp only [e9]
    intro z
    exact Maps.atKey_put_same h2 (hK.keyed.key (hK.key y hx)) _ _
  · have e9 : (if y = x then some v else f y) = f y := if_neg e
    simp only [e9]
    have hne : lit y ≠ lit x := fun el => e (hK.inj y x (hK.keyed.inj (hK.key y hy) (by rw [el]; exact hK.key x hx)))
    have := h3 y hy
    cases hf : f y with
    | none => rw [hf] at this; intro z; rw [Maps.atKey_put_other hne]; exact this z
    | some u => rw [hf] at this; intro z; rw [Maps.atKey_put_other hne]; exact this z
/-- .. as an operation of a drawn region -/
theorem MapA.wp [DecidableEq α] {w : World} {b n : Nat} {f : α → Option Int} (h : MapA Kt ok lit w b n f) (hK : KeyA Kt enc ok lit) {t : TypeId} (ht : Try.prog.underlying t = some (.map Kt 2)) (hn : n < maxLen) {x : α} (hx : ok x) {v : Int} (hv : I64 v)
    {o : Oper} {act : Act} {K : Act → World → Prop} {Q : Exit → Act → World → Prop} (m y z : Operand) (hop : o.op = Op.mapUpdate t m y z) (hm : act.eval m = .map (some b)) (hy : act.eval y = enc x) (hz : act.eval z = .int .i64 v)
    (hk : ∀ w', MapA Kt ok lit w' b (n + 1) (fun y => if y = x then some v else f y) → w.grownBy w' (some b) → K (act.put o.dst undef) w') : o.wp Try.prog act w K Q := by
  obtain ⟨w', hrun, h1, h2⟩ := h.put hK ht hn hx hv
  unfold Oper.wp
  simp [execOp, hop, hm, hy, hz, hrun, Result.andThen]
  exact hk w' h1 h2
end
/-! ### the keys -/
def encK1 (x : Int) : Value := .int .i64 x
def litK1 (x : Int) : Lit := .int .i64 x
theorem keyI : KeyA 2 encK1 I64 litK1 := ⟨Maps.int_keyed Try.underlying2, fun x hx => Maps.keyOf_int_mk Try.underlying2 hx.wf, fun x y h => by simpa [encK1] using h⟩
def encK3 (x : I3) : Value := .agg #[.int .i64 x.a, .int .i64 x.b, .int .i64 x.c]
def litK3 (x : I3) : Lit := .string (keyBytes [.int .i64 x.a, .int .i64 x.b, .int .i64 x.c])
theorem key3_at {P : Program} {Kt I m : Nat} {fs : Array Field} (hu : P.underlying Kt = some (.struct fs)) (hI : P.underlying I = some (.int .i64)) (hk : P.keyType Kt = true) (hm : P.types.size = m + 1) (hc : P.cellsOf Kt = 3) (hcI : P.cellsOf I = 1)
    (hf : fs.toList.map (fun f => (f.type, f.offset)) = [(I, 0), (I, 1), (I, 2)]) (hn : ∀ f ∈ fs.toList, f.name ≠ "_") (x : I3) (h : x.ok) : keyOf P Kt (encK3 x) = some (litK3 x) := by
  have h1 := h.1.wf
  have h2 := h.2.1.wf
  have h3 := h.2.2.wf
  obtain ⟨l⟩ := fs
  rcases l with _ | ⟨f0, _ | ⟨f1, _ | ⟨f2, _ | ⟨f3, r⟩⟩⟩⟩
  · simp at hf
  · simp at hf
  · simp at hf
  · simp only [List.map_cons, List.map_nil, List.cons.injEq, Prod.mk.injEq, and_true] at hf
    obtain ⟨⟨t0, o0⟩, ⟨t1, o1⟩, ⟨t2, o2⟩⟩ := hf
    have n0 := hn f0 (by simp)
    have n1 := hn f1 (by simp)
    have n2 := hn f2 (by simp)
    simp [keyOf, hu, hk, encK3, Value.formed, hc, Program.keyLits, hm, n0, n1, n2, Value.cells, t0, t1, t2, o0, o1, o2, hcI, hI, h1, h2, h3, litK3]
  · simp at hf
theorem Try.laidV : laidOutB Try.prog = true := by kernel_rfl
theorem Try.rowNode : (76 : TypeId) < Try.prog.types.size := of_decide_eq_true (by kernel_rfl)
theorem Try.deepNode : Try.prog.keyTypeAt 3 76 = true := by kernel_rfl
theorem keyedN : Maps.Keyed Try.prog 76 := Maps.Keyed.of_law (deep_law_laid Try.laidV (m := 3) (by omega) Try.rowNode Try.deepNode (by rw [Try.underlying76]))
theorem Try.cellsNode : Try.prog.cellsOf 76 = 3 := by kernel_rfl
theorem Try.cellsI : Try.prog.cellsOf 2 = 1 := by kernel_rfl
theorem Try.keyNode : Try.prog.keyType 76 = true := by kernel_rfl
theorem Try.someTypes : 0 < Try.prog.types.size := of_decide_eq_true (by kernel_rfl)
theorem keyN_at (x : I3) (h : x.ok) : keyOf Try.prog 76 (encK3 x) = some (litK3 x) := by
  obtain ⟨m, hm⟩ : ∃ m, Try.prog.types.size = m + 1 := ⟨Try.prog.types.size - 1, by have := Try.someTypes; omega⟩
  exact key3_at Try.underlying76 Try.underlying2 Try.keyNode hm Try.cellsNode Try.cellsI rfl (fun f hf => by
    simp at hf
    rcases hf with rfl | rfl | rfl <;> decide) x h
theorem keyN : KeyA 76 encK3 I3.ok litK3 := ⟨keyedN, keyN_at, fun x y h => by
  simp [encK3] at h
  rw [I3.eta x, I3.eta y, h.1, h.2.1, h.2.2]⟩
end Go.Proofs.Ytkaikbaagajckaa
