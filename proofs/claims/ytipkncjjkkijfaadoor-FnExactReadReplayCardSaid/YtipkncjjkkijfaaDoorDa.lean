/- Draws: the steps of a walk, each for whatever world stands there. -/
import Derived.Test.YtipkncjjkkijfaaDoorDw
import Derived.Test.YtipkncjjkkijfaaDoorAp
import Derived.Test.YtipkncjjkkijfaaDoorEx
namespace Go.Proofs.YtipkncjjkkijfaaDoor
open Go.RowKit
set_option linter.unusedVariables false
set_option linter.unusedSimpArgs false
theorem below_alloc1 {w w' : World} (h : Below w.heap.size w w') (o : Obj) : Below w.heap.size w (w'.alloc o) := h.alloc h.size o
theorem OwnF.emp {α : Type} {k : Nat} {enc : α → List Value} {ok : α → Prop} {E : TypeId} {base : Nat} (w : World) (h : base ≤ w.heap.size) (hk : ∀ x, (enc x).length = k) : OwnF k enc ok E (w.alloc (.cells #[] E)) base (some ⟨w.heap.size, 0, none⟩) 0 0 [] := by
  refine ⟨?_, (fun _ h => by cases h), rfl, hk⟩
  have := World.ownsRow_lit (base := base) (e := E) (size := k) w #[] 0 h (by omega) (by simp)
  simpa using this
theorem OwnI.zeros {E : TypeId} {base m : Nat} {cs : Array Value} (w : World) (h : base ≤ w.heap.size) (hm : m ≤ 1048576) (hc : cs = (List.replicate m (Value.int .i64 0)).toArray) : OwnI E (w.alloc (.cells cs E)) base (some ⟨w.heap.size, 0, none⟩) m m (List.replicate m 0) := by
  subst hc
  refine ⟨?_, fun x hx => ?_⟩
  · have := World.ownsRow_lit (base := base) (e := E) (size := 1) w (List.replicate m (Value.int .i64 0)).toArray m h (by unfold maxLen; omega) (by simp)
    simpa using this
  · obtain ⟨_, rfl⟩ := List.mem_replicate.1 hx; decide
theorem OwnF.zeros {α : Type} {k m : Nat} {enc : α → List Value} {ok : α → Prop} {E : TypeId} {base : Nat} {cs : Array Value} (w : World) (z : α) (h : base ≤ w.heap.size) (hm : m ≤ 1048576) (hk : ∀ x, (enc x).length = k) (hz : ok z) (hc : cs = ((List.replicate m z).flatMap enc).toArray) : OwnF k enc ok E (w.alloc (.cells cs E)) base (some ⟨w.heap.size, 0, none⟩) m m (List.replicate m z) := by
  subst hc
  refine ⟨?_, fun x hx => ?_, by simp, hk⟩
  · have hl : ((List.replicate m z).flatMap enc).length = m * k := by
      induction m with
      | zero => simp
      | succ m ih => rw [List.replicate_succ, List.flatMap_cons, List.length_append, hk, ih (by omega), Nat.succ_mul, Nat.add_comm]
    have := World.ownsRow_lit (base := base) (e := E) (size := k) w ((List.replicate m z).flatMap enc).toArray m h (by unfold maxLen; omega) (by simp [hl])
    simpa using this
  · obtain ⟨_, rfl⟩ := List.mem_replicate.1 hx; exact hz
theorem I3.one (y : I3) : ∀ u ∈ y.enc, u.oneCell' = true := fun u hu => by
  simp only [I3.enc, List.mem_cons, List.not_mem_nil, or_false] at hu
  rcases hu with rfl | rfl | rfl <;> rfl
theorem I2.one (y : I2) : ∀ u ∈ y.enc, u.oneCell' = true := fun u hu => by
  simp only [I2.enc, List.mem_cons, List.not_mem_nil, or_false] at hu
  rcases hu with rfl | rfl <;> rfl
theorem Dw.src' {T : TypeId} {lo b : Nat} {w0 w : World} (h : Dw T lo b w0 w) : Src T w lo b := h.src
/-- where nothing but blocks from base on is written, base behind the source -/
theorem Dw.own {T : TypeId} {lo b B : Nat} {w0 w w' : World} (h : Dw T lo b w0 w) (hb : Below B w w') (hB : w0.heap.size ≤ B) : Dw T lo b w0 w' := h.belowG hb hB
/-- 'append(out, x)' of one int64, the literal laid just before -/
theorem app1 {P : Program} {w w0 : World} {T : TypeId} {lo b : Nat} {ops : Array Oper} {rest : List Oper} {o : Oper} {act : Act} {Q : Exit → Act → World → Prop} {z : Int} {t e : TypeId} (hgd : o.guard = none) (s x : Operand)
    (ho : o.op = .call { callee := .builtin .append, args := #[s, x], argTypes := #[t, t] }) (ht : P.underlying t = some (.slice e)) (hinfo : (P.info? e).map (fun i => (i.zero, i.size, i.bytes)) = some (some (.int .i64 0), 1, 8))
    (base : Nat) (a : Option Addr) (n c : Nat) (l : List Int) (hown : OwnI e w base a n c l) (hs : act.eval s = .slice a n c) (gx : Nat) (hx : act.eval x = .slice (some ⟨gx, 0, none⟩) 1 1) (hg : gx = w.heap.size) (hzw : I64 z)
    (hn : n ≤ 4194304) (hD : Dw T lo b w0 w) (hw0 : w0.heap.size ≤ base) (hbase : base ≤ w.heap.size)
    (K : ∀ a' c' w', OwnI e w' base a' (n + 1) c' (l ++ [z]) → Below base w w' → Dw T lo b w0 w' → wpList P ops Q rest (act.put o.dst (.slice a' (n + 1) c')) w') : wpList P ops Q (o :: rest) act (w.alloc (.cells #[.int .i64 z] e)) := by
  subst hg
  have hb0 : Below w.heap.size w (w.alloc (.cells #[.int .i64 z] e)) := (Below.refl _ _).alloc (Nat.le_refl _) _
  refine append1_i64 hgd s x t e ho ht hinfo base a n c l (hown.keep hb0) hs w.heap.size z hx (by simp) hzw hn (by simp; omega) ?_
  intro a' c' w' h1 h2 h3
  have h4 : Below base w w' := (hb0.mono hbase).trans h2
  exact K a' c' w' h1 h4 (hD.own h4 hw0)
theorem lit_flats {α : Type} {k : Nat} {enc : α → List Value} {ok : α → Prop} (w : World) (T : TypeId) (l : List α) (cs : Array Value) (hk : ∀ x, (enc x).length = k) (h0 : 0 < k) (hcs : cs = (l.flatMap enc).toArray) (hl : ∀ x ∈ l, ok x) :
    Flats k enc ok (w.alloc (.cells cs T)) (some ⟨w.heap.size, 0, none⟩) l.length l.length l := by
  subst hcs
  refine ⟨rfl, Nat.le_refl _, .inr ⟨w.heap.size, 0, rfl, by simp, fun i x hx j v hv => ?_⟩, hl, fun h => by cases h⟩
  have := (Blk.made w (l.flatMap enc).toArray T).cell (i * k + j)
  rw [Nat.zero_add, this]
  have h1 := flat_get hk hx hv
  simpa using h1
/-- 'append(out, x..)' of records, the literal laid just before -/
theorem appF {α : Type} {k m : Nat} {enc : α → List Value} {ok : α → Prop} {zv : Value} {by' : Nat} {P : Program} {w w0 : World} {T : TypeId} {lo b : Nat} {ops : Array Oper} {rest : List Oper} {o : Oper} {act : Act} {Q : Exit → Act → World → Prop} {cs : Array Value} {t e : TypeId} (hgd : o.guard = none) (s x : Operand)
    (ho : o.op = .call { callee := .builtin .append, args := #[s, x], argTypes := #[t, t] }) (ht : P.underlying t = some (.slice e)) (hinfo : (P.info? e).map (fun i => (i.zero, i.size, i.bytes)) = some (some zv, k, by'))
    (hzs : zv.cells.size = k) (hk : 0 < k) (hby : by' ≤ 128) (hone : ∀ y : α, ∀ u ∈ enc y, u.oneCell' = true)
    (base : Nat) (a : Option Addr) (n c : Nat) (l l2 : List α) (hown : OwnF k enc ok e w base a n c l) (hs : act.eval s = .slice a n c) (gx : Nat) (hx : act.eval x = .slice (some ⟨gx, 0, none⟩) m m) (hg : gx = w.heap.size) (hcs : cs = (l2.flatMap enc).toArray) (hl2 : l2.length = m) (hok2 : ∀ x ∈ l2, ok x)
    (hn : n ≤ 4194304) (hm : m ≤ 100) (hD : Dw T lo b w0 w) (hw0 : w0.heap.size ≤ base) (hbase : base ≤ w.heap.size)
    (K : ∀ a' c' w', OwnF k enc ok e w' base a' (n + m) c' (l ++ l2) → Below base w w' → Dw T lo b w0 w' → wpList P ops Q rest (act.put o.dst (.slice a' (n + m) c')) w') : wpList P ops Q (o :: rest) act (w.alloc (.cells cs e)) := by
  subst hg hl2
  have hb0 : Below w.heap.size w (w.alloc (.cells cs e)) := (Below.refl _ _).alloc (Nat.le_refl _) _
  refine appendL_F hgd s x t e ho ht hinfo hzs hk hby hone base a n c l (hown.keep hb0) hs _ _ _ l2 hx (lit_flats w e l2 cs hown.2.2.2 hk hcs hok2) hn (by omega) (by simp; omega) ?_
  intro a' c' w' h1 h2 h3 _
  have h4 : Below base w w' := (hb0.mono hbase).trans h2
  exact K a' c' w' h1 h4 (hD.own h4 hw0)
theorem appI3 {zv : Value} {by' : Nat} {P : Program} {w w0 : World} {T : TypeId} {lo b : Nat} {ops : Array Oper} {rest : List Oper} {o : Oper} {act : Act} {Q : Exit → Act → World → Prop} {x0 x1 x2 : Int} {t e : TypeId} (hgd : o.guard = none) (s x : Operand)
    (ho : o.op = .call { callee := .builtin .append, args := #[s, x], argTypes := #[t, t] }) (ht : P.underlying t = some (.slice e)) (hinfo : (P.info? e).map (fun i => (i.zero, i.size, i.bytes)) = some (some zv, 3, by'))
    (hzs : zv.cells.size = 3) (hby : by' ≤ 128) (base : Nat) (a : Option Addr) (n c : Nat) (l : List I3) (hown : OwnF 3 I3.enc I3.ok e w base a n c l) (hs : act.eval s = .slice a n c) (gx : Nat) (hx : act.eval x = .slice (some ⟨gx, 0, none⟩) 1 1) (hg : gx = w.heap.size) (h0 : I64 x0) (h1 : I64 x1) (h2 : I64 x2)
    (hn : n ≤ 4194304) (hD : Dw T lo b w0 w) (hw0 : w0.heap.size ≤ base) (hbase : base ≤ w.heap.size)
    (K : ∀ a' c' w', OwnF 3 I3.enc I3.ok e w' base a' (n + 1) c' (l ++ [⟨x0, x1, x2⟩]) → Below base w w' → Dw T lo b w0 w' → wpList P ops Q rest (act.put o.dst (.slice a' (n + 1) c')) w') : wpList P ops Q (o :: rest) act (w.alloc (.cells #[.int .i64 x0, .int .i64 x1, .int .i64 x2] e)) :=
  appF (m := 1) (l2 := [⟨x0, x1, x2⟩]) hgd s x ho ht hinfo hzs (by decide) hby I3.one base a n c l hown hs gx hx hg rfl rfl (by intro y hy; simp at hy; subst hy; exact ⟨h0, h1, h2⟩) hn (by decide) hD hw0 hbase K
theorem appI3x2 {zv : Value} {by' : Nat} {P : Program} {w w0 : World} {T : TypeId} {lo b : Nat} {ops : Array Oper} {rest : List Oper} {o : Oper} {act : Act} {Q : Exit → Act → World → Prop} {x0 x1 x2 y0 y1 y2 : Int} {t e : TypeId} (hgd : o.guard = none) (s x : Operand)
    (ho : o.op = .call { callee := .builtin .append, args := #[s, x], argTypes := #[t, t] }) (ht : P.underlying t = some (.slice e)) (hinfo : (P.info? e).map (fun i => (i.zero, i.size, i.bytes)) = some (some zv, 3, by'))
    (hzs : zv.cells.size = 3) (hby : by' ≤ 128) (base : Nat) (a : Option Addr) (n c : Nat) (l : List I3) (hown : OwnF 3 I3.enc I3.ok e w base a n c l) (hs : act.eval s = .slice a n c) (gx : Nat) (hx : act.eval x = .slice (some ⟨gx, 0, none⟩) 2 2) (hg : gx = w.heap.size) (h0 : I64 x0) (h1 : I64 x1) (h2 : I64 x2) (h3 : I64 y0) (h4 : I64 y1) (h5 : I64 y2)
    (hn : n ≤ 4194304) (hD : Dw T lo b w0 w) (hw0 : w0.heap.size ≤ base) (hbase : base ≤ w.heap.size)
    (K : ∀ a' c' w', OwnF 3 I3.enc I3.ok e w' base a' (n + 2) c' (l ++ [⟨x0, x1, x2⟩, ⟨y0, y1, y2⟩]) → Below base w w' → Dw T lo b w0 w' → wpList P ops Q rest (act.put o.dst (.slice a' (n + 2) c')) w') : wpList P ops Q (o :: rest) act (w.alloc (.cells #[.int .i64 x0, .int .i64 x1, .int .i64 x2, .int .i64 y0, .int .i64 y1, .int .i64 y2] e)) :=
  appF (m := 2) (l2 := [⟨x0, x1, x2⟩, ⟨y0, y1, y2⟩]) hgd s x ho ht hinfo hzs (by decide) hby I3.one base a n c l hown hs gx hx hg rfl rfl (by intro y hy; simp at hy; rcases hy with rfl | rfl; exact ⟨h0, h1, h2⟩; exact ⟨h3, h4, h5⟩) hn (by decide) hD hw0 hbase K
theorem appI2 {zv : Value} {by' : Nat} {P : Program} {w w0 : World} {T : TypeId} {lo b : Nat} {ops : Array Oper} {rest : List Oper} {o : Oper} {act : Act} {Q : Exit → Act → World → Prop} {x0 x1 : Int} {t e : TypeId} (hgd : o.guard = none) (s x : Operand)
    (ho : o.op = .call { callee := .builtin .append, args := #[s, x], argTypes := #[t, t] }) (ht : P.underlying t = some (.slice e)) (hinfo : (P.info? e).map (fun i => (i.zero, i.size, i.bytes)) = some (some zv, 2, by'))
    (hzs : zv.cells.size = 2) (hby : by' ≤ 128) (base : Nat) (a : Option Addr) (n c : Nat) (l : List I2) (hown : OwnF 2 I2.enc I2.ok e w base a n c l) (hs : act.eval s = .slice a n c) (gx : Nat) (hx : act.eval x = .slice (some ⟨gx, 0, none⟩) 1 1) (hg : gx = w.heap.size) (h0 : I64 x0) (h1 : I64 x1)
    (hn : n ≤ 4194304) (hD : Dw T lo b w0 w) (hw0 : w0.heap.size ≤ base) (hbase : base ≤ w.heap.size)
    (K : ∀ a' c' w', OwnF 2 I2.enc I2.ok e w' base a' (n + 1) c' (l ++ [⟨x0, x1⟩]) → Below base w w' → Dw T lo b w0 w' → wpList P ops Q rest (act.put o.dst (.slice a' (n + 1) c')) w') : wpList P ops Q (o :: rest) act (w.alloc (.cells #[.int .i64 x0, .int .i64 x1] e)) :=
  appF (m := 1) (l2 := [⟨x0, x1⟩]) hgd s x ho ht hinfo hzs (by decide) hby I2.one base a n c l hown hs gx hx hg rfl rfl (by intro y hy; simp at hy; subst hy; exact ⟨h0, h1⟩) hn (by decide) hD hw0 hbase K
end Go.Proofs.YtipkncjjkkijfaaDoor
