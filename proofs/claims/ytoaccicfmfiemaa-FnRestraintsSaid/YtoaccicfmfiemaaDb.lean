/- append next to another slice that is kept. -/
import Derived.Test.YtoaccicfmfiemaaDa
import Derived.Maps.AppendAt
namespace Go.Proofs.Ytoaccicfmfiemaa
open Go.RowKit
set_option linter.unusedVariables false
set_option linter.unusedSimpArgs false
theorem own_grow {an a' a : Option Addr} {n c n' c' : Nat} {w : World} (hap : Apart an a) (hlt : ∀ g, an = some ⟨g, 0, none⟩ → g < w.heap.size) (hat : (Value.slice a' n' c').ownBlock = (Value.slice a n c).ownBlock ∨ (Value.slice a' n' c').ownBlock = some w.heap.size) (hf : ∀ q, a = some q → ∃ g, q = ⟨g, 0, none⟩) : Apart an a' := by
  intro g e e'
  subst e'
  rcases hat with h | h
  · cases a with
    | none => simp [Value.ownBlock] at h
    | some q =>
      obtain ⟨g', rfl⟩ := hf q rfl
      simp [Value.ownBlock] at h
      exact hap g e (by rw [h])
  · simp [Value.ownBlock] at h
    have := hlt g e
    omega
/-- 'append(out, x)' of a record of two numbers, the literal laid just before; another slice of numbers stays -/
theorem appI2n {zv : Value} {by' : Nat} {P : Program} {w w0 : World} {T En : TypeId} {lo b : Nat} {ops : Array Oper} {rest : List Oper} {o : Oper} {act : Act} {Q : Exit → Act → World → Prop} {x0 x1 : Int} {t e : TypeId} (hgd : o.guard = none) (s x : Operand)
    (ho : o.op = .call { callee := .builtin .append, args := #[s, x], argTypes := #[t, t] }) (ht : P.underlying t = some (.slice e)) (hinfo : (P.info? e).map (fun i => (i.zero, i.size, i.bytes)) = some (some zv, 2, by'))
    (hzs : zv.cells.size = 2) (hby : by' ≤ 64) (base bn : Nat) (a an : Option Addr) (n c nn cn : Nat) (l : List I2) (ln : List Int) (hown : OwnF 2 I2.enc I2.ok e w base a n c l) (hnow : OwnI En w bn an nn cn ln) (hap : Apart an a) (hs : act.eval s = .slice a n c) (gx : Nat) (hx : act.eval x = .slice (some ⟨gx, 0, none⟩) 1 1) (hg : gx = w.heap.size) (h0 : I64 x0) (h1 : I64 x1)
    (hn : n ≤ 4194304) (hD : Dw T lo b w0 w) (hw0 : w0.heap.size ≤ base) (hbase : base ≤ w.heap.size)
    (K : ∀ a' c' w', OwnF 2 I2.enc I2.ok e w' base a' (n + 1) c' (l ++ [⟨x0, x1⟩]) → OwnI En w' bn an nn cn ln → Apart an a' → Below base w w' → Dw T lo b w0 w' → wpList P ops Q rest (act.put o.dst (.slice a' (n + 1) c')) w') : wpList P ops Q (o :: rest) act (w.alloc (.cells #[.int .i64 x0, .int .i64 x1] e)) := by
  subst hg
  have hb0 : Below w.heap.size w (w.alloc (.cells #[.int .i64 x0, .int .i64 x1] e)) := (Below.refl _ _).alloc (Nat.le_refl _) _
  have hnow1 := hnow.keep hb0
  have hform : ∀ q, a = some q → ∃ g, q = ⟨g, 0, none⟩ := fun q hq => by
    rcases hown.1.2 with ⟨he, _⟩ | ⟨g, cap, cur, he, _⟩
    · simp only [Value.slice.injEq] at he; rw [hq] at he; cases he.1
    · simp only [Value.slice.injEq] at he; rw [hq] at he; exact ⟨g, Option.some.inj he.1⟩
  have hown' := hown.keep hb0
  obtain ⟨hown1, hok, hlen, henc⟩ := hown'
  obtain ⟨i, hi, hz0, hz1, hz2⟩ := info_parts hinfo
  refine wpList_append_own_at _ hgd s x t ho base e i zv 2 by' ht hi hz0 hz1 hz2 hzs (by decide) (.slice a n c) n _ hs hown1 ⟨w.heap.size, 0, none⟩ 1 1 [.int .i64 x0, .int .i64 x1] hx rfl ?_ ?_ (by unfold maxLen; omega) (Nat.le_trans (Nat.mul_le_mul_left (n + 1) hby) (by omega)) (by simp; omega) ?_
  · intro j u hj
    match j, hj with
    | 0, hj => simp at hj; subst hj; simp [Addr.add]
    | 1, hj => simp at hj; subst hj; simp [Addr.add]
  · intro u hu; simp at hu; rcases hu with rfl | rfl <;> rfl
  · intro v' w' ho' hg hnil hat
    have hfm := Joins.ownsRow_forms ho'
    have hb : Below base (w.alloc (.cells #[.int .i64 x0, .int .i64 x1] e)) w' := (Below.refl _ _).grown hg (by simp; omega) fun q hq => (hown1.lt q hq).1
    have h4 : Below base w w' := (hb0.mono hbase).trans hb
    have hmap : l.flatMap I2.enc ++ [Value.int .i64 x0, Value.int .i64 x1] = (l ++ [(⟨x0, x1⟩ : I2)]).flatMap I2.enc := by rw [List.flatMap_append]; rfl
    have hw : ∀ y ∈ l ++ [(⟨x0, x1⟩ : I2)], I2.ok y := fun y hy => by
      rcases List.mem_append.1 hy with h | h
      · exact hok y h
      · simp at h; subst h; exact ⟨h0, h1⟩
    rw [hmap] at ho'
    rcases hfm with ⟨_, h0'⟩ | ⟨g, cap, hv⟩
    · omega
    · rw [hv] at ho' hat ⊢
      have hap' : Apart an (some ⟨g, 0, none⟩) := own_grow hap (fun q hq => by have := (hnow1.blk q hq).2; exact this) hat hform
      refine K _ _ _ ⟨ho', hw, by simp [hlen], henc⟩ (hnow1.keepG hg ?_) hap' h4 (hD.own h4 hw0)
      intro q hq e1
      cases a with
      | none => simp [Value.ownBlock] at e1
      | some q' =>
        obtain ⟨g', rfl⟩ := hform q' rfl
        simp [Value.ownBlock] at e1
        exact hap q hq (by rw [e1])
end Go.Proofs.Ytoaccicfmfiemaa
