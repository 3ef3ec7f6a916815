/- Blocks of other types are as they were: what an append leaves. -/
import Derived.Test.YtjneodmohkpckaaGreatDoorAt
namespace Go.Proofs.YtjneodmohkpckaaGreatDoor
open Go.RowKit
set_option linter.unusedVariables false
set_option linter.unusedSimpArgs false
theorem OwnF.ty9 {α : Type} {k : Nat} {enc : α → List Value} {ok : α → Prop} {E : TypeId} {w : World} {base g : Nat} {a : Option Addr} {n c : Nat} {l : List α} (h : OwnF k enc ok E w base a n c l) (e : a = some ⟨g, 0, none⟩) : ∃ cur, w.heap[g]? = some (.cells cur E (0, 0)) := by
  rcases h.1.2 with ⟨he, _⟩ | ⟨q, cap, cur, he, _, hg, _⟩
  · simp only [Value.slice.injEq] at he
    rw [he.1] at e; cases e
  · simp only [Value.slice.injEq] at he
    rw [he.1] at e
    simp only [Option.some.injEq, Addr.mk.injEq, and_true] at e
    exact ⟨cur, by rw [← e]; exact hg⟩
theorem OwnF.same {α : Type} {k : Nat} {enc : α → List Value} {ok : α → Prop} {E : TypeId} {w w' : World} {base : Nat} {a : Option Addr} {n c : Nat} {l : List α} (h : OwnF k enc ok E w base a n c l) (hs : ∀ g, a = some ⟨g, 0, none⟩ → w'.heap[g]? = w.heap[g]?) : OwnF k enc ok E w' base a n c l := by
  obtain ⟨⟨hl, h2⟩, hw⟩ := h
  refine ⟨⟨hl, ?_⟩, hw⟩
  rcases h2 with h2 | ⟨g, cap, cur, he, hbs, hg, r⟩
  · exact .inl h2
  · have he' := he
    simp only [Value.slice.injEq] at he'
    exact .inr ⟨g, cap, cur, he, hbs, by rw [hs g he'.1]; exact hg, r⟩
/-- blocks of other types are as they were -/
def OthT (e : TypeId) (w w' : World) : Prop := ∀ (g : Nat) (cur : Array Value) (T : TypeId), w.heap[g]? = some (.cells cur T (0, 0)) → T ≠ e → w'.heap[g]? = w.heap[g]?
theorem Blk.oth {w w' : World} {b : Nat} {cs : Array Value} {T e : TypeId} (h : Blk w b cs T) (ho : OthT e w w') (hT : T ≠ e) : Blk w' b cs T := (ho b cs T h hT).trans h
theorem OwnF.oth {α : Type} {k : Nat} {enc : α → List Value} {ok : α → Prop} {E e : TypeId} {w w' : World} {base : Nat} {a : Option Addr} {n c : Nat} {l : List α} (h : OwnF k enc ok E w base a n c l) (ho : OthT e w w') (hE : E ≠ e) : OwnF k enc ok E w' base a n c l :=
  h.same fun g eg => by obtain ⟨cur, hc⟩ := h.ty9 eg; exact ho g cur E hc hE
theorem appTy {α : Type} {k : Nat} {enc : α → List Value} {ok : α → Prop} {zv : Value} {by' : Nat} {P : Program} {w w0 : World} {ops : Array Oper} {rest : List Oper} {o : Oper} {act : Act} {Q : Exit → Act → World → Prop} {cs : Array Value} {t e : TypeId} (y : α) (hgd : o.guard = none) (s x : Operand)
    (ho : o.op = .call { callee := .builtin .append, args := #[s, x], argTypes := #[t, t] }) (ht : P.underlying t = some (.slice e)) (hinfo : (P.info? e).map (fun i => (i.zero, i.size, i.bytes)) = some (some zv, k, by'))
    (hzs : zv.cells.size = k) (hk : 0 < k) (hby : by' ≤ 128) (hone : ∀ y : α, ∀ u ∈ enc y, u.oneCell' = true)
    (a : Option Addr) (n c : Nat) (l : List α) (hown : OwnF k enc ok e w w0.heap.size a n c l) (hs : act.eval s = .slice a n c) (gx : Nat) (hx : act.eval x = .slice (some ⟨gx, 0, none⟩) 1 1) (hg : gx = w.heap.size) (hcs : cs = (enc y).toArray) (hok2 : ok y)
    (hn : n ≤ 4194303) (hbase : Below w0.heap.size w0 w)
    (K : ∀ a' c' w', OwnF k enc ok e w' w0.heap.size a' (n + 1) c' (l ++ [y]) → Below w0.heap.size w0 w' → OthT e w w' → wpList P ops Q rest (act.put o.dst (.slice a' (n + 1) c')) w') : wpList P ops Q (o :: rest) act (w.alloc (.cells cs e)) := by
  refine appAtL (m := 1) (l2 := [y]) hgd s x ho ht hinfo hzs hk hby hone w0.heap.size a n c l hown hs gx hx hg (by rw [hcs]; simp) rfl (fun z hz => by simp at hz; rw [hz]; exact hok2) (by decide) (by omega) (by decide) hbase.size ?_
  intro g' c' w' h1 h2 h3 _ _
  refine K _ c' w' h1 (hbase.trans h2) ?_
  intro g cur T hh hT
  have hlt : g < w.heap.size := Nat.lt_of_not_le fun h => by rw [Array.getElem?_eq_none h] at hh; cases hh
  refine h3.block g hlt ?_
  intro eo
  have ha : a = some ⟨g, 0, none⟩ := by
    rcases hown.1.2 with ⟨he, _⟩ | ⟨q, cap, cu, he, _⟩
    · simp only [Value.slice.injEq] at he
      rw [he.1] at eo; simp [Value.ownBlock] at eo
    · simp only [Value.slice.injEq] at he
      obtain ⟨rfl, _⟩ := he
      simp [Value.ownBlock] at eo; rw [eo]
  obtain ⟨cur2, hc2⟩ := hown.ty9 ha
  rw [hh] at hc2
  simp only [Option.some.injEq, Obj.cells.injEq] at hc2
  exact hT hc2.2.1
end Go.Proofs.YtjneodmohkpckaaGreatDoor
