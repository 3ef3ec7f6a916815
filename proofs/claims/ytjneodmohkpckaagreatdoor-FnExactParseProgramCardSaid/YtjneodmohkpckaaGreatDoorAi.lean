/- append of one int64 to a slice of the call's own, and where the new slice lies. -/
import Derived.Test.YtjneodmohkpckaaGreatDoorAt
import Derived.Test.YtjneodmohkpckaaGreatDoorYb1
namespace Go.Proofs.YtjneodmohkpckaaGreatDoor
open Go.RowKit
set_option linter.unusedVariables false
set_option linter.unusedSimpArgs false
def enc1 (x : Int) : List Value := [.int .i64 x]
theorem flat_enc1 (l : List Int) : l.flatMap enc1 = l.map (Value.int .i64) := by
  induction l with
  | nil => rfl
  | cons x r ih => rw [List.flatMap_cons, ih]; rfl
theorem OwnI.f1 {E : TypeId} {w : World} {base : Nat} {a : Option Addr} {n c : Nat} {l : List Int} (h : OwnI E w base a n c l) : OwnF 1 enc1 I64 E w base a n c l := by
  refine ⟨?_, h.2, h.len, fun _ => rfl⟩
  rw [flat_enc1]; exact h.1
theorem OwnF.i1 {E : TypeId} {w : World} {base : Nat} {a : Option Addr} {n c : Nat} {l : List Int} (h : OwnF 1 enc1 I64 E w base a n c l) : OwnI E w base a n c l := by
  have h1 := h.1
  rw [flat_enc1] at h1
  exact ⟨h1, h.2.1⟩
theorem own_block {E : TypeId} {k : Nat} {w : World} {base : Nat} {a : Option Addr} {n c m : Nat} {l : List Value} (h : w.ownsRow base E k (.slice a n c) m l) : ∀ b, (Value.slice a n c).ownBlock = some b → a = some ⟨b, 0, none⟩ := fun b e => by
  rcases h.2 with ⟨he, _⟩ | ⟨g, cap, cur, he, _⟩
  · simp only [Value.slice.injEq] at he
    rw [he.1] at e; simp [Value.ownBlock] at e
  · simp only [Value.slice.injEq] at he
    obtain ⟨rfl, _⟩ := he
    simp [Value.ownBlock] at e; rw [e]
theorem Blk.keepA {w w' : World} {b : Nat} {cs : Array Value} {T : TypeId} {n : Nat} {a : Option Addr} (h : Blk w b cs T) (ht : Touch w w' n a) (hne : a = some ⟨b, 0, none⟩ → False) : Blk w' b cs T := by
  obtain ⟨r, hg, hr⟩ := ht
  exact h.keepG hg fun e => hne (hr _ e).2
/-- a block of another type is not the slice's -/
theorem blk_ne {w : World} {b : Nat} {cs : Array Value} {T E : TypeId} {a : Option Addr} (h : Blk w b cs T) (ht : ∀ {g : Nat}, a = some ⟨g, 0, none⟩ → ∃ cur, w.heap[g]? = some (.cells cur E (0, 0))) (hE : E ≠ T) : a = some ⟨b, 0, none⟩ → False := fun e => by
  obtain ⟨cur, h1⟩ := ht e
  rw [Blk] at h
  rw [h] at h1
  simp only [Option.some.injEq, Obj.cells.injEq] at h1
  exact hE h1.2.1.symm
theorem appI1 {P : Program} {w : World} {ops : Array Oper} {rest : List Oper} {o : Oper} {act : Act} {Q : Exit → Act → World → Prop} {z : Int} {t e : TypeId} (hgd : o.guard = none) (s x : Operand)
    (ho : o.op = .call { callee := .builtin .append, args := #[s, x], argTypes := #[t, t] }) (ht : P.underlying t = some (.slice e)) (hinfo : (P.info? e).map (fun i => (i.zero, i.size, i.bytes)) = some (some (.int .i64 0), 1, 8))
    (base : Nat) (a : Option Addr) (n c : Nat) (l : List Int) (hown : OwnI e w base a n c l) (hs : act.eval s = .slice a n c) (gx : Nat) (hx : act.eval x = .slice (some ⟨gx, 0, none⟩) 1 1) (hg : gx = w.heap.size) (hz : I64 z)
    (hn : n ≤ 4194304) (hbase : base ≤ w.heap.size)
    (K : ∀ g' c' w', OwnI e w' base (some ⟨g', 0, none⟩) (n + 1) c' (l ++ [z]) → Below base w w' → Touch w w' 1 a → (a = some ⟨g', 0, none⟩ ∨ g' = w.heap.size + 1) → w.heap.size + 1 ≤ w'.heap.size → wpList P ops Q rest (act.put o.dst (.slice (some ⟨g', 0, none⟩) (n + 1) c')) w') : wpList P ops Q (o :: rest) act (w.alloc (.cells #[.int .i64 z] e)) := by
  refine appAtL (k := 1) (m := 1) (enc := enc1) (ok := I64) hgd s x ho ht hinfo rfl (by decide) (by decide) (fun y u hu => by simp [enc1] at hu; subst hu; rfl) base a n c l [z] hown.f1 hs gx hx hg rfl rfl (fun y hy => by simp at hy; rw [hy]; exact hz) (by decide) hn (by decide) hbase ?_
  intro g' c' w' h1 h2 h3 h4 h5
  refine K g' c' w' h1.i1 h2 ?_ h4 h5
  exact ⟨_, h3, fun b e => ⟨by decide, own_block hown.1 b e⟩⟩
end Go.Proofs.YtjneodmohkpckaaGreatDoor
