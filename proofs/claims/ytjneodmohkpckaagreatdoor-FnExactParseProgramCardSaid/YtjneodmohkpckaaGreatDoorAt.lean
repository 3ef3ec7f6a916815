/- Append of records to a row of the call's own: which block the new slice lies in. -/
import Derived.Test.YtjneodmohkpckaaGreatDoorY8
import Derived.Maps.AppendAt
import Derived.Deep.AppendLies
namespace Go.Proofs.YtjneodmohkpckaaGreatDoor
open Go.RowKit
set_option linter.unusedVariables false
set_option linter.unusedSimpArgs false
theorem OwnF.lit {α : Type} {k m : Nat} {enc : α → List Value} {ok : α → Prop} {E : TypeId} {base : Nat} {cs : Array Value} (w : World) (l : List α) (h : base ≤ w.heap.size) (hm : l.length = m) (h9 : m ≤ 1048576) (hk : ∀ x, (enc x).length = k) (hz : ∀ x ∈ l, ok x) (hc : cs = (l.flatMap enc).toArray) : OwnF k enc ok E (w.alloc (.cells cs E)) base (some ⟨w.heap.size, 0, none⟩) m m l := by
  subst hc hm
  refine ⟨?_, hz, rfl, hk⟩
  have hl : (l.flatMap enc).length = l.length * k := by
    clear hz h9 
    induction l with
    | nil => simp
    | cons y r ih => rw [List.flatMap_cons, List.length_append, hk, ih, List.length_cons, Nat.succ_mul, Nat.add_comm]
  have := World.ownsRow_lit (base := base) (e := E) (size := k) w (l.flatMap enc).toArray l.length h (by unfold maxLen; omega) (by simp [hl])
  simpa using this
theorem OwnF.litB {α : Type} {k m g : Nat} {enc : α → List Value} {ok : α → Prop} {E : TypeId} {base : Nat} {cs : Array Value} {w w' : World} (l : List α) (hb : Below (w.alloc (.cells cs E)).heap.size (w.alloc (.cells cs E)) w') (hg : g = w.heap.size) (h : base ≤ w.heap.size) (hm : l.length = m) (h9 : m ≤ 1048576) (hk : ∀ x, (enc x).length = k) (hz : ∀ x ∈ l, ok x) (hc : cs = (l.flatMap enc).toArray) : OwnF k enc ok E w' base (some ⟨g, 0, none⟩) m m l := by
  subst hg; exact (OwnF.lit w l h hm h9 hk hz hc).keep hb
theorem OwnF.litB2 {α : Type} {k m g : Nat} {enc : α → List Value} {ok : α → Prop} {E : TypeId} {base : Nat} {cs : Array Value} {o : Obj} {w w' : World} (l : List α) (hb : Below ((w.alloc (.cells cs E)).alloc o).heap.size ((w.alloc (.cells cs E)).alloc o) w') (hg : g = w.heap.size) (h : base ≤ w.heap.size) (hm : l.length = m) (h9 : m ≤ 1048576) (hk : ∀ x, (enc x).length = k) (hz : ∀ x ∈ l, ok x) (hc : cs = (l.flatMap enc).toArray) : OwnF k enc ok E w' base (some ⟨g, 0, none⟩) m m l := by
  subst hg; exact ((OwnF.lit w l h hm h9 hk hz hc).keep ((Below.refl _ _).alloc (Nat.le_refl _) o)).keep hb
/-- 'append(out, xs...)' of records to a slice of the call's own, and where the new slice lies -/
theorem appAtS {α : Type} {k : Nat} {enc : α → List Value} {ok : α → Prop} {z : Value} {by' : Nat} {P : Program} {w : World} {ops : Array Oper} {rest : List Oper} {o : Oper} {act : Act} {Q : Exit → Act → World → Prop} (hgd : o.guard = none) (s x : Operand) (t e : TypeId)
    (ho : o.op = .call { callee := .builtin .append, args := #[s, x], argTypes := #[t, t] }) (ht : P.underlying t = some (.slice e)) (hinfo : (P.info? e).map (fun i => (i.zero, i.size, i.bytes)) = some (some z, k, by'))
    (hzs : z.cells.size = k) (hk : 0 < k) (hby : by' ≤ 128) (hone : ∀ y : α, ∀ u ∈ enc y, u.oneCell' = true)
    (base : Nat) (a : Option Addr) (n c : Nat) (l : List α) (hown : OwnF k enc ok e w base a n c l) (hs : act.eval s = .slice a n c) (a2 : Option Addr) (m c2 : Nat) (l2 : List α) (hx : act.eval x = .slice a2 m c2) (hsrc : Flats k enc ok w a2 m c2 l2)
    (h0 : 0 < m) (hn : n ≤ 4194304) (hm : m ≤ 4194304) (hbase : base ≤ w.heap.size)
    (K : ∀ g' c' w', OwnF k enc ok e w' base (some ⟨g', 0, none⟩) (n + m) c' (l ++ l2) → Below base w w' → w.grownBy w' (Value.slice a n c).ownBlock → (a = some ⟨g', 0, none⟩ ∨ g' = w.heap.size) → wpList P ops Q rest (act.put o.dst (.slice (some ⟨g', 0, none⟩) (n + m) c')) w') : wpList P ops Q (o :: rest) act w := by
  obtain ⟨i, hi, hz0, hz1, hz2⟩ := info_parts hinfo
  have hform : ∀ q, a = some q → ∃ g, q = ⟨g, 0, none⟩ := fun q hq => by
    rcases hown.1.2 with ⟨he, _⟩ | ⟨g, cap, cur, he, _⟩
    · simp only [Value.slice.injEq] at he; rw [hq] at he; cases he.1
    · simp only [Value.slice.injEq] at he; rw [hq] at he; exact ⟨g, Option.some.inj he.1⟩
  obtain ⟨hown1, hok, hlen, henc⟩ := hown
  have hmul : ∀ q : List α, (q.flatMap enc).length = q.length * k := fun q => by
    induction q with
    | nil => simp
    | cons y r ih => rw [List.flatMap_cons, List.length_append, ih, henc, List.length_cons, Nat.succ_mul, Nat.add_comm]
  cases a2 with
  | none =>
    obtain ⟨rfl, rfl⟩ := hsrc.nil rfl
    omega
  | some ad =>
    refine wpList_append_own_at w hgd s x t ho base e i z k by' ht hi hz0 hz1 hz2 hzs hk (.slice a n c) n _ hs hown1 ad m c2 (l2.flatMap enc) hx (by rw [hmul, hsrc.len]) ?_ ?_ (by unfold maxLen; omega) (Nat.le_trans (Nat.mul_le_mul_left (n + m) hby) (by omega)) hbase ?_
    · intro j u hj
      obtain ⟨x, h1, h2⟩ := flat_inv henc hk hj
      have hjm : j / k < m := by rw [← hsrc.len]; exact (List.getElem?_eq_some_iff.1 h1).1
      obtain ⟨b, off, he, _, hc⟩ := hsrc.pos.resolve_left (Nat.ne_of_gt (Nat.lt_of_le_of_lt (Nat.zero_le _) hjm))
      simp only [Option.some.injEq] at he
      subst he
      have e1 : (⟨b, off, none⟩ : Addr).add j = ⟨b, off + j, none⟩ := by by_cases h0 : j = 0 <;> simp [Addr.add, h0]
      have := hc _ x h1 _ u h2
      rw [Nat.add_assoc, Nat.mul_comm, Nat.div_add_mod] at this
      rw [e1]; exact this
    · intro u hu
      obtain ⟨y, _, hy⟩ := List.mem_flatMap.1 hu
      exact hone y u hy
    · intro v' w' hown' hg hnil hat
      have hfm := Joins.ownsRow_forms hown'
      have hb : Below base w w' := (Below.refl _ _).grown hg hbase fun q hq => (hown1.lt q hq).1
      have hmap : l.flatMap enc ++ l2.flatMap enc = (l ++ l2).flatMap enc := (List.flatMap_append ..).symm
      have hw : ∀ y ∈ l ++ l2, ok y := fun y hy => by
        rcases List.mem_append.1 hy with h | h
        · exact hok y h
        · exact hsrc.wf y h
      have hll : (l ++ l2).length = n + m := by rw [List.length_append, hlen, hsrc.len]
      rw [hmap] at hown'
      rcases hfm with ⟨_, h0'⟩ | ⟨g, cap, hv⟩
      · omega
      · rw [hv] at hown' hat ⊢
        refine K _ _ _ ⟨hown', hw, hll, henc⟩ hb hg ?_
        rcases hat with h | h
        · cases a with
          | none => simp [Value.ownBlock] at h
          | some q =>
            obtain ⟨g', rfl⟩ := hform q rfl
            simp [Value.ownBlock] at h
            exact .inl (by rw [h])
        · simp [Value.ownBlock] at h
          exact .inr h
/-- the same for a literal laid just before -/
theorem appAtL {α : Type} {k m : Nat} {enc : α → List Value} {ok : α → Prop} {zv : Value} {by' : Nat} {P : Program} {w : World} {ops : Array Oper} {rest : List Oper} {o : Oper} {act : Act} {Q : Exit → Act → World → Prop} {cs : Array Value} {t e : TypeId} (hgd : o.guard = none) (s x : Operand)
    (ho : o.op = .call { callee := .builtin .append, args := #[s, x], argTypes := #[t, t] }) (ht : P.underlying t = some (.slice e)) (hinfo : (P.info? e).map (fun i => (i.zero, i.size, i.bytes)) = some (some zv, k, by'))
    (hzs : zv.cells.size = k) (hk : 0 < k) (hby : by' ≤ 128) (hone : ∀ y : α, ∀ u ∈ enc y, u.oneCell' = true)
    (base : Nat) (a : Option Addr) (n c : Nat) (l l2 : List α) (hown : OwnF k enc ok e w base a n c l) (hs : act.eval s = .slice a n c) (gx : Nat) (hx : act.eval x = .slice (some ⟨gx, 0, none⟩) m m) (hg : gx = w.heap.size) (hcs : cs = (l2.flatMap enc).toArray) (hl2 : l2.length = m) (hok2 : ∀ x ∈ l2, ok x)
    (h0 : 0 < m) (hn : n ≤ 4194304) (hm : m ≤ 100) (hbase : base ≤ w.heap.size)
    (K : ∀ g' c' w', OwnF k enc ok e w' base (some ⟨g', 0, none⟩) (n + m) c' (l ++ l2) → Below base w w' → w.grownBy w' (Value.slice a n c).ownBlock → (a = some ⟨g', 0, none⟩ ∨ g' = w.heap.size + 1) → w.heap.size + 1 ≤ w'.heap.size → wpList P ops Q rest (act.put o.dst (.slice (some ⟨g', 0, none⟩) (n + m) c')) w') : wpList P ops Q (o :: rest) act (w.alloc (.cells cs e)) := by
  subst hg hl2
  have hb0 : Below w.heap.size w (w.alloc (.cells cs e)) := (Below.refl _ _).alloc (Nat.le_refl _) _
  refine appAtS hgd s x t e ho ht hinfo hzs hk hby hone base a n c l (hown.keep hb0) hs _ _ _ l2 hx (lit_flats w e l2 cs hown.2.2.2 hk hcs hok2) h0 hn (by omega) (by simp; omega) ?_
  intro g' c' w' h1 h2 h3 h4
  refine K g' c' w' h1 ((hb0.mono hbase).trans h2) (grownBy_trans (World.grownBy_alloc _ _ _) h3) ?_ ?_
  · rcases h4 with h | h
    · exact .inl h
    · exact .inr (by simpa using h)
  · have := h3.size; simpa using this
/-- the same at a step of a region that draws its order -/
theorem wp_appAtL {α : Type} {k m : Nat} {enc : α → List Value} {ok : α → Prop} {zv : Value} {by' : Nat} {P : Program} {w : World} {o : Oper} {act : Act} {K : Act → World → Prop} {Q : Exit → Act → World → Prop} {cs : Array Value} {t e : TypeId} (s x : Operand)
    (ho : o.op = .call { callee := .builtin .append, args := #[s, x], argTypes := #[t, t] }) (ht : P.underlying t = some (.slice e)) (hinfo : (P.info? e).map (fun i => (i.zero, i.size, i.bytes)) = some (some zv, k, by'))
    (hzs : zv.cells.size = k) (hk : 0 < k) (hby : by' ≤ 128) (hone : ∀ y : α, ∀ u ∈ enc y, u.oneCell' = true)
    (base : Nat) (a : Option Addr) (n c : Nat) (l l2 : List α) (hown : OwnF k enc ok e w base a n c l) (hs : act.eval s = .slice a n c) (gx : Nat) (hx : act.eval x = .slice (some ⟨gx, 0, none⟩) m m) (hB : Blk w gx cs e) (hcs : cs = (l2.flatMap enc).toArray) (hl2 : l2.length = m) (hok2 : ∀ x ∈ l2, ok x)
    (h0 : 0 < m) (hn : n ≤ 4194304) (hm : m ≤ 100) (hbase : base ≤ w.heap.size)
    (K' : ∀ g' c' w', OwnF k enc ok e w' base (some ⟨g', 0, none⟩) (n + m) c' (l ++ l2) → Below base w w' → w.grownBy w' (Value.slice a n c).ownBlock → K (act.put o.dst (.slice (some ⟨g', 0, none⟩) (n + m) c')) w') : o.wp P act w K Q := by
  subst hl2 hcs
  obtain ⟨i, hi, hz0, hz1, hz2⟩ := info_parts hinfo
  obtain ⟨hown1, hok, hlen, henc⟩ := hown
  have hmul : ∀ q : List α, (q.flatMap enc).length = q.length * k := fun q => by
    induction q with
    | nil => simp
    | cons y r ih => rw [List.flatMap_cons, List.length_append, ih, henc, List.length_cons, Nat.succ_mul, Nat.add_comm]
  refine wp_append_lies w s x t ho base e i zv k by' ht hi hz0 hz1 hz2 hzs hk (.slice a n c) n _ hs hown1 ⟨gx, 0, none⟩ l2.length l2.length (l2.flatMap enc) hx (hmul l2) ?_ ?_ h0 (by unfold maxLen; omega) (Nat.le_trans (Nat.mul_le_mul_left (n + l2.length) hby) (by omega)) hbase w.heap.size rfl ?_
  · intro j u hj
    have e1 : (⟨gx, 0, none⟩ : Addr).add j = ⟨gx, j, none⟩ := by by_cases h0 : j = 0 <;> simp [Addr.add, h0]
    rw [e1, hB.cell]
    simpa using hj
  · intro u hu
    obtain ⟨y, _, hy⟩ := List.mem_flatMap.1 hu
    exact hone y u hy
  · intro g cap w' h1 h2 h3 h4
    rw [← List.flatMap_append] at h1
    refine K' g cap w' ⟨h1, fun y hy => ?_, by rw [List.length_append, hlen], henc⟩ ((Below.refl _ _).grown h2 hbase fun q hq => (hown1.lt q hq).1) h2
    rcases List.mem_append.1 hy with h | h
    · exact hok y h
    · exact hok2 y h
end Go.Proofs.YtjneodmohkpckaaGreatDoor
