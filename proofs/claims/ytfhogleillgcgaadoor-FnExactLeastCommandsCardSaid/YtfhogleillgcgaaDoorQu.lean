/- A queue: a slice of int64 that is cut at its head and appended to. -/
import Derived.Test.YtfhogleillgcgaaDoorAt
import Derived.Test.YtfhogleillgcgaaDoorOw
import Derived.ArgAppend
namespace Go.Proofs.YtfhogleillgcgaaDoor
open Go.RowKit
set_option linter.unusedVariables false
set_option linter.unusedSimpArgs false
/-- the slice '.slice (some ⟨g, off, none⟩) n c' reads as l; all its cells up to the capacity are there and may be written -/
structure QI (w : World) (g off n c : Nat) (l : List Int) : Prop where
  len : l.length = n
  cap : n ≤ c
  lt : g < w.heap.size
  here : ∀ j, j < c → (w.cell? ⟨g, off + j, none⟩).isSome = true
  free : ∀ j, w.frozen? ⟨g, j, none⟩ = false
  cell : ∀ i x, l[i]? = some x → w.cell? ⟨g, off + i, none⟩ = some (.int .i64 x)
  wf : ∀ x ∈ l, I64 x
theorem QI.same {w w' : World} {g off n c : Nat} {l : List Int} (h : QI w g off n c l) (hs : w.heap.size ≤ w'.heap.size) (hb : w'.heap[g]? = w.heap[g]?) : QI w' g off n c l := by
  have hc : ∀ o, w'.cell? ⟨g, o, none⟩ = w.cell? ⟨g, o, none⟩ := fun o => World.cell?_of_block (a := ⟨g, o, none⟩) hb
  have hf : ∀ o, w'.frozen? ⟨g, o, none⟩ = w.frozen? ⟨g, o, none⟩ := fun o => by simp only [World.frozen?, hb]
  exact ⟨h.len, h.cap, Nat.lt_of_lt_of_le h.lt hs, fun j hj => by rw [hc]; exact h.here j hj, fun j => by rw [hf]; exact h.free j, fun i x hx => by rw [hc]; exact h.cell i x hx, h.wf⟩
theorem QI.keep {w w' : World} {g off n c : Nat} {l : List Int} (h : QI w g off n c l) (hb : Below w.heap.size w w') : QI w' g off n c l := h.same hb.size (hb.block g h.lt)
theorem QI.only {w w' : World} {g off n c lo hi : Nat} {l : List Int} (h : QI w g off n c l) (ho : Only lo hi w w') (hd : g < lo ∨ hi ≤ g) : QI w' g off n c l := h.same ho.size (ho.block g h.lt hd)
theorem QI.at {w : World} {g off n c : Nat} {l : List Int} (h : QI w g off n c l) {k : Nat} (hk : k < n) : ∃ x, l[k]? = some x ∧ w.cell? ⟨g, off + k, none⟩ = some (.int .i64 x) ∧ I64 x := by
  have hk' : k < l.length := by rw [h.len]; exact hk
  exact ⟨l[k], List.getElem?_eq_getElem hk', h.cell k _ (List.getElem?_eq_getElem hk'), h.wf _ (List.getElem_mem hk')⟩
theorem QI.tail {w : World} {g off n c : Nat} {l : List Int} (h : QI w g off n c l) (hn : 0 < n) : QI w g (if c = 1 then off else off + 1) (n - 1) (c - 1) l.tail := by
  have h1 := h.len
  have h2 := h.cap
  by_cases hc : c = 1
  · subst hc
    rw [if_pos rfl]
    have hl : l.tail = [] := by cases l with | nil => rfl | cons x r => simp at h1 ⊢; cases r with | nil => rfl | cons => simp at h1; omega
    rw [hl]
    exact ⟨by simp; omega, by omega, h.lt, fun j hj => by omega, h.free, fun i x hx => by simp at hx, fun x hx => by cases hx⟩
  · rw [if_neg hc]
    refine ⟨by simp; omega, by omega, h.lt, fun j hj => ?_, h.free, fun i x hx => ?_, fun x hx => h.wf x (List.mem_of_mem_tail hx)⟩
    · rw [Nat.add_assoc, Nat.add_comm 1 j]; exact h.here (j + 1) (by omega)
    · rw [Nat.add_assoc, Nat.add_comm 1 i]; exact h.cell (i + 1) x (by rw [← hx]; cases l <;> simp)
theorem QI.made {E : TypeId} {z : Int} (w : World) (hz : I64 z) : QI (w.alloc (.cells #[.int .i64 z] E)) w.heap.size 0 1 1 [z] := by
  have hB := Blk.made w #[.int .i64 z] E
  refine ⟨rfl, Nat.le_refl _, by simp, fun j hj => ?_, fun j => hB.free j, fun i x hx => ?_, fun x hx => by simp at hx; rw [hx]; exact hz⟩
  · obtain rfl : j = 0 := by omega
    rw [hB.cell]; rfl
  · rw [Nat.zero_add, hB.cell]
    cases i with
    | zero => simp at hx; subst hx; rfl
    | succ i => simp at hx
theorem own_here {E : TypeId} {w : World} {base g n c : Nat} {l : List Int} (h : OwnI E w base (some ⟨g, 0, none⟩) n c l) (j : Nat) (hj : j < c) : (w.cell? ⟨g, j, none⟩).isSome = true := by
  rcases h.1.2 with ⟨he, _⟩ | ⟨g', cap, cur, he, hb, hg, hnc, hcm, hcs, ht⟩
  · simp only [Value.slice.injEq] at he; cases he.1
  · simp only [Value.slice.injEq, Option.some.injEq, Addr.mk.injEq, and_true, true_and] at he
    obtain ⟨rfl, rfl⟩ := he
    have hj2 : j < cur.size := by omega
    simp [World.cell?, hg, hj2]
/-- 'append(open, x)', the literal laid just before -/
theorem qapp1 {P : Program} {w : World} {ops : Array Oper} {rest : List Oper} {o : Oper} {act : Act} {Q : Exit → Act → World → Prop} {z : Int} {t e : TypeId} (hgd : o.guard = none) (s x : Operand)
    (ho : o.op = .call { callee := .builtin .append, args := #[s, x], argTypes := #[t, t] }) (ht : P.underlying t = some (.slice e)) (hinfo : (P.info? e).map (fun i => (i.zero, i.size, i.bytes)) = some (some (.int .i64 0), 1, 8))
    (g off n c : Nat) (l : List Int) (hq : QI w g off n c l) (hs : act.eval s = .slice (some ⟨g, off, none⟩) n c) (gx : Nat) (hx : act.eval x = .slice (some ⟨gx, 0, none⟩) 1 1) (hg : gx = w.heap.size) (hzw : I64 z) (hn : n ≤ 4194304)
    (K : ∀ g' off' c' w', QI w' g' off' (n + 1) c' (l ++ [z]) → Only g (g + 1) w w' → (g' = g ∨ w.heap.size ≤ g') → wpList P ops Q rest (act.put o.dst (.slice (some ⟨g', off', none⟩) (n + 1) c')) w') : wpList P ops Q (o :: rest) act (w.alloc (.cells #[.int .i64 z] e)) := by
  subst hg
  obtain ⟨i, hi, hz0, hz1, hz2⟩ := info_parts hinfo
  have hA : Only g (g + 1) w (w.alloc (.cells #[.int .i64 z] e)) := (Only.refl _ _ _).alloc _
  have hq1 : QI (w.alloc (.cells #[.int .i64 z] e)) g off n c l := hq.keep ((Below.refl _ _).alloc (Nat.le_refl _) _)
  refine wpList_append_arg _ hgd s x t ho e i (.int .i64 0) 1 8 ht hi hz0 hz1 hz2 rfl (by decide) g off n c (l.map (Value.int .i64)) hs (by simp [hq.len]) ?_ ⟨w.heap.size, 0, none⟩ 1 1 [.int .i64 z] hx rfl ?_ ?_ ?_ (by unfold maxLen; omega) (by omega) ?_ ?_
  · intro j u hj
    rw [List.getElem?_map] at hj
    cases hy : l[j]? with
    | none => rw [hy] at hj; cases hj
    | some y =>
      rw [hy] at hj
      simp only [Option.map_some, Option.some.injEq] at hj
      subst hj
      exact hq1.cell j y hy
  · intro j u hj
    cases j with
    | zero => simp at hj; subst hj; simp [Addr.add]
    | succ j => simp at hj
  · intro u hu; simp at hu; subst hu; rfl
  · intro hr j hj
    simp at hj; subst hj
    rw [Nat.mul_one, Nat.add_zero]
    exact ⟨hq1.here n (by omega), hq1.free _⟩
  · intro hr
    rw [Nat.mul_one]
    have hw2 : (w.alloc (.cells #[.int .i64 z] e)).setCells g (off + n) [.int .i64 z] = (w.alloc (.cells #[.int .i64 z] e)).setCell ⟨g, off + n, none⟩ (.int .i64 z) := rfl
    rw [hw2]
    refine K g off c _ ⟨by simp [hq.len], by omega, ?_, fun j hj => ?_, fun j => ?_, fun k y hy => ?_, fun y hy => ?_⟩ (hA.set ⟨Nat.le_refl _, Nat.lt_succ_self _⟩ _ _) (.inl rfl)
    · have := hq1.lt; simpa [World.setCell] using this
    · by_cases hjn : j = n
      · subst hjn
        have h1 := hq1.here j (by omega)
        obtain ⟨v, hv⟩ := Option.isSome_iff_exists.1 h1
        rw [World.cell?_setCell_same _ _ _ hv]; rfl
      · rw [World.cell?_setCell_other _ _ _ _ (by intro e; simp at e <;> omega)]; exact hq1.here j hj
    · rw [World.frozen?_setCell]; exact hq1.free j
    · by_cases hk : k < n
      · have hy' : l[k]? = some y := by rw [List.getElem?_append_left (by rw [hq.len]; exact hk)] at hy; exact hy
        rw [World.cell?_setCell_other _ _ _ _ (by intro e; simp at e <;> omega)]; exact hq1.cell k y hy'
      · have hkn : k = n := by
          have := (List.getElem?_eq_some_iff.1 hy).1
          simp [hq.len] at this; omega
        subst hkn
        have hy' : y = z := by rw [List.getElem?_append_right (by rw [hq.len]; omega), hq.len] at hy; simpa using hy.symm
        subst hy'
        obtain ⟨v, hv⟩ := Option.isSome_iff_exists.1 (hq1.here k (by omega))
        exact World.cell?_setCell_same _ _ _ hv
    · rcases List.mem_append.1 hy with h | h
      · exact hq.wf y h
      · simp at h; rw [h]; exact hzw
  · intro hr v' w' hown hgr
    have hb1 : Below (w.alloc (.cells #[.int .i64 z] e)).heap.size (w.alloc (.cells #[.int .i64 z] e)) w' := (Below.refl _ _).grown hgr (Nat.le_refl _) (fun q hq => by cases hq)
    have hmap : l.map (Value.int .i64) ++ [Value.int .i64 z] = (l ++ [z]).map (Value.int .i64) := by simp
    rw [hmap] at hown
    rcases Joins.ownsRow_forms hown with ⟨_, h0⟩ | ⟨g', cap, hv⟩
    · omega
    · rw [hv] at hown ⊢
      have hw : ∀ y ∈ l ++ [z], I64 y := fun y hy => by
        rcases List.mem_append.1 hy with h | h
        · exact hq.wf y h
        · simp at h; rw [h]; exact hzw
      have hO : OwnI e w' (w.alloc (.cells #[.int .i64 z] e)).heap.size (some ⟨g', 0, none⟩) (n + 1) cap (l ++ [z]) := ⟨hown, hw⟩
      have hl := hO.lt
      have hap := hown.2
      refine K g' 0 cap w' ⟨hO.len, hO.ints.cap, hl.2, fun j hj => ?_, fun j => hO.free j, fun k y hy => ?_, hw⟩ (hA.then hb1) (.inr ?_)
      · rw [Nat.zero_add]; exact own_here hO j hj
      · have hk : k < n + 1 := by have := (List.getElem?_eq_some_iff.1 hy).1; rw [hO.len] at this; exact this
        obtain ⟨y', h1, _, h3⟩ := hO.cell hk
        rw [hy] at h1; cases h1
        rw [Nat.zero_add]; exact h3
      · have := hl.1; simp at this; omega
end Go.Proofs.YtfhogleillgcgaaDoor
