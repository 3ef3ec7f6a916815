/- Facts that hang on an interval of blocks: what a law keeps while it writes marks elsewhere.; Append of records to a row of the call's own. -/
import Derived.Test.YtjneodmohkpckaaGreatDoorBase
namespace Go.Proofs.YtjneodmohkpckaaGreatDoor
open Go.RowKit
set_option linter.unusedVariables false
set_option linter.unusedSimpArgs false
/-- nothing that was there is written but in the blocks from lo on below hi -/
structure Only (lo hi : Nat) (w w' : World) : Prop where
  os : w'.os = w.os
  tape : w'.tape = w.tape
  output : w'.output = w.output
  size : w.heap.size ≤ w'.heap.size
  block : ∀ k, k < w.heap.size → (k < lo ∨ hi ≤ k) → w'.heap[k]? = w.heap[k]?
theorem Only.below {lo hi B : Nat} {w w' w0 : World} (h : Only lo hi w w') (h0 : Below B w0 w) (hB : B ≤ lo) (hw : B ≤ w.heap.size) : Below B w0 w' :=
  ⟨h.os.trans h0.os, h.tape.trans h0.tape, h.output.trans h0.output, Nat.le_trans h0.size h.size, fun k hk => (h.block k (by omega) (.inl (by omega))).trans (h0.block k hk)⟩
theorem Only.trans {lo hi : Nat} {w w' w'' : World} (h : Only lo hi w w') (h' : Only lo hi w' w'') : Only lo hi w w'' :=
  ⟨h'.os.trans h.os, h'.tape.trans h.tape, h'.output.trans h.output, Nat.le_trans h.size h'.size, fun k hk hr => (h'.block k (Nat.lt_of_lt_of_le hk h.size) hr).trans (h.block k hk hr)⟩
theorem Only.mono {lo hi lo' hi' : Nat} {w w' : World} (h : Only lo hi w w') (h1 : lo' ≤ lo) (h2 : hi ≤ hi') : Only lo' hi' w w' :=
  ⟨h.os, h.tape, h.output, h.size, fun k hk hr => h.block k hk (by omega)⟩
theorem Only.of_below {lo hi : Nat} {w w' : World} (h : Below w.heap.size w w') : Only lo hi w w' := ⟨h.os, h.tape, h.output, h.size, fun k hk _ => h.block k hk⟩
theorem Touch.only {w w' : World} {n lo hi : Nat} {a : Option Addr} (h : Touch w w' n a) (ha : ∀ g, a = some ⟨g, 0, none⟩ → lo ≤ g ∧ g < hi) : Only lo hi w w' := by
  obtain ⟨r, hg, hr⟩ := h
  refine ⟨hg.os, hg.tape, hg.output, hg.size, fun k hk hd => hg.block k hk fun e => ?_⟩
  have := ha k (hr k e.symm).2
  omega
theorem ocell {lo hi : Nat} {W w1 : World} (h : Only lo hi W w1) : ∀ b o, b < W.heap.size → (b < lo ∨ hi ≤ b) → w1.cell? ⟨b, o, none⟩ = W.cell? ⟨b, o, none⟩ :=
  fun b o hb hd => World.cell?_of_block (a := ⟨b, o, none⟩) (h.block b hb hd)
theorem Only.refl (lo hi : Nat) (w : World) : Only lo hi w w := ⟨rfl, rfl, rfl, Nat.le_refl _, fun _ _ _ => rfl⟩
theorem Only.set {lo hi b : Nat} {w w' : World} (h : Only lo hi w w') (hb : lo ≤ b ∧ b < hi) (i : Nat) (v : Value) : Only lo hi w (w'.setCell ⟨b, i, none⟩ v) :=
  h.trans ⟨rfl, rfl, rfl, by simp [World.setCell], fun k _ hk => Below.heap_setCell _ _ _ _ (fun e => by simp at e; omega)⟩
theorem Only.setN {lo hi b : Nat} {w w' : World} (h : Only lo hi w w') (hb : w.heap.size ≤ b) (i : Nat) (v : Value) : Only lo hi w (w'.setCell ⟨b, i, none⟩ v) :=
  ⟨h.os, h.tape, h.output, by have := h.size; simp [World.setCell]; exact this, fun k hk hr => (Below.heap_setCell _ _ _ _ (fun e => by simp at e; omega)).trans (h.block k hk hr)⟩
theorem Only.drew {lo hi : Nat} {w w' : World} (h : Only lo hi w w') : Only lo hi w w'.drew := h.trans ⟨rfl, rfl, rfl, Nat.le_refl _, fun _ _ _ => rfl⟩
theorem Only.drewN {lo hi : Nat} {w w' : World} (h : Only lo hi w w') (n : Nat) : Only lo hi w (w'.drewN n) := h.trans ⟨rfl, rfl, rfl, Nat.le_refl _, fun _ _ _ => rfl⟩
theorem Only.then {lo hi : Nat} {w w' w'' : World} (h : Only lo hi w w') (hb : Below w'.heap.size w' w'') : Only lo hi w w'' := h.trans (Only.of_below hb)
theorem Only.alloc {lo hi : Nat} {w w' : World} (h : Only lo hi w w') (o : Obj) : Only lo hi w (w'.alloc o) := h.then ((Below.refl _ _).alloc (Nat.le_refl _) o)
theorem Only.grown {lo hi : Nat} {w w' w'' : World} {r : Option Nat} (h : Only lo hi w w') (hg : w'.grownBy w'' r) (hr : ∀ k, r = some k → lo ≤ k ∧ k < hi) : Only lo hi w w'' :=
  h.trans ⟨hg.os, hg.tape, hg.output, hg.size, fun k hk hd => hg.block k hk fun e => by have := hr k e.symm; omega⟩
theorem Below.only {lo hi B : Nat} {w0 w w' : World} (h0 : Below B w0 w) (h : Only lo hi w w') (hB : B ≤ lo) (hw : B ≤ w.heap.size) : Below B w0 w' := h.below h0 hB hw
theorem OwnI.only {E : TypeId} {w w' : World} {base lo hi : Nat} {a : Option Addr} {n c : Nat} {l : List Int} (h : OwnI E w base a n c l) (ho : Only lo hi w w') (hd : ∀ g, a = some ⟨g, 0, none⟩ → g < lo ∨ hi ≤ g) : OwnI E w' base a n c l := by
  obtain ⟨⟨hl, h2⟩, hw⟩ := h
  refine ⟨⟨hl, ?_⟩, hw⟩
  rcases h2 with h2 | ⟨g, cap, cur, he, hbs, hg, r⟩
  · exact .inl h2
  · have hlt : g < w.heap.size := Nat.lt_of_not_le fun h => by rw [Array.getElem?_eq_none h] at hg; cases hg
    have he' := he
    simp only [Value.slice.injEq] at he'
    exact .inr ⟨g, cap, cur, he, hbs, by rw [ho.block g hlt (hd g he'.1)]; exact hg, r⟩
theorem OwnF.only {α : Type} {k : Nat} {enc : α → List Value} {ok : α → Prop} {E : TypeId} {w w' : World} {base lo hi : Nat} {a : Option Addr} {n c : Nat} {l : List α} (h : OwnF k enc ok E w base a n c l) (ho : Only lo hi w w') (hd : ∀ g, a = some ⟨g, 0, none⟩ → g < lo ∨ hi ≤ g) : OwnF k enc ok E w' base a n c l := by
  obtain ⟨⟨hl, h2⟩, hw⟩ := h
  refine ⟨⟨hl, ?_⟩, hw⟩
  rcases h2 with h2 | ⟨g, cap, cur, he, hbs, hg, r⟩
  · exact .inl h2
  · have hlt : g < w.heap.size := Nat.lt_of_not_le fun h => by rw [Array.getElem?_eq_none h] at hg; cases hg
    have he' := he
    simp only [Value.slice.injEq] at he'
    exact .inr ⟨g, cap, cur, he, hbs, by rw [ho.block g hlt (hd g he'.1)]; exact hg, r⟩
theorem Ints.only {w w' : World} {lo hi : Nat} {a : Option Addr} {n c : Nat} {l : List Int} (h : Ints w a n c l) (ho : Only lo hi w w') (hd : ∀ g off, a = some ⟨g, off, none⟩ → g < lo ∨ hi ≤ g) : Ints w' a n c l := by
  refine ⟨h.len, h.cap, ?_, h.wf, h.nil⟩
  rcases h.pos with h0 | ⟨b, off, ha, hlt, hc⟩
  · exact .inl h0
  · exact .inr ⟨b, off, ha, Nat.lt_of_lt_of_le hlt ho.size, fun i x hx => (World.cell?_of_block (a := ⟨b, off + i, none⟩) (ho.block b hlt (hd b off ha))).trans (hc i x hx)⟩
theorem Flats.only {α : Type} {k : Nat} {enc : α → List Value} {ok : α → Prop} {w w' : World} {lo hi : Nat} {a : Option Addr} {n c : Nat} {l : List α} (h : Flats k enc ok w a n c l) (ho : Only lo hi w w') (hd : ∀ g off, a = some ⟨g, off, none⟩ → g < lo ∨ hi ≤ g) : Flats k enc ok w' a n c l := by
  refine ⟨h.len, h.cap, ?_, h.wf, h.nil⟩
  rcases h.pos with h0 | ⟨b, off, ha, hlt, hc⟩
  · exact .inl h0
  · exact .inr ⟨b, off, ha, Nat.lt_of_lt_of_le hlt ho.size, fun i x hx j v hv => (World.cell?_of_block (a := ⟨b, off + i * k + j, none⟩) (ho.block b hlt (hd b off ha))).trans (hc i x hx j v hv)⟩
structure Own (P : World → Prop) (lo hi : Nat) (w : World) : Prop where
  fact : P w
  upto : hi ≤ w.heap.size
  here : ∀ w1 w2 : World, (∀ k, lo ≤ k → k < hi → w2.heap[k]? = w1.heap[k]?) → P w1 → P w2
theorem Own.keep {P : World → Prop} {lo hi : Nat} {w w' : World} (h : Own P lo hi w) (hb : Below w.heap.size w w') : Own P lo hi w' :=
  ⟨h.here w w' (fun k _ hk => hb.block k (Nat.lt_of_lt_of_le hk h.upto)) h.fact, Nat.le_trans h.upto hb.size, h.here⟩
theorem Own.apart {P : World → Prop} {lo hi lo' hi' : Nat} {w w' : World} (h : Own P lo hi w) (ho : Only lo' hi' w w') (hd : hi ≤ lo' ∨ hi' ≤ lo) : Own P lo hi w' :=
  ⟨h.here w w' (fun k h1 h2 => ho.block k (Nat.lt_of_lt_of_le h2 h.upto) (by omega)) h.fact, Nat.le_trans h.upto ho.size, h.here⟩
theorem Own.turn {P Q : World → Prop} {lo hi : Nat} {w w' : World} (h : Own P lo hi w) (hs : w.heap.size ≤ w'.heap.size) (hq : Q w') (hh : ∀ w1 w2 : World, (∀ k, lo ≤ k → k < hi → w2.heap[k]? = w1.heap[k]?) → Q w1 → Q w2) : Own Q lo hi w' :=
  ⟨hq, Nat.le_trans h.upto hs, hh⟩
theorem Blk.apart {w w' : World} {b lo hi : Nat} {cs : Array Value} {T : TypeId} (h : Blk w b cs T) (ho : Only lo hi w w') (hd : b < lo ∨ hi ≤ b) : Blk w' b cs T := (ho.block b h.lt hd).trans h
theorem OwnI.here {E : TypeId} {base lo hi : Nat} {a : Option Addr} {n c : Nat} {l : List Int} (ha : ∀ g, a = some ⟨g, 0, none⟩ → lo ≤ g ∧ g < hi) (w1 w2 : World) (hk : ∀ k, lo ≤ k → k < hi → w2.heap[k]? = w1.heap[k]?) (h : OwnI E w1 base a n c l) : OwnI E w2 base a n c l := by
  obtain ⟨⟨hl, h2⟩, hw⟩ := h
  refine ⟨⟨hl, ?_⟩, hw⟩
  rcases h2 with h2 | ⟨g, cap, cur, he, hbs, hg, r⟩
  · exact .inl h2
  · simp only [Value.slice.injEq] at he
    obtain ⟨h1, h2⟩ := ha g he.1
    exact .inr ⟨g, cap, cur, by simp only [Value.slice.injEq]; exact he, hbs, by rw [hk g h1 h2]; exact hg, r⟩
theorem OwnF.here {α : Type} {k' : Nat} {enc : α → List Value} {ok : α → Prop} {E : TypeId} {base lo hi : Nat} {a : Option Addr} {n c : Nat} {l : List α} (ha : ∀ g, a = some ⟨g, 0, none⟩ → lo ≤ g ∧ g < hi) (w1 w2 : World) (hk : ∀ k, lo ≤ k → k < hi → w2.heap[k]? = w1.heap[k]?) (h : OwnF k' enc ok E w1 base a n c l) : OwnF k' enc ok E w2 base a n c l := by
  obtain ⟨⟨hl, h2⟩, hw⟩ := h
  refine ⟨⟨hl, ?_⟩, hw⟩
  rcases h2 with h2 | ⟨g, cap, cur, he, hbs, hg, r⟩
  · exact .inl h2
  · simp only [Value.slice.injEq] at he
    obtain ⟨h1, h2⟩ := ha g he.1
    exact .inr ⟨g, cap, cur, by simp only [Value.slice.injEq]; exact he, hbs, by rw [hk g h1 h2]; exact hg, r⟩
theorem OwnI.own {E : TypeId} {w : World} {base : Nat} {a : Option Addr} {n c : Nat} {l : List Int} (h : OwnI E w base a n c l) : Own (fun w => OwnI E w base a n c l) base w.heap.size w := ⟨h, Nat.le_refl _, OwnI.here h.blk⟩
theorem OwnF.own {α : Type} {k' : Nat} {enc : α → List Value} {ok : α → Prop} {E : TypeId} {w : World} {base : Nat} {a : Option Addr} {n c : Nat} {l : List α} (h : OwnF k' enc ok E w base a n c l) : Own (fun w => OwnF k' enc ok E w base a n c l) base w.heap.size w := ⟨h, Nat.le_refl _, OwnF.here h.blk⟩
theorem flat_inv {α : Type} {k : Nat} {enc : α → List Value} (hk : ∀ x, (enc x).length = k) (h0 : 0 < k) : ∀ {l : List α} {j : Nat} {u : Value}, (l.flatMap enc)[j]? = some u → ∃ x, l[j / k]? = some x ∧ (enc x)[j % k]? = some u
  | [], j, u, h => by simp at h
  | y :: r, j, u, h => by
    rw [List.flatMap_cons] at h
    by_cases hj : j < k
    · rw [List.getElem?_append_left (by rw [hk]; exact hj)] at h
      exact ⟨y, by rw [Nat.div_eq_of_lt hj]; rfl, by rw [Nat.mod_eq_of_lt hj]; exact h⟩
    · obtain ⟨j', rfl⟩ : ∃ j', j = j' + k := ⟨j - k, by omega⟩
      rw [List.getElem?_append_right (by rw [hk]; omega), hk, Nat.add_sub_cancel] at h
      obtain ⟨x, h1, h2⟩ := flat_inv hk h0 h
      exact ⟨x, by rw [Nat.add_div_right _ h0]; exact h1, by rw [Nat.add_mod_right]; exact h2⟩
/-- 'append(out, xs...)' of records of k cells to a slice of the call's own -/
theorem appendL_F {α : Type} {k : Nat} {enc : α → List Value} {ok : α → Prop} {z : Value} {by' : Nat} {P : Program} {w : World} {ops : Array Oper} {rest : List Oper} {o : Oper} {act : Act} {Q : Exit → Act → World → Prop} (hgd : o.guard = none) (s x : Operand) (t e : TypeId)
    (ho : o.op = .call { callee := .builtin .append, args := #[s, x], argTypes := #[t, t] }) (ht : P.underlying t = some (.slice e)) (hinfo : (P.info? e).map (fun i => (i.zero, i.size, i.bytes)) = some (some z, k, by'))
    (hzs : z.cells.size = k) (hk : 0 < k) (hby : by' ≤ 128) (hone : ∀ y : α, ∀ u ∈ enc y, u.oneCell' = true)
    (base : Nat) (a : Option Addr) (n c : Nat) (l : List α) (hown : OwnF k enc ok e w base a n c l) (hs : act.eval s = .slice a n c) (a2 : Option Addr) (m c2 : Nat) (l2 : List α) (hx : act.eval x = .slice a2 m c2) (hsrc : Flats k enc ok w a2 m c2 l2)
    (hn : n ≤ 4194304) (hm : m ≤ 4194304) (hbase : base ≤ w.heap.size)
    (K : ∀ a' c' w', OwnF k enc ok e w' base a' (n + m) c' (l ++ l2) → Below base w w' → w.grownBy w' (Value.slice a n c).ownBlock → (a' = none → a = none) → wpList P ops Q rest (act.put o.dst (.slice a' (n + m) c')) w') : wpList P ops Q (o :: rest) act w := by
  obtain ⟨i, hi, hz0, hz1, hz2⟩ := info_parts hinfo
  obtain ⟨hown1, hok, hlen, henc⟩ := hown
  have hmul : ∀ q : List α, (q.flatMap enc).length = q.length * k := fun q => by
    induction q with
    | nil => simp
    | cons y r ih => rw [List.flatMap_cons, List.length_append, ih, henc, List.length_cons, Nat.succ_mul, Nat.add_comm]
  cases a2 with
  | none =>
    obtain ⟨rfl, rfl⟩ := hsrc.nil rfl
    have hl2 : l2 = [] := List.length_eq_zero_iff.1 hsrc.len
    subst hl2
    refine wpList_append_own_none hgd s x t ho base e i k ht hi (.slice a n c) n _ hs hown1 hx ?_
    refine K a c w ?_ (Below.refl _ _) (grownBy_refl _ _) id
    rw [List.append_nil]; exact ⟨hown1, hok, hlen, henc⟩
  | some ad =>
    refine wpList_append_own w hgd s x t ho base e i z k by' ht hi hz0 hz1 hz2 hzs hk (.slice a n c) n _ hs hown1 ad m c2 (l2.flatMap enc) hx (by rw [hmul, hsrc.len]) ?_ ?_ (by unfold maxLen; omega) (Nat.le_trans (Nat.mul_le_mul_left (n + m) hby) (by omega)) hbase ?_
    · intro j u hj
      obtain ⟨x, h1, h2⟩ := flat_inv henc hk hj
      have hjm : j / k < m := by rw [← hsrc.len]; exact (List.getElem?_eq_some_iff.1 h1).1
      obtain ⟨b, off, he, _, hc⟩ := hsrc.pos.resolve_left (Nat.ne_of_gt (Nat.lt_of_le_of_lt (Nat.zero_le _) hjm))
      simp only [Option.some.injEq] at he
      subst he
      have e1 : (⟨b, off, none⟩ : Addr).add j = ⟨b, off + j, none⟩ := by by_cases h0 : j = 0 <;> simp [Addr.add, h0]
      have := hc _ x h1 _ u h2
      rw [Nat.add_assoc, Nat.mul_comm, Nat.div_add_mod] at this
      rw [e1]; exact this
    · intro u hu
      obtain ⟨y, _, hy⟩ := List.mem_flatMap.1 hu
      exact hone y u hy
    · intro v' w' hown' hg hnil
      have hform := Joins.ownsRow_forms hown'
      have hb : Below base w w' := (Below.refl _ _).grown hg hbase fun q hq => (hown1.lt q hq).1
      have hmap : l.flatMap enc ++ l2.flatMap enc = (l ++ l2).flatMap enc := (List.flatMap_append ..).symm
      have hw : ∀ y ∈ l ++ l2, ok y := fun y hy => by
        rcases List.mem_append.1 hy with h | h
        · exact hok y h
        · exact hsrc.wf y h
      have hll : (l ++ l2).length = n + m := by rw [List.length_append, hlen, hsrc.len]
      rw [hmap] at hown'
      rcases hform with ⟨hv, h0⟩ | ⟨g, cap, hv⟩
      · have h1 := hnil.1 hv
        rw [hv] at hown' ⊢
        have h2 := K none 0 w' (by rw [h0] at hown' hll ⊢; exact ⟨hown', hw, hll, henc⟩) hb hg (fun _ => by have := h1.1; simp only [Value.slice.injEq] at this; exact this.1)
        rw [h0] at h2; exact h2
      · rw [hv] at hown' ⊢
        exact K _ _ _ ⟨hown', hw, hll, henc⟩ hb hg (fun h => by cases h)
theorem addr_add0 {b o i : Nat} : (⟨b, o, none⟩ : Addr).add i = ⟨b, o + i, none⟩ := by by_cases h0 : i = 0 <;> simp [Addr.add, h0]
/-- 's[lo:hi]' of a slice that is read -/
theorem Ints.part {w : World} {a : Option Addr} {n c : Nat} {l : List Int} (h : Ints w a n c l) {lo hi : Nat} (h1 : lo ≤ hi) (h2 : hi ≤ n) : Ints w (if c = lo then a else a.map (·.add lo)) (hi - lo) (c - lo) ((l.drop lo).take (hi - lo)) := by
  have hc := h.cap
  have hl := h.len
  refine ⟨by rw [List.length_take, List.length_drop, hl]; omega, by omega, ?_, fun x hx => h.wf x (List.mem_of_mem_drop (List.mem_of_mem_take hx)), fun e => ?_⟩
  · by_cases h0 : hi - lo = 0
    · exact .inl h0
    · obtain ⟨b, off, ha, hlt, hx⟩ := h.pos.resolve_left (by omega)
      subst ha
      refine .inr ⟨b, off + lo, ?_, hlt, fun i x hi' => ?_⟩
      · rw [if_neg (by omega), Option.map_some, addr_add0]
      · rw [List.getElem?_take] at hi'
        split at hi'
        · rw [List.getElem?_drop] at hi'
          rw [Nat.add_assoc]; exact hx _ _ hi'
        · cases hi'
  · have ha : a = none := by
      split at e
      · exact e
      · cases a with
        | none => rfl
        | some => cases e
    have := h.nil ha
    omega
end Go.Proofs.YtjneodmohkpckaaGreatDoor
