/- Append of records to a row of the call's own.; Draws: the steps of a walk, each for whatever world stands there.; Append of records to a row of the call's own: which block the new slice lies in.; append of one int64 to a slice of the call's own, and where the new slice lies.; The state to which a rule leads, and a state's text: the program, walked.; A state's text: the program, walked.; Models: states and tests, walked.; Models: tests, walked. -/
import Derived.Test.YtkaikbaagajckaaGreatBase
import Derived.Test.YtkaikbaagajckaaGreatK03
import Derived.Test.YtkaikbaagajckaaGreatK02
import Derived.Maps.AppendAt
import Derived.Deep.AppendLies
import Derived.Laws.BytesArg
namespace Go.Proofs.YtkaikbaagajckaaGreat
open Go.RowKit
set_option linter.unusedVariables false
set_option linter.unusedSimpArgs false
theorem flat_inv {α : Type} {k : Nat} {enc : α → List Value} (hk : ∀ x, (enc x).length = k) (h0 : 0 < k) : ∀ {l : List α} {j : Nat} {u : Value}, (l.flatMap enc)[j]? = some u → ∃ x, l[j / k]? = some x ∧ (enc x)[j % k]? = some u
  | [], j, u, h => by simp at h
  | y :: r, j, u, h => by
    rw [List.flatMap_cons] at h
    by_cases hj : j < k
    · rw [List.getElem?_append_left (by rw [hk]; exact hj)] at h
      exact ⟨y, by rw [Nat.div_eq_of_lt hj]; rfl, by rw [Nat.mod_eq_of_lt hj]; exact h⟩
    · obtain ⟨j', rfl⟩ : ∃ j', j = j' + k := ⟨j - k, by omega⟩
      rw [List.getElem?_append_right (by rw [hk]; omega), hk, Nat.add_sub_cancel] at h
      obtain ⟨x, h1, h2⟩ := flat_inv hk h0 h
      exact ⟨x, by rw [Nat.add_div_right _ h0]; exact h1, by rw [Nat.add_mod_right]; exact h2⟩
/-- 'append(out, xs...)' of records of k cells to a slice of the call's own -/
theorem appendL_F {α : Type} {k : Nat} {enc : α → List Value} {ok : α → Prop} {z : Value} {by' : Nat} {P : Program} {w : World} {ops : Array Oper} {rest : List Oper} {o : Oper} {act : Act} {Q : Exit → Act → World → Prop} (hgd : o.guard = none) (s x : Operand) (t e : TypeId)
    (ho : o.op = .call { callee := .builtin .append, args := #[s, x], argTypes := #[t, t] }) (ht : P.underlying t = some (.slice e)) (hinfo : (P.info? e).map (fun i => (i.zero, i.size, i.bytes)) = some (some z, k, by'))
    (hzs : z.cells.size = k) (hk : 0 < k) (hby : by' ≤ 128) (hone : ∀ y : α, ∀ u ∈ enc y, u.oneCell' = true)
    (base : Nat) (a : Option Addr) (n c : Nat) (l : List α) (hown : OwnF k enc ok e w base a n c l) (hs : act.eval s = .slice a n c) (a2 : Option Addr) (m c2 : Nat) (l2 : List α) (hx : act.eval x = .slice a2 m c2) (hsrc : Flats k enc ok w a2 m c2 l2)
    (hn : n ≤ 4194304) (hm : m ≤ 4194304) (hbase : base ≤ w.heap.size)
    (K : ∀ a' c' w', OwnF k enc ok e w' base a' (n + m) c' (l ++ l2) → Below base w w' → w.grownBy w' (Value.slice a n c).ownBlock → (a' = none → a = none) → wpList P ops Q rest (act.put o.dst (.slice a' (n + m) c')) w') : wpList P ops Q (o :: rest) act w := by
  obtain ⟨i, hi, hz0, hz1, hz2⟩ := info_parts hinfo
  obtain ⟨hown1, hok, hlen, henc⟩ := hown
  have hmul : ∀ q : List α, (q.flatMap enc).length = q.length * k := fun q => by
    induction q with
    | nil => simp
    | cons y r ih => rw [List.flatMap_cons, List.length_append, ih, henc, List.length_cons, Nat.succ_mul, Nat.add_comm]
  cases a2 with
  | none =>
    obtain ⟨rfl, rfl⟩ := hsrc.nil rfl
    have hl2 : l2 = [] := List.length_eq_zero_iff.1 hsrc.len
    subst hl2
    refine wpList_append_own_none hgd s x t ho base e i k ht hi (.slice a n c) n _ hs hown1 hx ?_
    refine K a c w ?_ (Below.refl _ _) (grownBy_refl _ _) id
    rw [List.append_nil]; exact ⟨hown1, hok, hlen, henc⟩
  | some ad =>
    refine wpList_append_own w hgd s x t ho base e i z k by' ht hi hz0 hz1 hz2 hzs hk (.slice a n c) n _ hs hown1 ad m c2 (l2.flatMap enc) hx (by rw [hmul, hsrc.len]) ?_ ?_ (by unfold maxLen; omega) (Nat.le_trans (Nat.mul_le_mul_left (n + m) hby) (by omega)) hbase ?_
    · intro j u hj
      obtain ⟨x, h1, h2⟩ := flat_inv henc hk hj
      have hjm : j / k < m := by rw [← hsrc.len]; exact (List.getElem?_eq_some_iff.1 h1).1
      obtain ⟨b, off, he, _, hc⟩ := hsrc.pos.resolve_left (Nat.ne_of_gt (Nat.lt_of_le_of_lt (Nat.zero_le _) hjm))
      simp only [Option.some.injEq] at he
      subst he
      have e1 : (⟨b, off, none⟩ : Addr).add j = ⟨b, off + j, none⟩ := by by_cases h0 : j = 0 <;> simp [Addr.add, h0]
      have := hc _ x h1 _ u h2
      rw [Nat.add_assoc, Nat.mul_comm, Nat.div_add_mod] at this
      rw [e1]; exact this
    · intro u hu
      obtain ⟨y, _, hy⟩ := List.mem_flatMap.1 hu
      exact hone y u hy
    · intro v' w' hown' hg hnil
      have hform := Joins.ownsRow_forms hown'
      have hb : Below base w w' := (Below.refl _ _).grown hg hbase fun q hq => (hown1.lt q hq).1
      have hmap : l.flatMap enc ++ l2.flatMap enc = (l ++ l2).flatMap enc := (List.flatMap_append ..).symm
      have hw : ∀ y ∈ l ++ l2, ok y := fun y hy => by
        rcases List.mem_append.1 hy with h | h
        · exact hok y h
        · exact hsrc.wf y h
      have hll : (l ++ l2).length = n + m := by rw [List.length_append, hlen, hsrc.len]
      rw [hmap] at hown'
      rcases hform with ⟨hv, h0⟩ | ⟨g, cap, hv⟩
      · have h1 := hnil.1 hv
        rw [hv] at hown' ⊢
        have h2 := K none 0 w' (by rw [h0] at hown' hll ⊢; exact ⟨hown', hw, hll, henc⟩) hb hg (fun _ => by have := h1.1; simp only [Value.slice.injEq] at this; exact this.1)
        rw [h0] at h2; exact h2
      · rw [hv] at hown' ⊢
        exact K _ _ _ ⟨hown', hw, hll, henc⟩ hb hg (fun h => by cases h)
theorem addr_add0 {b o i : Nat} : (⟨b, o, none⟩ : Addr).add i = ⟨b, o + i, none⟩ := by by_cases h0 : i = 0 <;> simp [Addr.add, h0]
/-- 's[lo:hi]' of a slice that is read -/
theorem Ints.part {w : World} {a : Option Addr} {n c : Nat} {l : List Int} (h : Ints w a n c l) {lo hi : Nat} (h1 : lo ≤ hi) (h2 : hi ≤ n) : Ints w (if c = lo then a else a.map (·.add lo)) (hi - lo) (c - lo) ((l.drop lo).take (hi - lo)) := by
  have hc := h.cap
  have hl := h.len
  refine ⟨by rw [List.length_take, List.length_drop, hl]; omega, by omega, ?_, fun x hx => h.wf x (List.mem_of_mem_drop (List.mem_of_mem_take hx)), fun e => ?_⟩
  · by_cases h0 : hi - lo = 0
    · exact .inl h0
    · obtain ⟨b, off, ha, hlt, hx⟩ := h.pos.resolve_left (by omega)
      subst ha
      refine .inr ⟨b, off + lo, ?_, hlt, fun i x hi' => ?_⟩
      · rw [if_neg (by omega), Option.map_some, addr_add0]
      · rw [List.getElem?_take] at hi'
        split at hi'
        · rw [List.getElem?_drop] at hi'
          rw [Nat.add_assoc]; exact hx _ _ hi'
        · cases hi'
  · have ha : a = none := by
      split at e
      · exact e
      · cases a with
        | none => rfl
        | some => cases e
    have := h.nil ha
    omega
end Go.Proofs.YtkaikbaagajckaaGreat
namespace Go.Proofs.YtkaikbaagajckaaGreat
open Go.RowKit
set_option linter.unusedVariables false
set_option linter.unusedSimpArgs false
theorem OwnF.emp {α : Type} {k : Nat} {enc : α → List Value} {ok : α → Prop} {E : TypeId} {base : Nat} (w : World) (h : base ≤ w.heap.size) (hk : ∀ x, (enc x).length = k) : OwnF k enc ok E (w.alloc (.cells #[] E)) base (some ⟨w.heap.size, 0, none⟩) 0 0 [] := by
  refine ⟨?_, (fun _ h => by cases h), rfl, hk⟩
  have := World.ownsRow_lit (base := base) (e := E) (size := k) w #[] 0 h (by omega) (by simp)
  simpa using this
theorem OwnI.zeros {E : TypeId} {base m : Nat} {cs : Array Value} (w : World) (h : base ≤ w.heap.size) (hm : m ≤ 1048576) (hc : cs = (List.replicate m (Value.int .i64 0)).toArray) : OwnI E (w.alloc (.cells cs E)) base (some ⟨w.heap.size, 0, none⟩) m m (List.replicate m 0) := by
  subst hc
  refine ⟨?_, fun x hx => ?_⟩
  · have := World.ownsRow_lit (base := base) (e := E) (size := 1) w (List.replicate m (Value.int .i64 0)).toArray m h (by unfold maxLen; omega) (by simp)
    simpa using this
  · obtain ⟨_, rfl⟩ := List.mem_replicate.1 hx; decide
theorem OwnF.zeros {α : Type} {k m : Nat} {enc : α → List Value} {ok : α → Prop} {E : TypeId} {base : Nat} {cs : Array Value} (w : World) (z : α) (h : base ≤ w.heap.size) (hm : m ≤ 1048576) (hk : ∀ x, (enc x).length = k) (hz : ok z) (hc : cs = ((List.replicate m z).flatMap enc).toArray) : OwnF k enc ok E (w.alloc (.cells cs E)) base (some ⟨w.heap.size, 0, none⟩) m m (List.replicate m z) := by
  subst hc
  refine ⟨?_, fun x hx => ?_, by simp, hk⟩
  · have hl : ((List.replicate m z).flatMap enc).length = m * k := by
      induction m with
      | zero => simp
      | succ m ih => rw [List.replicate_succ, List.flatMap_cons, List.length_append, hk, ih (by omega), Nat.succ_mul, Nat.add_comm]
    have := World.ownsRow_lit (base := base) (e := E) (size := k) w ((List.replicate m z).flatMap enc).toArray m h (by unfold maxLen; omega) (by simp [hl])
    simpa using this
  · obtain ⟨_, rfl⟩ := List.mem_replicate.1 hx; exact hz
theorem I3.one (y : I3) : ∀ u ∈ y.enc, u.oneCell' = true := fun u hu => by
  simp only [I3.enc, List.mem_cons, List.not_mem_nil, or_false] at hu
  rcases hu with rfl | rfl | rfl <;> rfl
theorem I2.one (y : I2) : ∀ u ∈ y.enc, u.oneCell' = true := fun u hu => by
  simp only [I2.enc, List.mem_cons, List.not_mem_nil, or_false] at hu
  rcases hu with rfl | rfl <;> rfl
theorem Dw.src' {T : TypeId} {lo b : Nat} {w0 w : World} (h : Dw T lo b w0 w) : Src T w lo b := h.src
/-- where nothing but blocks from base on is written, base behind the source -/
theorem Dw.own {T : TypeId} {lo b B : Nat} {w0 w w' : World} (h : Dw T lo b w0 w) (hb : Below B w w') (hB : w0.heap.size ≤ B) : Dw T lo b w0 w' := h.belowG hb hB
theorem dw_next {b lo : Nat} {n : Int} {w : World} (hS : Src 203 w lo b) (hn : I64 n) :
    Calls Tryz.prog 134 #[.pointer (some ⟨b, 0, none⟩), .int .i64 n] w fun e w' => ∃ r, e = .returned (.int .i64 r) ∧ 0 ≤ r ∧ (r < n ∨ (n ≤ 1 ∧ r ≤ 0)) ∧ Dw 203 lo b w w' :=
  (spec_l01Next hS hn).mono fun e w' ⟨r, h1, h2, h3, h4⟩ => ⟨r, h1, h2.1, (by have h5 := h2.2.1; have h6 := h2.2.2; omega), h3, h4, hS.lt.2⟩
theorem dw_pick {b lo g m : Nat} {l : List Int} {w : World} {T : TypeId} {cs : Array Value} (hS : Src 203 w lo b) (hg : g = w.heap.size) (hl : cs = (l.map (Value.int .i64)).toArray) (hlen : l.length = m) (hm : m ≤ 100) (h0 : 0 < m) (hP : ∀ x ∈ l, I64 x) :
    Calls Tryz.prog 191 #[.pointer (some ⟨b, 0, none⟩), .slice (some ⟨g, 0, none⟩) m m] (w.alloc (.cells cs T)) fun e w' => ∃ r, e = .returned (.int .i64 r) ∧ r ∈ l ∧ I64 r ∧ Dw 203 lo b w w' := by
  subst hg hlen hl
  have hlt := hS.lt
  have hI : Ints (w.alloc (.cells (l.map (Value.int .i64)).toArray T)) (some ⟨w.heap.size, 0, none⟩) l.length l.length l := by
    refine ⟨rfl, Nat.le_refl _, .inr ⟨w.heap.size, 0, rfl, by simp, fun i x hx => ?_⟩, hP, fun h => by cases h⟩
    have := (Blk.made w (l.map (Value.int .i64)).toArray T).cell i
    rw [Nat.zero_add, this]
    simp [hx]
  refine (spec_l01Pick (hS.alloc _) hI (by omega) h0 (by intro g off e; simp at e; omega)).mono ?_
  rintro e w' ⟨r, h1, h2, h3, h4, h5⟩
  exact ⟨r, h1, h2, h3, ((Only.refl _ _ w).alloc _).trans h4, h5, hlt.2⟩
theorem dw_pick2 {b lo g : Nat} {x0 x1 : Int} {w : World} {T : TypeId} (hS : Src 203 w lo b) (hg : g = w.heap.size) (h0 : I64 x0) (h1 : I64 x1) :
    Calls Tryz.prog 191 #[.pointer (some ⟨b, 0, none⟩), .slice (some ⟨g, 0, none⟩) 2 2] (w.alloc (.cells #[.int .i64 x0, .int .i64 x1] T)) fun e w' => ∃ r, e = .returned (.int .i64 r) ∧ (r = x0 ∨ r = x1) ∧ I64 r ∧ Dw 203 lo b w w' :=
  (dw_pick (m := 2) (l := [x0, x1]) hS hg rfl rfl (by decide) (by decide) (by simp [h0, h1])).mono fun e w' ⟨r, a, h, c⟩ => ⟨r, a, by simpa using h, c⟩
theorem dw_pick3 {b lo g : Nat} {x0 x1 x2 : Int} {w : World} {T : TypeId} (hS : Src 203 w lo b) (hg : g = w.heap.size) (h0 : I64 x0) (h1 : I64 x1) (h2 : I64 x2) :
    Calls Tryz.prog 191 #[.pointer (some ⟨b, 0, none⟩), .slice (some ⟨g, 0, none⟩) 3 3] (w.alloc (.cells #[.int .i64 x0, .int .i64 x1, .int .i64 x2] T)) fun e w' => ∃ r, e = .returned (.int .i64 r) ∧ (r = x0 ∨ r = x1 ∨ r = x2) ∧ I64 r ∧ Dw 203 lo b w w' :=
  (dw_pick (m := 3) (l := [x0, x1, x2]) hS hg rfl rfl (by decide) (by decide) (by simp [h0, h1, h2])).mono fun e w' ⟨r, a, h, c⟩ => ⟨r, a, by simpa using h, c⟩
theorem dw_pick4 {b lo g : Nat} {x0 x1 x2 x3 : Int} {w : World} {T : TypeId} (hS : Src 203 w lo b) (hg : g = w.heap.size) (h0 : I64 x0) (h1 : I64 x1) (h2 : I64 x2) (h3 : I64 x3) :
    Calls Tryz.prog 191 #[.pointer (some ⟨b, 0, none⟩), .slice (some ⟨g, 0, none⟩) 4 4] (w.alloc (.cells #[.int .i64 x0, .int .i64 x1, .int .i64 x2, .int .i64 x3] T)) fun e w' => ∃ r, e = .returned (.int .i64 r) ∧ (r = x0 ∨ r = x1 ∨ r = x2 ∨ r = x3) ∧ I64 r ∧ Dw 203 lo b w w' :=
  (dw_pick (m := 4) (l := [x0, x1, x2, x3]) hS hg rfl rfl (by decide) (by decide) (by simp [h0, h1, h2, h3])).mono fun e w' ⟨r, a, h, c⟩ => ⟨r, a, by simpa using h, c⟩
theorem dw_pick5 {b lo g : Nat} {x0 x1 x2 x3 x4 : Int} {w : World} {T : TypeId} (hS : Src 203 w lo b) (hg : g = w.heap.size) (h0 : I64 x0) (h1 : I64 x1) (h2 : I64 x2) (h3 : I64 x3) (h4 : I64 x4) :
    Calls Tryz.prog 191 #[.pointer (some ⟨b, 0, none⟩), .slice (some ⟨g, 0, none⟩) 5 5] (w.alloc (.cells #[.int .i64 x0, .int .i64 x1, .int .i64 x2, .int .i64 x3, .int .i64 x4] T)) fun e w' => ∃ r, e = .returned (.int .i64 r) ∧ (r = x0 ∨ r = x1 ∨ r = x2 ∨ r = x3 ∨ r = x4) ∧ I64 r ∧ Dw 203 lo b w w' :=
  (dw_pick (m := 5) (l := [x0, x1, x2, x3, x4]) hS hg rfl rfl (by decide) (by decide) (by simp [h0, h1, h2, h3, h4])).mono fun e w' ⟨r, a, h, c⟩ => ⟨r, a, by simpa using h, c⟩
/-- 'append(out, x)' of one int64, the literal laid just before -/
theorem app1 {P : Program} {w w0 : World} {T : TypeId} {lo b : Nat} {ops : Array Oper} {rest : List Oper} {o : Oper} {act : Act} {Q : Exit → Act → World → Prop} {z : Int} {t e : TypeId} (hgd : o.guard = none) (s x : Operand)
    (ho : o.op = .call { callee := .builtin .append, args := #[s, x], argTypes := #[t, t] }) (ht : P.underlying t = some (.slice e)) (hinfo : (P.info? e).map (fun i => (i.zero, i.size, i.bytes)) = some (some (.int .i64 0), 1, 8))
    (base : Nat) (a : Option Addr) (n c : Nat) (l : List Int) (hown : OwnI e w base a n c l) (hs : act.eval s = .slice a n c) (gx : Nat) (hx : act.eval x = .slice (some ⟨gx, 0, none⟩) 1 1) (hg : gx = w.heap.size) (hzw : I64 z)
    (hn : n ≤ 4194304) (hD : Dw T lo b w0 w) (hw0 : w0.heap.size ≤ base) (hbase : base ≤ w.heap.size)
    (K : ∀ a' c' w', OwnI e w' base a' (n + 1) c' (l ++ [z]) → Below base w w' → Dw T lo b w0 w' → wpList P ops Q rest (act.put o.dst (.slice a' (n + 1) c')) w') : wpList P ops Q (o :: rest) act (w.alloc (.cells #[.int .i64 z] e)) := by
  subst hg
  have hb0 : Below w.heap.size w (w.alloc (.cells #[.int .i64 z] e)) := (Below.refl _ _).alloc (Nat.le_refl _) _
  refine append1_i64 hgd s x t e ho ht hinfo base a n c l (hown.keep hb0) hs w.heap.size z hx (by simp) hzw hn (by simp; omega) ?_
  intro a' c' w' h1 h2 h3
  have h4 : Below base w w' := (hb0.mono hbase).trans h2
  exact K a' c' w' h1 h4 (hD.own h4 hw0)
theorem lit_flats {α : Type} {k : Nat} {enc : α → List Value} {ok : α → Prop} (w : World) (T : TypeId) (l : List α) (cs : Array Value) (hk : ∀ x, (enc x).length = k) (h0 : 0 < k) (hcs : cs = (l.flatMap enc).toArray) (hl : ∀ x ∈ l, ok x) :
    Flats k enc ok (w.alloc (.cells cs T)) (some ⟨w.heap.size, 0, none⟩) l.length l.length l := by
  subst hcs
  refine ⟨rfl, Nat.le_refl _, .inr ⟨w.heap.size, 0, rfl, by simp, fun i x hx j v hv => ?_⟩, hl, fun h => by cases h⟩
  have := (Blk.made w (l.flatMap enc).toArray T).cell (i * k + j)
  rw [Nat.zero_add, this]
  have h1 := flat_get hk hx hv
  simpa using h1
/-- 'append(out, x..)' of records, the literal laid just before -/
theorem appF {α : Type} {k m : Nat} {enc : α → List Value} {ok : α → Prop} {zv : Value} {by' : Nat} {P : Program} {w w0 : World} {T : TypeId} {lo b : Nat} {ops : Array Oper} {rest : List Oper} {o : Oper} {act : Act} {Q : Exit → Act → World → Prop} {cs : Array Value} {t e : TypeId} (hgd : o.guard = none) (s x : Operand)
    (ho : o.op = .call { callee := .builtin .append, args := #[s, x], argTypes := #[t, t] }) (ht : P.underlying t = some (.slice e)) (hinfo : (P.info? e).map (fun i => (i.zero, i.size, i.bytes)) = some (some zv, k, by'))
    (hzs : zv.cells.size = k) (hk : 0 < k) (hby : by' ≤ 128) (hone : ∀ y : α, ∀ u ∈ enc y, u.oneCell' = true)
    (base : Nat) (a : Option Addr) (n c : Nat) (l l2 : List α) (hown : OwnF k enc ok e w base a n c l) (hs : act.eval s = .slice a n c) (gx : Nat) (hx : act.eval x = .slice (some ⟨gx, 0, none⟩) m m) (hg : gx = w.heap.size) (hcs : cs = (l2.flatMap enc).toArray) (hl2 : l2.length = m) (hok2 : ∀ x ∈ l2, ok x)
    (hn : n ≤ 4194304) (hm : m ≤ 100) (hD : Dw T lo b w0 w) (hw0 : w0.heap.size ≤ base) (hbase : base ≤ w.heap.size)
    (K : ∀ a' c' w', OwnF k enc ok e w' base a' (n + m) c' (l ++ l2) → Below base w w' → Dw T lo b w0 w' → wpList P ops Q rest (act.put o.dst (.slice a' (n + m) c')) w') : wpList P ops Q (o :: rest) act (w.alloc (.cells cs e)) := by
  subst hg hl2
  have hb0 : Below w.heap.size w (w.alloc (.cells cs e)) := (Below.refl _ _).alloc (Nat.le_refl _) _
  refine appendL_F hgd s x t e ho ht hinfo hzs hk hby hone base a n c l (hown.keep hb0) hs _ _ _ l2 hx (lit_flats w e l2 cs hown.2.2.2 hk hcs hok2) hn (by omega) (by simp; omega) ?_
  intro a' c' w' h1 h2 h3 _
  have h4 : Below base w w' := (hb0.mono hbase).trans h2
  exact K a' c' w' h1 h4 (hD.own h4 hw0)
theorem appI3 {zv : Value} {by' : Nat} {P : Program} {w w0 : World} {T : TypeId} {lo b : Nat} {ops : Array Oper} {rest : List Oper} {o : Oper} {act : Act} {Q : Exit → Act → World → Prop} {x0 x1 x2 : Int} {t e : TypeId} (hgd : o.guard = none) (s x : Operand)
    (ho : o.op = .call { callee := .builtin .append, args := #[s, x], argTypes := #[t, t] }) (ht : P.underlying t = some (.slice e)) (hinfo : (P.info? e).map (fun i => (i.zero, i.size, i.bytes)) = some (some zv, 3, by'))
    (hzs : zv.cells.size = 3) (hby : by' ≤ 128) (base : Nat) (a : Option Addr) (n c : Nat) (l : List I3) (hown : OwnF 3 I3.enc I3.ok e w base a n c l) (hs : act.eval s = .slice a n c) (gx : Nat) (hx : act.eval x = .slice (some ⟨gx, 0, none⟩) 1 1) (hg : gx = w.heap.size) (h0 : I64 x0) (h1 : I64 x1) (h2 : I64 x2)
    (hn : n ≤ 4194304) (hD : Dw T lo b w0 w) (hw0 : w0.heap.size ≤ base) (hbase : base ≤ w.heap.size)
    (K : ∀ a' c' w', OwnF 3 I3.enc I3.ok e w' base a' (n + 1) c' (l ++ [⟨x0, x1, x2⟩]) → Below base w w' → Dw T lo b w0 w' → wpList P ops Q rest (act.put o.dst (.slice a' (n + 1) c')) w') : wpList P ops Q (o :: rest) act (w.alloc (.cells #[.int .i64 x0, .int .i64 x1, .int .i64 x2] e)) :=
  appF (m := 1) (l2 := [⟨x0, x1, x2⟩]) hgd s x ho ht hinfo hzs (by decide) hby I3.one base a n c l hown hs gx hx hg rfl rfl (by intro y hy; simp at hy; subst hy; exact ⟨h0, h1, h2⟩) hn (by decide) hD hw0 hbase K
theorem appI3x2 {zv : Value} {by' : Nat} {P : Program} {w w0 : World} {T : TypeId} {lo b : Nat} {ops : Array Oper} {rest : List Oper} {o : Oper} {act : Act} {Q : Exit → Act → World → Prop} {x0 x1 x2 y0 y1 y2 : Int} {t e : TypeId} (hgd : o.guard = none) (s x : Operand)
    (ho : o.op = .call { callee := .builtin .append, args := #[s, x], argTypes := #[t, t] }) (ht : P.underlying t = some (.slice e)) (hinfo : (P.info? e).map (fun i => (i.zero, i.size, i.bytes)) = some (some zv, 3, by'))
    (hzs : zv.cells.size = 3) (hby : by' ≤ 128) (base : Nat) (a : Option Addr) (n c : Nat) (l : List I3) (hown : OwnF 3 I3.enc I3.ok e w base a n c l) (hs : act.eval s = .slice a n c) (gx : Nat) (hx : act.eval x = .slice (some ⟨gx, 0, none⟩) 2 2) (hg : gx = w.heap.size) (h0 : I64 x0) (h1 : I64 x1) (h2 : I64 x2) (h3 : I64 y0) (h4 : I64 y1) (h5 : I64 y2)
    (hn : n ≤ 4194304) (hD : Dw T lo b w0 w) (hw0 : w0.heap.size ≤ base) (hbase : base ≤ w.heap.size)
    (K : ∀ a' c' w', OwnF 3 I3.enc I3.ok e w' base a' (n + 2) c' (l ++ [⟨x0, x1, x2⟩, ⟨y0, y1, y2⟩]) → Below base w w' → Dw T lo b w0 w' → wpList P ops Q rest (act.put o.dst (.slice a' (n + 2) c')) w') : wpList P ops Q (o :: rest) act (w.alloc (.cells #[.int .i64 x0, .int .i64 x1, .int .i64 x2, .int .i64 y0, .int .i64 y1, .int .i64 y2] e)) :=
  appF (m := 2) (l2 := [⟨x0, x1, x2⟩, ⟨y0, y1, y2⟩]) hgd s x ho ht hinfo hzs (by decide) hby I3.one base a n c l hown hs gx hx hg rfl rfl (by intro y hy; simp at hy; rcases hy with rfl | rfl; exact ⟨h0, h1, h2⟩; exact ⟨h3, h4, h5⟩) hn (by decide) hD hw0 hbase K
theorem appI2 {zv : Value} {by' : Nat} {P : Program} {w w0 : World} {T : TypeId} {lo b : Nat} {ops : Array Oper} {rest : List Oper} {o : Oper} {act : Act} {Q : Exit → Act → World → Prop} {x0 x1 : Int} {t e : TypeId} (hgd : o.guard = none) (s x : Operand)
    (ho : o.op = .call { callee := .builtin .append, args := #[s, x], argTypes := #[t, t] }) (ht : P.underlying t = some (.slice e)) (hinfo : (P.info? e).map (fun i => (i.zero, i.size, i.bytes)) = some (some zv, 2, by'))
    (hzs : zv.cells.size = 2) (hby : by' ≤ 128) (base : Nat) (a : Option Addr) (n c : Nat) (l : List I2) (hown : OwnF 2 I2.enc I2.ok e w base a n c l) (hs : act.eval s = .slice a n c) (gx : Nat) (hx : act.eval x = .slice (some ⟨gx, 0, none⟩) 1 1) (hg : gx = w.heap.size) (h0 : I64 x0) (h1 : I64 x1)
    (hn : n ≤ 4194304) (hD : Dw T lo b w0 w) (hw0 : w0.heap.size ≤ base) (hbase : base ≤ w.heap.size)
    (K : ∀ a' c' w', OwnF 2 I2.enc I2.ok e w' base a' (n + 1) c' (l ++ [⟨x0, x1⟩]) → Below base w w' → Dw T lo b w0 w' → wpList P ops Q rest (act.put o.dst (.slice a' (n + 1) c')) w') : wpList P ops Q (o :: rest) act (w.alloc (.cells #[.int .i64 x0, .int .i64 x1] e)) :=
  appF (m := 1) (l2 := [⟨x0, x1⟩]) hgd s x ho ht hinfo hzs (by decide) hby I2.one base a n c l hown hs gx hx hg rfl rfl (by intro y hy; simp at hy; subst hy; exact ⟨h0, h1⟩) hn (by decide) hD hw0 hbase K
end Go.Proofs.YtkaikbaagajckaaGreat
namespace Go.Proofs.YtkaikbaagajckaaGreat
open Go.RowKit
set_option linter.unusedVariables false
set_option linter.unusedSimpArgs false
theorem OwnF.lit {α : Type} {k m : Nat} {enc : α → List Value} {ok : α → Prop} {E : TypeId} {base : Nat} {cs : Array Value} (w : World) (l : List α) (h : base ≤ w.heap.size) (hm : l.length = m) (h9 : m ≤ 1048576) (hk : ∀ x, (enc x).length = k) (hz : ∀ x ∈ l, ok x) (hc : cs = (l.flatMap enc).toArray) : OwnF k enc ok E (w.alloc (.cells cs E)) base (some ⟨w.heap.size, 0, none⟩) m m l := by
  subst hc hm
  refine ⟨?_, hz, rfl, hk⟩
  have hl : (l.flatMap enc).length = l.length * k := by
    clear hz h9 
    induction l with
    | nil => simp
    | cons y r ih => rw [List.flatMap_cons, List.length_append, hk, ih, List.length_cons, Nat.succ_mul, Nat.add_comm]
  have := World.ownsRow_lit (base := base) (e := E) (size := k) w (l.flatMap enc).toArray l.length h (by unfold maxLen; omega) (by simp [hl])
  simpa using this
theorem OwnF.litB {α : Type} {k m g : Nat} {enc : α → List Value} {ok : α → Prop} {E : TypeId} {base : Nat} {cs : Array Value} {w w' : World} (l : List α) (hb : Below (w.alloc (.cells cs E)).heap.size (w.alloc (.cells cs E)) w') (hg : g = w.heap.size) (h : base ≤ w.heap.size) (hm : l.length = m) (h9 : m ≤ 1048576) (hk : ∀ x, (enc x).length = k) (hz : ∀ x ∈ l, ok x) (hc : cs = (l.flatMap enc).toArray) : OwnF k enc ok E w' base (some ⟨g, 0, none⟩) m m l := by
  subst hg; exact (OwnF.lit w l h hm h9 hk hz hc).keep hb
theorem OwnF.litB2 {α : Type} {k m g : Nat} {enc : α → List Value} {ok : α → Prop} {E : TypeId} {base : Nat} {cs : Array Value} {o : Obj} {w w' : World} (l : List α) (hb : Below ((w.alloc (.cells cs E)).alloc o).heap.size ((w.alloc (.cells cs E)).alloc o) w') (hg : g = w.heap.size) (h : base ≤ w.heap.size) (hm : l.length = m) (h9 : m ≤ 1048576) (hk : ∀ x, (enc x).length = k) (hz : ∀ x ∈ l, ok x) (hc : cs = (l.flatMap enc).toArray) : OwnF k enc ok E w' base (some ⟨g, 0, none⟩) m m l := by
  subst hg; exact ((OwnF.lit w l h hm h9 hk hz hc).keep ((Below.refl _ _).alloc (Nat.le_refl _) o)).keep hb
/-- 'append(out, xs...)' of records to a slice of the call's own, and where the new slice lies -/
theorem appAtS {α : Type} {k : Nat} {enc : α → List Value} {ok : α → Prop} {z : Value} {by' : Nat} {P : Program} {w : World} {ops : Array Oper} {rest : List Oper} {o : Oper} {act : Act} {Q : Exit → Act → World → Prop} (hgd : o.guard = none) (s x : Operand) (t e : TypeId)
    (ho : o.op = .call { callee := .builtin .append, args := #[s, x], argTypes := #[t, t] }) (ht : P.underlying t = some (.slice e)) (hinfo : (P.info? e).map (fun i => (i.zero, i.size, i.bytes)) = some (some z, k, by'))
    (hzs : z.cells.size = k) (hk : 0 < k) (hby : by' ≤ 128) (hone : ∀ y : α, ∀ u ∈ enc y, u.oneCell' = true)
    (base : Nat) (a : Option Addr) (n c : Nat) (l : List α) (hown : OwnF k enc ok e w base a n c l) (hs : act.eval s = .slice a n c) (a2 : Option Addr) (m c2 : Nat) (l2 : List α) (hx : act.eval x = .slice a2 m c2) (hsrc : Flats k enc ok w a2 m c2 l2)
    (h0 : 0 < m) (hn : n ≤ 4194304) (hm : m ≤ 4194304) (hbase : base ≤ w.heap.size)
    (K : ∀ g' c' w', OwnF k enc ok e w' base (some ⟨g', 0, none⟩) (n + m) c' (l ++ l2) → Below base w w' → w.grownBy w' (Value.slice a n c).ownBlock → (a = some ⟨g', 0, none⟩ ∨ g' = w.heap.size) → wpList P ops Q rest (act.put o.dst (.slice (some ⟨g', 0, none⟩) (n + m) c')) w') : wpList P ops Q (o :: rest) act w := by
  obtain ⟨i, hi, hz0, hz1, hz2⟩ := info_parts hinfo
  have hform : ∀ q, a = some q → ∃ g, q = ⟨g, 0, none⟩ := fun q hq => by
    rcases hown.1.2 with ⟨he, _⟩ | ⟨g, cap, cur, he, _⟩
    · simp only [Value.slice.injEq] at he; rw [hq] at he; cases he.1
    · simp only [Value.slice.injEq] at he; rw [hq] at he; exact ⟨g, Option.some.inj he.1⟩
  obtain ⟨hown1, hok, hlen, henc⟩ := hown
  have hmul : ∀ q : List α, (q.flatMap enc).length = q.length * k := fun q => by
    induction q with
    | nil => simp
    | cons y r ih => rw [List.flatMap_cons, List.length_append, ih, henc, List.length_cons, Nat.succ_mul, Nat.add_comm]
  cases a2 with
  | none =>
    obtain ⟨rfl, rfl⟩ := hsrc.nil rfl
    omega
  | some ad =>
    refine wpList_append_own_at w hgd s x t ho base e i z k by' ht hi hz0 hz1 hz2 hzs hk (.slice a n c) n _ hs hown1 ad m c2 (l2.flatMap enc) hx (by rw [hmul, hsrc.len]) ?_ ?_ (by unfold maxLen; omega) (Nat.le_trans (Nat.mul_le_mul_left (n + m) hby) (by omega)) hbase ?_
    · intro j u hj
      obtain ⟨x, h1, h2⟩ := flat_inv henc hk hj
      have hjm : j / k < m := by rw [← hsrc.len]; exact (List.getElem?_eq_some_iff.1 h1).1
      obtain ⟨b, off, he, _, hc⟩ := hsrc.pos.resolve_left (Nat.ne_of_gt (Nat.lt_of_le_of_lt (Nat.zero_le _) hjm))
      simp only [Option.some.injEq] at he
      subst he
      have e1 : (⟨b, off, none⟩ : Addr).add j = ⟨b, off + j, none⟩ := by by_cases h0 : j = 0 <;> simp [Addr.add, h0]
      have := hc _ x h1 _ u h2
      rw [Nat.add_assoc, Nat.mul_comm, Nat.div_add_mod] at this
      rw [e1]; exact this
    · intro u hu
      obtain ⟨y, _, hy⟩ := List.mem_flatMap.1 hu
      exact hone y u hy
    · intro v' w' hown' hg hnil hat
      have hfm := Joins.ownsRow_forms hown'
      have hb : Below base w w' := (Below.refl _ _).grown hg hbase fun q hq => (hown1.lt q hq).1
      have hmap : l.flatMap enc ++ l2.flatMap enc = (l ++ l2).flatMap enc := (List.flatMap_append ..).symm
      have hw : ∀ y ∈ l ++ l2, ok y := fun y hy => by
        rcases List.mem_append.1 hy with h | h
        · exact hok y h
        · exact hsrc.wf y h
      have hll : (l ++ l2).length = n + m := by rw [List.length_append, hlen, hsrc.len]
      rw [hmap] at hown'
      rcases hfm with ⟨_, h0'⟩ | ⟨g, cap, hv⟩
      · omega
      · rw [hv] at hown' hat ⊢
        refine K _ _ _ ⟨hown', hw, hll, henc⟩ hb hg ?_
        rcases hat with h | h
        · cases a with
          | none => simp [Value.ownBlock] at h
          | some q =>
            obtain ⟨g', rfl⟩ := hform q rfl
            simp [Value.ownBlock] at h
            exact .inl (by rw [h])
        · simp [Value.ownBlock] at h
          exact .inr h
/-- the same for a literal laid just before -/
theorem appAtL {α : Type} {k m : Nat} {enc : α → List Value} {ok : α → Prop} {zv : Value} {by' : Nat} {P : Program} {w : World} {ops : Array Oper} {rest : List Oper} {o : Oper} {act : Act} {Q : Exit → Act → World → Prop} {cs : Array Value} {t e : TypeId} (hgd : o.guard = none) (s x : Operand)
    (ho : o.op = .call { callee := .builtin .append, args := #[s, x], argTypes := #[t, t] }) (ht : P.underlying t = some (.slice e)) (hinfo : (P.info? e).map (fun i => (i.zero, i.size, i.bytes)) = some (some zv, k, by'))
    (hzs : zv.cells.size = k) (hk : 0 < k) (hby : by' ≤ 128) (hone : ∀ y : α, ∀ u ∈ enc y, u.oneCell' = true)
    (base : Nat) (a : Option Addr) (n c : Nat) (l l2 : List α) (hown : OwnF k enc ok e w base a n c l) (hs : act.eval s = .slice a n c) (gx : Nat) (hx : act.eval x = .slice (some ⟨gx, 0, none⟩) m m) (hg : gx = w.heap.size) (hcs : cs = (l2.flatMap enc).toArray) (hl2 : l2.length = m) (hok2 : ∀ x ∈ l2, ok x)
    (h0 : 0 < m) (hn : n ≤ 4194304) (hm : m ≤ 100) (hbase : base ≤ w.heap.size)
    (K : ∀ g' c' w', OwnF k enc ok e w' base (some ⟨g', 0, none⟩) (n + m) c' (l ++ l2) → Below base w w' → w.grownBy w' (Value.slice a n c).ownBlock → (a = some ⟨g', 0, none⟩ ∨ g' = w.heap.size + 1) → w.heap.size + 1 ≤ w'.heap.size → wpList P ops Q rest (act.put o.dst (.slice (some ⟨g', 0, none⟩) (n + m) c')) w') : wpList P ops Q (o :: rest) act (w.alloc (.cells cs e)) := by
  subst hg hl2
  have hb0 : Below w.heap.size w (w.alloc (.cells cs e)) := (Below.refl _ _).alloc (Nat.le_refl _) _
  refine appAtS hgd s x t e ho ht hinfo hzs hk hby hone base a n c l (hown.keep hb0) hs _ _ _ l2 hx (lit_flats w e l2 cs hown.2.2.2 hk hcs hok2) h0 hn (by omega) (by simp; omega) ?_
  intro g' c' w' h1 h2 h3 h4
  refine K g' c' w' h1 ((hb0.mono hbase).trans h2) (grownBy_trans (World.grownBy_alloc _ _ _) h3) ?_ ?_
  · rcases h4 with h | h
    · exact .inl h
    · exact .inr (by simpa using h)
  · have := h3.size; simpa using this
/-- the same at a step of a region that draws its order -/
theorem wp_appAtL {α : Type} {k m : Nat} {enc : α → List Value} {ok : α → Prop} {zv : Value} {by' : Nat} {P : Program} {w : World} {o : Oper} {act : Act} {K : Act → World → Prop} {Q : Exit → Act → World → Prop} {cs : Array Value} {t e : TypeId} (s x : Operand)
    (ho : o.op = .call { callee := .builtin .append, args := #[s, x], argTypes := #[t, t] }) (ht : P.underlying t = some (.slice e)) (hinfo : (P.info? e).map (fun i => (i.zero, i.size, i.bytes)) = some (some zv, k, by'))
    (hzs : zv.cells.size = k) (hk : 0 < k) (hby : by' ≤ 128) (hone : ∀ y : α, ∀ u ∈ enc y, u.oneCell' = true)
    (base : Nat) (a : Option Addr) (n c : Nat) (l l2 : List α) (hown : OwnF k enc ok e w base a n c l) (hs : act.eval s = .slice a n c) (gx : Nat) (hx : act.eval x = .slice (some ⟨gx, 0, none⟩) m m) (hB : Blk w gx cs e) (hcs : cs = (l2.flatMap enc).toArray) (hl2 : l2.length = m) (hok2 : ∀ x ∈ l2, ok x)
    (h0 : 0 < m) (hn : n ≤ 4194304) (hm : m ≤ 100) (hbase : base ≤ w.heap.size)
    (K' : ∀ g' c' w', OwnF k enc ok e w' base (some ⟨g', 0, none⟩) (n + m) c' (l ++ l2) → Below base w w' → w.grownBy w' (Value.slice a n c).ownBlock → K (act.put o.dst (.slice (some ⟨g', 0, none⟩) (n + m) c')) w') : o.wp P act w K Q := by
  subst hl2 hcs
  obtain ⟨i, hi, hz0, hz1, hz2⟩ := info_parts hinfo
  obtain ⟨hown1, hok, hlen, henc⟩ := hown
  have hmul : ∀ q : List α, (q.flatMap enc).length = q.length * k := fun q => by
    induction q with
    | nil => simp
    | cons y r ih => rw [List.flatMap_cons, List.length_append, ih, henc, List.length_cons, Nat.succ_mul, Nat.add_comm]
  refine wp_append_lies w s x t ho base e i zv k by' ht hi hz0 hz1 hz2 hzs hk (.slice a n c) n _ hs hown1 ⟨gx, 0, none⟩ l2.length l2.length (l2.flatMap enc) hx (hmul l2) ?_ ?_ h0 (by unfold maxLen; omega) (Nat.le_trans (Nat.mul_le_mul_left (n + l2.length) hby) (by omega)) hbase w.heap.size rfl ?_
  · intro j u hj
    have e1 : (⟨gx, 0, none⟩ : Addr).add j = ⟨gx, j, none⟩ := by by_cases h0 : j = 0 <;> simp [Addr.add, h0]
    rw [e1, hB.cell]
    simpa using hj
  · intro u hu
    obtain ⟨y, _, hy⟩ := List.mem_flatMap.1 hu
    exact hone y u hy
  · intro g cap w' h1 h2 h3 h4
    rw [← List.flatMap_append] at h1
    refine K' g cap w' ⟨h1, fun y hy => ?_, by rw [List.length_append, hlen], henc⟩ ((Below.refl _ _).grown h2 hbase fun q hq => (hown1.lt q hq).1) h2
    rcases List.mem_append.1 hy with h | h
    · exact hok y h
    · exact hok2 y h
end Go.Proofs.YtkaikbaagajckaaGreat
namespace Go.Proofs.YtkaikbaagajckaaGreat
open Go.RowKit
set_option linter.unusedVariables false
set_option linter.unusedSimpArgs false
def enc1 (x : Int) : List Value := [.int .i64 x]
theorem flat_enc1 (l : List Int) : l.flatMap enc1 = l.map (Value.int .i64) := by
  induction l with
  | nil => rfl
  | cons x r ih => rw [List.flatMap_cons, ih]; rfl
theorem OwnI.f1 {E : TypeId} {w : World} {base : Nat} {a : Option Addr} {n c : Nat} {l : List Int} (h : OwnI E w base a n c l) : OwnF 1 enc1 I64 E w base a n c l := by
  refine ⟨?_, h.2, h.len, fun _ => rfl⟩
  rw [flat_enc1]; exact h.1
theorem OwnF.i1 {E : TypeId} {w : World} {base : Nat} {a : Option Addr} {n c : Nat} {l : List Int} (h : OwnF 1 enc1 I64 E w base a n c l) : OwnI E w base a n c l := by
  have h1 := h.1
  rw [flat_enc1] at h1
  exact ⟨h1, h.2.1⟩
theorem own_block {E : TypeId} {k : Nat} {w : World} {base : Nat} {a : Option Addr} {n c m : Nat} {l : List Value} (h : w.ownsRow base E k (.slice a n c) m l) : ∀ b, (Value.slice a n c).ownBlock = some b → a = some ⟨b, 0, none⟩ := fun b e => by
  rcases h.2 with ⟨he, _⟩ | ⟨g, cap, cur, he, _⟩
  · simp only [Value.slice.injEq] at he
    rw [he.1] at e; simp [Value.ownBlock] at e
  · simp only [Value.slice.injEq] at he
    obtain ⟨rfl, _⟩ := he
    simp [Value.ownBlock] at e; rw [e]
theorem Blk.keepA {w w' : World} {b : Nat} {cs : Array Value} {T : TypeId} {n : Nat} {a : Option Addr} (h : Blk w b cs T) (ht : Touch w w' n a) (hne : a = some ⟨b, 0, none⟩ → False) : Blk w' b cs T := by
  obtain ⟨r, hg, hr⟩ := ht
  exact h.keepG hg fun e => hne (hr _ e).2
/-- a block of another type is not the slice's -/
theorem blk_ne {w : World} {b : Nat} {cs : Array Value} {T E : TypeId} {a : Option Addr} (h : Blk w b cs T) (ht : ∀ {g : Nat}, a = some ⟨g, 0, none⟩ → ∃ cur, w.heap[g]? = some (.cells cur E (0, 0))) (hE : E ≠ T) : a = some ⟨b, 0, none⟩ → False := fun e => by
  obtain ⟨cur, h1⟩ := ht e
  rw [Blk] at h
  rw [h] at h1
  simp only [Option.some.injEq, Obj.cells.injEq] at h1
  exact hE h1.2.1.symm
theorem appI1 {P : Program} {w : World} {ops : Array Oper} {rest : List Oper} {o : Oper} {act : Act} {Q : Exit → Act → World → Prop} {z : Int} {t e : TypeId} (hgd : o.guard = none) (s x : Operand)
    (ho : o.op = .call { callee := .builtin .append, args := #[s, x], argTypes := #[t, t] }) (ht : P.underlying t = some (.slice e)) (hinfo : (P.info? e).map (fun i => (i.zero, i.size, i.bytes)) = some (some (.int .i64 0), 1, 8))
    (base : Nat) (a : Option Addr) (n c : Nat) (l : List Int) (hown : OwnI e w base a n c l) (hs : act.eval s = .slice a n c) (gx : Nat) (hx : act.eval x = .slice (some ⟨gx, 0, none⟩) 1 1) (hg : gx = w.heap.size) (hz : I64 z)
    (hn : n ≤ 4194304) (hbase : base ≤ w.heap.size)
    (K : ∀ g' c' w', OwnI e w' base (some ⟨g', 0, none⟩) (n + 1) c' (l ++ [z]) → Below base w w' → Touch w w' 1 a → (a = some ⟨g', 0, none⟩ ∨ g' = w.heap.size + 1) → w.heap.size + 1 ≤ w'.heap.size → wpList P ops Q rest (act.put o.dst (.slice (some ⟨g', 0, none⟩) (n + 1) c')) w') : wpList P ops Q (o :: rest) act (w.alloc (.cells #[.int .i64 z] e)) := by
  refine appAtL (k := 1) (m := 1) (enc := enc1) (ok := I64) hgd s x ho ht hinfo rfl (by decide) (by decide) (fun y u hu => by simp [enc1] at hu; subst hu; rfl) base a n c l [z] hown.f1 hs gx hx hg rfl rfl (fun y hy => by simp at hy; rw [hy]; exact hz) (by decide) hn (by decide) hbase ?_
  intro g' c' w' h1 h2 h3 h4 h5
  refine K g' c' w' h1.i1 h2 ?_ h4 h5
  exact ⟨_, h3, fun b e => ⟨by decide, own_block hown.1 b e⟩⟩
end Go.Proofs.YtkaikbaagajckaaGreat
namespace Go.Proofs.YtkaikbaagajckaaGreat
open Go.RowKit
set_option linter.unusedVariables false
set_option linter.unusedSimpArgs false
theorem applyP_len : ∀ (e : List I2) (v : List Int), (applyP v e).length = v.length
  | [], v => rfl
  | a :: e, v => by
    rw [applyP, List.foldl_cons]
    have := applyP_len e (v.set a.a.toNat a.b)
    rw [applyP] at this
    rw [this, List.length_set]
theorem applyP_take {e : List I2} {v : List Int} {j : Nat} {x : I2} (h : e[j]? = some x) : applyP v (e.take (j + 1)) = (applyP v (e.take j)).set x.a.toNat x.b := by
  rw [take_at h, applyP, List.foldl_append]; rfl
set_option maxHeartbeats 2000000 in
theorem impl_apply {ga ea va : Option Addr} {gn gc en ec vn vc : Nat} {nm : ByteArray} {v : List Int} {l : List I2} {w : World} (hE : F2 w ea en ec l) (hn : en ≤ 1048576) (hV : Ints w va vn vc v) (hvn : vn ≤ 1048576) (hv : ∀ a ∈ l, 0 ≤ a.a ∧ a.a < (vn : Int)) :
    Calls Tryz.prog 161 #[.agg #[.string nm, .slice ga gn gc, .slice ea en ec], .slice va vn vc] w fun e w' => ∃ a c, e = .returned (.slice a vn c) ∧ OwnI 2 w' w.heap.size a vn c (applyP v l) ∧ Below w.heap.size w w' := by
  have X := Lib.hid (Blk.made w #[.string nm, .slice ga gn gc, .slice ea en ec] 149)
  have hbA : Below w.heap.size w (w.alloc (.cells #[.string nm, .slice ga gn gc, .slice ea en ec] 149)) := bel
  have HE := Lib.hid hE
  have HV := Lib.hid hV
  have HVT := Lib.hid hv
  have HLE := Lib.hid hE.len
  have HLV := Lib.hid hV.len
  clear hE hV hv
  go_enter Tryz.func161, Tryz.ntmps161
  go_wp2_with fail
  refine Calls.mono (slices_Clone_i64 (HV.out.keep hbA) hvn) ?_
  rintro e w1 ⟨a1, c1, rfl, hb1, ho1, hnl⟩
  have hs1 := hb1.size
  simp at hs1
  have hX := X.out.keep hb1
  have x2 := hX.cell 2
  have xl := hX.lt
  simp at x2
  have hbl1 : Below w.heap.size w w1 := bel
  have O := Lib.hid (ho1.le (show w.heap.size + 1 ≤ _ by simp))
  clear ho1 hb1 hnl hX
  go_wp2_with fail
  clear x2 xl
  go_loopw [13] (fun s13 wr => ∃ j : Nat, s13 = .int .i64 j ∧ j ≤ en ∧ w.heap.size + 1 ≤ wr.heap.size ∧ Below w.heap.size w wr ∧ Hid (OwnI 2 wr (w.heap.size + 1) a1 vn c1 (applyP v (l.take j)))) (fun s13 _ => en - (intOf s13).toNat)
  case atStart => exact ⟨0, rfl, by omega, hs1, hbl1, O⟩
  case round =>
    clear O hbl1 hs1
    obtain ⟨j, rfl, hj, hsr, hbl, O⟩ := hrel
    by_cases hlt : j < en
    · have hlt' : (j : Int) < (en : Int) := by omega
      have hj0 : (0 : Int) ≤ (j : Int) := by omega
      obtain ⟨b, off, x, rfl, hb, hx, hxo, c0, c1'⟩ := F2.get (HE.out.keep hbl) hlt
      have hxv := HVT.out x (List.mem_of_getElem? hx)
      have Hx := Lib.hid hx
      obtain ⟨xa, xb⟩ := x
      simp only at hxv c0 c1'
      obtain ⟨q, rfl⟩ := Int.eq_ofNat_of_zero_le hxv.1
      have hq : q < vn := by omega
      have hq' : (q : Int) < (vn : Int) := by omega
      obtain ⟨g, rfl⟩ := O.out.shape (by omega)
      have O2 := Lib.hid (O.out.keep (show Below wr.heap.size wr (wr.alloc (.cells #[.int .i64 (q : Int), .int .i64 xb] 199)) from bel))
      obtain ⟨y, hy, hyo, hcell⟩ := O2.out.cell hq
      have hfz := O2.out.free
      have hgl := (O2.out.lt).2
      have hxo2 := hxo.2
      clear hx hy hxo hyo hxv
      go_wp2
      go_roundw
      case rel =>
        refine ⟨j + 1, by go_num, by omega, by simp; omega, ?_, Lib.hid ?_⟩
        · have hh := (O2.out.lt).1
          exact bel
        · rw [applyP_take Hx.out]
          exact O2.out.set q hxo2
      case measure => simp [intOf]; omega
    · obtain rfl : en = j := by omega
      have hlt' : ¬ (en : Int) < (en : Int) := by omega
      have hO := O.out
      rw [List.take_of_length_le (by rw [HLE.out]; exact Nat.le_refl _)] at hO
      have HO := Lib.hid hO
      clear hO O
      go_wp2
      go_ret
      exact ⟨_, _, rfl, HO.out.le (by omega), hbl⟩
end Go.Proofs.YtkaikbaagajckaaGreat
namespace Go.Proofs.YtkaikbaagajckaaGreat
open Go.RowKit
set_option linter.unusedVariables false
set_option linter.unusedSimpArgs false
def byL (v : List Int) (n j : Nat) : Array Value := ((v.take j).map (fun x => Value.int .u8 x) ++ List.replicate (n - j) (Value.int .u8 0)).toArray
theorem byL_zero (v : List Int) (n : Nat) : byL v n 0 = (List.replicate n (Value.int .u8 0)).toArray := by simp [byL]
theorem byL_set {v : List Int} {n j : Nat} {x : Int} (hx : v[j]? = some x) (hn : v.length = n) : (byL v n j).setIfInBounds j (.int .u8 x) = byL v n (j + 1) := by
  have h := set_fill (l := v.map (fun x => Value.int .u8 x)) (k := j) (x := .int .u8 x) (z := .int .u8 0) (by rw [List.getElem?_map, hx]; rfl) n (by simpa using hn)
  rw [byL, byL, List.setIfInBounds_toArray, List.map_take, List.map_take, h]
theorem byL_size {v : List Int} {n j : Nat} (hn : v.length = n) (hj : j ≤ n) : (byL v n j).size = n := by simp [byL]; omega
theorem byL_at {v : List Int} {n j : Nat} (hn : v.length = n) (hj : j < n) : (byL v n j)[j]? = some (.int .u8 0) := by
  simp only [byL, List.getElem?_toArray]
  have hl : (List.map (fun x => Value.int .u8 x) (v.take j)).length = j := by simp; omega
  rw [List.getElem?_append_right (by omega), hl, Nat.sub_self, List.getElem?_replicate, if_pos (by omega)]
theorem strOf_keyL {v : List Int} (hv : ∀ x ∈ v, 0 ≤ x ∧ x < 256) : strOfNums v = ⟨(keyL v).toArray⟩ := by
  simp [strOfNums, keyL]
theorem Tryz.infou8b : (Tryz.prog.info? 5).map (fun i => (i.zero, i.size, i.bytes)) = some (some (.int .u8 0), 1, 1) := by kernel_rfl
theorem mkB (n : Nat) (hn : n ≤ 1048576) (w : World) : (Instr.makeSlice 52 (.int .i64 (n : Int)) (.int .i64 (n : Int))).run Tryz.prog w = .ok (.slice (some ⟨w.heap.size, 0, none⟩) n n) (w.alloc (.cells (List.replicate n (Value.int .u8 0)).toArray 5)) := by
  obtain ⟨i0, hi, hz0, hz1, hz2⟩ := info_parts Tryz.infou8b
  have h := run_make (P := Tryz.prog) w 52 5 i0 (.int .u8 0) Tryz.underlying52 hi hz0 .i64 .i64 (n : Int) (n : Int) (by omega) (by omega) (by rw [hz2]; omega) (by omega)
  rw [hz1, Nat.mul_one] at h
  rw [h, Int.toNat_natCast, show madeCells (Value.cells (.int .u8 0)) n = (List.replicate n (Value.int .u8 0)).toArray from ?_]
  rw [show Value.cells (.int .u8 0) = #[.int .u8 0] from rfl]
  apply Array.toList_inj.1
  rw [toList_madeCells_one]
set_option maxHeartbeats 2000000 in
theorem impl_stateKey {va : Option Addr} {vn vc : Nat} {v : List Int} {w : World} (hV : Ints w va vn vc v) (hvn : vn ≤ 1048576) (hv : ∀ x ∈ v, 0 ≤ x ∧ x < 256) :
    Calls Tryz.prog 183 #[.slice va vn vc] w fun e w' => e = .returned (.string ⟨(keyL v).toArray⟩) ∧ Below w.heap.size w w' := by
  have hmk := mkB vn hvn w
  have B0 : Blk (w.alloc (.cells (List.replicate vn (Value.int .u8 0)).toArray 5)) w.heap.size (byL v vn 0) 5 := by rw [byL_zero]; exact Blk.made w _ _
  obtain ⟨wA, hwA⟩ : ∃ wA : World, wA = w.alloc (.cells (List.replicate vn (Value.int .u8 0)).toArray 5) := ⟨_, rfl⟩
  have hbA : Below w.heap.size w wA := by rw [hwA]; exact bel
  have hsA : w.heap.size + 1 ≤ wA.heap.size := by rw [hwA]; simp
  rw [← hwA] at hmk B0
  have HV := Lib.hid hV
  have HVT := Lib.hid hv
  have HLV := Lib.hid hV.len
  have O := Lib.hid B0
  clear hV hv hwA B0
  go_enter Tryz.func183, Tryz.ntmps183
  go_wp2
  clear hmk
  go_loopw [11] (fun s11 wr => ∃ j : Nat, s11 = .int .i64 j ∧ j ≤ vn ∧ w.heap.size + 1 ≤ wr.heap.size ∧ Below w.heap.size w wr ∧ Hid (Blk wr w.heap.size (byL v vn j) 5)) (fun s11 _ => vn - (intOf s11).toNat)
  case atStart => exact ⟨0, rfl, by omega, hsA, hbA, O⟩
  case round =>
    clear O hbA hsA
    obtain ⟨j, rfl, hj, hsr, hbl, O⟩ := hrel
    by_cases hlt : j < vn
    · have hlt' : (j : Int) < (vn : Int) := by omega
      have hj0 : (0 : Int) ≤ (j : Int) := by omega
      obtain ⟨b, off, x, rfl, hb, hx, hxo, hcell⟩ := (HV.out.keep hbl).at hlt
      have hxv := HVT.out x (List.mem_of_getElem? hx)
      have Hx := Lib.hid hx
      have hsz : (byL v vn j).size = vn := byL_size HLV.out hj
      have hwr : x % 256 = x := by omega
      have hcl := (O.out.cell j).trans (byL_at HLV.out hlt)
      have hfz := O.out.free j
      have hgl := O.out.lt
      clear hx
      go_wp2
      go_roundw
      case rel =>
        refine ⟨j + 1, by go_num, by omega, by simp; omega, ?_, Lib.hid ?_⟩
        · exact bel
        · rw [← byL_set Hx.out HLV.out]
          exact O.out.set j _
      case measure => simp [intOf]; omega
    · obtain rfl : vn = j := by omega
      have hlt' : ¬ (vn : Int) < (vn : Int) := by omega
      have hcv := run_convert_bytes_arg (P := Tryz.prog) wr 52 5 Tryz.underlying52 Tryz.underlying5 w.heap.size 0 vn vn v HLV.out (by
        intro i hi
        rw [Nat.zero_add, O.out.cell i]
        simp only [byL, List.getElem?_toArray, Nat.sub_self, List.replicate_zero, List.append_nil, List.getElem?_map]
        have hlv := HLV.out
        rw [List.take_of_length_le (by omega), List.getElem?_eq_getElem (by omega), List.getD_eq_getElem?_getD, List.getElem?_eq_getElem (by omega)]
        rfl) 9 Tryz.underlying9
      rw [strOf_keyL HVT.out] at hcv
      have HO := Lib.hid O
      clear O
      go_wp2
      go_ret
      exact ⟨rfl, hbl⟩
end Go.Proofs.YtkaikbaagajckaaGreat
namespace Go.Proofs.YtkaikbaagajckaaGreat
open Go.RowKit
set_option linter.unusedVariables false
set_option linter.unusedSimpArgs false
def stateB (sz vs : List Int) : Bool := decide (vs.length = sz.length) && upB (fun i => hasB sz (i : Int) (vs.getD i 0)) vs.length
def testsB (sz : List Int) (g : List I2b) : Bool := decide (g.length ≤ 24) && g.all fun t => hasB sz t.a t.b
theorem getD_of {l : List Int} {k : Nat} {x : Int} (h : l[k]? = some x) : l.getD k 0 = x := by rw [List.getD_eq_getElem?_getD, h]; rfl
theorem stateB_ne {sz vs : List Int} (h : vs.length ≠ sz.length) : stateB sz vs = false := by rw [stateB, decide_eq_false h]; rfl
theorem stateB_eq {sz vs : List Int} (h : vs.length = sz.length) : stateB sz vs = upB (fun i => hasB sz (i : Int) (vs.getD i 0)) vs.length := by rw [stateB, decide_eq_true h, Bool.true_and]
set_option maxHeartbeats 1000000 in
theorem impl_isState {sa ta ra va : Option Addr} {sn sc tn tc rn rc vn vc : Nat} {sz vs : List Int} {w : World} (hI : Ints w sa sn sc sz) (hV : Ints w va vn vc vs) (hn : sn ≤ 1048576) (hv : vn ≤ 1048576) (hs : allIn 1 32 sz = true) :
    Calls Tryz.prog 126 #[.agg #[.slice sa sn sc, .slice ta tn tc, .slice ra rn rc], .slice va vn vc] w fun e w' => e = .returned (.bool (stateB sz vs)) ∧ Below w.heap.size w w' := by
  have hl := hI.len
  have hvl := hV.len
  have HI := Lib.hid hI
  have HV := Lib.hid hV
  have HS := Lib.hid hs
  clear hI hV hs
  by_cases hne : vn = sn
  · subst hne
    have hd : ((vn : Int) != (vn : Int)) = false := by simp
    have HB := Lib.hid (stateB_eq (sz := sz) (vs := vs) (by omega))
    have X := Lib.hid (Blk.made w #[.slice sa vn sc, .slice ta tn tc, .slice ra rn rc] 36)
    obtain ⟨wA, hwA⟩ : ∃ wA : World, wA = w.alloc (.cells #[.slice sa vn sc, .slice ta tn tc, .slice ra rn rc] 36) := ⟨_, rfl⟩
    have hbA : Below w.heap.size w wA := by rw [hwA]; exact bel
    rw [← hwA] at X
    have HwA := Lib.hid hwA
    have HL := Lib.hid hvl
    clear hwA hvl hl
    go_enter Tryz.func126, Tryz.ntmps126
    go_wp2_with fail
    rw [← HwA.out]
    clear HwA
    go_loopw [15] (fun s15 wr => ∃ k : Nat, s15 = .int .i64 k ∧ k ≤ vn ∧ Below w.heap.size w wr ∧ Hid (upB (fun i => hasB sz (i : Int) (vs.getD i 0)) k = true) ∧ Hid (Blk wr w.heap.size #[.slice sa vn sc, .slice ta tn tc, .slice ra rn rc] 36)) (fun s15 _ => vn - (intOf s15).toNat)
    case atStart => exact ⟨0, rfl, by omega, hbA, Lib.hid (upB_zero _), X⟩
    case round =>
      clear X hbA
      obtain ⟨k, rfl, hk, hbl, A, X⟩ := hrel
      by_cases hlt : k < vn
      · have hlt' : (k : Int) < (vn : Int) := by omega
        have hk0 : (0 : Int) ≤ (k : Int) := by omega
        obtain ⟨b, off, x, rfl, hb, hx, hcell, hwf⟩ := (HV.out.keep hbl).at hlt
        have Hx := Lib.hid (getD_of hx)
        clear hx
        have x0 := X.out.cell 0
        have x1 := X.out.cell 1
        have x2 := X.out.cell 2
        have xl := X.out.lt
        simp at x0 x1 x2
        have hcall := impl_has (v := (k : Int)) (x := x) (ta := ta) (tn := tn) (tc := tc) (ra := ra) (rn := rn) (rc := rc) (HI.out.keep hbl) hn HS.out
        cases hq : hasB sz (k : Int) x
        all_goals
          rw [hq] at hcall
          have HC := Lib.hid hcall
          have HQ := Lib.hid hq
          clear hcall hq
          go_wp2_with fail
          refine Calls.mono HC.out ?_
          rintro e w1 ⟨rfl, hb1⟩
          have X := Lib.hid (X.out.keep hb1)
          replace hbl : Below w.heap.size w w1 := below_callS hbl hb1
          clear hb1 x0 x1 x2 xl
        · go_wp2
          go_ret
          exact ⟨ret_bool (by rw [HB.out, HL.out, upB_false hlt (by rw [Hx.out]; exact HQ.out)]), hbl⟩
        · go_wp2_with fail
          go_roundw
          case rel => exact ⟨k + 1, by go_num, by omega, hbl, Lib.hid (upB_step A.out (by rw [Hx.out]; exact HQ.out)), X⟩
          case measure => simp [intOf]; omega
      · obtain rfl : vn = k := by omega
        have hlt' : ¬ (vn : Int) < (vn : Int) := by omega
        go_wp2
        go_ret
        exact ⟨ret_bool (by rw [HB.out, HL.out, A.out]), hbl⟩
  · have hd : ((vn : Int) != (sn : Int)) = true := by rw [bne_iff_ne]; omega
    have HB := Lib.hid (stateB_ne (sz := sz) (vs := vs) (by omega))
    clear hne hl hvl
    go_enter Tryz.func126, Tryz.ntmps126
    go_wp2
    go_ret
    exact ⟨ret_bool HB.out.symm, bel⟩
set_option maxHeartbeats 1000000 in
theorem spec_l20State {sa ta ra va : Option Addr} {sn sc tn tc rn rc vn vc : Nat} {sz vs : List Int} {w : World} (hI : Ints w sa sn sc sz) (hV : Ints w va vn vc vs) (hn : sn ≤ 1048576) (hv : vn ≤ 1048576) (hs : allIn 1 32 sz = true) :
    Calls Tryz.prog 118 #[.agg #[.slice sa sn sc, .slice ta tn tc, .slice ra rn rc], .slice va vn vc] w fun e w' => e = .returned (.bool (stateB sz vs)) ∧ Below w.heap.size w w' := by
  have hl := hI.len
  have hvl := hV.len
  have HI := Lib.hid hI
  have HV := Lib.hid hV
  have HS := Lib.hid hs
  clear hI hV hs
  have X := Lib.hid (Blk.made w #[.slice sa sn sc, .slice ta tn tc, .slice ra rn rc] 36)
  obtain ⟨wA, hwA⟩ : ∃ wA : World, wA = w.alloc (.cells #[.slice sa sn sc, .slice ta tn tc, .slice ra rn rc] 36) := ⟨_, rfl⟩
  have hbA : Below w.heap.size w wA := by rw [hwA]; exact bel
  rw [← hwA] at X
  have HwA := Lib.hid hwA
  have HLV := Lib.hid hvl
  have HLS := Lib.hid hl
  clear hwA hvl hl
  go_enter Tryz.func118, Tryz.ntmps118
  go_wp2_with fail
  rw [← HwA.out]
  clear HwA
  go_loopw [5] (fun s5 wr => ∃ k : Nat, s5 = .int .i64 k ∧ k ≤ vn ∧ k ≤ sn ∧ Below w.heap.size w wr ∧ Hid (upB (fun i => hasB sz (i : Int) (vs.getD i 0)) k = true) ∧ Hid (Blk wr w.heap.size #[.slice sa sn sc, .slice ta tn tc, .slice ra rn rc] 36)) (fun s5 _ => vn - (intOf s5).toNat)
  case atStart => exact ⟨0, rfl, by omega, by omega, hbA, Lib.hid (upB_zero _), X⟩
  case round =>
    clear X hbA
    obtain ⟨k, rfl, hk, hks, hbl, A, X⟩ := hrel
    have x0 := X.out.cell 0
    have x1 := X.out.cell 1
    have x2 := X.out.cell 2
    have xl := X.out.lt
    simp at x0 x1 x2
    by_cases hlt : k < vn
    · have hlt' : (k : Int) < (vn : Int) := by omega
      have hk0 : (0 : Int) ≤ (k : Int) := by omega
      by_cases hls : k < sn
      · have hls' : (k : Int) < (sn : Int) := by omega
        obtain ⟨b, off, x, rfl, hb, hx, hcell, hwf⟩ := (HV.out.keep hbl).at hlt
        obtain ⟨b', off', z, rfl, hb', hz, hcell', hwf'⟩ := (HI.out.keep hbl).at hls
        have hz12 := allIn_at HS.out hz
        have hz1 := hz12.1
        have hz2 := hz12.2
        have e2 : IntKind.i64.wrap (z - 1) = z - 1 := IntWalk.i64_in _ (by omega)
        have hhas := hasB_yes (x := x) hz
        have Hx := Lib.hid (getD_of hx)
        have hin := fun (wx : World) => (spec_l01In (x := x) (lo := 0) (hi := z - 1) (w := wx)).mono (fun e w' h => (⟨h.1, h.2.symm⟩ : e = .returned (.bool (inB x 0 (z - 1))) ∧ w' = wx))
        cases hq : inB x 0 (z - 1)
        all_goals
          rw [hq] at hin hhas
          have HH := Lib.hid hhas
          have HIN := Lib.hid hin
          clear hx hz hz12 hq hhas hin
          go_wp2_with fail
          go_quiet ((go_at_call 117; exact Calls.quiet_of_same (HIN.out _)))
        · go_wp2
          go_ret
          refine ⟨ret_bool ?_, below_drewN hbl _⟩
          by_cases hne : vn = sn
          · rw [stateB_eq (by rw [HLV.out, HLS.out, hne]), HLV.out, upB_false hlt (by rw [Hx.out]; exact HH.out)]
          · rw [stateB_ne (by rw [HLV.out, HLS.out]; exact hne)]
        · go_wp2_with fail
          go_roundw
          case rel => exact ⟨k + 1, by go_num, by omega, by omega, below_drewN hbl _, Lib.hid (upB_step A.out (by rw [Hx.out]; exact HH.out)), Lib.hid X.out⟩
          case measure => simp [intOf]; omega
      · obtain rfl : sn = k := by omega
        have hls' : ¬ (sn : Int) < (sn : Int) := by omega
        have hd : ((vn : Int) == (sn : Int)) = false := by rw [beq_eq_false_iff_ne]; omega
        go_wp2
        go_ret
        exact ⟨ret_bool (by rw [stateB_ne (by rw [HLV.out, HLS.out]; omega)]), hbl⟩
    · obtain rfl : vn = k := by omega
      have hlt' : ¬ (vn : Int) < (vn : Int) := by omega
      by_cases hne : vn = sn
      · have hd : ((vn : Int) == (sn : Int)) = true := by rw [beq_iff_eq]; omega
        have HB := Lib.hid (show stateB sz vs = true by rw [stateB_eq (by rw [HLV.out, HLS.out, hne]), HLV.out, A.out])
        clear hne
        go_wp2
        go_ret
        exact ⟨ret_bool HB.out.symm, hbl⟩
      · have hd : ((vn : Int) == (sn : Int)) = false := by rw [beq_eq_false_iff_ne]; omega
        have HB := Lib.hid (show stateB sz vs = false by rw [stateB_ne (by rw [HLV.out, HLS.out]; exact hne)])
        clear hne
        go_wp2
        go_ret
        exact ⟨ret_bool HB.out.symm, hbl⟩
end Go.Proofs.YtkaikbaagajckaaGreat
namespace Go.Proofs.YtkaikbaagajckaaGreat
open Go.RowKit
set_option linter.unusedVariables false
set_option linter.unusedSimpArgs false
set_option maxHeartbeats 1000000 in
theorem impl_areTests_1 {x : I2b} {B : Nat} {sa ta ra : Option Addr} {sn sc tn tc rn rc : Nat} {sz : List Int} {w : World} (hB : Blk w B #[.slice sa sn sc, .slice ta tn tc, .slice ra rn rc] 36) (hI : Ints w sa sn sc sz) (hn : sn ≤ 1048576) (hs : allIn 1 32 sz = true) :
    Calls Tryz.prog 143 (#[.agg x.enc.toArray] ++ #[.pointer (some ⟨B, 0, none⟩)]) w fun e w' => e = .returned (.bool (!hasB sz x.a x.b)) ∧ Below w.heap.size w w' := by
  have x0 := hB.cell 0
  have x1 := hB.cell 1
  have x2 := hB.cell 2
  have xl := hB.lt
  simp at x0 x1 x2
  have h := fun (wx : World) (hb : Below w.heap.size w wx) => impl_has (v := x.a) (x := x.b) (ta := ta) (tn := tn) (tc := tc) (ra := ra) (rn := rn) (rc := rc) (hI.keep hb) hn hs
  have H := Lib.hid h
  clear h hI hB hs
  show Calls _ _ #[.agg #[.int .i64 x.a, .int .i64 x.b, .bool x.c], .pointer (some ⟨B, 0, none⟩)] _ _
  go_enter Tryz.func143, Tryz.ntmps143
  go_wp2_with fail
  refine Calls.mono (H.out _ bel) ?_
  rintro e w1 ⟨rfl, hb_w1⟩
  obtain ⟨hc_w1, hf_w1⟩ := bcell hb_w1
  have hs_w1 := hb_w1.size
  go_wp2
  go_ret
  exact ⟨rfl, bel⟩
set_option maxHeartbeats 1000000 in
theorem impl_areTests {sa ta ra ga : Option Addr} {sn sc tn tc rn rc gn gc : Nat} {sz : List Int} {g : List I2b} {w : World} (hI : Ints w sa sn sc sz) (hn : sn ≤ 1048576) (hs : allIn 1 32 sz = true) (hG : F2b w ga gn gc g) (hg : gn ≤ 1048576) :
    Calls Tryz.prog 75 #[.agg #[.slice sa sn sc, .slice ta tn tc, .slice ra rn rc], .slice ga gn gc] w fun e w' => e = .returned (.bool (testsB sz g)) ∧ Below w.heap.size w w' := by
  have hgl := hG.len
  by_cases h24 : gn ≤ 24
  · have h24' : (gn : Int) ≤ 24 := by omega
    have HT := Lib.hid (show testsB sz g = !(g.any fun x => !hasB sz x.a x.b) by rw [testsB, decide_eq_true (by omega), Bool.true_and, List.not_any_eq_all_not]; simp)
    have hp := fun (wx : World) (hb : Below w.heap.size w wx) (hB : Blk wx w.heap.size #[.slice sa sn sc, .slice ta tn tc, .slice ra rn rc] 36) => slices_ContainsFunc_Test (g := 143) (lb := #[.pointer (some ⟨w.heap.size, 0, none⟩)]) (p := fun x => !hasB sz x.a x.b) (fun _ _ => by kernel_rfl) (fun W x hx hb' => impl_areTests_1 (hB.keep hb') (hI.keep (below_callS hb hb')) hn hs) (hG.keep hb) hg
    have HP := Lib.hid hp
    clear hp hI hG hs hgl
    go_enter Tryz.func75, Tryz.ntmps75
    go_wp2_with fail
    refine Calls.mono (HP.out _ bel (Blk.made w #[.slice sa sn sc, .slice ta tn tc, .slice ra rn rc] 36)) ?_
    rintro e w2 ⟨rfl, hb_w2⟩
    go_wp2
    go_ret
    exact ⟨ret_bool HT.out.symm, bel⟩
  · have h24' : ¬ (gn : Int) ≤ 24 := by omega
    have HT := Lib.hid (show testsB sz g = false by rw [testsB, decide_eq_false (by omega)]; rfl)
    clear hI hG hs hgl
    go_enter Tryz.func75, Tryz.ntmps75
    go_wp2
    go_ret
    exact ⟨ret_bool HT.out.symm, bel⟩
end Go.Proofs.YtkaikbaagajckaaGreat
