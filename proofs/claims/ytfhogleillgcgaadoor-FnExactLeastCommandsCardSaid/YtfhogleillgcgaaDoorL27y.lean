/- The program's breadth-first search over the modes, walked. -/
import Derived.Test.YtfhogleillgcgaaDoorL27x
namespace Go.Proofs.YtfhogleillgcgaaDoor
open Go.RowKit
set_option linter.unusedVariables false
set_option linter.unusedSimpArgs false
theorem bfR_succ (r : Int) (key : Bool) (m : Int) (st : BF) (q : Nat) : bfR r key m st (q + 1) = bfK r key m (bfR r key m st q) q := by
  rw [bfR, List.range_succ, List.foldl_append]; rfl
theorem bfK_some {r : Int} {key : Bool} {m : Int} {st : BF} {k t : Nat} {l : List Int} (ht : cNext m (k : Int) r key = (t : Int)) (h : st.out.getD t none = some l) : bfK r key m st k = st := by
  have h' : st.out.getD (cNext m (k : Int) r key).toNat none = some l := by rw [ht]; exact h
  rw [bfK, h']
theorem bfK_none {r : Int} {key : Bool} {m : Int} {st : BF} {k t m' : Nat} {l : List Int} (ht : cNext m (k : Int) r key = (t : Int)) (h : st.out.getD t none = none) (hm : m = (m' : Int)) (hl : st.out.getD m' none = some l) : bfK r key m st k = ⟨st.out.set t (some (l ++ [(k : Int)])), st.que ++ [(t : Int)]⟩ := by
  subst hm
  have h' : st.out.getD (cNext (m' : Int) (k : Int) r key).toNat none = none := by rw [ht]; exact h
  have h2 : st.out.getD ((m' : Int)).toNat none = some l := hl
  rw [bfK, h']; simp only [ht]
  rw [h2]; rfl
theorem bfN_stop {r : Int} {key : Bool} {f : Int} {p : Nat} (h : (bfN r key f p).que = []) : ∀ d, bfN r key f (p + d) = bfN r key f p
  | 0 => rfl
  | d + 1 => by rw [← Nat.add_assoc, bfN, bfN_stop h d, bfS, h]
theorem bfN_step {r : Int} {key : Bool} {f m : Int} {rest : List Int} {p : Nat} (h : (bfN r key f p).que = m :: rest) : bfN r key f (p + 1) = ⟨(bfR r key m (bfN r key f p) 10).out, (bfR r key m (bfN r key f p) 10).que.tail⟩ := by
  rw [bfN, bfS, h]
structure RowOk (r : Int) (key : Bool) (f : Int) : Prop where
  stop : (bfN r key f 6).que = []
  fin : ∀ t, t < 6 → (bfN r key f 6).out.getD t none = leastF r key (t : Int) f
  okq : ∀ p m rest, p < 6 → (bfN r key f p).que = m :: rest → ∀ q, q ≤ 10 → okB r key m (bfR r key m (bfN r key f p) q) = true ∧ (bfR r key m (bfN r key f p) q).que.head? = some m
theorem rowOk_split {r : Int} {key : Bool} {f : Int} (h : rowOk r key f = true) : RowOk r key f := by
  unfold rowOk at h
  simp only [Bool.and_eq_true] at h
  obtain ⟨⟨⟨⟨h1, h2⟩, _⟩, _⟩, h3⟩ := h
  refine ⟨by simpa using h1, fun t ht => ?_, fun p m rest hp hq q hq10 => ?_⟩
  · rw [List.all_eq_true] at h2
    have := h2 t (by simpa using ht)
    simpa using this
  · rw [List.all_eq_true] at h3
    have := h3 p (by simpa using hp)
    rw [hq] at this
    simp only [List.all_eq_true] at this
    have h4 := this q (by simp; omega)
    simp only [Bool.and_eq_true, beq_iff_eq] at h4
    exact h4
structure OkB (m : Int) (st : BF) : Prop where
  len : st.out.length = 6
  q1 : 1 ≤ st.que.length
  q6 : st.que.length ≤ 6
  qs : ∀ x ∈ st.que, inB x 0 5 = true
  hd : ∃ l, st.out.getD m.toNat none = some l ∧ l.length ≤ 6 ∧ ∀ x ∈ l, I64 x
theorem okB_split {r : Int} {key : Bool} {m : Int} {st : BF} (h : okB r key m st = true) : OkB m st := by
  unfold okB at h
  simp only [Bool.and_eq_true, decide_eq_true_eq, List.all_eq_true] at h
  obtain ⟨⟨⟨⟨⟨h1, h2⟩, h3⟩, h4⟩, h5⟩, h6⟩ := h
  refine ⟨h1, h2, h3, h4, ?_⟩
  obtain ⟨l, hl⟩ := Option.isSome_iff_exists.1 h5
  have hmem : some l ∈ st.out := by
    rw [List.getD_eq_getElem?_getD] at hl
    cases hx : st.out[m.toNat]? with
    | none => rw [hx] at hl; cases hl
    | some o => rw [hx] at hl; simp at hl; subst hl; exact List.mem_of_getElem? hx
  have h7 := h6 _ hmem
  refine ⟨l, hl, h7.2, fun x hx => ?_⟩
  have h8 := h7.1 x hx
  simp [inB] at h8
  exact ⟨by omega, by omega⟩
/-- 'append(out, x)' of one int64 to a row of the call's own, the literal laid just before -/
theorem appk1 {P : Program} {w : World} {ops : Array Oper} {rest : List Oper} {o : Oper} {act : Act} {Q : Exit → Act → World → Prop} {z : Int} {t e : TypeId} (hgd : o.guard = none) (s x : Operand)
    (ho : o.op = .call { callee := .builtin .append, args := #[s, x], argTypes := #[t, t] }) (ht : P.underlying t = some (.slice e)) (hinfo : (P.info? e).map (fun i => (i.zero, i.size, i.bytes)) = some (some (.int .i64 0), 1, 8))
    (base : Nat) (a : Option Addr) (n c : Nat) (l : List Int) (hown : OwnI e w base a n c l) (hs : act.eval s = .slice a n c) (gx : Nat) (hx : act.eval x = .slice (some ⟨gx, 0, none⟩) 1 1) (hg : gx = w.heap.size) (hzw : I64 z)
    (hn : n ≤ 4194304) (hbase : base ≤ w.heap.size)
    (K : ∀ g' c' w', OwnI e w' base (some ⟨g', 0, none⟩) (n + 1) c' (l ++ [z]) → Below base w w' → base ≤ g' → wpList P ops Q rest (act.put o.dst (.slice (some ⟨g', 0, none⟩) (n + 1) c')) w') : wpList P ops Q (o :: rest) act (w.alloc (.cells #[.int .i64 z] e)) := by
  subst hg
  have hb0 : Below w.heap.size w (w.alloc (.cells #[.int .i64 z] e)) := (Below.refl _ _).alloc (Nat.le_refl _) _
  refine append1_i64 hgd s x t e ho ht hinfo base a n c l (hown.keep hb0) hs w.heap.size z hx (by simp) hzw hn (by simp; omega) ?_
  intro a' c' w' h1 h2 h3
  obtain ⟨g', rfl⟩ := h1.shape (by omega)
  exact K g' c' w' h1 ((hb0.mono hbase).trans h2) h1.lt.1
/-- the array of ways in memory -/
structure WS (w : World) (b gq base : Nat) (vs : Array Value) (st : List (Option (List Int))) : Prop where
  blk : Blk w b vs 69
  size : vs.size = 6
  len : st.length = 6
  no : ∀ i, i < 6 → st.getD i none = none → vs[i]? = some (.slice none 0 0)
  yes : ∀ i l, i < 6 → st.getD i none = some l → ∃ g n c, vs[i]? = some (.slice (some ⟨g, 0, none⟩) n c) ∧ OwnI 2 w base (some ⟨g, 0, none⟩) n c l ∧ g ≠ gq ∧ g ≠ b
theorem WS.keep {w w' : World} {b gq base : Nat} {vs : Array Value} {st : List (Option (List Int))} (h : WS w b gq base vs st) (hb : Below w.heap.size w w') : WS w' b gq base vs st :=
  ⟨h.blk.keep hb, h.size, h.len, h.no, fun i l hi hl => by
    obtain ⟨g, n, c, h1, h2, h3⟩ := h.yes i l hi hl
    exact ⟨g, n, c, h1, h2.keep hb, h3⟩⟩
theorem WS.only {w w' : World} {b gq g' base : Nat} {vs : Array Value} {st : List (Option (List Int))} (h : WS w b gq base vs st) (ho : Only gq (gq + 1) w w') (hb : b ≠ gq) (hg : g' = gq ∨ w.heap.size ≤ g') : WS w' b g' base vs st :=
  ⟨h.blk.apart ho (by omega), h.size, h.len, h.no, fun i l hi hl => by
    obtain ⟨g, n, c, h1, h2, h3, h4⟩ := h.yes i l hi hl
    have hl := h2.lt
    exact ⟨g, n, c, h1, h2.only ho (fun q hq => by cases hq; omega), by omega, h4⟩⟩
theorem WS.set {w : World} {b gq base t g n c : Nat} {vs : Array Value} {st : List (Option (List Int))} {l : List Int} (h : WS w b gq base vs st) (ht : t < 6) (hO : OwnI 2 w base (some ⟨g, 0, none⟩) n c l) (hg : g ≠ gq) (hgb : g ≠ b) :
    WS (w.setCell ⟨b, t, none⟩ (.slice (some ⟨g, 0, none⟩) n c)) b gq base (vs.setIfInBounds t (.slice (some ⟨g, 0, none⟩) n c)) (st.set t (some l)) := by
  have hon : Only b (b + 1) w (w.setCell ⟨b, t, none⟩ (.slice (some ⟨g, 0, none⟩) n c)) := (Only.refl _ _ _).set ⟨Nat.le_refl _, Nat.lt_succ_self _⟩ _ _
  have hkeep : ∀ {g' n' c' : Nat} {l' : List Int}, OwnI 2 w base (some ⟨g', 0, none⟩) n' c' l' → g' ≠ b → OwnI 2 (w.setCell ⟨b, t, none⟩ (.slice (some ⟨g, 0, none⟩) n c)) base (some ⟨g', 0, none⟩) n' c' l' := fun h2 h4 => h2.only hon (fun q hq => by cases hq; omega)
  refine ⟨h.blk.set t _, by simp [h.size], by simp [h.len], fun i hi hn => ?_, fun i l' hi hl => ?_⟩
  · by_cases e : i = t
    · subst e
      rw [List.getD_eq_getElem?_getD, List.getElem?_set_self (by rw [h.len]; exact ht)] at hn; cases hn
    · rw [List.getD_eq_getElem?_getD, List.getElem?_set_ne (Ne.symm e), ← List.getD_eq_getElem?_getD] at hn
      rw [Array.getElem?_setIfInBounds_ne (Ne.symm e)]; exact h.no i hi hn
  · by_cases e : i = t
    · subst e
      rw [List.getD_eq_getElem?_getD, List.getElem?_set_self (by rw [h.len]; exact ht)] at hl
      simp at hl; subst hl
      exact ⟨g, n, c, by rw [Array.getElem?_setIfInBounds_self_of_lt (by rw [h.size]; exact ht)], hkeep hO hgb, hg, hgb⟩
    · rw [List.getD_eq_getElem?_getD, List.getElem?_set_ne (Ne.symm e), ← List.getD_eq_getElem?_getD] at hl
      obtain ⟨g', n', c', h1, h2, h3, h4⟩ := h.yes i l' hi hl
      exact ⟨g', n', c', by rw [Array.getElem?_setIfInBounds_ne (Ne.symm e)]; exact h1, hkeep h2 h4, h3, h4⟩
def zero6 : Array Value := #[.slice none 0 0, .slice none 0 0, .slice none 0 0, .slice none 0 0, .slice none 0 0, .slice none 0 0]
theorem zero6_at {i : Nat} (h : i < 6) : zero6[i]? = some (.slice none 0 0) := by
  have : i = 0 ∨ i = 1 ∨ i = 2 ∨ i = 3 ∨ i = 4 ∨ i = 5 := by omega
  rcases this with rfl | rfl | rfl | rfl | rfl | rfl <;> rfl
theorem WS.made (w : World) (b gq base : Nat) (h : Blk w b zero6 69) : WS w b gq base zero6 (List.replicate 6 none) :=
  ⟨h, rfl, rfl, fun i hi _ => zero6_at hi, fun i l hi hl => by
    rw [List.getD_eq_getElem?_getD, List.getElem?_replicate] at hl
    split at hl <;> simp at hl⟩
theorem WS.start {W : World} {b gq base g f : Nat} {cs : Array Value} (hcs : cs = (zero6.toList.set f (.slice (some ⟨g, 0, none⟩) 0 0)).toArray) (hf : f < 6) (hB : Blk W b cs 69) (hO : OwnI 2 W base (some ⟨g, 0, none⟩) 0 0 []) (hg : g ≠ gq) (hgb : g ≠ b) :
    WS W b gq base cs ((List.replicate 6 none).set f (some [])) := by
  subst hcs
  refine ⟨hB, by simp [zero6], by simp, fun i hi hn => ?_, fun i l' hi hl => ?_⟩
  · by_cases e : i = f
    · subst e
      rw [List.getD_eq_getElem?_getD, List.getElem?_set_self (by simpa using hf)] at hn; cases hn
    · rw [List.getElem?_toArray, List.getElem?_set_ne (Ne.symm e), Array.getElem?_toList]; exact zero6_at hi
  · by_cases e : i = f
    · subst e
      rw [List.getD_eq_getElem?_getD, List.getElem?_set_self (by simpa using hf)] at hl
      simp at hl; subst hl
      exact ⟨g, 0, 0, by rw [List.getElem?_toArray, List.getElem?_set_self (by simpa [zero6] using hf)], hO, hg, hgb⟩
    · rw [List.getD_eq_getElem?_getD, List.getElem?_set_ne (Ne.symm e), List.getElem?_replicate] at hl
      split at hl <;> simp at hl
theorem WS.form {w : World} {b gq base : Nat} {vs : Array Value} {st : List (Option (List Int))} (h : WS w b gq base vs st) (i : Nat) (hi : i < 6) : ∃ a n c, vs[i]? = some (.slice a n c) := by
  cases hs : st.getD i none with
  | none => exact ⟨_, _, _, h.no i hi hs⟩
  | some l =>
    obtain ⟨g, n, c, h1, _⟩ := h.yes i l hi hs
    exact ⟨_, _, _, h1⟩
theorem six_of {vs : Array Value} (h : vs.size = 6) : ∃ v0 v1 v2 v3 v4 v5, vs = #[v0, v1, v2, v3, v4, v5] := by
  rcases vs with ⟨l⟩
  match l, h with
  | [a, b, c, d, e, f], _ => exact ⟨a, b, c, d, e, f, rfl⟩
def WaRet (w : World) (r : Int) (key : Bool) (f : Int) (e : Ending) (w' : World) : Prop := ∃ vs : Array Value, e = .returned (.agg vs) ∧ vs.size = 6 ∧ Below w.heap.size w w' ∧ (∀ t : Nat, t < 6 → leastF r key (t : Int) f = none → vs[t]? = some (.slice none 0 0)) ∧ (∀ (t : Nat) (l : List Int), t < 6 → leastF r key (t : Int) f = some l → ∃ g n c, vs[t]? = some (.slice (some ⟨g, 0, none⟩) n c) ∧ OwnI 2 w' w.heap.size (some ⟨g, 0, none⟩) n c l)
set_option maxRecDepth 100000 in
set_option maxHeartbeats 4000000 in
theorem impl_ways {f : Nat} {r : Int} {key : Bool} {w : World} (hT : Tab w 1 (cmdRows.flatMap CRow.enc)) (hf : f < 6) (hr : inB r 0 3 = true) :
    Calls Tryd.prog 48 #[.int .i64 (f : Int), .int .i64 r, .bool key] w (WaRet w r key (f : Int)) := by
  have HT := Lib.hid hT
  have HR := Lib.hid (rowOk_split (rowOk_at (key := key) hr (show inB (f : Int) 0 5 = true by simp [inB]; omega)))
  have hf0 : (0 : Int) ≤ (f : Int) := by omega
  have hf6 : (f : Int) < 6 := by omega
  have hz := zero6_at hf
  unfold zero6 at hz
  clear hT hr
  go_enter Tryd.func48, Tryd.ntmps48
  go_wp2_with fail
  go_loopg [8] 6 (fun gg s8 wr => ∃ (p gq off n c : Nat) (vs : Array Value), s8 = .slice (some ⟨gq, off, none⟩) n c ∧ p ≤ 6 ∧ 6 - p ≤ gg ∧ w.heap.size + 2 ≤ gq ∧ w.heap.size + 2 ≤ wr.heap.size ∧ Below w.heap.size w wr ∧ Hid (QI wr gq off n c (bfN r key (f : Int) p).que) ∧ Hid (WS wr (w.heap.size + 1) gq (w.heap.size + 2) vs (bfN r key (f : Int) p).out) ∧ Hid (Blk wr w.heap.size zero6 69))
  case atStart =>
    have hw2 : Blk ((w.alloc (.cells zero6 69)).alloc (.cells ([Value.slice none 0 0, Value.slice none 0 0, Value.slice none 0 0, Value.slice none 0 0, Value.slice none 0 0, Value.slice none 0 0].set f (Value.slice (some ⟨w.heap.size + 1 + 1, 0, none⟩) 0 0)).toArray 69)) (w.heap.size + 1) ([Value.slice none 0 0, Value.slice none 0 0, Value.slice none 0 0, Value.slice none 0 0, Value.slice none 0 0, Value.slice none 0 0].set f (Value.slice (some ⟨w.heap.size + 1 + 1, 0, none⟩) 0 0)).toArray 69 := by
      have := Blk.made (w.alloc (.cells zero6 69)) ([Value.slice none 0 0, Value.slice none 0 0, Value.slice none 0 0, Value.slice none 0 0, Value.slice none 0 0, Value.slice none 0 0].set f (Value.slice (some ⟨w.heap.size + 1 + 1, 0, none⟩) 0 0)).toArray 69
      simpa using this
    obtain ⟨W1, hW1⟩ : ∃ W1, W1 = ((w.alloc (.cells zero6 69)).alloc (.cells ([Value.slice none 0 0, Value.slice none 0 0, Value.slice none 0 0, Value.slice none 0 0, Value.slice none 0 0, Value.slice none 0 0].set f (Value.slice (some ⟨w.heap.size + 1 + 1, 0, none⟩) 0 0)).toArray 69)) := ⟨_, rfl⟩
    have hsz1 : W1.heap.size = w.heap.size + 1 + 1 := by rw [hW1]; simp
    have hb1 : Below w.heap.size w W1 := by rw [hW1]; repeat (first | exact Below.refl _ _ | assumption | refine below_allocS ?_ _ | refine below_callS ?_ (by assumption) | (refine Below.alloc ?_ (by first | omega | (simp; done) | (simp; omega)) _) | (refine Below.setCell ?_ (by first | omega | (simp; done) | (simp; omega)) _) | refine Below.drew ?_ | refine below_drewN ?_ _ | (refine below_call ?_ (by assumption) (by first | omega | (simp; done) | (simp; omega))) | (refine Below.trans ?_ (by assumption)))
    have hz1 : Blk W1 w.heap.size zero6 69 := by rw [hW1]; exact (Blk.made w zero6 69).keep (by repeat (first | exact Below.refl _ _ | assumption | refine below_allocS ?_ _ | refine below_callS ?_ (by assumption) | (refine Below.alloc ?_ (by first | omega | (simp; done) | (simp; omega)) _) | (refine Below.setCell ?_ (by first | omega | (simp; done) | (simp; omega)) _) | refine Below.drew ?_ | refine below_drewN ?_ _ | (refine below_call ?_ (by assumption) (by first | omega | (simp; done) | (simp; omega))) | (refine Below.trans ?_ (by assumption))))
    rw [← hW1] at hw2
    have hOe := (OwnI.empty (E := 2) (base := w.heap.size + 2) W1 (by omega)).keep (w' := (W1.alloc (.cells #[] 2)).alloc (.cells #[.int .i64 (f : Int)] 2)) (by repeat (first | exact Below.refl _ _ | assumption | refine below_allocS ?_ _ | refine below_callS ?_ (by assumption) | (refine Below.alloc ?_ (by first | omega | (simp; done) | (simp; omega)) _) | (refine Below.setCell ?_ (by first | omega | (simp; done) | (simp; omega)) _) | refine Below.drew ?_ | refine below_drewN ?_ _ | (refine below_call ?_ (by assumption) (by first | omega | (simp; done) | (simp; omega))) | (refine Below.trans ?_ (by assumption))))
    have hQ := QI.made (E := 2) (z := (f : Int)) (W1.alloc (.cells #[] 2)) (by unfold I64; omega)
    have hb2 : Below W1.heap.size W1 ((W1.alloc (.cells #[] 2)).alloc (.cells #[.int .i64 (f : Int)] 2)) := by repeat (first | exact Below.refl _ _ | assumption | refine below_allocS ?_ _ | refine below_callS ?_ (by assumption) | (refine Below.alloc ?_ (by first | omega | (simp; done) | (simp; omega)) _) | (refine Below.setCell ?_ (by first | omega | (simp; done) | (simp; omega)) _) | refine Below.drew ?_ | refine below_drewN ?_ _ | (refine below_call ?_ (by assumption) (by first | omega | (simp; done) | (simp; omega))) | (refine Below.trans ?_ (by assumption)))
    rw [hsz1] at hOe
    have e3 : (W1.alloc (.cells #[] 2)).heap.size = w.heap.size + 1 + 1 + 1 := by simp [hsz1]
    rw [e3] at hQ
    have hw3 := hw2.keep hb2
    have hz3 := hz1.keep hb2
    have hb3 := below_callS hb1 hb2
    have hs3 : w.heap.size + 2 ≤ ((W1.alloc (.cells #[] 2)).alloc (.cells #[.int .i64 (f : Int)] 2)).heap.size := by simp [hsz1]
    subst hW1
    exact ⟨0, _, 0, 1, 1, _, rfl, by omega, by omega, by omega, hs3, hb3, Lib.hid hQ, Lib.hid (WS.start rfl hf hw3 hOe (by omega) (by omega)), Lib.hid hz3⟩
  case round =>
    clear hz hf0 hf6
    obtain ⟨p, gq, off, n, c, vs, rfl, hp, hgg, hgq, hsr, hbl, HQ, HS, HZ⟩ := hrel
    by_cases h0 : n = 0
    · subst h0
      have hq0 : (bfN r key (f : Int) p).que = [] := List.length_eq_zero_iff.1 HQ.out.len
      have hfin : bfN r key (f : Int) 6 = bfN r key (f : Int) p := by
        have := bfN_stop hq0 (6 - p)
        rw [← this]; congr 1; omega
      have Hfin := Lib.hid (show ∀ t : Nat, t < 6 → (bfN r key (f : Int) p).out.getD t none = leastF r key (t : Int) (f : Int) from fun t ht => by rw [← hfin]; exact HR.out.fin t ht)
      obtain ⟨v0, v1, v2, v3, v4, v5, rfl⟩ := six_of HS.out.size
      obtain ⟨a0, n0, c0, hv0⟩ := HS.out.form 0 (by omega)
      obtain ⟨a1, n1, c1, hv1⟩ := HS.out.form 1 (by omega)
      obtain ⟨a2, n2, c2, hv2⟩ := HS.out.form 2 (by omega)
      obtain ⟨a3, n3, c3, hv3⟩ := HS.out.form 3 (by omega)
      obtain ⟨a4, n4, c4, hv4⟩ := HS.out.form 4 (by omega)
      obtain ⟨a5, n5, c5, hv5⟩ := HS.out.form 5 (by omega)
      simp at hv0
      subst hv0
      simp at hv1
      subst hv1
      simp at hv2
      subst hv2
      simp at hv3
      subst hv3
      simp at hv4
      subst hv4
      simp at hv5
      subst hv5
      have hB := HS.out.blk
      have u0 := hB.cell 0
      have u1 := hB.cell 1
      have u2 := hB.cell 2
      have u3 := hB.cell 3
      have u4 := hB.cell 4
      have u5 := hB.cell 5
      have ul := hB.lt
      simp at u0 u1 u2 u3 u4 u5
      clear hq0 hfin hB HQ HR HT
      go_wp2_with (refine wpList_store_blk (vs := #[.slice a0 n0 c0, .slice a1 n1 c1, .slice a2 n2 c2, .slice a3 n3 c3, .slice a4 n4 c4, .slice a5 n5 c5]) rfl 69 _ _ rfl rfl rfl HZ.out rfl (by kernel_rfl) (by simp [Value.oneCell']) ?_; intro V hV hgV hsV)
      have y0 := hV.cell 0
      have y1 := hV.cell 1
      have y2 := hV.cell 2
      have y3 := hV.cell 3
      have y4 := hV.cell 4
      have y5 := hV.cell 5
      simp at y0 y1 y2 y3 y4 y5
      have hbV : Below w.heap.size w V := hbl.grown hgV (by omega) (fun q hq => by cases hq; exact Nat.le_refl _)
      refine bodyPost_ret (v := .agg #[.slice a0 n0 c0, .slice a1 n1 c1, .slice a2 n2 c2, .slice a3 n3 c3, .slice a4 n4 c4, .slice a5 n5 c5]) (by simp [results, Tryd.results48, go_sem, y0, y1, y2, y3, y4, y5]) rfl ⟨_, rfl, rfl, hbV, fun t ht hn => ?_, fun t l ht hl => ?_⟩
      · rw [← Hfin.out t ht] at hn
        exact HS.out.no t ht hn
      · rw [← Hfin.out t ht] at hl
        obtain ⟨g, n', c', h1, h2, h3, h4⟩ := HS.out.yes t l ht hl
        have hg := h2.lt
        exact ⟨g, n', c', h1, (h2.keepG hgV (fun q hq => by cases hq; simp; omega)).le (by omega)⟩
    · obtain ⟨m, rest, hqm⟩ : ∃ m rest, (bfN r key (f : Int) p).que = m :: rest := by
        cases hq : (bfN r key (f : Int) p).que with
        | nil => rw [hq] at HQ; have := HQ.out.len; simp at this; omega
        | cons m rest => exact ⟨m, rest, rfl⟩
      have hp6 : p < 6 := by
        rcases Nat.lt_or_ge p 6 with h | h
        · exact h
        · obtain rfl : p = 6 := by omega
          rw [HR.out.stop] at hqm; cases hqm
      have hok := HR.out.okq p m rest hp6 hqm
      have hstep := bfN_step (r := r) (key := key) hqm
      have hm5 := (okB_split (hok 0 (by omega)).1).qs m (by show m ∈ (bfN r key (f : Int) p).que; rw [hqm]; exact List.mem_cons_self ..)
      have hm5' := hm5
      simp [inB] at hm5'
      obtain ⟨m', rfl⟩ := Int.eq_ofNat_of_zero_le hm5'.1
      have hx0 := HQ.out.cell 0 (m' : Int) (by rw [hqm]; rfl)
      rw [Nat.add_zero] at hx0
      have hgl := HQ.out.lt
      have hnc := HQ.out.cap
      have hn0 : 0 < n := by omega
      have hdn : decide (0 < n) = true := by simp [hn0]
      have HOK := Lib.hid hok
      have HST := Lib.hid hstep
      have HM := Lib.hid hm5
      have h0m : (0 : Int) ≤ (m' : Int) := by omega
      have hm6 : (m' : Int) < 6 := by omega
      generalize hP : bfN r key (f : Int) p = P at *
      have HP := Lib.hid hP
      clear hok hstep hm5 hm5' hqm hP
      go_wp2_with fail
      obtain ⟨wo, rfl⟩ : ∃ wo : World, wo = wr := ⟨_, rfl⟩
      go_loopw [8, 10] (fun s8 s10 wr => ∃ (q gq off n c : Nat) (vs : Array Value), s8 = .slice (some ⟨gq, off, none⟩) n c ∧ s10 = .int .i64 q ∧ q ≤ 10 ∧ w.heap.size + 2 ≤ gq ∧ w.heap.size + 2 ≤ wr.heap.size ∧ Below w.heap.size w wr ∧ Hid (QI wr gq off n c (bfR r key (m' : Int) P q).que) ∧ Hid (WS wr (w.heap.size + 1) gq (w.heap.size + 2) vs (bfR r key (m' : Int) P q).out) ∧ Hid (Blk wr w.heap.size zero6 69)) (fun _ s10 _ => 10 - (intOf s10).toNat)
      case atStart => exact ⟨0, gq, off, n, c, vs, rfl, rfl, by omega, hgq, hsr, hbl, HQ, HS, HZ⟩
      case round =>
        clear HQ HS HZ hbl hx0 hgl hnc hn0 hdn hgq hsr
        obtain ⟨q, gq, off, n, c, vs, rfl, rfl, hq, hgq, hsr, hbl, HQ, HS, HZ⟩ := hrel
        have hOK := HOK.out q hq
        have hO := okB_split hOK.1
        have hln := HQ.out.len
        have hq1 := hO.q1
        have hq6 := hO.q6
        have hgl := HQ.out.lt
        have hnc := HQ.out.cap
        rw [hln] at hq1 hq6
        obtain ⟨lm, hlm, hlm6, hlmi⟩ := hO.hd
        rw [Int.toNat_natCast] at hlm
        have hhd := hOK.2
        have HHD := Lib.hid hhd
        have HLM := Lib.hid hlm
        have HLI := Lib.hid hlmi
        clear hOK hO hln hlm hlmi hhd
        by_cases hlt : q < 10
        · have hk : inB (q : Int) 0 9 = true := by simp [inB]; omega
          have hnx := next_mode (r := r) (key := key) hk HM.out
          simp [inB] at hnx
          obtain ⟨t, ht⟩ := Int.eq_ofNat_of_zero_le hnx.1
          have ht6 : t < 6 := by omega
          have HK := Lib.hid hk
          have hcall := fun (wx : World) (hb : Below w.heap.size w wx) => impl_next_cmd (m := (m' : Int)) (k := (q : Int)) (r := r) (key := key) (HT.out.keep hb) HK.out HM.out
          rw [ht] at hcall
          have HC := Lib.hid hcall
          have HTN := Lib.hid ht
          have hq9 : (q : Int) ≤ 9 := by omega
          have ht0 : (0 : Int) ≤ (t : Int) := by omega
          have ht6' : (t : Int) < 6 := by omega
          clear hcall hk hnx ht
          go_wp2_with fail
          refine Calls.mono (HC.out _ hbl) ?_
          rintro e w1 ⟨rfl, hb1⟩
          have hs1 := hb1.size
          replace HQ := Lib.hid (HQ.out.keep hb1)
          replace HS := Lib.hid (HS.out.keep hb1)
          replace HZ := Lib.hid (HZ.out.keep hb1)
          replace hbl : Below w.heap.size w w1 := by repeat (first | exact Below.refl _ _ | assumption | refine below_allocS ?_ _ | refine below_callS ?_ (by assumption) | (refine Below.alloc ?_ (by first | omega | (simp; done) | (simp; omega)) _) | (refine Below.setCell ?_ (by first | omega | (simp; done) | (simp; omega)) _) | refine Below.drew ?_ | refine below_drewN ?_ _ | (refine below_call ?_ (by assumption) (by first | omega | (simp; done) | (simp; omega))) | (refine Below.trans ?_ (by assumption)))
          clear hb1
          have ub := HS.out.blk
          have ul := ub.lt
          have ut := ub.cell t
          have um := ub.cell m'
          obtain ⟨gm, nm, cm, hvm, hom, hgm, hgmb⟩ := HS.out.yes m' lm (by omega) HLM.out
          rw [hvm] at um
          have HOM := Lib.hid hom
          have hnml := hom.len
          have hnm6 : nm ≤ 6 := by omega
          clear hom hvm hnml ub
          cases hs : (bfR r key (m' : Int) P q).out.getD t none with
          | some lt =>
            have HB := Lib.hid (bfK_some HTN.out hs)
            obtain ⟨gt, nt, ct, hvt, hot, hgt, hgtb⟩ := HS.out.yes t lt ht6 hs
            rw [hvt] at ut
            have hnl := fun (wx : World) => Lib.run_eql_slice_nil (P := Tryd.prog) wx 22 2 (some ⟨gt, 0, none⟩) nt ct 0 0 Tryd.underlying22
            clear hs hvt hot
            go_wp2_with fail
            go_roundw
            case rel => exact ⟨q + 1, gq, off, n, c, vs, rfl, by go_num, by omega, hgq, by omega, hbl, by show _; rw [bfR_succ, HB.out]; exact HQ, by show _; rw [bfR_succ, HB.out]; exact HS, HZ⟩
            case measure => simp [intOf]; omega
          | none =>
            have HB := Lib.hid (bfK_none HTN.out hs rfl HLM.out)
            have hvt := HS.out.no t ht6 hs
            rw [hvt] at ut
            have HV0 := Lib.hid hvt
            clear hs hvt
            have hnl := fun (wx : World) => Lib.run_eql_slice_nil (P := Tryd.prog) wx 22 2 none 0 0 0 0 Tryd.underlying22
            go_wp2_with fail
            refine Calls.mono (slices_Clone_i64 HOM.out.ints (by omega)) ?_
            rintro e w2 ⟨a2, c2, rfl, hb2, ho2, hnil⟩
            obtain ⟨g2, rfl⟩ : ∃ g2, a2 = some ⟨g2, 0, none⟩ := by
              rcases ho2.form with ⟨h1, _⟩ | h1
              · exact absurd (hnil h1) (by intro h; cases h)
              · exact h1
            have hs2 := hb2.size
            have HO2 := Lib.hid ho2
            have HB2 := Lib.hid hb2
            clear ho2 hnil hb2 ut um ul
            go_wp2_with (first | (at_builtin; refine appk1 rfl _ _ rfl Tryd.underlying22 Tryd.infoi64 w1.heap.size _ _ _ _ HO2.out rfl _ rfl (by first | rfl | (simp; done)) (show I64 (q : Int) by unfold I64; omega) (by omega) (by omega) ?_; intro g3 c3 wn ho hb hg3; clear HO2; have hbn : Below w1.heap.size w1 wn := HB2.out.trans hb; have hsn := hbn.size; have HO3 := Lib.hid ho; have hg3l := ho.lt; clear ho hb HB2; replace HQ := Lib.hid (HQ.out.keep hbn); replace HS := Lib.hid (HS.out.keep hbn); replace HZ := Lib.hid (HZ.out.keep hbn); replace hbl : Below w.heap.size w wn := below_callS hbl hbn; have ut := HS.out.blk.cell t; have hvt := HS.out.size; have ul := HS.out.blk.lt; have uf := HS.out.blk.free t; rw [HV0.out] at ut; clear hvt hbn) | (at_builtin; refine qapp1 rfl _ _ rfl Tryd.underlying22 Tryd.infoi64 _ _ _ _ _ (HQ.out.only (lo := w.heap.size + 1) (hi := w.heap.size + 2) ((Only.refl _ _ _).set (by omega) _ _) (by omega)) rfl _ rfl (by first | rfl | (simp; done)) (show I64 (t : Int) by unfold I64; omega) (by omega) ?_; intro g4 off4 c4 wq hq4 ho4 hg4))
            go_roundw
            case rel =>
              have hS4 := (HS.out.set (g := g3) (n := nm + 1) (c := c3) (l := lm ++ [(q : Int)]) ht6 (HO3.out.le (by omega)) (by omega) (by omega)).only ho4 (by omega) hg4
              have hZ4 := (HZ.out.apart ((Only.refl (w.heap.size + 1) (w.heap.size + 2) _).set (by omega) _ _) (by omega)).apart ho4 (by omega)
              have hB4 := ho4.below (show Below w.heap.size w _ by repeat (first | exact Below.refl _ _ | assumption | refine below_allocS ?_ _ | refine below_callS ?_ (by assumption) | (refine Below.alloc ?_ (by first | omega | (simp; done) | (simp; omega)) _) | (refine Below.setCell ?_ (by first | omega | (simp; done) | (simp; omega)) _) | refine Below.drew ?_ | refine below_drewN ?_ _ | (refine below_call ?_ (by assumption) (by first | omega | (simp; done) | (simp; omega))) | (refine Below.trans ?_ (by assumption)))) (by omega) (by simp [World.setCell]; omega)
              have hs4 := ho4.size
              simp [World.setCell] at hs4 hg4
              exact ⟨q + 1, g4, off4, n + 1, c4, _, rfl, by go_num, by omega, by omega, by omega, hB4, by show _; rw [bfR_succ, HB.out]; exact Lib.hid hq4, by show _; rw [bfR_succ, HB.out]; exact Lib.hid hS4, Lib.hid hZ4⟩
            case measure => simp [intOf]; omega
        · obtain rfl : q = 10 := by omega
          have hn1 : (1 : Int) ≤ (n : Int) := by omega
          have hnc1 : (n : Int) ≤ (c : Int) := by omega
          have hc0 : (1 : Int) ≤ (c : Int) := by omega
          by_cases hc1 : c = 1
          · subst hc1
            obtain rfl : n = 1 := by omega
            go_wp2_with fail
            go_roundg (6 - (p + 1))
            case measure => omega
            case rel => exact ⟨p + 1, gq, off, 0, 0, vs, rfl, by omega, by omega, hgq, hsr, hbl, by rw [HST.out]; have h := HQ.out.tail (by omega); simp at h; exact Lib.hid h, by rw [HST.out]; exact HS, HZ⟩
          · go_wp2_with fail
            go_roundg (6 - (p + 1))
            case measure => omega
            case rel => exact ⟨p + 1, gq, off + 1, n - 1, c - 1, vs, rfl, by omega, by omega, hgq, hsr, hbl, by rw [HST.out]; have h := HQ.out.tail (by omega); rw [if_neg hc1] at h; exact Lib.hid h, by rw [HST.out]; exact HS, HZ⟩
theorem Tryd.idx6 {cs : Array Value} {k : Nat} {v : Value} {w : World} (hk : k < 6) (hv : cs[k]? = some v) : (Instr.index 69 (.agg cs) (.int .i64 (k : Int))).run Tryd.prog w = .ok v w := by
  have h0 : (0 : Int) ≤ (k : Int) := by omega
  simp [Instr.index, run_underlying Tryd.underlying69, asIntOf, h0, go_sem, part, hv]
  intro h; omega
set_option maxRecDepth 100000 in
set_option maxHeartbeats 4000000 in
theorem impl_LeastCommands {f t r : Int} {key : Bool} {w : World} (hT : Tab w 1 (cmdRows.flatMap CRow.enc)) :
    Calls Tryd.prog 11 #[.int .i64 f, .int .i64 t, .int .i64 r, .bool key] w (LcRet w (lcL f t r key) (lcC f t r key)) := by
  have hb := lc_bad (f := f) (t := t) (r := r) (key := key)
  have hh := fun (x : List Int) => lc_hit (f := f) (t := t) (r := r) (key := key) (x := x)
  have hm := lc_miss (f := f) (t := t) (r := r) (key := key)
  have hv : lcV f t r = (inB f 0 5 && inB t 0 5 && inB r 0 3) := rfl
  generalize lcC f t r key = C at *
  generalize lcL f t r key = L at *
  generalize lcV f t r = V at *
  have HB := Lib.hid hb
  have HH := Lib.hid hh
  have HM := Lib.hid hm
  have HT := Lib.hid hT
  clear hb hh hm hT
  cases h1 : inB f 0 5
  · rw [h1] at hv
    obtain ⟨rfl, rfl⟩ := HB.out (by simp [hv])
    have H1 := Lib.hid h1
    clear h1 hv
    go_enter Tryd.func11, Tryd.ntmps11
    go_wp2_with fail
    refine Calls.mono (impl_isMode) ?_
    rintro e _ ⟨rfl, rfl⟩
    rw [H1.out]
    go_wp2
    exact bodyPost_ret (v := .tuple #[.slice none 0 0, .int .i64 2]) (by simp [results, Tryd.results11, go_sem]) rfl ⟨_, _, _, rfl, Below.refl _ _, OwnI.nil _ _ _⟩
  · cases h2 : inB t 0 5
    · rw [h1, h2] at hv
      obtain ⟨rfl, rfl⟩ := HB.out (by simp [hv])
      have H1 := Lib.hid h1
      have H2 := Lib.hid h2
      clear h1 h2 hv
      go_enter Tryd.func11, Tryd.ntmps11
      go_wp2_with fail
      refine Calls.mono (impl_isMode) ?_
      rintro e _ ⟨rfl, rfl⟩
      rw [H1.out]
      go_wp2_with fail
      refine Calls.mono (impl_isMode) ?_
      rintro e _ ⟨rfl, rfl⟩
      rw [H2.out]
      go_wp2
      exact bodyPost_ret (v := .tuple #[.slice none 0 0, .int .i64 2]) (by simp [results, Tryd.results11, go_sem]) rfl ⟨_, _, _, rfl, Below.refl _ _, OwnI.nil _ _ _⟩
    · cases h3 : inB r 0 3
      · rw [h1, h2, h3] at hv
        obtain ⟨rfl, rfl⟩ := HB.out (by simp [hv])
        have H1 := Lib.hid h1
        have H2 := Lib.hid h2
        have H3 := Lib.hid h3
        clear h1 h2 h3 hv
        go_enter Tryd.func11, Tryd.ntmps11
        go_wp2_with fail
        refine Calls.mono (impl_isMode) ?_
        rintro e _ ⟨rfl, rfl⟩
        rw [H1.out]
        go_wp2_with fail
        refine Calls.mono (impl_isMode) ?_
        rintro e _ ⟨rfl, rfl⟩
        rw [H2.out]
        go_wp2_with fail
        refine Calls.mono (impl_isRole) ?_
        rintro e _ ⟨rfl, rfl⟩
        rw [H3.out]
        go_wp2
        exact bodyPost_ret (v := .tuple #[.slice none 0 0, .int .i64 2]) (by simp [results, Tryd.results11, go_sem]) rfl ⟨_, _, _, rfl, Below.refl _ _, OwnI.nil _ _ _⟩
      · rw [h1, h2, h3] at hv
        have HV := Lib.hid (show V = true by simp [hv])
        have h1' := h1
        simp [inB] at h1'
        obtain ⟨f', rfl⟩ := Int.eq_ofNat_of_zero_le h1'.1
        have hf6 : f' < 6 := by omega
        have H1 := Lib.hid h1
        have H3 := Lib.hid h3
        clear h1 h3 hv h1'
        have h2' := h2
        simp [inB] at h2'
        obtain ⟨t', rfl⟩ := Int.eq_ofNat_of_zero_le h2'.1
        have ht6 : t' < 6 := by omega
        have H2 := Lib.hid h2
        clear h2 h2'
        go_enter Tryd.func11, Tryd.ntmps11
        go_wp2_with fail
        refine Calls.mono (impl_isMode) ?_
        rintro e _ ⟨rfl, rfl⟩
        rw [H1.out]
        go_wp2_with fail
        refine Calls.mono (impl_isMode) ?_
        rintro e _ ⟨rfl, rfl⟩
        rw [H2.out]
        go_wp2_with fail
        refine Calls.mono (impl_isRole) ?_
        rintro e _ ⟨rfl, rfl⟩
        rw [H3.out]
        go_wp2_with fail
        refine Calls.mono (impl_ways HT.out hf6 H3.out) ?_
        rintro e w1 ⟨vs, rfl, hvs, hb1, hno, hyes⟩
        have HNO := Lib.hid (hno t')
        have HYES := Lib.hid (hyes t')
        clear hno hyes hvs
        cases hx : leastF r key (t' : Int) (f' : Int) with
        | none =>
          have hidx := fun (wx : World) => Tryd.idx6 (w := wx) ht6 (HNO.out ht6 hx)
          obtain ⟨rfl, rfl⟩ := HM.out HV.out hx
          have hnl := fun (wx : World) => Lib.run_eql_slice_nil (P := Tryd.prog) wx 22 2 none 0 0 0 0 Tryd.underlying22
          clear HNO HYES hx
          go_wp2
          exact bodyPost_ret (v := .tuple #[.slice none 0 0, .int .i64 4]) (by simp [results, Tryd.results11, go_sem]) rfl ⟨_, _, _, rfl, hb1, OwnI.nil _ _ _⟩
        | some x =>
          obtain ⟨g, n, c, hv, ho⟩ := HYES.out x ht6 hx
          have hidx := fun (wx : World) => Tryd.idx6 (w := wx) ht6 hv
          obtain ⟨rfl, rfl⟩ := HH.out x HV.out hx
          have HO := Lib.hid ho
          have hnl := fun (wx : World) => Lib.run_eql_slice_nil (P := Tryd.prog) wx 22 2 (some ⟨g, 0, none⟩) n c 0 0 Tryd.underlying22
          clear HNO HYES hx ho hv
          go_wp2
          exact bodyPost_ret (v := .tuple #[.slice (some ⟨g, 0, none⟩) n c, .int .i64 0]) (by simp [results, Tryd.results11, go_sem]) rfl ⟨_, _, _, rfl, hb1, HO.out⟩
theorem lcL_len {f t r : Int} {key : Bool} : (lcL f t r key).length ≤ 6 := by
  unfold lcL
  split
  · simp
  · cases hx : leastF r key t f with
    | none => simp
    | some x =>
      obtain ⟨n, hn, h⟩ := List.exists_of_findSome?_eq_some hx
      have := srchF_len h
      simp at hn ⊢
      omega
end Go.Proofs.YtfhogleillgcgaaDoor
