/- Decision diagrams: what is valid, and that both ways to tell agree: plain laws.; Decision diagrams: the reference's walk, over nodes that need not be different: plain laws.; The canonical diagram of a reference among nodes: the reference, walked.; Decision diagrams: the values of references: plain laws.; Decision diagrams: the lists of bits with the value 1, and how many there are: plain laws. -/
import Derived.Test.YtkaikbaagajckaaGreatR10
import Derived.Test.YtkaikbaagajckaaGreatR12
namespace Go.Proofs.YtkaikbaagajckaaGreat
open Go.RowKit
set_option linter.unusedVariables false
set_option linter.unusedSimpArgs false
theorem wlk_nodup {N : List I3} : ∀ (f r : Nat) (D : List I3) (P : Nms), D.Nodup → (wlkN mkN N f (D, P) r).1.Nodup := by
  intro f
  induction f with
  | zero => intro r D P h; exact h
  | succ f ih =>
    intro r D P h
    rw [wlkN]
    split
    · exact h
    · split
      · exact h
      · split
        · exact h
        · rename_i x hx
          exact mkN_nodup (ih _ _ _ (ih _ _ _ h)) _ _ _
/-- the canonical nodes of a root, and the root's reference -/
def canN (mkf : List I3 → Int → Int → Int → List I3 × Int) (N : List I3) (root : Int) : List I3 × Int :=
  ((wlkN mkf N root.toNat ([], fun _ => 0) root.toNat).1, (wlkN mkf N root.toNat ([], fun _ => 0) root.toNat).2.2)
/-- different nodes with different branches, each behind those that it refers to -/
structure Redu (L : List I3) : Prop where
  nodup : L.Nodup
  frst : Frst L
  diff : ∀ x ∈ L, x.b ≠ x.c
theorem Redu.nil : Redu [] := ⟨List.nodup_nil, Frst.nil, fun x h => by cases h⟩
theorem Redu.add {L : List I3} (h : Redu L) {i lo hi : Int} (hl : RefB lo L.length) (hh : RefB hi L.length) : Redu (mkN L i lo hi).1 := by
  refine ⟨mkN_nodup h.nodup _ _ _, (h.frst.add hl hh).1, fun x hx => ?_⟩
  unfold mkN at hx
  split at hx
  · exact h.diff x hx
  · rename_i hne
    split at hx
    · exact h.diff x hx
    · rcases List.mem_append.1 hx with h1 | h1
      · exact h.diff x h1
      · simp at h1
        rw [h1]; exact hne
theorem can_same {N : List I3} (h : Redu N) {root : Int} (hr : RefB root N.length) : canN mkN N root = canN appN N root := by
  obtain ⟨h1, _⟩ := wlk_same h.nodup h.frst h.diff root.toNat root.toNat [] (fun _ => 0) (Nat.le_refl _) (by unfold RefB at hr; omega) (WkI.start N)
  rw [canN, canN, h1]
/-- the input of a reference, n for a constant -/
def lvlN (n : Int) (L : List I3) (r : Int) : Int := if r < 2 then n else (L.getD (r - 2).toNat ⟨0, 0, 0⟩).a
def ndB (n : Int) (L : List I3) (i : Nat) : Bool := inB (L.getD i ⟨0, 0, 0⟩).a 0 (n - 1) && inB (L.getD i ⟨0, 0, 0⟩).b 0 ((i : Int) + 1) && inB (L.getD i ⟨0, 0, 0⟩).c 0 ((i : Int) + 1) && ((L.getD i ⟨0, 0, 0⟩).b != (L.getD i ⟨0, 0, 0⟩).c) && decide ((L.getD i ⟨0, 0, 0⟩).a < lvlN n L (L.getD i ⟨0, 0, 0⟩).b) && decide ((L.getD i ⟨0, 0, 0⟩).a < lvlN n L (L.getD i ⟨0, 0, 0⟩).c)
def dia0 (n : Int) (L : List I3) (root : Int) : Bool := inB n 0 20 && decide (L.length ≤ 2000) && inB root 0 ((L.length : Int) + 1)
/-- a valid diagram -/
def diaB (n : Int) (L : List I3) (root : Int) : Bool := dia0 n L root && upB (ndB n L) L.length && decide (canN mkN L root = (L, root))
structure NdOk (n : Int) (L : List I3) (i : Nat) (x : I3) : Prop where
  inp : 0 ≤ x.a ∧ x.a ≤ n - 1
  low : 0 ≤ x.b ∧ x.b ≤ (i : Int) + 1
  high : 0 ≤ x.c ∧ x.c ≤ (i : Int) + 1
  ne : x.b ≠ x.c
  lb : x.a < lvlN n L x.b
  lc : x.a < lvlN n L x.c
theorem ndB_iff {n : Int} {L : List I3} {i : Nat} {x : I3} (hx : L[i]? = some x) : ndB n L i = true ↔ NdOk n L i x := by
  have e : L.getD i ⟨0, 0, 0⟩ = x := by rw [List.getD_eq_getElem?_getD, hx]; rfl
  rw [ndB, e]
  simp only [Bool.and_eq_true, inB, decide_eq_true_eq, bne_iff_ne]
  constructor
  · rintro ⟨⟨⟨⟨⟨h1, h2⟩, h3⟩, h4⟩, h5⟩, h6⟩
    exact ⟨h1, h2, h3, h4, h5, h6⟩
  · rintro ⟨h1, h2, h3, h4, h5, h6⟩
    exact ⟨⟨⟨⟨⟨h1, h2⟩, h3⟩, h4⟩, h5⟩, h6⟩
theorem upB_at {p : Nat → Bool} {n i : Nat} (h : upB p n = true) (hi : i < n) : p i = true := by
  rw [upB, List.all_eq_true] at h
  exact h i (List.mem_range.2 hi)
theorem nds_frst {n : Int} {L : List I3} (h : upB (ndB n L) L.length = true) : Frst L ∧ ∀ x ∈ L, x.b ≠ x.c := by
  refine ⟨⟨fun i x hx => ?_, fun i x hx => ?_⟩, fun x hx => ?_⟩
  · have := (ndB_iff hx).1 (upB_at h (List.getElem?_eq_some_iff.1 hx).1)
    exact ⟨this.low.1, by have := this.low.2; omega⟩
  · have := (ndB_iff hx).1 (upB_at h (List.getElem?_eq_some_iff.1 hx).1)
    exact ⟨this.high.1, by have := this.high.2; omega⟩
  · obtain ⟨i, hi⟩ := List.getElem?_of_mem hx
    exact ((ndB_iff hi).1 (upB_at h (List.getElem?_eq_some_iff.1 hi).1)).ne
/-- the program's way: nodes are different, and the walk appends -/
theorem dia_impl {n : Int} {L : List I3} {root : Int} : diaB n L root = (dia0 n L root && upB (ndB n L) L.length && decide L.Nodup && decide (canN appN L root = (L, root))) := by
  rw [diaB]
  cases h0 : dia0 n L root
  · rfl
  cases h1 : upB (ndB n L) L.length
  · rfl
  obtain ⟨hF, hR⟩ := nds_frst h1
  simp only [Bool.true_and]
  by_cases hd : L.Nodup
  · rw [decide_eq_true hd, Bool.true_and]
    have hr : RefB root L.length := by
      have h9 := h0
      rw [dia0, Bool.and_eq_true, Bool.and_eq_true, inB, inB, Bool.and_eq_true, Bool.and_eq_true] at h9
      simp only [decide_eq_true_eq] at h9
      exact ⟨h9.2.1, by have := h9.2.2; omega⟩
    rw [can_same ⟨hd, hF, hR⟩ hr]
  · rw [decide_eq_false hd, Bool.false_and, decide_eq_false]
    intro e
    have := wlk_nodup (N := L) root.toNat root.toNat [] (fun _ => 0) List.nodup_nil
    rw [canN, Prod.mk.injEq] at e
    rw [e.1] at this
    exact hd this
theorem dia_redu {n : Int} {L : List I3} {root : Int} (h : diaB n L root = true) : Redu L ∧ RefB root L.length ∧ 0 ≤ n ∧ n ≤ 20 ∧ L.length ≤ 2000 ∧ canN mkN L root = (L, root) ∧ ∀ (i : Nat) (x : I3), L[i]? = some x → NdOk n L i x := by
  rw [dia_impl] at h
  simp only [Bool.and_eq_true, decide_eq_true_eq] at h
  obtain ⟨⟨⟨h0, h1⟩, h2⟩, h3⟩ := h
  obtain ⟨hF, hR⟩ := nds_frst h1
  have h00 := h0
  rw [dia0, Bool.and_eq_true, Bool.and_eq_true, inB, inB, Bool.and_eq_true, Bool.and_eq_true] at h0
  simp only [decide_eq_true_eq] at h0
  obtain ⟨⟨h4, h5⟩, h6⟩ := h0
  have hr : RefB root L.length := ⟨h6.1, by have := h6.2; omega⟩
  exact ⟨⟨h2, hF, hR⟩, hr, h4.1, h4.2, h5, by rw [can_same ⟨h2, hF, hR⟩ hr]; exact h3, fun i x hx => (ndB_iff hx).1 (upB_at h1 (List.getElem?_eq_some_iff.1 hx).1)⟩
/-- how many references below m have a name -/
def nmC (P : Nms) : Nat → Nat
  | 0 => 0
  | m + 1 => nmC P m + (if P m > 0 then 1 else 0)
theorem nmC_le (P : Nms) : ∀ m, nmC P m ≤ m
  | 0 => Nat.le_refl _
  | m + 1 => by
    have := nmC_le P m
    rw [nmC]
    split <;> omega
theorem nmC_far {P : Nms} {r : Nat} {v : Int} : ∀ m, m ≤ r → nmC (fun q => if q = r then v else P q) m = nmC P m
  | 0, _ => rfl
  | m + 1, h => by
    rw [nmC, nmC, nmC_far m (by omega), if_neg (show ¬ m = r by omega)]
theorem nmC_new {P : Nms} {r : Nat} {v : Int} (h : ¬ P r > 0) (hv : v > 0) : ∀ m, r < m → nmC (fun q => if q = r then v else P q) m = nmC P m + 1
  | 0, hr => by omega
  | m + 1, hr => by
    rw [nmC, nmC]
    by_cases e : m = r
    · subst e
      rw [nmC_far m (Nat.le_refl _), if_pos rfl, if_pos hv, if_neg h]
    · rw [nmC_new h hv m (by omega), if_neg e]; omega
theorem nmC_ge {P : Nms} {r : Nat} {v : Int} (h : ¬ P r > 0) : ∀ m, nmC P m ≤ nmC (fun q => if q = r then v else P q) m
  | 0 => Nat.le_refl _
  | m + 1 => by
    have := nmC_ge (v := v) h m
    rw [nmC, nmC]
    by_cases e : m = r
    · subst e
      rw [if_neg h]; omega
    · rw [if_neg e]; omega
structure WmI (N D : List I3) (P : Nms) : Prop where
  frst : Frst D
  nm : ∀ q, RefB (P q) D.length
  few : D.length ≤ nmC P (N.length + 2)
theorem WmI.start (N : List I3) : WmI N [] (fun _ => 0) := ⟨Frst.nil, fun q => ⟨by omega, by simp⟩, by simp⟩
theorem WmI.len {N D : List I3} {P : Nms} (h : WmI N D P) : D.length ≤ N.length + 2 := Nat.le_trans h.few (nmC_le _ _)
structure WmR (N : List I3) (D : List I3) (P : Nms) (r : Nat) (A : List I3 × Nms × Int) : Prop where
  inv : WmI N A.1 A.2.1
  ref : RefB A.2.2 A.1.length
  far : ∀ q, r < q → A.2.1 q = P q
  len : D.length ≤ A.1.length
theorem wm_inv {N : List I3} (hF : Frst N) : ∀ (f r : Nat) (D : List I3) (P : Nms), r ≤ f → r < N.length + 2 → WmI N D P → WmR N D P r (wlkN mkN N f (D, P) r) := by
  intro f
  induction f with
  | zero =>
    intro r D P hr hrn h
    rw [wlk_low _ _ _ _ (show r < 2 by omega)]
    exact ⟨h, ⟨by simp only; omega, by simp only; omega⟩, fun q _ => rfl, Nat.le_refl _⟩
  | succ f ih =>
    intro r D P hr hrn h
    by_cases h2 : r < 2
    · rw [wlk_low _ _ _ _ h2]
      exact ⟨h, ⟨by simp only; omega, by simp only; omega⟩, fun q _ => rfl, Nat.le_refl _⟩
    by_cases hp : P r > 0
    · rw [wlk_old _ _ _ _ h2 hp]
      exact ⟨h, h.nm r, fun q _ => rfl, Nat.le_refl _⟩
    obtain ⟨x, hx⟩ : ∃ x, N[r - 2]? = some x := ⟨_, List.getElem?_eq_getElem (by omega)⟩
    have h3 := hF.low _ _ hx
    have h4 := hF.high _ _ hx
    unfold RefB at h3 h4
    have R1 := ih x.b.toNat D P (by omega) (by omega) h
    rw [wlk_new _ _ _ _ h2 hp hx]
    generalize wlkN mkN N f (D, P) x.b.toNat = A at *
    obtain ⟨D1, P1, r1⟩ := A
    have R2 := ih x.c.toNat D1 P1 (by omega) (by omega) R1.inv
    simp only at R1 R2 ⊢
    generalize wlkN mkN N f (D1, P1) x.c.toNat = B at *
    obtain ⟨D2, P2, r2⟩ := B
    have q1 : RefB r1 D2.length := R1.ref.mono R2.len
    have q2 : RefB r2 D2.length := R2.ref
    have hpr : ¬ P2 r > 0 := by
      have e2 : P2 r = P1 r := R2.far r (by omega)
      have e1 : P1 r = P r := R1.far r (by omega)
      rw [e2, e1]; exact hp
    have hA := R2.inv.frst.add (i := x.a) q1 q2
    have hl1 : D.length ≤ D1.length := R1.len
    have hl2 : D1.length ≤ D2.length := R2.len
    have hf1 := R1.far
    have hf2 := R2.far
    have hnm := R2.inv.nm
    have hfw := R2.inv.few
    simp only at hA hf1 hf2 hnm hfw ⊢
    obtain ⟨t, ht, ht1⟩ := mkN_pre D2 x.a r1 r2
    have hl3 : D2.length ≤ (mkN D2 x.a r1 r2).1.length := by rw [ht, List.length_append]; omega
    refine ⟨⟨hA.1, fun q => ?_, ?_⟩, hA.2, fun q hq => ?_, by simp only; omega⟩
    · simp only
      split
      · exact hA.2
      · exact (hnm q).mono hl3
    · simp only
      by_cases he : r1 = r2
      · rw [mkN_eq he]
        exact Nat.le_trans hfw (nmC_ge hpr _)
      · cases hpos : posN ⟨x.a, r1, r2⟩ D2 with
        | some k =>
          rw [mkN_old he hpos]
          exact Nat.le_trans hfw (nmC_ge hpr _)
        | none =>
          rw [mkN_new he (posN_none.1 hpos)]
          have e9 := nmC_new (P := P2) (r := r) (v := (D2.length : Int) + 2) hpr (by omega) (N.length + 2) (by omega)
          simp only [List.length_append, List.length_cons, List.length_nil]
          rw [e9]; omega
    · simp only
      rw [if_neg (by omega), hf2 q (by omega), hf1 q (by omega)]
theorem canm_ref {N : List I3} (hF : Frst N) {root : Int} (hr : RefB root N.length) : Frst (canN mkN N root).1 ∧ RefB (canN mkN N root).2 (canN mkN N root).1.length ∧ (canN mkN N root).1.length ≤ N.length + 2 := by
  have h := wm_inv hF root.toNat root.toNat [] (fun _ => 0) (Nat.le_refl _) (by unfold RefB at hr; omega) (WmI.start N)
  exact ⟨h.inv.frst, h.ref, h.inv.len⟩
/-- the names as the reference keeps them -/
def nmsL (P : Nms) (m : Nat) : List Int := (List.range m).map P
theorem nmsL_len (P : Nms) (m : Nat) : (nmsL P m).length = m := by simp [nmsL]
theorem nmsL_at (P : Nms) {m r : Nat} (h : r < m) : (nmsL P m)[r]? = some (P r) := by simp [nmsL, h]
theorem nmsL_set (P : Nms) {m r : Nat} (h : r < m) (v : Int) : (nmsL P m).set r v = nmsL (fun q => if q = r then v else P q) m := by
  apply List.ext_getElem?
  intro i
  rw [List.getElem?_set]
  by_cases hi : i < m
  · rw [nmsL_at _ hi, nmsL_len, nmsL_at _ hi]
    by_cases e : r = i
    · rw [if_pos e, if_pos h, if_pos e.symm]
    · rw [if_neg e, if_neg (fun h => e h.symm)]
  · rw [List.getElem?_eq_none (by rw [nmsL_len]; omega), List.getElem?_eq_none (l := nmsL (fun q => if q = r then v else P q) m) (by rw [nmsL_len]; omega)]
    by_cases e : r = i
    · omega
    · rw [if_neg e]
theorem nmsL_zero (m : Nat) : nmsL (fun _ => 0) m = List.replicate m 0 := by
  apply List.ext_getElem?
  intro i
  by_cases hi : i < m
  · rw [nmsL_at _ hi, List.getElem?_replicate, if_pos hi]
  · rw [List.getElem?_eq_none (by rw [nmsL_len]; omega), List.getElem?_replicate, if_neg hi]
theorem OwnI.typN {E : TypeId} {w : World} {base : Nat} {a : Option Addr} {n c : Nat} {l : List Int} (h : OwnI E w base a n c l) {g : Nat} (e : a = some ⟨g, 0, none⟩) : ∃ cur, w.heap[g]? = some (.cells cur E (0, 0)) := by
  subst e
  rcases h.1.2 with ⟨he, _⟩ | ⟨g', cap, cur, he, hb, hg, _⟩
  · simp only [Value.slice.injEq] at he; cases he.1
  · simp only [Value.slice.injEq, Option.some.injEq, Addr.mk.injEq] at he
    obtain ⟨⟨rfl, _⟩, _⟩ := he
    exact ⟨cur, hg⟩
theorem OwnI.atB {E : TypeId} {w w' : World} {base g : Nat} {n c : Nat} {l : List Int} (h : OwnI E w base (some ⟨g, 0, none⟩) n c l) (hb : w'.heap[g]? = w.heap[g]?) : OwnI E w' base (some ⟨g, 0, none⟩) n c l :=
  OwnI.here (lo := g) (hi := g + 1) (fun g' e => by simp at e; omega) w w' (fun k h1 h2 => by rw [show k = g by omega]; exact hb) h
theorem Flats.keepB {α : Type} {k : Nat} {enc : α → List Value} {ok : α → Prop} {w w' : World} {a : Option Addr} {n c B : Nat} {l : List α} (h : Flats k enc ok w a n c l) (hb : Below B w w') (hB : n = 0 ∨ ∀ g off, a = some ⟨g, off, none⟩ → g < B) : Flats k enc ok w' a n c l := by
  rcases hB with h0 | hB
  · exact ⟨h.len, h.cap, .inl h0, h.wf, h.nil⟩
  · exact h.only (lo := B) (hi := w'.heap.size) ⟨hb.os, hb.tape, hb.output, hb.size, fun q h1 h2 => hb.block q (by have := hb.size; omega)⟩ (fun g off e => .inl (hB g off e))
theorem Flats.lies {α : Type} {k : Nat} {enc : α → List Value} {ok : α → Prop} {w : World} {a : Option Addr} {n c : Nat} {l : List α} (h : Flats k enc ok w a n c l) : n = 0 ∨ ∀ g off, a = some ⟨g, off, none⟩ → g < w.heap.size := by
  rcases h.pos with h0 | ⟨b, o, ha, hb, _⟩
  · exact .inl h0
  · refine .inr fun g off e => ?_
    rw [ha] at e
    simp only [Option.some.injEq, Addr.mk.injEq] at e
    omega
/-- what the reference's walk has at hand -/
structure WlkA (w : World) (lo p gn mc : Nat) (na : Option Addr) (n nc : Nat) (N : List I3) (da : Option Addr) (dc : Nat) (D : List I3) (P : Nms) : Prop where
  nd : F3 w na n nc N
  b : BldA w lo p da dc D
  nm : OwnI 2 w lo (some ⟨gn, 0, none⟩) (N.length + 2) mc (nmsL P (N.length + 2))
  lown : n = 0 ∨ ∀ g off, na = some ⟨g, off, none⟩ → g < lo
  low : lo ≤ w.heap.size
/-- what it may write: the build, its nodes, the names -/
structure FrW (lo p gn : Nat) (w w' : World) : Prop where
  os : w'.os = w.os
  tape : w'.tape = w.tape
  output : w'.output = w.output
  size : w.heap.size ≤ w'.heap.size
  block : ∀ k, k < w.heap.size → k < lo → w'.heap[k]? = w.heap[k]?
theorem FrW.refl (lo p gn : Nat) (w : World) : FrW lo p gn w w := ⟨rfl, rfl, rfl, Nat.le_refl _, fun _ _ _ => rfl⟩
theorem FrW.trans {lo p gn : Nat} {w w' w'' : World} (h : FrW lo p gn w w') (h' : FrW lo p gn w' w'') : FrW lo p gn w w'' :=
  ⟨h'.os.trans h.os, h'.tape.trans h.tape, h'.output.trans h.output, Nat.le_trans h.size h'.size, fun k h0 h1 => (h'.block k (Nat.lt_of_lt_of_le h0 h.size) h1).trans (h.block k h0 h1)⟩
theorem FrW.below {lo p gn : Nat} {w w' : World} (h : FrW lo p gn w w') (hl : lo ≤ w.heap.size) : Below lo w w' := ⟨h.os, h.tape, h.output, h.size, fun k hk => h.block k (by omega) hk⟩
set_option maxRecDepth 100000 in
set_option maxHeartbeats 4000000 in
theorem spec_l22Walk {lo p gn mc n nc : Nat} {na : Option Addr} {N : List I3} (hF : Frst N) (hN : N.length ≤ 1048575) : ∀ (f r : Nat) (D : List I3) (P : Nms) (da : Option Addr) (dc : Nat) (w : World), WlkA w lo p gn mc na n nc N da dc D P → WmI N D P → r ≤ f → r < N.length + 2 →
    Calls Tryz.prog 151 #[.slice na n nc, .pointer (some ⟨p, 0, none⟩), .slice (some ⟨gn, 0, none⟩) (N.length + 2) mc, .int .i64 (r : Int)] w fun e w' => e = .returned (.int .i64 (wlkN mkN N f (D, P) r).2.2) ∧ (∃ da' dc', WlkA w' lo p gn mc na n nc N da' dc' (wlkN mkN N f (D, P) r).1 (wlkN mkN N f (D, P) r).2.1) ∧ FrW lo p gn w w' := by
  have low : ∀ (f r : Nat) (D : List I3) (P : Nms) (da : Option Addr) (dc : Nat) (w : World), r < 2 → WlkA w lo p gn mc na n nc N da dc D P →
      Calls Tryz.prog 151 #[.slice na n nc, .pointer (some ⟨p, 0, none⟩), .slice (some ⟨gn, 0, none⟩) (N.length + 2) mc, .int .i64 (r : Int)] w fun e w' => e = .returned (.int .i64 (wlkN mkN N f (D, P) r).2.2) ∧ (∃ da' dc', WlkA w' lo p gn mc na n nc N da' dc' (wlkN mkN N f (D, P) r).1 (wlkN mkN N f (D, P) r).2.1) ∧ FrW lo p gn w w' := by
    intro f r D P da dc w h2 hC
    rw [wlk_low _ _ _ _ h2]
    have HC := Lib.hid hC
    clear hC
    have h2' : (r : Int) < 2 := by omega
    go_enter Tryz.func151, Tryz.ntmps151
    go_wp2
    go_ret
    exact ⟨rfl, ⟨_, _, HC.out⟩, FrW.refl _ _ _ _⟩
  intro f
  induction f with
  | zero =>
    intro r D P da dc w hC hW hr hrn
    exact low 0 r D P da dc w (by omega) hC
  | succ f ih =>
    intro r D P da dc w hC hW hr hrn
    by_cases h2 : r < 2
    · exact low _ r D P da dc w h2 hC
    have h2' : ¬ (r : Int) < 2 := by omega
    obtain ⟨v0, hv0, hvi, hcell⟩ := hC.nm.cell (k := r) (by omega)
    rw [nmsL_at P (by omega)] at hv0
    cases hv0
    have hm1 : (0 : Int) ≤ (r : Int) := by omega
    have hm2 : (r : Int) < (N.length : Int) + 2 := by omega
    have gnl := hC.nm.lt.2
    by_cases hp : P r > 0
    · rw [wlk_old _ _ _ _ h2 hp]
      have HC := Lib.hid hC
      clear hC ih low
      have hp' : 0 < P r := hp
      go_enter Tryz.func151, Tryz.ntmps151
      go_wp2
      go_ret
      exact ⟨rfl, ⟨_, _, HC.out⟩, FrW.refl _ _ _ _⟩
    · have hpN : ¬ 0 < P r := hp
      obtain ⟨x, hx⟩ : ∃ x, N[r - 2]? = some x := ⟨_, List.getElem?_eq_getElem (by omega)⟩
      have h3 := hF.low _ _ hx
      have h4 := hF.high _ _ hx
      unfold RefB at h3 h4
      have hb0 : (x.b.toNat : Int) = x.b := by omega
      have hc0 : (x.c.toNat : Int) = x.c := by omega
      have R1 := wm_inv hF f x.b.toNat D P (by omega) (by omega) hW
      rw [wlk_new _ _ _ _ h2 hp hx]
      have C1 := fun (da : Option Addr) (dc : Nat) (w : World) (hC : WlkA w lo p gn mc na n nc N da dc D P) => ih x.b.toNat D P da dc w hC hW (by omega) (by omega)
      rw [hb0] at C1
      generalize wlkN mkN N f (D, P) x.b.toNat = A at *
      obtain ⟨D1, P1, r1⟩ := A
      have R2 := wm_inv hF f x.c.toNat D1 P1 (by omega) (by omega) R1.inv
      have C2 := fun (da : Option Addr) (dc : Nat) (w : World) (hC : WlkA w lo p gn mc na n nc N da dc D1 P1) => ih x.c.toNat D1 P1 da dc w hC R1.inv (by omega) (by omega)
      rw [hc0] at C2
      simp only at C1 ⊢
      generalize wlkN mkN N f (D1, P1) x.c.toNat = B at *
      obtain ⟨D2, P2, r2⟩ := B
      have hd2 := R2.inv.len
      have hq1 := R1.ref
      have hq2 := R2.ref
      have hln := R2.len
      have hMK := (R2.inv.frst.add (i := x.a) (hq1.mono hln) hq2).2
      obtain ⟨t, ht, ht1⟩ := mkN_pre D2 x.a r1 r2
      simp only at C2 hd2 hq1 hq2 hln hMK ⊢
      rw [ht, List.length_append] at hMK
      unfold RefB at hq1 hq2 hMK
      obtain ⟨k, hk⟩ : ∃ k, r - 2 = k := ⟨_, rfl⟩
      rw [hk] at hx h3 h4
      have i1 : IntKind.i64.wrap ((r : Int) - 2) = (k : Int) := by rw [IntWalk.i64_in _ (by omega)]; omega
      have hkn : k < n := by rw [← hC.nd.len]; exact (List.getElem?_eq_some_iff.1 hx).1
      obtain ⟨b, off, y, rfl, hb, hy, hwf, hc0', hc1', hc2'⟩ := F3.get hC.nd hkn
      rw [hx] at hy
      cases hy
      have GET := Lib.hid (fun (w' : World) (D' : List I3) (P' : Nms) (da' : Option Addr) (dc' : Nat) (h : WlkA w' lo p gn mc (some ⟨b, off, none⟩) n nc N da' dc' D' P') => (show b < w'.heap.size ∧ w'.cell? ⟨b, off + k * 3, none⟩ = some (.int .i64 x.a) ∧ w'.cell? ⟨b, off + k * 3 + 1, none⟩ = some (.int .i64 x.b) ∧ w'.cell? ⟨b, off + k * 3 + 2, none⟩ = some (.int .i64 x.c) from by
        obtain ⟨b', off', y', e, hb', hy', _, q0, q1, q2⟩ := F3.get h.nd hkn
        rw [hx] at hy'
        cases hy'
        cases e
        exact ⟨hb', q0, q1, q2⟩))
      have HC := Lib.hid hC
      have K1 := Lib.hid C1
      have K2 := Lib.hid C2
      have hk0 : (0 : Int) ≤ (k : Int) := by omega
      have hkn' : (k : Int) < (n : Int) := by omega
      have HT := Lib.hid ht
      clear hC hx C1 C2 R1 R2 ih hW hk low ht
      go_enter Tryz.func151, Tryz.ntmps151
      go_wp2_with fail
      refine Calls.mono (K1.out _ _ _ HC.out) ?_
      rintro e w1 ⟨rfl, ⟨da1, dc1, hC1⟩, hF1⟩
      have HC1 := Lib.hid hC1
      have HF1 := Lib.hid hF1
      obtain ⟨gb, g0, g1, g2⟩ := GET.out _ _ _ _ _ hC1
      clear hC1 hF1 hb hc0' hc1' hc2' hcell gnl
      go_wp2_with fail
      refine Calls.mono (K2.out _ _ _ HC1.out) ?_
      rintro e w2 ⟨rfl, ⟨da2, dc2, hC2⟩, hF2⟩
      have HC2 := Lib.hid hC2
      have HF2 := Lib.hid (HF1.out.trans hF2)
      clear gb g0 g1 g2
      obtain ⟨gb, g0, g1, g2⟩ := GET.out _ _ _ _ _ hC2
      clear hC2 hF2 HF1 HC1
      go_wp2_with fail
      refine Calls.mono (spec_l22Node HC2.out.b (by omega) hwf.1 (by unfold I64; omega) (by unfold I64; omega) HC2.out.low) ?_
      rintro e w3 ⟨rfl, ⟨da3, dc3, hB3⟩, hF3⟩
      have hb3 : Below lo w2 w3 := hF3.below (Below.refl _ _) HC2.out.low (Nat.le_refl _) HC2.out.b.lop HC2.out.b.lop
      have hgp : gn ≠ p := fun e => by
        obtain ⟨cur, hc⟩ := HC2.out.nm.typN rfl
        have h := HC2.out.b.blk
        rw [Blk, ← e, hc] at h
        simp at h
      have N3 := Lib.hid (HC2.out.nm.atB (hF3.block gn HC2.out.nm.lt.2 hgp hgp (.inr (fun cs l he => by
        obtain ⟨cur, hc⟩ := HC2.out.nm.typN rfl
        rw [hc] at he
        simp at he))))
      have B3 := Lib.hid hB3
      have D3 := Lib.hid (HC2.out.nd.keepB hb3 HC2.out.lown)
      have HF3 := Lib.hid (HF2.out.trans (show FrW lo p gn w2 w3 from ⟨hF3.os, hF3.tape, hF3.output, hF3.size, fun q h0 h1 => hb3.block q h1⟩))
      have LOWN := Lib.hid HC2.out.lown
      have hlo3 : lo ≤ w3.heap.size := Nat.le_trans HC2.out.low hF3.size
      clear hB3 hF3 hb3 HF2 HC2 gb g0 g1 g2 HC
      obtain ⟨v0, hv0, hvi, hcell⟩ := N3.out.cell (k := r) (by omega)
      have gnl := N3.out.lt.2
      have gnf := N3.out.free
      clear hv0
      have hmv : I64 (mkN D2 x.a r1 r2).2 := by unfold I64; omega
      go_wp2_with fail
      go_ret
      have hsg := set_grown (w := w3) gn r (.int .i64 (mkN D2 x.a r1 r2).2)
      have hbl : Below lo w3 (w3.setCell ⟨gn, r, none⟩ (.int .i64 (mkN D2 x.a r1 r2).2)) := ⟨hsg.os, hsg.tape, hsg.output, hsg.size, fun q hq => hsg.block q (by omega) (fun e => by have := N3.out.lt.1; simp at e; omega)⟩
      refine ⟨rfl, ⟨da3, dc3, D3.out.keepB hbl LOWN.out, ⟨B3.out.blk.keepG hsg (by simpa using hgp), B3.out.own.keepG hsg (fun g e e' => ?_), B3.out.lop⟩, ?_, LOWN.out, Nat.le_trans hlo3 hsg.size⟩, HF3.out.trans ⟨hsg.os, hsg.tape, hsg.output, hsg.size, fun q h0 h1 => hbl.block q h1⟩⟩
      · obtain ⟨c1, e1⟩ := B3.out.own.typN e
        obtain ⟨c2, e2⟩ := N3.out.typN rfl
        simp only [Option.some.injEq] at e'
        rw [← e', e2] at e1
        simp at e1
      · have h := N3.out.set r hmv
        rw [nmsL_set P2 (by omega)] at h
        exact h
theorem OwnI.zeros9 {E : TypeId} {base m : Nat} {cs : Array Value} (w : World) (h : base ≤ w.heap.size) (hm : m ≤ 2000000) (hc : cs = (List.replicate m (Value.int .i64 0)).toArray) : OwnI E (w.alloc (.cells cs E)) base (some ⟨w.heap.size, 0, none⟩) m m (List.replicate m 0) := by
  subst hc
  refine ⟨?_, fun x hx => ?_⟩
  · have := World.ownsRow_lit (base := base) (e := E) (size := 1) w (List.replicate m (Value.int .i64 0)).toArray m h (by unfold maxLen; omega) (by simp)
    simpa using this
  · obtain ⟨_, rfl⟩ := List.mem_replicate.1 hx; decide
theorem mkZ (n : Nat) (hn : n ≤ 1048580) (w : World) : (Instr.makeSlice 22 (.int .i64 (n : Int)) (.int .i64 (n : Int))).run Tryz.prog w = .ok (.slice (some ⟨w.heap.size, 0, none⟩) n n) (w.alloc (.cells (List.replicate n (Value.int .i64 0)).toArray 2)) := by
  obtain ⟨i0, hi, hz0, hz1, hz2⟩ := info_parts Tryz.infoi64
  have h := run_make (P := Tryz.prog) w 22 2 i0 (.int .i64 0) Tryz.underlying22 hi hz0 .i64 .i64 (n : Int) (n : Int) (by omega) (by omega) (by rw [hz2]; omega) (by omega)
  rw [hz1, Nat.mul_one] at h
  rw [h, Int.toNat_natCast, show madeCells (Value.cells (.int .i64 0)) n = (List.replicate n (Value.int .i64 0)).toArray from ?_]
  rw [show Value.cells (.int .i64 0) = #[.int .i64 0] from rfl]
  apply Array.toList_inj.1
  rw [toList_madeCells_one]
set_option maxRecDepth 100000 in
set_option maxHeartbeats 4000000 in
theorem spec_l22Canonical {n nc : Nat} {inp root : Int} {na : Option Addr} {N : List I3} {w : World} (hF : Frst N) (hN : N.length ≤ 1048575) (hI : F3 w na n nc N) (hr : RefB root N.length) :
    Calls Tryz.prog 81 #[.int .i64 inp, .slice na n nc, .int .i64 root] w fun e w' => ∃ da dc, e = .returned (.agg #[.int .i64 inp, .slice da (canN mkN N root).1.length dc, .int .i64 (canN mkN N root).2]) ∧ OwnF 3 I3.enc I3.ok 117 w' w.heap.size da (canN mkN N root).1.length dc (canN mkN N root).1 ∧ Below w.heap.size w w' := by
  obtain ⟨r, rfl⟩ : ∃ r : Nat, root = (r : Int) := ⟨root.toNat, by have := hr.1; omega⟩
  have hrn : r < N.length + 2 := by have := hr.2; omega
  obtain rfl : N.length = n := hI.len
  have HI := Lib.hid hI
  obtain ⟨m, hm⟩ : ∃ m, m = N.length + 2 := ⟨_, rfl⟩
  have hmk : ∀ wx : World, (Instr.makeSlice 22 (.int .i64 ((N.length : Int) + 2)) (.int .i64 ((N.length : Int) + 2))).run Tryz.prog wx = .ok (.slice (some ⟨wx.heap.size, 0, none⟩) m m) (wx.alloc (.cells (Array.replicate m (Value.int .i64 0)) 2)) := fun wx => by
    have h := mkZ m (by omega) wx
    rw [show (m : Int) = (N.length : Int) + 2 by omega, show (List.replicate m (Value.int .i64 0)).toArray = Array.replicate m (Value.int .i64 0) by simp] at h
    exact h
  have HM := Lib.hid hm
  clear hI hm
  go_enter Tryz.func81, Tryz.ntmps81
  go_wp2_with fail
  obtain rfl := HM.out
  have hb3 := fun (o1 o2 o3 : Obj) => below_alloc1 (below_alloc1 (below_alloc1 (Below.refl w.heap.size w) o1) o2) o3
  have X3 := Lib.hid ((Blk.made w #[.int .i64 0, .slice none 0 0, .int .i64 0] 40).keep (below_alloc1 (below_alloc1 (Below.refl _ _) (.cells #[.slice none 0 0] 110)) (.cells (Array.replicate (N.length + 2) (Value.int .i64 0)) 2)))
  refine Calls.mono (spec_l22Walk (lo := w.heap.size + 1) (n := N.length) (nc := nc) (na := na) hF hN r r [] (fun _ => 0) none 0 _ ?_ (WmI.start N) (Nat.le_refl _) hrn) ?_
  · refine ⟨HI.out.keep (hb3 _ _ _), ⟨(Blk.made1 _ _ _ _).keep (below_alloc1 (Below.refl _ _) _), ⟨World.ownsRow_nil _ _ _ 3, (fun _ h => by cases h), rfl, fun _ => rfl⟩, Nat.le_refl _⟩, ?_, HI.out.lies.imp id (fun h g off e => Nat.lt_succ_of_lt (h g off e)), ?_⟩
    · rw [nmsL_zero]
      have h := OwnI.zeros9 (E := 2) (base := w.heap.size + 1) (m := N.length + 2) ((w.alloc (.cells #[.int .i64 0, .slice none 0 0, .int .i64 0] 40)).alloc (.cells #[.slice none 0 0] 110)) (by simp) (by omega) (by simp : Array.replicate (N.length + 2) (Value.int .i64 0) = _)
      simpa using h
    · simp
  rintro e w5 ⟨rfl, ⟨da, dc, hC⟩, hFr⟩
  have hb5 : Below w.heap.size w w5 := (hb3 _ _ _).trans ((hFr.below (by simp)).mono (by omega))
  have X5 := Lib.hid (X3.out.keepB (hFr.below (by simp)) (by omega))
  have HB5 := Lib.hid hb5
  have HC := Lib.hid hC
  have hs5 := hFr.size
  simp at hs5
  have hcan : canN mkN N (r : Int) = ((wlkN mkN N r ([], fun _ => 0) r).1, (wlkN mkN N r ([], fun _ => 0) r).2.2) := by rw [canN, Int.toNat_natCast]
  have HCAN := Lib.hid hcan
  clear hcan hC hFr hb5 hb3 X3
  generalize wlkN mkN N r ([], fun _ => 0) r = A at *
  obtain ⟨D, P, rt⟩ := A
  simp only at HC HCAN
  have d0 := HC.out.b.blk.cell 0
  have dl := HC.out.b.blk.lt
  have x0 := X5.out.cell 0
  have x1 := X5.out.cell 1
  have x2 := X5.out.cell 2
  have xl := X5.out.lt
  have xf := X5.out.free
  simp only [List.getElem?_toArray, List.getElem?_cons_succ, List.getElem?_cons_zero] at d0 x0 x1 x2
  go_wp2
  have hne : ∀ g, da = some ⟨g, 0, none⟩ → (some w.heap.size : Option Nat) ≠ some g := fun g e e' => by
    have := (HC.out.b.own.blk g e).1
    simp at e'
    omega
  have O := HC.out.b.own
  have HB := HB5.out
  refine bodyPost_ret (v := .agg #[.int .i64 inp, .slice da D.length dc, .int .i64 rt]) (by simp [results, Tryz.results81, go_sem, *]) rfl ⟨da, dc, ?_, ?_, ?_⟩
  · rw [HCAN.out]
  · rw [HCAN.out]
    exact (((O.keepG (set_grown _ _ _) hne).keepG (set_grown _ _ _) hne).keepG (set_grown _ _ _) hne).le (by omega)
  · exact bel
/-- the value of a reference -/
def evF (L : List I3) (β : Nat → Bool) : Nat → Int → Bool
  | 0, r => decide (r = 1)
  | f + 1, r => if r < 2 then decide (r = 1) else match L[(r - 2).toNat]? with
    | none => false
    | some x => evF L β f (if β x.a.toNat = true then x.c else x.b)
def evR (L : List I3) (β : Nat → Bool) (r : Int) : Bool := evF L β r.toNat r
theorem evF_low {L : List I3} {β : Nat → Bool} (f : Nat) {r : Int} (h : r < 2) : evF L β f r = decide (r = 1) := by
  cases f with
  | zero => rfl
  | succ f => rw [evF, if_pos h]
theorem evF_fuel {L : List I3} (hF : Frst L) {β : Nat → Bool} : ∀ (f g : Nat) (r : Int), r.toNat ≤ f → r.toNat ≤ g → evF L β f r = evF L β g r := by
  intro f
  induction f with
  | zero => intro g r hf hg; rw [evF_low _ (by omega), evF_low _ (by omega)]
  | succ f ih =>
    intro g r hf hg
    by_cases hr : r < 2
    · rw [evF_low _ hr, evF_low _ hr]
    · obtain ⟨g, rfl⟩ : ∃ g', g = g' + 1 := ⟨g - 1, by omega⟩
      rw [evF, evF, if_neg hr, if_neg hr]
      cases hx : L[(r - 2).toNat]? with
      | none => rfl
      | some x =>
        have h3 := hF.low _ _ hx
        have h4 := hF.high _ _ hx
        unfold RefB at h3 h4
        simp only
        split
        · exact ih g x.c (by omega) (by omega)
        · exact ih g x.b (by omega) (by omega)
theorem ev_low {L : List I3} {β : Nat → Bool} {r : Int} (h : r < 2) : evR L β r = decide (r = 1) := evF_low _ h
theorem ev_node {L : List I3} (hF : Frst L) {β : Nat → Bool} {k : Nat} {x : I3} (hx : L[k]? = some x) : evR L β ((k : Int) + 2) = evR L β (if β x.a.toNat = true then x.c else x.b) := by
  have h3 := hF.low _ _ hx
  have h4 := hF.high _ _ hx
  unfold RefB at h3 h4
  rw [evR, show ((k : Int) + 2).toNat = (k + 1) + 1 by omega, evF, if_neg (by omega), show ((k : Int) + 2 - 2).toNat = k by omega, hx]
  simp only
  split
  · exact evF_fuel hF _ _ _ (by omega) (Nat.le_refl _)
  · exact evF_fuel hF _ _ _ (by omega) (Nat.le_refl _)
/-- more nodes behind change nothing -/
theorem evF_app {L t : List I3} (hF : Frst L) {β : Nat → Bool} : ∀ (f : Nat) (r : Int), RefB r L.length → evF (L ++ t) β f r = evF L β f r := by
  intro f
  induction f with
  | zero => intro r _; rfl
  | succ f ih =>
    intro r hr
    rw [evF, evF]
    split
    · rfl
    · rename_i h2
      have hlt : (r - 2).toNat < L.length := by have := hr.2; have := hr.1; omega
      rw [List.getElem?_append_left hlt]
      have hx := List.getElem?_eq_getElem hlt
      rw [hx]
      simp only
      have h3 := (hF.low _ _ hx).mono (Nat.le_of_lt hlt)
      have h4 := (hF.high _ _ hx).mono (Nat.le_of_lt hlt)
      split
      · exact ih _ h4
      · exact ih _ h3
theorem ev_app {L t : List I3} (hF : Frst L) {β : Nat → Bool} {r : Int} (hr : RefB r L.length) : evR (L ++ t) β r = evR L β r := evF_app hF _ _ hr
theorem ev_mk {L : List I3} (hF : Frst L) {β : Nat → Bool} {i lo hi : Int} (hl : RefB lo L.length) (hh : RefB hi L.length) : evR (mkN L i lo hi).1 β (mkN L i lo hi).2 = if β i.toNat = true then evR L β hi else evR L β lo := by
  by_cases he : lo = hi
  · rw [mkN_eq he, he]; simp
  · obtain ⟨k, hk, hx⟩ := mkN_is L (i := i) he
    obtain ⟨hF2, hr2⟩ := hF.add (i := i) hl hh
    rw [hk, ev_node hF2 hx]
    obtain ⟨t, ht, _⟩ := mkN_pre L i lo hi
    rw [ht]
    simp only
    split
    · exact ev_app hF hh
    · exact ev_app hF hl
theorem ev_keep {L : List I3} (hF : Frst L) {β : Nat → Bool} {i lo hi r : Int} (hr : RefB r L.length) : evR (mkN L i lo hi).1 β r = evR L β r := by
  obtain ⟨t, ht, _⟩ := mkN_pre L i lo hi
  rw [ht]; exact ev_app hF hr
/-- the new references of a walk have the old values -/
theorem wk_ev {N D : List I3} {P : Nms} (h : WkI N D P) (hF : Frst N) {β : Nat → Bool} : ∀ (m : Nat) (r : Int), r.toNat ≤ m → VisN P r → evR D β (rvN P r) = evR N β r := by
  intro m
  induction m with
  | zero => intro r hm hv; rw [rvN, if_pos (by omega), ev_low (by omega), ev_low (by omega)]
  | succ m ih =>
    intro r hm hv
    by_cases h2 : r < 2
    · rw [rvN, if_pos h2, ev_low h2, ev_low h2]
    · obtain ⟨_, x, k, hx, hk, hd, vb, vc, lb, lc⟩ := h.nodes hF (hv.2 (by omega))
      rw [rvN, if_neg h2, hk, ev_node h.frst hd, show r = ((r.toNat - 2 : Nat) : Int) + 2 by omega, ev_node hF hx]
      simp only
      split
      · exact ih x.c (by omega) vc
      · exact ih x.b (by omega) vb
theorem can_walk {N : List I3} (h : Redu N) {root : Int} (hr : RefB root N.length) : ∃ P, WkI N (canN mkN N root).1 P ∧ (canN mkN N root).2 = rvN P root ∧ VisN P root := by
  obtain ⟨h1, R⟩ := wlk_same h.nodup h.frst h.diff root.toNat root.toNat [] (fun _ => 0) (Nat.le_refl _) (by unfold RefB at hr; omega) (WkI.start N)
  refine ⟨(wlkN appN N root.toNat ([], fun _ => 0) root.toNat).2.1, ?_, ?_, hr.1, fun h2 => R.vis (by omega)⟩
  · rw [canN, h1]; exact R.inv
  · have := R.ref
    rw [canN, h1, this]
    congr 1
    have := hr.1
    omega
theorem can_ev {N : List I3} (h : Redu N) {root : Int} (hr : RefB root N.length) (β : Nat → Bool) : evR (canN mkN N root).1 β (canN mkN N root).2 = evR N β root := by
  obtain ⟨P, h1, h2, h3⟩ := can_walk h hr
  rw [h2]
  exact wk_ev h1 h.frst _ _ (Nat.le_refl _) h3
/-- each node's input comes before those below it -/
def OrdN (n : Int) (L : List I3) : Prop := ∀ (i : Nat) (x : I3), L[i]? = some x → 0 ≤ x.a ∧ x.a < n ∧ x.a < lvlN n L x.b ∧ x.a < lvlN n L x.c
theorem lvl_node {n : Int} {L : List I3} {k : Nat} {x : I3} (hx : L[k]? = some x) : lvlN n L ((k : Int) + 2) = x.a := by
  rw [lvlN, if_neg (by omega), show ((k : Int) + 2 - 2).toNat = k by omega, List.getD_eq_getElem?_getD, hx]; rfl
theorem lvl_low {n : Int} {L : List I3} {r : Int} (h : r < 2) : lvlN n L r = n := if_pos h
theorem lvl_app {n : Int} {L t : List I3} {r : Int} (hr : RefB r L.length) : lvlN n (L ++ t) r = lvlN n L r := by
  rw [lvlN, lvlN]
  split
  · rfl
  · have := hr.1
    have := hr.2
    rw [List.getD_eq_getElem?_getD, List.getD_eq_getElem?_getD, List.getElem?_append_left (by omega)]
theorem OrdN.nil (n : Int) : OrdN n [] := fun i x h => by simp at h
theorem OrdN.add {n : Int} {L : List I3} (h : OrdN n L) (hF : Frst L) {i lo hi : Int} (hl : RefB lo L.length) (hh : RefB hi L.length) (h0 : 0 ≤ i) (hn : i < n) (h1 : i < lvlN n L lo) (h2 : i < lvlN n L hi) : OrdN n (mkN L i lo hi).1 ∧ i ≤ lvlN n (mkN L i lo hi).1 (mkN L i lo hi).2 := by
  unfold mkN
  split
  · exact ⟨h, by simp only; omega⟩
  · split
    · rename_i k hk
      refine ⟨h, ?_⟩
      simp only
      rw [lvl_node (posN_some hk).1]
      exact Int.le_refl _
    · refine ⟨fun j x hj => ?_, ?_⟩
      · simp only at hj ⊢
        by_cases hjl : j < L.length
        · rw [List.getElem?_append_left hjl] at hj
          have h3 := (hF.low _ _ hj).mono (Nat.le_of_lt hjl)
          have h4 := (hF.high _ _ hj).mono (Nat.le_of_lt hjl)
          rw [lvl_app h3, lvl_app h4]
          exact h j x hj
        · have hj2 : j = L.length := by
            have := (List.getElem?_eq_some_iff.1 hj).1
            simp at this; omega
          subst hj2
          simp at hj
          subst hj
          simp only
          rw [lvl_app hl, lvl_app hh]
          exact ⟨h0, hn, h1, h2⟩
      · simp only
        rw [lvl_node (x := ⟨i, lo, hi⟩) (by simp)]
        exact Int.le_refl _
/-- inputs before the reference's own do not matter -/
theorem ev_indep {n : Int} {L : List I3} (hF : Frst L) (hO : OrdN n L) {β γ : Nat → Bool} : ∀ (m : Nat) (r : Int), r.toNat ≤ m → RefB r L.length → (∀ i : Nat, lvlN n L r ≤ (i : Int) → (i : Int) < n → β i = γ i) → evR L β r = evR L γ r := by
  intro m
  induction m with
  | zero => intro r hm _ _; rw [ev_low (by omega), ev_low (by omega)]
  | succ m ih =>
    intro r hm hr hb
    by_cases h2 : r < 2
    · rw [ev_low h2, ev_low h2]
    · obtain ⟨k, rfl⟩ : ∃ k : Nat, r = (k : Int) + 2 := ⟨(r - 2).toNat, by omega⟩
      have hlt : k < L.length := by have := hr.2; omega
      obtain ⟨x, hx⟩ : ∃ x, L[k]? = some x := ⟨_, List.getElem?_eq_getElem hlt⟩
      obtain ⟨o1, o2, o3, o4⟩ := hO _ _ hx
      have h3 := hF.low _ _ hx
      have h4 := hF.high _ _ hx
      rw [lvl_node hx] at hb
      have hba : β x.a.toNat = γ x.a.toNat := hb _ (by omega) (by omega)
      rw [ev_node hF hx, ev_node hF hx, hba]
      have h3' := h3.2
      have h4' := h4.2
      split
      · exact ih _ (by omega) (h4.mono (Nat.le_of_lt hlt)) (fun i hi hn => hb i (by omega) hn)
      · exact ih _ (by omega) (h3.mono (Nat.le_of_lt hlt)) (fun i hi hn => hb i (by omega) hn)
theorem lvl_le {n : Int} {L : List I3} (hO : OrdN n L) {r : Int} (hr : RefB r L.length) : lvlN n L r ≤ n := by
  by_cases h2 : r < 2
  · rw [lvl_low h2]; exact Int.le_refl _
  · obtain ⟨k, rfl⟩ : ∃ k : Nat, r = (k : Int) + 2 := ⟨(r - 2).toNat, by omega⟩
    have hlt : k < L.length := by have := hr.2; omega
    obtain ⟨x, hx⟩ : ∃ x, L[k]? = some x := ⟨_, List.getElem?_eq_getElem hlt⟩
    rw [lvl_node hx]
    have := (hO _ _ hx).2.1
    omega
/-- an assignment with one input fixed -/
def fixB (β : Nat → Bool) (i : Nat) (b : Bool) : Nat → Bool := fun j => if j = i then b else β j
theorem ev_fix {n : Int} {L : List I3} (hF : Frst L) (hO : OrdN n L) {β : Nat → Bool} {r : Int} (hr : RefB r L.length) {i : Nat} {b : Bool} (hi : (i : Int) < lvlN n L r) : evR L (fixB β i b) r = evR L β r :=
  ev_indep hF hO _ r (Nat.le_refl _) hr fun j hj _ => by
    rw [fixB, if_neg (by omega)]
/-- equal values, equal references: nodes are different and so are their branches -/
theorem ev_inj {n : Int} {L : List I3} (hR : Redu L) (hO : OrdN n L) : ∀ (m : Nat) (r s : Int), r.toNat + s.toNat ≤ m → RefB r L.length → RefB s L.length → (∀ β, evR L β r = evR L β s) → r = s := by
  have hF := hR.frst
  intro m
  induction m with
  | zero =>
    intro r s hm hr hs _
    have := hr.1
    have := hs.1
    omega
  | succ m ih =>
    intro r s hm hr hs he
    -- a node whose input comes first differs from what does not look at it
    have key : ∀ (k : Nat) (x : I3) (q : Int), L[k]? = some x → RefB q L.length → x.a < lvlN n L q → (k + 2 + q.toNat ≤ m + 1) → (∀ β, evR L β ((k : Int) + 2) = evR L β q) → False := by
      intro k x q hx hq hlv hsum he
      obtain ⟨o1, o2, o3, o4⟩ := hO _ _ hx
      have hkl := (List.getElem?_eq_some_iff.1 hx).1
      have h3 := hF.low _ _ hx
      have h4 := hF.high _ _ hx
      have h3' := h3.2
      have h4' := h4.2
      have h3m := h3.mono (Nat.le_of_lt hkl)
      have h4m := h4.mono (Nat.le_of_lt hkl)
      have eb : x.b = q := ih x.b q (by omega) h3m hq fun β => by
        have h := he (fixB β x.a.toNat false)
        rw [ev_node hF hx, if_neg (by rw [fixB, if_pos rfl]; decide), ev_fix hF hO h3m (by omega), ev_fix hF hO hq (by omega)] at h
        exact h
      have ec : x.c = q := ih x.c q (by omega) h4m hq fun β => by
        have h := he (fixB β x.a.toNat true)
        rw [ev_node hF hx, if_pos (by rw [fixB, if_pos rfl]), ev_fix hF hO h4m (by omega), ev_fix hF hO hq (by omega)] at h
        exact h
      exact hR.diff x (List.mem_of_getElem? hx) (eb.trans ec.symm)
    by_cases r2 : r < 2
    · by_cases s2 : s < 2
      · have h := he (fun _ => false)
        rw [ev_low r2, ev_low s2] at h
        have h1 := hr.1
        have h2 := hs.1
        by_cases e : r = 1
        · rw [decide_eq_true e] at h
          have := of_decide_eq_true h.symm
          omega
        · rw [decide_eq_false e] at h
          have := of_decide_eq_false h.symm
          omega
      · obtain ⟨k, rfl⟩ : ∃ k : Nat, s = (k : Int) + 2 := ⟨(s - 2).toNat, by omega⟩
        have hlt : k < L.length := by have := hs.2; omega
        obtain ⟨x, hx⟩ : ∃ x, L[k]? = some x := ⟨_, List.getElem?_eq_getElem hlt⟩
        exact (key k x r hx hr (by rw [lvl_low r2]; exact (hO _ _ hx).2.1) (by omega) (fun β => (he β).symm)).elim
    · obtain ⟨k, rfl⟩ : ∃ k : Nat, r = (k : Int) + 2 := ⟨(r - 2).toNat, by omega⟩
      have hlt : k < L.length := by have := hr.2; omega
      obtain ⟨x, hx⟩ : ∃ x, L[k]? = some x := ⟨_, List.getElem?_eq_getElem hlt⟩
      obtain ⟨o1, o2, o3, o4⟩ := hO _ _ hx
      by_cases s2 : s < 2
      · exact (key k x s hx hs (by rw [lvl_low s2]; exact o2) (by omega) he).elim
      · obtain ⟨j, rfl⟩ : ∃ j : Nat, s = (j : Int) + 2 := ⟨(s - 2).toNat, by omega⟩
        have hlt2 : j < L.length := by have := hs.2; omega
        obtain ⟨y, hy⟩ : ∃ y, L[j]? = some y := ⟨_, List.getElem?_eq_getElem hlt2⟩
        obtain ⟨p1, p2, p3, p4⟩ := hO _ _ hy
        rcases Int.lt_trichotomy x.a y.a with e | e | e
        · exact (key k x _ hx hs (by rw [lvl_node hy]; exact e) (by omega) he).elim
        · have g3 := hF.low _ _ hx
          have g4 := hF.high _ _ hx
          have f3 := hF.low _ _ hy
          have f4 := hF.high _ _ hy
          have g3' := g3.2
          have g4' := g4.2
          have f3' := f3.2
          have f4' := f4.2
          have g3m := g3.mono (Nat.le_of_lt hlt)
          have g4m := g4.mono (Nat.le_of_lt hlt)
          have f3m := f3.mono (Nat.le_of_lt hlt2)
          have f4m := f4.mono (Nat.le_of_lt hlt2)
          have eb : x.b = y.b := ih x.b y.b (by omega) g3m f3m fun β => by
            have h := he (fixB β x.a.toNat false)
            rw [ev_node hF hx, ev_node hF hy, ← e, if_neg (by rw [fixB, if_pos rfl]; decide), if_neg (by rw [fixB, if_pos rfl]; decide), ev_fix hF hO g3m (by omega), ev_fix hF hO f3m (by omega)] at h
            exact h
          have ec : x.c = y.c := ih x.c y.c (by omega) g4m f4m fun β => by
            have h := he (fixB β x.a.toNat true)
            rw [ev_node hF hx, ev_node hF hy, ← e, if_pos (by rw [fixB, if_pos rfl]), if_pos (by rw [fixB, if_pos rfl]), ev_fix hF hO g4m (by omega), ev_fix hF hO f4m (by omega)] at h
            exact h
          have exy : x = y := by rw [I3.eta x, I3.eta y, e, eb, ec]
          subst exy
          rw [nodup_get hR.nodup hx hy]
        · exact (key j y _ hy hr (by rw [lvl_node hx]; exact e) (by omega) (fun β => (he β).symm)).elim
/-- all lists of so many bits, in lexicographic order -/
def allB : Nat → List (List Int)
  | 0 => [[]]
  | k + 1 => (allB k).map (0 :: ·) ++ (allB k).map (1 :: ·)
theorem allB_mem : ∀ {k : Nat} {s : List Int}, s ∈ allB k ↔ s.length = k ∧ ∀ x ∈ s, x = 0 ∨ x = 1
  | 0, s => by
    rw [allB, List.mem_singleton]
    constructor
    · rintro rfl; exact ⟨rfl, fun x h => by cases h⟩
    · rintro ⟨h, _⟩; exact List.length_eq_zero_iff.1 h
  | k + 1, s => by
    rw [allB, List.mem_append, List.mem_map, List.mem_map]
    constructor
    · rintro (⟨t, ht, rfl⟩ | ⟨t, ht, rfl⟩)
      · obtain ⟨h1, h2⟩ := allB_mem.1 ht
        exact ⟨by rw [List.length_cons, h1], fun x hx => by
          rcases List.mem_cons.1 hx with rfl | hx
          · exact .inl rfl
          · exact h2 x hx⟩
      · obtain ⟨h1, h2⟩ := allB_mem.1 ht
        exact ⟨by rw [List.length_cons, h1], fun x hx => by
          rcases List.mem_cons.1 hx with rfl | hx
          · exact .inr rfl
          · exact h2 x hx⟩
    · rintro ⟨h1, h2⟩
      cases s with
      | nil => cases h1
      | cons y t =>
        have ht : t ∈ allB k := allB_mem.2 ⟨by simpa using h1, fun x hx => h2 x (List.mem_cons_of_mem _ hx)⟩
        rcases h2 y (List.mem_cons_self ..) with rfl | rfl
        · exact .inl ⟨t, ht, rfl⟩
        · exact .inr ⟨t, ht, rfl⟩
theorem allB_nodup : ∀ k, (allB k).Nodup
  | 0 => by simp [allB]
  | k + 1 => by
    rw [allB, List.nodup_append]
    have hi : ∀ b : Int, ((allB k).map (b :: ·)).Nodup := fun b => by
      rw [List.Nodup, List.pairwise_map]
      exact (allB_nodup k).imp fun h e => h (by simpa using e)
    refine ⟨hi 0, hi 1, fun a ha b hb e => ?_⟩
    obtain ⟨x, _, rfl⟩ := List.mem_map.1 ha
    obtain ⟨y, _, rfl⟩ := List.mem_map.1 hb
    simp at e
/-- what a list of bits gives to the inputs from one on -/
def bitF (off : Nat) (s : List Int) : Nat → Bool := fun i => decide (off ≤ i) && (s.getD (i - off) 0 == 1)
theorem bitF_at (off : Nat) (b : Int) (t : List Int) : bitF off (b :: t) off = (b == 1) := by
  rw [bitF, decide_eq_true (Nat.le_refl _), Nat.sub_self]; rfl
theorem bitF_next (off : Nat) (b : Int) (t : List Int) {i : Nat} (h : off + 1 ≤ i) : bitF off (b :: t) i = bitF (off + 1) t i := by
  rw [bitF, bitF, decide_eq_true (show off ≤ i by omega), decide_eq_true h, show i - off = (i - (off + 1)) + 1 by omega]; rfl
/-- the branches of a reference at an input -/
def chN (n : Int) (L : List I3) (r : Int) (i : Int) : Int × Int := if lvlN n L r = i ∧ 2 ≤ r then ((L.getD (r - 2).toNat ⟨0, 0, 0⟩).b, (L.getD (r - 2).toNat ⟨0, 0, 0⟩).c) else (r, r)
theorem ch_skip {n : Int} {L : List I3} {r i : Int} (h : lvlN n L r ≠ i ∨ r < 2) : chN n L r i = (r, r) := if_neg (by omega)
theorem ch_node {n : Int} {L : List I3} {k : Nat} {x : I3} {i : Int} (hx : L[k]? = some x) (h : x.a = i) : chN n L ((k : Int) + 2) i = (x.b, x.c) := by
  rw [chN, if_pos ⟨(lvl_node hx).trans h, by omega⟩, show ((k : Int) + 2 - 2).toNat = k by omega, List.getD_eq_getElem?_getD, hx]; rfl
/-- both branches, and what they have to do with the value -/
theorem ch_all {n : Int} {L : List I3} (hF : Frst L) (hO : OrdN n L) {r : Int} (hr : RefB r L.length) {i : Nat} (hi : (i : Int) ≤ lvlN n L r) (hn : (i : Int) < n) :
    RefB (chN n L r i).1 L.length ∧ RefB (chN n L r i).2 L.length ∧ (i : Int) + 1 ≤ lvlN n L (chN n L r i).1 ∧ (i : Int) + 1 ≤ lvlN n L (chN n L r i).2 ∧ ∀ β : Nat → Bool, evR L β r = if β i = true then evR L β (chN n L r i).2 else evR L β (chN n L r i).1 := by
  by_cases h2 : r < 2
  · rw [ch_skip (.inr h2)]
    have := lvl_low (n := n) (L := L) h2
    exact ⟨hr, hr, by simp only; omega, by simp only; omega, fun β => by simp⟩
  · obtain ⟨k, rfl⟩ : ∃ k : Nat, r = (k : Int) + 2 := ⟨(r - 2).toNat, by omega⟩
    have hlt : k < L.length := by have := hr.2; omega
    obtain ⟨x, hx⟩ : ∃ x, L[k]? = some x := ⟨_, List.getElem?_eq_getElem hlt⟩
    obtain ⟨o1, o2, o3, o4⟩ := hO _ _ hx
    have hl := lvl_node (n := n) hx
    by_cases he : x.a = (i : Int)
    · rw [ch_node hx he]
      refine ⟨(hF.low _ _ hx).mono (Nat.le_of_lt hlt), (hF.high _ _ hx).mono (Nat.le_of_lt hlt), by simp only; omega, by simp only; omega, fun β => ?_⟩
      rw [ev_node hF hx, he, Int.toNat_natCast]
      simp only
      split <;> rfl
    · rw [ch_skip (.inl (by rw [hl]; exact he))]
      exact ⟨hr, hr, by simp only; omega, by simp only; omega, fun β => by simp⟩
theorem ev_zero (L : List I3) (β : Nat → Bool) : evR L β 0 = false := by rw [ev_low (by omega)]; rfl
theorem ev_bit {n : Int} {L : List I3} (hF : Frst L) (hO : OrdN n L) {r : Int} (hr : RefB r L.length) {i : Nat} (hi : (i : Int) + 1 ≤ lvlN n L r) (b : Int) (t : List Int) : evR L (bitF i (b :: t)) r = evR L (bitF (i + 1) t) r :=
  ev_indep hF hO _ r (Nat.le_refl _) hr fun j hj _ => bitF_next i b t (by omega)
end Go.Proofs.YtkaikbaagajckaaGreat
