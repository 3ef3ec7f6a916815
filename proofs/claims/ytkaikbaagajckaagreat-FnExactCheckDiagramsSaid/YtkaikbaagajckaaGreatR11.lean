/- The source of drawn numbers, walked.; What a draw leaves: the source alone has moved, all that is new is the call's own.; Draws: the steps of a walk, each for whatever world stands there.; Append of records to a row of the call's own: which block the new slice lies in.; append of one int64 to a slice of the call's own, and where the new slice lies. -/
import Derived.Test.YtkaikbaagajckaaGreatR06
import Derived.RegionTactic
import Derived.BigRegion
import Derived.Test.YtkaikbaagajckaaGreatR09
import Derived.Test.YtkaikbaagajckaaGreatR01
import Derived.Maps.AppendAt
import Derived.Deep.AppendLies
namespace Go.Proofs.YtkaikbaagajckaaGreat
open Go.RowKit
set_option linter.unusedVariables false
set_option linter.unusedSimpArgs false
instance I64.dec (x : Int) : Decidable (I64 x) := inferInstanceAs (Decidable (_ ∧ _))
/-- bytes that are read: '.slice a n c' -/
structure Byts (w : World) (a : Option Addr) (n c : Nat) : Prop where
  cap : n ≤ c
  pos : n = 0 ∨ ∃ b off, a = some ⟨b, off, none⟩ ∧ b < w.heap.size ∧ ∀ i, i < n → ∃ x : Int, 0 ≤ x ∧ x ≤ 255 ∧ w.cell? ⟨b, off + i, none⟩ = some (.int .u8 x)
theorem Byts.keep {w w' : World} {a : Option Addr} {n c : Nat} (h : Byts w a n c) (hb : Below w.heap.size w w') : Byts w' a n c := by
  refine ⟨h.cap, ?_⟩
  rcases h.pos with h0 | ⟨b, off, ha, hlt, hc⟩
  · exact .inl h0
  · exact .inr ⟨b, off, ha, Nat.lt_of_lt_of_le hlt hb.size, fun i hi => by obtain ⟨x, h1, h2, h3⟩ := hc i hi; exact ⟨x, h1, h2, (hb.cell (p := ⟨b, off + i, none⟩) hlt).trans h3⟩⟩
theorem Byts.at {w : World} {a : Option Addr} {n c : Nat} (h : Byts w a n c) {k : Nat} (hk : k < n) : ∃ b off x, a = some ⟨b, off, none⟩ ∧ b < w.heap.size ∧ (0 : Int) ≤ x ∧ x ≤ 255 ∧ w.cell? ⟨b, off + k, none⟩ = some (.int .u8 x) := by
  obtain ⟨b, off, ha, hlt, hc⟩ := h.pos.resolve_left (by omega)
  obtain ⟨x, h1, h2, h3⟩ := hc k hk
  exact ⟨b, off, x, ha, hlt, h1, h2, h3⟩
/-- bytes in blocks below lo -/
def BytsLo (w : World) (lo : Nat) (a : Option Addr) (n c : Nat) : Prop := Byts w a n c ∧ lo ≤ w.heap.size ∧ (n = 0 ∨ ∃ b off, a = some ⟨b, off, none⟩ ∧ b < lo)
theorem Byts.lo {w : World} {a : Option Addr} {n c : Nat} (h : Byts w a n c) : BytsLo w w.heap.size a n c :=
  ⟨h, Nat.le_refl _, h.pos.imp_right fun ⟨b, off, ha, hlt, _⟩ => ⟨b, off, ha, hlt⟩⟩
theorem BytsLo.below {w w' : World} {lo : Nat} {a : Option Addr} {n c : Nat} (h : BytsLo w lo a n c) (hb : Below lo w w') : BytsLo w' lo a n c := by
  obtain ⟨h1, h2, h3⟩ := h
  refine ⟨⟨h1.cap, ?_⟩, Nat.le_trans h2 hb.size, h3⟩
  rcases h3 with h0 | ⟨b, off, ha, hlt⟩
  · exact .inl h0
  · rcases h1.pos with h0 | ⟨b', off', ha', hlt', hc⟩
    · exact .inl h0
    · rw [ha] at ha'
      simp only [Option.some.injEq, Addr.mk.injEq, and_true] at ha'
      obtain ⟨rfl, rfl⟩ := ha'
      exact .inr ⟨b, off, ha, Nat.lt_of_lt_of_le hlt' hb.size, fun i hi => by obtain ⟨x, h1, h2, h3⟩ := hc i hi; exact ⟨x, h1, h2, (hb.cell (p := ⟨b, off + i, none⟩) hlt).trans h3⟩⟩
/-- block b is a source whose bytes lie below lo -/
def Src (T : TypeId) (w : World) (lo b : Nat) : Prop :=
  ∃ a n c p s, Blk w b #[.slice a n c, .int .i64 p, .int .i64 s] T ∧ BytsLo w lo a n c ∧ n ≤ 4096 ∧ 0 ≤ p ∧ p ≤ n ∧ 0 ≤ s ∧ s < 2147483647 ∧ lo ≤ b
theorem Src.lt {T : TypeId} {w : World} {lo b : Nat} (h : Src T w lo b) : lo ≤ b ∧ b < w.heap.size := by
  obtain ⟨a, n, c, p, s, h1, _, _, _, _, _, _, h2⟩ := h
  exact ⟨h2, h1.lt⟩
/-- the source stays where other blocks from lo on are written -/
theorem Src.apart {T : TypeId} {w w' : World} {lo b l2 h2 : Nat} (h : Src T w lo b) (ho : Only l2 h2 w w') (hd : b < l2 ∨ h2 ≤ b) (hl : lo ≤ l2) : Src T w' lo b := by
  have hlt := h.lt
  obtain ⟨a, n, c, p, s, h1, h3, r⟩ := h
  refine ⟨a, n, c, p, s, h1.apart ho hd, h3.below ?_, r⟩
  exact ⟨ho.os, ho.tape, ho.output, ho.size, fun k hk => ho.block k (by omega) (.inl (by omega))⟩
theorem Src.keep {T : TypeId} {w w' : World} {lo b : Nat} (h : Src T w lo b) (hb : Below w.heap.size w w') : Src T w' lo b :=
  h.apart (Only.of_below (lo := w.heap.size) (hi := w.heap.size) hb) (.inl h.lt.2) (Nat.le_of_lt (Nat.lt_of_le_of_lt h.lt.1 h.lt.2))
theorem Src.alloc {T : TypeId} {w : World} {lo b : Nat} (h : Src T w lo b) (o : Obj) : Src T (w.alloc o) lo b := h.keep ((Below.refl _ _).alloc (Nat.le_refl _) o)
theorem Src.drewN {T : TypeId} {w : World} {lo b : Nat} (h : Src T w lo b) (n : Nat) : Src T (w.drewN n) lo b := h.keep ⟨rfl, rfl, rfl, Nat.le_refl _, fun _ _ => rfl⟩
theorem Src.drew {T : TypeId} {w : World} {lo b : Nat} (h : Src T w lo b) : Src T w.drew lo b := h.keep ⟨rfl, rfl, rfl, Nat.le_refl _, fun _ _ => rfl⟩
theorem Src.set {T : TypeId} {w : World} {lo b b' : Nat} (h : Src T w lo b) (hb : b' ≠ b) (hl : lo ≤ b') (i : Nat) (v : Value) : Src T (w.setCell ⟨b', i, none⟩ v) lo b := by
  have := (Only.refl b' (b' + 1) w).set ⟨Nat.le_refl _, Nat.lt_succ_self _⟩ i v
  exact h.apart this (by omega) hl
theorem Blk.set {w : World} {b : Nat} {cs : Array Value} {T : TypeId} (h : Blk w b cs T) (i : Nat) (v : Value) : Blk (w.setCell ⟨b, i, none⟩ v) b (cs.setIfInBounds i v) T := by
  exact heap_setCell_same w b i cs T v h
def allI64 : List Int → Prop
  | [] => True
  | x :: r => I64 x ∧ allI64 r
theorem allI64.mem : ∀ {l : List Int}, allI64 l → ∀ x ∈ l, I64 x
  | [], _, x, h => by cases h
  | y :: r, h, x, hx => by
    rcases List.mem_cons.1 hx with rfl | hx
    · exact h.1
    · exact allI64.mem h.2 x hx
/-- what l01Next answers -/
def NextIn (n r : Int) : Prop := 0 ≤ r ∧ (n ≤ 1 → r = 0) ∧ (1 < n → r < n)
theorem NextIn.i64 {n r : Int} (h : NextIn n r) (hn : I64 n) : I64 r := by
  obtain ⟨h1, h2, h3⟩ := h
  unfold I64 at hn ⊢
  by_cases h : n ≤ 1
  · have := h2 h; omega
  · have := h3 (by omega); omega
def Sm (x : Int) : Prop := -1000000 ≤ x ∧ x ≤ 1000000
theorem Sm.i64 {x : Int} (h : Sm x) : I64 x := ⟨by have := h.1; omega, by have := h.2; omega⟩
def Sm5 (x : Int) : Prop := -100000 ≤ x ∧ x ≤ 100000
theorem Sm5.i64 {x : Int} (h : Sm5 x) : I64 x := ⟨by have := h.1; omega, by have := h.2; omega⟩
/-- from w to w' only the source b is written, and it is a source there -/
structure Dw (T : TypeId) (lo b : Nat) (w w' : World) : Prop where
  only : Only b (b + 1) w w'
  src : Src T w' lo b
  lt : b < w.heap.size
theorem Dw.start {T : TypeId} {lo b : Nat} {w w' : World} (h : Dw T lo b w w') : Dw T lo b w' w' := ⟨Only.refl _ _ _, h.src, h.src.lt.2⟩
theorem Dw.of {T : TypeId} {lo b : Nat} {w : World} (h : Src T w lo b) : Dw T lo b w w := ⟨Only.refl _ _ _, h, h.lt.2⟩
theorem Dw.trans {T : TypeId} {lo b : Nat} {w w' w'' : World} (h : Dw T lo b w w') (h' : Dw T lo b w' w'') : Dw T lo b w w'' := ⟨h.only.trans h'.only, h'.src, h.lt⟩
theorem Dw.belowG {T : TypeId} {lo b B : Nat} {w w' w'' : World} (h : Dw T lo b w w') (hb : Below B w' w'') (hB : w.heap.size ≤ B) : Dw T lo b w w'' := by
  have hlt := h.src.lt
  have hb0 := h.lt
  have hs := h.only.size
  refine ⟨⟨hb.os.trans h.only.os, hb.tape.trans h.only.tape, hb.output.trans h.only.output, Nat.le_trans hs hb.size, fun k hk hr => (hb.block k (by omega)).trans (h.only.block k hk hr)⟩, ?_, h.lt⟩
  refine h.src.apart (l2 := B) (h2 := w'.heap.size) ⟨hb.os, hb.tape, hb.output, hb.size, fun k hk hr => hb.block k (by omega)⟩ (.inl (by omega)) (by omega)
theorem Dw.below {T : TypeId} {lo b : Nat} {w w' w'' : World} (h : Dw T lo b w w') (hb : Below w'.heap.size w' w'') : Dw T lo b w w'' := h.belowG hb h.only.size
theorem Dw.alloc {T : TypeId} {lo b : Nat} {w w' : World} (h : Dw T lo b w w') (o : Obj) : Dw T lo b w (w'.alloc o) := h.below ((Below.refl _ _).alloc (Nat.le_refl _) o)
theorem Dw.drewN {T : TypeId} {lo b : Nat} {w w' : World} (h : Dw T lo b w w') (n : Nat) : Dw T lo b w (w'.drewN n) := h.below ⟨rfl, rfl, rfl, Nat.le_refl _, fun _ _ => rfl⟩
theorem Dw.drew {T : TypeId} {lo b : Nat} {w w' : World} (h : Dw T lo b w w') : Dw T lo b w w'.drew := h.below ⟨rfl, rfl, rfl, Nat.le_refl _, fun _ _ => rfl⟩
theorem Dw.set {T : TypeId} {lo b g : Nat} {w w' : World} (h : Dw T lo b w w') (hg : w.heap.size ≤ g) (i : Nat) (v : Value) : Dw T lo b w (w'.setCell ⟨g, i, none⟩ v) :=
  h.belowG ((Below.refl w.heap.size w').setCell (p := ⟨g, i, none⟩) hg v) (Nat.le_refl _)
theorem Dw.size {T : TypeId} {lo b : Nat} {w w' : World} (h : Dw T lo b w w') : w.heap.size ≤ w'.heap.size := h.only.size
theorem Dw.out {T : TypeId} {b : Nat} {w w1 w' : World} (h : Dw T w.heap.size b w1 w') (h0 : Below w.heap.size w w1) : Below w.heap.size w w' := by
  have := (h.src.lt).1
  exact h.only.below h0 this h0.size
/-- what a cell that is there holds -/
def valAt (w : World) (g i : Nat) : Value := (w.cell? ⟨g, i, none⟩).getD undef
theorem valAt_of {w : World} {g i : Nat} (h : (w.cell? ⟨g, i, none⟩).isSome = true) : w.cell? ⟨g, i, none⟩ = some (valAt w g i) := by
  obtain ⟨v, hv⟩ := Option.isSome_iff_exists.1 h
  rw [valAt, hv]; rfl
theorem Dw.has {T : TypeId} {lo b g o : Nat} {w w' : World} (h : Dw T lo b w w') {u : Value} (hc : w.cell? ⟨g, o, none⟩ = some u) (hne : g ≠ b) : w'.cell? ⟨g, o, none⟩ = some (valAt w' g o) := by
  have hlt := World.block_lt_of_cell? w _ hc
  refine valAt_of ?_
  rw [ocell h.only g o hlt (by omega), hc]; rfl
theorem cell_drew {w : World} {a : Addr} {u : Value} (h : w.cell? a = some u) : w.drew.cell? a = some u := h
theorem lt_drew {w : World} {g : Nat} (h : g < w.heap.size) : g < w.drew.heap.size := h
theorem Blk.has {w : World} {b : Nat} {cs : Array Value} {T : TypeId} (h : Blk w b cs T) {i : Nat} (hi : i < cs.size) : w.cell? ⟨b, i, none⟩ = some (valAt w b i) := by
  refine valAt_of ?_
  rw [h.cell i]; simp [hi]
theorem Blk.dw {T T' : TypeId} {lo b g : Nat} {w w' : World} {cs : Array Value} (h : Blk w g cs T') (hd : Dw T lo b w w') (hne : g ≠ b) : Blk w' g cs T' := h.apart hd.only (by omega)
theorem OwnI.dw {E T : TypeId} {lo b B : Nat} {w w' : World} {a : Option Addr} {n c : Nat} {l : List Int} (h : OwnI E w B a n c l) (hd : Dw T lo b w w') (hB : b < B) : OwnI E w' B a n c l :=
  h.only hd.only fun g hg => by have := (h.blk g hg).1; omega
theorem OwnF.dw {α : Type} {k : Nat} {enc : α → List Value} {ok : α → Prop} {E T : TypeId} {lo b B : Nat} {w w' : World} {a : Option Addr} {n c : Nat} {l : List α} (h : OwnF k enc ok E w B a n c l) (hd : Dw T lo b w w') (hB : b < B) : OwnF k enc ok E w' B a n c l :=
  h.only hd.only fun g hg => by have := (h.blk g hg).1; omega
theorem Ints.dw {T : TypeId} {lo b : Nat} {w w' : World} {a : Option Addr} {n c : Nat} {l : List Int} (h : Ints w a n c l) (hd : Dw T lo b w w') (hne : ∀ g off, a = some ⟨g, off, none⟩ → g ≠ b) : Ints w' a n c l :=
  h.only hd.only fun g off e => by have := hne g off e; omega
theorem OwnI.ne {E : TypeId} {w : World} {B b : Nat} {a : Option Addr} {n c : Nat} {l : List Int} (h : OwnI E w B a n c l) (hB : b < B) : ∀ g off, a = some ⟨g, off, none⟩ → g ≠ b := fun g off e => by
  rcases h.form with ⟨h1, _⟩ | ⟨q, h1⟩
  · rw [h1] at e; cases e
  · have := (h.blk q h1).1
    rw [h1] at e; simp only [Option.some.injEq, Addr.mk.injEq] at e; omega
theorem OwnF.emp {α : Type} {k : Nat} {enc : α → List Value} {ok : α → Prop} {E : TypeId} {base : Nat} (w : World) (h : base ≤ w.heap.size) (hk : ∀ x, (enc x).length = k) : OwnF k enc ok E (w.alloc (.cells #[] E)) base (some ⟨w.heap.size, 0, none⟩) 0 0 [] := by
  refine ⟨?_, (fun _ h => by cases h), rfl, hk⟩
  have := World.ownsRow_lit (base := base) (e := E) (size := k) w #[] 0 h (by omega) (by simp)
  simpa using this
theorem OwnI.zeros {E : TypeId} {base m : Nat} {cs : Array Value} (w : World) (h : base ≤ w.heap.size) (hm : m ≤ 1048576) (hc : cs = (List.replicate m (Value.int .i64 0)).toArray) : OwnI E (w.alloc (.cells cs E)) base (some ⟨w.heap.size, 0, none⟩) m m (List.replicate m 0) := by
  subst hc
  refine ⟨?_, fun x hx => ?_⟩
  · have := World.ownsRow_lit (base := base) (e := E) (size := 1) w (List.replicate m (Value.int .i64 0)).toArray m h (by unfold maxLen; omega) (by simp)
    simpa using this
  · obtain ⟨_, rfl⟩ := List.mem_replicate.1 hx; decide
theorem OwnF.zeros {α : Type} {k m : Nat} {enc : α → List Value} {ok : α → Prop} {E : TypeId} {base : Nat} {cs : Array Value} (w : World) (z : α) (h : base ≤ w.heap.size) (hm : m ≤ 1048576) (hk : ∀ x, (enc x).length = k) (hz : ok z) (hc : cs = ((List.replicate m z).flatMap enc).toArray) : OwnF k enc ok E (w.alloc (.cells cs E)) base (some ⟨w.heap.size, 0, none⟩) m m (List.replicate m z) := by
  subst hc
  refine ⟨?_, fun x hx => ?_, by simp, hk⟩
  · have hl : ((List.replicate m z).flatMap enc).length = m * k := by
      induction m with
      | zero => simp
      | succ m ih => rw [List.replicate_succ, List.flatMap_cons, List.length_append, hk, ih (by omega), Nat.succ_mul, Nat.add_comm]
    have := World.ownsRow_lit (base := base) (e := E) (size := k) w ((List.replicate m z).flatMap enc).toArray m h (by unfold maxLen; omega) (by simp [hl])
    simpa using this
  · obtain ⟨_, rfl⟩ := List.mem_replicate.1 hx; exact hz
theorem I3.one (y : I3) : ∀ u ∈ y.enc, u.oneCell' = true := fun u hu => by
  simp only [I3.enc, List.mem_cons, List.not_mem_nil, or_false] at hu
  rcases hu with rfl | rfl | rfl <;> rfl
theorem I2.one (y : I2) : ∀ u ∈ y.enc, u.oneCell' = true := fun u hu => by
  simp only [I2.enc, List.mem_cons, List.not_mem_nil, or_false] at hu
  rcases hu with rfl | rfl <;> rfl
/-- where nothing but blocks from base on is written, base behind the source -/
theorem Dw.own {T : TypeId} {lo b B : Nat} {w0 w w' : World} (h : Dw T lo b w0 w) (hb : Below B w w') (hB : w0.heap.size ≤ B) : Dw T lo b w0 w' := h.belowG hb hB
theorem lit_flats {α : Type} {k : Nat} {enc : α → List Value} {ok : α → Prop} (w : World) (T : TypeId) (l : List α) (cs : Array Value) (hk : ∀ x, (enc x).length = k) (h0 : 0 < k) (hcs : cs = (l.flatMap enc).toArray) (hl : ∀ x ∈ l, ok x) :
    Flats k enc ok (w.alloc (.cells cs T)) (some ⟨w.heap.size, 0, none⟩) l.length l.length l := by
  subst hcs
  refine ⟨rfl, Nat.le_refl _, .inr ⟨w.heap.size, 0, rfl, by simp, fun i x hx j v hv => ?_⟩, hl, fun h => by cases h⟩
  have := (Blk.made w (l.flatMap enc).toArray T).cell (i * k + j)
  rw [Nat.zero_add, this]
  have h1 := flat_get hk hx hv
  simpa using h1
theorem OwnF.lit {α : Type} {k m : Nat} {enc : α → List Value} {ok : α → Prop} {E : TypeId} {base : Nat} {cs : Array Value} (w : World) (l : List α) (h : base ≤ w.heap.size) (hm : l.length = m) (h9 : m ≤ 1048576) (hk : ∀ x, (enc x).length = k) (hz : ∀ x ∈ l, ok x) (hc : cs = (l.flatMap enc).toArray) : OwnF k enc ok E (w.alloc (.cells cs E)) base (some ⟨w.heap.size, 0, none⟩) m m l := by
  subst hc hm
  refine ⟨?_, hz, rfl, hk⟩
  have hl : (l.flatMap enc).length = l.length * k := by
    clear hz h9 
    induction l with
    | nil => simp
    | cons y r ih => rw [List.flatMap_cons, List.length_append, hk, ih, List.length_cons, Nat.succ_mul, Nat.add_comm]
  have := World.ownsRow_lit (base := base) (e := E) (size := k) w (l.flatMap enc).toArray l.length h (by unfold maxLen; omega) (by simp [hl])
  simpa using this
/-- 'append(out, xs...)' of records to a slice of the call's own, and where the new slice lies -/
theorem appAtS {α : Type} {k : Nat} {enc : α → List Value} {ok : α → Prop} {z : Value} {by' : Nat} {P : Program} {w : World} {ops : Array Oper} {rest : List Oper} {o : Oper} {act : Act} {Q : Exit → Act → World → Prop} (hgd : o.guard = none) (s x : Operand) (t e : TypeId)
    (ho : o.op = .call { callee := .builtin .append, args := #[s, x], argTypes := #[t, t] }) (ht : P.underlying t = some (.slice e)) (hinfo : (P.info? e).map (fun i => (i.zero, i.size, i.bytes)) = some (some z, k, by'))
    (hzs : z.cells.size = k) (hk : 0 < k) (hby : by' ≤ 128) (hone : ∀ y : α, ∀ u ∈ enc y, u.oneCell' = true)
    (base : Nat) (a : Option Addr) (n c : Nat) (l : List α) (hown : OwnF k enc ok e w base a n c l) (hs : act.eval s = .slice a n c) (a2 : Option Addr) (m c2 : Nat) (l2 : List α) (hx : act.eval x = .slice a2 m c2) (hsrc : Flats k enc ok w a2 m c2 l2)
    (h0 : 0 < m) (hn : n ≤ 4194304) (hm : m ≤ 4194304) (hbase : base ≤ w.heap.size)
    (K : ∀ g' c' w', OwnF k enc ok e w' base (some ⟨g', 0, none⟩) (n + m) c' (l ++ l2) → Below base w w' → w.grownBy w' (Value.slice a n c).ownBlock → (a = some ⟨g', 0, none⟩ ∨ g' = w.heap.size) → wpList P ops Q rest (act.put o.dst (.slice (some ⟨g', 0, none⟩) (n + m) c')) w') : wpList P ops Q (o :: rest) act w := by
  obtain ⟨i, hi, hz0, hz1, hz2⟩ := info_parts hinfo
  have hform : ∀ q, a = some q → ∃ g, q = ⟨g, 0, none⟩ := fun q hq => by
    rcases hown.1.2 with ⟨he, _⟩ | ⟨g, cap, cur, he, _⟩
    · simp only [Value.slice.injEq] at he; rw [hq] at he; cases he.1
    · simp only [Value.slice.injEq] at he; rw [hq] at he; exact ⟨g, Option.some.inj he.1⟩
  obtain ⟨hown1, hok, hlen, henc⟩ := hown
  have hmul : ∀ q : List α, (q.flatMap enc).length = q.length * k := fun q => by
    induction q with
    | nil => simp
    | cons y r ih => rw [List.flatMap_cons, List.length_append, ih, henc, List.length_cons, Nat.succ_mul, Nat.add_comm]
  cases a2 with
  | none =>
    obtain ⟨rfl, rfl⟩ := hsrc.nil rfl
    omega
  | some ad =>
    refine wpList_append_own_at w hgd s x t ho base e i z k by' ht hi hz0 hz1 hz2 hzs hk (.slice a n c) n _ hs hown1 ad m c2 (l2.flatMap enc) hx (by rw [hmul, hsrc.len]) ?_ ?_ (by unfold maxLen; omega) (Nat.le_trans (Nat.mul_le_mul_left (n + m) hby) (by omega)) hbase ?_
    · intro j u hj
      obtain ⟨x, h1, h2⟩ := flat_inv henc hk hj
      have hjm : j / k < m := by rw [← hsrc.len]; exact (List.getElem?_eq_some_iff.1 h1).1
      obtain ⟨b, off, he, _, hc⟩ := hsrc.pos.resolve_left (Nat.ne_of_gt (Nat.lt_of_le_of_lt (Nat.zero_le _) hjm))
      simp only [Option.some.injEq] at he
      subst he
      have e1 : (⟨b, off, none⟩ : Addr).add j = ⟨b, off + j, none⟩ := by by_cases h0 : j = 0 <;> simp [Addr.add, h0]
      have := hc _ x h1 _ u h2
      rw [Nat.add_assoc, Nat.mul_comm, Nat.div_add_mod] at this
      rw [e1]; exact this
    · intro u hu
      obtain ⟨y, _, hy⟩ := List.mem_flatMap.1 hu
      exact hone y u hy
    · intro v' w' hown' hg hnil hat
      have hfm := Joins.ownsRow_forms hown'
      have hb : Below base w w' := (Below.refl _ _).grown hg hbase fun q hq => (hown1.lt q hq).1
      have hmap : l.flatMap enc ++ l2.flatMap enc = (l ++ l2).flatMap enc := (List.flatMap_append ..).symm
      have hw : ∀ y ∈ l ++ l2, ok y := fun y hy => by
        rcases List.mem_append.1 hy with h | h
        · exact hok y h
        · exact hsrc.wf y h
      have hll : (l ++ l2).length = n + m := by rw [List.length_append, hlen, hsrc.len]
      rw [hmap] at hown'
      rcases hfm with ⟨_, h0'⟩ | ⟨g, cap, hv⟩
      · omega
      · rw [hv] at hown' hat ⊢
        refine K _ _ _ ⟨hown', hw, hll, henc⟩ hb hg ?_
        rcases hat with h | h
        · cases a with
          | none => simp [Value.ownBlock] at h
          | some q =>
            obtain ⟨g', rfl⟩ := hform q rfl
            simp [Value.ownBlock] at h
            exact .inl (by rw [h])
        · simp [Value.ownBlock] at h
          exact .inr h
/-- the same for a literal laid just before -/
theorem appAtL {α : Type} {k m : Nat} {enc : α → List Value} {ok : α → Prop} {zv : Value} {by' : Nat} {P : Program} {w : World} {ops : Array Oper} {rest : List Oper} {o : Oper} {act : Act} {Q : Exit → Act → World → Prop} {cs : Array Value} {t e : TypeId} (hgd : o.guard = none) (s x : Operand)
    (ho : o.op = .call { callee := .builtin .append, args := #[s, x], argTypes := #[t, t] }) (ht : P.underlying t = some (.slice e)) (hinfo : (P.info? e).map (fun i => (i.zero, i.size, i.bytes)) = some (some zv, k, by'))
    (hzs : zv.cells.size = k) (hk : 0 < k) (hby : by' ≤ 128) (hone : ∀ y : α, ∀ u ∈ enc y, u.oneCell' = true)
    (base : Nat) (a : Option Addr) (n c : Nat) (l l2 : List α) (hown : OwnF k enc ok e w base a n c l) (hs : act.eval s = .slice a n c) (gx : Nat) (hx : act.eval x = .slice (some ⟨gx, 0, none⟩) m m) (hg : gx = w.heap.size) (hcs : cs = (l2.flatMap enc).toArray) (hl2 : l2.length = m) (hok2 : ∀ x ∈ l2, ok x)
    (h0 : 0 < m) (hn : n ≤ 4194304) (hm : m ≤ 100) (hbase : base ≤ w.heap.size)
    (K : ∀ g' c' w', OwnF k enc ok e w' base (some ⟨g', 0, none⟩) (n + m) c' (l ++ l2) → Below base w w' → w.grownBy w' (Value.slice a n c).ownBlock → (a = some ⟨g', 0, none⟩ ∨ g' = w.heap.size + 1) → w.heap.size + 1 ≤ w'.heap.size → wpList P ops Q rest (act.put o.dst (.slice (some ⟨g', 0, none⟩) (n + m) c')) w') : wpList P ops Q (o :: rest) act (w.alloc (.cells cs e)) := by
  subst hg hl2
  have hb0 : Below w.heap.size w (w.alloc (.cells cs e)) := (Below.refl _ _).alloc (Nat.le_refl _) _
  refine appAtS hgd s x t e ho ht hinfo hzs hk hby hone base a n c l (hown.keep hb0) hs _ _ _ l2 hx (lit_flats w e l2 cs hown.2.2.2 hk hcs hok2) h0 hn (by omega) (by simp; omega) ?_
  intro g' c' w' h1 h2 h3 h4
  refine K g' c' w' h1 ((hb0.mono hbase).trans h2) (grownBy_trans (World.grownBy_alloc _ _ _) h3) ?_ ?_
  · rcases h4 with h | h
    · exact .inl h
    · exact .inr (by simpa using h)
  · have := h3.size; simpa using this
/-- the same at a step of a region that draws its order -/
theorem wp_appAtL {α : Type} {k m : Nat} {enc : α → List Value} {ok : α → Prop} {zv : Value} {by' : Nat} {P : Program} {w : World} {o : Oper} {act : Act} {K : Act → World → Prop} {Q : Exit → Act → World → Prop} {cs : Array Value} {t e : TypeId} (s x : Operand)
    (ho : o.op = .call { callee := .builtin .append, args := #[s, x], argTypes := #[t, t] }) (ht : P.underlying t = some (.slice e)) (hinfo : (P.info? e).map (fun i => (i.zero, i.size, i.bytes)) = some (some zv, k, by'))
    (hzs : zv.cells.size = k) (hk : 0 < k) (hby : by' ≤ 128) (hone : ∀ y : α, ∀ u ∈ enc y, u.oneCell' = true)
    (base : Nat) (a : Option Addr) (n c : Nat) (l l2 : List α) (hown : OwnF k enc ok e w base a n c l) (hs : act.eval s = .slice a n c) (gx : Nat) (hx : act.eval x = .slice (some ⟨gx, 0, none⟩) m m) (hB : Blk w gx cs e) (hcs : cs = (l2.flatMap enc).toArray) (hl2 : l2.length = m) (hok2 : ∀ x ∈ l2, ok x)
    (h0 : 0 < m) (hn : n ≤ 4194304) (hm : m ≤ 100) (hbase : base ≤ w.heap.size)
    (K' : ∀ g' c' w', OwnF k enc ok e w' base (some ⟨g', 0, none⟩) (n + m) c' (l ++ l2) → Below base w w' → w.grownBy w' (Value.slice a n c).ownBlock → K (act.put o.dst (.slice (some ⟨g', 0, none⟩) (n + m) c')) w') : o.wp P act w K Q := by
  subst hl2 hcs
  obtain ⟨i, hi, hz0, hz1, hz2⟩ := info_parts hinfo
  obtain ⟨hown1, hok, hlen, henc⟩ := hown
  have hmul : ∀ q : List α, (q.flatMap enc).length = q.length * k := fun q => by
    induction q with
    | nil => simp
    | cons y r ih => rw [List.flatMap_cons, List.length_append, ih, henc, List.length_cons, Nat.succ_mul, Nat.add_comm]
  refine wp_append_lies w s x t ho base e i zv k by' ht hi hz0 hz1 hz2 hzs hk (.slice a n c) n _ hs hown1 ⟨gx, 0, none⟩ l2.length l2.length (l2.flatMap enc) hx (hmul l2) ?_ ?_ h0 (by unfold maxLen; omega) (Nat.le_trans (Nat.mul_le_mul_left (n + l2.length) hby) (by omega)) hbase w.heap.size rfl ?_
  · intro j u hj
    have e1 : (⟨gx, 0, none⟩ : Addr).add j = ⟨gx, j, none⟩ := by by_cases h0 : j = 0 <;> simp [Addr.add, h0]
    rw [e1, hB.cell]
    simpa using hj
  · intro u hu
    obtain ⟨y, _, hy⟩ := List.mem_flatMap.1 hu
    exact hone y u hy
  · intro g cap w' h1 h2 h3 h4
    rw [← List.flatMap_append] at h1
    refine K' g cap w' ⟨h1, fun y hy => ?_, by rw [List.length_append, hlen], henc⟩ ((Below.refl _ _).grown h2 hbase fun q hq => (hown1.lt q hq).1) h2
    rcases List.mem_append.1 hy with h | h
    · exact hok y h
    · exact hok2 y h
def enc1 (x : Int) : List Value := [.int .i64 x]
theorem flat_enc1 (l : List Int) : l.flatMap enc1 = l.map (Value.int .i64) := by
  induction l with
  | nil => rfl
  | cons x r ih => rw [List.flatMap_cons, ih]; rfl
theorem OwnI.f1 {E : TypeId} {w : World} {base : Nat} {a : Option Addr} {n c : Nat} {l : List Int} (h : OwnI E w base a n c l) : OwnF 1 enc1 I64 E w base a n c l := by
  refine ⟨?_, h.2, h.len, fun _ => rfl⟩
  rw [flat_enc1]; exact h.1
theorem OwnF.i1 {E : TypeId} {w : World} {base : Nat} {a : Option Addr} {n c : Nat} {l : List Int} (h : OwnF 1 enc1 I64 E w base a n c l) : OwnI E w base a n c l := by
  have h1 := h.1
  rw [flat_enc1] at h1
  exact ⟨h1, h.2.1⟩
theorem own_block {E : TypeId} {k : Nat} {w : World} {base : Nat} {a : Option Addr} {n c m : Nat} {l : List Value} (h : w.ownsRow base E k (.slice a n c) m l) : ∀ b, (Value.slice a n c).ownBlock = some b → a = some ⟨b, 0, none⟩ := fun b e => by
  rcases h.2 with ⟨he, _⟩ | ⟨g, cap, cur, he, _⟩
  · simp only [Value.slice.injEq] at he
    rw [he.1] at e; simp [Value.ownBlock] at e
  · simp only [Value.slice.injEq] at he
    obtain ⟨rfl, _⟩ := he
    simp [Value.ownBlock] at e; rw [e]
theorem Blk.keepA {w w' : World} {b : Nat} {cs : Array Value} {T : TypeId} {n : Nat} {a : Option Addr} (h : Blk w b cs T) (ht : Touch w w' n a) (hne : a = some ⟨b, 0, none⟩ → False) : Blk w' b cs T := by
  obtain ⟨r, hg, hr⟩ := ht
  exact h.keepG hg fun e => hne (hr _ e).2
/-- a block of another type is not the slice's -/
theorem blk_ne {w : World} {b : Nat} {cs : Array Value} {T E : TypeId} {a : Option Addr} (h : Blk w b cs T) (ht : ∀ {g : Nat}, a = some ⟨g, 0, none⟩ → ∃ cur, w.heap[g]? = some (.cells cur E (0, 0))) (hE : E ≠ T) : a = some ⟨b, 0, none⟩ → False := fun e => by
  obtain ⟨cur, h1⟩ := ht e
  rw [Blk] at h
  rw [h] at h1
  simp only [Option.some.injEq, Obj.cells.injEq] at h1
  exact hE h1.2.1.symm
theorem appI1 {P : Program} {w : World} {ops : Array Oper} {rest : List Oper} {o : Oper} {act : Act} {Q : Exit → Act → World → Prop} {z : Int} {t e : TypeId} (hgd : o.guard = none) (s x : Operand)
    (ho : o.op = .call { callee := .builtin .append, args := #[s, x], argTypes := #[t, t] }) (ht : P.underlying t = some (.slice e)) (hinfo : (P.info? e).map (fun i => (i.zero, i.size, i.bytes)) = some (some (.int .i64 0), 1, 8))
    (base : Nat) (a : Option Addr) (n c : Nat) (l : List Int) (hown : OwnI e w base a n c l) (hs : act.eval s = .slice a n c) (gx : Nat) (hx : act.eval x = .slice (some ⟨gx, 0, none⟩) 1 1) (hg : gx = w.heap.size) (hz : I64 z)
    (hn : n ≤ 4194304) (hbase : base ≤ w.heap.size)
    (K : ∀ g' c' w', OwnI e w' base (some ⟨g', 0, none⟩) (n + 1) c' (l ++ [z]) → Below base w w' → Touch w w' 1 a → (a = some ⟨g', 0, none⟩ ∨ g' = w.heap.size + 1) → w.heap.size + 1 ≤ w'.heap.size → wpList P ops Q rest (act.put o.dst (.slice (some ⟨g', 0, none⟩) (n + 1) c')) w') : wpList P ops Q (o :: rest) act (w.alloc (.cells #[.int .i64 z] e)) := by
  refine appAtL (k := 1) (m := 1) (enc := enc1) (ok := I64) hgd s x ho ht hinfo rfl (by decide) (by decide) (fun y u hu => by simp [enc1] at hu; subst hu; rfl) base a n c l [z] hown.f1 hs gx hx hg rfl rfl (fun y hy => by simp at hy; rw [hy]; exact hz) (by decide) hn (by decide) hbase ?_
  intro g' c' w' h1 h2 h3 h4 h5
  refine K g' c' w' h1.i1 h2 ?_ h4 h5
  exact ⟨_, h3, fun b e => ⟨by decide, own_block hown.1 b e⟩⟩
end Go.Proofs.YtkaikbaagajckaaGreat
