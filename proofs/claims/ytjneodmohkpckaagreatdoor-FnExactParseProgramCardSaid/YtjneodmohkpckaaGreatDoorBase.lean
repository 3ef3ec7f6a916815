/- Small lemmas on worlds and slices that the walks of this claim share. -/
import Derived.Test.YtjneodmohkpckaaGreatDoorRows
import Derived.WalkKit
import Derived.Outline
import Derived.ProofKit
import Derived.OpenShut
import Derived.Below
import Derived.Lib.Hide
import Derived.LoopTactic
import Derived.WalkLawsBesides
import Derived.Deep.QuietTactic
import Derived.BigQuiet
import Derived.Deep.LoopGhost
import Derived.Deep.Draws
import Derived.Lib.Walk
import Derived.Shelf.Abstract
import Derived.Lib.SmallJoins
import Derived.Deep.RegionHeld3
import Derived.Deep.RegionWith
import Derived.Laws.AppendOwnNone
import Derived.Deep.DeepCutAuto
import Derived.OrdersHeld
namespace Go.Proofs.YtjneodmohkpckaaGreatDoor
open Go.RowKit
set_option linter.unusedVariables false
set_option linter.unusedSimpArgs false

theorem bcell {W w1 : World} (hb : Below W.heap.size W w1) : (∀ b o, b < W.heap.size → w1.cell? ⟨b, o, none⟩ = W.cell? ⟨b, o, none⟩) ∧ (∀ b o, b < W.heap.size → w1.frozen? ⟨b, o, none⟩ = W.frozen? ⟨b, o, none⟩) :=
  ⟨fun b o h => hb.cell (p := ⟨b, o, none⟩) h, fun b o h => hb.frozen (p := ⟨b, o, none⟩) h⟩
theorem below_call {B : Nat} {a w w' : World} (h : Below B a w) (h' : Below w.heap.size w w') (hB : B ≤ w.heap.size) : Below B a w' := h.trans (h'.mono hB)
theorem below_allocS {a w : World} (h : Below a.heap.size a w) (o : Obj) : Below a.heap.size a (w.alloc o) := h.alloc h.size o
theorem below_callS {a w w' : World} (h : Below a.heap.size a w) (h' : Below w.heap.size w w') : Below a.heap.size a w' := h.trans (h'.mono h.size)
theorem below_drewN {B : Nat} {a w : World} (h : Below B a w) (n : Nat) : Below B a (w.drewN n) := ⟨h.os, h.tape, h.output, h.size, h.block⟩
theorem ret_bool {a b : Bool} (h : a = b) : Ending.returned (.bool a) = .returned (.bool b) := by rw [h]
theorem ret_int {k : IntKind} {a b : Int} (h : a = b) : Ending.returned (.int k a) = .returned (.int k b) := by rw [h]
theorem ret_int2 {k : IntKind} {a b c d : Int} (h : a = b) (h' : c = d) : Ending.returned (.tuple #[.int k a, .int k c]) = .returned (.tuple #[.int k b, .int k d]) := by rw [h, h']

/-- an int64 -/
def I64 (x : Int) : Prop := -9223372036854775808 ≤ x ∧ x ≤ 9223372036854775807
theorem I64.mk {x : Int} (h : -9223372036854775808 ≤ x) (h' : x ≤ 9223372036854775807) : I64 x := ⟨h, h'⟩
theorem I64.wf {x : Int} (h : I64 x) : (Lit.int .i64 x).wf = true := by
  unfold I64 at h
  simp [Lit.wf, IntKind.min, IntKind.max, IntKind.signed, IntKind.bits]; omega
theorem I64.of {x : Int} (h : (Lit.int .i64 x).wf = true) : I64 x := by
  simpa [Lit.wf, IntKind.min, IntKind.max, IntKind.signed, IntKind.bits, I64] using h
theorem wrap64_I64 (x : Int) : I64 (wrap64 x) := I64.of (wrap64_wf x)

/-- a slice value '.slice a n c' of int64 that reads as l in w -/
structure Ints (w : World) (a : Option Addr) (n c : Nat) (l : List Int) : Prop where
  len : l.length = n
  cap : n ≤ c
  pos : n = 0 ∨ ∃ b off, a = some ⟨b, off, none⟩ ∧ b < w.heap.size ∧ ∀ i x, l[i]? = some x → w.cell? ⟨b, off + i, none⟩ = some (.int .i64 x)
  wf : ∀ x ∈ l, I64 x
  nil : a = none → n = 0 ∧ c = 0
theorem Ints.keep {w w' : World} {a : Option Addr} {n c : Nat} {l : List Int} (h : Ints w a n c l) (hb : Below w.heap.size w w') : Ints w' a n c l := by
  refine ⟨h.len, h.cap, ?_, h.wf, h.nil⟩
  rcases h.pos with h0 | ⟨b, off, ha, hlt, hc⟩
  · exact .inl h0
  · exact .inr ⟨b, off, ha, Nat.lt_of_lt_of_le hlt hb.size, fun i x hx => (hb.cell (p := ⟨b, off + i, none⟩) hlt).trans (hc i x hx)⟩
theorem Ints.keep' {B : Nat} {w w' w0 : World} {a : Option Addr} {n c : Nat} {l : List Int} (h : Ints w a n c l) (hb : Below B w0 w') (hB : w.heap.size ≤ B) (h0 : Below w.heap.size w w0) : Ints w' a n c l :=
  h.keep (h0.trans (hb.mono hB))
theorem Ints.at {w : World} {a : Option Addr} {n c : Nat} {l : List Int} (h : Ints w a n c l) {k : Nat} (hk : k < n) :
    ∃ b off x, a = some ⟨b, off, none⟩ ∧ b < w.heap.size ∧ l[k]? = some x ∧ w.cell? ⟨b, off + k, none⟩ = some (.int .i64 x) ∧ I64 x := by
  obtain ⟨b, off, ha, hb, hc⟩ := h.pos.resolve_left (by omega)
  have hk' : k < l.length := by rw [h.len]; exact hk
  exact ⟨b, off, l[k], ha, hb, List.getElem?_eq_getElem hk', hc k _ (List.getElem?_eq_getElem hk'), h.wf _ (List.getElem_mem hk')⟩
theorem take_at {α : Type} {l : List α} {k : Nat} {x : α} (h : l[k]? = some x) : l.take (k + 1) = l.take k ++ [x] := by
  rw [List.take_add_one, h]; rfl
theorem take_len {α : Type} {l : List α} {n : Nat} (h : l.length = n) : l.take n = l := List.take_of_length_le (by omega)

/-- a number between two bounds -/
def inB (x lo hi : Int) : Bool := decide (lo ≤ x) && decide (x ≤ hi)
def allIn (lo hi : Int) (l : List Int) : Bool := l.all fun x => inB x lo hi
theorem all_take_false {α : Type} {p : α → Bool} {l : List α} {k : Nat} {x : α} (h : l[k]? = some x) (hp : p x = false) : l.all p = false := by
  rw [List.all_eq_false]
  exact ⟨x, List.mem_of_getElem? h, by simp [hp]⟩
theorem all_take_step {α : Type} {p : α → Bool} {l : List α} {k : Nat} {x : α} (h : l[k]? = some x) (hl : (l.take k).all p = true) (hp : p x = true) : (l.take (k + 1)).all p = true := by
  rw [take_at h, List.all_append, hl]; simp [hp]
theorem any_take_true {α : Type} {p : α → Bool} {l : List α} {k : Nat} {x : α} (h : l[k]? = some x) (hp : p x = true) : l.any p = true := by
  rw [List.any_eq_true]
  exact ⟨x, List.mem_of_getElem? h, hp⟩
theorem any_take_step {α : Type} {p : α → Bool} {l : List α} {k : Nat} {x : α} (h : l[k]? = some x) (hl : (l.take k).any p = false) (hp : p x = false) : (l.take (k + 1)).any p = false := by
  rw [take_at h, List.any_append, hl]; simp [hp]

/-- a slice value '.slice a n c' of int64 whose block is the call's own (from block 'base' on), that may be written, and that reads as l -/
def OwnI (E : TypeId) (w : World) (base : Nat) (a : Option Addr) (n c : Nat) (l : List Int) : Prop :=
  w.ownsRow base E 1 (.slice a n c) n (l.map (Value.int .i64)) ∧ ∀ x ∈ l, I64 x
theorem OwnI.ints {E : TypeId} {w : World} {base : Nat} {a : Option Addr} {n c : Nat} {l : List Int} (h : OwnI E w base a n c l) : Ints w a n c l := by
  obtain ⟨⟨hl, h2⟩, hw⟩ := h
  have hl' : l.length = n := by simpa using hl
  rcases h2 with ⟨he, h0⟩ | ⟨g, cap, cur, he, hb, hg, hnc, hcm, hcs, ht⟩
  · simp only [Value.slice.injEq] at he
    exact ⟨hl', by omega, .inl h0, hw, fun _ => ⟨h0, he.2.2⟩⟩
  · simp only [Value.slice.injEq] at he
    obtain ⟨rfl, _, rfl⟩ := he
    refine ⟨hl', hnc, .inr ⟨g, 0, rfl, ?_, fun i x hx => ?_⟩, hw, fun h => by cases h⟩
    · exact Nat.lt_of_not_le fun h => by rw [Array.getElem?_eq_none h] at hg; cases hg
    · have h1 : (l.map (Value.int .i64))[i]? = some (.int .i64 x) := by rw [List.getElem?_map, hx]; rfl
      have hi : i < n := by
        rw [← hl']; exact (List.getElem?_eq_some_iff.1 hx).1
      rw [← ht, List.getElem?_take, if_pos (by omega)] at h1
      simp [World.cell?, hg]
      simpa using h1
theorem OwnI.keep {E : TypeId} {w w' : World} {base : Nat} {a : Option Addr} {n c : Nat} {l : List Int} (h : OwnI E w base a n c l) (hb : Below w.heap.size w w') : OwnI E w' base a n c l := by
  obtain ⟨⟨hl, h2⟩, hw⟩ := h
  refine ⟨⟨hl, ?_⟩, hw⟩
  rcases h2 with h2 | ⟨g, cap, cur, he, hbs, hg, r⟩
  · exact .inl h2
  · have hlt : g < w.heap.size := Nat.lt_of_not_le fun h => by rw [Array.getElem?_eq_none h] at hg; cases hg
    exact .inr ⟨g, cap, cur, he, hbs, by rw [hb.block g hlt]; exact hg, r⟩
theorem OwnI.le {E : TypeId} {w : World} {base base' : Nat} {a : Option Addr} {n c : Nat} {l : List Int} (h : OwnI E w base a n c l) (hb : base' ≤ base) : OwnI E w base' a n c l :=
  ⟨Joins.ownsRow_le h.1 hb, h.2⟩
theorem OwnI.len {E : TypeId} {w : World} {base : Nat} {a : Option Addr} {n c : Nat} {l : List Int} (h : OwnI E w base a n c l) : l.length = n := by simpa using h.1.1
theorem OwnI.cell {E : TypeId} {w : World} {base g : Nat} {n c : Nat} {l : List Int} (h : OwnI E w base (some ⟨g, 0, none⟩) n c l) {k : Nat} (hk : k < n) : ∃ x, l[k]? = some x ∧ I64 x ∧ w.cell? ⟨g, k, none⟩ = some (.int .i64 x) := by
  have hl := h.len
  have hk' : k < l.length := by omega
  refine ⟨l[k], List.getElem?_eq_getElem hk', h.2 _ (List.getElem_mem hk'), ?_⟩
  rw [h.1.cellAt k (by omega), List.getElem?_map, List.getElem?_eq_getElem hk']; rfl
theorem OwnI.lt {E : TypeId} {w : World} {base g : Nat} {n c : Nat} {l : List Int} (h : OwnI E w base (some ⟨g, 0, none⟩) n c l) : base ≤ g ∧ g < w.heap.size := h.1.lt g rfl
theorem OwnI.free {E : TypeId} {w : World} {base g : Nat} {n c : Nat} {l : List Int} (h : OwnI E w base (some ⟨g, 0, none⟩) n c l) (k : Nat) : w.frozen? ⟨g, k, none⟩ = false := h.1.frozenAt k
theorem OwnI.set {E : TypeId} {w : World} {base g : Nat} {n c : Nat} {l : List Int} (h : OwnI E w base (some ⟨g, 0, none⟩) n c l) (k : Nat) {x : Int} (hx : I64 x) : OwnI E (w.setCell ⟨g, k, none⟩ (.int .i64 x)) base (some ⟨g, 0, none⟩) n c (l.set k x) := by
  refine ⟨?_, fun y hy => ?_⟩
  · rw [List.map_set]; exact (h.1.stored k (.int .i64 x)).1
  · rcases List.mem_or_eq_of_mem_set hy with h1 | h1
    · exact h.2 y h1
    · rw [h1]; exact hx
theorem set_fill {α : Type} {l : List α} {k : Nat} {x z : α} (hk : l[k]? = some x) (m : Nat) (hm : l.length = m) : (l.take k ++ List.replicate (m - k) z).set k x = l.take (k + 1) ++ List.replicate (m - (k + 1)) z := by
  have hlt : k < l.length := (List.getElem?_eq_some_iff.1 hk).1
  have h1 : (l.take k).length = k := by simp; omega
  rw [take_at hk, List.set_append, if_neg (by omega), h1, Nat.sub_self, show m - k = (m - (k + 1)) + 1 from by omega, List.replicate_succ]
  simp

/-- records of two and three fields -/
structure I2 where
  a : Int
  b : Int
structure I3 where
  a : Int
  b : Int
  c : Int
structure I2b where
  a : Int
  b : Int
  c : Bool
def I2.enc (x : I2) : List Value := [.int .i64 x.a, .int .i64 x.b]
def I3.enc (x : I3) : List Value := [.int .i64 x.a, .int .i64 x.b, .int .i64 x.c]
def I2b.enc (x : I2b) : List Value := [.int .i64 x.a, .int .i64 x.b, .bool x.c]
def I2.ok (x : I2) : Prop := I64 x.a ∧ I64 x.b
def I3.ok (x : I3) : Prop := I64 x.a ∧ I64 x.b ∧ I64 x.c
def I2b.ok (x : I2b) : Prop := I64 x.a ∧ I64 x.b
/-- a slice value '.slice a n c' of records of k cells each that reads as l in w -/
structure Flats {α : Type} (k : Nat) (enc : α → List Value) (ok : α → Prop) (w : World) (a : Option Addr) (n c : Nat) (l : List α) : Prop where
  len : l.length = n
  cap : n ≤ c
  pos : n = 0 ∨ ∃ b off, a = some ⟨b, off, none⟩ ∧ b < w.heap.size ∧ ∀ i x, l[i]? = some x → ∀ j v, (enc x)[j]? = some v → w.cell? ⟨b, off + i * k + j, none⟩ = some v
  wf : ∀ x ∈ l, ok x
  nil : a = none → n = 0 ∧ c = 0
section
variable {α : Type} {k : Nat} {enc : α → List Value} {ok : α → Prop}
theorem Flats.keep {w w' : World} {a : Option Addr} {n c : Nat} {l : List α} (h : Flats k enc ok w a n c l) (hb : Below w.heap.size w w') : Flats k enc ok w' a n c l := by
  refine ⟨h.len, h.cap, ?_, h.wf, h.nil⟩
  rcases h.pos with h0 | ⟨b, off, ha, hlt, hc⟩
  · exact .inl h0
  · exact .inr ⟨b, off, ha, Nat.lt_of_lt_of_le hlt hb.size, fun i x hx j v hv => (hb.cell (p := ⟨b, off + i * k + j, none⟩) hlt).trans (hc i x hx j v hv)⟩
theorem Flats.at {w : World} {a : Option Addr} {n c : Nat} {l : List α} (h : Flats k enc ok w a n c l) {i : Nat} (hi : i < n) :
    ∃ b off x, a = some ⟨b, off, none⟩ ∧ b < w.heap.size ∧ l[i]? = some x ∧ ok x ∧ ∀ j v, (enc x)[j]? = some v → w.cell? ⟨b, off + i * k + j, none⟩ = some v := by
  obtain ⟨b, off, ha, hb, hc⟩ := h.pos.resolve_left (by omega)
  have hi' : i < l.length := by rw [h.len]; exact hi
  exact ⟨b, off, l[i], ha, hb, List.getElem?_eq_getElem hi', h.wf _ (List.getElem_mem hi'), fun j v hv => hc i _ (List.getElem?_eq_getElem hi') j v hv⟩
theorem Flats.take {w : World} {a : Option Addr} {n c : Nat} {l : List α} (h : Flats k enc ok w a n c l) {m : Nat} (hm : m ≤ n) : Flats k enc ok w a m c (l.take m) := by
  refine ⟨by rw [List.length_take, h.len]; omega, Nat.le_trans hm h.cap, ?_, fun x hx => h.wf x (List.mem_of_mem_take hx), fun e => ⟨by have := (h.nil e).1; omega, (h.nil e).2⟩⟩
  rcases h.pos with h0 | ⟨b, off, ha, hlt, hc⟩
  · exact .inl (by omega)
  · refine .inr ⟨b, off, ha, hlt, fun i x hx j v hv => ?_⟩
    rw [List.getElem?_take] at hx
    split at hx
    · exact hc i x hx j v hv
    · cases hx
end
theorem Ints.take {w : World} {a : Option Addr} {n c : Nat} {l : List Int} (h : Ints w a n c l) {m : Nat} (hm : m ≤ n) : Ints w a m c (l.take m) := by
  refine ⟨by rw [List.length_take, h.len]; omega, Nat.le_trans hm h.cap, ?_, fun x hx => h.wf x (List.mem_of_mem_take hx), fun e => ⟨by have := (h.nil e).1; omega, (h.nil e).2⟩⟩
  rcases h.pos with h0 | ⟨b, off, ha, hlt, hc⟩
  · exact .inl (by omega)
  · refine .inr ⟨b, off, ha, hlt, fun i x hx => ?_⟩
    rw [List.getElem?_take] at hx
    split at hx
    · exact hc i x hx
    · cases hx
abbrev F3 := Flats 3 I3.enc I3.ok
abbrev F2 := Flats 2 I2.enc I2.ok
abbrev F2b := Flats 3 I2b.enc I2b.ok

theorem F3.get {w : World} {a : Option Addr} {n c : Nat} {l : List I3} (h : F3 w a n c l) {i : Nat} (hi : i < n) :
    ∃ b off x, a = some ⟨b, off, none⟩ ∧ b < w.heap.size ∧ l[i]? = some x ∧ x.ok ∧ w.cell? ⟨b, off + i * 3, none⟩ = some (.int .i64 x.a) ∧ w.cell? ⟨b, off + i * 3 + 1, none⟩ = some (.int .i64 x.b) ∧ w.cell? ⟨b, off + i * 3 + 2, none⟩ = some (.int .i64 x.c) := by
  obtain ⟨b, off, x, h1, h2, h3, h4, h5⟩ := h.at hi
  exact ⟨b, off, x, h1, h2, h3, h4, h5 0 _ rfl, h5 1 _ rfl, h5 2 _ rfl⟩
theorem F2b.get {w : World} {a : Option Addr} {n c : Nat} {l : List I2b} (h : F2b w a n c l) {i : Nat} (hi : i < n) :
    ∃ b off x, a = some ⟨b, off, none⟩ ∧ b < w.heap.size ∧ l[i]? = some x ∧ x.ok ∧ w.cell? ⟨b, off + i * 3, none⟩ = some (.int .i64 x.a) ∧ w.cell? ⟨b, off + i * 3 + 1, none⟩ = some (.int .i64 x.b) ∧ w.cell? ⟨b, off + i * 3 + 2, none⟩ = some (.bool x.c) := by
  obtain ⟨b, off, x, h1, h2, h3, h4, h5⟩ := h.at hi
  exact ⟨b, off, x, h1, h2, h3, h4, h5 0 _ rfl, h5 1 _ rfl, h5 2 _ rfl⟩
theorem F2.get {w : World} {a : Option Addr} {n c : Nat} {l : List I2} (h : F2 w a n c l) {i : Nat} (hi : i < n) :
    ∃ b off x, a = some ⟨b, off, none⟩ ∧ b < w.heap.size ∧ l[i]? = some x ∧ x.ok ∧ w.cell? ⟨b, off + i * 2, none⟩ = some (.int .i64 x.a) ∧ w.cell? ⟨b, off + i * 2 + 1, none⟩ = some (.int .i64 x.b) := by
  obtain ⟨b, off, x, h1, h2, h3, h4, h5⟩ := h.at hi
  exact ⟨b, off, x, h1, h2, h3, h4, h5 0 _ rfl, h5 1 _ rfl⟩

/-! ### own rows of records; writes into one of them; append -/
theorem grownBy_trans {w w' w'' : World} {r : Option Nat} (h : w.grownBy w' r) (h' : w'.grownBy w'' r) : w.grownBy w'' r :=
  ⟨h'.os.trans h.os, h'.tape.trans h.tape, h'.output.trans h.output, Nat.le_trans h.size h'.size, fun k hk hr => (h'.block k (Nat.lt_of_lt_of_le hk h.size) hr).trans (h.block k hk hr)⟩
theorem grownBy_refl (w : World) (r : Option Nat) : w.grownBy w r := ⟨rfl, rfl, rfl, Nat.le_refl _, fun _ _ _ => rfl⟩
theorem grownBy_below {w w' : World} (h : Below w.heap.size w w') (r : Option Nat) : w.grownBy w' r := ⟨h.os, h.tape, h.output, h.size, fun k hk _ => h.block k hk⟩
theorem grownBy_set {w w' : World} {g : Nat} (h : w.grownBy w' (some g)) (j : Nat) (u : Value) : w.grownBy (w'.setCell ⟨g, j, none⟩ u) (some g) :=
  grownBy_trans h ⟨rfl, rfl, rfl, by simp [World.setCell], fun k _ hk => Below.heap_setCell _ _ _ _ (fun e => hk (by rw [e]))⟩
def OwnF {α : Type} (k : Nat) (enc : α → List Value) (ok : α → Prop) (E : TypeId) (w : World) (base : Nat) (a : Option Addr) (n c : Nat) (l : List α) : Prop :=
  w.ownsRow base E k (.slice a n c) n (l.flatMap enc) ∧ (∀ x ∈ l, ok x) ∧ l.length = n ∧ ∀ x, (enc x).length = k
theorem flat_get {α : Type} {k : Nat} {enc : α → List Value} (hk : ∀ x, (enc x).length = k) {l : List α} {i : Nat} {x : α} (hx : l[i]? = some x) {j : Nat} {v : Value} (hv : (enc x)[j]? = some v) : (l.flatMap enc)[i * k + j]? = some v := by
  induction l generalizing i with
  | nil => cases hx
  | cons y r ih =>
    rw [List.flatMap_cons]
    cases i with
    | zero =>
      simp at hx; subst hx
      have hj : j < (enc y).length := (List.getElem?_eq_some_iff.1 hv).1
      rw [List.getElem?_append_left (by omega)]; simpa using hv
    | succ i =>
      have e : (i + 1) * k + j = (enc y).length + (i * k + j) := by rw [hk]; rw [Nat.add_mul]; omega
      rw [e, List.getElem?_append_right (by omega), Nat.add_sub_cancel_left]
      exact ih (by simpa using hx)
theorem flat_set {α : Type} {k : Nat} {enc : α → List Value} (hk : ∀ x, (enc x).length = k) {l : List α} {i : Nat} (hi : i < l.length) (x y : α) (hy : l[i]? = some y) :
    l.flatMap enc = (l.take i).flatMap enc ++ (enc y ++ (l.drop (i + 1)).flatMap enc) ∧ (l.set i x).flatMap enc = (l.take i).flatMap enc ++ (enc x ++ (l.drop (i + 1)).flatMap enc) ∧ ((l.take i).flatMap enc).length = i * k := by
  have h1 : l = l.take i ++ (y :: l.drop (i + 1)) := by
    have : l.drop i = y :: l.drop (i + 1) := by
      rw [List.drop_eq_getElem_cons hi]
      rw [List.getElem?_eq_getElem hi] at hy; simp at hy; rw [hy]
    rw [← this, List.take_append_drop]
  refine ⟨?_, ?_, ?_⟩
  · conv => lhs; rw [h1]
    rw [List.flatMap_append, List.flatMap_cons]
  · have h2 : l.set i x = l.take i ++ (x :: l.drop (i + 1)) := by
      rw [List.set_eq_take_append_cons_drop, if_pos hi]
    rw [h2, List.flatMap_append, List.flatMap_cons]
  · rw [List.length_flatMap]
    have : (l.take i).map (fun x => (enc x).length) = List.replicate i k := by
      rw [show (fun x => (enc x).length) = fun _ => k from funext hk, List.map_const', List.length_take]
      congr 1; omega
    rw [this, List.sum_replicate_nat]
theorem flat_set3 {α : Type} {enc : α → List Value} (hk : ∀ x, (enc x).length = 3) {l : List α} {i : Nat} (hi : i < l.length) (x : α) {v0 v1 v2 : Value} (hx : enc x = [v0, v1, v2]) :
    (((l.flatMap enc).set (i * 3) v0).set (i * 3 + 1) v1).set (i * 3 + 2) v2 = (l.set i x).flatMap enc := by
  obtain ⟨h1, h2, h3⟩ := flat_set hk hi x l[i] (List.getElem?_eq_getElem hi)
  have hl := hk l[i]
  match he : enc l[i], hl with
  | [u0, u1, u2], _ => rw [h1, h2, he, hx, List.set_append_right _ _ (by omega), List.set_append_right _ _ (by omega), List.set_append_right _ _ (by omega), h3]; simp
theorem flat_set2 {α : Type} {enc : α → List Value} (hk : ∀ x, (enc x).length = 2) {l : List α} {i : Nat} (hi : i < l.length) (x : α) {v0 v1 : Value} (hx : enc x = [v0, v1]) :
    ((l.flatMap enc).set (i * 2) v0).set (i * 2 + 1) v1 = (l.set i x).flatMap enc := by
  obtain ⟨h1, h2, h3⟩ := flat_set hk hi x l[i] (List.getElem?_eq_getElem hi)
  have hl := hk l[i]
  match he : enc l[i], hl with
  | [u0, u1], _ => rw [h1, h2, he, hx, List.set_append_right _ _ (by omega), List.set_append_right _ _ (by omega), h3]; simp
section
variable {α : Type} {k : Nat} {enc : α → List Value} {ok : α → Prop} {E : TypeId} {w w' : World} {base g : Nat} {a : Option Addr} {n c : Nat} {l : List α}
theorem OwnF.len (h : OwnF k enc ok E w base a n c l) : l.length = n := h.2.2.1
theorem OwnF.flats (h : OwnF k enc ok E w base a n c l) : Flats k enc ok w a n c l := by
  obtain ⟨⟨hl, h2⟩, hw, hln, hk⟩ := h
  rcases h2 with ⟨he, h0⟩ | ⟨g, cap, cur, he, hb, hg, hnc, hcm, hcs, ht⟩
  · simp only [Value.slice.injEq] at he
    exact ⟨hln, by omega, .inl h0, hw, fun _ => ⟨h0, he.2.2⟩⟩
  · simp only [Value.slice.injEq] at he
    obtain ⟨rfl, _, rfl⟩ := he
    refine ⟨hln, hnc, .inr ⟨g, 0, rfl, ?_, fun i x hx j v hv => ?_⟩, hw, fun h => by cases h⟩
    · exact Nat.lt_of_not_le fun h => by rw [Array.getElem?_eq_none h] at hg; cases hg
    · have h1 := flat_get hk hx hv
      have hi : i < n := by rw [← hln]; exact (List.getElem?_eq_some_iff.1 hx).1
      have hj : i * k + j < n * k := by rw [← hl]; exact (List.getElem?_eq_some_iff.1 h1).1
      rw [← ht, List.getElem?_take, if_pos hj] at h1
      simp [World.cell?, hg]
      simpa using h1
theorem OwnF.keep (h : OwnF k enc ok E w base a n c l) (hb : Below w.heap.size w w') : OwnF k enc ok E w' base a n c l := by
  obtain ⟨⟨hl, h2⟩, hw⟩ := h
  refine ⟨⟨hl, ?_⟩, hw⟩
  rcases h2 with h2 | ⟨g, cap, cur, he, hbs, hg, r⟩
  · exact .inl h2
  · have hlt : g < w.heap.size := Nat.lt_of_not_le fun h => by rw [Array.getElem?_eq_none h] at hg; cases hg
    exact .inr ⟨g, cap, cur, he, hbs, by rw [hb.block g hlt]; exact hg, r⟩
theorem OwnF.le {base' : Nat} (h : OwnF k enc ok E w base a n c l) (hb : base' ≤ base) : OwnF k enc ok E w base' a n c l := ⟨Joins.ownsRow_le h.1 hb, h.2⟩
theorem OwnF.keepG {r : Option Nat} (h : OwnF k enc ok E w base a n c l) (hg : w.grownBy w' r) (hne : ∀ g, a = some ⟨g, 0, none⟩ → r ≠ some g) : OwnF k enc ok E w' base a n c l := by
  refine ⟨h.1.kept hg ?_, h.2⟩
  rcases h.1.2 with ⟨he, _⟩ | ⟨g, cap, cur, he, _⟩
  · simp only [Value.slice.injEq] at he; rw [he.1]; exact .inl rfl
  · simp only [Value.slice.injEq] at he
    refine .inr ?_
    rw [he.1]
    exact fun e => hne g he.1 e.symm
theorem OwnF.blk (h : OwnF k enc ok E w base a n c l) : ∀ g, a = some ⟨g, 0, none⟩ → base ≤ g ∧ g < w.heap.size := fun g e => h.1.lt g (by rw [e]; rfl)
theorem OwnF.shape (h : OwnF k enc ok E w base a n c l) (hn : 0 < n) : ∃ g, a = some ⟨g, 0, none⟩ := by
  rcases h.1.2 with ⟨_, h0⟩ | ⟨g, cap, cur, he, _⟩
  · omega
  · simp only [Value.slice.injEq] at he; exact ⟨g, he.1⟩
theorem OwnF.free (h : OwnF k enc ok E w base (some ⟨g, 0, none⟩) n c l) (j : Nat) : w.frozen? ⟨g, j, none⟩ = false := h.1.frozenAt j
theorem OwnF.set3 {enc : α → List Value} (h : OwnF 3 enc ok E w base (some ⟨g, 0, none⟩) n c l) {i : Nat} (hi : i < n) {x : α} (hx : ok x) {v0 v1 v2 : Value} (he : enc x = [v0, v1, v2]) :
    OwnF 3 enc ok E (((w.setCell ⟨g, i * 3, none⟩ v0).setCell ⟨g, i * 3 + 1, none⟩ v1).setCell ⟨g, i * 3 + 2, none⟩ v2) base (some ⟨g, 0, none⟩) n c (l.set i x) := by
  obtain ⟨h1, h2, h3, h4⟩ := h
  refine ⟨?_, fun y hy => ?_, by simpa using h3, h4⟩
  · rw [← flat_set3 h4 (by omega) x he]
    exact (((h1.stored (i * 3) v0).1.stored (i * 3 + 1) v1).1.stored (i * 3 + 2) v2).1
  · rcases List.mem_or_eq_of_mem_set hy with h1 | h1
    · exact h2 y h1
    · rw [h1]; exact hx
theorem OwnF.set2 {enc : α → List Value} (h : OwnF 2 enc ok E w base (some ⟨g, 0, none⟩) n c l) {i : Nat} (hi : i < n) {x : α} (hx : ok x) {v0 v1 : Value} (he : enc x = [v0, v1]) :
    OwnF 2 enc ok E ((w.setCell ⟨g, i * 2, none⟩ v0).setCell ⟨g, i * 2 + 1, none⟩ v1) base (some ⟨g, 0, none⟩) n c (l.set i x) := by
  obtain ⟨h1, h2, h3, h4⟩ := h
  refine ⟨?_, fun y hy => ?_, by simpa using h3, h4⟩
  · rw [← flat_set2 h4 (by omega) x he]
    exact ((h1.stored (i * 2) v0).1.stored (i * 2 + 1) v1).1
  · rcases List.mem_or_eq_of_mem_set hy with h1 | h1
    · exact h2 y h1
    · rw [h1]; exact hx
end
theorem OwnI.keepG {E : TypeId} {w w' : World} {base : Nat} {a : Option Addr} {n c : Nat} {l : List Int} {r : Option Nat} (h : OwnI E w base a n c l) (hg : w.grownBy w' r) (hne : ∀ g, a = some ⟨g, 0, none⟩ → r ≠ some g) : OwnI E w' base a n c l := by
  refine ⟨h.1.kept hg ?_, h.2⟩
  rcases h.1.2 with ⟨he, _⟩ | ⟨g, cap, cur, he, _⟩
  · simp only [Value.slice.injEq] at he; rw [he.1]; exact .inl rfl
  · simp only [Value.slice.injEq] at he
    refine .inr ?_
    rw [he.1]
    exact fun e => hne g he.1 e.symm
theorem OwnI.blk {E : TypeId} {w : World} {base : Nat} {a : Option Addr} {n c : Nat} {l : List Int} (h : OwnI E w base a n c l) : ∀ g, a = some ⟨g, 0, none⟩ → base ≤ g ∧ g < w.heap.size := fun g e => h.1.lt g (by rw [e]; rfl)
theorem OwnI.shape {E : TypeId} {w : World} {base : Nat} {a : Option Addr} {n c : Nat} {l : List Int} (h : OwnI E w base a n c l) (hn : 0 < n) : ∃ g, a = some ⟨g, 0, none⟩ := by
  rcases h.1.2 with ⟨_, h0⟩ | ⟨g, cap, cur, he, _⟩
  · omega
  · simp only [Value.slice.injEq] at he; exact ⟨g, he.1⟩
theorem OwnI.form {E : TypeId} {w : World} {base : Nat} {a : Option Addr} {n c : Nat} {l : List Int} (h : OwnI E w base a n c l) : (a = none ∧ n = 0 ∧ c = 0) ∨ ∃ g, a = some ⟨g, 0, none⟩ := by
  rcases h.1.2 with ⟨he, h0⟩ | ⟨g, cap, cur, he, _⟩
  · simp only [Value.slice.injEq] at he; exact .inl ⟨he.1, h0, he.2.2⟩
  · simp only [Value.slice.injEq] at he; exact .inr ⟨g, he.1⟩
theorem OwnI.nil (E : TypeId) (w : World) (base : Nat) : OwnI E w base none 0 0 [] := ⟨World.ownsRow_nil w base E 1, fun _ h => by cases h⟩
/-- writes into the slice '.slice a n c' and nowhere else that was there -/
def Touch (w w' : World) (n : Nat) (a : Option Addr) : Prop := ∃ r, w.grownBy w' r ∧ ∀ b, r = some b → 0 < n ∧ a = some ⟨b, 0, none⟩
theorem Touch.below {w w' w0 : World} {n : Nat} {a : Option Addr} {B : Nat} (h : Touch w w' n a) (h0 : Below B w0 w) (hB : B ≤ w.heap.size) (hb : ∀ b, a = some ⟨b, 0, none⟩ → B ≤ b) : Below B w0 w' := by
  obtain ⟨r, hg, hr⟩ := h
  exact h0.grown hg hB fun k e => hb k (hr k e).2
theorem Touch.size {w w' : World} {n : Nat} {a : Option Addr} (h : Touch w w' n a) : w.heap.size ≤ w'.heap.size := by
  obtain ⟨r, hg, _⟩ := h
  exact hg.size
theorem OwnI.keepT {E : TypeId} {w w' : World} {base : Nat} {a a' : Option Addr} {n c n' : Nat} {l : List Int} (h : OwnI E w base a n c l) (ht : Touch w w' n' a') (hne : ∀ g, a = some ⟨g, 0, none⟩ → a' = some ⟨g, 0, none⟩ → False) : OwnI E w' base a n c l := by
  obtain ⟨r, hg, hr⟩ := ht
  exact h.keepG hg fun g e e' => hne g e (hr g e').2
theorem OwnF.keepT {α : Type} {k : Nat} {enc : α → List Value} {ok : α → Prop} {E : TypeId} {w w' : World} {base : Nat} {a a' : Option Addr} {n c n' : Nat} {l : List α} (h : OwnF k enc ok E w base a n c l) (ht : Touch w w' n' a') (hne : ∀ g, a = some ⟨g, 0, none⟩ → a' = some ⟨g, 0, none⟩ → False) : OwnF k enc ok E w' base a n c l := by
  obtain ⟨r, hg, hr⟩ := ht
  exact h.keepG hg fun g e e' => hne g e (hr g e').2
/-- 'append(out, x)' of one int64 to a slice of the call's own -/
theorem append1_i64 {P : Program} {w : World} {ops : Array Oper} {rest : List Oper} {o : Oper} {act : Act} {Q : Exit → Act → World → Prop} (hgd : o.guard = none) (s x : Operand) (t e : TypeId)
    (ho : o.op = .call { callee := .builtin .append, args := #[s, x], argTypes := #[t, t] }) (ht : P.underlying t = some (.slice e)) (hinfo : (P.info? e).map (fun i => (i.zero, i.size, i.bytes)) = some (some (.int .i64 0), 1, 8))
    (base : Nat) (a : Option Addr) (n c : Nat) (l : List Int) (hown : OwnI e w base a n c l) (hs : act.eval s = .slice a n c) (gx : Nat) (z : Int) (hx : act.eval x = .slice (some ⟨gx, 0, none⟩) 1 1) (hz : w.cell? ⟨gx, 0, none⟩ = some (.int .i64 z)) (hzw : I64 z)
    (hn : n ≤ 4194304) (hbase : base ≤ w.heap.size)
    (K : ∀ a' c' w', OwnI e w' base a' (n + 1) c' (l ++ [z]) → Below base w w' → w.grownBy w' (Value.slice a n c).ownBlock → wpList P ops Q rest (act.put o.dst (.slice a' (n + 1) c')) w') : wpList P ops Q (o :: rest) act w := by
  obtain ⟨i, hi, hz0, hz1, hz2⟩ := info_parts hinfo
  refine wpList_append_own w hgd s x t ho base e i (.int .i64 0) 1 8 ht hi hz0 hz1 hz2 rfl (by decide) (.slice a n c) n _ hs hown.1 ⟨gx, 0, none⟩ 1 1 [.int .i64 z] hx rfl ?_ ?_ (by unfold maxLen; omega) (by omega) hbase ?_
  · intro j u hj
    cases j with
    | zero => simp at hj; subst hj; simpa [Addr.add] using hz
    | succ j => simp at hj
  · intro u hu; simp at hu; subst hu; rfl
  · intro v' w' hown' hg hnil
    have hform := Joins.ownsRow_forms hown'
    have hb : Below base w w' := (Below.refl _ _).grown hg hbase fun k hk => (hown.1.lt k hk).1
    rcases hform with ⟨_, h0⟩ | ⟨g, cap, hv⟩
    · omega
    · rw [hv] at hown' ⊢
      refine K _ _ _ ⟨?_, fun y hy => ?_⟩ hb hg
      · rw [List.map_append]; exact hown'
      · rcases List.mem_append.1 hy with h | h
        · exact hown.2 y h
        · simp at h; rw [h]; exact hzw
/-- 'append(out, xs...)' of int64s to a slice of the call's own -/
theorem appendL_i64 {P : Program} {w : World} {ops : Array Oper} {rest : List Oper} {o : Oper} {act : Act} {Q : Exit → Act → World → Prop} (hgd : o.guard = none) (s x : Operand) (t e : TypeId)
    (ho : o.op = .call { callee := .builtin .append, args := #[s, x], argTypes := #[t, t] }) (ht : P.underlying t = some (.slice e)) (hinfo : (P.info? e).map (fun i => (i.zero, i.size, i.bytes)) = some (some (.int .i64 0), 1, 8))
    (base : Nat) (a : Option Addr) (n c : Nat) (l : List Int) (hown : OwnI e w base a n c l) (hs : act.eval s = .slice a n c) (a2 : Option Addr) (m c2 : Nat) (l2 : List Int) (hx : act.eval x = .slice a2 m c2) (hsrc : Ints w a2 m c2 l2)
    (hn : n ≤ 4194304) (hm : m ≤ 4194304) (hbase : base ≤ w.heap.size)
    (K : ∀ a' c' w', OwnI e w' base a' (n + m) c' (l ++ l2) → Below base w w' → w.grownBy w' (Value.slice a n c).ownBlock → (a' = none → a = none) → wpList P ops Q rest (act.put o.dst (.slice a' (n + m) c')) w') : wpList P ops Q (o :: rest) act w := by
  obtain ⟨i, hi, hz0, hz1, hz2⟩ := info_parts hinfo
  cases a2 with
  | none =>
    obtain ⟨rfl, rfl⟩ := hsrc.nil rfl
    have hl2 : l2 = [] := List.length_eq_zero_iff.1 hsrc.len
    subst hl2
    refine wpList_append_own_none hgd s x t ho base e i 1 ht hi (.slice a n c) n _ hs hown.1 hx ?_
    refine K a c w ?_ (Below.refl _ _) (grownBy_refl _ _) id
    rw [List.append_nil]; exact hown
  | some ad =>
    refine wpList_append_own w hgd s x t ho base e i (.int .i64 0) 1 8 ht hi hz0 hz1 hz2 rfl (by decide) (.slice a n c) n _ hs hown.1 ad m c2 (l2.map (Value.int .i64)) hx (by simp [hsrc.len]) ?_ ?_ (by unfold maxLen; omega) (by omega) hbase ?_
    · intro j u hj
      rw [List.getElem?_map] at hj
      cases hy : l2[j]? with
      | none => rw [hy] at hj; cases hj
      | some y =>
        rw [hy] at hj
        simp only [Option.map_some, Option.some.injEq] at hj
        subst hj
        have hjm : j < m := by rw [← hsrc.len]; exact (List.getElem?_eq_some_iff.1 hy).1
        obtain ⟨b, off, he, _, hc⟩ := hsrc.pos.resolve_left (by omega)
        simp only [Option.some.injEq] at he
        subst he
        have e1 : (⟨b, off, none⟩ : Addr).add j = ⟨b, off + j, none⟩ := by by_cases h0 : j = 0 <;> simp [Addr.add, h0]
        rw [e1]; exact hc j y hy
    · intro u hu
      simp only [List.mem_map] at hu
      obtain ⟨y, _, rfl⟩ := hu
      rfl
    · intro v' w' hown' hg hnil
      have hform := Joins.ownsRow_forms hown'
      have hb : Below base w w' := (Below.refl _ _).grown hg hbase fun k hk => (hown.1.lt k hk).1
      have hmap : l.map (Value.int .i64) ++ l2.map (Value.int .i64) = (l ++ l2).map (Value.int .i64) := (List.map_append ..).symm
      have hw : ∀ y ∈ l ++ l2, I64 y := fun y hy => by
        rcases List.mem_append.1 hy with h | h
        · exact hown.2 y h
        · exact hsrc.wf y h
      rw [hmap] at hown'
      rcases hform with ⟨hv, h0⟩ | ⟨g, cap, hv⟩
      · have h1 := hnil.1 hv
        rw [hv] at hown' ⊢
        have h2 := K none 0 w' (by rw [h0] at hown' ⊢; exact ⟨hown', hw⟩) hb hg (fun _ => by have := h1.1; simp only [Value.slice.injEq] at this; exact this.1)
        rw [h0] at h2; exact h2
      · rw [hv] at hown' ⊢
        exact K _ _ _ ⟨hown', hw⟩ hb hg (fun h => by cases h)
theorem OwnI.empty {E : TypeId} {base : Nat} (w : World) (h : base ≤ w.heap.size) : OwnI E (w.alloc (.cells #[] E)) base (some ⟨w.heap.size, 0, none⟩) 0 0 [] :=
  ⟨World.ownsRow_lit w #[] 0 h (Nat.zero_le _) rfl, fun _ h => by cases h⟩
/-- a' is nil only where a is -/
def NilBy (a' a : Option Addr) : Prop := a' = none → a = none
theorem NilBy.refl (a : Option Addr) : NilBy a a := id
theorem NilBy.some {a' a : Option Addr} (h : a' = none → False) : NilBy a' a := fun e => (h e).elim
def marksI (k : Int) (n : Nat) : List Int := (List.range n).map fun i : Nat => k + (i : Int)
def marks3 (k : Int) (n : Nat) : List I3 := (List.range n).map fun i : Nat => ⟨k + 3 * (i : Int), k + 3 * (i : Int) + 1, k + 3 * (i : Int) + 1 + 1⟩
def marks2 (k : Int) (n : Nat) : List I2 := (List.range n).map fun i : Nat => ⟨k + 2 * (i : Int), k + 2 * i + 1⟩
def marks2b (k : Int) (n : Nat) : List I2b := (List.range n).map fun i : Nat => ⟨k + 3 * (i : Int), k + 3 * (i : Int) + 1, (k + 3 * (i : Int) + 1 + 1) % 3 == 0⟩
theorem range_get {α : Type} {f : Nat → α} {n i : Nat} (hi : i < n) : ((List.range n).map f)[i]? = some (f i) := by simp [hi]
theorem mix_set {α : Type} {f : Nat → α} {n j : Nat} {l : List α} (hj : j < n) (hl : l.length = n) : (((List.range n).map f).take j ++ l.drop j).set j (f j) = ((List.range n).map f).take (j + 1) ++ l.drop (j + 1) := by
  have h1 : (((List.range n).map f).take j).length = j := by simp; omega
  rw [take_at (range_get (f := f) hj), List.set_append_right _ _ (by omega), h1, Nat.sub_self, show l.drop j = l[j] :: l.drop (j + 1) from List.drop_eq_getElem_cons (by omega), List.set_cons_zero, List.append_assoc]
  rfl

/-- p at every number below n -/
def upB (p : Nat → Bool) (n : Nat) : Bool := (List.range n).all p
theorem upB_zero (p : Nat → Bool) : upB p 0 = true := rfl
theorem upB_step {p : Nat → Bool} {k : Nat} (h : upB p k = true) (hk : p k = true) : upB p (k + 1) = true := by
  rw [upB, List.range_succ, List.all_append]; simp [hk]; simpa [upB] using h
theorem upB_false {p : Nat → Bool} {k n : Nat} (hkn : k < n) (hk : p k = false) : upB p n = false := by
  rw [upB, List.all_eq_false]; exact ⟨k, by simpa using hkn, by simp [hk]⟩
theorem upB_congr {p q : Nat → Bool} {n : Nat} (h : ∀ i, i < n → p i = q i) : upB p n = upB q n := by
  rw [Bool.eq_iff_iff, upB, upB, List.all_eq_true, List.all_eq_true]
  exact ⟨fun H i hi => by rw [← h i (by simpa using hi)]; exact H i hi, fun H i hi => by rw [h i (by simpa using hi)]; exact H i hi⟩

/-- a block that is known whole and may be written -/
def Blk (w : World) (b : Nat) (cs : Array Value) (T : TypeId) : Prop := w.heap[b]? = some (.cells cs T (0, 0))
theorem Blk.cell {w : World} {b : Nat} {cs : Array Value} {T : TypeId} (h : Blk w b cs T) (i : Nat) : w.cell? ⟨b, i, none⟩ = cs[i]? := Joins.cell_of_block h i
theorem Blk.free {w : World} {b : Nat} {cs : Array Value} {T : TypeId} (h : Blk w b cs T) (i : Nat) : w.frozen? ⟨b, i, none⟩ = false := Joins.unfrozen_of_block h i
theorem Blk.lt {w : World} {b : Nat} {cs : Array Value} {T : TypeId} (h : Blk w b cs T) : b < w.heap.size := Nat.lt_of_not_le fun hle => by rw [Blk, Array.getElem?_eq_none hle] at h; cases h
theorem Blk.keep {w w' : World} {b : Nat} {cs : Array Value} {T : TypeId} (h : Blk w b cs T) (hb : Below w.heap.size w w') : Blk w' b cs T := (hb.block b h.lt).trans h
theorem Blk.keepB {w w' : World} {b B : Nat} {cs : Array Value} {T : TypeId} (h : Blk w b cs T) (hb : Below B w w') (hB : b < B) : Blk w' b cs T := (hb.block b hB).trans h
theorem Blk.keepG {w w' : World} {b : Nat} {r : Option Nat} {cs : Array Value} {T : TypeId} (h : Blk w b cs T) (hg : w.grownBy w' r) (hr : r ≠ some b) : Blk w' b cs T := (hg.block b h.lt (fun e => hr e.symm)).trans h
theorem Blk.made (w : World) (cs : Array Value) (T : TypeId) : Blk (w.alloc (.cells cs T)) w.heap.size cs T := by
  show (w.heap.push _)[w.heap.size]? = _
  simp
theorem Blk.drew {w : World} {b : Nat} {cs : Array Value} {T : TypeId} (h : Blk w b cs T) : Blk w.drew b cs T := h
theorem set_grown {w : World} (g j : Nat) (u : Value) : w.grownBy (w.setCell ⟨g, j, none⟩ u) (some g) := grownBy_set (grownBy_refl _ _) j u
/-- two own slices lie apart -/
def Apart (a1 a2 : Option Addr) : Prop := ∀ g, a1 = some ⟨g, 0, none⟩ → a2 = some ⟨g, 0, none⟩ → False
theorem Apart.symm {a1 a2 : Option Addr} (h : Apart a1 a2) : Apart a2 a1 := fun g h1 h2 => h g h2 h1
theorem Apart.of {a1 a2 : Option Addr} {m : Nat} (h1 : ∀ g, a1 = some ⟨g, 0, none⟩ → g < m) (h2 : ∀ g, a2 = some ⟨g, 0, none⟩ → m ≤ g) : Apart a1 a2 := fun g e e' => by have := h1 g e; have := h2 g e'; omega

theorem grownBy_allocT {w w' : World} {r : Option Nat} (h : w.grownBy w' r) (o : Obj) : w.grownBy (w'.alloc o) r := grownBy_trans h (World.grownBy_alloc _ _ _)
theorem grownBy_drewT {w w' : World} {r : Option Nat} (h : w.grownBy w' r) : w.grownBy w'.drew r := grownBy_trans h ⟨rfl, rfl, rfl, Nat.le_refl _, fun _ _ _ => rfl⟩
theorem grownBy_drewNT {w w' : World} {r : Option Nat} (h : w.grownBy w' r) (q : Nat) : w.grownBy (w'.drewN q) r := grownBy_trans h ⟨rfl, rfl, rfl, Nat.le_refl _, fun _ _ _ => rfl⟩
theorem grownBy_belowT {w w' w'' : World} {r : Option Nat} (h : w.grownBy w' r) (hb : Below w'.heap.size w' w'') : w.grownBy w'' r := grownBy_trans h (grownBy_below hb r)

/-! ### short forms: what lies below is kept; one operation of a drawn region that yields a value -/
theorem bel {B : Nat} {w w' : World} (h : Below B w w' := by repeat (first | exact Below.refl _ _ | assumption | refine below_allocS ?_ _ | refine below_callS ?_ (by assumption) | (refine Below.alloc ?_ (by first | omega | (simp; done) | (simp; omega)) _) | (refine Below.setCell ?_ (by first | omega | (simp; done) | (simp; omega)) _) | refine Below.drew ?_ | refine below_drewN ?_ _ | (refine below_call ?_ (by assumption) (by first | omega | (simp; done) | (simp; omega))) | (refine Below.trans ?_ (by assumption)))) : Below B w w' := h
theorem s1 {α : Type} {l : List α} {i : Nat} {x : α} : l.toArray.setIfInBounds i x = (l.set i x).toArray := List.setIfInBounds_toArray ..
theorem s2 {α : Type} {l : List α} {x y : α} : (x :: l).set 0 y = y :: l := List.set_cons_zero ..
theorem s3 {α : Type} {l : List α} {x y : α} {i : Nat} : (x :: l).set (i + 1) y = x :: l.set i y := List.set_cons_succ ..
section
variable {P : Program} {ops : Array Oper} {Q : Exit → Act → World → Prop} {md : Region.Mode} {S : World → Prop}
theorem tkH0 (i : Nat) {oi : Oper} {v : Value} {fuel : Nat} {listed : Array Bool} {a : Act} {w : World} (hy : ∀ w, S w → (execOp a.eval oi).run P w = .ok (.value v) w)
    (h : wpAnyH P md ops Q S fuel (listed.setIfInBounds i true) (a.put oi.dst v) w)
    (hi : ops[i]? = some oi := by simp only [List.getElem?_toArray, List.getElem?_cons_succ, List.getElem?_cons_zero] <;> rfl) (hs : Region.noSelect ops = true := by kernel_rfl) (hf : Region.free md ops listed i = true := by kernel_rfl) (hr : (Region.ready md ops listed).contains i = true := by kernel_rfl)
    (hw : Region.wanted oi (yielded ops a.tmps) = true := by rfl) (hQ : ∀ c a w, Q (.panic c) (a.put oi.dst v) w → Q (.panic c) a w := by exact fun _ _ _ h => h) (hS : S w := by assumption) : wpAnyH P md ops Q S (fuel + 1) listed a w :=
  wpAnyH_take hi hs hf hr hQ (Or.inl ⟨hw, hy⟩) hS h
theorem tkH (i : Nat) {oi : Oper} {v : Value} {fuel : Nat} {listed : Array Bool} {a : Act} {w : World}
    (h : wpAnyH P md ops Q S fuel (listed.setIfInBounds i true) (a.put oi.dst v) w)
    (hi : ops[i]? = some oi := by simp only [List.getElem?_toArray, List.getElem?_cons_succ, List.getElem?_cons_zero] <;> rfl) (hs : Region.noSelect ops = true := by kernel_rfl) (hf : Region.free md ops listed i = true := by kernel_rfl) (hr : (Region.ready md ops listed).contains i = true := by kernel_rfl)
    (hw : Region.wanted oi (yielded ops a.tmps) = true := by rfl) (hy : ∀ w, S w → (execOp a.eval oi).run P w = .ok (.value v) w := by intro wq hSw; (try dsimp only at hSw); go_simp; try with_reducible rfl) (hQ : ∀ c a w, Q (.panic c) (a.put oi.dst v) w → Q (.panic c) a w := by exact fun _ _ _ h => h) (hS : S w := by assumption) : wpAnyH P md ops Q S (fuel + 1) listed a w :=
  wpAnyH_take hi hs hf hr hQ (Or.inl ⟨hw, hy⟩) hS h
theorem tkN (i : Nat) {oi : Oper} {fuel : Nat} {listed : Array Bool} {a : Act} {w : World}
    (h : wpAnyH P md ops Q S fuel (listed.setIfInBounds i true) (a.put oi.dst undef) w)
    (hi : ops[i]? = some oi := by simp only [List.getElem?_toArray, List.getElem?_cons_succ, List.getElem?_cons_zero] <;> rfl) (hs : Region.noSelect ops = true := by kernel_rfl) (hf : Region.free md ops listed i = true := by kernel_rfl) (hr : (Region.ready md ops listed).contains i = true := by kernel_rfl)
    (hw : Region.wanted oi (yielded ops a.tmps) = false := by rfl) (hQ : ∀ c a w, Q (.panic c) (a.put oi.dst undef) w → Q (.panic c) a w := by exact fun _ _ _ h => h) (hS : S w := by assumption) : wpAnyH P md ops Q S (fuel + 1) listed a w :=
  wpAnyH_take hi hs hf hr hQ (Or.inr ⟨hw, rfl⟩) hS h
end
end Go.Proofs.YtjneodmohkpckaaGreatDoor
