/- Rows of states: slices of slices of numbers that are the call's own; what the reference's search keeps. -/
import Derived.Test.YtfnamjkmkoldeaaGreatDoorQb
import Derived.Test.YtfnamjkmkoldeaaGreatDoorQe
import Derived.Test.YtfnamjkmkoldeaaGreatDoorQc
namespace Go.Proofs.YtfnamjkmkoldeaaGreatDoor
open Go.RowKit
set_option linter.unusedVariables false
set_option linter.unusedSimpArgs false
def encS (x : QM × List Int) : List Value := [.slice x.1.a x.1.n x.1.c]
theorem encS_len (x : QM × List Int) : (encS x).length = 1 := rfl
theorem encS_one (y : QM × List Int) : ∀ u ∈ encS y, u.oneCell' = true := fun u hu => by simp [encS] at hu; subst hu; rfl
theorem Tryz.infosl : (Tryz.prog.info? 22).map (fun i => (i.zero, i.size, i.bytes)) = some (some (.slice none 0 0), 1, 24) := by kernel_rfl
/-- a row of states that is the call's own -/
structure SRow (w : World) (lo l2 : Nat) (a : Option Addr) (n c : Nat) (l : List (QM × List Int)) : Prop where
  row : OwnF 1 encS (fun _ => True) 22 w lo a n c l
  each : ∀ x ∈ l, OwnI 2 w l2 x.1.a x.1.n x.1.c x.2
theorem SRow.keep {w w' : World} {lo l2 : Nat} {a : Option Addr} {n c : Nat} {l : List (QM × List Int)} (h : SRow w lo l2 a n c l) (hb : Below w.heap.size w w') : SRow w' lo l2 a n c l :=
  ⟨h.row.keep hb, fun x hx => (h.each x hx).keep hb⟩
theorem SRow.le {w : World} {lo lo' l2 l2' : Nat} {a : Option Addr} {n c : Nat} {l : List (QM × List Int)} (h : SRow w lo l2 a n c l) (hl : lo' ≤ lo) (hl2 : l2' ≤ l2) : SRow w lo' l2' a n c l :=
  ⟨h.row.le hl, fun x hx => (h.each x hx).le hl2⟩
theorem SRow.keepG {w w' : World} {lo l2 b : Nat} {a : Option Addr} {n c : Nat} {l : List (QM × List Int)} (h : SRow w lo l2 a n c l) (hg : w.grownBy w' (some b)) (hb : ∀ (cur : Array Value) (E : TypeId), w.heap[b]? = some (.cells cur E (0, 0)) → E ≠ 22 ∧ E ≠ 2) : SRow w' lo l2 a n c l :=
  ⟨h.row.keepG hg fun g e e' => by
      cases e'
      obtain ⟨cur, h1⟩ := h.row.typ e
      exact (hb _ _ h1).1 rfl,
   fun x hx => (h.each x hx).keepG hg fun g e e' => by
      cases e'
      obtain ⟨cur, h1⟩ := (h.each x hx).typ e
      exact (hb _ _ h1).2 rfl⟩
theorem SRow.get {w : World} {lo l2 : Nat} {a : Option Addr} {n c : Nat} {l : List (QM × List Int)} (h : SRow w lo l2 a n c l) {i : Nat} (hi : i < n) :
    ∃ b off R v, a = some ⟨b, off, none⟩ ∧ b < w.heap.size ∧ l[i]? = some (R, v) ∧ OwnI 2 w l2 R.a R.n R.c v ∧ w.cell? ⟨b, off + i, none⟩ = some (.slice R.a R.n R.c) := by
  obtain ⟨b, off, x, h1, h2, h3, _, h5⟩ := h.row.flats.at hi
  have := h5 0 _ rfl
  rw [Nat.mul_one] at this
  exact ⟨b, off, x.1, x.2, h1, h2, h3, h.each x (List.mem_of_getElem? h3), this⟩
theorem SRow.len {w : World} {lo l2 : Nat} {a : Option Addr} {n c : Nat} {l : List (QM × List Int)} (h : SRow w lo l2 a n c l) : l.length = n := h.row.flats.len
theorem SRow.nil (w : World) (lo l2 : Nat) : SRow w lo l2 none 0 0 [] := ⟨⟨World.ownsRow_nil w lo _ 1, (fun _ h => by cases h), rfl, encS_len⟩, fun _ h => by cases h⟩
theorem Flats.part {α : Type} {k : Nat} {enc : α → List Value} {ok : α → Prop} {w : World} {a : Option Addr} {n c : Nat} {l : List α} (h : Flats k enc ok w a n c l) {lo hi : Nat} (h1 : lo ≤ hi) (h2 : hi ≤ n) : Flats k enc ok w (if c = lo then a else a.map (·.add (lo * k))) (hi - lo) (c - lo) ((l.drop lo).take (hi - lo)) := by
  have hc := h.cap
  have hl := h.len
  refine ⟨by rw [List.length_take, List.length_drop, hl]; omega, by omega, ?_, fun x hx => h.wf x (List.mem_of_mem_drop (List.mem_of_mem_take hx)), fun e => ?_⟩
  · by_cases h0 : hi - lo = 0
    · exact .inl h0
    · obtain ⟨b, off, ha, hlt, hx⟩ := h.pos.resolve_left (by omega)
      subst ha
      refine .inr ⟨b, off + lo * k, ?_, hlt, fun i x hi' j v hv => ?_⟩
      · rw [if_neg (by omega), Option.map_some]
        congr 1
        by_cases h0 : lo * k = 0 <;> simp [Addr.add, h0]
      · rw [List.getElem?_take] at hi'
        split at hi'
        · rw [List.getElem?_drop] at hi'
          have := hx _ _ hi' j v hv
          rw [Nat.add_mul] at this
          rw [show off + lo * k + i * k + j = off + (lo * k + i * k) + j by omega]; exact this
        · cases hi'
  · have ha : a = none := by
      split at e
      · exact e
      · cases a with
        | none => rfl
        | some => cases e
    have := h.nil ha
    omega
/-- from w to w' nothing that was there is written but block b and rows of states -/
structure StepW (b : Nat) (w w' : World) : Prop where
  os : w'.os = w.os
  tape : w'.tape = w.tape
  output : w'.output = w.output
  size : w.heap.size ≤ w'.heap.size
  block : ∀ k, k < w.heap.size → k ≠ b → (∀ cur, w.heap[k]? ≠ some (.cells cur 22 (0, 0))) → w'.heap[k]? = w.heap[k]?
theorem StepW.refl (b : Nat) (w : World) : StepW b w w := ⟨rfl, rfl, rfl, Nat.le_refl _, fun _ _ _ _ => rfl⟩
theorem StepW.trans {b : Nat} {w w' w'' : World} (h : StepW b w w') (h' : StepW b w' w'') : StepW b w w'' :=
  ⟨h'.os.trans h.os, h'.tape.trans h.tape, h'.output.trans h.output, Nat.le_trans h.size h'.size, fun k hk hr ht => by
    have e := h.block k hk hr ht
    rw [h'.block k (Nat.lt_of_lt_of_le hk h.size) hr (fun cur => by rw [e]; exact ht cur), e]⟩
theorem StepW.below {b : Nat} {w w' : World} (h : Below w.heap.size w w') : StepW b w w' := ⟨h.os, h.tape, h.output, h.size, fun k hk _ _ => h.block k hk⟩
theorem StepW.set (b : Nat) (w : World) (j : Nat) (u : Value) : StepW b w (w.setCell ⟨b, j, none⟩ u) :=
  have h := set_grown (w := w) b j u
  ⟨h.os, h.tape, h.output, h.size, fun k hk hr _ => h.block k hk (fun e => hr (by cases e; rfl))⟩
theorem StepW.touch {b n' lo l2 : Nat} {w w' : World} {a : Option Addr} {n c : Nat} {l : List (QM × List Int)} (h : SRow w lo l2 a n c l) (ht : Touch w w' n' a) : StepW b w w' := by
  obtain ⟨r, hg, hr⟩ := ht
  refine ⟨hg.os, hg.tape, hg.output, hg.size, fun k hk _ hn => hg.block k hk fun e => ?_⟩
  obtain ⟨_, ha⟩ := hr k e.symm
  obtain ⟨cur, h1⟩ := h.row.typ ha
  exact hn _ h1
theorem Blk.keepS {b g : Nat} {w w' : World} {cs : Array Value} {T : TypeId} (h : Blk w g cs T) (hs : StepW b w w') (hg : g ≠ b) (hT : T ≠ 22) : Blk w' g cs T :=
  (hs.block g h.lt hg fun cur e => by rw [Blk] at h; rw [h] at e; simp only [Option.some.injEq, Obj.cells.injEq] at e; exact hT e.2.1).trans h
theorem OwnI.keepS {b lo : Nat} {w w' : World} {a : Option Addr} {n c : Nat} {l : List Int} {T : TypeId} {cs : Array Value} (h : OwnI 2 w lo a n c l) (hB : Blk w b cs T) (hT : T ≠ 2) (hs : StepW b w w') : OwnI 2 w' lo a n c l := by
  have hty := fun g e => h.typ (g := g) e
  obtain ⟨⟨hl, h2⟩, hw⟩ := h
  refine ⟨⟨hl, ?_⟩, hw⟩
  rcases h2 with h2 | ⟨g, cap, cur, he, hbs, hg, r⟩
  · exact .inl h2
  · have hlt : g < w.heap.size := Nat.lt_of_not_le fun h => by rw [Array.getElem?_eq_none h] at hg; cases hg
    refine .inr ⟨g, cap, cur, he, hbs, ?_, r⟩
    rw [hs.block g hlt (fun e => ?_) (fun cur' e => ?_)]; exact hg
    · subst e
      rw [Blk] at hB
      rw [hB] at hg
      simp only [Option.some.injEq, Obj.cells.injEq] at hg
      exact hT hg.2.1
    · rw [hg] at e
      simp only [Option.some.injEq, Obj.cells.injEq] at e
      exact absurd e.2.1 (by decide)
/-- append of one state to a row -/
theorem appS {w : World} {ops : Array Oper} {rest : List Oper} {o : Oper} {act : Act} {Q : Exit → Act → World → Prop} (hgd : o.guard = none) (s x : Operand)
    (ho : o.op = .call { callee := .builtin .append, args := #[s, x], argTypes := #[47, 47] })
    (base b2 : Nat) (a : Option Addr) (n c : Nat) (l : List (QM × List Int)) (hown : SRow w base b2 a n c l) (hs : act.eval s = .slice a n c) (gx : Nat) (hx : act.eval x = .slice (some ⟨gx, 0, none⟩) 1 1) (hg : gx = w.heap.size) (y : QM × List Int) (hy : OwnI 2 w b2 y.1.a y.1.n y.1.c y.2) (cs : Array Value) (hcs : cs = #[.slice y.1.a y.1.n y.1.c])
    (hn : n ≤ 4194304) (hbase : base ≤ w.heap.size)
    (K : ∀ g' c' w', SRow w' base b2 (some ⟨g', 0, none⟩) (n + 1) c' (l ++ [y]) → Below base w w' → Touch w w' 1 a → (a = some ⟨g', 0, none⟩ ∨ g' = w.heap.size + 1) → w.heap.size + 1 ≤ w'.heap.size → wpList Tryz.prog ops Q rest (act.put o.dst (.slice (some ⟨g', 0, none⟩) (n + 1) c')) w') : wpList Tryz.prog ops Q (o :: rest) act (w.alloc (.cells cs 22)) := by
  refine appAtL (k := 1) (m := 1) (enc := encS) (ok := fun _ => True) hgd s x ho Tryz.underlying47 Tryz.infosl rfl (by decide) (by decide) encS_one base a n c l [y] hown.row hs gx hx hg (by rw [hcs]; rfl) rfl (fun _ _ => trivial) (by decide) hn (by decide) hbase ?_
  intro g' c' w' h1 h2 h3 h4 h5
  have ht : Touch w w' 1 a := ⟨_, h3, fun b e => ⟨by decide, own_block hown.row.1 b e⟩⟩
  refine K g' c' w' ⟨h1, fun z hz => ?_⟩ h2 ht h4 h5
  have hz' : OwnI 2 w b2 z.1.a z.1.n z.1.c z.2 := by
    rcases List.mem_append.1 hz with hz | hz
    · exact hown.each z hz
    · simp at hz; rw [hz]; exact hy
  exact hz'.keepT ht fun g e e' => typ_apart (fun {g} e => hz'.typ e) (fun {g} e => hown.row.typ e) (by decide) g e e'
/-- append of a part of a row to a row -/
theorem appSL {w : World} {ops : Array Oper} {rest : List Oper} {o : Oper} {act : Act} {Q : Exit → Act → World → Prop} (hgd : o.guard = none) (s x : Operand)
    (ho : o.op = .call { callee := .builtin .append, args := #[s, x], argTypes := #[47, 47] })
    (base b2 : Nat) (a : Option Addr) (n c : Nat) (l : List (QM × List Int)) (hown : SRow w base b2 a n c l) (hs : act.eval s = .slice a n c) (a2 : Option Addr) (m c2 : Nat) (l2 : List (QM × List Int)) (hx : act.eval x = .slice a2 m c2) (hsrc : Flats 1 encS (fun _ => True) w a2 m c2 l2) (hy : ∀ y ∈ l2, OwnI 2 w b2 y.1.a y.1.n y.1.c y.2)
    (hn : n ≤ 4194304) (hm : m ≤ 4194304) (hbase : base ≤ w.heap.size)
    (K : ∀ a' c' w', SRow w' base b2 a' (n + m) c' (l ++ l2) → Below base w w' → Touch w w' 1 a → wpList Tryz.prog ops Q rest (act.put o.dst (.slice a' (n + m) c')) w') : wpList Tryz.prog ops Q (o :: rest) act w := by
  refine appendL_F (k := 1) (enc := encS) (ok := fun _ => True) hgd s x _ _ ho Tryz.underlying47 Tryz.infosl rfl (by decide) (by decide) encS_one base a n c l hown.row hs a2 m c2 l2 hx hsrc hn hm hbase ?_
  intro a' c' w' h1 h2 h3 h4
  have ht : Touch w w' 1 a := ⟨_, h3, fun b e => ⟨by decide, own_block hown.row.1 b e⟩⟩
  refine K a' c' w' ⟨h1, fun z hz => ?_⟩ h2 ht
  have hz' : OwnI 2 w b2 z.1.a z.1.n z.1.c z.2 := by
    rcases List.mem_append.1 hz with hz | hz
    · exact hown.each z hz
    · exact hy z hz
  exact hz'.keepT ht fun g e e' => typ_apart (fun {g} e => hz'.typ e) (fun {g} e => hown.row.typ e) (by decide) g e e'
end Go.Proofs.YtfnamjkmkoldeaaGreatDoor
