/- Rows of states: slices of slices of numbers that are the call's own; what the reference's search keeps.; The search's steps in plain words, as its walk wants them.; The binary search in an ascending list of states, and what the reference's search keeps: plain laws.; The reference's comparison of states, its binary search and its insertion, walked. -/
import Derived.Test.YtfnamjkmkoldeaaGreatDoorQb
import Derived.Test.YtfnamjkmkoldeaaGreatDoorQe
import Derived.Test.YtfnamjkmkoldeaaGreatDoorQc
import Derived.BigRegion
import Derived.BigQuiet
namespace Go.Proofs.YtfnamjkmkoldeaaGreatDoor
open Go.RowKit
set_option linter.unusedVariables false
set_option linter.unusedSimpArgs false
def encS (x : QM × List Int) : List Value := [.slice x.1.a x.1.n x.1.c]
theorem encS_len (x : QM × List Int) : (encS x).length = 1 := rfl
theorem encS_one (y : QM × List Int) : ∀ u ∈ encS y, u.oneCell' = true := fun u hu => by simp [encS] at hu; subst hu; rfl
theorem Tryz.infosl : (Tryz.prog.info? 22).map (fun i => (i.zero, i.size, i.bytes)) = some (some (.slice none 0 0), 1, 24) := by kernel_rfl
/-- a row of states that is the call's own -/
structure SRow (w : World) (lo l2 : Nat) (a : Option Addr) (n c : Nat) (l : List (QM × List Int)) : Prop where
  row : OwnF 1 encS (fun _ => True) 22 w lo a n c l
  each : ∀ x ∈ l, OwnI 2 w l2 x.1.a x.1.n x.1.c x.2
theorem SRow.keep {w w' : World} {lo l2 : Nat} {a : Option Addr} {n c : Nat} {l : List (QM × List Int)} (h : SRow w lo l2 a n c l) (hb : Below w.heap.size w w') : SRow w' lo l2 a n c l :=
  ⟨h.row.keep hb, fun x hx => (h.each x hx).keep hb⟩
theorem SRow.le {w : World} {lo lo' l2 l2' : Nat} {a : Option Addr} {n c : Nat} {l : List (QM × List Int)} (h : SRow w lo l2 a n c l) (hl : lo' ≤ lo) (hl2 : l2' ≤ l2) : SRow w lo' l2' a n c l :=
  ⟨h.row.le hl, fun x hx => (h.each x hx).le hl2⟩
theorem SRow.keepG {w w' : World} {lo l2 b : Nat} {a : Option Addr} {n c : Nat} {l : List (QM × List Int)} (h : SRow w lo l2 a n c l) (hg : w.grownBy w' (some b)) (hb : ∀ (cur : Array Value) (E : TypeId), w.heap[b]? = some (.cells cur E (0, 0)) → E ≠ 22 ∧ E ≠ 2) : SRow w' lo l2 a n c l :=
  ⟨h.row.keepG hg fun g e e' => by
      cases e'
      obtain ⟨cur, h1⟩ := h.row.typ e
      exact (hb _ _ h1).1 rfl,
   fun x hx => (h.each x hx).keepG hg fun g e e' => by
      cases e'
      obtain ⟨cur, h1⟩ := (h.each x hx).typ e
      exact (hb _ _ h1).2 rfl⟩
theorem SRow.get {w : World} {lo l2 : Nat} {a : Option Addr} {n c : Nat} {l : List (QM × List Int)} (h : SRow w lo l2 a n c l) {i : Nat} (hi : i < n) :
    ∃ b off R v, a = some ⟨b, off, none⟩ ∧ b < w.heap.size ∧ l[i]? = some (R, v) ∧ OwnI 2 w l2 R.a R.n R.c v ∧ w.cell? ⟨b, off + i, none⟩ = some (.slice R.a R.n R.c) := by
  obtain ⟨b, off, x, h1, h2, h3, _, h5⟩ := h.row.flats.at hi
  have := h5 0 _ rfl
  rw [Nat.mul_one] at this
  exact ⟨b, off, x.1, x.2, h1, h2, h3, h.each x (List.mem_of_getElem? h3), this⟩
theorem SRow.len {w : World} {lo l2 : Nat} {a : Option Addr} {n c : Nat} {l : List (QM × List Int)} (h : SRow w lo l2 a n c l) : l.length = n := h.row.flats.len
theorem SRow.nil (w : World) (lo l2 : Nat) : SRow w lo l2 none 0 0 [] := ⟨⟨World.ownsRow_nil w lo _ 1, (fun _ h => by cases h), rfl, encS_len⟩, fun _ h => by cases h⟩
theorem Flats.part {α : Type} {k : Nat} {enc : α → List Value} {ok : α → Prop} {w : World} {a : Option Addr} {n c : Nat} {l : List α} (h : Flats k enc ok w a n c l) {lo hi : Nat} (h1 : lo ≤ hi) (h2 : hi ≤ n) : Flats k enc ok w (if c = lo then a else a.map (·.add (lo * k))) (hi - lo) (c - lo) ((l.drop lo).take (hi - lo)) := by
  have hc := h.cap
  have hl := h.len
  refine ⟨by rw [List.length_take, List.length_drop, hl]; omega, by omega, ?_, fun x hx => h.wf x (List.mem_of_mem_drop (List.mem_of_mem_take hx)), fun e => ?_⟩
  · by_cases h0 : hi - lo = 0
    · exact .inl h0
    · obtain ⟨b, off, ha, hlt, hx⟩ := h.pos.resolve_left (by omega)
      subst ha
      refine .inr ⟨b, off + lo * k, ?_, hlt, fun i x hi' j v hv => ?_⟩
      · rw [if_neg (by omega), Option.map_some]
        congr 1
        by_cases h0 : lo * k = 0 <;> simp [Addr.add, h0]
      · rw [List.getElem?_take] at hi'
        split at hi'
        · rw [List.getElem?_drop] at hi'
          have := hx _ _ hi' j v hv
          rw [Nat.add_mul] at this
          rw [show off + lo * k + i * k + j = off + (lo * k + i * k) + j by omega]; exact this
        · cases hi'
  · have ha : a = none := by
      split at e
      · exact e
      · cases a with
        | none => rfl
        | some => cases e
    have := h.nil ha
    omega
/-- from w to w' nothing that was there is written but block b and rows of states -/
structure StepW (b : Nat) (w w' : World) : Prop where
  os : w'.os = w.os
  tape : w'.tape = w.tape
  output : w'.output = w.output
  size : w.heap.size ≤ w'.heap.size
  block : ∀ k, k < w.heap.size → k ≠ b → (∀ cur, w.heap[k]? ≠ some (.cells cur 22 (0, 0))) → w'.heap[k]? = w.heap[k]?
theorem StepW.refl (b : Nat) (w : World) : StepW b w w := ⟨rfl, rfl, rfl, Nat.le_refl _, fun _ _ _ _ => rfl⟩
theorem StepW.trans {b : Nat} {w w' w'' : World} (h : StepW b w w') (h' : StepW b w' w'') : StepW b w w'' :=
  ⟨h'.os.trans h.os, h'.tape.trans h.tape, h'.output.trans h.output, Nat.le_trans h.size h'.size, fun k hk hr ht => by
    have e := h.block k hk hr ht
    rw [h'.block k (Nat.lt_of_lt_of_le hk h.size) hr (fun cur => by rw [e]; exact ht cur), e]⟩
theorem StepW.below {b : Nat} {w w' : World} (h : Below w.heap.size w w') : StepW b w w' := ⟨h.os, h.tape, h.output, h.size, fun k hk _ _ => h.block k hk⟩
theorem StepW.set (b : Nat) (w : World) (j : Nat) (u : Value) : StepW b w (w.setCell ⟨b, j, none⟩ u) :=
  have h := set_grown (w := w) b j u
  ⟨h.os, h.tape, h.output, h.size, fun k hk hr _ => h.block k hk (fun e => hr (by cases e; rfl))⟩
theorem StepW.touch {b n' lo l2 : Nat} {w w' : World} {a : Option Addr} {n c : Nat} {l : List (QM × List Int)} (h : SRow w lo l2 a n c l) (ht : Touch w w' n' a) : StepW b w w' := by
  obtain ⟨r, hg, hr⟩ := ht
  refine ⟨hg.os, hg.tape, hg.output, hg.size, fun k hk _ hn => hg.block k hk fun e => ?_⟩
  obtain ⟨_, ha⟩ := hr k e.symm
  obtain ⟨cur, h1⟩ := h.row.typ ha
  exact hn _ h1
theorem Blk.keepS {b g : Nat} {w w' : World} {cs : Array Value} {T : TypeId} (h : Blk w g cs T) (hs : StepW b w w') (hg : g ≠ b) (hT : T ≠ 22) : Blk w' g cs T :=
  (hs.block g h.lt hg fun cur e => by rw [Blk] at h; rw [h] at e; simp only [Option.some.injEq, Obj.cells.injEq] at e; exact hT e.2.1).trans h
theorem OwnI.keepS {b lo : Nat} {w w' : World} {a : Option Addr} {n c : Nat} {l : List Int} {T : TypeId} {cs : Array Value} (h : OwnI 2 w lo a n c l) (hB : Blk w b cs T) (hT : T ≠ 2) (hs : StepW b w w') : OwnI 2 w' lo a n c l := by
  have hty := fun g e => h.typ (g := g) e
  obtain ⟨⟨hl, h2⟩, hw⟩ := h
  refine ⟨⟨hl, ?_⟩, hw⟩
  rcases h2 with h2 | ⟨g, cap, cur, he, hbs, hg, r⟩
  · exact .inl h2
  · have hlt : g < w.heap.size := Nat.lt_of_not_le fun h => by rw [Array.getElem?_eq_none h] at hg; cases hg
    refine .inr ⟨g, cap, cur, he, hbs, ?_, r⟩
    rw [hs.block g hlt (fun e => ?_) (fun cur' e => ?_)]; exact hg
    · subst e
      rw [Blk] at hB
      rw [hB] at hg
      simp only [Option.some.injEq, Obj.cells.injEq] at hg
      exact hT hg.2.1
    · rw [hg] at e
      simp only [Option.some.injEq, Obj.cells.injEq] at e
      exact absurd e.2.1 (by decide)
/-- append of one state to a row -/
theorem appS {w : World} {ops : Array Oper} {rest : List Oper} {o : Oper} {act : Act} {Q : Exit → Act → World → Prop} (hgd : o.guard = none) (s x : Operand)
    (ho : o.op = .call { callee := .builtin .append, args := #[s, x], argTypes := #[47, 47] })
    (base b2 : Nat) (a : Option Addr) (n c : Nat) (l : List (QM × List Int)) (hown : SRow w base b2 a n c l) (hs : act.eval s = .slice a n c) (gx : Nat) (hx : act.eval x = .slice (some ⟨gx, 0, none⟩) 1 1) (hg : gx = w.heap.size) (y : QM × List Int) (hy : OwnI 2 w b2 y.1.a y.1.n y.1.c y.2) (cs : Array Value) (hcs : cs = #[.slice y.1.a y.1.n y.1.c])
    (hn : n ≤ 4194304) (hbase : base ≤ w.heap.size)
    (K : ∀ g' c' w', SRow w' base b2 (some ⟨g', 0, none⟩) (n + 1) c' (l ++ [y]) → Below base w w' → Touch w w' 1 a → (a = some ⟨g', 0, none⟩ ∨ g' = w.heap.size + 1) → w.heap.size + 1 ≤ w'.heap.size → wpList Tryz.prog ops Q rest (act.put o.dst (.slice (some ⟨g', 0, none⟩) (n + 1) c')) w') : wpList Tryz.prog ops Q (o :: rest) act (w.alloc (.cells cs 22)) := by
  refine appAtL (k := 1) (m := 1) (enc := encS) (ok := fun _ => True) hgd s x ho Tryz.underlying47 Tryz.infosl rfl (by decide) (by decide) encS_one base a n c l [y] hown.row hs gx hx hg (by rw [hcs]; rfl) rfl (fun _ _ => trivial) (by decide) hn (by decide) hbase ?_
  intro g' c' w' h1 h2 h3 h4 h5
  have ht : Touch w w' 1 a := ⟨_, h3, fun b e => ⟨by decide, own_block hown.row.1 b e⟩⟩
  refine K g' c' w' ⟨h1, fun z hz => ?_⟩ h2 ht h4 h5
  have hz' : OwnI 2 w b2 z.1.a z.1.n z.1.c z.2 := by
    rcases List.mem_append.1 hz with hz | hz
    · exact hown.each z hz
    · simp at hz; rw [hz]; exact hy
  exact hz'.keepT ht fun g e e' => typ_apart (fun {g} e => hz'.typ e) (fun {g} e => hown.row.typ e) (by decide) g e e'
/-- append of a part of a row to a row -/
theorem appSL {w : World} {ops : Array Oper} {rest : List Oper} {o : Oper} {act : Act} {Q : Exit → Act → World → Prop} (hgd : o.guard = none) (s x : Operand)
    (ho : o.op = .call { callee := .builtin .append, args := #[s, x], argTypes := #[47, 47] })
    (base b2 : Nat) (a : Option Addr) (n c : Nat) (l : List (QM × List Int)) (hown : SRow w base b2 a n c l) (hs : act.eval s = .slice a n c) (a2 : Option Addr) (m c2 : Nat) (l2 : List (QM × List Int)) (hx : act.eval x = .slice a2 m c2) (hsrc : Flats 1 encS (fun _ => True) w a2 m c2 l2) (hy : ∀ y ∈ l2, OwnI 2 w b2 y.1.a y.1.n y.1.c y.2)
    (hn : n ≤ 4194304) (hm : m ≤ 4194304) (hbase : base ≤ w.heap.size)
    (K : ∀ a' c' w', SRow w' base b2 a' (n + m) c' (l ++ l2) → Below base w w' → Touch w w' 1 a → wpList Tryz.prog ops Q rest (act.put o.dst (.slice a' (n + m) c')) w') : wpList Tryz.prog ops Q (o :: rest) act w := by
  refine appendL_F (k := 1) (enc := encS) (ok := fun _ => True) hgd s x _ _ ho Tryz.underlying47 Tryz.infosl rfl (by decide) (by decide) encS_one base a n c l hown.row hs a2 m c2 l2 hx hsrc hn hm hbase ?_
  intro a' c' w' h1 h2 h3 h4
  have ht : Touch w w' 1 a := ⟨_, h3, fun b e => ⟨by decide, own_block hown.row.1 b e⟩⟩
  refine K a' c' w' ⟨h1, fun z hz => ?_⟩ h2 ht
  have hz' : OwnI 2 w b2 z.1.a z.1.n z.1.c z.2 := by
    rcases List.mem_append.1 hz with hz | hz
    · exact hown.each z hz
    · exact hy z hz
  exact hz'.keepT ht fun g e e' => typ_apart (fun {g} e => hz'.typ e) (fun {g} e => hown.row.typ e) (by decide) g e e'
end Go.Proofs.YtfnamjkmkoldeaaGreatDoor
namespace Go.Proofs.YtfnamjkmkoldeaaGreatDoor
open Go.RowKit
set_option linter.unusedVariables false
set_option linter.unusedSimpArgs false
theorem enabI_eq (rs : List RuD) (v : List Int) : enabI rs v rs.length = (enabP rs v).map fun (i : Nat) => (i : Int) := rfl
theorem enabI_at {rs : List RuD} {v : List Int} {j : Nat} {z : Int} (h : (enabI rs v rs.length)[j]? = some z) : ∃ (q : Nat) (r : RuD), z = (q : Int) ∧ q < rs.length ∧ rs[q]? = some r ∧ (enabP rs v)[j]? = some q ∧ (nextP rs v)[j]? = some (q, applyP v r.e) := by
  rw [enabI_eq, List.getElem?_map] at h
  cases hq : (enabP rs v)[j]? with
  | none => rw [hq] at h; cases h
  | some q =>
    rw [hq] at h
    simp only [Option.map_some, Option.some.injEq] at h
    have hm := List.mem_of_getElem? hq
    rw [enabP, List.mem_filter, List.mem_range] at hm
    have hr : rs[q]? = some rs[q] := List.getElem?_eq_getElem hm.1
    refine ⟨q, rs[q], h.symm, hm.1, hr, rfl, ?_⟩
    have e : rs.getD q zRu = rs[q] := by rw [List.getD_eq_getElem?_getD, hr]; rfl
    rw [nextP, List.getElem?_map, hq, Option.map_some, e]
theorem nextP_len (rs : List RuD) (v : List Int) : (nextP rs v).length = (enabI rs v rs.length).length := by rw [nextP, enabI_eq, List.length_map, List.length_map]
/-- the list after the first j enabled rules -/
def expT (rs : List RuD) (i : Nat) (x : SN) (L : List SN) (j : Nat) : List SN := ((nextP rs x.v).take j).foldl (addN i x) L
theorem expT_zero (rs : List RuD) (i : Nat) (x : SN) (L : List SN) : expT rs i x L 0 = L := rfl
theorem expT_step {rs : List RuD} {i : Nat} {x : SN} {L : List SN} {j : Nat} {q : Nat × List Int} (h : (nextP rs x.v)[j]? = some q) : expT rs i x L (j + 1) = addN i x (expT rs i x L j) q := by
  rw [expT, take_at h, List.foldl_append]; rfl
theorem expT_all {rs : List RuD} {i : Nat} {x : SN} {L : List SN} {j : Nat} (h : (nextP rs x.v).length ≤ j) : expT rs i x L j = expN rs i x L := by
  rw [expT, List.take_of_length_le h]; rfl
def hasL (L : List SN) (k : List UInt8) : Bool := L.any fun y => keyL y.v == k
theorem hasL_app (L : List SN) (y : SN) (k : List UInt8) : hasL (L ++ [y]) k = (decide (k = keyL y.v) || hasL L k) := by
  rw [hasL, List.any_append, Bool.or_comm]
  simp only [List.any_cons, List.any_nil, Bool.or_false, hasL]
  congr 1
  rw [Bool.eq_iff_iff, beq_iff_eq, decide_eq_true_iff]
  exact eq_comm
theorem hasL_any {sz : List Int} (hz : ∀ z ∈ sz, z ≤ 256) {L : List SN} (hL : ∀ y ∈ L, SV sz y.v) {v : List Int} (hv : SV sz v) : hasL L (keyL v) = L.any (fun y => y.v == v) := by
  rw [hasL, Bool.eq_iff_iff, List.any_eq_true, List.any_eq_true]
  constructor
  · rintro ⟨y, hy, h⟩
    exact ⟨y, hy, by simpa using keyL_inj hz (hL y hy) hv (by simpa using h)⟩
  · rintro ⟨y, hy, h⟩
    exact ⟨y, hy, by simp at h; simp [h]⟩
theorem addN_old {i : Nat} {x : SN} {L : List SN} {r : Nat × List Int} (h : L.any (fun y => y.v == r.2) = true) : addN i x L r = L := by rw [addN, if_pos h]
theorem addN_new {i : Nat} {x : SN} {L : List SN} {r : Nat × List Int} (h : L.any (fun y => y.v == r.2) = false) : addN i x L r = L ++ [⟨r.2, i, r.1, x.dp + 1, x.tr ++ [(r.1 : Int)]⟩] := by rw [addN, if_neg (by simp [h])]
/-- how deep a found state lies is bounded by its place -/
def DpB (L : List SN) : Prop := ∀ (j : Nat) (y : SN), L[j]? = some y → 0 ≤ y.dp ∧ y.dp ≤ j
theorem DpB.add {L : List SN} (h : DpB L) {i : Nat} {x : SN} (hx : L[i]? = some x) (r : Nat × List Int) : DpB (addN i x L r) := by
  have hi : i < L.length := (List.getElem?_eq_some_iff.1 hx).1
  have hxd := h i x hx
  cases ha : L.any (fun y => y.v == r.2) with
  | true => rw [addN_old ha]; exact h
  | false =>
    rw [addN_new ha]
    intro j y hy
    by_cases hj : j < L.length
    · rw [List.getElem?_append_left hj] at hy; exact h j y hy
    · rw [List.getElem?_append_right (by omega)] at hy
      have hj0 : j - L.length = 0 := by
        have := (List.getElem?_eq_some_iff.1 hy).1
        simp at this; omega
      rw [hj0] at hy
      simp at hy
      subst hy
      exact ⟨by simp only; omega, by simp only; omega⟩
end Go.Proofs.YtfnamjkmkoldeaaGreatDoor
namespace Go.Proofs.YtfnamjkmkoldeaaGreatDoor
open Go.RowKit
set_option linter.unusedVariables false
set_option linter.unusedSimpArgs false
theorem plc_up {m : Nat} {l : List (List Int)} {x a : List Int} {k : Nat} (h : AscS m l) (hx : x.length = m) (ha : l[k]? = some a) (hc : cmpL a x < 0) : ∀ (i : Nat) (b : List Int), l[i]? = some b → i < k + 1 → cmpL b x < 0 := by
  intro i b hb hi
  by_cases e : i = k
  · subst e; rw [ha] at hb; cases hb; exact hc
  · have l1 := h.1 b (List.mem_of_getElem? hb)
    have l2 := h.1 a (List.mem_of_getElem? ha)
    exact cmpL_trans (by rw [l1, l2]) (by rw [l2, hx]) (asc_lt h hb ha (by omega)) hc
theorem plc_dn {m : Nat} {l : List (List Int)} {x a : List Int} {k : Nat} (h : AscS m l) (hx : x.length = m) (ha : l[k]? = some a) (hc : ¬ cmpL a x < 0) : ∀ (i : Nat) (b : List Int), l[i]? = some b → k ≤ i → 0 ≤ cmpL b x := by
  intro i b hb hi
  by_cases e : k = i
  · subst e; rw [ha] at hb; cases hb; omega
  · refine Int.not_lt.1 fun hlt => hc ?_
    have l1 := h.1 b (List.mem_of_getElem? hb)
    have l2 := h.1 a (List.mem_of_getElem? ha)
    exact cmpL_trans (by rw [l1, l2]) (by rw [l1, hx]) (asc_lt h ha hb (by omega)) hlt
theorem cmpL_done {a b : List Int} {k : Nat} (h : a.take k = b.take k) (ha : a.length ≤ k) (hb : b.length ≤ k) : cmpL a b = 0 := by
  rw [List.take_of_length_le ha, List.take_of_length_le hb] at h
  rw [h, cmpL_self]
theorem take_eq_step {a b : List Int} {k : Nat} {x : Int} (h : a.take k = b.take k) (ha : a[k]? = some x) (hb : b[k]? = some x) : a.take (k + 1) = b.take (k + 1) := by rw [take_at ha, take_at hb, h]
theorem cmpL_lt {a b : List Int} {k : Nat} (h : a.take k = b.take k) {x y : Int} (ha : a[k]? = some x) (hb : b[k]? = some y) (hxy : x < y) : cmpL a b = -1 := by rw [cmpL_at h ha hb, if_pos hxy]
theorem cmpL_gt {a b : List Int} {k : Nat} (h : a.take k = b.take k) {x y : Int} (ha : a[k]? = some x) (hb : b[k]? = some y) (hxy : y < x) : cmpL a b = 1 := by rw [cmpL_at h ha hb, if_neg (by omega), if_pos hxy]
/-- a list that grows by one found state -/
theorem any_map {L : List SN} {v : List Int} : L.any (fun y => y.v == v) = decide (v ∈ L.map (·.v)) := by
  rw [Bool.eq_iff_iff, List.any_eq_true, decide_eq_true_iff, List.mem_map]
  constructor
  · rintro ⟨y, hy, h⟩; exact ⟨y, hy, by simpa using h⟩
  · rintro ⟨y, hy, h⟩; exact ⟨y, hy, by simpa using h⟩
theorem expN_len {rs : List RuD} {i : Nat} {x : SN} {L : List SN} {j : Nat} : (expT rs i x L j).length ≤ (expN rs i x L).length := by
  have h : expN rs i x L = ((nextP rs x.v).drop j).foldl (addN i x) (expT rs i x L j) := by
    rw [expT, expN, ← List.foldl_append, List.take_append_drop]
  rw [h]
  obtain ⟨t, ht, _⟩ := foldN_pre i x ((nextP rs x.v).drop j) (expT rs i x L j)
  rw [ht, List.length_append]; omega
theorem exp_over {rs : List RuD} {i : Nat} {x : SN} {L : List SN} {j : Nat} {q : Nat × List Int} (h : (nextP rs x.v)[j]? = some q) (hl : 4000 ≤ (expT rs i x L j).length) (hn : (expT rs i x L j).any (fun y => y.v == q.2) = false) : 4000 < (expN rs i x L).length := by
  have h1 := expN_len (rs := rs) (i := i) (x := x) (L := L) (j := j + 1)
  rw [expT_step h, addN_new hn, List.length_append] at h1
  simp at h1; omega
theorem expT_at {rs : List RuD} {i : Nat} {x : SN} {L : List SN} (hx : L[i]? = some x) (j : Nat) : (expT rs i x L j)[i]? = some x := by
  obtain ⟨t, ht, _⟩ := foldN_pre i x ((nextP rs x.v).take j) L
  rw [expT, ht, List.getElem?_append_left (List.getElem?_eq_some_iff.1 hx).1]; exact hx
theorem expT_pre {rs : List RuD} {i : Nat} {x : SN} {L : List SN} (j : Nat) : L.length ≤ (expT rs i x L j).length := by
  obtain ⟨t, ht, _⟩ := foldN_pre i x ((nextP rs x.v).take j) L
  rw [expT, ht, List.length_append]; omega
end Go.Proofs.YtfnamjkmkoldeaaGreatDoor
namespace Go.Proofs.YtfnamjkmkoldeaaGreatDoor
open Go.RowKit
set_option linter.unusedVariables false
set_option linter.unusedSimpArgs false
set_option maxHeartbeats 1000000 in
theorem spec_l20Compare {xa ya : Option Addr} {n xc yc : Nat} {x y : List Int} {w : World} (hX : Ints w xa n xc x) (hY : Ints w ya n yc y) (hn : n ≤ 1048576) :
    Calls Tryz.prog 168 #[.slice xa n xc, .slice ya n yc] w fun e w' => e = .returned (.int .i64 (cmpL x y)) ∧ Below w.heap.size w w' := by
  have HX := Lib.hid hX
  have HY := Lib.hid hY
  clear hX hY
  go_enter Tryz.func168, Tryz.ntmps168
  go_wp2_with fail
  go_loopw [5] (fun s5 wr => ∃ j : Nat, s5 = .int .i64 j ∧ j ≤ n ∧ Below w.heap.size w wr ∧ Hid (x.take j = y.take j)) (fun s5 _ => n - (intOf s5).toNat)
  case atStart => exact ⟨0, rfl, by omega, Below.refl _ _, Lib.hid rfl⟩
  case round =>
    obtain ⟨j, rfl, hj, hbl, A⟩ := hrel
    by_cases hlt : j < n
    · have hlt' : (j : Int) < (n : Int) := by omega
      have hj0 : (0 : Int) ≤ (j : Int) := by omega
      obtain ⟨b1, o1, u, rfl, hb1, hu, hc1, huw⟩ := (HX.out.keep hbl).at hlt
      obtain ⟨b2, o2, v, rfl, hb2, hv, hc2, hvw⟩ := (HY.out.keep hbl).at hlt
      have HU := Lib.hid hu
      have HV := Lib.hid hv
      clear hu hv
      by_cases h1 : u < v
      · have HQ := Lib.hid (cmpL_lt A.out HU.out HV.out h1)
        go_wp2
        go_quiet (fail)
        go_wp2
        go_ret
        exact ⟨ret_int HQ.out.symm, by repeat (first | exact Below.refl _ _ | assumption | refine below_allocS ?_ _ | refine below_callS ?_ (by assumption) | (refine Below.alloc ?_ (by first | omega | (simp; done) | (simp; omega)) _) | (refine Below.setCell ?_ (by first | omega | (simp; done) | (simp; omega)) _) | refine Below.drew ?_ | refine below_drewN ?_ _ | (refine below_call ?_ (by assumption) (by first | omega | (simp; done) | (simp; omega))) | (refine Below.trans ?_ (by assumption)))⟩
      · by_cases h2 : v < u
        · have HQ := Lib.hid (cmpL_gt A.out HU.out HV.out h2)
          go_wp2
          go_quiet (fail)
          go_wp2
          go_quiet (fail)
          go_wp2
          go_ret
          exact ⟨ret_int HQ.out.symm, by repeat (first | exact Below.refl _ _ | assumption | refine below_allocS ?_ _ | refine below_callS ?_ (by assumption) | (refine Below.alloc ?_ (by first | omega | (simp; done) | (simp; omega)) _) | (refine Below.setCell ?_ (by first | omega | (simp; done) | (simp; omega)) _) | refine Below.drew ?_ | refine below_drewN ?_ _ | (refine below_call ?_ (by assumption) (by first | omega | (simp; done) | (simp; omega))) | (refine Below.trans ?_ (by assumption)))⟩
        · have HQ := Lib.hid (take_eq_step A.out HU.out (show y[j]? = some u by rw [HV.out]; congr 1; omega))
          go_wp2
          go_quiet (fail)
          go_wp2
          go_quiet (fail)
          go_wp2
          go_roundw
          case rel => exact ⟨j + 1, by go_num, by omega, by repeat (first | exact Below.refl _ _ | assumption | refine below_allocS ?_ _ | refine below_callS ?_ (by assumption) | (refine Below.alloc ?_ (by first | omega | (simp; done) | (simp; omega)) _) | (refine Below.setCell ?_ (by first | omega | (simp; done) | (simp; omega)) _) | refine Below.drew ?_ | refine below_drewN ?_ _ | (refine below_call ?_ (by assumption) (by first | omega | (simp; done) | (simp; omega))) | (refine Below.trans ?_ (by assumption))), HQ⟩
          case measure => simp [intOf]; omega
    · obtain rfl : n = j := by omega
      have hlt' : ¬ (n : Int) < (n : Int) := by omega
      have HQ := Lib.hid (cmpL_done A.out (by rw [HX.out.len]; exact Nat.le_refl _) (by rw [HY.out.len]; exact Nat.le_refl _))
      go_wp2
      go_ret
      exact ⟨ret_int HQ.out.symm, hbl⟩
set_option maxHeartbeats 1000000 in
theorem spec_l20Place {lo l2 n c m vn vc : Nat} {a va : Option Addr} {l : List (QM × List Int)} {v : List Int} {w : World} (hL : SRow w lo l2 a n c l) (hV : Ints w va vn vc v) (hA : AscS m (l.map (·.2))) (hvm : v.length = m) (hm : m ≤ 1048576) (hn : n ≤ 1048576) :
    Calls Tryz.prog 156 #[.slice a n c, .slice va vn vc] w fun e w' => ∃ p : Nat, e = .returned (.tuple #[.int .i64 (p : Int), .bool (decide (v ∈ l.map (·.2)))]) ∧ Plc (l.map (·.2)) v p ∧ Below w.heap.size w w' := by
  have hvn : vn = m := by rw [← hV.len, hvm]
  subst hvn
  have HL := Lib.hid hL
  have HV := Lib.hid hV
  have HA := Lib.hid hA
  have HVM := Lib.hid hvm
  have HLL := Lib.hid (show (l.map (·.2)).length = n by rw [List.length_map]; exact hL.len)
  clear hL hV hA hvm
  go_enter Tryz.func156, Tryz.ntmps156
  go_wp2_with fail
  go_loopw [6, 7] (fun s6 s7 wr => ∃ p q : Nat, s6 = .int .i64 p ∧ s7 = .int .i64 q ∧ p ≤ q ∧ q ≤ n ∧ Below w.heap.size w wr ∧ Hid ((∀ (i : Nat) (x : List Int), (l.map (·.2))[i]? = some x → i < p → cmpL x v < 0) ∧ ∀ (i : Nat) (x : List Int), (l.map (·.2))[i]? = some x → q ≤ i → 0 ≤ cmpL x v)) (fun s6 s7 _ => (intOf s7).toNat - (intOf s6).toNat)
  case atStart => exact ⟨0, n, rfl, rfl, by omega, by omega, Below.refl _ _, Lib.hid ⟨fun i x _ h => by omega, fun i x h1 h2 => by have := (List.getElem?_eq_some_iff.1 h1).1; rw [HLL.out] at this; omega⟩⟩
  case round =>
    obtain ⟨p, q, rfl, rfl, hpq, hqn, hbl, A⟩ := hrel
    by_cases hlt : p < q
    · have hlt' : (p : Int) < (q : Int) := by omega
      obtain ⟨k, hk⟩ : ∃ k : Nat, k = (p + q) / 2 := ⟨_, rfl⟩
      have hk1 : p ≤ k := by omega
      have hk2 : k < q := by omega
      have e1 : ((p : Int) + (q : Int)) / 2 = (k : Int) := by omega
      have e2 : ((p : Int) + (q : Int)).tdiv 2 = (k : Int) := by rw [Int.tdiv_eq_ediv_of_nonneg (by omega)]; exact e1
      clear hk
      have hk0 : (0 : Int) ≤ (k : Int) := by omega
      have hkn : (k : Int) < (n : Int) := by omega
      obtain ⟨b, off, R, x, rfl, hb, hx, hox, hc⟩ := (HL.out.keep hbl).get (show k < n by omega)
      have HX := Lib.hid (show (l.map (·.2))[k]? = some x by rw [List.getElem?_map, hx]; rfl)
      have hRn : R.n = vn := by rw [← hox.ints.len]; exact HA.out.1 x (List.mem_of_getElem? HX.out)
      have HO := Lib.hid hox
      clear hx hox
      go_wp2_with fail
      have K := spec_l20Compare (w := wr) HO.out.ints (by rw [hRn]; exact HV.out.keep hbl) (by omega)
      rw [hRn] at K
      refine Calls.mono K ?_
      rintro e w1 ⟨rfl, hb1⟩
      have hb2 : Below w.heap.size w w1 := below_callS hbl hb1
      clear K hb1
      by_cases hcmp : cmpL x v < 0
      · have HU := Lib.hid (plc_up HA.out HVM.out HX.out hcmp)
        go_wp2
        go_roundw
        case rel => exact ⟨k + 1, q, by go_num, rfl, by omega, hqn, hb2, Lib.hid ⟨HU.out, A.out.2⟩⟩
        case measure => simp [intOf]; omega
      · have HU := Lib.hid (plc_dn HA.out HVM.out HX.out hcmp)
        go_wp2
        go_roundw
        case rel => exact ⟨p, k, rfl, rfl, by omega, by omega, hb2, Lib.hid ⟨A.out.1, HU.out⟩⟩
        case measure => simp [intOf]; omega
    · obtain rfl : p = q := by omega
      have hlt' : ¬ (p : Int) < (p : Int) := by omega
      have HP := Lib.hid (show Plc (l.map (·.2)) v p from ⟨by rw [HLL.out]; exact hqn, A.out.1, A.out.2⟩)
      have HM := Lib.hid (plc_mem HA.out HVM.out HP.out)
      by_cases hpn : p < n
      · have hpn' : (p : Int) < (n : Int) := by omega
        have hp0 : (0 : Int) ≤ (p : Int) := by omega
        obtain ⟨b, off, R, x, rfl, hb, hx, hox, hc⟩ := (HL.out.keep hbl).get hpn
        have HX := Lib.hid (show (l.map (·.2))[p]? = some x by rw [List.getElem?_map, hx]; rfl)
        have hRn : R.n = vn := by rw [← hox.ints.len]; exact HA.out.1 x (List.mem_of_getElem? HX.out)
        have HO := Lib.hid hox
        clear hx hox
        have hD : decide (v ∈ l.map (·.2)) = decide (cmpL x v = 0) := by
          rw [Bool.eq_iff_iff, decide_eq_true_iff, decide_eq_true_iff, ← HM.out]
          constructor
          · rintro ⟨y, hy, h0⟩; rw [HX.out] at hy; cases hy; exact h0
          · intro h0; exact ⟨x, HX.out, h0⟩
        have HD := Lib.hid hD
        clear hD
        go_wp2_with fail
        have K := spec_l20Compare (w := wr) HO.out.ints (by rw [hRn]; exact HV.out.keep hbl) (by omega)
        rw [hRn] at K
        refine Calls.mono K ?_
        rintro e w1 ⟨rfl, hb1⟩
        have hb2 : Below w.heap.size w w1 := below_callS hbl hb1
        go_wp2
        go_ret2
        exact ⟨p, by rw [HD.out]; rfl, HP.out, hb2⟩
      · have hpn' : ¬ (p : Int) < (n : Int) := by omega
        have HD := Lib.hid (show decide (v ∈ l.map (·.2)) = false by
          rw [decide_eq_false_iff_not, ← HM.out]
          rintro ⟨y, hy, _⟩
          have := (List.getElem?_eq_some_iff.1 hy).1
          rw [HLL.out] at this; omega)
        go_wp2
        go_ret2
        exact ⟨p, by rw [HD.out]; rfl, HP.out, hbl⟩
end Go.Proofs.YtfnamjkmkoldeaaGreatDoor
