/- Draws of models, walked: rarely one that is not valid. -/
import Derived.Test.YtcnjnkjnpfpaeaaDl
import Derived.Test.YtcnjnkjnpfpaeaaUo
import Derived.Test.YtcnjnkjnpfpaeaaKq
import Derived.Test.YtcnjnkjnpfpaeaaKm
import Derived.Deep.CutBlock
namespace Go.Proofs.Ytcnjnkjnpfpaeaa
open Go.RowKit
set_option linter.unusedVariables false
set_option linter.unusedSimpArgs false
attribute [local go_sem ↓] Go.wp_at_zero Go.wp_at_succ
/-- a drawn model, as far as its bounds go -/
def DrM (lo b : Nat) (w : World) (e : Ending) (w' : World) : Prop := ∃ (sa ta ra : Option Addr) (sn sc tn tc rn rc : Nat) (sz st : List Int) (l : List (RM × RuD)), e = .returned (.agg #[.slice sa sn sc, .slice ta tn tc, .slice ra rn rc]) ∧ OwnI 2 w' w.heap.size sa sn sc sz ∧ OwnI 2 w' w.heap.size ta tn tc st ∧ RRow w' w.heap.size ra rn rc l ∧ 1 ≤ sn ∧ sn ≤ 5 ∧ tn ≤ 5 ∧ rn ≤ 300 ∧ Dw 55 lo b w w'
theorem wp_join9 {P : Program} {c : Code} {Q : Exit → Act → World → Prop} {a : Act} {w : World} (R : Act → Act → World → Prop) (h : c.wp P (fun x a' w' => x = .normal ∧ R a a' w') a w) (h2 : ∀ a' w', R a a' w' → Q .normal a' w') : c.wp P Q a w :=
  Code.wp_mono (fun e a' w' hh => by obtain ⟨rfl, hr⟩ := hh; exact h2 a' w' hr) h
/-- where l20Draw stands between its statements -/
structure DmS (lo b r p : Nat) (w0 w : World) (sa : Option Addr) (sn sc : Nat) (ta : Option Addr) (tn tc : Nat) (ra : Option Addr) (rn rc : Nat) (sz st : List Int) (l : List (RM × RuD)) : Prop where
  d : Dw 55 lo b w0 w
  x : Blk w r #[.slice none 0 0, .slice none 0 0, .slice none 0 0] 27
  m : Blk w p #[.slice sa sn sc, .slice ta tn tc, .slice ra rn rc] 27
  s : OwnI 2 w (r + 1) sa sn sc sz
  t : OwnI 2 w (r + 1) ta tn tc st
  r : RRow w (r + 1) ra rn rc l
  ap : Apart sa ta
theorem DmS.dw {lo b r p : Nat} {w0 w w' : World} {sa ta ra : Option Addr} {sn sc tn tc rn rc : Nat} {sz st : List Int} {l : List (RM × RuD)} (h : DmS lo b r p w0 w sa sn sc ta tn tc ra rn rc sz st l) (hd : Dw 55 lo b w w') (hb : b < r) (hp : r < p) : DmS lo b r p w0 w' sa sn sc ta tn tc ra rn rc sz st l :=
  ⟨h.d.trans hd, h.x.dw hd (by omega), h.m.dw hd (by omega), h.s.dw hd (by omega), h.t.dw hd (by omega), h.r.dw hd (by omega), h.ap⟩
theorem DmS.keep {lo b r p : Nat} {w0 w w' : World} {sa ta ra : Option Addr} {sn sc tn tc rn rc : Nat} {sz st : List Int} {l : List (RM × RuD)} (h : DmS lo b r p w0 w sa sn sc ta tn tc ra rn rc sz st l) (hb : Below w.heap.size w w') : DmS lo b r p w0 w' sa sn sc ta tn tc ra rn rc sz st l :=
  ⟨h.d.below hb, h.x.keep hb, h.m.keep hb, h.s.keep hb, h.t.keep hb, h.r.keep hb, h.ap⟩
theorem DmS.setS {lo b r p g : Nat} {w0 w : World} {ta ra : Option Addr} {sn sc tn tc rn rc : Nat} {sz st : List Int} {l : List (RM × RuD)} {z : Int} (h : DmS lo b r p w0 w (some ⟨g, 0, none⟩) sn sc ta tn tc ra rn rc sz st l) (hz : I64 z) (hw : w0.heap.size ≤ r) : DmS lo b r p w0 (w.setCell ⟨g, 0, none⟩ (.int .i64 z)) (some ⟨g, 0, none⟩) sn sc ta tn tc ra rn rc (sz.set 0 z) st l := by
  have hs := h.s.blk g rfl
  have ht : Touch w (w.setCell ⟨g, 0, none⟩ (.int .i64 z)) 1 (some ⟨g, 0, none⟩) := ⟨_, set_grown g 0 _, fun b e => ⟨by decide, by cases e; rfl⟩⟩
  have hty := fun {g' : Nat} => h.s.typ (g := g')
  exact ⟨h.d.set (by omega) 0 _, h.x.keepA ht (blk_ne h.x hty (by decide)), h.m.keepA ht (blk_ne h.m hty (by decide)), h.s.set 0 hz, h.t.keepT ht (fun g' e e' => h.ap g' e' e), ⟨h.r.row.keepT ht (typ_apart h.r.row.typ hty (by decide)), fun x hx => (h.r.each x hx).keepT9 ht hty (by decide) (by decide)⟩, h.ap⟩
theorem DmS.setT {lo b r p g : Nat} {w0 w : World} {sa ra : Option Addr} {sn sc tn tc rn rc : Nat} {sz st : List Int} {l : List (RM × RuD)} {z : Int} (h : DmS lo b r p w0 w sa sn sc (some ⟨g, 0, none⟩) tn tc ra rn rc sz st l) (hz : I64 z) (hw : w0.heap.size ≤ r) : DmS lo b r p w0 (w.setCell ⟨g, 0, none⟩ (.int .i64 z)) sa sn sc (some ⟨g, 0, none⟩) tn tc ra rn rc sz (st.set 0 z) l := by
  have hs := h.t.blk g rfl
  have ht : Touch w (w.setCell ⟨g, 0, none⟩ (.int .i64 z)) 1 (some ⟨g, 0, none⟩) := ⟨_, set_grown g 0 _, fun b e => ⟨by decide, by cases e; rfl⟩⟩
  have hty := fun {g' : Nat} => h.t.typ (g := g')
  exact ⟨h.d.set (by omega) 0 _, h.x.keepA ht (blk_ne h.x hty (by decide)), h.m.keepA ht (blk_ne h.m hty (by decide)), h.s.keepT ht (fun g' e e' => h.ap g' e e'), h.t.set 0 hz, ⟨h.r.row.keepT ht (typ_apart h.r.row.typ hty (by decide)), fun x hx => (h.r.each x hx).keepT9 ht hty (by decide) (by decide)⟩, h.ap⟩
theorem OwnF.neB {α : Type} {k : Nat} {enc : α → List Value} {ok : α → Prop} {E T : TypeId} {w : World} {base p : Nat} {cs : Array Value} {a : Option Addr} {n c : Nat} {l : List α} (h : OwnF k enc ok E w base a n c l) (hm : Blk w p cs T) (hE : E ≠ T) : ∀ g, a = some ⟨g, 0, none⟩ → g < p ∨ p + 1 ≤ g := fun g e => by
  rcases Nat.lt_trichotomy g p with h1 | h1 | h1
  · exact .inl h1
  · subst h1; exact (blk_ne hm (fun {g'} e' => h.typ (g := g') e') hE e).elim
  · exact .inr h1
theorem OwnI.neB {E T : TypeId} {w : World} {base p : Nat} {cs : Array Value} {a : Option Addr} {n c : Nat} {l : List Int} (h : OwnI E w base a n c l) (hm : Blk w p cs T) (hE : E ≠ T) : ∀ g, a = some ⟨g, 0, none⟩ → g < p ∨ p + 1 ≤ g := h.f1.neB hm hE
theorem RRow.onlyB {w w' : World} {lo p : Nat} {cs : Array Value} {T : TypeId} {a : Option Addr} {n c : Nat} {l : List (RM × RuD)} (h : RRow w lo a n c l) (ho : Only p (p + 1) w w') (hm : Blk w p cs T) (h1 : 64 ≠ T) (h2 : 74 ≠ T) (h3 : 76 ≠ T) : RRow w' lo a n c l :=
  ⟨h.row.only ho (h.row.neB hm h1), fun x hx => by have q := h.each x hx; exact ⟨q.nm, q.nms, q.g.only ho (q.g.neB hm h2), q.gn, q.e.only ho (q.e.neB hm h3), q.en⟩⟩
theorem Blk.wrU {w : World} {b : Nat} {cs : Array Value} {T : TypeId} (h : Blk w b cs T) (i : Nat) (v : Value) : Blk (w.setCell ⟨b, i, none⟩ v) b (cs.setIfInBounds i v) T := heap_setCell_same w b i cs T v h
/-- the model's variable is written whole -/
theorem DmS.stM {lo b r p : Nat} {w0 w : World} {v0 v1 v2 : Value} {sa ta ra : Option Addr} {sn sc tn tc rn rc : Nat} {sz st : List Int} {l : List (RM × RuD)} (hd : Dw 55 lo b w0 w) (hx : Blk w r #[.slice none 0 0, .slice none 0 0, .slice none 0 0] 27) (hm : Blk w p #[v0, v1, v2] 27)
    (hs : OwnI 2 w (r + 1) sa sn sc sz) (ht : OwnI 2 w (r + 1) ta tn tc st) (hr : RRow w (r + 1) ra rn rc l) (hap : Apart sa ta) (hp : r < p) (hw : w0.heap.size ≤ r) : DmS lo b r p w0 (((w.setCell ⟨p, 0, none⟩ (.slice sa sn sc)).setCell ⟨p, 1, none⟩ (.slice ta tn tc)).setCell ⟨p, 2, none⟩ (.slice ra rn rc)) sa sn sc ta tn tc ra rn rc sz st l := by
  have ho : Only p (p + 1) w (((w.setCell ⟨p, 0, none⟩ (.slice sa sn sc)).setCell ⟨p, 1, none⟩ (.slice ta tn tc)).setCell ⟨p, 2, none⟩ (.slice ra rn rc)) := (((Only.refl p (p + 1) w).set ⟨Nat.le_refl _, Nat.lt_succ_self _⟩ _ _).set ⟨Nat.le_refl _, Nat.lt_succ_self _⟩ _ _).set ⟨Nat.le_refl _, Nat.lt_succ_self _⟩ _ _
  exact ⟨((hd.set (by omega) 0 _).set (by omega) 1 _).set (by omega) 2 _, hx.apart ho (.inl hp), Blk.wrU (Blk.wrU (Blk.wrU hm 0 _) 1 _) 2 _, hs.only ho (hs.neB hm (by decide)), ht.only ho (ht.neB hm (by decide)), hr.onlyB ho hm (by decide) (by decide) (by decide), hap⟩
/-- two of a box's three cells -/
def C12 (p : Nat) (v1 v2 : Value) (w : World) : Prop := w.cell? ⟨p, 1, none⟩ = some v1 ∧ w.cell? ⟨p, 2, none⟩ = some v2 ∧ p < w.heap.size
theorem Blk.c12 {w : World} {p : Nat} {v0 v1 v2 : Value} {T : TypeId} (h : Blk w p #[v0, v1, v2] T) : C12 p v1 v2 w := ⟨h.cell 1, h.cell 2, h.lt⟩
theorem OwnI.cellv {E : TypeId} {w : World} {base g n c : Nat} {l : List Int} (h : OwnI E w base (some ⟨g, 0, none⟩) n c l) {k : Nat} {x : Int} (hx : l[k]? = some x) : w.cell? ⟨g, k, none⟩ = some (.int .i64 x) := by
  have h1 := (List.getElem?_eq_some_iff.1 hx).1
  rw [h.len] at h1
  obtain ⟨y, hy, _, hc⟩ := h.cell h1
  rw [hx] at hy; cases hy; exact hc
theorem OwnF.formU {α : Type} {k : Nat} {enc : α → List Value} {ok : α → Prop} {E : TypeId} {w : World} {base : Nat} {a : Option Addr} {n c : Nat} {l : List α} (h : OwnF k enc ok E w base a n c l) : (a = none ∧ n = 0 ∧ c = 0) ∨ ∃ g, a = some ⟨g, 0, none⟩ := by
  rcases h.1.2 with ⟨he, h0⟩ | ⟨g, cap, cur, he, _⟩
  · simp only [Value.slice.injEq] at he; exact .inl ⟨he.1, h0, he.2.2⟩
  · simp only [Value.slice.injEq] at he; exact .inr ⟨g, he.1⟩
/-- all blocks of the model lie below B -/
structure DmB (B p : Nat) (sa ta ra : Option Addr) (l : List (RM × RuD)) : Prop where
  p : p < B
  s : ∀ g, sa = some ⟨g, 0, none⟩ → g < B
  t : ∀ g, ta = some ⟨g, 0, none⟩ → g < B
  r : RBl B ra l
theorem DmS.bl {lo b r p : Nat} {w0 w : World} {sa ta ra : Option Addr} {sn sc tn tc rn rc : Nat} {sz st : List Int} {l : List (RM × RuD)} (h : DmS lo b r p w0 w sa sn sc ta tn tc ra rn rc sz st l) : DmB w.heap.size p sa ta ra l :=
  ⟨h.m.lt, fun g e => (h.s.blk g e).2, fun g e => (h.t.blk g e).2, h.r.bl⟩
theorem DmS.keepB {lo b r p B : Nat} {w0 w w' : World} {sa ta ra : Option Addr} {sn sc tn tc rn rc : Nat} {sz st : List Int} {l : List (RM × RuD)} (h : DmS lo b r p w0 w sa sn sc ta tn tc ra rn rc sz st l) (hB : DmB B p sa ta ra l) (hb : Below B w w') (hr : r < p) (hw : w0.heap.size ≤ r) : DmS lo b r p w0 w' sa sn sc ta tn tc ra rn rc sz st l :=
  ⟨h.d.own hb (by have := hB.p; omega), h.x.keepB hb (by have := hB.p; omega), h.m.keepB hb hB.p, OwnI.keepB h.s hb hB.s, OwnI.keepB h.t hb hB.t, h.r.keepB hb hB.r, h.ap⟩
/-- a rule in a box of its own -/
structure RX (w : World) (lo q : Nat) (x : RM × RuD) : Prop where
  bx : Blk w q #[.string x.1.nm, .slice x.1.ga x.1.gn x.1.gc, .slice x.1.ea x.1.en x.1.ec] 64
  ro : RO w lo x
theorem RX.keep {w w' : World} {lo q : Nat} {x : RM × RuD} (h : RX w lo q x) (hb : Below w.heap.size w w') : RX w' lo q x := ⟨h.bx.keep hb, h.ro.keep hb⟩
theorem RX.dw {T : TypeId} {lo b r q : Nat} {w w' : World} {x : RM × RuD} (h : RX w r q x) (hd : Dw T lo b w w') (hb : b < r) (hq : b < q) : RX w' r q x := ⟨h.bx.dw hd (by omega), h.ro.dw hd hb⟩
theorem RX.roT {w : World} {lo q : Nat} {x : RM × RuD} (h : RX w lo q x) (j : Nat) (v : Value) : RO (w.setCell ⟨q, j, none⟩ v) lo x :=
  h.ro.keepT9 (m := 1) (a := some ⟨q, 0, none⟩) (E := 64) ⟨_, set_grown q j _, fun b e => ⟨by decide, by cases e; rfl⟩⟩ (fun {g} e => by
    simp only [Option.some.injEq, Addr.mk.injEq, and_true] at e
    subst e
    exact ⟨_, h.bx⟩) (by decide) (by decide)
theorem RX.setN {w : World} {lo q : Nat} {x : RM × RuD} (h : RX w lo q x) (s : ByteArray) (hs : s.size ≤ maxLen) : RX (w.setCell ⟨q, 0, none⟩ (.string s)) lo q ({ x.1 with nm := s }, { x.2 with nm := s }) := by
  have h2 := h.roT 0 (.string s)
  exact ⟨Blk.wrU h.bx 0 _, ⟨rfl, hs, h2.g, h2.gn, h2.e, h2.en⟩⟩
theorem RX.setG {w : World} {lo q : Nat} {x : RM × RuD} (h : RX w lo q x) {a : Option Addr} {n c : Nat} {l : List I2b} (hg : OwnT w lo a n c l) (hn : n ≤ 1048576) : RX (w.setCell ⟨q, 1, none⟩ (.slice a n c)) lo q ({ x.1 with ga := a, gn := n, gc := c }, { x.2 with g := l }) := by
  have h2 := h.roT 1 (.slice a n c)
  refine ⟨Blk.wrU h.bx 1 _, ⟨h2.nm, h2.nms, ?_, hn, h2.e, h2.en⟩⟩
  exact hg.keepT (n' := 1) (a' := some ⟨q, 0, none⟩) ⟨_, set_grown q 1 _, fun b e => ⟨by decide, by cases e; rfl⟩⟩ (typ_apart hg.typ (E' := 64) (fun {g} e => by
    simp only [Option.some.injEq, Addr.mk.injEq, and_true] at e
    subst e
    exact ⟨_, h.bx⟩) (by decide))
theorem RX.setE {w : World} {lo q : Nat} {x : RM × RuD} (h : RX w lo q x) {a : Option Addr} {n c : Nat} {l : List I2} (hg : OwnA w lo a n c l) (hn : n ≤ 1048576) : RX (w.setCell ⟨q, 2, none⟩ (.slice a n c)) lo q ({ x.1 with ea := a, en := n, ec := c }, { x.2 with e := l }) := by
  have h2 := h.roT 2 (.slice a n c)
  refine ⟨Blk.wrU h.bx 2 _, ⟨h2.nm, h2.nms, h2.g, h2.gn, ?_, hn⟩⟩
  exact hg.keepT (n' := 1) (a' := some ⟨q, 0, none⟩) ⟨_, set_grown q 2 _, fun b e => ⟨by decide, by cases e; rfl⟩⟩ (typ_apart hg.typ (E' := 64) (fun {g} e => by
    simp only [Option.some.injEq, Addr.mk.injEq, and_true] at e
    subst e
    exact ⟨_, h.bx⟩) (by decide))
def slN9 : Value → Nat
  | .slice _ n _ => n
  | _ => 0
/-- the blocks of a rule lie below B -/
def RXB (B : Nat) (x : RM × RuD) : Prop := (∀ g, x.1.ga = some ⟨g, 0, none⟩ → g < B) ∧ ∀ g, x.1.ea = some ⟨g, 0, none⟩ → g < B
theorem RO.keepB {w w' : World} {lo B : Nat} {x : RM × RuD} (h1 : RO w lo x) (hb : Below B w w') (hB : RXB B x) : RO w' lo x := ⟨h1.nm, h1.nms, OwnF.keepB h1.g hb hB.1, h1.gn, OwnF.keepB h1.e hb hB.2, h1.en⟩
theorem RO.xb {w : World} {lo : Nat} {x : RM × RuD} (h : RO w lo x) : RXB w.heap.size x := ⟨fun g e => (h.g.blk g e).2, fun g e => (h.e.blk g e).2⟩
/-- a row of rules of its own from block B on; what the rules hold lies below B -/
structure RRB (w : World) (lo B : Nat) (a : Option Addr) (n c : Nat) (l : List (RM × RuD)) : Prop where
  row : OwnF 3 encR (fun _ => True) 64 w B a n c l
  each : ∀ x ∈ l, RO w lo x ∧ RXB B x
theorem RRB.row' {w : World} {lo B : Nat} {a : Option Addr} {n c : Nat} {l : List (RM × RuD)} (h : RRB w lo B a n c l) (hB : lo ≤ B) : RRow w lo a n c l := ⟨h.row.le hB, fun x hx => (h.each x hx).1⟩
theorem RRB.dw {T : TypeId} {lo b r B : Nat} {w w' : World} {a : Option Addr} {n c : Nat} {l : List (RM × RuD)} (h : RRB w r B a n c l) (hd : Dw T lo b w w') (hb : b < r) (hB : r ≤ B) : RRB w' r B a n c l := ⟨h.row.dw hd (by omega), fun x hx => ⟨(h.each x hx).1.dw hd hb, (h.each x hx).2⟩⟩
def ruX : RM × RuD := (⟨⟨#[120]⟩, none, 0, 0, none, 0, 0⟩, ⟨⟨#[120]⟩, [], []⟩)
theorem RO.x9 (w : World) (lo : Nat) : RO w lo ruX := ⟨rfl, by decide, OwnF.nil (enc := I2b.enc) (fun _ => rfl) _ _ _, Nat.zero_le _, OwnF.nil (enc := I2.enc) (fun _ => rfl) _ _ _, Nat.zero_le _⟩
theorem RRB.app {w w' : World} {lo B : Nat} {a a' : Option Addr} {n c n' c' : Nat} {l : List (RM × RuD)} (h : RRB w lo B a n c l) (hb : Below B w w') (ho : OwnF 3 encR (fun _ => True) 64 w' B a' n' c' (l ++ [ruX])) : RRB w' lo B a' n' c' (l ++ [ruX]) :=
  ⟨ho, fun x hx => by
    rcases List.mem_append.1 hx with hx | hx
    · exact ⟨(h.each x hx).1.keepB hb (h.each x hx).2, (h.each x hx).2⟩
    · simp only [List.mem_singleton] at hx
      subst hx
      exact ⟨RO.x9 _ _, show RXB B ruX from ⟨(fun g e => by cases e), (fun g e => by cases e)⟩⟩⟩
theorem Flats.blk1 {α : Type} {k : Nat} {enc : α → List Value} {ok : α → Prop} {w : World} {g : Nat} {x : α} {T : TypeId} (h : Blk w g (enc x).toArray T) (hk : ∀ x, (enc x).length = k) (hx : ok x) : Flats k enc ok w (some ⟨g, 0, none⟩) 1 1 [x] := by
  refine ⟨rfl, Nat.le_refl _, .inr ⟨g, 0, rfl, h.lt, fun i y hy j v hv => ?_⟩, fun y hy => by simp at hy; rw [hy]; exact hx, fun h => by cases h⟩
  have hi : i = 0 := by have := (List.getElem?_eq_some_iff.1 hy).1; simp at this; omega
  subst hi
  simp at hy
  subst hy
  simp only [Nat.zero_mul, Nat.zero_add, Nat.add_zero]
  rw [h.cell j]
  simpa using hv
theorem RX.keepB {w w' : World} {lo q B : Nat} {x : RM × RuD} (h : RX w lo q x) (hb : Below B w w') (hq : q < B) (hB : RXB B x) : RX w' lo q x := ⟨h.bx.keepB hb hq, h.ro.keepB hb hB⟩
theorem mkt24 (w : World) : (Instr.makeSlice 61 (.int .i64 24) (.int .i64 24)).run Try.prog w = .ok (.slice (some ⟨w.heap.size, 0, none⟩) 24 24) (w.alloc (.cells ((List.replicate 24 (⟨0, 0, false⟩ : I2b)).flatMap I2b.enc).toArray 74)) := by kernel_rfl
theorem mkt25 (w : World) : (Instr.makeSlice 61 (.int .i64 25) (.int .i64 25)).run Try.prog w = .ok (.slice (some ⟨w.heap.size, 0, none⟩) 25 25) (w.alloc (.cells ((List.replicate 25 (⟨0, 0, false⟩ : I2b)).flatMap I2b.enc).toArray 74)) := by kernel_rfl
set_option maxRecDepth 100000 in
set_option maxHeartbeats 8000000 in
theorem spec_l20Draw {b lo : Nat} {w0 w : World} (hD : Dw 55 lo b w0 w) :
    Calls Try.prog 52 #[.pointer (some ⟨b, 0, none⟩)] w (DrM lo b w) := by
  have hbl := hD.src.lt.2
  have HS := Lib.hid hD.start
  clear hD
  go_enter Try.func52, Try.ntmps52
  refine wp_seq ?_
  refine wp_join9 (R := fun a0 a1 w1 => a1 = a0.put (some 2) (.pointer (some ⟨w.heap.size, 0, none⟩)) ∧ w1 = w.alloc (.cells #[.slice none 0 0, .slice none 0 0, .slice none 0 0] 27)) ?_ ?_
  · go_wp2
  rintro a1 wA ⟨rfl, hwA⟩
  have hbA : Below w.heap.size w wA := by rw [hwA]; exact below_alloc1 (Below.refl _ _) _
  have hsA : wA.heap.size = w.heap.size + 1 := by rw [hwA]; exact Array.size_push _
  have X0 := Lib.hid (show Blk wA w.heap.size #[.slice none 0 0, .slice none 0 0, .slice none 0 0] 27 by rw [hwA]; exact Blk.made w _ _)
  have D0 := Lib.hid (HS.out.below hbA)
  clear hwA hbA HS
  change Code.wp _ _ _ _ _
  refine wp_seq ?_
  refine wp_join9 (R := fun a0 a1 w1 => ∃ (p : Nat) (sa ta ra : Option Addr) (sn sc tc rn rc : Nat) (sz st : List Int) (l : List (RM × RuD)), a1 = ((a0.put (some 6) (.pointer (some ⟨b, 0, none⟩))).put (some 7) (.agg #[.slice sa sn sc, .slice ta sn tc, .slice ra rn rc])).put (some 3) (.pointer (some ⟨p, 0, none⟩)) ∧ DmS lo b w.heap.size p w w1 sa sn sc ta sn tc ra rn rc sz st l ∧ 1 ≤ sn ∧ sn ≤ 4 ∧ rn ≤ 8 ∧ w.heap.size < p ∧ p < w1.heap.size ∧ SmR l) ?_ ?_
  · simp only [Act.put, List.setIfInBounds_toArray, List.set_cons_zero, List.set_cons_succ]
    go_wp2_with fail
    refine Calls.mono (spec_l20DrawValid (b := b) (lo := lo) D0.out) ?_
    rintro e w1 ⟨sa, ta, ra, sn, sc, tc, rn, rc, sz, st, l, rfl, hS, hT, hR, h1, h4, hr8, hz, hap, hsm, hd⟩
    have hs1 := hd.size
    have X1 := X0.out.dw hd (by omega)
    rw [hsA] at hS hT hR
    have hbB : Below w1.heap.size w1 (w1.alloc (.cells #[.slice sa sn sc, .slice ta sn tc, .slice ra rn rc] 27)) := below_alloc1 (Below.refl _ _) _
    have HM := Lib.hid (show DmS lo b w.heap.size w1.heap.size w (w1.alloc (.cells #[.slice sa sn sc, .slice ta sn tc, .slice ra rn rc] 27)) sa sn sc ta sn tc ra rn rc sz st l from
      ⟨(D0.out.trans hd).below hbB, X1.keep hbB, Blk.made w1 _ _, hS.keep hbB, hT.keep hbB, hR.keep hbB, hap⟩)
    clear hS hT hR hd X1 hap hbB hz
    go_wp2_with fail
    exact ⟨w1.heap.size, sa, ta, ra, sn, sc, tc, rn, rc, ⟨rfl, ⟨rfl, rfl, rfl⟩, ⟨rfl, rfl, rfl⟩, rfl, rfl, rfl⟩, ⟨sz, st, l, HM.out, h1, h4, hr8, by omega, by omega, hsm⟩⟩
  rintro a1 w1 ⟨p, sa, ta, ra, sn, sc, tc, rn, rc, sz, st, l, rfl, hM, h1, h4, hr8, hp, hp1, hsm⟩
  have SM := Lib.hid hsm
  clear hsm
  change Code.wp _ _ _ _ _
  refine wp_seq ?_
  refine wp_join9 (R := fun a0 a1 w2 => ∃ (u9 u10 u11 u12 u13 u14 u15 u16 : Value) (sz' : List Int), a1 = (((((((((a0.put (some 8) (.pointer (some ⟨b, 0, none⟩))).put (some 9) u9).put (some 10) u10).put (some 11) u11).put (some 12) u12).put (some 13) u13).put (some 14) u14).put (some 15) u15).put (some 16) u16) ∧ DmS lo b w.heap.size p w w2 sa sn sc ta sn tc ra rn rc sz' st l ∧ p < w2.heap.size) ?_ ?_
  · simp only [Act.put, List.setIfInBounds_toArray, List.set_cons_zero, List.set_cons_succ]
    go_wp2_with fail
    refine Calls.mono (dw_next (b := b) (lo := lo) hM.d.src (by decide)) ?_
    rintro e w2 ⟨y, rfl, hy0, hy1, hd⟩
    have hs2 := hd.size
    have M2 := Lib.hid (hM.dw hd hbl hp)
    clear hd hM hy1
    by_cases hy : y = 0
    · subst hy
      go_wp2_with fail
      obtain ⟨g, rfl⟩ : ∃ g, sa = some ⟨g, 0, none⟩ := by
        rcases M2.out.s.form with h | ⟨q, e⟩
        · exfalso; have := M2.out.s.len; omega
        · exact ⟨q, e⟩
      refine wp_region_noPanic ?_
      refine wp_region_held_drew (S := fun wx => Blk wx p #[.slice (some ⟨g, 0, none⟩) sn sc, .slice ta sn tc, .slice ra rn rc] 27) (by kernel_rfl) (M2.out.m.drew) (fun hHeld => ?_)
      refine tkH0 0 (v := ?_) ?_ ?_
      rotate_left
      · (intro wv hSw; clear hSw; go_simp; try with_reducible rfl)
      try simp only [Act.put, s1, s2, s3]
      refine tkH0 1 (v := ?_) ?_ ?_
      rotate_left
      · (intro wv hSw; have q0 := Blk.cell hSw 0; have q1 := Blk.cell hSw 1; have q2 := Blk.cell hSw 2; have ql := Blk.lt hSw; simp only [List.getElem?_toArray, List.getElem?_cons_zero, List.getElem?_cons_succ] at q0 q1 q2; clear hSw; go_simp; try with_reducible rfl)
      try simp only [Act.put, s1, s2, s3]
      refine tkH0 2 (v := ?_) ?_ ?_
      rotate_left
      · (intro wv hSw; clear hSw; go_simp; try with_reducible rfl)
      try simp only [Act.put, s1, s2, s3]
      refine wpAnyH_ready (rs := [3]) (by kernel_rfl) (by simp) ?_
      refine AllReadyH.cons rfl (fun K hK => ?_) AllReadyH.nil
      go_simp
      obtain ⟨wb, hwb⟩ : ∃ v, v = (w2.alloc (.cells #[.int .i64 0, .int .i64 32, .int .i64 33] 2)).drew := ⟨_, rfl⟩
      have hbb : Below w2.heap.size w2 wb := by rw [hwb]; exact (below_alloc1 (Below.refl _ _) _).drew
      have hLB : Blk wb w2.heap.size #[.int .i64 0, .int .i64 32, .int .i64 33] 2 := by rw [hwb]; exact (Blk.made w2 _ _).drew
      have LB := Lib.hid (show Ints wb (some ⟨w2.heap.size, 0, none⟩) 3 3 [0, 32, 33] from ⟨rfl, by decide, .inr ⟨w2.heap.size, 0, rfl, hLB.lt, fun i x hx => by
        rw [Nat.zero_add, hLB.cell i]
        match i, hx with
        | 0, hx => simp at hx; subst hx; rfl
        | 1, hx => simp at hx; subst hx; rfl
        | 2, hx => simp at hx; subst hx; rfl⟩, by decide, fun h => by cases h⟩)
      have M3 := Lib.hid (M2.out.keep hbb)
      have hb3 := hbb.size
      rw [← hwb]
      clear hwb hbb hLB M2 hHeld
      refine hK.out _ _ M3.out.m (fun hHeld => ?_)
      clear hK K
      try simp only [Act.put, s1, s2, s3]
      refine wpAnyH_ready (rs := [4]) (by kernel_rfl) (by simp) ?_
      refine AllReadyH.cons rfl (fun K hK => ?_) AllReadyH.nil
      go_simp
      refine Calls.mono (dw_l01Pick M3.out.d LB.out (by decide) (by decide) (fun g' off e => by simp at e; omega)) ?_
      rintro e w4 ⟨z, rfl, hzm, hzi, hd⟩
      have hs4 := hd.size
      have M4 := Lib.hid (M3.out.dw hd hbl hp)
      clear hd M3 LB hHeld hzm
      go_wp2_with fail
      refine hK.out _ _ M4.out.m (fun hHeld => ?_)
      clear hK K
      try simp only [Act.put, s1, s2, s3]
      have hsn0 : 0 < sn := by omega
      refine tkH0 5 (v := ?_) ?_ ?_
      rotate_left
      · (intro wv hSw; clear hSw; go_simp; try with_reducible rfl)
      try simp only [Act.put, s1, s2, s3]
      refine wpAnyH_ready (rs := [6]) (by kernel_rfl) (by simp) ?_
      refine AllReadyH.cons rfl (fun K hK => ?_) AllReadyH.nil
      obtain ⟨z0, hz0, hz0i, hz0c⟩ := M4.out.s.cell (k := 0) (by omega)
      obtain ⟨cur, hcur⟩ := M4.out.s.typ (g := g) rfl
      have hBf := Blk.free (show Blk w4 g cur 2 from hcur) 0
      have gl := (M4.out.s.blk g rfl).2
      have M5 := Lib.hid (M4.out.setS hzi (Nat.le_refl _))
      clear hcur hz0
      go_simp
      refine hK.out _ _ M5.out.m (fun hHeld => ?_)
      clear hK K
      try simp only [Act.put, s1, s2, s3]
      refine wpAnyH_done (by kernel_rfl) ?_ _
      refine NoPanic.normal ?_
      clear hHeld
      have hml := M5.out.m.lt
      go_wp2
      exact ⟨⟨_, M5.out⟩, by simpa using hml⟩
    · have hy' : (y == 0) = false := by simpa using hy
      go_wp2
      exact ⟨⟨sz, M2.out⟩, by omega⟩
  rintro a2 w2 ⟨u9, u10, u11, u12, u13, u14, u15, u16, sz2, rfl, hM2, hp2⟩
  clear hM hp1
  have M2 := Lib.hid hM2
  clear hM2
  change Code.wp _ _ _ _ _
  simp only [Act.put, List.setIfInBounds_toArray, List.set_cons_zero, List.set_cons_succ]
  go_wp2_with fail
  refine Calls.mono (dw_next (b := b) (lo := lo) M2.out.d.src (by decide)) ?_
  rintro e w3 ⟨y, rfl, hy0, hy1, hd⟩
  have M3 := Lib.hid (M2.out.dw hd hbl hp)
  have hs3 := hd.size
  clear hd M2 hy1
  go_upto_if 19 with fail
  go_cut [] (fun wx => p < wx.heap.size ∧ ∃ st', Hid (DmS lo b w.heap.size p w wx sa sn sc ta sn tc ra rn rc sz2 st' l))
  case first =>
    by_cases hy : y = 0
    · subst hy
      go_wp2_with fail
      obtain ⟨gs, rfl⟩ := M3.out.s.shape (by omega)
      obtain ⟨g, rfl⟩ := M3.out.t.shape (by omega)
      have hl2 := M3.out.s.len
      obtain ⟨z0, hz0⟩ : ∃ z, sz2[0]? = some z := ⟨_, List.getElem?_eq_getElem (by omega)⟩
      have hz0i : I64 z0 := M3.out.s.2 _ (List.mem_of_getElem? hz0)
      have hsn0 : 0 < sn := by omega
      refine wp_region_noPanic ?_
      refine wp_region_held_drew (S := fun wx => Blk wx p #[.slice (some ⟨gs, 0, none⟩) sn sc, .slice (some ⟨g, 0, none⟩) sn tc, .slice ra rn rc] 27 ∧ wx.cell? ⟨gs, 0, none⟩ = some (.int .i64 z0) ∧ gs < wx.heap.size) (by kernel_rfl) ⟨M3.out.m.drew, M3.out.s.cellv hz0, (M3.out.s.blk gs rfl).2⟩ (fun hHeld => ?_)
      refine tkH0 0 (v := ?_) ?_ ?_
      rotate_left
      · (intro wv hSw; clear hSw; go_simp; try with_reducible rfl)
      try simp only [Act.put, s1, s2, s3]
      refine tkH0 1 (v := ?_) ?_ ?_
      rotate_left
      · (intro wv hSw; obtain ⟨hq, _⟩ := hSw; have q0 := Blk.cell hq 0; have q1 := Blk.cell hq 1; have q2 := Blk.cell hq 2; have ql := Blk.lt hq; simp only [List.getElem?_toArray, List.getElem?_cons_zero, List.getElem?_cons_succ] at q0 q1 q2; clear hq; go_simp; try with_reducible rfl)
      try simp only [Act.put, s1, s2, s3]
      refine tkH0 2 (v := ?_) ?_ ?_
      rotate_left
      · (intro wv hSw; clear hSw; go_simp; try with_reducible rfl)
      try simp only [Act.put, s1, s2, s3]
      refine tkH0 3 (v := ?_) ?_ ?_
      rotate_left
      · (intro wv hSw; clear hSw; go_simp; try with_reducible rfl)
      try simp only [Act.put, s1, s2, s3]
      refine tkH0 4 (v := ?_) ?_ ?_
      rotate_left
      · (intro wv hSw; obtain ⟨hq, _⟩ := hSw; have q0 := Blk.cell hq 0; have q1 := Blk.cell hq 1; have q2 := Blk.cell hq 2; have ql := Blk.lt hq; simp only [List.getElem?_toArray, List.getElem?_cons_zero, List.getElem?_cons_succ] at q0 q1 q2; clear hq; go_simp; try with_reducible rfl)
      try simp only [Act.put, s1, s2, s3]
      refine tkH0 5 (v := ?_) ?_ ?_
      rotate_left
      · (intro wv hSw; clear hSw; go_simp; try with_reducible rfl)
      try simp only [Act.put, s1, s2, s3]
      refine tkH0 6 (v := ?_) ?_ ?_
      rotate_left
      · (intro wv hSw; obtain ⟨_, hq0, hq1⟩ := hSw; go_simp; try with_reducible rfl)
      try simp only [Act.put, s1, s2, s3]
      refine wpAnyH_ready (rs := [7]) (by kernel_rfl) (by simp) ?_
      refine AllReadyH.cons rfl (fun K hK => ?_) AllReadyH.nil
      go_simp
      obtain ⟨wb, hwb⟩ : ∃ v, v = (w3.alloc (.cells #[.int .i64 (-1), .int .i64 z0] 2)).drew := ⟨_, rfl⟩
      have hbb : Below w3.heap.size w3 wb := by rw [hwb]; exact (below_alloc1 (Below.refl _ _) _).drew
      have hLB : Blk wb w3.heap.size #[.int .i64 (-1), .int .i64 z0] 2 := by rw [hwb]; exact (Blk.made w3 _ _).drew
      have LB := Lib.hid (show Ints wb (some ⟨w3.heap.size, 0, none⟩) 2 2 [-1, z0] from ⟨rfl, by decide, .inr ⟨w3.heap.size, 0, rfl, hLB.lt, fun i x hx => by
        rw [Nat.zero_add, hLB.cell i]
        match i, hx with
        | 0, hx => simp at hx; subst hx; rfl
        | 1, hx => simp at hx; subst hx; rfl⟩, (fun x hx => by
          simp at hx
          rcases hx with rfl | rfl
          · exact ⟨by decide, by decide⟩
          · exact hz0i), fun h => by cases h⟩)
      have M4 := Lib.hid (M3.out.keep hbb)
      have hb3 := hbb.size
      rw [← hwb]
      clear hwb hbb hLB M3 hHeld
      refine hK.out _ _ ⟨M4.out.m, M4.out.s.cellv hz0, (M4.out.s.blk gs rfl).2⟩ (fun hHeld => ?_)
      clear hK K
      try simp only [Act.put, s1, s2, s3]
      refine wpAnyH_ready (rs := [8]) (by kernel_rfl) (by simp) ?_
      refine AllReadyH.cons rfl (fun K hK => ?_) AllReadyH.nil
      go_simp
      refine Calls.mono (dw_l01Pick M4.out.d LB.out (by decide) (by decide) (fun g' off e => by simp at e; omega)) ?_
      rintro e w4 ⟨z, rfl, hzm, hzi, hd⟩
      have hs4 := hd.size
      have M5 := Lib.hid (M4.out.dw hd hbl hp)
      clear hd M4 LB hHeld hzm
      go_wp2_with fail
      refine hK.out _ _ ⟨M5.out.m, M5.out.s.cellv hz0, (M5.out.s.blk gs rfl).2⟩ (fun hHeld => ?_)
      clear hK K
      try simp only [Act.put, s1, s2, s3]
      refine tkH0 9 (v := ?_) ?_ ?_
      rotate_left
      · (intro wv hSw; clear hSw; go_simp; try with_reducible rfl)
      try simp only [Act.put, s1, s2, s3]
      refine wpAnyH_ready (rs := [10]) (by kernel_rfl) (by simp) ?_
      refine AllReadyH.cons rfl (fun K hK => ?_) AllReadyH.nil
      obtain ⟨z1, hz1, hz1i, hz1c⟩ := M5.out.t.cell (k := 0) (by omega)
      obtain ⟨cur, hcur⟩ := M5.out.t.typ (g := g) rfl
      have hBf := Blk.free (show Blk w4 g cur 2 from hcur) 0
      have gl := (M5.out.t.blk g rfl).2
      have M6 := Lib.hid (M5.out.setT hzi (Nat.le_refl _))
      clear hcur hz1
      go_simp
      refine hK.out _ _ ⟨M6.out.m, M6.out.s.cellv hz0, (M6.out.s.blk gs rfl).2⟩ (fun hHeld => ?_)
      clear hK K
      try simp only [Act.put, s1, s2, s3]
      refine wpAnyH_done (by kernel_rfl) ?_ _
      refine NoPanic.normal ?_
      clear hHeld
      have hml := M6.out.m.lt
      go_wp2_with fail
      go_meet
      exact ⟨hml, _, M6⟩
    · have hy' : (y == 0) = false := by simpa using hy
      go_wp2_with fail
      go_meet
      exact ⟨by omega, st, M3⟩
  case rest =>
    obtain ⟨hp3, st3, M3⟩ := hcut
    have hs0 := X0
    clear hs0
    go_wp2_with fail
    refine Calls.mono (dw_next (b := b) (lo := lo) M3.out.d.src (by decide)) ?_
    rintro e w4 ⟨y, rfl, hy0, hy1, hd⟩
    have M4 := Lib.hid (M3.out.dw hd hbl hp)
    have hs4 := hd.size
    clear hd M3 hy1
    go_upto_if 32 with fail
    go_cut [] (fun wx => p < wx.heap.size ∧ ∃ sa' sn' sc' sz', 1 ≤ sn' ∧ sn' ≤ 5 ∧ Hid (DmS lo b w.heap.size p w wx sa' sn' sc' ta sn tc ra rn rc sz' st3 l))
    case first =>
      by_cases hy : y = 0
      · subst hy
        go_wp2_with fail
        have hsl := M4.out.s.len
        have hsb := M4.out.s.blk
        refine wp_region_noPanic ?_
        refine wp_region_held_drew (S := C12 p (.slice ta sn tc) (.slice ra rn rc)) (by kernel_rfl) (Blk.c12 (M4.out.m.drew)) (fun hHeld => ?_)
        have hx : Below w4.heap.size w4 w4.drew := (Below.refl _ _).drew
        have q0 := M4.out.m.cell 0
        simp only [List.getElem?_toArray, List.getElem?_cons_zero, List.getElem?_cons_succ] at q0
        have ql := M4.out.m.lt
        refine tkH0 0 (v := ?_) ?_ ?_
        rotate_left
        · (intro wv hSw; clear hSw; go_simp; try with_reducible rfl)
        try simp only [Act.put, s1, s2, s3]
        refine tkH0 5 (v := ?_) ?_ ?_
        rotate_left
        · (intro wv hSw; clear hSw; go_simp; try with_reducible rfl)
        try simp only [Act.put, s1, s2, s3]
        refine tkH0 6 (v := ?_) ?_ ?_
        rotate_left
        · (intro wv hSw; obtain ⟨q1, q2, ql⟩ := hSw; go_simp; try with_reducible rfl)
        try simp only [Act.put, s1, s2, s3]
        refine tkH0 7 (v := ?_) ?_ ?_
        rotate_left
        · (intro wv hSw; clear hSw; go_simp; try with_reducible rfl)
        try simp only [Act.put, s1, s2, s3]
        refine tkH0 8 (v := ?_) ?_ ?_
        rotate_left
        · (intro wv hSw; obtain ⟨q1, q2, ql⟩ := hSw; go_simp; try with_reducible rfl)
        try simp only [Act.put, s1, s2, s3]
        refine wpAnyH_three (i0 := 1) (i := 2) (j := 3) (n := sn) (d0 := some 34) (v := .slice sa sn sc) (di := some 35) (dj := some 36) (F := fun a3 c3 gx wn => Below w4.heap.size w4 wn ∧ OwnI 2 wn w4.heap.size a3 sn c3 sz2 ∧ OwnI 2 wn w4.heap.size (some ⟨gx, 0, none⟩) 1 1 [(2 : Int)]) (by assumption) ?_ ?_
        · skip
          refine wpK_ready (rs := [1, 3]) (by kernel_rfl) (by simp) ?_
          refine AllReadyK.cons rfl (fun K hK => ?_) ?_
          · skip
            go_simp
            refine hK.out _ _ (Blk.c12 (M4.out.m.keep hx)) (fun hHeld => ?_)
            clear hK K
            try simp only [Act.put, s1, s2, s3]
            refine wpK_ready (rs := [2, 3]) (by kernel_rfl) (by simp) ?_
            refine AllReadyK.cons rfl (fun K hK => ?_) ?_
            · skip
              go_simp
              refine Calls.mono (spec_l01OwnU (M4.out.s.ints.keep hx) (by omega)) ?_
              rintro e wn ⟨a3, c3, rfl, hbn, ho⟩
              have HT := Lib.hid (ho.le hx.size)
              (try replace HLt := Lib.hid (HLt.out.keep hbn))
              replace hx := below_callS hx hbn
              clear hbn ho
              go_wp2_with fail
              refine hK.out _ _ (Blk.c12 (M4.out.m.keep hx)) (fun hHeld => ?_)
              clear hK K
              try simp only [Act.put, s1, s2, s3]
              refine wpK_ready (rs := [3]) (by kernel_rfl) (by simp) ?_
              refine AllReadyK.cons rfl (fun K hK => ?_) ?_
              · skip
                go_simp
                have hz := hx.size
                have HLt := Lib.hid ((own_litU (w := wn) (T := 2) (z := 2) (by decide)).le hz)
                replace HT := Lib.hid (HT.out.keep (below_alloc1 (Below.refl _ _) (.cells #[.int .i64 2] 2)))
                replace hx := below_alloc1 hx (.cells #[.int .i64 2] 2)
                clear hz
                refine hK.out _ _ (Blk.c12 (M4.out.m.keep hx)) (fun hHeld => ?_)
                clear hK K
                try simp only [Act.put, s1, s2, s3]
                exact ⟨_, _, _, rfl, rfl, hx, HT.out, HLt.out⟩
              exact AllReadyK.nil
            refine AllReadyK.cons rfl (fun K hK => ?_) ?_
            · skip
              go_simp
              have HLt := Lib.hid (((own_litU (w := w4) (T := 2) (z := 2) (by decide))).keep (Below.refl _ _).drew)
              replace hx := (below_alloc1 (Below.refl w4.heap.size w4) (.cells #[.int .i64 2] 2)).drew
              refine hK.out _ _ (Blk.c12 (M4.out.m.keep hx)) (fun hHeld => ?_)
              clear hK K
              try simp only [Act.put, s1, s2, s3]
              refine wpK_ready (rs := [2]) (by kernel_rfl) (by simp) ?_
              refine AllReadyK.cons rfl (fun K hK => ?_) ?_
              · skip
                go_simp
                refine Calls.mono (spec_l01OwnU (M4.out.s.ints.keep hx) (by omega)) ?_
                rintro e wn ⟨a3, c3, rfl, hbn, ho⟩
                have HT := Lib.hid (ho.le hx.size)
                (try replace HLt := Lib.hid (HLt.out.keep hbn))
                replace hx := below_callS hx hbn
                clear hbn ho
                go_wp2_with fail
                refine hK.out _ _ (Blk.c12 (M4.out.m.keep hx)) (fun hHeld => ?_)
                clear hK K
                try simp only [Act.put, s1, s2, s3]
                exact ⟨_, _, _, rfl, rfl, hx, HT.out, HLt.out⟩
              exact AllReadyK.nil
            exact AllReadyK.nil
          refine AllReadyK.cons rfl (fun K hK => ?_) ?_
          · skip
            go_simp
            have HLt := Lib.hid (((own_litU (w := w4) (T := 2) (z := 2) (by decide))).keep (Below.refl _ _).drew)
            replace hx := (below_alloc1 (Below.refl w4.heap.size w4) (.cells #[.int .i64 2] 2)).drew
            refine hK.out _ _ (Blk.c12 (M4.out.m.keep hx)) (fun hHeld => ?_)
            clear hK K
            try simp only [Act.put, s1, s2, s3]
            refine wpK_ready (rs := [1]) (by kernel_rfl) (by simp) ?_
            refine AllReadyK.cons rfl (fun K hK => ?_) ?_
            · skip
              go_simp
              refine hK.out _ _ (Blk.c12 (M4.out.m.keep hx)) (fun hHeld => ?_)
              clear hK K
              try simp only [Act.put, s1, s2, s3]
              refine wpK_ready (rs := [2]) (by kernel_rfl) (by simp) ?_
              refine AllReadyK.cons rfl (fun K hK => ?_) ?_
              · skip
                go_simp
                refine Calls.mono (spec_l01OwnU (M4.out.s.ints.keep hx) (by omega)) ?_
                rintro e wn ⟨a3, c3, rfl, hbn, ho⟩
                have HT := Lib.hid (ho.le hx.size)
                (try replace HLt := Lib.hid (HLt.out.keep hbn))
                replace hx := below_callS hx hbn
                clear hbn ho
                go_wp2_with fail
                refine hK.out _ _ (Blk.c12 (M4.out.m.keep hx)) (fun hHeld => ?_)
                clear hK K
                try simp only [Act.put, s1, s2, s3]
                exact ⟨_, _, _, rfl, rfl, hx, HT.out, HLt.out⟩
              exact AllReadyK.nil
            exact AllReadyK.nil
          exact AllReadyK.nil
        clear q0 ql
        clear hx hHeld
        intro a3 c3 gx wn hHeld hF
        obtain ⟨hx, hT, hLt⟩ := hF
        try simp only [Act.put, s1, s2, s3]
        refine wpAnyH_ready (rs := [4]) (by kernel_rfl) (by simp) ?_
        refine AllReadyH.cons rfl (fun K hK => ?_) AllReadyH.nil
        refine wp_appendL_F (k := 1) (enc := enc1) (ok := I64) _ _ 24 2 rfl Try.underlying24 Try.infoi64 rfl (by decide) (by decide) enc1_oneU w4.heap.size _ _ _ _ hT.f1 rfl _ _ _ [(2 : Int)] rfl hLt.f1.flats (by omega) (by omega) hx.size ?_
        intro aT cT w5 ho hbB hgB
        replace hx := hx.trans hbB
        have M5 := Lib.hid (M4.out.keep hx)
        have HT := Lib.hid (OwnF.i1 ho)
        clear hT hLt ho hbB hgB
        refine hK.out _ _ (Blk.c12 M5.out.m) (fun hHeld => ?_)
        clear hK K
        try simp only [Act.put, s1, s2, s3]
        refine tkH0 9 (v := ?_) ?_ ?_
        rotate_left
        · (intro wv hSw; clear hSw; go_simp; try with_reducible rfl)
        try simp only [Act.put, s1, s2, s3]
        refine wpAnyH_ready (rs := [10]) (by kernel_rfl) (by simp) ?_
        refine AllReadyH.cons rfl (fun K hK => ?_) AllReadyH.nil
        have q0 := M5.out.m.cell 0
        have q1 := M5.out.m.cell 1
        have q2 := M5.out.m.cell 2
        have ql := M5.out.m.lt
        have qf := M5.out.m.free
        simp only [List.getElem?_toArray, List.getElem?_cons_zero, List.getElem?_cons_succ] at q0 q1 q2
        have hapT : Apart aT ta := fun g e1 e2 => by
          have h1 := (HT.out.blk g e1).1
          have h2 := (M4.out.t.blk g e2).2
          omega
        have M6 := Lib.hid (DmS.stM M5.out.d M5.out.x M5.out.m (HT.out.le (show w.heap.size + 1 ≤ w4.heap.size by omega)) M5.out.t M5.out.r hapT hp (Nat.le_refl _))
        clear hx hHeld
        go_simp
        refine hK.out _ _ (Blk.c12 M6.out.m) (fun hHeld => ?_)
        clear hK K
        try simp only [Act.put, s1, s2, s3]
        refine wpAnyH_done (by kernel_rfl) ?_ _
        refine NoPanic.normal ?_
        clear hHeld q0 q1 q2 ql qf
        have hml := M6.out.m.lt
        go_wp2_with fail
        go_meet
        exact ⟨hml, aT, sn + 1, cT, _, by omega, by omega, M6⟩
      · have hy' : (y == 0) = false := by simpa using hy
        go_wp2_with fail
        go_meet
        exact ⟨by omega, sa, sn, sc, sz2, h1, by omega, M4⟩
    case rest =>
      obtain ⟨hp4, sa4, sn4, sc4, sz4, h14, h54, M4⟩ := hcut
      have qm0 := M4.out.m.cell 0
      have qm1 := M4.out.m.cell 1
      have qm2 := M4.out.m.cell 2
      have qml := M4.out.m.lt
      simp only [List.getElem?_toArray, List.getElem?_cons_zero, List.getElem?_cons_succ] at qm0 qm1 qm2
      go_upto_if 46 with fail
      go_cut [] (fun wx => ∃ ra' rn' rc' l', rn' ≤ 300 ∧ Hid (DmS lo b w.heap.size p w wx sa4 sn4 sc4 ta sn tc ra' rn' rc' sz4 st3 l'))
      case first =>
        by_cases hrn : 0 < rn
        · have hrn' : (0 : Int) < (rn : Int) := by omega
          obtain ⟨g0, rfl⟩ : ∃ g, ra = some ⟨g, 0, none⟩ := by
            rcases M4.out.r.row.formU with h | ⟨q, e⟩
            · exfalso; omega
            · exact ⟨q, e⟩
          obtain ⟨b9, o9, x0, e9, hb9, hx0, -, hc9⟩ := M4.out.r.row.flats.at hrn
          simp only [Option.some.injEq, Addr.mk.injEq, and_true] at e9
          obtain ⟨rfl, rfl⟩ := e9
          have c0 := hc9 0 _ rfl
          have c1 := hc9 1 _ rfl
          have c2 := hc9 2 _ rfl
          simp only [Nat.zero_mul, Nat.zero_add, Nat.add_zero] at c0 c1 c2
          have XO := Lib.hid (M4.out.r.each x0 (List.mem_of_getElem? hx0))
          have xsm := SM.out x0 (List.mem_of_getElem? hx0)
          obtain ⟨⟨nm, ga, gn, gc, ea, en, ec⟩, du⟩ := x0
          dsimp only at c0 c1 c2 xsm
          clear hc9
          go_wp2_with fail
          have BLD := Lib.hid M4.out.bl
          have hbq : Below wc.heap.size wc (wc.alloc (.cells #[.string nm, .slice ga gn gc, .slice ea en ec] 64)) := below_alloc1 (Below.refl _ _) _
          have RX5 := Lib.hid (show RX (wc.alloc (.cells #[.string nm, .slice ga gn gc, .slice ea en ec] 64)) (w.heap.size + 1) wc.heap.size (⟨nm, ga, gn, gc, ea, en, ec⟩, du) from ⟨Blk.made _ _ _, XO.out.keep hbq⟩)
          have M5 := Lib.hid (M4.out.keep hbq)
          obtain ⟨q, hq⟩ : ∃ q, q = wc.heap.size := ⟨_, rfl⟩
          rw [← hq] at BLD RX5 ⊢
          have hpq : p < q := by omega
          clear hbq XO qm0 qm1 qm2 qml c0 c1 c2 M4
          refine Calls.mono (dw_next (b := b) (lo := lo) M5.out.d.src (by decide)) ?_
          rintro e w6 ⟨y6, rfl, hy0, hy1, hd⟩
          have M6 := Lib.hid (M5.out.dw hd hbl hp)
          have RX6 := Lib.hid (RX5.out.dw hd (by omega) (by omega))
          have hs6 := hd.size
          have hq6 : q < w6.heap.size := RX6.out.bx.lt
          clear hd M5 RX5 hs6 hq
          go_upto_block 0 with fail
          go_cut [] (fun wx => ∃ x, Hid (RX wx (w.heap.size + 1) q x) ∧ Hid (DmS lo b w.heap.size p w wx sa4 sn4 sc4 ta sn tc (some ⟨g0, 0, none⟩) rn rc sz4 st3 l))
          case first =>
            by_cases y60 : y6 = 0
            · subst y60
              have hbS : ∀ cs : Array Value, Below w6.heap.size w6 (w6.alloc (.cells cs 9)) := fun cs => below_alloc1 (Below.refl _ _) _
              have LS := Lib.hid (Blk.made w6 #[.string ⟨#[]⟩, .string ⟨#[115, 105, 120, 116, 101, 101, 110, 95, 108, 101, 116, 116, 101, 114, 115, 48]⟩, .string ⟨#[115, 101, 118, 101, 110, 116, 101, 101, 110, 95, 108, 101, 116, 116, 101, 114, 115]⟩, .string ⟨#[71, 111]⟩] 9)
              have M7 := Lib.hid (M6.out.keep (hbS #[.string ⟨#[]⟩, .string ⟨#[115, 105, 120, 116, 101, 101, 110, 95, 108, 101, 116, 116, 101, 114, 115, 48]⟩, .string ⟨#[115, 101, 118, 101, 110, 116, 101, 101, 110, 95, 108, 101, 116, 116, 101, 114, 115]⟩, .string ⟨#[71, 111]⟩]))
              have RX7 := Lib.hid (RX6.out.keep (hbS #[.string ⟨#[]⟩, .string ⟨#[115, 105, 120, 116, 101, 101, 110, 95, 108, 101, 116, 116, 101, 114, 115, 48]⟩, .string ⟨#[115, 101, 118, 101, 110, 116, 101, 101, 110, 95, 108, 101, 116, 116, 101, 114, 115]⟩, .string ⟨#[71, 111]⟩]))
              clear hbS
              go_wp2_with fail
              refine Calls.mono (dw_next (b := b) (lo := lo) M7.out.d.src (by decide)) ?_
              rintro e w8 ⟨r, rfl, hr0, hr1, hd⟩
              have hr4 : r < 4 := by omega
              have hbw : b < w6.heap.size := by omega
              have LS8 := Lib.hid (LS.out.dw hd (by omega))
              have M8 := Lib.hid (M7.out.dw hd hbl hp)
              have RX8 := Lib.hid (RX7.out.dw hd (by omega) (by omega))
              clear hd LS M7 RX7 hr1
              have l0 := LS8.out.cell 0
              have l1 := LS8.out.cell 1
              have l2 := LS8.out.cell 2
              have l3 := LS8.out.cell 3
              have ll := LS8.out.lt
              simp only [List.getElem?_toArray, List.getElem?_cons_zero, List.getElem?_cons_succ] at l0 l1 l2 l3
              have x0 := RX8.out.bx.cell 0
              have xl := RX8.out.bx.lt
              have xf := RX8.out.bx.free 0
              simp only [List.getElem?_toArray, List.getElem?_cons_zero, List.getElem?_cons_succ] at x0
              have HX := Lib.hid (fun (s : ByteArray) (hs : s.size ≤ maxLen) => show ∃ x, Hid (RX (w8.setCell ⟨q, 0, none⟩ (.string s)) (w.heap.size + 1) q x) ∧ Hid (DmS lo b w.heap.size p w (w8.setCell ⟨q, 0, none⟩ (.string s)) sa4 sn4 sc4 ta sn tc (some ⟨g0, 0, none⟩) rn rc sz4 st3 l) from ⟨_, Lib.hid (RX8.out.setN s hs), Lib.hid (M8.out.keepB BLD.out ((Below.refl q w8).setCell (Nat.le_refl _) _) hp (Nat.le_refl _))⟩)
              rcases (show r = 0 ∨ r = 1 ∨ r = 2 ∨ r = 3 by omega) with rfl | rfl | rfl | rfl
              all_goals
                go_wp2_with fail
                go_meet
                exact HX.out _ (by decide)
            have y60' : (y6 == 0) = false := by simpa using y60
            by_cases y61 : y6 = 1
            · subst y61
              have BL6 := Lib.hid M6.out.bl
              have XB6 := Lib.hid RX6.out.ro.xb
              have hws : w.heap.size + 1 ≤ w6.heap.size := by omega
              have hno := Lib.hid RX6.out.bx.free
              have hxn := xsm.1
              go_wp2_with fail
              refine wp_region_noPanic ?_
              refine wp_region_M (L := 11) (S := (fun wx => wx.cell? ⟨p, 0, none⟩ = some (.slice sa4 sn4 sc4) ∧ wx.cell? ⟨q, 1, none⟩ = some (.slice ga gn gc) ∧ p < wx.heap.size ∧ q < wx.heap.size)) (by kernel_rfl) ?_ (fun hHeld => ?_)
              · exact ⟨Blk.cell M6.out.m 0, Blk.cell RX6.out.bx 1, Blk.lt M6.out.m, Blk.lt RX6.out.bx⟩
              refine tkM 1 ?_
              try simp only [Act.put, s1, s2, s3]
              refine tkM 4 ?_
              try simp only [Act.put, s1, s2, s3]
              refine tkM0 2 (v := ?_) ?_ ?_
              rotate_left
              · (intro wv hSw; (try dsimp only at hSw); obtain ⟨hs1, hs2, hs3, hs4⟩ := hSw; go_simp; try with_reducible rfl)
              try simp only [Act.put, s1, s2, s3]
              refine tkM0 5 (v := ?_) ?_ ?_
              rotate_left
              · (intro wv hSw; (try dsimp only at hSw); obtain ⟨hs1, hs2, hs3, hs4⟩ := hSw; go_simp; try with_reducible rfl)
              try simp only [Act.put, s1, s2, s3]
              refine tkM 6 ?_
              try simp only [Act.put, s1, s2, s3]
              refine tkM 7 ?_
              try simp only [Act.put, s1, s2, s3]
              refine wpAnyM_ready (rs := [0, 8]) (by kernel_rfl) (by simp) ?_
              refine AllReadyM.cons rfl (fun K hK => ?_) (AllReadyM.cons rfl (fun K hK => ?_) AllReadyM.nil)
              · skip
                go_simp
                obtain ⟨w7, hw9⟩ : ∃ v, v = (w6.alloc (.cells #[] 74)).drew := ⟨_, rfl⟩
                have hb9 : Below w6.heap.size w6 w7 := by rw [hw9]; exact (below_alloc1 (Below.refl _ _) _).drew
                have EO := Lib.hid (show OwnF 3 I2b.enc I2b.ok 74 w7 w6.heap.size (some ⟨w6.heap.size, 0, none⟩) 0 0 [] by rw [hw9]; exact (OwnF.emp (k := 3) (enc := I2b.enc) (ok := I2b.ok) (E := 74) w6 (Nat.le_refl _) (fun _ => rfl)).keep (Below.refl _ _).drew)
                have M7 := Lib.hid (M6.out.keep hb9)
                have RX7 := Lib.hid (RX6.out.keep hb9)
                have hz_w7 : w6.heap.size ≤ w7.heap.size := hb9.size
                rw [← hw9]
                clear hw9 hb9 hHeld
                refine hK.out _ _ ⟨Blk.cell M7.out.m 0, Blk.cell RX7.out.bx 1, Blk.lt M7.out.m, Blk.lt RX7.out.bx⟩ (fun hHeld => ?_)
                clear hK K
                try simp only [Act.put, s1, s2, s3]
                refine wpAnyM_ready (rs := [3, 8]) (by kernel_rfl) (by simp) ?_
                refine AllReadyM.cons rfl (fun K hK => ?_) (AllReadyM.cons rfl (fun K hK => ?_) AllReadyM.nil)
                · skip
                  refine wp_appendL_F (k := 3) (enc := I2b.enc) (ok := I2b.ok) _ _ 61 74 rfl Try.underlying61 Try.infoTest rfl (by decide) (by decide) I2b.one9 w6.heap.size _ _ _ _ EO.out rfl _ _ _ _ rfl (RX7.out.ro.g.flats) (by omega) (by (try dsimp only); omega) (by omega) ?_
                  intro a3 c3 w8 ho9 hb9 hg9
                  (try simp only [Nat.zero_add, List.nil_append] at ho9)
                  (try simp only [Nat.zero_add])
                  have EO9 := Lib.hid ho9
                  have M8 := Lib.hid (M7.out.keepB BL6.out hb9 hp (Nat.le_refl _))
                  have RX8 := Lib.hid (RX7.out.keepB hb9 hq6 XB6.out)
                  have hz_w8 : w6.heap.size ≤ w8.heap.size := Nat.le_trans hz_w7 hb9.size
                  clear ho9 hb9 hg9 hHeld EO
                  refine hK.out _ _ ⟨Blk.cell M8.out.m 0, Blk.cell RX8.out.bx 1, Blk.lt M8.out.m, Blk.lt RX8.out.bx⟩ (fun hHeld => ?_)
                  clear hK K
                  try simp only [Act.put, s1, s2, s3]
                  refine wpAnyM_ready (rs := [8]) (by kernel_rfl) (by simp) ?_
                  refine AllReadyM.cons rfl (fun K hK => ?_) AllReadyM.nil
                  go_simp
                  obtain ⟨w9, hw9⟩ : ∃ v, v = (w8.alloc (.cells #[.int .i64 (sn4 : Int), .int .i64 0, .bool false] 74)) := ⟨_, rfl⟩
                  have hb9 : Below w8.heap.size w8 w9 := by rw [hw9]; exact (below_alloc1 (Below.refl _ _) _)
                  have LT := Lib.hid (show Blk w9 w8.heap.size (I2b.enc (⟨(sn4 : Int), 0, false⟩ : I2b)).toArray 74 by rw [hw9]; exact (Blk.made w8 _ _))
                  obtain ⟨gl, hgl⟩ : ∃ v, v = w8.heap.size := ⟨_, rfl⟩
                  rw [← hgl] at LT ⊢
                  have hgl1 : w8.heap.size ≤ gl := by omega
                  have hgl2 : gl ≤ w8.heap.size := by omega
                  clear hgl
                  have M9 := Lib.hid (M8.out.keep hb9)
                  have RX9 := Lib.hid (RX8.out.keep hb9)
                  replace EO9 := Lib.hid (EO9.out.keep hb9)
                  have hz_w9 : w6.heap.size ≤ w9.heap.size := Nat.le_trans hz_w8 hb9.size
                  rw [← hw9]
                  clear hw9 hb9 hHeld
                  refine hK.out _ _ ⟨Blk.cell M9.out.m 0, Blk.cell RX9.out.bx 1, Blk.lt M9.out.m, Blk.lt RX9.out.bx⟩ (fun hHeld => ?_)
                  clear hK K
                  try simp only [Act.put, s1, s2, s3]
                  refine wpAnyM_ready (rs := [9]) (by kernel_rfl) (by simp) ?_
                  refine AllReadyM.cons rfl (fun K hK => ?_) AllReadyM.nil
                  refine wp_appendL_F (k := 3) (enc := I2b.enc) (ok := I2b.ok) _ _ 61 74 rfl Try.underlying61 Try.infoTest rfl (by decide) (by decide) I2b.one9 w6.heap.size _ _ _ _ EO9.out rfl _ _ _ _ rfl (Flats.blk1 LT.out (fun _ => rfl) (show I2b.ok _ from ⟨show I64 (sn4 : Int) by unfold I64; omega, show I64 0 by decide⟩)) (by (try dsimp only); omega) (by omega) (by omega) ?_
                  intro a4 c4 wE ho9 hb9 hg9
                  have ME := Lib.hid (M9.out.keepB BL6.out hb9 hp (Nat.le_refl _))
                  have RE := Lib.hid (RX9.out.keepB hb9 hq6 XB6.out)
                  have RF := Lib.hid (RE.out.setG (ho9.le hws) (by (try dsimp only); omega))
                  have MF := Lib.hid (ME.out.keepB BLD.out (show Below q wE (wE.setCell ⟨q, 1, none⟩ (.slice a4 (gn + 1) c4)) from (Below.refl q wE).setCell (Nat.le_refl _) _) hp (Nat.le_refl _))
                  have x0 := RE.out.bx.cell 1
                  have xl := RE.out.bx.lt
                  have xf := RE.out.bx.free 1
                  simp only [List.getElem?_toArray, List.getElem?_cons_zero, List.getElem?_cons_succ] at x0
                  refine hK.out _ _ ⟨Blk.cell ME.out.m 0, Blk.cell RE.out.bx 1, Blk.lt ME.out.m, Blk.lt RE.out.bx⟩ (fun hHeld => ?_)
                  clear hb9 hg9 ho9
                  clear hK K
                  try simp only [Act.put, s1, s2, s3]
                  refine tkM 10 ?_
                  try simp only [Act.put, s1, s2, s3]
                  refine wpAnyM_ready (rs := [11]) (by kernel_rfl) (by simp) ?_
                  refine AllReadyM.last rfl (fun K hK => ?_)
                  go_simp
                  refine hK.out _ _ ?_
                  clear hK K
                  try simp only [Act.put, s1, s2, s3]
                  refine wpAnyM_done (by kernel_rfl) ?_ _
                  refine NoPanic.normal ?_
                  go_wp2_with fail
                  go_meet
                  exact ⟨_, RF, MF⟩
                · skip
                  go_simp
                  obtain ⟨w8, hw9⟩ : ∃ v, v = (w7.alloc (.cells #[.int .i64 (sn4 : Int), .int .i64 0, .bool false] 74)) := ⟨_, rfl⟩
                  have hb9 : Below w7.heap.size w7 w8 := by rw [hw9]; exact (below_alloc1 (Below.refl _ _) _)
                  have hne9 : w6.heap.size < w7.heap.size := (EO.out.blk _ rfl).2
                  have LT := Lib.hid (show Blk w8 w7.heap.size (I2b.enc (⟨(sn4 : Int), 0, false⟩ : I2b)).toArray 74 by rw [hw9]; exact (Blk.made w7 _ _))
                  obtain ⟨gl, hgl⟩ : ∃ v, v = w7.heap.size := ⟨_, rfl⟩
                  rw [← hgl] at LT ⊢
                  have hgl1 : w7.heap.size ≤ gl := by omega
                  have hgl2 : gl ≤ w7.heap.size := by omega
                  clear hgl
                  have M8 := Lib.hid (M7.out.keep hb9)
                  have RX8 := Lib.hid (RX7.out.keep hb9)
                  replace EO := Lib.hid (EO.out.keep hb9)
                  have hz_w8 : w6.heap.size ≤ w8.heap.size := Nat.le_trans hz_w7 hb9.size
                  rw [← hw9]
                  clear hw9 hb9 hHeld
                  refine hK.out _ _ ⟨Blk.cell M8.out.m 0, Blk.cell RX8.out.bx 1, Blk.lt M8.out.m, Blk.lt RX8.out.bx⟩ (fun hHeld => ?_)
                  clear hK K
                  try simp only [Act.put, s1, s2, s3]
                  refine wpAnyM_ready (rs := [3]) (by kernel_rfl) (by simp) ?_
                  refine AllReadyM.cons rfl (fun K hK => ?_) AllReadyM.nil
                  refine wp_appendL_F (k := 3) (enc := I2b.enc) (ok := I2b.ok) _ _ 61 74 rfl Try.underlying61 Try.infoTest rfl (by decide) (by decide) I2b.one9 w6.heap.size _ _ _ _ EO.out rfl _ _ _ _ rfl (RX8.out.ro.g.flats) (by omega) (by (try dsimp only); omega) (by omega) ?_
                  intro a3 c3 w9 ho9 hb9 hg9
                  (try simp only [Nat.zero_add, List.nil_append] at ho9)
                  (try simp only [Nat.zero_add])
                  have LT9 := Lib.hid (LT.out.keepG hg9 (fun e => by have := own_block EO.out.1 _ e; (simp only [Option.some.injEq, Addr.mk.injEq, and_true] at this); omega))
                  have EO9 := Lib.hid ho9
                  have M9 := Lib.hid (M8.out.keepB BL6.out hb9 hp (Nat.le_refl _))
                  have RX9 := Lib.hid (RX8.out.keepB hb9 hq6 XB6.out)
                  have hz_w9 : w6.heap.size ≤ w9.heap.size := Nat.le_trans hz_w8 hb9.size
                  clear ho9 hb9 hg9 hHeld EO
                  refine hK.out _ _ ⟨Blk.cell M9.out.m 0, Blk.cell RX9.out.bx 1, Blk.lt M9.out.m, Blk.lt RX9.out.bx⟩ (fun hHeld => ?_)
                  clear hK K
                  try simp only [Act.put, s1, s2, s3]
                  refine wpAnyM_ready (rs := [9]) (by kernel_rfl) (by simp) ?_
                  refine AllReadyM.cons rfl (fun K hK => ?_) AllReadyM.nil
                  refine wp_appendL_F (k := 3) (enc := I2b.enc) (ok := I2b.ok) _ _ 61 74 rfl Try.underlying61 Try.infoTest rfl (by decide) (by decide) I2b.one9 w6.heap.size _ _ _ _ EO9.out rfl _ _ _ _ rfl (Flats.blk1 LT9.out (fun _ => rfl) (show I2b.ok _ from ⟨show I64 (sn4 : Int) by unfold I64; omega, show I64 0 by decide⟩)) (by (try dsimp only); omega) (by omega) (by omega) ?_
                  intro a4 c4 wE ho9 hb9 hg9
                  have ME := Lib.hid (M9.out.keepB BL6.out hb9 hp (Nat.le_refl _))
                  have RE := Lib.hid (RX9.out.keepB hb9 hq6 XB6.out)
                  have RF := Lib.hid (RE.out.setG (ho9.le hws) (by (try dsimp only); omega))
                  have MF := Lib.hid (ME.out.keepB BLD.out (show Below q wE (wE.setCell ⟨q, 1, none⟩ (.slice a4 (gn + 1) c4)) from (Below.refl q wE).setCell (Nat.le_refl _) _) hp (Nat.le_refl _))
                  have x0 := RE.out.bx.cell 1
                  have xl := RE.out.bx.lt
                  have xf := RE.out.bx.free 1
                  simp only [List.getElem?_toArray, List.getElem?_cons_zero, List.getElem?_cons_succ] at x0
                  refine hK.out _ _ ⟨Blk.cell ME.out.m 0, Blk.cell RE.out.bx 1, Blk.lt ME.out.m, Blk.lt RE.out.bx⟩ (fun hHeld => ?_)
                  clear hb9 hg9 ho9
                  clear hK K
                  try simp only [Act.put, s1, s2, s3]
                  refine tkM 10 ?_
                  try simp only [Act.put, s1, s2, s3]
                  refine wpAnyM_ready (rs := [11]) (by kernel_rfl) (by simp) ?_
                  refine AllReadyM.last rfl (fun K hK => ?_)
                  go_simp
                  refine hK.out _ _ ?_
                  clear hK K
                  try simp only [Act.put, s1, s2, s3]
                  refine wpAnyM_done (by kernel_rfl) ?_ _
                  refine NoPanic.normal ?_
                  go_wp2_with fail
                  go_meet
                  exact ⟨_, RF, MF⟩
              · skip
                go_simp
                obtain ⟨w7, hw9⟩ : ∃ v, v = (w6.alloc (.cells #[.int .i64 (sn4 : Int), .int .i64 0, .bool false] 74)).drew := ⟨_, rfl⟩
                have hb9 : Below w6.heap.size w6 w7 := by rw [hw9]; exact (below_alloc1 (Below.refl _ _) _).drew
                have LT := Lib.hid (show Blk w7 w6.heap.size (I2b.enc (⟨(sn4 : Int), 0, false⟩ : I2b)).toArray 74 by rw [hw9]; exact (Blk.made w6 _ _).drew)
                obtain ⟨gl, hgl⟩ : ∃ v, v = w6.heap.size := ⟨_, rfl⟩
                rw [← hgl] at LT ⊢
                have hgl1 : w6.heap.size ≤ gl := by omega
                have hgl2 : gl ≤ w6.heap.size := by omega
                clear hgl
                have M7 := Lib.hid (M6.out.keep hb9)
                have RX7 := Lib.hid (RX6.out.keep hb9)
                have hz_w7 : w6.heap.size ≤ w7.heap.size := hb9.size
                rw [← hw9]
                clear hw9 hb9 hHeld
                refine hK.out _ _ ⟨Blk.cell M7.out.m 0, Blk.cell RX7.out.bx 1, Blk.lt M7.out.m, Blk.lt RX7.out.bx⟩ (fun hHeld => ?_)
                clear hK K
                try simp only [Act.put, s1, s2, s3]
                refine wpAnyM_ready (rs := [0]) (by kernel_rfl) (by simp) ?_
                refine AllReadyM.cons rfl (fun K hK => ?_) AllReadyM.nil
                go_simp
                obtain ⟨w8, hw9⟩ : ∃ v, v = (w7.alloc (.cells #[] 74)) := ⟨_, rfl⟩
                have hb9 : Below w7.heap.size w7 w8 := by rw [hw9]; exact (below_alloc1 (Below.refl _ _) _)
                have hne9 := LT.out.lt
                have EO := Lib.hid (show OwnF 3 I2b.enc I2b.ok 74 w8 w6.heap.size (some ⟨w7.heap.size, 0, none⟩) 0 0 [] by rw [hw9]; exact (OwnF.emp (k := 3) (enc := I2b.enc) (ok := I2b.ok) (E := 74) w7 hz_w7 (fun _ => rfl)))
                have M8 := Lib.hid (M7.out.keep hb9)
                have RX8 := Lib.hid (RX7.out.keep hb9)
                replace LT := Lib.hid (LT.out.keep hb9)
                have hz_w8 : w6.heap.size ≤ w8.heap.size := Nat.le_trans hz_w7 hb9.size
                rw [← hw9]
                clear hw9 hb9 hHeld
                refine hK.out _ _ ⟨Blk.cell M8.out.m 0, Blk.cell RX8.out.bx 1, Blk.lt M8.out.m, Blk.lt RX8.out.bx⟩ (fun hHeld => ?_)
                clear hK K
                try simp only [Act.put, s1, s2, s3]
                refine wpAnyM_ready (rs := [3]) (by kernel_rfl) (by simp) ?_
                refine AllReadyM.cons rfl (fun K hK => ?_) AllReadyM.nil
                refine wp_appendL_F (k := 3) (enc := I2b.enc) (ok := I2b.ok) _ _ 61 74 rfl Try.underlying61 Try.infoTest rfl (by decide) (by decide) I2b.one9 w6.heap.size _ _ _ _ EO.out rfl _ _ _ _ rfl (RX8.out.ro.g.flats) (by omega) (by (try dsimp only); omega) (by omega) ?_
                intro a3 c3 w9 ho9 hb9 hg9
                (try simp only [Nat.zero_add, List.nil_append] at ho9)
                (try simp only [Nat.zero_add])
                have LT9 := Lib.hid (LT.out.keepG hg9 (fun e => by have := own_block EO.out.1 _ e; (simp only [Option.some.injEq, Addr.mk.injEq, and_true] at this); omega))
                have EO9 := Lib.hid ho9
                have M9 := Lib.hid (M8.out.keepB BL6.out hb9 hp (Nat.le_refl _))
                have RX9 := Lib.hid (RX8.out.keepB hb9 hq6 XB6.out)
                have hz_w9 : w6.heap.size ≤ w9.heap.size := Nat.le_trans hz_w8 hb9.size
                clear ho9 hb9 hg9 hHeld EO
                refine hK.out _ _ ⟨Blk.cell M9.out.m 0, Blk.cell RX9.out.bx 1, Blk.lt M9.out.m, Blk.lt RX9.out.bx⟩ (fun hHeld => ?_)
                clear hK K
                try simp only [Act.put, s1, s2, s3]
                refine wpAnyM_ready (rs := [9]) (by kernel_rfl) (by simp) ?_
                refine AllReadyM.cons rfl (fun K hK => ?_) AllReadyM.nil
                refine wp_appendL_F (k := 3) (enc := I2b.enc) (ok := I2b.ok) _ _ 61 74 rfl Try.underlying61 Try.infoTest rfl (by decide) (by decide) I2b.one9 w6.heap.size _ _ _ _ EO9.out rfl _ _ _ _ rfl (Flats.blk1 LT9.out (fun _ => rfl) (show I2b.ok _ from ⟨show I64 (sn4 : Int) by unfold I64; omega, show I64 0 by decide⟩)) (by (try dsimp only); omega) (by omega) (by omega) ?_
                intro a4 c4 wE ho9 hb9 hg9
                have ME := Lib.hid (M9.out.keepB BL6.out hb9 hp (Nat.le_refl _))
                have RE := Lib.hid (RX9.out.keepB hb9 hq6 XB6.out)
                have RF := Lib.hid (RE.out.setG (ho9.le hws) (by (try dsimp only); omega))
                have MF := Lib.hid (ME.out.keepB BLD.out (show Below q wE (wE.setCell ⟨q, 1, none⟩ (.slice a4 (gn + 1) c4)) from (Below.refl q wE).setCell (Nat.le_refl _) _) hp (Nat.le_refl _))
                have x0 := RE.out.bx.cell 1
                have xl := RE.out.bx.lt
                have xf := RE.out.bx.free 1
                simp only [List.getElem?_toArray, List.getElem?_cons_zero, List.getElem?_cons_succ] at x0
                refine hK.out _ _ ⟨Blk.cell ME.out.m 0, Blk.cell RE.out.bx 1, Blk.lt ME.out.m, Blk.lt RE.out.bx⟩ (fun hHeld => ?_)
                clear hb9 hg9 ho9
                clear hK K
                try simp only [Act.put, s1, s2, s3]
                refine tkM 10 ?_
                try simp only [Act.put, s1, s2, s3]
                refine wpAnyM_ready (rs := [11]) (by kernel_rfl) (by simp) ?_
                refine AllReadyM.last rfl (fun K hK => ?_)
                go_simp
                refine hK.out _ _ ?_
                clear hK K
                try simp only [Act.put, s1, s2, s3]
                refine wpAnyM_done (by kernel_rfl) ?_ _
                refine NoPanic.normal ?_
                go_wp2_with fail
                go_meet
                exact ⟨_, RF, MF⟩
            have y61' : (y6 == 1) = false := by simpa using y61
            by_cases y62 : y6 = 2
            · subst y62
              have BL6 := Lib.hid M6.out.bl
              have XB6 := Lib.hid RX6.out.ro.xb
              have hws : w.heap.size + 1 ≤ w6.heap.size := by omega
              have hxn := xsm.2
              have x2 := RX6.out.bx.cell 2
              have xl := RX6.out.bx.lt
              simp only [List.getElem?_toArray, List.getElem?_cons_zero, List.getElem?_cons_succ] at x2
              have hb7 : Below w6.heap.size w6 (w6.alloc (.cells #[] 76)) := below_alloc1 (Below.refl _ _) _
              go_wp2_with (at_builtin; refine appendL_F (k := 2) (enc := I2.enc) (ok := I2.ok) rfl _ _ 62 76 rfl Try.underlying62 Try.infoAssign rfl (by decide) (by decide) I2.one w6.heap.size _ _ _ _ (OwnF.emp w6 (Nat.le_refl _) (fun _ => rfl)) rfl _ _ _ _ rfl (RX6.out.keep hb7).ro.e.flats (by omega) (by (try dsimp only); omega) (by simp) ?_; intro a8 c8 w8 ho8 hb8 hg8 hn8; (try simp only [Nat.zero_add, List.nil_append] at ho8); (try simp only [Nat.zero_add]); refine Hid.out ?_)
              have hb9 : Below w6.heap.size w6 w8 := hb7.trans hb8
              have M8 := Lib.hid (M6.out.keep hb9)
              have RX8 := Lib.hid (RX6.out.keep hb9)
              have O8 := Lib.hid ho8
              have hs8 := hb9.size
              clear hb7 hb8 hg8 hn8 ho8 hb9 x2 xl
              refine Lib.hid ?_
              have hb10 : Below w8.heap.size w8 (w8.alloc (.cells #[.int .i64 0, .int .i64 0] 76)) := below_alloc1 (Below.refl _ _) _
              go_wp2_with (at_builtin; refine appendL_F (k := 2) (enc := I2.enc) (ok := I2.ok) rfl _ _ 62 76 rfl Try.underlying62 Try.infoAssign rfl (by decide) (by decide) I2.one w6.heap.size _ _ _ _ (O8.out.keep hb10) rfl _ _ _ _ rfl (Flats.blk1 (x := (⟨0, 0⟩ : I2)) (Blk.made w8 #[.int .i64 0, .int .i64 0] 76) (fun _ => rfl) (show I2.ok _ from ⟨by decide, by decide⟩)) (by (try dsimp only); omega) (by omega) (by simp; omega) ?_; intro a9 c9 w9 ho9 hb11 hg9 hn9; refine Hid.out ?_)
              have ME := Lib.hid ((M8.out.keep hb10).keepB BL6.out hb11 hp (Nat.le_refl _))
              have RE := Lib.hid ((RX8.out.keep hb10).keepB hb11 hq6 XB6.out)
              have RF := Lib.hid (RE.out.setE (ho9.le hws) (by (try dsimp only); omega))
              have MF := Lib.hid (ME.out.keepB BLD.out (show Below q w9 (w9.setCell ⟨q, 2, none⟩ (.slice a9 (en + 1) c9)) from (Below.refl q w9).setCell (Nat.le_refl _) _) hp (Nat.le_refl _))
              have x0 := RE.out.bx.cell 2
              have xl := RE.out.bx.lt
              have xf := RE.out.bx.free 2
              simp only [List.getElem?_toArray, List.getElem?_cons_zero, List.getElem?_cons_succ] at x0
              clear hb10 hb11 hg9 hn9 ho9 O8
              refine Lib.hid ?_
              go_wp2_with fail
              go_meet
              exact ⟨_, RF, MF⟩
            have y62' : (y6 == 2) = false := by simpa using y62
            by_cases y63 : y6 = 3
            · subst y63
              have hmk24 := mkt24
              have hmk25 := mkt25
              go_wp2_with fail
              refine Calls.mono (dw_next (b := b) (lo := lo) M6.out.d.src (by decide)) ?_
              rintro e w8 ⟨r, rfl, hr0, hr1, hd⟩
              have hr2 : r < 2 := by omega
              have M8 := Lib.hid (M6.out.dw hd hbl hp)
              have RX8 := Lib.hid (RX6.out.dw hd (by omega) (by omega))
              have hs8 : w.heap.size + 1 ≤ w8.heap.size := by have := RX8.out.bx.lt; omega
              clear hd hr1
              have x0 := RX8.out.bx.cell 1
              have xl := RX8.out.bx.lt
              have xf := RX8.out.bx.free 1
              simp only [List.getElem?_toArray, List.getElem?_cons_zero, List.getElem?_cons_succ] at x0
              have HX := Lib.hid (fun (m : Nat) (hm : m ≤ 1048576) (cs : Array Value) (hcs : cs = ((List.replicate m (⟨0, 0, false⟩ : I2b)).flatMap I2b.enc).toArray) => show ∃ x, Hid (RX ((w8.setCell ⟨q, 1, none⟩ (.slice (some ⟨w8.heap.size, 0, none⟩) m m)).alloc (.cells cs 74)) (w.heap.size + 1) q x) ∧ Hid (DmS lo b w.heap.size p w ((w8.setCell ⟨q, 1, none⟩ (.slice (some ⟨w8.heap.size, 0, none⟩) m m)).alloc (.cells cs 74)) sa4 sn4 sc4 ta sn tc (some ⟨g0, 0, none⟩) rn rc sz4 st3 l) from by
                rw [← World.setCell_alloc_past _ _ _ _ xl]
                have hb : Below w8.heap.size w8 (w8.alloc (.cells cs 74)) := below_alloc1 (Below.refl _ _) _
                refine ⟨_, Lib.hid ((RX8.out.keep hb).setG (n := m) (c := m) (l := List.replicate m ⟨0, 0, false⟩) (OwnF.zeros w8 (⟨0, 0, false⟩ : I2b) hs8 hm (fun _ => rfl) (show I2b.ok _ from ⟨by decide, by decide⟩) hcs) hm), Lib.hid ((M8.out.keep hb).keepB BLD.out ((Below.refl q _).setCell (Nat.le_refl _) _) hp (Nat.le_refl _))⟩)
              have hcl : ∀ o : Obj, (w8.alloc o).cell? ⟨q, 1, none⟩ = w8.cell? ⟨q, 1, none⟩ := fun o => (below_alloc1 (Below.refl w8.heap.size w8) o).cell (p := ⟨q, 1, none⟩) xl
              rcases (show r = 0 ∨ r = 1 by omega) with rfl | rfl
              · go_wp2_with fail
                go_meet
                exact HX.out 24 (by decide) _ rfl
              · go_wp2_with fail
                go_meet
                exact HX.out 25 (by decide) _ rfl
            have y63' : (y6 == 3) = false := by simpa using y63
            go_wp2_with fail
            go_meet
            exact ⟨_, RX6, M6⟩
          case rest =>
            obtain ⟨x7, RX7, M7⟩ := hcut
            obtain ⟨wK, hwK⟩ : ∃ x : World, x = wc := ⟨_, rfl⟩
            subst hwK
            clear RX6 M6
            have BL7 := Lib.hid M7.out.bl
            have XB7 := Lib.hid RX7.out.ro.xb
            have hrs7 : w.heap.size + 1 ≤ wK.heap.size := by have := M7.out.m.lt; omega
            have qm0 := M7.out.m.cell 0
            have qm1 := M7.out.m.cell 1
            have qm2 := M7.out.m.cell 2
            have qml := M7.out.m.lt
            simp only [List.getElem?_toArray, List.getElem?_cons_zero, List.getElem?_cons_succ] at qm0 qm1 qm2
            have hb7 : Below wK.heap.size wK (wK.alloc (.cells #[] 64)) := below_alloc1 (Below.refl _ _) _
            go_wp2_with (at_builtin; refine appendL_F (k := 3) (enc := encR) (ok := fun _ => True) rfl _ _ 25 64 rfl Try.underlying25 Try.infoRule rfl (by decide) (by decide) encR_one9 wK.heap.size _ _ _ _ (OwnF.emp wK (Nat.le_refl _) (fun _ => rfl)) rfl _ _ _ l rfl (M7.out.r.row.keep hb7).flats (by omega) (by omega) (by simp) ?_; intro a8 c8 w8 ho8 hb8 hg8 hn8; refine Hid.out ?_)
            have hb9 : Below wK.heap.size wK w8 := hb7.trans hb8
            have M8 := Lib.hid (M7.out.keep hb9)
            have RX8 := Lib.hid (RX7.out.keep hb9)
            simp only [Nat.zero_add, List.nil_append] at ho8
            obtain ⟨g8, rfl⟩ : ∃ g, a8 = some ⟨g, 0, none⟩ := by
              rcases ho8.formU with h | ⟨q, e⟩
              · exfalso; omega
              · exact ⟨q, e⟩
            have O8 := Lib.hid ho8
            have hs8 := hb9.size
            have hqc : q < wK.heap.size := RX7.out.bx.lt
            clear qm0 qm1 qm2 qml hb7 hb8 hg8 hn8 ho8 hb9 M7 RX7
            refine Lib.hid ?_
            have bx0 := RX8.out.bx.cell 0
            have bx1 := RX8.out.bx.cell 1
            have bx2 := RX8.out.bx.cell 2
            have bxl := RX8.out.bx.lt
            simp only [List.getElem?_toArray, List.getElem?_cons_zero, List.getElem?_cons_succ] at bx0 bx1 bx2
            obtain ⟨b9', o9', x0', e9', hb9', hx0', -, hc9'⟩ := O8.out.flats.at hrn
            simp only [Option.some.injEq, Addr.mk.injEq, and_true] at e9'
            obtain ⟨rfl, rfl⟩ := e9'
            have d0 := hc9' 0 _ rfl
            have d1 := hc9' 1 _ rfl
            have d2 := hc9' 2 _ rfl
            simp only [Nat.zero_mul, Nat.zero_add, Nat.add_zero] at d0 d1 d2
            have f0 := O8.out.free 0
            have f1 := O8.out.free 1
            have f2 := O8.out.free 2
            have hg8 := (O8.out.blk g8 rfl).1
            clear hc9'
            go_wp2_with fail
            obtain ⟨w9, hw9⟩ : ∃ v, v = ((w8.setCell ⟨g8, 0, none⟩ (.string x7.1.nm)).setCell ⟨g8, 1, none⟩ (.slice x7.1.ga x7.1.gn x7.1.gc)).setCell ⟨g8, 2, none⟩ (.slice x7.1.ea x7.1.en x7.1.ec) := ⟨_, rfl⟩
            have hb9 : Below wK.heap.size w8 w9 := by
              rw [hw9]
              exact (((Below.refl wK.heap.size w8).setCell hg8 _).setCell hg8 _).setCell hg8 _
            have O9 : OwnF 3 encR (fun _ => True) 64 w9 wK.heap.size (some ⟨g8, 0, none⟩) rn c8 (l.set 0 x7) := by
              have h := O8.out.set3 hrn (x := x7) trivial (show encR x7 = [.string x7.1.nm, .slice x7.1.ga x7.1.gn x7.1.gc, .slice x7.1.ea x7.1.en x7.1.ec] from rfl)
              rw [hw9]
              simpa using h
            have M9 := Lib.hid (M8.out.keepB BL7.out hb9 hp (Nat.le_refl _))
            have R9 := Lib.hid (show RRB w9 (w.heap.size + 1) wK.heap.size (some ⟨g8, 0, none⟩) rn c8 (l.set 0 x7) from ⟨O9, fun x hx => by
              rcases List.mem_or_eq_of_mem_set hx with hx | hx
              · exact ⟨M9.out.r.each x hx, BL7.out.r.2 x hx⟩
              · subst hx
                exact ⟨RX8.out.ro.keepB hb9 XB7.out, XB7.out⟩⟩)
            rw [← hw9]
            have hs9 := hb9.size
            clear hw9 hb9 O9 M8 O8 RX8 bx0 bx1 bx2 bxl d0 d1 d2 f0 f1 f2 hg8
            refine Calls.mono (dw_next (b := b) (lo := lo) M9.out.d.src (by decide)) ?_
            rintro e wA1 ⟨y9, rfl, hy90, hy91, hd⟩
            have M10 := Lib.hid (M9.out.dw hd hbl hp)
            have R10 := Lib.hid (R9.out.dw hd (Nat.lt_succ_of_lt hbl) hrs7)
            have hs10 := hd.size
            clear hd M9 R9 hy91
            go_upto_if 100 with fail
            go_cut [5] (fun s5 wx => ∃ a n c l', s5 = .slice a n c ∧ n ≤ 300 ∧ Hid (RRow wx (w.heap.size + 1) a n c l') ∧ Hid (DmS lo b w.heap.size p w wx sa4 sn4 sc4 ta sn tc (some ⟨g0, 0, none⟩) rn rc sz4 st3 l))
            case first =>
              by_cases y90 : y9 = 0
              · subst y90
                go_wp2_with fail
                go_loopw [5] (fun s5 wr => ∃ (a : Option Addr) (n c : Nat) (l9 : List (RM × RuD)), s5 = .slice a n c ∧ n ≤ 201 ∧ wK.heap.size ≤ wr.heap.size ∧ Hid (RRB wr (w.heap.size + 1) wK.heap.size a n c l9) ∧ Hid (DmS lo b w.heap.size p w wr sa4 sn4 sc4 ta sn tc (some ⟨g0, 0, none⟩) rn rc sz4 st3 l)) (fun s5 _ => 201 - slN9 s5)
                case atStart => exact ⟨_, _, _, _, rfl, by omega, by omega, R10, M10⟩
                case round =>
                  clear R10 M10
                  obtain ⟨a, n, c, l9, rfl, hn, hsr, R, M⟩ := hrel
                  go_wp2_with fail
                  refine Calls.mono (dw_next (b := b) (lo := lo) M.out.d.src (by decide)) ?_
                  rintro e w12 ⟨v, rfl, hv0, hv1, hd⟩
                  have hv2 : v < 2 := by omega
                  have M12 := Lib.hid (M.out.dw hd hbl hp)
                  have R12 := Lib.hid (R.out.dw hd (Nat.lt_succ_of_lt hbl) hrs7)
                  have hs12 := hd.size
                  have ev : IntKind.i64.wrap (200 + v) = 200 + v := IntWalk.i64_in _ (by omega)
                  clear hd M R hv1
                  by_cases hlt : (n : Int) < 200 + v
                  · go_wp2_with (at_builtin; refine appF (m := 1) (k := 3) (enc := encR) (ok := fun _ => True) (lo := lo) (b := b) (w0 := w) rfl _ _ rfl Try.underlying25 Try.infoRule rfl (by decide) (by decide) encR_one9 wK.heap.size _ _ _ l9 [ruX] R12.out.row rfl _ rfl rfl rfl rfl (fun _ _ => trivial) (by omega) (by decide) M12.out.d (by omega) (by omega) ?_; intro a13 c13 w13 ho13 hb13 hd13; refine Hid.out ?_)
                    have M13 := Lib.hid (M12.out.keepB BL7.out hb13 hp (Nat.le_refl _))
                    have R13 := Lib.hid (R12.out.app hb13 ho13)
                    have hs13 := hb13.size
                    clear ho13 hb13 hd13 M12 R12
                    refine Lib.hid ?_
                    go_wp2_with fail
                    go_roundw
                    case rel => (repeat apply Exists.intro); exact ⟨⟨a13, n + 1, c13, _, rfl, by omega, by omega, R13, M13⟩, rfl⟩
                    case measure => simp [slN9]; omega
                  · go_wp2_with fail
                    go_meet
                    exact ⟨_, _, _, _, rfl, by omega, Lib.hid (R12.out.row' hrs7), M12⟩
              · have y90' : (y9 == 0) = false := by simpa using y90
                go_wp2_with fail
                go_meet
                exact ⟨_, _, _, _, rfl, by omega, Lib.hid (R10.out.row' hrs7), M10⟩
            case rest =>
              obtain ⟨a11, n11, c11, l11, rfl, hn11, R11, M11⟩ := hcut
              clear R10 M10
              have qm0 := M11.out.m.cell 0
              have qm1 := M11.out.m.cell 1
              have qm2 := M11.out.m.cell 2
              have qml := M11.out.m.lt
              have qmf := M11.out.m.free
              simp only [List.getElem?_toArray, List.getElem?_cons_zero, List.getElem?_cons_succ] at qm0 qm1 qm2
              have M14 := Lib.hid (DmS.stM M11.out.d M11.out.x M11.out.m M11.out.s M11.out.t R11.out M11.out.ap hp (Nat.le_refl _))
              go_wp2_with fail
              go_meet
              exact ⟨a11, n11, c11, l11, hn11, M14⟩
        · have hrn' : ¬ (0 : Int) < (rn : Int) := by omega
          have hrn9 : decide ((0 : Int) < (rn : Int)) = false := decide_eq_false hrn'
          go_wp2_with fail
          go_meet
          exact ⟨ra, rn, rc, l, by omega, M4⟩
      case rest =>
        obtain ⟨ra7, rn7, rc7, l7, hrn7, M7⟩ := hcut
        clear M4 qm0 qm1 qm2 qml
        have qm0 := M7.out.m.cell 0
        have qm1 := M7.out.m.cell 1
        have qm2 := M7.out.m.cell 2
        have qml := M7.out.m.lt
        have qx0 := M7.out.x.cell 0
        have qx1 := M7.out.x.cell 1
        have qx2 := M7.out.x.cell 2
        have qxl := M7.out.x.lt
        have qxf := M7.out.x.free
        simp only [List.getElem?_toArray, List.getElem?_cons_zero, List.getElem?_cons_succ] at qm0 qm1 qm2 qx0 qx1 qx2
        go_wp2
        have hon : ∀ v0 v1 v2 : Value, Only w.heap.size (w.heap.size + 1) wc (((wc.setCell ⟨w.heap.size, 0, none⟩ v0).setCell ⟨w.heap.size, 1, none⟩ v1).setCell ⟨w.heap.size, 2, none⟩ v2) := fun v0 v1 v2 => ((((Only.refl w.heap.size (w.heap.size + 1) wc).set ⟨Nat.le_refl _, Nat.lt_succ_self _⟩ 0 _).set ⟨Nat.le_refl _, Nat.lt_succ_self _⟩ 1 _).set ⟨Nat.le_refl _, Nat.lt_succ_self _⟩ 2 _)
        refine bodyPost_ret (v := .agg #[.slice sa4 sn4 sc4, .slice ta sn tc, .slice ra7 rn7 rc7]) (by simp [results, Try.results52, go_sem, *]) rfl ⟨_, _, _, sn4, sc4, sn, tc, rn7, rc7, sz4, st3, l7, rfl, (M7.out.s.only (hon _ _ _) fun g e => .inr (M7.out.s.blk g e).1).le (Nat.le_succ _), (M7.out.t.only (hon _ _ _) fun g e => .inr (M7.out.t.blk g e).1).le (Nat.le_succ _), (M7.out.r.only (hon _ _ _) (Nat.le_refl _)).le (Nat.le_succ _), by omega, by omega, by omega, by omega, ?_⟩
        exact ((M7.out.d.set (Nat.le_refl _) 0 _).set (Nat.le_refl _) 1 _).set (Nat.le_refl _) 2 _
end Go.Proofs.Ytcnjnkjnpfpaeaa
