/- The kinds of the rules of a ride model: the reference's list, walked. -/
import Derived.Test.YtipkncjjkkijfaaGreatDoorL01
import Derived.Test.YtipkncjjkkijfaaGreatDoorEx
import Derived.Test.YtipkncjjkkijfaaGreatDoorZ7
namespace Go.Proofs.YtipkncjjkkijfaaGreatDoor
open Go.RowKit
set_option linter.unusedVariables false
set_option linter.unusedSimpArgs false
/-- 'append(out, x)' of a record of three numbers, the literal laid just before; no draw in sight -/
theorem appK3 {zv : Value} {by' : Nat} {P : Program} {w : World} {ops : Array Oper} {rest : List Oper} {o : Oper} {act : Act} {Q : Exit → Act → World → Prop} {x0 x1 x2 : Int} {t e : TypeId} (hgd : o.guard = none) (s x : Operand)
    (ho : o.op = .call { callee := .builtin .append, args := #[s, x], argTypes := #[t, t] }) (ht : P.underlying t = some (.slice e)) (hinfo : (P.info? e).map (fun i => (i.zero, i.size, i.bytes)) = some (some zv, 3, by'))
    (hzs : zv.cells.size = 3) (hby : by' ≤ 128) (base : Nat) (a : Option Addr) (n c : Nat) (l : List I3) (hown : OwnF 3 I3.enc I3.ok e w base a n c l) (hs : act.eval s = .slice a n c) (gx : Nat) (hx : act.eval x = .slice (some ⟨gx, 0, none⟩) 1 1) (hg : gx = w.heap.size) (h0 : I64 x0) (h1 : I64 x1) (h2 : I64 x2)
    (hn : n ≤ 4194304) (hbase : base ≤ w.heap.size)
    (K : ∀ a' c' w', OwnF 3 I3.enc I3.ok e w' base a' (n + 1) c' (l ++ [⟨x0, x1, x2⟩]) → Below base w w' → wpList P ops Q rest (act.put o.dst (.slice a' (n + 1) c')) w') : wpList P ops Q (o :: rest) act (w.alloc (.cells #[.int .i64 x0, .int .i64 x1, .int .i64 x2] e)) := by
  subst hg
  have hb0 : Below w.heap.size w (w.alloc (.cells #[.int .i64 x0, .int .i64 x1, .int .i64 x2] e)) := (Below.refl _ _).alloc (Nat.le_refl _) _
  refine appendL_F hgd s x t e ho ht hinfo hzs (by decide) hby I3.one base a n c l (hown.keep hb0) hs _ _ _ [⟨x0, x1, x2⟩] hx (lit_flats (k := 3) (enc := I3.enc) (ok := I3.ok) w e [⟨x0, x1, x2⟩] _ (fun _ => rfl) (by decide) rfl (by intro y hy; simp at hy; subst hy; exact ⟨h0, h1, h2⟩)) hn (by simp) (by simp; omega) ?_
  intro a' c' w' h1 h2 h3 _
  exact K a' c' w' h1 ((hb0.mono hbase).trans h2)
def trK (i b : Nat) (sec : Bool) (q : Nat) : List I3 := ((List.range q).filter fun j => j != 2 || sec).map fun (j : Nat) => (⟨(j : Int), (i : Int), (b : Int)⟩ : I3)
def trB' (i : Nat) (sec : Bool) (q : Nat) : List I3 := (List.range q).flatMap fun b => trK i b sec 4
def trI (B : Nat) (sec : Bool) (q : Nat) : List I3 := (List.range q).flatMap fun i => trB' i sec B
def faK (b k : Nat) (sec : Bool) (q : Nat) : List I3 := ((List.range q).filter fun j => j != 2 || sec).map fun (j : Nat) => (⟨4 + (j : Int), (b : Int), (k : Int)⟩ : I3)
def faB (b bud : Nat) (sec : Bool) (q : Nat) : List I3 := (List.range q).flatMap fun j => faK b (bud - j) sec 3
def faI (bud : Nat) (sec : Bool) (q : Nat) : List I3 := (List.range q).flatMap fun b => faB b bud sec bud
def kindsL (n B bud : Nat) (sec : Bool) : List I3 := trI B sec n ++ faI bud sec B
theorem flat_snoc {α : Type} (f : Nat → List α) (q : Nat) : (List.range (q + 1)).flatMap f = (List.range q).flatMap f ++ f q := by
  rw [List.range_succ, List.flatMap_append]; simp
theorem trK_yes {i b q : Nat} {sec : Bool} (h : (q != 2 || sec) = true) : trK i b sec (q + 1) = trK i b sec q ++ [⟨q, i, b⟩] := by
  rw [trK, List.range_succ, List.filter_append, List.map_append]; simp [trK, h]
theorem trK_no {i b q : Nat} {sec : Bool} (h : (q != 2 || sec) = false) : trK i b sec (q + 1) = trK i b sec q := by
  rw [trK, List.range_succ, List.filter_append, List.map_append]; simp [trK, h]
theorem faK_yes {b k q : Nat} {sec : Bool} (h : (q != 2 || sec) = true) : faK b k sec (q + 1) = faK b k sec q ++ [⟨4 + q, b, k⟩] := by
  rw [faK, List.range_succ, List.filter_append, List.map_append]; simp [faK, h]
theorem faK_no {b k q : Nat} {sec : Bool} (h : (q != 2 || sec) = false) : faK b k sec (q + 1) = faK b k sec q := by
  rw [faK, List.range_succ, List.filter_append, List.map_append]; simp [faK, h]
end Go.Proofs.YtipkncjjkkijfaaGreatDoor
