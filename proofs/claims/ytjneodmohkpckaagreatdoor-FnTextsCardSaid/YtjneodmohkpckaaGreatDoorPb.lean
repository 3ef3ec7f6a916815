/- Rows of bytes of the call's own: append of a byte and of a string, and the string of a row. -/
import Derived.Test.YtjneodmohkpckaaGreatDoorT12u
import Derived.Test.YtjneodmohkpckaaGreatDoorAp
import Derived.Test.YtjneodmohkpckaaGreatDoorDa
import Derived.Lib.AppendStr
namespace Go.Proofs.YtjneodmohkpckaaGreatDoor
open Go.RowKit
set_option linter.unusedVariables false
set_option linter.unusedSimpArgs false
def encB (b : UInt8) : List Value := [.int .u8 b.toNat]
abbrev OwnBt := OwnF 1 encB (fun _ => True) 5
theorem encB_str (s : ByteArray) : s.data.toList.flatMap encB = Lib.strCells s := by
  rw [Lib.strCells]
  induction s.data.toList with
  | nil => rfl
  | cons c r ih => rw [List.flatMap_cons, ih, List.map_cons]; rfl
theorem encB_len (l : List UInt8) : (l.flatMap encB).length = l.length := by
  induction l with
  | nil => rfl
  | cons c r ih => rw [List.flatMap_cons, List.length_append, ih, List.length_cons, encB]; simp; omega
theorem appendS_B {w : World} {ops : Array Oper} {rest : List Oper} {o : Oper} {act : Act} {Q : Exit → Act → World → Prop} (hgd : o.guard = none) (s x : Operand) (t u : TypeId)
    (ho : o.op = .call { callee := .builtin .append, args := #[s, x], argTypes := #[t, u] }) (ht : Tryz.prog.underlying t = some (.slice 5)) (hu : Tryz.prog.underlying u = some .string) (hinfo : (Tryz.prog.info? 5).map (fun i => (i.zero, i.size, i.bytes)) = some (some (.int .u8 0), 1, 1))
    (base : Nat) (a : Option Addr) (n c : Nat) (l : List UInt8) (hown : OwnBt w base a n c l) (hs : act.eval s = .slice a n c) (str : ByteArray) (hx : act.eval x = .string str)
    (hn : n ≤ 4194304) (hm : str.size ≤ 4194304) (hbase : base ≤ w.heap.size)
    (K : ∀ a' c' w', OwnBt w' base a' (n + str.size) c' (l ++ str.data.toList) → Below base w w' → w.grownBy w' (Value.slice a n c).ownBlock → wpList Tryz.prog ops Q rest (act.put o.dst (.slice a' (n + str.size) c')) w') : wpList Tryz.prog ops Q (o :: rest) act w := by
  obtain ⟨i, hi, hz0, hz1, hz2⟩ := info_parts hinfo
  obtain ⟨hown1, hok, hlen, henc⟩ := hown
  refine Lib.wpList_append_own_string w hgd s x t u ho base 5 i ht hu hi hz0 hz1 hz2 (.slice a n c) n _ hs hown1 str hx (by unfold maxLen; omega) (by omega) hbase ?_
  intro v' w' hown' hg _
  have hb : Below base w w' := (Below.refl _ _).grown hg hbase fun q hq => (hown1.lt q hq).1
  have hform := Joins.ownsRow_forms hown'
  have hmap : l.flatMap encB ++ Lib.strCells str = (l ++ str.data.toList).flatMap encB := by rw [List.flatMap_append, encB_str]
  have hll : (l ++ str.data.toList).length = n + str.size := by rw [List.length_append, hlen, str_len]
  rw [hmap] at hown'
  rcases hform with ⟨hv, h0⟩ | ⟨g, cap, hv⟩
  · rw [hv] at hown' ⊢
    have h2 := K none 0 w' (by rw [h0] at hown' hll ⊢; exact ⟨hown', fun _ _ => trivial, hll, henc⟩) hb hg
    rw [h0] at h2; exact h2
  · rw [hv] at hown' ⊢
    exact K _ _ _ ⟨hown', fun _ _ => trivial, hll, henc⟩ hb hg
theorem Tryz.infoU8 : (Tryz.prog.info? 5).map (fun i => (i.zero, i.size, i.bytes)) = some (some (.int .u8 0), 1, 1) := by kernel_rfl
theorem nums_str (l : List UInt8) : strOfNums (l.map fun b => (b.toNat : Int)) = ⟨l.toArray⟩ := by
  rw [strOfNums]
  congr 1
  simp only [List.map_map]
  have e : ((fun n : Int => UInt8.ofNat n.toNat) ∘ fun b : UInt8 => (b.toNat : Int)) = id := by funext b; simp
  rw [e, List.map_id]
theorem OwnBt.string {w : World} {base : Nat} {a : Option Addr} {n c : Nat} {l : List UInt8} (h : OwnBt w base a n c l) : (convert 22 9 (.slice a n c)).run Tryz.prog w = .ok (.string ⟨l.toArray⟩) w := by
  have hf := h.flats
  have hl := h.2.2.1
  rcases Joins.ownsRow_forms h.1 with ⟨hv, h0⟩ | ⟨g, cap, hv⟩
  · simp only [Value.slice.injEq] at hv
    obtain ⟨rfl, rfl, rfl⟩ := hv
    have : l = [] := List.length_eq_zero_iff.1 hl
    subst this
    exact run_convert_bytes_nil (P := Tryz.prog) w 22 5 Tryz.underlying22 Tryz.underlying5 0 0 9 Tryz.underlying9
  · simp only [Value.slice.injEq] at hv
    obtain ⟨rfl, _, rfl⟩ := hv
    rw [← nums_str]
    refine run_convert_bytes_arg (P := Tryz.prog) w 22 5 Tryz.underlying22 Tryz.underlying5 g 0 n c _ (by rw [List.length_map, hl]) ?_ 9 Tryz.underlying9
    intro i hi
    obtain ⟨b, off, x, h1, h2, h3, _, h5⟩ := hf.at hi
    simp only [Option.some.injEq, Addr.mk.injEq, and_true] at h1
    obtain ⟨rfl, rfl⟩ := h1
    have h6 := h5 0 (.int .u8 x.toNat) rfl
    simp only [Nat.mul_one, Nat.add_zero] at h6
    rw [h6, List.getD_eq_getElem?_getD, List.getElem?_map, h3]
    rfl
theorem encB_1 : ∀ x, (encB x).length = 1 := fun _ => rfl
theorem encB_one : ∀ y : UInt8, ∀ u ∈ encB y, u.oneCell' = true := fun y u h => by simp [encB] at h; subst h; rfl
theorem lit_B (w : World) (d : UInt8) : Flats 1 encB (fun _ => True) (w.alloc (.cells #[.int .u8 d.toNat] 5)) (some ⟨w.heap.size, 0, none⟩) 1 1 [d] :=
  lit_flats w 5 [d] #[.int .u8 d.toNat] encB_1 (by decide) rfl (fun _ _ => trivial)
theorem appB1 {w w0 : World} {ops : Array Oper} {rest : List Oper} {o : Oper} {act : Act} {Q : Exit → Act → World → Prop} {z : Int} (d : UInt8) (hgd : o.guard = none) (s x : Operand)
    (ho : o.op = .call { callee := .builtin .append, args := #[s, x], argTypes := #[22, 22] })
    (a : Option Addr) (n c : Nat) (l : List UInt8) (hown : OwnBt w w0.heap.size a n c l) (hs : act.eval s = .slice a n c) (gx : Nat) (hx : act.eval x = .slice (some ⟨gx, 0, none⟩) 1 1) (hg : gx = w.heap.size) (hz : z = (d.toNat : Int))
    (hn : n ≤ 4194303) (hbase : Below w0.heap.size w0 w)
    (K : ∀ a' c' w', OwnBt w' w0.heap.size a' (n + 1) c' (l ++ [d]) → Below w0.heap.size w0 w' → wpList Tryz.prog ops Q rest (act.put o.dst (.slice a' (n + 1) c')) w') : wpList Tryz.prog ops Q (o :: rest) act (w.alloc (.cells #[.int .u8 z] 5)) := by
  subst hg hz
  have hb0 : Below w.heap.size w (w.alloc (.cells #[.int .u8 (d.toNat : Int)] 5)) := (Below.refl _ _).alloc (Nat.le_refl _) _
  refine appendL_F hgd s x 22 5 ho Tryz.underlying22 Tryz.infoU8 rfl (by decide) (by decide) encB_one w0.heap.size a n c l (hown.keep hb0) hs _ _ _ [d] hx (lit_B w d) (by omega) (by decide) (by have := hbase.size; simp; omega) ?_
  intro a' c' w' h1 h2 _ _
  exact K a' c' w' h1 ((hbase.trans (hb0.mono hbase.size)).trans h2)
theorem appSt {w w0 : World} {ops : Array Oper} {rest : List Oper} {o : Oper} {act : Act} {Q : Exit → Act → World → Prop} (hgd : o.guard = none) (s x : Operand)
    (ho : o.op = .call { callee := .builtin .append, args := #[s, x], argTypes := #[22, 9] })
    (a : Option Addr) (n c : Nat) (l : List UInt8) (hown : OwnBt w w0.heap.size a n c l) (hs : act.eval s = .slice a n c) (str : ByteArray) (hx : act.eval x = .string str)
    (hn : n ≤ 4194304) (hm : str.size ≤ 4194304) (hbase : Below w0.heap.size w0 w)
    (K : ∀ a' c' w', OwnBt w' w0.heap.size a' (n + str.size) c' (l ++ str.data.toList) → Below w0.heap.size w0 w' → wpList Tryz.prog ops Q rest (act.put o.dst (.slice a' (n + str.size) c')) w') : wpList Tryz.prog ops Q (o :: rest) act w := by
  refine appendS_B hgd s x 22 9 ho Tryz.underlying22 Tryz.underlying9 Tryz.infoU8 w0.heap.size a n c l hown hs str hx hn hm hbase.size ?_
  intro a' c' w' h1 h2 _
  exact K a' c' w' h1 (hbase.trans h2)
end Go.Proofs.YtjneodmohkpckaaGreatDoor
