/- What the search keeps from step to step. -/
import Derived.Test.YtfnamjkmkoldeaaGreatDoorQe
import Derived.Test.YtfnamjkmkoldeaaGreatDoorQf
namespace Go.Proofs.YtfnamjkmkoldeaaGreatDoor
open Go.RowKit
set_option linter.unusedVariables false
set_option linter.unusedSimpArgs false
/-- what the search returns: the found states, or that they are too many -/
def ExRet (w : World) (R : Option (List SN)) (e : Ending) (w' : World) : Prop :=
  Below w.heap.size w w' ∧ match R with
  | none => e = .returned (.tuple #[.slice none 0 0, .bool false])
  | some L => ∃ a n c l, e = .returned (.tuple #[.slice a n c, .bool true]) ∧ QOwn w' w.heap.size a n c l ∧ l.map (·.2) = L
theorem SetM.ins {w : World} {b n : Nat} {has : List UInt8 → Bool} {ops : Array Oper} {rest : List Oper} {o : Oper} {a : Act} {Q : Exit → Act → World → Prop} (h : SetM w b n has)
    (hg : o.guard = none) (m x v : Operand) (hop : o.op = Op.insert 186 m x v) (hm : a.eval m = .map (some b)) (hn : n < maxLen) (s : ByteArray) (hx : a.eval x = .string s) (hv : a.eval v = .bool true) (hs : s.size ≤ maxLen)
    (hK : ∀ w', SetM w' b (n + 1) (fun k => decide (k = s.data.toList) || has k) → w.grownBy w' (some b) → wpList Tryz.prog ops Q rest (a.put o.dst undef) w') :
    wpList Tryz.prog ops Q (o :: rest) a w := by
  obtain ⟨D, h1, h2, h3⟩ := h
  refine wpList_plain hg fun K' hK' => ?_
  obtain ⟨w', hrun, q1, q2⟩ := h1.update (Maps.string_keyed Tryz.underlying9) Tryz.underlying186 hn (WideMaps.keyOf_string_mk Tryz.underlying9 hs) (plainElem_bool Tryz.underlying4 true)
  unfold Oper.wp
  simp [execOp, hop, hm, hx, hv, hrun, Result.andThen]
  refine hK' _ _ (hK w' ⟨_, q1, h2.put _ _, fun k => ?_⟩ q2)
  by_cases e : k = s.data.toList
  · rw [e, Maps.atKey_put_same h2 (by trivial)]; simp
  · rw [Maps.atKey_put_other (fun h => e (by simpa using h)), h3]; simp [e]
theorem SetM.nc {w : World} {b n : Nat} {has : List UInt8 → Bool} (h : SetM w b n has) : ∀ (cur : Array Value) (E : TypeId), w.heap[b]? ≠ some (.cells cur E (0, 0)) := fun cur E e => by
  obtain ⟨D, ⟨es, clock, h1, _⟩, _⟩ := h
  rw [h1] at e; cases e
/-- what the search keeps: the list of found states, the set of their texts -/
structure ExInv (w wr : World) (mb : Nat) (cs : Array Value) (sz : List Int) (L : List SN) (a : Option Addr) (n c : Nat) (l : List (QM × SN)) : Prop where
  lo : w.heap.size + 1 ≤ wr.heap.size
  bl : Below w.heap.size w wr
  x : Blk wr w.heap.size cs 44
  q : QOwn wr (w.heap.size + 1) a n c l
  e : l.map (·.2) = L
  m : SetM wr mb n (hasL L)
  ml : w.heap.size + 1 ≤ mb
  sn : SNs sz L
  dp : DpB L
theorem ExInv.keep {w wr w' : World} {mb : Nat} {cs : Array Value} {sz : List Int} {L : List SN} {a : Option Addr} {n c : Nat} {l : List (QM × SN)} (h : ExInv w wr mb cs sz L a n c l) (hb : Below wr.heap.size wr w') : ExInv w w' mb cs sz L a n c l :=
  ⟨Nat.le_trans h.lo hb.size, h.bl.trans (hb.mono h.bl.size), h.x.keep hb, h.q.keep hb, h.e, h.m.keep hb, h.ml, h.sn, h.dp⟩
theorem ExInv.len {w wr : World} {mb : Nat} {cs : Array Value} {sz : List Int} {L : List SN} {a : Option Addr} {n c : Nat} {l : List (QM × SN)} (h : ExInv w wr mb cs sz L a n c l) : L.length = n := by
  rw [← h.e, List.length_map]; exact h.q.row.flats.len
theorem sv_range {sz v : List Int} (hz : ∀ z ∈ sz, z ≤ 256) (h : SV sz v) : ∀ x ∈ v, 0 ≤ x ∧ x < 256 := by
  intro x hx
  obtain ⟨k, hk⟩ := List.getElem?_of_mem hx
  have hkl : k < sz.length := by rw [← h.1]; exact (List.getElem?_eq_some_iff.1 hk).1
  have hzk : sz[k]? = some sz[k] := List.getElem?_eq_getElem hkl
  have h1 := h.2 k x _ hk hzk
  have h2 := hz _ (List.getElem_mem hkl)
  omega
theorem keyL_len (v : List Int) : (keyL v).length = v.length := by rw [keyL, List.length_map]
theorem data_keyL (v : List Int) : (ByteArray.mk (keyL v).toArray).data.toList = keyL v := by simp
theorem exInv_start {w w4 w5 : World} {mb tn g4 c1 : Nat} {a1 : Option Addr} {cs : Array Value} {sz st : List Int} (hm5 : SetM w5 mb (0 + 1) (fun k => decide (k = (ByteArray.mk (keyL st).toArray).data.toList) || (fun _ => false) k)) (hg5 : w4.grownBy w5 (some mb)) (hm : SetM w4 mb 0 (fun _ => false))
    (hq : QOwn w4 (w.heap.size + 1) (some ⟨g4, 0, none⟩) 1 1 [(⟨a1, tn, c1⟩, ⟨st, -1, 0, 0, []⟩)]) (hx : Blk w4 w.heap.size cs 44) (hb : Below w.heap.size w w4) (hmb : w.heap.size + 1 ≤ mb) (hs4 : mb + 1 ≤ w4.heap.size) (hst : SV sz st) :
    ExInv w w5 mb cs sz [⟨st, -1, 0, 0, []⟩] (some ⟨g4, 0, none⟩) 1 1 [(⟨a1, tn, c1⟩, ⟨st, -1, 0, 0, []⟩)] := by
  refine ⟨by have := hg5.size; omega, hb.grown hg5 hb.size (fun k e => by cases e; omega), hx.keepG hg5 (fun e => by cases e; omega), hq.keepG hg5 hm.nc, rfl, hm5.congr fun k => ?_, hmb, SNs.start hst, fun j y hy => ?_⟩
  · rw [data_keyL, Bool.or_false, hasL, List.any_cons, List.any_nil, Bool.or_false, Bool.eq_iff_iff, beq_iff_eq, decide_eq_true_iff]; exact eq_comm
  · cases j with
    | zero => simp at hy; subst hy; exact ⟨Int.le_refl _, Int.le_refl _⟩
    | succ j => simp at hy
/-- one more state is found -/
theorem ExInv.app {w w8 w9 w10 : World} {mb : Nat} {cs : Array Value} {sz : List Int} {L : List SN} {a : Option Addr} {n c g c' i q : Nat} {l : List (QM × SN)} {R : QM} {v : List Int} {x : SN} (h : ExInv w w8 mb cs sz L a n c l)
    (hm : SetM w9 mb (n + 1) (fun k => decide (k = keyL v) || hasL L k)) (hg : w8.grownBy w9 (some mb)) (hq : QOwn w10 (w.heap.size + 1) (some ⟨g, 0, none⟩) (n + 1) c' (l ++ [(R, ⟨v, i, q, x.dp + 1, x.tr ++ [(q : Int)]⟩)])) (ht : Touch w9 w10 1 a) (hb : Below (w.heap.size + 1) w9 w10)
    (hx : L[i]? = some x) (hv : SV sz v) (hn : L.any (fun y => y.v == v) = false) : ExInv w w10 mb cs sz (addN i x L (q, v)) (some ⟨g, 0, none⟩) (n + 1) c' (l ++ [(R, ⟨v, i, q, x.dp + 1, x.tr ++ [(q : Int)]⟩)]) := by
  have hq9 := h.q.keepG hg h.m.nc
  have hml := h.ml
  have hlo := h.lo
  refine ⟨by have := hg.size; have := hb.size; omega, (h.bl.grown hg h.bl.size (fun k e => by cases e; omega)).trans (hb.mono (by omega)), (h.x.keepG hg (fun e => by cases e; omega)).keepA ht (fun e => by have := (hq9.row.blk _ e).1; omega), hq, ?_, ?_, hml, h.sn.add hx hv, h.dp.add hx _⟩
  · rw [List.map_append, h.e, addN_new hn]; rfl
  · obtain ⟨r, hgr, hr⟩ := ht
    refine (hm.keepG hgr fun e => ?_).congr fun k => ?_
    · obtain ⟨_, ha⟩ := hr _ e
      obtain ⟨cur, h1⟩ := hq9.row.typ ha
      exact hm.nc _ _ h1
    · rw [addN_new hn, hasL_app]
end Go.Proofs.YtfnamjkmkoldeaaGreatDoor
