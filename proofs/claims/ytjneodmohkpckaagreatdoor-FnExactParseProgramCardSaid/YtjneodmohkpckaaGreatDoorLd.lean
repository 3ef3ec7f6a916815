/- What the listed package-level variables hold, cell by cell. -/
import Derived.Test.YtjneodmohkpckaaGreatDoorBase
import Derived.Lib.LaidTab
import Derived.Deep.Strs
import Derived.Lib.SmallJoins
namespace Go.Proofs.YtjneodmohkpckaaGreatDoor
open Go.RowKit Go.ChangeShapes Go.Joins
set_option linter.unusedVariables false
set_option linter.unusedSimpArgs false
/-- block g holds these cells -/
def Tab (w : World) (g : Nat) (cs : List Value) : Prop := g < w.heap.size ∧ ∀ i v, cs[i]? = some v → w.cell? ⟨g, i, none⟩ = some v
theorem Tab.keep {w w' : World} {g : Nat} {cs : List Value} (h : Tab w g cs) (hb : Below w.heap.size w w') : Tab w' g cs :=
  ⟨Nat.lt_of_lt_of_le h.1 hb.size, fun i v hv => (hb.cell (p := ⟨g, i, none⟩) h.1).trans (h.2 i v hv)⟩
theorem Tab.of_var {P : Program} {w : World} {n : String} {g : Nat} {cs : Array Value} (hg : P.globalNamed n = some g) (h : w.var? P n = some cs) : Tab w g cs.toList := by
  refine ⟨?_, fun i v hv => ?_⟩
  · unfold World.var? at h
    rw [hg] at h
    simp only [Option.bind_some] at h
    exact Nat.lt_of_not_le fun hle => by rw [Array.getElem?_eq_none hle] at h; cases h
  · rw [World.var?_cell hg h i]; simpa using hv
theorem laidVars_mem {P : Program} {w : World} : ∀ {l : List (String × DataW Unit)} {ps : List MemPlace}, DataW.LaidVars P w l ps → ∀ {n : String} {d : DataW Unit}, (n, d) ∈ l →
    ∃ g t cs fuel p, P.globalNamed n = some g ∧ (P.globals[g]?).map (·.type) = some t ∧ w.var? P n = some cs ∧ DataW.trod (fun _ => ()) P w 0 (fun _ => true) false fuel t cs.toList = some (d, p)
  | (n', d') :: r, ps, h, n, d, hm => by
    obtain ⟨g, t, cs, fuel, p, q, h1, h2, h3, h4, h5, _⟩ := h
    rcases List.mem_cons.1 hm with e | hm
    · cases e; exact ⟨g, t, cs, fuel, p, h1, h2, h3, h4⟩
    · exact laidVars_mem h5 hm
  | [], _, _, _, _, hm => by cases hm
theorem chunks_eq {α β : Type} {f : α → List β} {k : Nat} : ∀ {zs : List α} {cs : List β}, cs.length = zs.length * k → (∀ i z, zs[i]? = some z → (cs.drop (i * k)).take k = f z) → cs = zs.flatMap f
  | [], cs, hl, _ => by
    simp at hl; simp [hl]
  | z :: zs, cs, hl, h => by
    have h0 := h 0 z rfl
    simp only [Nat.zero_mul, List.drop_zero] at h0
    have h1 : cs.drop k = zs.flatMap f := chunks_eq (k := k) (by simp [List.length_drop, hl, Nat.succ_mul]) fun i y hy => by
      have := h (i + 1) y (by simpa using hy)
      rw [List.drop_drop, show k + i * k = (i + 1) * k from by rw [Nat.succ_mul, Nat.add_comm]]
      exact this
    rw [List.flatMap_cons, ← h0, ← h1, List.take_append_drop]
section
variable {H : Type} {enc : TypeId × Value → H} {P : Program} {w : World} {base : Nat} {sp : Nat → Bool} {held : Bool}
theorem cells_of_arr {α : Type} {encf : α → List Value} {encd : α → DataW H} {fuel : Nat} {t e : TypeId} {n k : Nat} {cs : List Value} {zs : List α} {p : List MemPlace}
    (ht : P.underlying t = some (.array n e)) (hce : P.cellsOf e = k) (hct : P.cellsOf t = n * k)
    (hel : ∀ m cs z p, cs.length = k → DataW.trod enc P w base sp held m e cs = some (encd z, p) → cs = encf z)
    (h : DataW.trod enc P w base sp held fuel t cs = some (.agg (zs.map encd), p)) : cs = zs.flatMap encf := by
  cases fuel with
  | zero => simp [DataW.trod] at h
  | succ fuel =>
    simp only [DataW.trod, ht, hce, hct] at h
    split at h
    · rename_i hl
      obtain ⟨xs, hm, hx⟩ := Option.map_eq_some_iff.1 h
      have hxs : xs.map (·.1) = zs.map encd := by
        have := congrArg Prod.fst hx
        simpa using this
      have hxl : xs.length = n := by simpa using Lib.mapM_length hm
      have hzl : zs.length = n := by
        have := congrArg List.length hxs
        simp at this
        omega
      refine chunks_eq (k := k) (by rw [hl, hzl]) fun i z hz => ?_
      have hi : i < n := by rw [← hzl]; exact (List.getElem?_eq_some_iff.1 hz).1
      obtain ⟨b, hb, hf⟩ := Lib.mapM_at hm i i (by simp [hi])
      have h2 : (xs.map (·.1))[i]? = some (encd z) := by rw [hxs, List.getElem?_map, hz]; rfl
      rw [List.getElem?_map, hb] at h2
      simp only [Option.map_some, Option.some.injEq] at h2
      obtain ⟨b1, b2⟩ := b
      subst h2
      refine hel _ _ z _ ?_ hf
      have : i * k + k ≤ n * k := by rw [← Nat.succ_mul]; exact Nat.mul_le_mul_right _ hi
      simp [List.length_take, List.length_drop, hl]; omega
    · cases h
theorem str_cell {m : Nat} {e : TypeId} {cs : List Value} {z : List UInt8} {p : List MemPlace} (he : P.underlying e = some .string) (hl : cs.length = 1)
    (h : DataW.trod enc P w base sp held m e cs = some (.lit (.string z), p)) : cs = [.string ⟨z.toArray⟩] := by
  cases m with
  | zero => simp [DataW.trod] at h
  | succ m =>
    match cs, hl with
    | [v], _ =>
      cases v with
      | string s =>
        simp only [DataW.trod, he] at h
        split at h
        · simp only [Option.some.injEq, Prod.mk.injEq, DataW.lit.injEq, Lit.string.injEq] at h
          obtain ⟨rfl, _⟩ := h
          rfl
        · cases h
      | _ => simp [DataW.trod, he] at h
/-- a value that is a part of a struct and whose type is a slice type -/
theorem slice_part {m : Nat} {t e : TypeId} {v : Value} {y : DataW H × List MemPlace} (ht : P.underlying t = some (.slice e)) (h : DataW.trod enc P w base sp held m t [v] = some y) :
    ∃ a n c, v = .slice a n c ∧ DataW.Trod enc P w base sp held t (.slice a n c) y.1 y.2 := by
  rcases Deep.open_slice ht h with ⟨hcs, _⟩ | ⟨x, len, cap, m, nn, D, Pl, hcs, _⟩
  · simp only [List.cons.injEq, and_true] at hcs
    exact ⟨_, _, _, hcs, _, by rw [hcs] at h; exact h⟩
  · simp only [List.cons.injEq, and_true] at hcs
    exact ⟨_, _, _, hcs, _, by rw [hcs] at h; exact h⟩
end
theorem trodVars_len {H : Type} {enc : TypeId × Value → H} {P : Program} {w : World} {sp : Nat → Bool} : ∀ {ns : List String} {gs : List (DataW H)} {ps : List MemPlace}, DataW.TrodVars enc P w sp ns gs ps → gs.length = ns.length
  | [], [], _, _ => rfl
  | [], _ :: _, _, h => h.elim
  | _ :: _, [], _, h => h.elim
  | n :: ns, d :: ds, ps, h => by
    obtain ⟨g, t, cs, fuel, p, q, h1, h2, h3, h4, hs, e⟩ := h
    have := trodVars_len hs
    simp [this]
/-- lays cells in a block -/
def lay (cs : List Value) : Obj → Obj
  | .cells _ t frozen => .cells cs.toArray t frozen
  | o => o
/-- a row of the table of commands -/
structure CRow where
  from' : Int
  to' : Int
  role : Int
  key : Bool
def CRow.enc (x : CRow) : List Value := [.int .i64 x.from', .int .i64 x.to', .int .i64 x.role, .bool x.key]
def CRow.encd {H : Type} (x : CRow) : DataW H := .agg [.lit (.int .i64 x.from'), .lit (.int .i64 x.to'), .lit (.int .i64 x.role), .lit (.bool x.key)]
theorem int_cell {H : Type} {enc : TypeId × Value → H} {P : Program} {w : World} {base : Nat} {sp : Nat → Bool} {held : Bool} {m : Nat} {e : TypeId} {cs : List Value} {z : Int} {p : List MemPlace} (he : P.underlying e = some (.int .i64))
    (h : DataW.trod enc P w base sp held m e cs = some (.lit (.int .i64 z), p)) : cs = [.int .i64 z] := by
  obtain ⟨a, e0, d0, w0⟩ := DataW.trod_int he h
  simp at d0
  rw [e0, d0.1]
theorem bool_cell {H : Type} {enc : TypeId × Value → H} {P : Program} {w : World} {base : Nat} {sp : Nat → Bool} {held : Bool} {m : Nat} {e : TypeId} {cs : List Value} {z : Bool} {p : List MemPlace} (he : P.underlying e = some .bool)
    (h : DataW.trod enc P w base sp held m e cs = some (.lit (.bool z), p)) : cs = [.bool z] := by
  obtain ⟨a, e0, d0⟩ := DataW.trod_bool he h
  simp at d0
  rw [e0, d0.1]
theorem crow_cells {H : Type} {enc : TypeId × Value → H} {P : Program} {w : World} {base : Nat} {sp : Nat → Bool} {held : Bool} {m : Nat} {e : TypeId} {f0 f1 f2 f3 : Field} {cs : List Value} {z : CRow} {p : List MemPlace} (he : P.underlying e = some (.struct #[f0, f1, f2, f3]))
    (o0 : f0.offset = 0) (o1 : f1.offset = 1) (o2 : f2.offset = 2) (o3 : f3.offset = 3) (c0 : P.cellsOf f0.type = 1) (c1 : P.cellsOf f1.type = 1) (c2 : P.cellsOf f2.type = 1) (c3 : P.cellsOf f3.type = 1)
    (t0 : P.underlying f0.type = some (.int .i64)) (t1 : P.underlying f1.type = some (.int .i64)) (t2 : P.underlying f2.type = some (.int .i64)) (t3 : P.underlying f3.type = some .bool) (hl : cs.length = 4)
    (h : DataW.trod enc P w base sp held m e cs = some (z.encd, p)) : cs = z.enc := by
  obtain ⟨y0, y1, y2, y3, n, hx, _, h0, h1, h2, h3⟩ := Joins.trod_struct4 he h
  simp only [CRow.encd, Prod.mk.injEq, DataW.agg.injEq, List.cons.injEq, and_true] at hx
  obtain ⟨⟨e0, e1, e2, e3⟩, _⟩ := hx
  obtain ⟨y0, q0⟩ := y0; obtain ⟨y1, q1⟩ := y1; obtain ⟨y2, q2⟩ := y2; obtain ⟨y3, q3⟩ := y3
  simp only at e0 e1 e2 e3
  subst e0 e1 e2 e3
  match cs, hl with
  | [v0, v1, v2, v3], _ =>
    rw [o0, c0] at h0; rw [o1, c1] at h1; rw [o2, c2] at h2; rw [o3, c3] at h3
    have k0 := int_cell t0 h0
    have k1 := int_cell t1 h1
    have k2 := int_cell t2 h2
    have k3 := bool_cell t3 h3
    simp at k0 k1 k2 k3
    simp [CRow.enc, k0, k1, k2, k3]
def strsCells (l : List (List UInt8)) : List Value := l.flatMap fun z => [.string ⟨z.toArray⟩]
def modeNm : List (List UInt8) := [[111, 102, 102], [109, 97, 105, 110, 116, 101, 110, 97, 110, 99, 101], [114, 101, 97, 100, 121], [114, 117, 110, 110, 105, 110, 103], [115, 116, 111, 112, 112, 101, 100], [101, 118, 97, 99, 117, 97, 116, 105, 111, 110]]
def cmdRows : List CRow := [⟨1, 2, 1, true⟩, ⟨4, 3, 1, false⟩, ⟨8, 2, 1, false⟩, ⟨62, 4, 0, false⟩, ⟨16, 2, 2, true⟩, ⟨16, 5, 3, false⟩, ⟨32, 4, 3, false⟩, ⟨5, 1, 2, true⟩, ⟨2, 2, 2, true⟩, ⟨4, 0, 1, false⟩]
end Go.Proofs.YtjneodmohkpckaaGreatDoor
