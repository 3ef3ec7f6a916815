/- What the arguments that came in read as: the step from a row's readings to the walks' own words. -/
import Derived.Test.YtjneodmohkpckaaGreatDoorBase
import Derived.Deep.Slices
import Derived.Deep.Strs
import Derived.ChangeSame
namespace Go.Proofs.YtjneodmohkpckaaGreatDoor
open Go.ChangeShapes Go.WideShapes Go.ChangeAt Go.RowKit Go.Joins
set_option linter.unusedVariables false
set_option linter.unusedSimpArgs false
theorem Tryz.own : ownKnob Tryz.prog.godebug = none := by kernel_rfl
theorem Tryz.laidOut : laidOutB Tryz.prog = true := by kernel_rfl
theorem lt_of_cell {w : World} {b o : Nat} {v : Value} (h : w.cell? ⟨b, o, none⟩ = some v) : b < w.heap.size :=
  Nat.lt_of_not_le fun hle => by simp [World.cell?, Array.getElem?_eq_none hle] at h
theorem Ints.mk_of {w : World} {x : Addr} {n c : Nat} {zs : List Int} (hn : n ≤ c) (hz : zs.length = c) (hcell : ∀ i, i < zs.length → w.cell? (x.add i) = some (.int .i64 (zs.getD i 0))) (hw : ∀ z ∈ zs, (Lit.int .i64 z).wf = true) : Ints w (some x) n c (zs.take n) := by
  refine ⟨by simp; omega, hn, ?_, fun z hz => I64.of (hw z (List.mem_of_mem_take hz)), fun h => by cases h⟩
  by_cases h0 : n = 0
  · exact .inl h0
  · obtain ⟨b, off, spot⟩ := x
    have hc := hcell 0 (by omega)
    have hspot : spot = none := by simpa [Addr.add] using World.cell?_spot hc
    subst hspot
    refine .inr ⟨b, off, rfl, lt_of_cell hc, fun i y hy => ?_⟩
    rw [List.getElem?_take] at hy
    split at hy
    · have hi : i < zs.length := (List.getElem?_eq_some_iff.1 hy).1
      have := hcell i hi
      rw [List.getD_eq_getElem?_getD, hy] at this
      have e : (⟨b, off, none⟩ : Addr).add i = ⟨b, off + i, none⟩ := by
        by_cases h0 : i = 0 <;> simp [Addr.add, h0]
      rw [← e]; exact this
    · cases hy
section
variable {H : Type} {enc : TypeId × Value → H} {P : Program} {W : World} {base : Nat} {held : Bool}
theorem open_Ints {t e : TypeId} {a : Option Addr} {n c : Nat} {d : DataW H} {p : List MemPlace} (ht : P.underlying t = some (.slice e)) (he : P.underlying e = some (.int .i64)) (hc : P.cellsOf e = 1)
    (h : DataW.Trod enc P W base (fun _ => true) held t (.slice a n c) d p) : ∃ l, Ints W a n c l := by
  obtain ⟨fuel, hf⟩ := h
  rcases open_ints ht he hc hf with ⟨hcs, _⟩ | ⟨x, l, c', zs, hcs, _, hl, hm, hz, _, hcell, hwz⟩
  · simp [Value.cells] at hcs
    obtain ⟨rfl, rfl, rfl⟩ := hcs
    exact ⟨[], rfl, Nat.le_refl _, .inl rfl, (fun _ h => by cases h), fun _ => ⟨rfl, rfl⟩⟩
  · simp [Value.cells] at hcs
    obtain ⟨rfl, rfl, rfl⟩ := hcs
    exact ⟨_, Ints.mk_of hl (by simpa using hz) hcell hwz⟩
theorem len_le {sp : Nat → Bool} {t e : TypeId} {fuel : Nat} {a : Option Addr} {n c : Nat} {x : DataW H × List MemPlace} (ht : P.underlying t = some (.slice e)) (h : DataW.trod enc P W base sp held fuel t (.slice a n c : Value).cells.toList = some x) : n ≤ maxLen := by
  rcases Deep.open_slice ht h with ⟨hcs, _⟩ | ⟨x, len, cap, m, nn, D, Pl, hcs, _, hl, hm, _⟩
  · simp [Value.cells] at hcs; rw [hcs.2.1]; exact Nat.zero_le _
  · simp [Value.cells] at hcs; rw [hcs.2.1]; omega
theorem add_none {b off i : Nat} : (⟨b, off, none⟩ : Addr).add i = ⟨b, off + i, none⟩ := by
  by_cases h0 : i = 0 <;> simp [Addr.add, h0]
theorem open_Flats {α : Type} [Inhabited α] {k : Nat} (hk : 0 < k) {encf : α → List Value} {ok : α → Prop} {t e : TypeId} {a : Option Addr} {n c : Nat} {d : DataW H} {p : List MemPlace} (ht : P.underlying t = some (.slice e)) (hC : P.cellsOf e = k)
    (hel : ∀ m cs x, cs.length = k → DataW.trod enc P W base (fun _ => true) held m e cs = some x → ∃ y : α, cs = encf y ∧ ok y)
    (h : DataW.Trod enc P W base (fun _ => true) held t (.slice a n c) d p) : ∃ l, Flats k encf ok W a n c l := by
  obtain ⟨fuel, hf⟩ := h
  rcases Deep.open_slice ht hf with ⟨hcs, _⟩ | ⟨x, len, cap, m, nn, D, Pl, hcs, _, hl, _, hm, _, hx⟩
  · simp [Value.cells] at hcs
    obtain ⟨rfl, rfl, rfl⟩ := hcs
    exact ⟨[], rfl, Nat.le_refl _, .inl rfl, (fun _ h => by cases h), fun _ => ⟨rfl, rfl⟩⟩
  · simp [Value.cells] at hcs
    obtain ⟨rfl, rfl, rfl⟩ := hcs
    simp only [if_true] at hm
    subst hm
    have hy : ∀ i, ∃ y : α, i < n → (∀ j, j < k → W.cell? (x.add (i * k) |>.add j) = (encf y)[j]?) ∧ (encf y).length = k ∧ ok y := by
      intro i
      by_cases hi : i < n
      · obtain ⟨cs', h1, h2⟩ := hx i (by omega)
        rw [hC] at h1
        obtain ⟨_, hlen, hcell⟩ := World.cells?_some h1
        obtain ⟨y, rfl, hok⟩ := hel _ _ _ hlen h2
        exact ⟨y, fun _ => ⟨hcell, hlen, hok⟩⟩
      · exact ⟨default, fun h => absurd h hi⟩
    let Y : Nat → α := fun i => (hy i).choose
    have hY : ∀ i, i < n → (∀ j, j < k → W.cell? (x.add (i * k) |>.add j) = (encf (Y i))[j]?) ∧ (encf (Y i)).length = k ∧ ok (Y i) := fun i => (hy i).choose_spec
    clear_value Y
    refine ⟨(List.range n).map Y, by simp, hl, ?_, fun z hz => ?_, fun h => by cases h⟩
    · by_cases h0 : n = 0
      · exact .inl h0
      · obtain ⟨b, off, spot⟩ := x
        obtain ⟨h1, h2, _⟩ := hY 0 (by omega)
        have hc := h1 0 hk
        rw [List.getElem?_eq_getElem (by omega)] at hc
        have hspot : spot = none := by simpa [Addr.add] using World.cell?_spot hc
        subst hspot
        refine .inr ⟨b, off, rfl, ?_, fun i y hy j v hv => ?_⟩
        · simp only [Nat.zero_mul, add_none, Nat.add_zero] at hc
          exact lt_of_cell hc
        · have hi : i < n := by
            have := (List.getElem?_eq_some_iff.1 hy).1
            simpa using this
          rw [range_get hi] at hy
          simp only [Option.some.injEq] at hy
          subst hy
          obtain ⟨h1, h2, _⟩ := hY i hi
          have hj : j < k := by rw [← h2]; exact (List.getElem?_eq_some_iff.1 hv).1
          have := h1 j hj
          rw [add_none, add_none, hv] at this
          exact this
    · simp only [List.mem_map, List.mem_range] at hz
      obtain ⟨i, hi, rfl⟩ := hz
      exact (hY i hi).2.2
instance : Inhabited I2 := ⟨⟨0, 0⟩⟩
instance : Inhabited I3 := ⟨⟨0, 0, 0⟩⟩
instance : Inhabited I2b := ⟨⟨0, 0, false⟩⟩
theorem read_I3 {e : TypeId} {f0 f1 f2 : Field} (he : P.underlying e = some (.struct #[f0, f1, f2])) (o0 : f0.offset = 0) (o1 : f1.offset = 1) (o2 : f2.offset = 2) (c0 : P.cellsOf f0.type = 1) (c1 : P.cellsOf f1.type = 1) (c2 : P.cellsOf f2.type = 1) (t0 : P.underlying f0.type = some (.int .i64)) (t1 : P.underlying f1.type = some (.int .i64)) (t2 : P.underlying f2.type = some (.int .i64))
    (m : Nat) (cs : List Value) (x : DataW H × List MemPlace) (hl : cs.length = 3) (h : DataW.trod enc P W base (fun _ => true) held m e cs = some x) : ∃ y : I3, cs = y.enc ∧ y.ok := by
  obtain ⟨y0, y1, y2, n, _, _, h0, h1, h2⟩ := Deep.trod_struct3 he h
  match cs, hl with
  | [v0, v1, v2], _ =>
    rw [o0, c0] at h0; rw [o1, c1] at h1; rw [o2, c2] at h2
    obtain ⟨a, e0, _, w0⟩ := DataW.trod_int t0 h0
    obtain ⟨b, e1, _, w1⟩ := DataW.trod_int t1 h1
    obtain ⟨c, e2, _, w2⟩ := DataW.trod_int t2 h2
    simp at e0 e1 e2
    exact ⟨⟨a, b, c⟩, by simp [I3.enc, e0, e1, e2], I64.of w0, I64.of w1, I64.of w2⟩
theorem read_I2b {e : TypeId} {f0 f1 f2 : Field} (he : P.underlying e = some (.struct #[f0, f1, f2])) (o0 : f0.offset = 0) (o1 : f1.offset = 1) (o2 : f2.offset = 2) (c0 : P.cellsOf f0.type = 1) (c1 : P.cellsOf f1.type = 1) (c2 : P.cellsOf f2.type = 1) (t0 : P.underlying f0.type = some (.int .i64)) (t1 : P.underlying f1.type = some (.int .i64)) (t2 : P.underlying f2.type = some .bool)
    (m : Nat) (cs : List Value) (x : DataW H × List MemPlace) (hl : cs.length = 3) (h : DataW.trod enc P W base (fun _ => true) held m e cs = some x) : ∃ y : I2b, cs = y.enc ∧ y.ok := by
  obtain ⟨y0, y1, y2, n, _, _, h0, h1, h2⟩ := Deep.trod_struct3 he h
  match cs, hl with
  | [v0, v1, v2], _ =>
    rw [o0, c0] at h0; rw [o1, c1] at h1; rw [o2, c2] at h2
    obtain ⟨a, e0, _, w0⟩ := DataW.trod_int t0 h0
    obtain ⟨b, e1, _, w1⟩ := DataW.trod_int t1 h1
    obtain ⟨c, e2, _⟩ := DataW.trod_bool t2 h2
    simp at e0 e1 e2
    exact ⟨⟨a, b, c⟩, by simp [I2b.enc, e0, e1, e2], I64.of w0, I64.of w1⟩
theorem read_I2 {e : TypeId} {f0 f1 : Field} (he : P.underlying e = some (.struct #[f0, f1])) (o0 : f0.offset = 0) (o1 : f1.offset = 1) (c0 : P.cellsOf f0.type = 1) (c1 : P.cellsOf f1.type = 1) (t0 : P.underlying f0.type = some (.int .i64)) (t1 : P.underlying f1.type = some (.int .i64))
    (m : Nat) (cs : List Value) (x : DataW H × List MemPlace) (hl : cs.length = 2) (h : DataW.trod enc P W base (fun _ => true) held m e cs = some x) : ∃ y : I2, cs = y.enc ∧ y.ok := by
  obtain ⟨y0, y1, n, _, _, h0, h1⟩ := trod_struct2 he h
  match cs, hl with
  | [v0, v1], _ =>
    rw [o0, c0] at h0; rw [o1, c1] at h1
    obtain ⟨a, e0, _, w0⟩ := DataW.trod_int t0 h0
    obtain ⟨b, e1, _, w1⟩ := DataW.trod_int t1 h1
    simp at e0 e1
    exact ⟨⟨a, b⟩, by simp [I2.enc, e0, e1], I64.of w0, I64.of w1⟩
end
end Go.Proofs.YtjneodmohkpckaaGreatDoor
