/- What the arguments that came in read as: the step from a row's readings to the walks' own words.; What the listed package-level variables hold, cell by cell.; Rules and models of the exact laws: sizes.; Models: variables, states and tests, walked.; Models: states and tests, walked.; Models: tests, walked.; Models: tests of the reference, walked. -/
import Derived.Test.YtkaikbaagajckaaGreatBase
import Derived.Deep.Slices
import Derived.Deep.Strs
import Derived.ChangeSame
import Derived.Lib.LaidTab
import Derived.Lib.SmallJoins
import Derived.Test.YtkaikbaagajckaaGreatN01
namespace Go.Proofs.YtkaikbaagajckaaGreat
open Go.ChangeShapes Go.WideShapes Go.ChangeAt Go.RowKit Go.Joins
set_option linter.unusedVariables false
set_option linter.unusedSimpArgs false
theorem Tryz.own : ownKnob Tryz.prog.godebug = none := by kernel_rfl
theorem Tryz.laidOut : laidOutB Tryz.prog = true := by kernel_rfl
theorem lt_of_cell {w : World} {b o : Nat} {v : Value} (h : w.cell? ⟨b, o, none⟩ = some v) : b < w.heap.size :=
  Nat.lt_of_not_le fun hle => by simp [World.cell?, Array.getElem?_eq_none hle] at h
theorem Ints.mk_of {w : World} {x : Addr} {n c : Nat} {zs : List Int} (hn : n ≤ c) (hz : zs.length = c) (hcell : ∀ i, i < zs.length → w.cell? (x.add i) = some (.int .i64 (zs.getD i 0))) (hw : ∀ z ∈ zs, (Lit.int .i64 z).wf = true) : Ints w (some x) n c (zs.take n) := by
  refine ⟨by simp; omega, hn, ?_, fun z hz => I64.of (hw z (List.mem_of_mem_take hz)), fun h => by cases h⟩
  by_cases h0 : n = 0
  · exact .inl h0
  · obtain ⟨b, off, spot⟩ := x
    have hc := hcell 0 (by omega)
    have hspot : spot = none := by simpa [Addr.add] using World.cell?_spot hc
    subst hspot
    refine .inr ⟨b, off, rfl, lt_of_cell hc, fun i y hy => ?_⟩
    rw [List.getElem?_take] at hy
    split at hy
    · have hi : i < zs.length := (List.getElem?_eq_some_iff.1 hy).1
      have := hcell i hi
      rw [List.getD_eq_getElem?_getD, hy] at this
      have e : (⟨b, off, none⟩ : Addr).add i = ⟨b, off + i, none⟩ := by
        by_cases h0 : i = 0 <;> simp [Addr.add, h0]
      rw [← e]; exact this
    · cases hy
section
variable {H : Type} {enc : TypeId × Value → H} {P : Program} {W : World} {base : Nat} {held : Bool}
theorem open_Ints {t e : TypeId} {a : Option Addr} {n c : Nat} {d : DataW H} {p : List MemPlace} (ht : P.underlying t = some (.slice e)) (he : P.underlying e = some (.int .i64)) (hc : P.cellsOf e = 1)
    (h : DataW.Trod enc P W base (fun _ => true) held t (.slice a n c) d p) : ∃ l, Ints W a n c l := by
  obtain ⟨fuel, hf⟩ := h
  rcases open_ints ht he hc hf with ⟨hcs, _⟩ | ⟨x, l, c', zs, hcs, _, hl, hm, hz, _, hcell, hwz⟩
  · simp [Value.cells] at hcs
    obtain ⟨rfl, rfl, rfl⟩ := hcs
    exact ⟨[], rfl, Nat.le_refl _, .inl rfl, (fun _ h => by cases h), fun _ => ⟨rfl, rfl⟩⟩
  · simp [Value.cells] at hcs
    obtain ⟨rfl, rfl, rfl⟩ := hcs
    exact ⟨_, Ints.mk_of hl (by simpa using hz) hcell hwz⟩
theorem len_le {sp : Nat → Bool} {t e : TypeId} {fuel : Nat} {a : Option Addr} {n c : Nat} {x : DataW H × List MemPlace} (ht : P.underlying t = some (.slice e)) (h : DataW.trod enc P W base sp held fuel t (.slice a n c : Value).cells.toList = some x) : n ≤ maxLen := by
  rcases Deep.open_slice ht h with ⟨hcs, _⟩ | ⟨x, len, cap, m, nn, D, Pl, hcs, _, hl, hm, _⟩
  · simp [Value.cells] at hcs; rw [hcs.2.1]; exact Nat.zero_le _
  · simp [Value.cells] at hcs; rw [hcs.2.1]; omega
theorem add_none {b off i : Nat} : (⟨b, off, none⟩ : Addr).add i = ⟨b, off + i, none⟩ := by
  by_cases h0 : i = 0 <;> simp [Addr.add, h0]
theorem open_Flats {α : Type} [Inhabited α] {k : Nat} (hk : 0 < k) {encf : α → List Value} {ok : α → Prop} {t e : TypeId} {a : Option Addr} {n c : Nat} {d : DataW H} {p : List MemPlace} (ht : P.underlying t = some (.slice e)) (hC : P.cellsOf e = k)
    (hel : ∀ m cs x, cs.length = k → DataW.trod enc P W base (fun _ => true) held m e cs = some x → ∃ y : α, cs = encf y ∧ ok y)
    (h : DataW.Trod enc P W base (fun _ => true) held t (.slice a n c) d p) : ∃ l, Flats k encf ok W a n c l := by
  obtain ⟨fuel, hf⟩ := h
  rcases Deep.open_slice ht hf with ⟨hcs, _⟩ | ⟨x, len, cap, m, nn, D, Pl, hcs, _, hl, _, hm, _, hx⟩
  · simp [Value.cells] at hcs
    obtain ⟨rfl, rfl, rfl⟩ := hcs
    exact ⟨[], rfl, Nat.le_refl _, .inl rfl, (fun _ h => by cases h), fun _ => ⟨rfl, rfl⟩⟩
  · simp [Value.cells] at hcs
    obtain ⟨rfl, rfl, rfl⟩ := hcs
    simp only [if_true] at hm
    subst hm
    have hy : ∀ i, ∃ y : α, i < n → (∀ j, j < k → W.cell? (x.add (i * k) |>.add j) = (encf y)[j]?) ∧ (encf y).length = k ∧ ok y := by
      intro i
      by_cases hi : i < n
      · obtain ⟨cs', h1, h2⟩ := hx i (by omega)
        rw [hC] at h1
        obtain ⟨_, hlen, hcell⟩ := World.cells?_some h1
        obtain ⟨y, rfl, hok⟩ := hel _ _ _ hlen h2
        exact ⟨y, fun _ => ⟨hcell, hlen, hok⟩⟩
      · exact ⟨default, fun h => absurd h hi⟩
    let Y : Nat → α := fun i => (hy i).choose
    have hY : ∀ i, i < n → (∀ j, j < k → W.cell? (x.add (i * k) |>.add j) = (encf (Y i))[j]?) ∧ (encf (Y i)).length = k ∧ ok (Y i) := fun i => (hy i).choose_spec
    clear_value Y
    refine ⟨(List.range n).map Y, by simp, hl, ?_, fun z hz => ?_, fun h => by cases h⟩
    · by_cases h0 : n = 0
      · exact .inl h0
      · obtain ⟨b, off, spot⟩ := x
        obtain ⟨h1, h2, _⟩ := hY 0 (by omega)
        have hc := h1 0 hk
        rw [List.getElem?_eq_getElem (by omega)] at hc
        have hspot : spot = none := by simpa [Addr.add] using World.cell?_spot hc
        subst hspot
        refine .inr ⟨b, off, rfl, ?_, fun i y hy j v hv => ?_⟩
        · simp only [Nat.zero_mul, add_none, Nat.add_zero] at hc
          exact lt_of_cell hc
        · have hi : i < n := by
            have := (List.getElem?_eq_some_iff.1 hy).1
            simpa using this
          rw [range_get hi] at hy
          simp only [Option.some.injEq] at hy
          subst hy
          obtain ⟨h1, h2, _⟩ := hY i hi
          have hj : j < k := by rw [← h2]; exact (List.getElem?_eq_some_iff.1 hv).1
          have := h1 j hj
          rw [add_none, add_none, hv] at this
          exact this
    · simp only [List.mem_map, List.mem_range] at hz
      obtain ⟨i, hi, rfl⟩ := hz
      exact (hY i hi).2.2
instance : Inhabited I2 := ⟨⟨0, 0⟩⟩
instance : Inhabited I3 := ⟨⟨0, 0, 0⟩⟩
instance : Inhabited I2b := ⟨⟨0, 0, false⟩⟩
theorem read_I3 {e : TypeId} {f0 f1 f2 : Field} (he : P.underlying e = some (.struct #[f0, f1, f2])) (o0 : f0.offset = 0) (o1 : f1.offset = 1) (o2 : f2.offset = 2) (c0 : P.cellsOf f0.type = 1) (c1 : P.cellsOf f1.type = 1) (c2 : P.cellsOf f2.type = 1) (t0 : P.underlying f0.type = some (.int .i64)) (t1 : P.underlying f1.type = some (.int .i64)) (t2 : P.underlying f2.type = some (.int .i64))
    (m : Nat) (cs : List Value) (x : DataW H × List MemPlace) (hl : cs.length = 3) (h : DataW.trod enc P W base (fun _ => true) held m e cs = some x) : ∃ y : I3, cs = y.enc ∧ y.ok := by
  obtain ⟨y0, y1, y2, n, _, _, h0, h1, h2⟩ := Deep.trod_struct3 he h
  match cs, hl with
  | [v0, v1, v2], _ =>
    rw [o0, c0] at h0; rw [o1, c1] at h1; rw [o2, c2] at h2
    obtain ⟨a, e0, _, w0⟩ := DataW.trod_int t0 h0
    obtain ⟨b, e1, _, w1⟩ := DataW.trod_int t1 h1
    obtain ⟨c, e2, _, w2⟩ := DataW.trod_int t2 h2
    simp at e0 e1 e2
    exact ⟨⟨a, b, c⟩, by simp [I3.enc, e0, e1, e2], I64.of w0, I64.of w1, I64.of w2⟩
theorem read_I2b {e : TypeId} {f0 f1 f2 : Field} (he : P.underlying e = some (.struct #[f0, f1, f2])) (o0 : f0.offset = 0) (o1 : f1.offset = 1) (o2 : f2.offset = 2) (c0 : P.cellsOf f0.type = 1) (c1 : P.cellsOf f1.type = 1) (c2 : P.cellsOf f2.type = 1) (t0 : P.underlying f0.type = some (.int .i64)) (t1 : P.underlying f1.type = some (.int .i64)) (t2 : P.underlying f2.type = some .bool)
    (m : Nat) (cs : List Value) (x : DataW H × List MemPlace) (hl : cs.length = 3) (h : DataW.trod enc P W base (fun _ => true) held m e cs = some x) : ∃ y : I2b, cs = y.enc ∧ y.ok := by
  obtain ⟨y0, y1, y2, n, _, _, h0, h1, h2⟩ := Deep.trod_struct3 he h
  match cs, hl with
  | [v0, v1, v2], _ =>
    rw [o0, c0] at h0; rw [o1, c1] at h1; rw [o2, c2] at h2
    obtain ⟨a, e0, _, w0⟩ := DataW.trod_int t0 h0
    obtain ⟨b, e1, _, w1⟩ := DataW.trod_int t1 h1
    obtain ⟨c, e2, _⟩ := DataW.trod_bool t2 h2
    simp at e0 e1 e2
    exact ⟨⟨a, b, c⟩, by simp [I2b.enc, e0, e1, e2], I64.of w0, I64.of w1⟩
theorem read_I2 {e : TypeId} {f0 f1 : Field} (he : P.underlying e = some (.struct #[f0, f1])) (o0 : f0.offset = 0) (o1 : f1.offset = 1) (c0 : P.cellsOf f0.type = 1) (c1 : P.cellsOf f1.type = 1) (t0 : P.underlying f0.type = some (.int .i64)) (t1 : P.underlying f1.type = some (.int .i64))
    (m : Nat) (cs : List Value) (x : DataW H × List MemPlace) (hl : cs.length = 2) (h : DataW.trod enc P W base (fun _ => true) held m e cs = some x) : ∃ y : I2, cs = y.enc ∧ y.ok := by
  obtain ⟨y0, y1, n, _, _, h0, h1⟩ := trod_struct2 he h
  match cs, hl with
  | [v0, v1], _ =>
    rw [o0, c0] at h0; rw [o1, c1] at h1
    obtain ⟨a, e0, _, w0⟩ := DataW.trod_int t0 h0
    obtain ⟨b, e1, _, w1⟩ := DataW.trod_int t1 h1
    simp at e0 e1
    exact ⟨⟨a, b⟩, by simp [I2.enc, e0, e1], I64.of w0, I64.of w1⟩
end
end Go.Proofs.YtkaikbaagajckaaGreat
namespace Go.Proofs.YtkaikbaagajckaaGreat
open Go.RowKit Go.ChangeShapes Go.Joins
set_option linter.unusedVariables false
set_option linter.unusedSimpArgs false
/-- block g holds these cells -/
def Tab (w : World) (g : Nat) (cs : List Value) : Prop := g < w.heap.size ∧ ∀ i v, cs[i]? = some v → w.cell? ⟨g, i, none⟩ = some v
theorem Tab.keep {w w' : World} {g : Nat} {cs : List Value} (h : Tab w g cs) (hb : Below w.heap.size w w') : Tab w' g cs :=
  ⟨Nat.lt_of_lt_of_le h.1 hb.size, fun i v hv => (hb.cell (p := ⟨g, i, none⟩) h.1).trans (h.2 i v hv)⟩
section
variable {H : Type} {enc : TypeId × Value → H} {P : Program} {w : World} {base : Nat} {sp : Nat → Bool} {held : Bool}
/-- a value that is a part of a struct and whose type is a slice type -/
theorem slice_part {m : Nat} {t e : TypeId} {v : Value} {y : DataW H × List MemPlace} (ht : P.underlying t = some (.slice e)) (h : DataW.trod enc P w base sp held m t [v] = some y) :
    ∃ a n c, v = .slice a n c ∧ DataW.Trod enc P w base sp held t (.slice a n c) y.1 y.2 := by
  rcases Deep.open_slice ht h with ⟨hcs, _⟩ | ⟨x, len, cap, m, nn, D, Pl, hcs, _⟩
  · simp only [List.cons.injEq, and_true] at hcs
    exact ⟨_, _, _, hcs, _, by rw [hcs] at h; exact h⟩
  · simp only [List.cons.injEq, and_true] at hcs
    exact ⟨_, _, _, hcs, _, by rw [hcs] at h; exact h⟩
end
/-- a row of the table of commands -/
structure CRow where
  from' : Int
  to' : Int
  role : Int
  key : Bool
def CRow.enc (x : CRow) : List Value := [.int .i64 x.from', .int .i64 x.to', .int .i64 x.role, .bool x.key]
end Go.Proofs.YtkaikbaagajckaaGreat
namespace Go.Proofs.YtkaikbaagajckaaGreat
open Go.RowKit
set_option linter.unusedVariables false
set_option linter.unusedSimpArgs false
def szN (m : Int) (x : Nat) : Int := if m < (x : Int) then -1 else m - x
theorem szN_lt {m : Int} {x : Nat} (h : m < (x : Int)) : szN m x = -1 := if_pos h
theorem szN_ge {m : Int} {x : Nat} (h : ¬ m < (x : Int)) : szN m x = m - x := if_neg h
set_option maxHeartbeats 1000000 in
theorem laws_szRule {nm : ByteArray} {ga ea : Option Addr} {gn gc en ec : Nat} {m : Int} {w : World} (hs : nm.size ≤ maxLen) (hg : (gn : Int) ≤ 9223372036854775807) (he : (en : Int) ≤ 9223372036854775807) (hm : 0 ≤ m) (hm' : m ≤ 1048576) :
    Calls Tryz.prog 103 #[.agg #[.string nm, .slice ga gn gc, .slice ea en ec], .int .i64 m] w fun e w' => e = .returned (.int .i64 (szN m (nm.size + gn + en))) ∧ Below w.heap.size w w' := by
  have hs' : (nm.size : Int) ≤ 9223372036854775807 := by have : nm.size ≤ 9223372036854775807 := hs; omega
  by_cases h1 : m < (nm.size : Int)
  · have h1' : m - (nm.size : Int) < 0 := by omega
    have HR := Lib.hid (szN_lt (m := m) (x := nm.size + gn + en) (by omega))
    go_enter Tryz.func103, Tryz.ntmps103
    go_wp2
    go_ret
    exact ⟨ret_int HR.out.symm, bel⟩
  · have h1' : ¬ m - (nm.size : Int) < 0 := by omega
    have k1 := fun (wx : World) => laws_szTestS (a := ga) (n := gn) (c := gc) (m := m - nm.size) (w := wx) hg (by omega) (by omega)
    by_cases h2 : m - (nm.size : Int) < (gn : Int)
    · have HR := Lib.hid (szN_lt (m := m) (x := nm.size + gn + en) (by omega))
      simp only [if_pos h2] at k1
      have K1 := Lib.hid k1
      clear k1
      go_enter Tryz.func103, Tryz.ntmps103
      go_wp2_with fail
      go_wp2_with fail
      refine Calls.mono ((K1.out _)) ?_
      rintro e _ ⟨rfl, rfl⟩
      go_wp2
      go_ret
      exact ⟨ret_int HR.out.symm, bel⟩
    · simp only [if_neg h2] at k1
      have K1 := Lib.hid k1
      have h2' : ¬ m - (nm.size : Int) - (gn : Int) < 0 := by omega
      have k2 := fun (wx : World) => laws_szAssignS (a := ea) (n := en) (c := ec) (m := m - nm.size - gn) (w := wx) he (by omega) (by omega)
      clear k1
      by_cases h3 : m - (nm.size : Int) - (gn : Int) < (en : Int)
      · have HR := Lib.hid (szN_lt (m := m) (x := nm.size + gn + en) (by omega))
        simp only [if_pos h3] at k2
        have K2 := Lib.hid k2
        clear k2
        go_enter Tryz.func103, Tryz.ntmps103
        go_wp2_with fail
        go_wp2_with fail
        refine Calls.mono ((K1.out _)) ?_
        rintro e _ ⟨rfl, rfl⟩
        go_wp2_with fail
        go_wp2_with fail
        refine Calls.mono ((K2.out _)) ?_
        rintro e _ ⟨rfl, rfl⟩
        go_wp2
        go_ret
        exact ⟨ret_int HR.out.symm, bel⟩
      · have HR := Lib.hid ((szN_ge (m := m) (x := nm.size + gn + en) (by omega)).trans (show m - ((nm.size + gn + en : Nat) : Int) = m - nm.size - gn - en by omega))
        have h3' : ¬ m - (nm.size : Int) - (gn : Int) - (en : Int) < 0 := by omega
        simp only [if_neg h3] at k2
        have K2 := Lib.hid k2
        clear k2
        go_enter Tryz.func103, Tryz.ntmps103
        go_wp2_with fail
        go_wp2_with fail
        refine Calls.mono ((K1.out _)) ?_
        rintro e _ ⟨rfl, rfl⟩
        go_wp2_with fail
        go_wp2_with fail
        refine Calls.mono ((K2.out _)) ?_
        rintro e _ ⟨rfl, rfl⟩
        go_wp2
        go_ret
        exact ⟨ret_int HR.out.symm, bel⟩
/-- a rule and a model as they are meant -/
structure RuD where
  nm : ByteArray
  g : List I2b
  e : List I2
/-- a rule as it lies in memory -/
structure RM where
  nm : ByteArray
  ga : Option Addr
  gn : Nat
  gc : Nat
  ea : Option Addr
  en : Nat
  ec : Nat
def RM.enc (r : RM) : List Value := [.string r.nm, .slice r.ga r.gn r.gc, .slice r.ea r.en r.ec]
def hasB (sz : List Int) (v x : Int) : Bool := inB v 0 ((sz.length : Int) - 1) && inB x 0 (sz.getD v.toNat 0 - 1)
theorem hasB_no {sz : List Int} {v x : Int} (h : inB v 0 ((sz.length : Int) - 1) = false) : hasB sz v x = false := by rw [hasB, h]; rfl
theorem hasB_yes {sz : List Int} {v : Nat} {x z : Int} (hz : sz[v]? = some z) : hasB sz (v : Int) x = inB x 0 (z - 1) := by
  have h1 : v < sz.length := (List.getElem?_eq_some_iff.1 hz).1
  have h2 : inB (v : Int) 0 ((sz.length : Int) - 1) = true := by simp [inB]; omega
  rw [hasB, h2, Int.toNat_natCast, List.getD_eq_getElem?_getD, hz]; rfl
theorem allIn_at {lo hi : Int} {l : List Int} {k : Nat} {z : Int} (h : allIn lo hi l = true) (hz : l[k]? = some z) : lo ≤ z ∧ z ≤ hi := by
  have := List.all_eq_true.1 h z (List.mem_of_getElem? hz)
  simpa [inB] using this
set_option maxHeartbeats 1000000 in
theorem impl_has {v x : Int} {sa ta ra : Option Addr} {sn sc tn tc rn rc : Nat} {sz : List Int} {w : World} (hI : Ints w sa sn sc sz) (hn : sn ≤ 1048576) (hs : allIn 1 32 sz = true) :
    Calls Tryz.prog 144 #[.agg #[.slice sa sn sc, .slice ta tn tc, .slice ra rn rc], .int .i64 v, .int .i64 x] w fun e w' => e = .returned (.bool (hasB sz v x)) ∧ Below w.heap.size w w' := by
  have hl := hI.len
  have e1 : IntKind.i64.wrap ((sn : Int) - 1) = (sn : Int) - 1 := IntWalk.i64_in _ (by omega)
  cases hv : inB v 0 ((sn : Int) - 1)
  · have HB := Lib.hid (hasB_no (x := x) (show inB v 0 ((sz.length : Int) - 1) = false by rw [hl]; exact hv))
    have HV := Lib.hid hv
    clear hv hI hl
    go_enter Tryz.func144, Tryz.ntmps144
    go_wp2_with fail
    refine Calls.mono (impl_length_i64) ?_
    rintro e _ ⟨rfl, rfl⟩
    go_wp2_with fail
    refine Calls.mono (impl_within) ?_
    rintro e _ ⟨rfl, rfl⟩
    rw [HV.out]
    go_wp2
    go_ret
    exact ⟨ret_bool HB.out.symm, bel⟩
  · have HV := Lib.hid hv
    have hv2 := hv
    simp [inB] at hv2
    obtain ⟨q, rfl⟩ := Int.eq_ofNat_of_zero_le hv2.1
    obtain ⟨b, off, z, rfl, hb, hz, hcell, hwf⟩ := hI.at (k := q) (by omega)
    have HB := Lib.hid (hasB_yes (x := x) hz)
    have hq0 : (0 : Int) ≤ (q : Int) := by omega
    have hq1 : (q : Int) < (sn : Int) := by omega
    have hz12 := allIn_at hs hz
    have hz1 := hz12.1
    have hz2 := hz12.2
    have e2 : IntKind.i64.wrap (z - 1) = z - 1 := IntWalk.i64_in _ (by omega)
    clear hv hI hl hz hs hz12
    go_enter Tryz.func144, Tryz.ntmps144
    go_wp2_with fail
    refine Calls.mono (impl_length_i64) ?_
    rintro e _ ⟨rfl, rfl⟩
    go_wp2_with fail
    refine Calls.mono (impl_within) ?_
    rintro e _ ⟨rfl, rfl⟩
    rw [HV.out]
    go_wp2_with fail
    refine Calls.mono (impl_within) ?_
    rintro e _ ⟨rfl, rfl⟩
    go_wp2
    go_ret
    exact ⟨ret_bool HB.out.symm, bel⟩
set_option maxHeartbeats 1000000 in
theorem spec_l20Has {v x : Int} {sa ta ra : Option Addr} {sn sc tn tc rn rc : Nat} {sz : List Int} {w : World} (hI : Ints w sa sn sc sz) (hn : sn ≤ 1048576) (hs : allIn 1 32 sz = true) :
    Calls Tryz.prog 148 #[.agg #[.slice sa sn sc, .slice ta tn tc, .slice ra rn rc], .int .i64 v, .int .i64 x] w fun e w' => e = .returned (.bool (hasB sz v x)) ∧ Below w.heap.size w w' := by
  have hl := hI.len
  have e1 : IntKind.i64.wrap ((sn : Int) - 1) = (sn : Int) - 1 := IntWalk.i64_in _ (by omega)
  cases hv : inB v 0 ((sn : Int) - 1)
  · have HB := Lib.hid (hasB_no (x := x) (show inB v 0 ((sz.length : Int) - 1) = false by rw [hl]; exact hv))
    have HV := Lib.hid hv
    clear hv hI hl
    go_enter Tryz.func148, Tryz.ntmps148
    go_wp2_with fail
    refine Calls.mono (spec_l01In) ?_
    rintro e _ ⟨rfl, rfl⟩
    rw [HV.out]
    go_wp2
    go_ret
    exact ⟨ret_bool HB.out.symm, bel⟩
  · have HV := Lib.hid hv
    have hv2 := hv
    simp [inB] at hv2
    obtain ⟨q, rfl⟩ := Int.eq_ofNat_of_zero_le hv2.1
    obtain ⟨b, off, z, rfl, hb, hz, hcell, hwf⟩ := hI.at (k := q) (by omega)
    have HB := Lib.hid (hasB_yes (x := x) hz)
    have hq0 : (0 : Int) ≤ (q : Int) := by omega
    have hq1 : (q : Int) < (sn : Int) := by omega
    have hz12 := allIn_at hs hz
    have hz1 := hz12.1
    have hz2 := hz12.2
    have e2 : IntKind.i64.wrap (z - 1) = z - 1 := IntWalk.i64_in _ (by omega)
    clear hv hI hl hz hs hz12
    go_enter Tryz.func148, Tryz.ntmps148
    go_wp2_with fail
    refine Calls.mono (spec_l01In) ?_
    rintro e _ ⟨rfl, rfl⟩
    rw [HV.out]
    go_wp2_with fail
    refine Calls.mono (spec_l01In) ?_
    rintro e _ ⟨rfl, rfl⟩
    go_wp2
    go_ret
    exact ⟨ret_bool HB.out.symm, bel⟩
def stateB (sz vs : List Int) : Bool := decide (vs.length = sz.length) && upB (fun i => hasB sz (i : Int) (vs.getD i 0)) vs.length
def testsB (sz : List Int) (g : List I2b) : Bool := decide (g.length ≤ 24) && g.all fun t => hasB sz t.a t.b
theorem getD_of {l : List Int} {k : Nat} {x : Int} (h : l[k]? = some x) : l.getD k 0 = x := by rw [List.getD_eq_getElem?_getD, h]; rfl
theorem stateB_ne {sz vs : List Int} (h : vs.length ≠ sz.length) : stateB sz vs = false := by rw [stateB, decide_eq_false h]; rfl
theorem stateB_eq {sz vs : List Int} (h : vs.length = sz.length) : stateB sz vs = upB (fun i => hasB sz (i : Int) (vs.getD i 0)) vs.length := by rw [stateB, decide_eq_true h, Bool.true_and]
set_option maxHeartbeats 1000000 in
theorem impl_isState {sa ta ra va : Option Addr} {sn sc tn tc rn rc vn vc : Nat} {sz vs : List Int} {w : World} (hI : Ints w sa sn sc sz) (hV : Ints w va vn vc vs) (hn : sn ≤ 1048576) (hv : vn ≤ 1048576) (hs : allIn 1 32 sz = true) :
    Calls Tryz.prog 126 #[.agg #[.slice sa sn sc, .slice ta tn tc, .slice ra rn rc], .slice va vn vc] w fun e w' => e = .returned (.bool (stateB sz vs)) ∧ Below w.heap.size w w' := by
  have hl := hI.len
  have hvl := hV.len
  have HI := Lib.hid hI
  have HV := Lib.hid hV
  have HS := Lib.hid hs
  clear hI hV hs
  by_cases hne : vn = sn
  · subst hne
    have hd : ((vn : Int) != (vn : Int)) = false := by simp
    have HB := Lib.hid (stateB_eq (sz := sz) (vs := vs) (by omega))
    have X := Lib.hid (Blk.made w #[.slice sa vn sc, .slice ta tn tc, .slice ra rn rc] 36)
    obtain ⟨wA, hwA⟩ : ∃ wA : World, wA = w.alloc (.cells #[.slice sa vn sc, .slice ta tn tc, .slice ra rn rc] 36) := ⟨_, rfl⟩
    have hbA : Below w.heap.size w wA := by rw [hwA]; exact bel
    rw [← hwA] at X
    have HwA := Lib.hid hwA
    have HL := Lib.hid hvl
    clear hwA hvl hl
    go_enter Tryz.func126, Tryz.ntmps126
    go_wp2_with fail
    rw [← HwA.out]
    clear HwA
    go_loopw [15] (fun s15 wr => ∃ k : Nat, s15 = .int .i64 k ∧ k ≤ vn ∧ Below w.heap.size w wr ∧ Hid (upB (fun i => hasB sz (i : Int) (vs.getD i 0)) k = true) ∧ Hid (Blk wr w.heap.size #[.slice sa vn sc, .slice ta tn tc, .slice ra rn rc] 36)) (fun s15 _ => vn - (intOf s15).toNat)
    case atStart => exact ⟨0, rfl, by omega, hbA, Lib.hid (upB_zero _), X⟩
    case round =>
      clear X hbA
      obtain ⟨k, rfl, hk, hbl, A, X⟩ := hrel
      by_cases hlt : k < vn
      · have hlt' : (k : Int) < (vn : Int) := by omega
        have hk0 : (0 : Int) ≤ (k : Int) := by omega
        obtain ⟨b, off, x, rfl, hb, hx, hcell, hwf⟩ := (HV.out.keep hbl).at hlt
        have Hx := Lib.hid (getD_of hx)
        clear hx
        have x0 := X.out.cell 0
        have x1 := X.out.cell 1
        have x2 := X.out.cell 2
        have xl := X.out.lt
        simp at x0 x1 x2
        have hcall := impl_has (v := (k : Int)) (x := x) (ta := ta) (tn := tn) (tc := tc) (ra := ra) (rn := rn) (rc := rc) (HI.out.keep hbl) hn HS.out
        cases hq : hasB sz (k : Int) x
        all_goals
          rw [hq] at hcall
          have HC := Lib.hid hcall
          have HQ := Lib.hid hq
          clear hcall hq
          go_wp2_with fail
          refine Calls.mono HC.out ?_
          rintro e w1 ⟨rfl, hb1⟩
          have X := Lib.hid (X.out.keep hb1)
          replace hbl : Below w.heap.size w w1 := below_callS hbl hb1
          clear hb1 x0 x1 x2 xl
        · go_wp2
          go_ret
          exact ⟨ret_bool (by rw [HB.out, HL.out, upB_false hlt (by rw [Hx.out]; exact HQ.out)]), hbl⟩
        · go_wp2_with fail
          go_roundw
          case rel => exact ⟨k + 1, by go_num, by omega, hbl, Lib.hid (upB_step A.out (by rw [Hx.out]; exact HQ.out)), X⟩
          case measure => simp [intOf]; omega
      · obtain rfl : vn = k := by omega
        have hlt' : ¬ (vn : Int) < (vn : Int) := by omega
        go_wp2
        go_ret
        exact ⟨ret_bool (by rw [HB.out, HL.out, A.out]), hbl⟩
  · have hd : ((vn : Int) != (sn : Int)) = true := by rw [bne_iff_ne]; omega
    have HB := Lib.hid (stateB_ne (sz := sz) (vs := vs) (by omega))
    clear hne hl hvl
    go_enter Tryz.func126, Tryz.ntmps126
    go_wp2
    go_ret
    exact ⟨ret_bool HB.out.symm, bel⟩
set_option maxHeartbeats 1000000 in
theorem spec_l20State {sa ta ra va : Option Addr} {sn sc tn tc rn rc vn vc : Nat} {sz vs : List Int} {w : World} (hI : Ints w sa sn sc sz) (hV : Ints w va vn vc vs) (hn : sn ≤ 1048576) (hv : vn ≤ 1048576) (hs : allIn 1 32 sz = true) :
    Calls Tryz.prog 118 #[.agg #[.slice sa sn sc, .slice ta tn tc, .slice ra rn rc], .slice va vn vc] w fun e w' => e = .returned (.bool (stateB sz vs)) ∧ Below w.heap.size w w' := by
  have hl := hI.len
  have hvl := hV.len
  have HI := Lib.hid hI
  have HV := Lib.hid hV
  have HS := Lib.hid hs
  clear hI hV hs
  have X := Lib.hid (Blk.made w #[.slice sa sn sc, .slice ta tn tc, .slice ra rn rc] 36)
  obtain ⟨wA, hwA⟩ : ∃ wA : World, wA = w.alloc (.cells #[.slice sa sn sc, .slice ta tn tc, .slice ra rn rc] 36) := ⟨_, rfl⟩
  have hbA : Below w.heap.size w wA := by rw [hwA]; exact bel
  rw [← hwA] at X
  have HwA := Lib.hid hwA
  have HLV := Lib.hid hvl
  have HLS := Lib.hid hl
  clear hwA hvl hl
  go_enter Tryz.func118, Tryz.ntmps118
  go_wp2_with fail
  rw [← HwA.out]
  clear HwA
  go_loopw [5] (fun s5 wr => ∃ k : Nat, s5 = .int .i64 k ∧ k ≤ vn ∧ k ≤ sn ∧ Below w.heap.size w wr ∧ Hid (upB (fun i => hasB sz (i : Int) (vs.getD i 0)) k = true) ∧ Hid (Blk wr w.heap.size #[.slice sa sn sc, .slice ta tn tc, .slice ra rn rc] 36)) (fun s5 _ => vn - (intOf s5).toNat)
  case atStart => exact ⟨0, rfl, by omega, by omega, hbA, Lib.hid (upB_zero _), X⟩
  case round =>
    clear X hbA
    obtain ⟨k, rfl, hk, hks, hbl, A, X⟩ := hrel
    have x0 := X.out.cell 0
    have x1 := X.out.cell 1
    have x2 := X.out.cell 2
    have xl := X.out.lt
    simp at x0 x1 x2
    by_cases hlt : k < vn
    · have hlt' : (k : Int) < (vn : Int) := by omega
      have hk0 : (0 : Int) ≤ (k : Int) := by omega
      by_cases hls : k < sn
      · have hls' : (k : Int) < (sn : Int) := by omega
        obtain ⟨b, off, x, rfl, hb, hx, hcell, hwf⟩ := (HV.out.keep hbl).at hlt
        obtain ⟨b', off', z, rfl, hb', hz, hcell', hwf'⟩ := (HI.out.keep hbl).at hls
        have hz12 := allIn_at HS.out hz
        have hz1 := hz12.1
        have hz2 := hz12.2
        have e2 : IntKind.i64.wrap (z - 1) = z - 1 := IntWalk.i64_in _ (by omega)
        have hhas := hasB_yes (x := x) hz
        have Hx := Lib.hid (getD_of hx)
        have hin := fun (wx : World) => (spec_l01In (x := x) (lo := 0) (hi := z - 1) (w := wx)).mono (fun e w' h => (⟨h.1, h.2.symm⟩ : e = .returned (.bool (inB x 0 (z - 1))) ∧ w' = wx))
        cases hq : inB x 0 (z - 1)
        all_goals
          rw [hq] at hin hhas
          have HH := Lib.hid hhas
          have HIN := Lib.hid hin
          clear hx hz hz12 hq hhas hin
          go_wp2_with fail
          go_quiet ((go_at_call 117; exact Calls.quiet_of_same (HIN.out _)))
        · go_wp2
          go_ret
          refine ⟨ret_bool ?_, below_drewN hbl _⟩
          by_cases hne : vn = sn
          · rw [stateB_eq (by rw [HLV.out, HLS.out, hne]), HLV.out, upB_false hlt (by rw [Hx.out]; exact HH.out)]
          · rw [stateB_ne (by rw [HLV.out, HLS.out]; exact hne)]
        · go_wp2_with fail
          go_roundw
          case rel => exact ⟨k + 1, by go_num, by omega, by omega, below_drewN hbl _, Lib.hid (upB_step A.out (by rw [Hx.out]; exact HH.out)), Lib.hid X.out⟩
          case measure => simp [intOf]; omega
      · obtain rfl : sn = k := by omega
        have hls' : ¬ (sn : Int) < (sn : Int) := by omega
        have hd : ((vn : Int) == (sn : Int)) = false := by rw [beq_eq_false_iff_ne]; omega
        go_wp2
        go_ret
        exact ⟨ret_bool (by rw [stateB_ne (by rw [HLV.out, HLS.out]; omega)]), hbl⟩
    · obtain rfl : vn = k := by omega
      have hlt' : ¬ (vn : Int) < (vn : Int) := by omega
      by_cases hne : vn = sn
      · have hd : ((vn : Int) == (sn : Int)) = true := by rw [beq_iff_eq]; omega
        have HB := Lib.hid (show stateB sz vs = true by rw [stateB_eq (by rw [HLV.out, HLS.out, hne]), HLV.out, A.out])
        clear hne
        go_wp2
        go_ret
        exact ⟨ret_bool HB.out.symm, hbl⟩
      · have hd : ((vn : Int) == (sn : Int)) = false := by rw [beq_eq_false_iff_ne]; omega
        have HB := Lib.hid (show stateB sz vs = false by rw [stateB_ne (by rw [HLV.out, HLS.out]; exact hne)])
        clear hne
        go_wp2
        go_ret
        exact ⟨ret_bool HB.out.symm, hbl⟩
set_option maxHeartbeats 1000000 in
theorem impl_areTests_1 {x : I2b} {B : Nat} {sa ta ra : Option Addr} {sn sc tn tc rn rc : Nat} {sz : List Int} {w : World} (hB : Blk w B #[.slice sa sn sc, .slice ta tn tc, .slice ra rn rc] 36) (hI : Ints w sa sn sc sz) (hn : sn ≤ 1048576) (hs : allIn 1 32 sz = true) :
    Calls Tryz.prog 143 (#[.agg x.enc.toArray] ++ #[.pointer (some ⟨B, 0, none⟩)]) w fun e w' => e = .returned (.bool (!hasB sz x.a x.b)) ∧ Below w.heap.size w w' := by
  have x0 := hB.cell 0
  have x1 := hB.cell 1
  have x2 := hB.cell 2
  have xl := hB.lt
  simp at x0 x1 x2
  have h := fun (wx : World) (hb : Below w.heap.size w wx) => impl_has (v := x.a) (x := x.b) (ta := ta) (tn := tn) (tc := tc) (ra := ra) (rn := rn) (rc := rc) (hI.keep hb) hn hs
  have H := Lib.hid h
  clear h hI hB hs
  show Calls _ _ #[.agg #[.int .i64 x.a, .int .i64 x.b, .bool x.c], .pointer (some ⟨B, 0, none⟩)] _ _
  go_enter Tryz.func143, Tryz.ntmps143
  go_wp2_with fail
  refine Calls.mono (H.out _ bel) ?_
  rintro e w1 ⟨rfl, hb_w1⟩
  obtain ⟨hc_w1, hf_w1⟩ := bcell hb_w1
  have hs_w1 := hb_w1.size
  go_wp2
  go_ret
  exact ⟨rfl, bel⟩
set_option maxHeartbeats 1000000 in
theorem impl_areTests {sa ta ra ga : Option Addr} {sn sc tn tc rn rc gn gc : Nat} {sz : List Int} {g : List I2b} {w : World} (hI : Ints w sa sn sc sz) (hn : sn ≤ 1048576) (hs : allIn 1 32 sz = true) (hG : F2b w ga gn gc g) (hg : gn ≤ 1048576) :
    Calls Tryz.prog 75 #[.agg #[.slice sa sn sc, .slice ta tn tc, .slice ra rn rc], .slice ga gn gc] w fun e w' => e = .returned (.bool (testsB sz g)) ∧ Below w.heap.size w w' := by
  have hgl := hG.len
  by_cases h24 : gn ≤ 24
  · have h24' : (gn : Int) ≤ 24 := by omega
    have HT := Lib.hid (show testsB sz g = !(g.any fun x => !hasB sz x.a x.b) by rw [testsB, decide_eq_true (by omega), Bool.true_and, List.not_any_eq_all_not]; simp)
    have hp := fun (wx : World) (hb : Below w.heap.size w wx) (hB : Blk wx w.heap.size #[.slice sa sn sc, .slice ta tn tc, .slice ra rn rc] 36) => slices_ContainsFunc_Test (g := 143) (lb := #[.pointer (some ⟨w.heap.size, 0, none⟩)]) (p := fun x => !hasB sz x.a x.b) (fun _ _ => by kernel_rfl) (fun W x hx hb' => impl_areTests_1 (hB.keep hb') (hI.keep (below_callS hb hb')) hn hs) (hG.keep hb) hg
    have HP := Lib.hid hp
    clear hp hI hG hs hgl
    go_enter Tryz.func75, Tryz.ntmps75
    go_wp2_with fail
    refine Calls.mono (HP.out _ bel (Blk.made w #[.slice sa sn sc, .slice ta tn tc, .slice ra rn rc] 36)) ?_
    rintro e w2 ⟨rfl, hb_w2⟩
    go_wp2
    go_ret
    exact ⟨ret_bool HT.out.symm, bel⟩
  · have h24' : ¬ (gn : Int) ≤ 24 := by omega
    have HT := Lib.hid (show testsB sz g = false by rw [testsB, decide_eq_false (by omega)]; rfl)
    clear hI hG hs hgl
    go_enter Tryz.func75, Tryz.ntmps75
    go_wp2
    go_ret
    exact ⟨ret_bool HT.out.symm, bel⟩
theorem testsB_any {sz : List Int} {g : List I2b} : testsB sz g = (decide (g.length ≤ 24) && !(g.any fun x => !hasB sz x.a x.b)) := by
  rw [testsB, List.not_any_eq_all_not]; simp
set_option maxHeartbeats 2000000 in
theorem spec_l20Tests {sa ta ra ga : Option Addr} {sn sc tn tc rn rc gn gc : Nat} {sz : List Int} {g : List I2b} {w : World} (hI : Ints w sa sn sc sz) (hn : sn ≤ 1048576) (hs : allIn 1 32 sz = true) (hG : F2b w ga gn gc g) (hg : gn ≤ 1048576) :
    Calls Tryz.prog 77 #[.agg #[.slice sa sn sc, .slice ta tn tc, .slice ra rn rc], .slice ga gn gc] w fun e w' => e = .returned (.bool (testsB sz g)) ∧ Below w.heap.size w w' := by
  have hgl := hG.len
  have HTT := Lib.hid (show testsB sz g = (decide (gn ≤ 24) && !(g.any fun x => !hasB sz x.a x.b)) by rw [testsB_any, hgl])
  have K3 := Lib.hid (fun (x : I2b) (wx : World) (hb : Below w.heap.size w wx) => spec_l20Has (v := x.a) (x := x.b) (ta := ta) (tn := tn) (tc := tc) (ra := ra) (rn := rn) (rc := rc) (hI.keep hb) hn hs)
  have HG := Lib.hid hG
  have HL := Lib.hid hgl
  clear hI hG hs hgl
  have X := Lib.hid (Blk.made w #[.slice sa sn sc, .slice ta tn tc, .slice ra rn rc] 36)
  obtain ⟨wA, hwA⟩ : ∃ wA : World, wA = w.alloc (.cells #[.slice sa sn sc, .slice ta tn tc, .slice ra rn rc] 36) := ⟨_, rfl⟩
  have hbA : Below w.heap.size w wA := by rw [hwA]; exact bel
  rw [← hwA] at X
  have HwA := Lib.hid hwA
  clear hwA
  go_enter Tryz.func77, Tryz.ntmps77
  go_wp2_with fail
  rw [← HwA.out]
  clear HwA
  go_loopw [5] (fun s5 wr => ∃ i : Nat, s5 = .int .i64 i ∧ i ≤ gn ∧ Below w.heap.size w wr ∧ Hid (((g.take i).any fun x => !hasB sz x.a x.b) = false) ∧ Hid (Blk wr w.heap.size #[.slice sa sn sc, .slice ta tn tc, .slice ra rn rc] 36)) (fun s5 _ => gn - (intOf s5).toNat)
  case atStart => exact ⟨0, rfl, by omega, hbA, Lib.hid rfl, X⟩
  case round =>
    clear X hbA
    obtain ⟨i, rfl, hi, hbl, A, X⟩ := hrel
    by_cases hlt : i < gn
    · have hlt' : (i : Int) < (gn : Int) := by omega
      have hi0 : (0 : Int) ≤ (i : Int) := by omega
      obtain ⟨b', off, x, rfl, hb', hx, hwf, c0, c1, c2⟩ := F2b.get (HG.out.keep hbl) hlt
      have Hx := Lib.hid hx
      clear hx
      have x0 := X.out.cell 0
      have x1 := X.out.cell 1
      have x2 := X.out.cell 2
      have xl := X.out.lt
      simp at x0 x1 x2
      have hcall := K3.out x
      cases hv : hasB sz x.a x.b
      all_goals
        rw [hv] at hcall
        have HV := Lib.hid hv
        have HCl := Lib.hid hcall
        clear hv hcall
        go_wp2_with fail
        go_region_held3 (fun wx => wx.cell? ⟨b', off + i * 3, none⟩ = some (.int .i64 x.a) ∧ wx.cell? ⟨b', off + i * 3 + 1, none⟩ = some (.int .i64 x.b) ∧ wx.cell? ⟨w.heap.size, 0, none⟩ = some (.slice sa sn sc) ∧ wx.cell? ⟨w.heap.size, 1, none⟩ = some (.slice ta tn tc) ∧ wx.cell? ⟨w.heap.size, 2, none⟩ = some (.slice ra rn rc) ∧ b' < wx.heap.size ∧ w.heap.size < wx.heap.size ∧ Blk wx w.heap.size #[.slice sa sn sc, .slice ta tn tc, .slice ra rn rc] 36 ∧ Below w.heap.size w wx) (((try go_split_ands); (repeat' apply And.intro) <;> first | assumption | exact Blk.keep (by assumption) hbx | exact Blk.drew (by assumption) | exact Blk.drew (Blk.made _ _ _) | exact Below.drew (by assumption) | exact Below.drew (below_allocS (by first | exact Below.refl _ _ | assumption) _) | exact below_callS (by assumption) hbx | exact below_call (by assumption) hbx (Below.size (by assumption)) | exact (hcx _ _ (by assumption)).trans (by assumption) | omega | (simp [*]; done) | (simp; omega))) (first | (go_at_call 148; refine Calls.mono (HCl.out _ (by first | assumption | (go_split_ands; assumption))) ?_; rintro e wx2 ⟨rfl, hbx⟩; obtain ⟨hcx, hfx⟩ := bcell hbx; have hsx := hbx.size))
        go_split_ands
      · go_wp2
        go_ret
        exact ⟨ret_bool (by rw [HTT.out, show (g.any fun x => !hasB sz x.a x.b) = true from any_take_true (p := fun x => !hasB sz x.a x.b) Hx.out (by simp [HV.out])]; simp), by assumption⟩
      · go_wp2_with fail
        go_roundw
        case rel => exact ⟨i + 1, by go_num, by omega, by assumption, Lib.hid (any_take_step (p := fun x => !hasB sz x.a x.b) Hx.out A.out (by simp [HV.out])), Lib.hid (by assumption)⟩
        case measure => simp [intOf]; omega
    · obtain rfl : gn = i := by omega
      have hlt' : ¬ (gn : Int) < (gn : Int) := by omega
      have hA := A.out
      rw [take_len HL.out] at hA
      have HA := Lib.hid hA
      clear hA
      by_cases h24 : gn ≤ 24
      · have h24' : (gn : Int) ≤ 24 := by omega
        have HT := Lib.hid (show testsB sz g = true by rw [HTT.out, HA.out, decide_eq_true h24]; rfl)
        go_wp2
        go_ret
        exact ⟨ret_bool HT.out.symm, hbl⟩
      · have h24' : ¬ (gn : Int) ≤ 24 := by omega
        have HT := Lib.hid (show testsB sz g = false by rw [HTT.out, HA.out, decide_eq_false h24]; rfl)
        go_wp2
        go_ret
        exact ⟨ret_bool HT.out.symm, hbl⟩
end Go.Proofs.YtkaikbaagajckaaGreat
