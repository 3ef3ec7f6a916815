/- The rules that are enabled in a state: the program, walked.; The search's steps in plain words, as its walk wants them.; What a valid model gives: plain laws.; A set of texts: a map from texts to truth values that the call makes.; The list of the states that a search has found: a row of records, each with a slice of the call's own.; What the search keeps from step to step.; The search through the states of a model: the program, walked.; Ascending lists of states: plain laws. -/
import Derived.Test.YtkaikbaagajckaaGreatN13
import Derived.Test.YtkaikbaagajckaaGreatN06
import Derived.Test.YtkaikbaagajckaaGreatN07
import Derived.Test.YtkaikbaagajckaaGreatBase
import Derived.Maps.Own
import Derived.Maps.Views
import Derived.Maps.OwnOps
namespace Go.Proofs.YtkaikbaagajckaaGreat
open Go.RowKit
set_option linter.unusedVariables false
set_option linter.unusedSimpArgs false
def enabI (rs : List RuD) (v : List Int) (j : Nat) : List Int := ((List.range j).filter fun i => holdsP v (rs.getD i zRu).g).map fun (i : Nat) => (i : Int)
theorem enabI_step {rs : List RuD} {v : List Int} {j : Nat} {r : RuD} (hr : rs[j]? = some r) : enabI rs v (j + 1) = if holdsP v r.g = true then enabI rs v j ++ [(j : Int)] else enabI rs v j := by
  have e : rs.getD j zRu = r := by rw [List.getD_eq_getElem?_getD, hr]; rfl
  rw [enabI, List.range_succ, List.filter_append, List.map_append]
  have e1 : List.filter (fun i => holdsP v (rs.getD i zRu).g) [j] = if holdsP v r.g = true then [j] else [] := by
    rw [List.filter_cons, e]; rfl
  rw [e1]
  by_cases h : holdsP v r.g = true
  · rw [if_pos h, if_pos h]; rfl
  · rw [if_neg h, if_neg h]; exact List.append_nil _
theorem enabI_yes {rs : List RuD} {v : List Int} {j : Nat} {r : RuD} (hr : rs[j]? = some r) (h : holdsP v r.g = true) : enabI rs v (j + 1) = enabI rs v j ++ [(j : Int)] := by rw [enabI_step hr, if_pos h]
theorem enabI_no {rs : List RuD} {v : List Int} {j : Nat} {r : RuD} (hr : rs[j]? = some r) (h : holdsP v r.g = false) : enabI rs v (j + 1) = enabI rs v j := by rw [enabI_step hr, if_neg (by simp [h])]
set_option maxHeartbeats 4000000 in
theorem impl_enabled {sa ta ra va : Option Addr} {sn sc tn tc rn rc vn vc : Nat} {v : List Int} {lr : List (RM × RuD)} {w0 w : World} (hb0 : Below w0.heap.size w0 w) (hR : FR w0 w ra rn rc lr) (hr : rn ≤ 1048576) (hV : Ints w va vn vc v) (hv : ∀ x ∈ lr, ∀ t ∈ x.2.g, 0 ≤ t.a ∧ t.a < (vn : Int)) (hg : ∀ x ∈ lr, x.1.gn ≤ 1048576) :
    Calls Tryz.prog 160 #[.agg #[.slice sa sn sc, .slice ta tn tc, .slice ra rn rc], .slice va vn vc] w fun e w' => ∃ a n c, e = .returned (.slice a n c) ∧ OwnI 2 w' w.heap.size a n c (enabI (lr.map (·.2)) v rn) ∧ n ≤ rn ∧ Below w.heap.size w w' := by
  have X := Lib.hid (Blk.made w #[.slice sa sn sc, .slice ta tn tc, .slice ra rn rc] 36)
  obtain ⟨wA, hwA⟩ : ∃ wA : World, wA = w.alloc (.cells #[.slice sa sn sc, .slice ta tn tc, .slice ra rn rc] 36) := ⟨_, rfl⟩
  have hsA : w.heap.size + 1 ≤ wA.heap.size := by rw [hwA]; simp
  have hbA : Below w.heap.size w wA := by rw [hwA]; exact bel
  rw [← hwA] at X
  have HR := Lib.hid hR
  have HV := Lib.hid hV
  have HVT := Lib.hid hv
  have HG := Lib.hid hg
  have H0 := Lib.hid hb0
  have x2 := X.out.cell 2
  have xl := X.out.lt
  simp at x2
  clear hR hV hv hg hb0
  go_enter Tryz.func160, Tryz.ntmps160
  have Hw := Lib.hid hwA
  clear hwA
  go_wp2_with fail
  go_loopw [5, 11] (fun s5 s11 wr => ∃ (j : Nat) (a : Option Addr) (n c : Nat), s5 = .slice a n c ∧ s11 = .int .i64 j ∧ j ≤ rn ∧ n ≤ j ∧ w.heap.size + 1 ≤ wr.heap.size ∧ Below w.heap.size w wr ∧ Hid (Blk wr w.heap.size #[.slice sa sn sc, .slice ta tn tc, .slice ra rn rc] 36) ∧ Hid (OwnI 2 wr (w.heap.size + 1) a n c (enabI (lr.map (·.2)) v j))) (fun _ s11 _ => rn - (intOf s11).toNat)
  case atStart =>
    obtain rfl := Hw.out
    exact ⟨0, none, 0, 0, rfl, rfl, by omega, by omega, hsA, hbA, X, Lib.hid (OwnI.nil _ _ _)⟩
  case round =>
    clear X hbA hsA Hw x2 xl
    obtain ⟨j, a, n, c, rfl, rfl, hj, hnj, hsr, hbl, X, O⟩ := hrel
    by_cases hlt : j < rn
    · have hlt' : (j : Int) < (rn : Int) := by omega
      have hj0 : (0 : Int) ≤ (j : Int) := by omega
      obtain ⟨b, off, R, r, rfl, hb, hx, hru, c0, c1, c2⟩ := FR.get (Flats.keep HR.out hbl) hlt
      have hxm := List.mem_of_getElem? hx
      have hgv := HVT.out _ hxm
      have hgn := HG.out _ hxm
      obtain ⟨_, _, hF, _⟩ := hru
      simp only at hgv hgn hF
      have Hx := Lib.hid (show (lr.map (·.2))[j]? = some r by rw [List.getElem?_map, hx]; rfl)
      have HF := Lib.hid hF
      have HGV := Lib.hid hgv
      have HGN := Lib.hid hgn
      have hb1 : Below w0.heap.size w0 wr := (H0.out).trans (hbl.mono H0.out.size)
      clear hx hxm hgv hgn hF
      go_wp2_with fail
      have hb2 : Below wr.heap.size wr (wr.alloc (.cells #[.string r.nm, .slice R.ga R.gn R.gc, .slice R.ea R.en R.ec] 149)) := bel
      refine Calls.mono (impl_holds (((HV.out.keep hbl).keep hb2)) ((HF.out.keep hb1).keep hb2) HGN.out HGV.out) ?_
      rintro e w1 ⟨rfl, hbh⟩
      have hs1 := hbh.size
      simp at hs1
      have hb3 : Below wr.heap.size wr w1 := bel
      have hbw1 : Below w.heap.size w w1 := bel
      have X1 := Lib.hid (X.out.keep hb3)
      have O1 := Lib.hid (O.out.keep hb3)
      clear hb2 c0 c1 c2 X O
      cases hh : holdsP v r.g with
      | true =>
        have HY := Lib.hid (enabI_yes Hx.out hh)
        have hj64 : I64 (j : Int) := (by first | assumption | decide | (unfold I64; omega))
        go_wp2_with (at_builtin; (refine appI1 rfl _ _ rfl Tryz.underlying22 Tryz.infoi64 (w.heap.size + 1) _ _ _ _ O1.out rfl _ rfl rfl (by first | assumption | decide | (unfold I64; omega)) (by omega) (by omega) ?_; intro g' c3 wn ho hb4 ht hat hsn; have X2 := Lib.hid (X1.out.keepA ht (fun e => by have := (O1.out.blk _ e).1; omega)); have S := Lib.hid ho; clear ho ht))
        go_roundw
        case rel =>
          refine ⟨j + 1, _, _, _, rfl, by go_num, by omega, by omega, by omega, hbw1.trans (hb4.mono (by omega)), X2, ?_⟩
          rw [HY.out]; exact S
        case measure => simp [intOf]; omega
      | false =>
        have HN := Lib.hid (enabI_no Hx.out hh)
        go_wp2
        go_roundw
        case rel =>
          refine ⟨j + 1, _, _, _, rfl, by go_num, by omega, by omega, by omega, bel, X1, ?_⟩
          rw [HN.out]; exact O1
        case measure => simp [intOf]; omega
    · obtain rfl : rn = j := by omega
      have hlt' : ¬ (rn : Int) < (rn : Int) := by omega
      go_wp2
      go_ret
      exact ⟨_, _, _, rfl, O.out.le (by omega), hnj, hbl⟩
theorem enabI_eq (rs : List RuD) (v : List Int) : enabI rs v rs.length = (enabP rs v).map fun (i : Nat) => (i : Int) := rfl
theorem enabI_at {rs : List RuD} {v : List Int} {j : Nat} {z : Int} (h : (enabI rs v rs.length)[j]? = some z) : ∃ (q : Nat) (r : RuD), z = (q : Int) ∧ q < rs.length ∧ rs[q]? = some r ∧ (enabP rs v)[j]? = some q ∧ (nextP rs v)[j]? = some (q, applyP v r.e) := by
  rw [enabI_eq, List.getElem?_map] at h
  cases hq : (enabP rs v)[j]? with
  | none => rw [hq] at h; cases h
  | some q =>
    rw [hq] at h
    simp only [Option.map_some, Option.some.injEq] at h
    have hm := List.mem_of_getElem? hq
    rw [enabP, List.mem_filter, List.mem_range] at hm
    have hr : rs[q]? = some rs[q] := List.getElem?_eq_getElem hm.1
    refine ⟨q, rs[q], h.symm, hm.1, hr, rfl, ?_⟩
    have e : rs.getD q zRu = rs[q] := by rw [List.getD_eq_getElem?_getD, hr]; rfl
    rw [nextP, List.getElem?_map, hq, Option.map_some, e]
theorem nextP_len (rs : List RuD) (v : List Int) : (nextP rs v).length = (enabI rs v rs.length).length := by rw [nextP, enabI_eq, List.length_map, List.length_map]
/-- the list after the first j enabled rules -/
def expT (rs : List RuD) (i : Nat) (x : SN) (L : List SN) (j : Nat) : List SN := ((nextP rs x.v).take j).foldl (addN i x) L
theorem expT_step {rs : List RuD} {i : Nat} {x : SN} {L : List SN} {j : Nat} {q : Nat × List Int} (h : (nextP rs x.v)[j]? = some q) : expT rs i x L (j + 1) = addN i x (expT rs i x L j) q := by
  rw [expT, take_at h, List.foldl_append]; rfl
def hasL (L : List SN) (k : List UInt8) : Bool := L.any fun y => keyL y.v == k
theorem hasL_app (L : List SN) (y : SN) (k : List UInt8) : hasL (L ++ [y]) k = (decide (k = keyL y.v) || hasL L k) := by
  rw [hasL, List.any_append, Bool.or_comm]
  simp only [List.any_cons, List.any_nil, Bool.or_false, hasL]
  congr 1
  rw [Bool.eq_iff_iff, beq_iff_eq, decide_eq_true_iff]
  exact eq_comm
theorem addN_old {i : Nat} {x : SN} {L : List SN} {r : Nat × List Int} (h : L.any (fun y => y.v == r.2) = true) : addN i x L r = L := by rw [addN, if_pos h]
theorem addN_new {i : Nat} {x : SN} {L : List SN} {r : Nat × List Int} (h : L.any (fun y => y.v == r.2) = false) : addN i x L r = L ++ [⟨r.2, i, r.1, x.dp + 1, x.tr ++ [(r.1 : Int)]⟩] := by rw [addN, if_neg (by simp [h])]
/-- how deep a found state lies is bounded by its place -/
def DpB (L : List SN) : Prop := ∀ (j : Nat) (y : SN), L[j]? = some y → 0 ≤ y.dp ∧ y.dp ≤ j
theorem DpB.add {L : List SN} (h : DpB L) {i : Nat} {x : SN} (hx : L[i]? = some x) (r : Nat × List Int) : DpB (addN i x L r) := by
  have hi : i < L.length := (List.getElem?_eq_some_iff.1 hx).1
  have hxd := h i x hx
  cases ha : L.any (fun y => y.v == r.2) with
  | true => rw [addN_old ha]; exact h
  | false =>
    rw [addN_new ha]
    intro j y hy
    by_cases hj : j < L.length
    · rw [List.getElem?_append_left hj] at hy; exact h j y hy
    · rw [List.getElem?_append_right (by omega)] at hy
      have hj0 : j - L.length = 0 := by
        have := (List.getElem?_eq_some_iff.1 hy).1
        simp at this; omega
      rw [hj0] at hy
      simp at hy
      subst hy
      exact ⟨by simp only; omega, by simp only; omega⟩
theorem sv_of_stateB {sz v : List Int} (h : stateB sz v = true) : SV sz v := by
  by_cases hl : v.length = sz.length
  · rw [stateB_eq hl, upB, List.all_eq_true] at h
    refine ⟨hl, fun k x z hx hz => ?_⟩
    have h1 := h k (List.mem_range.2 (List.getElem?_eq_some_iff.1 hx).1)
    rw [getD_of hx] at h1
    rw [hasB_yes (x := x) hz, inB, Bool.and_eq_true, decide_eq_true_eq, decide_eq_true_eq] at h1
    omega
  · rw [stateB_ne hl] at h; cases h
/-- what the search needs of a valid rule -/
theorem ruV_of {sz : List Int} {r : RuD} (h : ruleB sz r = true) : RuV sz r := by
  simp only [ruleB, Bool.and_eq_true, testsB, decide_eq_true_eq, List.all_eq_true] at h
  obtain ⟨he, _, ⟨_, hg⟩, _⟩ := h
  have hh : ∀ {v x : Int}, hasB sz v x = true → 0 ≤ v ∧ v < sz.length ∧ ∀ z, sz[v.toNat]? = some z → 0 ≤ x ∧ x < z := fun {v x} h => by
    simp only [hasB, inB, Bool.and_eq_true, decide_eq_true_eq] at h
    refine ⟨by omega, by omega, fun z hz => ?_⟩
    rw [List.getD_eq_getElem?_getD, hz] at h
    simp at h; omega
  refine ⟨fun t ht => ⟨(hh (hg t ht)).1, (hh (hg t ht)).2.1⟩, fun a ha => ?_⟩
  obtain ⟨k, hk⟩ := List.getElem?_of_mem ha
  rw [effB, upB, List.all_eq_true] at he
  have h1 := he k (List.mem_range.2 (List.getElem?_eq_some_iff.1 hk).1)
  rw [effAt, Bool.and_eq_true, getD2_of hk] at h1
  exact hh h1.1
/-- what a valid model gives its search -/
theorem model_gives {sz st : List Int} {l : List (RM × RuD)} (h : modelB sz st l = true) : (∀ z ∈ sz, z ≤ 256) ∧ SV sz st ∧ (∀ r ∈ l.map (·.2), RuV sz r) ∧ sz.length ≤ 16 ∧ l.length ≤ 200 ∧ allIn 1 32 sz = true := by
  simp only [modelB, Bool.and_eq_true, decide_eq_true_eq] at h
  obtain ⟨h1, h2, h3, h4, h5⟩ := h
  refine ⟨fun z hz => ?_, sv_of_stateB h3, fun r hr => ?_, ?_, h4, h2⟩
  · rw [allIn, List.all_eq_true] at h2
    have := h2 z hz
    simp only [inB, Bool.and_eq_true, decide_eq_true_eq] at this
    omega
  · obtain ⟨x, hx, rfl⟩ := List.mem_map.1 hr
    rw [rulesB, List.all_eq_true] at h5
    exact ruV_of (h5 x hx)
  · simp only [inB, Bool.and_eq_true, decide_eq_true_eq] at h1
    omega
/-- block b is a map in which just the texts that 'has' says stand with true -/
def SetM (w : World) (b n : Nat) (has : List UInt8 → Bool) : Prop :=
  ∃ D : DataW Unit, w.ownsMap Tryz.prog 9 (plainElem Tryz.prog 4) b n D ∧ Maps.IsMap D ∧ ∀ k, D.atKey (.string k) (.lit (.bool false)) = .lit (.bool (has k))
theorem SetM.lt {w : World} {b n : Nat} {has : List UInt8 → Bool} (h : SetM w b n has) : b < w.heap.size := by
  obtain ⟨D, h1, _⟩ := h
  exact h1.lt
theorem SetM.made (w : World) : SetM (w.alloc (.map #[] 0)) w.heap.size 0 (fun _ => false) :=
  ⟨.map [], World.ownsMap_made w _ _ _, ⟨_, rfl⟩, fun k => rfl⟩
theorem SetM.keepG {w w' : World} {b n : Nat} {has : List UInt8 → Bool} {r : Option Nat} (h : SetM w b n has) (hg : w.grownBy w' r) (hne : r ≠ some b) : SetM w' b n has := by
  obtain ⟨D, h1, h2, h3⟩ := h
  exact ⟨D, h1.kept hg (fun e => hne e.symm), h2, h3⟩
theorem SetM.keep {w w' : World} {b n : Nat} {has : List UInt8 → Bool} (h : SetM w b n has) (hb : Below w.heap.size w w') : SetM w' b n has := h.keepG (grownBy_below hb none) (fun e => by cases e)
theorem SetM.congr {w : World} {b n : Nat} {has has' : List UInt8 → Bool} (h : SetM w b n has) (he : ∀ k, has k = has' k) : SetM w b n has' := by
  obtain ⟨D, h1, h2, h3⟩ := h
  exact ⟨D, h1, h2, fun k => by rw [h3, he]⟩
theorem plainElem_bool_inv {P : Program} {e : TypeId} (he : P.underlying e = some .bool) {v : Value} {z : DataW Unit × List MemPlace} (h : plainElem P e v = some z) : ∃ x, v = .bool x ∧ z = (.lit (.bool x), []) := by
  unfold plainElem at h
  rw [he] at h
  cases v <;> simp at h
  subst h
  exact ⟨_, rfl, rfl⟩
theorem SetM.look {w : World} {b n : Nat} {has : List UInt8 → Bool} (h : SetM w b n has) {s : ByteArray} (hs : s.size ≤ maxLen) : (Instr.lookup 224 (.map (some b)) (.string s) false).run Tryz.prog w = .ok (.bool (has s.data.toList)) w := by
  obtain ⟨D, h1, h2, h3⟩ := h
  obtain ⟨v, ps, hrun, hv⟩ := h1.lookup (Maps.string_keyed Tryz.underlying9) Tryz.underlying224 (z := .bool false) (by kernel_rfl) (plainElem_bool Tryz.underlying4 false) (WideMaps.keyOf_string_mk Tryz.underlying9 hs)
  obtain ⟨x, rfl, hx⟩ := plainElem_bool_inv Tryz.underlying4 hv
  rw [h3] at hx
  simp only [Prod.mk.injEq, DataW.lit.injEq, Lit.bool.injEq] at hx
  rw [hx.1]
  exact hrun
theorem SetM.put {w : World} {b n : Nat} {has : List UInt8 → Bool} {ops : Array Oper} {rest : List Oper} {o : Oper} {a : Act} {Q : Exit → Act → World → Prop} (h : SetM w b n has)
    (hg : o.guard = none) (m x v : Operand) (hop : o.op = Op.mapUpdate 224 m x v) (hm : a.eval m = .map (some b)) (hn : n < maxLen) (s : ByteArray) (hx : a.eval x = .string s) (hv : a.eval v = .bool true) (hs : s.size ≤ maxLen)
    (hK : ∀ w', SetM w' b (n + 1) (fun k => decide (k = s.data.toList) || has k) → w.grownBy w' (some b) → wpList Tryz.prog ops Q rest (a.put o.dst undef) w') :
    wpList Tryz.prog ops Q (o :: rest) a w := by
  obtain ⟨D, h1, h2, h3⟩ := h
  refine wpList_mapUpdate_own w hg m x v 224 hop 9 4 (Maps.string_keyed Tryz.underlying9) Tryz.underlying224 _ b n D hm h1 hn (.string s) (.bool true) (.string s.data.toList) hx hv (WideMaps.keyOf_string_mk Tryz.underlying9 hs) (.lit (.bool true)) [] (plainElem_bool Tryz.underlying4 true) ?_
  intro w' q1 q2
  refine hK w' ⟨_, q1, h2.put _ _, fun k => ?_⟩ q2
  by_cases e : k = s.data.toList
  · rw [e, Maps.atKey_put_same h2 (by trivial)]; simp
  · rw [Maps.atKey_put_other (fun h => e (by simpa using h)), h3]; simp [e]
/-- where the values of a found state lie -/
structure QM where
  a : Option Addr
  n : Nat
  c : Nat
def encQ (x : QM × SN) : List Value := [.slice x.1.a x.1.n x.1.c, .int .i64 x.2.fr, .int .i64 x.2.ru, .int .i64 x.2.dp]
/-- a list of found states that is the call's own -/
structure QOwn (w : World) (lo : Nat) (a : Option Addr) (n c : Nat) (l : List (QM × SN)) : Prop where
  row : OwnF 4 encQ (fun _ => True) 121 w lo a n c l
  each : ∀ x ∈ l, OwnI 2 w lo x.1.a x.1.n x.1.c x.2.v
theorem QOwn.keep {w w' : World} {lo : Nat} {a : Option Addr} {n c : Nat} {l : List (QM × SN)} (h : QOwn w lo a n c l) (hb : Below w.heap.size w w') : QOwn w' lo a n c l :=
  ⟨h.row.keep hb, fun x hx => (h.each x hx).keep hb⟩
theorem QOwn.le {w : World} {lo lo' : Nat} {a : Option Addr} {n c : Nat} {l : List (QM × SN)} (h : QOwn w lo a n c l) (hl : lo' ≤ lo) : QOwn w lo' a n c l :=
  ⟨h.row.le hl, fun x hx => (h.each x hx).le hl⟩
/-- a write in a block that is no row leaves the list -/
theorem QOwn.keepG {w w' : World} {lo b : Nat} {a : Option Addr} {n c : Nat} {l : List (QM × SN)} (h : QOwn w lo a n c l) (hg : w.grownBy w' (some b)) (hb : ∀ (cur : Array Value) (E : TypeId), w.heap[b]? ≠ some (.cells cur E (0, 0))) : QOwn w' lo a n c l :=
  ⟨h.row.keepG hg fun g e e' => by
      cases e'
      obtain ⟨cur, h1⟩ := h.row.typ e
      exact hb _ _ h1,
   fun x hx => (h.each x hx).keepG hg fun g e e' => by
      cases e'
      obtain ⟨cur, h1⟩ := (h.each x hx).typ e
      exact hb _ _ h1⟩
theorem QOwn.get {w : World} {lo : Nat} {a : Option Addr} {n c : Nat} {l : List (QM × SN)} (h : QOwn w lo a n c l) {i : Nat} (hi : i < n) :
    ∃ b off R y, a = some ⟨b, off, none⟩ ∧ b < w.heap.size ∧ l[i]? = some (R, y) ∧ OwnI 2 w lo R.a R.n R.c y.v ∧ w.cell? ⟨b, off + i * 4, none⟩ = some (.slice R.a R.n R.c) ∧ w.cell? ⟨b, off + i * 4 + 1, none⟩ = some (.int .i64 y.fr) ∧ w.cell? ⟨b, off + i * 4 + 2, none⟩ = some (.int .i64 y.ru) ∧ w.cell? ⟨b, off + i * 4 + 3, none⟩ = some (.int .i64 y.dp) := by
  obtain ⟨b, off, x, h1, h2, h3, _, h5⟩ := h.row.flats.at hi
  exact ⟨b, off, x.1, x.2, h1, h2, h3, h.each x (List.mem_of_getElem? h3), h5 0 _ rfl, h5 1 _ rfl, h5 2 _ rfl, h5 3 _ rfl⟩
/-- the list of the start alone -/
theorem QOwn.one {w : World} {lo : Nat} (y : QM × SN) (hy : OwnI 2 w lo y.1.a y.1.n y.1.c y.2.v) (hl : lo ≤ w.heap.size) (cs : Array Value) (hcs : cs = #[.slice y.1.a y.1.n y.1.c, .int .i64 y.2.fr, .int .i64 y.2.ru, .int .i64 y.2.dp]) :
    QOwn (w.alloc (.cells cs 121)) lo (some ⟨w.heap.size, 0, none⟩) 1 1 [y] :=
  ⟨OwnF.lit w [y] hl rfl (by decide) (fun _ => rfl) (fun _ _ => trivial) (by rw [hcs]; rfl), fun x hx => by
    simp at hx; rw [hx]; exact hy.keep ((Below.refl _ _).alloc (Nat.le_refl _) _)⟩
theorem SetM.nc {w : World} {b n : Nat} {has : List UInt8 → Bool} (h : SetM w b n has) : ∀ (cur : Array Value) (E : TypeId), w.heap[b]? ≠ some (.cells cur E (0, 0)) := fun cur E e => by
  obtain ⟨D, ⟨es, clock, h1, _⟩, _⟩ := h
  rw [h1] at e; cases e
/-- what the search keeps: the list of found states, the set of their texts -/
structure ExInv (w wr : World) (mb : Nat) (cs : Array Value) (sz : List Int) (L : List SN) (a : Option Addr) (n c : Nat) (l : List (QM × SN)) : Prop where
  lo : w.heap.size + 1 ≤ wr.heap.size
  bl : Below w.heap.size w wr
  x : Blk wr w.heap.size cs 36
  q : QOwn wr (w.heap.size + 1) a n c l
  e : l.map (·.2) = L
  m : SetM wr mb n (hasL L)
  ml : w.heap.size + 1 ≤ mb
  sn : SNs sz L
  dp : DpB L
theorem ExInv.keep {w wr w' : World} {mb : Nat} {cs : Array Value} {sz : List Int} {L : List SN} {a : Option Addr} {n c : Nat} {l : List (QM × SN)} (h : ExInv w wr mb cs sz L a n c l) (hb : Below wr.heap.size wr w') : ExInv w w' mb cs sz L a n c l :=
  ⟨Nat.le_trans h.lo hb.size, h.bl.trans (hb.mono h.bl.size), h.x.keep hb, h.q.keep hb, h.e, h.m.keep hb, h.ml, h.sn, h.dp⟩
theorem ExInv.len {w wr : World} {mb : Nat} {cs : Array Value} {sz : List Int} {L : List SN} {a : Option Addr} {n c : Nat} {l : List (QM × SN)} (h : ExInv w wr mb cs sz L a n c l) : L.length = n := by
  rw [← h.e, List.length_map]; exact h.q.row.flats.len
/-- one more state is found -/
theorem ExInv.app {w w8 w9 w10 : World} {mb : Nat} {cs : Array Value} {sz : List Int} {L : List SN} {a : Option Addr} {n c g c' i q : Nat} {l : List (QM × SN)} {R : QM} {v : List Int} {x : SN} (h : ExInv w w8 mb cs sz L a n c l)
    (hm : SetM w9 mb (n + 1) (fun k => decide (k = keyL v) || hasL L k)) (hg : w8.grownBy w9 (some mb)) (hq : QOwn w10 (w.heap.size + 1) (some ⟨g, 0, none⟩) (n + 1) c' (l ++ [(R, ⟨v, i, q, x.dp + 1, x.tr ++ [(q : Int)]⟩)])) (ht : Touch w9 w10 1 a) (hb : Below (w.heap.size + 1) w9 w10)
    (hx : L[i]? = some x) (hv : SV sz v) (hn : L.any (fun y => y.v == v) = false) : ExInv w w10 mb cs sz (addN i x L (q, v)) (some ⟨g, 0, none⟩) (n + 1) c' (l ++ [(R, ⟨v, i, q, x.dp + 1, x.tr ++ [(q : Int)]⟩)]) := by
  have hq9 := h.q.keepG hg h.m.nc
  have hml := h.ml
  have hlo := h.lo
  refine ⟨by have := hg.size; have := hb.size; omega, (h.bl.grown hg h.bl.size (fun k e => by cases e; omega)).trans (hb.mono (by omega)), (h.x.keepG hg (fun e => by cases e; omega)).keepA ht (fun e => by have := (hq9.row.blk _ e).1; omega), hq, ?_, ?_, hml, h.sn.add hx hv, h.dp.add hx _⟩
  · rw [List.map_append, h.e, addN_new hn]; rfl
  · obtain ⟨r, hgr, hr⟩ := ht
    refine (hm.keepG hgr fun e => ?_).congr fun k => ?_
    · obtain ⟨_, ha⟩ := hr _ e
      obtain ⟨cur, h1⟩ := hq9.row.typ ha
      exact hm.nc _ _ h1
    · rw [addN_new hn, hasL_app]

def cmpL : List Int → List Int → Int
  | a :: r, b :: q => if a < b then -1 else if b < a then 1 else cmpL r q
  | _, _ => 0
theorem cmpL_self : ∀ a : List Int, cmpL a a = 0
  | [] => rfl
  | x :: a => by rw [cmpL, if_neg (by omega), if_neg (by omega)]; exact cmpL_self a
theorem cmpL_eq : ∀ {a b : List Int}, a.length = b.length → cmpL a b = 0 → a = b
  | [], [], _, _ => rfl
  | x :: a, y :: b, hl, h => by
    rw [cmpL] at h
    split at h
    · omega
    · split at h
      · omega
      · rw [cmpL_eq (by simpa using hl) h, show x = y by omega]
  | [], _ :: _, hl, _ => by simp at hl
  | _ :: _, [], hl, _ => by simp at hl
theorem cmpL_range : ∀ (a b : List Int), cmpL a b = -1 ∨ cmpL a b = 0 ∨ cmpL a b = 1
  | [], b => by simp [cmpL]
  | x :: a, [] => by simp [cmpL]
  | x :: a, y :: b => by
    rw [cmpL]
    split
    · exact .inl rfl
    · split
      · exact .inr (.inr rfl)
      · exact cmpL_range a b
theorem cmpL_anti : ∀ (a b : List Int), cmpL b a = - cmpL a b
  | [], b => by cases b <;> simp [cmpL]
  | x :: a, [] => by simp [cmpL]
  | x :: a, y :: b => by
    rw [cmpL, cmpL]
    by_cases h1 : x < y
    · rw [if_pos h1, if_neg (by omega), if_pos h1]; omega
    · by_cases h2 : y < x
      · rw [if_pos h2, if_neg h1, if_pos h2]
      · rw [if_neg h1, if_neg h2, if_neg h2, if_neg h1]; exact cmpL_anti a b
theorem cmpL_trans : ∀ {a b c : List Int}, a.length = b.length → b.length = c.length → cmpL a b < 0 → cmpL b c < 0 → cmpL a c < 0
  | [], [], _, _, _, h, _ => by simp [cmpL] at h
  | x :: a, y :: b, z :: c, h1, h2, h3, h4 => by
    rw [cmpL] at h3 h4 ⊢
    by_cases q1 : x < y
    · by_cases q2 : y < z
      · rw [if_pos (by omega)]; omega
      · rw [if_neg q2] at h4
        by_cases q3 : z < y
        · rw [if_pos q3] at h4; omega
        · rw [if_pos (by omega)]; omega
    · rw [if_neg q1] at h3
      by_cases q2 : y < x
      · rw [if_pos q2] at h3; omega
      · rw [if_neg q2] at h3
        by_cases q3 : y < z
        · rw [if_pos (by omega)]; omega
        · rw [if_neg q3] at h4
          by_cases q4 : z < y
          · rw [if_pos q4] at h4; omega
          · rw [if_neg q4] at h4
            rw [if_neg (by omega), if_neg (by omega)]
            exact cmpL_trans (by simpa using h1) (by simpa using h2) h3 h4
  | [], _ :: _, _, h, _, _, _ => by simp at h
  | _ :: _, [], _, h, _, _, _ => by simp at h
  | _ :: _, _ :: _, [], _, h, _, _ => by simp at h
/-- the comparison, place by place -/
theorem cmpL_at : ∀ {a b : List Int} {k : Nat}, a.take k = b.take k → ∀ {x y : Int}, a[k]? = some x → b[k]? = some y → cmpL a b = if x < y then -1 else if y < x then 1 else cmpL (a.drop (k + 1)) (b.drop (k + 1))
  | x' :: a, y' :: b, 0, _, x, y, h1, h2 => by
    simp at h1 h2
    subst h1 h2
    rw [cmpL]; rfl
  | x' :: a, y' :: b, k + 1, h, x, y, h1, h2 => by
    simp at h h1 h2
    obtain ⟨rfl, h⟩ := h
    rw [cmpL, if_neg (by omega), if_neg (by omega), cmpL_at h h1 h2]; rfl
  | [], _, k, _, _, _, h1, _ => by simp at h1
  | _ :: _, [], k, _, _, _, _, h2 => by simp at h2
/-- states of one length, ascending -/
def AscS (m : Nat) (l : List (List Int)) : Prop := (∀ x ∈ l, x.length = m) ∧ l.Pairwise fun a b => cmpL a b < 0
theorem asc_lt {m : Nat} {l : List (List Int)} (h : AscS m l) {i j : Nat} {a b : List Int} (hi : l[i]? = some a) (hj : l[j]? = some b) (hij : i < j) : cmpL a b < 0 := by
  have h1 := List.pairwise_iff_getElem.1 h.2
  obtain ⟨i1, i2⟩ := List.getElem?_eq_some_iff.1 hi
  obtain ⟨j1, j2⟩ := List.getElem?_eq_some_iff.1 hj
  have := h1 i j i1 j1 hij
  rw [i2, j2] at this
  exact this
/-- where a state belongs: before it what is less, from it on what is not -/
def Plc (l : List (List Int)) (x : List Int) (p : Nat) : Prop := p ≤ l.length ∧ (∀ (i : Nat) (a : List Int), l[i]? = some a → i < p → cmpL a x < 0) ∧ ∀ (i : Nat) (a : List Int), l[i]? = some a → p ≤ i → 0 ≤ cmpL a x
theorem plc_mem {m : Nat} {l : List (List Int)} {x : List Int} {p : Nat} (h : AscS m l) (hx : x.length = m) (hp : Plc l x p) : (∃ a, l[p]? = some a ∧ cmpL a x = 0) ↔ x ∈ l := by
  constructor
  · rintro ⟨a, ha, h0⟩
    have hm := List.mem_of_getElem? ha
    have := cmpL_eq (by rw [h.1 a hm, hx]) h0
    rw [← this]; exact hm
  · intro hm
    obtain ⟨i, hi⟩ := List.getElem?_of_mem hm
    have h1 : p ≤ i := Nat.le_of_not_lt fun hlt => by have := hp.2.1 i x hi hlt; rw [cmpL_self] at this; omega
    have hil : i < l.length := (List.getElem?_eq_some_iff.1 hi).1
    have hpl : p < l.length := by omega
    refine ⟨l[p], List.getElem?_eq_getElem hpl, ?_⟩
    have h2 := hp.2.2 p _ (List.getElem?_eq_getElem hpl) (Nat.le_refl _)
    rcases Nat.lt_or_ge p i with h3 | h3
    · have := asc_lt h (List.getElem?_eq_getElem hpl) hi h3; omega
    · have e : p = i := by omega
      have h4 := List.getElem?_eq_getElem hpl
      subst e
      rw [h4] at hi
      cases hi
      exact cmpL_self _
theorem asc_insert {m : Nat} {l : List (List Int)} {x : List Int} {p : Nat} (h : AscS m l) (hx : x.length = m) (hp : Plc l x p) (hn : x ∉ l) : AscS m (l.take p ++ [x] ++ l.drop p) ∧ ∀ y, y ∈ l.take p ++ [x] ++ l.drop p ↔ y = x ∨ y ∈ l := by
  have hmem : ∀ y, y ∈ l.take p ++ [x] ++ l.drop p ↔ y = x ∨ y ∈ l := fun y => by
    have e : y ∈ l ↔ y ∈ l.take p ∨ y ∈ l.drop p := by
      conv => lhs; rw [← List.take_append_drop p l]
      exact List.mem_append
    simp only [List.mem_append, List.mem_singleton, e]
    constructor
    · rintro ((h | h) | h)
      · exact .inr (.inl h)
      · exact .inl h
      · exact .inr (.inr h)
    · rintro (h | h | h)
      · exact .inl (.inr h)
      · exact .inl (.inl h)
      · exact .inr h
  refine ⟨⟨fun y hy => ?_, ?_⟩, hmem⟩
  · rcases (hmem y).1 hy with h1 | h1
    · rw [h1]; exact hx
    · exact h.1 y h1
  · have hlo : ∀ a ∈ l.take p, cmpL a x < 0 := fun a ha => by
      obtain ⟨i, hi⟩ := List.getElem?_of_mem ha
      rw [List.getElem?_take] at hi
      split at hi
      · exact hp.2.1 i a hi (by assumption)
      · cases hi
    have hhi : ∀ a ∈ l.drop p, cmpL x a < 0 := fun a ha => by
      obtain ⟨i, hi⟩ := List.getElem?_of_mem ha
      rw [List.getElem?_drop] at hi
      have h1 := hp.2.2 (p + i) a hi (by omega)
      have hm := List.mem_of_getElem? hi
      have h2 : cmpL a x ≠ 0 := fun h0 => hn (by rw [← cmpL_eq (by rw [h.1 a hm, hx]) h0]; exact hm)
      have h3 := cmpL_anti a x
      omega
    have hpt : (l.take p).Pairwise (fun a b => cmpL a b < 0) := h.2.sublist (List.take_sublist _ _)
    have hpd : (l.drop p).Pairwise (fun a b => cmpL a b < 0) := h.2.sublist (List.drop_sublist _ _)
    rw [List.append_assoc, List.pairwise_append]
    refine ⟨hpt, ?_, fun a ha b hb => ?_⟩
    · rw [List.singleton_append, List.pairwise_cons]
      exact ⟨hhi, hpd⟩
    · rw [List.singleton_append] at hb
      rcases List.mem_cons.1 hb with rfl | hb
      · exact hlo a ha
      · have l1 := h.1 a (List.mem_of_mem_take ha)
        have l2 := h.1 b (List.mem_of_mem_drop hb)
        exact cmpL_trans (by rw [l1, hx]) (by rw [hx, l2]) (hlo a ha) (hhi b hb)
end Go.Proofs.YtkaikbaagajckaaGreat
