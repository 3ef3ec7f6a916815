/- Valid models, walked: the program.; The rules that are enabled in a state: the program, walked.; A set of texts: a map from texts to truth values that the call makes.; Rules and models of the exact laws: sizes.; Rules and models of the exact laws: sizes of lists of rules.; Rules and models of the exact laws: comparisons.; Rules of the call's own: blocks apart, and what a write in one of them leaves.; The list of the states that a search has found: a row of records, each with a slice of the call's own.; Rows of states: slices of slices of numbers that are the call's own; what the reference's search keeps. -/
import Derived.Test.YtkaikbaagajckaaGreatL20g
import Derived.Test.YtkaikbaagajckaaGreatK04
import Derived.Test.YtkaikbaagajckaaGreatBase
import Derived.Maps.Own
import Derived.Maps.Views
import Derived.Maps.OwnOps
import Derived.Test.YtkaikbaagajckaaGreatFl
import Derived.Test.YtkaikbaagajckaaGreatK03
namespace Go.Proofs.YtkaikbaagajckaaGreat
open Go.RowKit
set_option linter.unusedVariables false
set_option linter.unusedSimpArgs false
/-- a rule in memory reads as a rule, in the world w0 -/
def RuM (w0 : World) (x : RM × RuD) : Prop := x.1.nm = x.2.nm ∧ x.2.nm.size ≤ maxLen ∧ F2b w0 x.1.ga x.1.gn x.1.gc x.2.g ∧ x.1.gn ≤ 1048576 ∧ F2 w0 x.1.ea x.1.en x.1.ec x.2.e ∧ x.1.en ≤ 1048576
def encR (x : RM × RuD) : List Value := x.1.enc
/-- a slice of rules: its cells in w, what they point at in w0 -/
abbrev FR (w0 : World) := Flats 3 encR (RuM w0)
theorem FR.get {w0 w : World} {a : Option Addr} {n c : Nat} {l : List (RM × RuD)} (h : FR w0 w a n c l) {i : Nat} (hi : i < n) :
    ∃ b off R r, a = some ⟨b, off, none⟩ ∧ b < w.heap.size ∧ l[i]? = some (R, r) ∧ RuM w0 (R, r) ∧ w.cell? ⟨b, off + i * 3, none⟩ = some (.string R.nm) ∧ w.cell? ⟨b, off + i * 3 + 1, none⟩ = some (.slice R.ga R.gn R.gc) ∧ w.cell? ⟨b, off + i * 3 + 2, none⟩ = some (.slice R.ea R.en R.ec) := by
  obtain ⟨b, off, x, h1, h2, h3, h4, h5⟩ := h.at hi
  exact ⟨b, off, x.1, x.2, h1, h2, h3, h4, h5 0 _ rfl, h5 1 _ rfl, h5 2 _ rfl⟩
def rulesB (sz : List Int) (l : List (RM × RuD)) : Bool := l.all fun x => ruleB sz x.2
def modelB (sz st : List Int) (l : List (RM × RuD)) : Bool := inB (sz.length : Int) 1 16 && (allIn 1 32 sz && (stateB sz st && (decide (l.length ≤ 200) && rulesB sz l)))
theorem rulesB_any {sz : List Int} {l : List (RM × RuD)} : rulesB sz l = !(l.any fun x => !ruleB sz x.2) := by
  rw [rulesB, List.not_any_eq_all_not]; simp
theorem allIn_any {lo hi : Int} {l : List Int} : (l.any fun x => !inB x lo hi) = !allIn lo hi l := by
  rw [allIn, List.not_all_eq_any_not]
theorem impl_IsModel_1 {x : Int} {w : World} : Calls Tryz.prog 125 #[.int .i64 x] w fun e w' => e = .returned (.bool (!inB x 1 32)) ∧ w = w' := by
  go_enter Tryz.func125, Tryz.ntmps125
  go_wp2_with fail
  refine Calls.mono (impl_within) ?_
  rintro e _ ⟨rfl, rfl⟩
  go_wp2
  go_ret
  exact ⟨rfl, rfl⟩
set_option maxHeartbeats 1000000 in
theorem impl_IsModel_2 {x : RM × RuD} {B : Nat} {sa ta ra : Option Addr} {sn sc tn tc rn rc : Nat} {sz : List Int} {w0 w : World} (hB : Blk w B #[.slice sa sn sc, .slice ta tn tc, .slice ra rn rc] 36) (hI : Ints w sa sn sc sz) (hn : sn ≤ 1048576) (hs : allIn 1 32 sz = true) (hR : RuM w0 x) (hb0 : Below w0.heap.size w0 w) :
    Calls Tryz.prog 128 (#[.agg (encR x).toArray] ++ #[.pointer (some ⟨B, 0, none⟩)]) w fun e w' => e = .returned (.bool (!ruleB sz x.2)) ∧ Below w.heap.size w w' := by
  obtain ⟨R, r⟩ := x
  obtain ⟨e1, h2, hg, hgn, he, hen⟩ := hR
  simp only at e1 h2 hg hgn he hen
  have x0 := hB.cell 0
  have x1 := hB.cell 1
  have x2 := hB.cell 2
  have xl := hB.lt
  simp at x0 x1 x2
  have h := fun (wx : World) (hb : Below w.heap.size w wx) => impl_isRule (r := r) (ta := ta) (tn := tn) (tc := tc) (ra := ra) (rn := rn) (rc := rc) (hI.keep hb) hn hs ((hg.keep hb0).keep hb) hgn ((he.keep hb0).keep hb) hen
  rw [← e1] at h
  have H := Lib.hid h
  clear h hI hB hs hg he hb0 e1 h2
  show Calls _ _ #[.agg #[.string R.nm, .slice R.ga R.gn R.gc, .slice R.ea R.en R.ec], .pointer (some ⟨B, 0, none⟩)] _ _
  go_enter Tryz.func128, Tryz.ntmps128
  go_wp2_with fail
  refine Calls.mono (H.out _ bel) ?_
  rintro e w1 ⟨rfl, hb_w1⟩
  obtain ⟨hc_w1, hf_w1⟩ := bcell hb_w1
  have hs_w1 := hb_w1.size
  go_wp2
  go_ret
  exact ⟨rfl, bel⟩
set_option maxHeartbeats 1000000 in
theorem slices_IndexFunc_Rule {g : Nat} {lb : Array Value} {p : RM × RuD → Bool} {a : Option Addr} {n c : Nat} {l : List (RM × RuD)} {w0 w : World}
    (eg : ∀ args w, (callFunc g args).run Tryz.prog w = .ok (.enter g args) w) (hp : PredF Tryz.prog g lb encR (RuM w0) p w) (hI : FR w0 w a n c l) (hn : n ≤ 1048576) :
    Calls Tryz.prog 181 #[.slice a n c, .func (.func g) #[] lb] w fun e w' => e = .returned (.int .i64 (idxF p l)) ∧ Below w.heap.size w w' := by
  have HP := Lib.hid hp
  clear hp
  go_enter Tryz.func181, Tryz.ntmps181
  go_wp2
  go_loopg [5, 8] n (fun gg _ s8 wr => ∃ kk : Nat, kk ≤ n ∧ n - kk ≤ gg ∧ s8 = .int .i64 kk ∧ Below w.heap.size w wr ∧ Hid ((l.take kk).any p = false))
  case atStart => exact ⟨0, Nat.zero_le _, by omega, rfl, Below.refl _ _, rfl⟩
  case round =>
    obtain ⟨kk, hkk, hg, rfl, hbl, A⟩ := hrel
    have HI := Lib.hid hI
    by_cases hlt : kk < n
    · obtain ⟨b, off, R, r, rfl, hb, hx, hwf, c0, c1, c2⟩ := FR.get (hI.keep hbl) hlt
      have Hx := Lib.hid hx
      have hcall := HP.out _ (R, r) hwf hbl
      clear hx hI hwf
      cases hq : p (R, r) with
      | true =>
        have Hq := Lib.hid hq
        rw [hq] at hcall
        clear hq
        go_wp2_with (go_at_fn g; refine hcall.mono ?_; rintro e w1 ⟨rfl, hb1⟩)
        go_ret
        exact ⟨ret_int (by rw [idxF_hit Hx.out Hq.out A.out]), below_call hbl hb1 hbl.size⟩
      | false =>
        have Hq := Lib.hid hq
        rw [hq] at hcall
        clear hq
        go_wp2_with (go_at_fn g; refine hcall.mono ?_; rintro e w1 ⟨rfl, hb1⟩)
        go_roundg (n - (kk + 1))
        case measure => omega
        case rel => exact ⟨kk + 1, by omega, by omega, by go_num, below_call hbl hb1 hbl.size, any_take_step Hx.out A.out Hq.out⟩
    · clear hI
      go_wp2
      go_ret
      have e : l.take kk = l := take_len (by have := HI.out.len; omega)
      have h1 := A.out
      rw [e] at h1
      exact ⟨ret_int (by rw [idxF_miss h1]), hbl⟩
theorem slices_ContainsFunc_Rule {g : Nat} {lb : Array Value} {p : RM × RuD → Bool} {a : Option Addr} {n c : Nat} {l : List (RM × RuD)} {w0 w : World}
    (eg : ∀ args w, (callFunc g args).run Tryz.prog w = .ok (.enter g args) w) (hp : PredF Tryz.prog g lb encR (RuM w0) p w) (hI : FR w0 w a n c l) (hn : n ≤ 1048576) :
    Calls Tryz.prog 127 #[.slice a n c, .func (.func g) #[] lb] w fun e w' => e = .returned (.bool (l.any p)) ∧ Below w.heap.size w w' := by
  have h := idxF_nonneg p l
  have hc := slices_IndexFunc_Rule eg hp hI hn
  generalize idxF p l = r at h hc
  have H := Lib.hid h
  have HI := Lib.hid hI
  have HP := Lib.hid hp
  clear h hI hp
  go_enter Tryz.func127, Tryz.ntmps127
  go_wp2_with fail
  refine Calls.mono hc ?_
  rintro e w1 ⟨rfl, hb1⟩
  go_wp2
  go_ret
  exact ⟨ret_bool H.out, hb1⟩
end Go.Proofs.YtkaikbaagajckaaGreat
namespace Go.Proofs.YtkaikbaagajckaaGreat
open Go.RowKit
set_option linter.unusedVariables false
set_option linter.unusedSimpArgs false
def enabI (rs : List RuD) (v : List Int) (j : Nat) : List Int := ((List.range j).filter fun i => holdsP v (rs.getD i zRu).g).map fun (i : Nat) => (i : Int)
theorem enabI_step {rs : List RuD} {v : List Int} {j : Nat} {r : RuD} (hr : rs[j]? = some r) : enabI rs v (j + 1) = if holdsP v r.g = true then enabI rs v j ++ [(j : Int)] else enabI rs v j := by
  have e : rs.getD j zRu = r := by rw [List.getD_eq_getElem?_getD, hr]; rfl
  rw [enabI, List.range_succ, List.filter_append, List.map_append]
  have e1 : List.filter (fun i => holdsP v (rs.getD i zRu).g) [j] = if holdsP v r.g = true then [j] else [] := by
    rw [List.filter_cons, e]; rfl
  rw [e1]
  by_cases h : holdsP v r.g = true
  · rw [if_pos h, if_pos h]; rfl
  · rw [if_neg h, if_neg h]; exact List.append_nil _
theorem enabI_yes {rs : List RuD} {v : List Int} {j : Nat} {r : RuD} (hr : rs[j]? = some r) (h : holdsP v r.g = true) : enabI rs v (j + 1) = enabI rs v j ++ [(j : Int)] := by rw [enabI_step hr, if_pos h]
theorem enabI_no {rs : List RuD} {v : List Int} {j : Nat} {r : RuD} (hr : rs[j]? = some r) (h : holdsP v r.g = false) : enabI rs v (j + 1) = enabI rs v j := by rw [enabI_step hr, if_neg (by simp [h])]
theorem enabI_len {rs : List RuD} {v : List Int} {j : Nat} : (enabI rs v j).length ≤ j := by
  rw [enabI, List.length_map]; exact Nat.le_trans (List.length_filter_le _ _) (by simp)
set_option maxHeartbeats 4000000 in
theorem impl_enabled {sa ta ra va : Option Addr} {sn sc tn tc rn rc vn vc : Nat} {v : List Int} {lr : List (RM × RuD)} {w0 w : World} (hb0 : Below w0.heap.size w0 w) (hR : FR w0 w ra rn rc lr) (hr : rn ≤ 1048576) (hV : Ints w va vn vc v) (hv : ∀ x ∈ lr, ∀ t ∈ x.2.g, 0 ≤ t.a ∧ t.a < (vn : Int)) (hg : ∀ x ∈ lr, x.1.gn ≤ 1048576) :
    Calls Tryz.prog 160 #[.agg #[.slice sa sn sc, .slice ta tn tc, .slice ra rn rc], .slice va vn vc] w fun e w' => ∃ a n c, e = .returned (.slice a n c) ∧ OwnI 2 w' w.heap.size a n c (enabI (lr.map (·.2)) v rn) ∧ n ≤ rn ∧ Below w.heap.size w w' := by
  have X := Lib.hid (Blk.made w #[.slice sa sn sc, .slice ta tn tc, .slice ra rn rc] 36)
  obtain ⟨wA, hwA⟩ : ∃ wA : World, wA = w.alloc (.cells #[.slice sa sn sc, .slice ta tn tc, .slice ra rn rc] 36) := ⟨_, rfl⟩
  have hsA : w.heap.size + 1 ≤ wA.heap.size := by rw [hwA]; simp
  have hbA : Below w.heap.size w wA := by rw [hwA]; exact bel
  rw [← hwA] at X
  have HR := Lib.hid hR
  have HV := Lib.hid hV
  have HVT := Lib.hid hv
  have HG := Lib.hid hg
  have H0 := Lib.hid hb0
  have x2 := X.out.cell 2
  have xl := X.out.lt
  simp at x2
  clear hR hV hv hg hb0
  go_enter Tryz.func160, Tryz.ntmps160
  have Hw := Lib.hid hwA
  clear hwA
  go_wp2_with fail
  go_loopw [5, 11] (fun s5 s11 wr => ∃ (j : Nat) (a : Option Addr) (n c : Nat), s5 = .slice a n c ∧ s11 = .int .i64 j ∧ j ≤ rn ∧ n ≤ j ∧ w.heap.size + 1 ≤ wr.heap.size ∧ Below w.heap.size w wr ∧ Hid (Blk wr w.heap.size #[.slice sa sn sc, .slice ta tn tc, .slice ra rn rc] 36) ∧ Hid (OwnI 2 wr (w.heap.size + 1) a n c (enabI (lr.map (·.2)) v j))) (fun _ s11 _ => rn - (intOf s11).toNat)
  case atStart =>
    obtain rfl := Hw.out
    exact ⟨0, none, 0, 0, rfl, rfl, by omega, by omega, hsA, hbA, X, Lib.hid (OwnI.nil _ _ _)⟩
  case round =>
    clear X hbA hsA Hw x2 xl
    obtain ⟨j, a, n, c, rfl, rfl, hj, hnj, hsr, hbl, X, O⟩ := hrel
    by_cases hlt : j < rn
    · have hlt' : (j : Int) < (rn : Int) := by omega
      have hj0 : (0 : Int) ≤ (j : Int) := by omega
      obtain ⟨b, off, R, r, rfl, hb, hx, hru, c0, c1, c2⟩ := FR.get (HR.out.keep hbl) hlt
      have hxm := List.mem_of_getElem? hx
      have hgv := HVT.out _ hxm
      have hgn := HG.out _ hxm
      obtain ⟨_, _, hF, _⟩ := hru
      simp only at hgv hgn hF
      have Hx := Lib.hid (show (lr.map (·.2))[j]? = some r by rw [List.getElem?_map, hx]; rfl)
      have HF := Lib.hid hF
      have HGV := Lib.hid hgv
      have HGN := Lib.hid hgn
      have hb1 : Below w0.heap.size w0 wr := (H0.out).trans (hbl.mono H0.out.size)
      clear hx hxm hgv hgn hF
      go_wp2_with fail
      have hb2 : Below wr.heap.size wr (wr.alloc (.cells #[.string r.nm, .slice R.ga R.gn R.gc, .slice R.ea R.en R.ec] 149)) := bel
      refine Calls.mono (impl_holds (((HV.out.keep hbl).keep hb2)) ((HF.out.keep hb1).keep hb2) HGN.out HGV.out) ?_
      rintro e w1 ⟨rfl, hbh⟩
      have hs1 := hbh.size
      simp at hs1
      have hb3 : Below wr.heap.size wr w1 := bel
      have hbw1 : Below w.heap.size w w1 := bel
      have X1 := Lib.hid (X.out.keep hb3)
      have O1 := Lib.hid (O.out.keep hb3)
      clear hb2 c0 c1 c2 X O
      cases hh : holdsP v r.g with
      | true =>
        have HY := Lib.hid (enabI_yes Hx.out hh)
        have hj64 : I64 (j : Int) := (by first | assumption | decide | (unfold I64; omega))
        go_wp2_with (at_builtin; (refine appI1 rfl _ _ rfl Tryz.underlying22 Tryz.infoi64 (w.heap.size + 1) _ _ _ _ O1.out rfl _ rfl rfl (by first | assumption | decide | (unfold I64; omega)) (by omega) (by omega) ?_; intro g' c3 wn ho hb4 ht hat hsn; have X2 := Lib.hid (X1.out.keepA ht (fun e => by have := (O1.out.blk _ e).1; omega)); have S := Lib.hid ho; clear ho ht))
        go_roundw
        case rel =>
          refine ⟨j + 1, _, _, _, rfl, by go_num, by omega, by omega, by omega, hbw1.trans (hb4.mono (by omega)), X2, ?_⟩
          rw [HY.out]; exact S
        case measure => simp [intOf]; omega
      | false =>
        have HN := Lib.hid (enabI_no Hx.out hh)
        go_wp2
        go_roundw
        case rel =>
          refine ⟨j + 1, _, _, _, rfl, by go_num, by omega, by omega, by omega, bel, X1, ?_⟩
          rw [HN.out]; exact O1
        case measure => simp [intOf]; omega
    · obtain rfl : rn = j := by omega
      have hlt' : ¬ (rn : Int) < (rn : Int) := by omega
      go_wp2
      go_ret
      exact ⟨_, _, _, rfl, O.out.le (by omega), hnj, hbl⟩
end Go.Proofs.YtkaikbaagajckaaGreat
namespace Go.Proofs.YtkaikbaagajckaaGreat
open Go.RowKit
set_option linter.unusedVariables false
set_option linter.unusedSimpArgs false
/-- block b is a map in which just the texts that 'has' says stand with true -/
def SetM (w : World) (b n : Nat) (has : List UInt8 → Bool) : Prop :=
  ∃ D : DataW Unit, w.ownsMap Tryz.prog 9 (plainElem Tryz.prog 4) b n D ∧ Maps.IsMap D ∧ ∀ k, D.atKey (.string k) (.lit (.bool false)) = .lit (.bool (has k))
theorem SetM.lt {w : World} {b n : Nat} {has : List UInt8 → Bool} (h : SetM w b n has) : b < w.heap.size := by
  obtain ⟨D, h1, _⟩ := h
  exact h1.lt
theorem SetM.made (w : World) : SetM (w.alloc (.map #[] 0)) w.heap.size 0 (fun _ => false) :=
  ⟨.map [], World.ownsMap_made w _ _ _, ⟨_, rfl⟩, fun k => rfl⟩
theorem SetM.keepG {w w' : World} {b n : Nat} {has : List UInt8 → Bool} {r : Option Nat} (h : SetM w b n has) (hg : w.grownBy w' r) (hne : r ≠ some b) : SetM w' b n has := by
  obtain ⟨D, h1, h2, h3⟩ := h
  exact ⟨D, h1.kept hg (fun e => hne e.symm), h2, h3⟩
theorem SetM.keep {w w' : World} {b n : Nat} {has : List UInt8 → Bool} (h : SetM w b n has) (hb : Below w.heap.size w w') : SetM w' b n has := h.keepG (grownBy_below hb none) (fun e => by cases e)
theorem SetM.congr {w : World} {b n : Nat} {has has' : List UInt8 → Bool} (h : SetM w b n has) (he : ∀ k, has k = has' k) : SetM w b n has' := by
  obtain ⟨D, h1, h2, h3⟩ := h
  exact ⟨D, h1, h2, fun k => by rw [h3, he]⟩
theorem plainElem_bool_inv {P : Program} {e : TypeId} (he : P.underlying e = some .bool) {v : Value} {z : DataW Unit × List MemPlace} (h : plainElem P e v = some z) : ∃ x, v = .bool x ∧ z = (.lit (.bool x), []) := by
  unfold plainElem at h
  rw [he] at h
  cases v <;> simp at h
  subst h
  exact ⟨_, rfl, rfl⟩
theorem SetM.look {w : World} {b n : Nat} {has : List UInt8 → Bool} (h : SetM w b n has) {s : ByteArray} (hs : s.size ≤ maxLen) : (Instr.lookup 224 (.map (some b)) (.string s) false).run Tryz.prog w = .ok (.bool (has s.data.toList)) w := by
  obtain ⟨D, h1, h2, h3⟩ := h
  obtain ⟨v, ps, hrun, hv⟩ := h1.lookup (Maps.string_keyed Tryz.underlying9) Tryz.underlying224 (z := .bool false) (by kernel_rfl) (plainElem_bool Tryz.underlying4 false) (WideMaps.keyOf_string_mk Tryz.underlying9 hs)
  obtain ⟨x, rfl, hx⟩ := plainElem_bool_inv Tryz.underlying4 hv
  rw [h3] at hx
  simp only [Prod.mk.injEq, DataW.lit.injEq, Lit.bool.injEq] at hx
  rw [hx.1]
  exact hrun
theorem SetM.put {w : World} {b n : Nat} {has : List UInt8 → Bool} {ops : Array Oper} {rest : List Oper} {o : Oper} {a : Act} {Q : Exit → Act → World → Prop} (h : SetM w b n has)
    (hg : o.guard = none) (m x v : Operand) (hop : o.op = Op.mapUpdate 224 m x v) (hm : a.eval m = .map (some b)) (hn : n < maxLen) (s : ByteArray) (hx : a.eval x = .string s) (hv : a.eval v = .bool true) (hs : s.size ≤ maxLen)
    (hK : ∀ w', SetM w' b (n + 1) (fun k => decide (k = s.data.toList) || has k) → w.grownBy w' (some b) → wpList Tryz.prog ops Q rest (a.put o.dst undef) w') :
    wpList Tryz.prog ops Q (o :: rest) a w := by
  obtain ⟨D, h1, h2, h3⟩ := h
  refine wpList_mapUpdate_own w hg m x v 224 hop 9 4 (Maps.string_keyed Tryz.underlying9) Tryz.underlying224 _ b n D hm h1 hn (.string s) (.bool true) (.string s.data.toList) hx hv (WideMaps.keyOf_string_mk Tryz.underlying9 hs) (.lit (.bool true)) [] (plainElem_bool Tryz.underlying4 true) ?_
  intro w' q1 q2
  refine hK w' ⟨_, q1, h2.put _ _, fun k => ?_⟩ q2
  by_cases e : k = s.data.toList
  · rw [e, Maps.atKey_put_same h2 (by trivial)]; simp
  · rw [Maps.atKey_put_other (fun h => e (by simpa using h)), h3]; simp [e]
end Go.Proofs.YtkaikbaagajckaaGreat
namespace Go.Proofs.YtkaikbaagajckaaGreat
open Go.RowKit
set_option linter.unusedVariables false
set_option linter.unusedSimpArgs false
def szN (m : Int) (x : Nat) : Int := if m < (x : Int) then -1 else m - x
theorem szN_lt {m : Int} {x : Nat} (h : m < (x : Int)) : szN m x = -1 := if_pos h
theorem szN_ge {m : Int} {x : Nat} (h : ¬ m < (x : Int)) : szN m x = m - x := if_neg h
set_option maxHeartbeats 1000000 in
theorem laws_szRule {nm : ByteArray} {ga ea : Option Addr} {gn gc en ec : Nat} {m : Int} {w : World} (hs : nm.size ≤ maxLen) (hg : (gn : Int) ≤ 9223372036854775807) (he : (en : Int) ≤ 9223372036854775807) (hm : 0 ≤ m) (hm' : m ≤ 1048576) :
    Calls Tryz.prog 103 #[.agg #[.string nm, .slice ga gn gc, .slice ea en ec], .int .i64 m] w fun e w' => e = .returned (.int .i64 (szN m (nm.size + gn + en))) ∧ Below w.heap.size w w' := by
  have hs' : (nm.size : Int) ≤ 9223372036854775807 := by have : nm.size ≤ 9223372036854775807 := hs; omega
  by_cases h1 : m < (nm.size : Int)
  · have h1' : m - (nm.size : Int) < 0 := by omega
    have HR := Lib.hid (szN_lt (m := m) (x := nm.size + gn + en) (by omega))
    go_enter Tryz.func103, Tryz.ntmps103
    go_wp2
    go_ret
    exact ⟨ret_int HR.out.symm, bel⟩
  · have h1' : ¬ m - (nm.size : Int) < 0 := by omega
    have k1 := fun (wx : World) => laws_szTestS (a := ga) (n := gn) (c := gc) (m := m - nm.size) (w := wx) hg (by omega) (by omega)
    by_cases h2 : m - (nm.size : Int) < (gn : Int)
    · have HR := Lib.hid (szN_lt (m := m) (x := nm.size + gn + en) (by omega))
      simp only [if_pos h2] at k1
      have K1 := Lib.hid k1
      clear k1
      go_enter Tryz.func103, Tryz.ntmps103
      go_wp2_with fail
      go_wp2_with fail
      refine Calls.mono ((K1.out _)) ?_
      rintro e _ ⟨rfl, rfl⟩
      go_wp2
      go_ret
      exact ⟨ret_int HR.out.symm, bel⟩
    · simp only [if_neg h2] at k1
      have K1 := Lib.hid k1
      have h2' : ¬ m - (nm.size : Int) - (gn : Int) < 0 := by omega
      have k2 := fun (wx : World) => laws_szAssignS (a := ea) (n := en) (c := ec) (m := m - nm.size - gn) (w := wx) he (by omega) (by omega)
      clear k1
      by_cases h3 : m - (nm.size : Int) - (gn : Int) < (en : Int)
      · have HR := Lib.hid (szN_lt (m := m) (x := nm.size + gn + en) (by omega))
        simp only [if_pos h3] at k2
        have K2 := Lib.hid k2
        clear k2
        go_enter Tryz.func103, Tryz.ntmps103
        go_wp2_with fail
        go_wp2_with fail
        refine Calls.mono ((K1.out _)) ?_
        rintro e _ ⟨rfl, rfl⟩
        go_wp2_with fail
        go_wp2_with fail
        refine Calls.mono ((K2.out _)) ?_
        rintro e _ ⟨rfl, rfl⟩
        go_wp2
        go_ret
        exact ⟨ret_int HR.out.symm, bel⟩
      · have HR := Lib.hid ((szN_ge (m := m) (x := nm.size + gn + en) (by omega)).trans (show m - ((nm.size + gn + en : Nat) : Int) = m - nm.size - gn - en by omega))
        have h3' : ¬ m - (nm.size : Int) - (gn : Int) - (en : Int) < 0 := by omega
        simp only [if_neg h3] at k2
        have K2 := Lib.hid k2
        clear k2
        go_enter Tryz.func103, Tryz.ntmps103
        go_wp2_with fail
        go_wp2_with fail
        refine Calls.mono ((K1.out _)) ?_
        rintro e _ ⟨rfl, rfl⟩
        go_wp2_with fail
        go_wp2_with fail
        refine Calls.mono ((K2.out _)) ?_
        rintro e _ ⟨rfl, rfl⟩
        go_wp2
        go_ret
        exact ⟨ret_int HR.out.symm, bel⟩
end Go.Proofs.YtkaikbaagajckaaGreat
namespace Go.Proofs.YtkaikbaagajckaaGreat
open Go.RowKit
set_option linter.unusedVariables false
set_option linter.unusedSimpArgs false
/-- a rule in memory reads as a rule, of any size -/
def RuX (w0 : World) (x : RM × RuD) : Prop := x.1.nm = x.2.nm ∧ x.2.nm.size ≤ maxLen ∧ F2b w0 x.1.ga x.1.gn x.1.gc x.2.g ∧ x.1.gn ≤ maxLen ∧ F2 w0 x.1.ea x.1.en x.1.ec x.2.e ∧ x.1.en ≤ maxLen
abbrev FX (w0 : World) := Flats 3 encR (RuX w0)
theorem FX.get {w0 w : World} {a : Option Addr} {n c : Nat} {l : List (RM × RuD)} (h : FX w0 w a n c l) {i : Nat} (hi : i < n) :
    ∃ b off R r, a = some ⟨b, off, none⟩ ∧ b < w.heap.size ∧ l[i]? = some (R, r) ∧ RuX w0 (R, r) ∧ w.cell? ⟨b, off + i * 3, none⟩ = some (.string R.nm) ∧ w.cell? ⟨b, off + i * 3 + 1, none⟩ = some (.slice R.ga R.gn R.gc) ∧ w.cell? ⟨b, off + i * 3 + 2, none⟩ = some (.slice R.ea R.en R.ec) := by
  obtain ⟨b, off, x, h1, h2, h3, h4, h5⟩ := h.at hi
  exact ⟨b, off, x.1, x.2, h1, h2, h3, h4, h5 0 _ rfl, h5 1 _ rfl, h5 2 _ rfl⟩
def need1 (x : RM × RuD) : Nat := x.1.nm.size + x.1.gn + x.1.en
def need (l : List (RM × RuD)) : Nat := (l.map need1).sum
theorem need_take {l : List (RM × RuD)} {k : Nat} {x : RM × RuD} (h : l[k]? = some x) : need (l.take (k + 1)) = need (l.take k) + need1 x := by
  rw [need, take_at h, List.map_append, List.sum_append]; simp [need]
theorem need_le {l : List (RM × RuD)} {k : Nat} {x : RM × RuD} (h : l[k]? = some x) : need (l.take k) + need1 x ≤ need l := by
  rw [← need_take h]
  have : need l = need (l.take (k + 1)) + need (l.drop (k + 1)) := by
    rw [need, need, need, ← List.sum_append, ← List.map_append, List.take_append_drop]
  omega
set_option maxHeartbeats 1000000 in
theorem laws_szRuleS {a : Option Addr} {n c : Nat} {l : List (RM × RuD)} {m : Int} {w : World} (hI : FX w w a n c l) (hn : (n : Int) ≤ 9223372036854775807) (hm : 0 ≤ m) (hm' : m ≤ 1048576) :
    Calls Tryz.prog 47 #[.slice a n c, .int .i64 m] w fun e w' => e = .returned (.int .i64 (szN m (n + need l))) ∧ Below w.heap.size w w' := by
  by_cases h1 : m < (n : Int)
  · have h1' : m - (n : Int) < 0 := by omega
    have HR := Lib.hid (szN_lt (m := m) (x := n + need l) (by omega))
    clear hI
    go_enter Tryz.func47, Tryz.ntmps47
    go_wp2
    go_ret
    exact ⟨ret_int HR.out.symm, bel⟩
  · have h1' : ¬ m - (n : Int) < 0 := by omega
    have HI := Lib.hid hI
    clear hI
    go_enter Tryz.func47, Tryz.ntmps47
    go_wp2_with fail
    go_loopw [1, 5] (fun s1 s5 wr => ∃ (k : Nat) (q : Int), k ≤ n ∧ s1 = .int .i64 q ∧ s5 = .int .i64 k ∧ 0 ≤ q ∧ q ≤ 1048576 ∧ Below w.heap.size w wr ∧ Hid (q = m - n - need (l.take k))) (fun _ s5 _ => n - (intOf s5).toNat)
    case atStart => exact ⟨0, m - n, Nat.zero_le _, rfl, rfl, by omega, by omega, Below.refl _ _, Lib.hid (by simp [need])⟩
    case round =>
      obtain ⟨k, q, hk, rfl, rfl, hq0, hq1, hbl, A⟩ := hrel
      by_cases hlt : k < n
      · have hlt' : (k : Int) < (n : Int) := by omega
        have hk0 : (0 : Int) ≤ (k : Int) := by omega
        obtain ⟨b, off, R, r, rfl, hb, hx, hwf, c0, c1, c2⟩ := FX.get (HI.out.keep hbl) hlt
        obtain ⟨e1, hs2, hg, hgn, he, hen⟩ := hwf
        simp only at e1 hs2 hgn hen
        have hcall := laws_szRule (nm := R.nm) (ga := R.ga) (gn := R.gn) (gc := R.gc) (ea := R.ea) (en := R.en) (ec := R.ec) (m := q) (w := wr) (by rw [e1]; exact hs2) (by have : R.gn ≤ 9223372036854775807 := hgn; omega) (by have : R.en ≤ 9223372036854775807 := hen; omega) hq0 hq1
        have Hn1 := Lib.hid (show need1 (R, r) = R.nm.size + R.gn + R.en from rfl)
        have Hle := Lib.hid (need_le hx)
        have Htk := Lib.hid (need_take hx)
        clear hx hg he e1 hs2 hgn hen
        by_cases h2 : q < ((R.nm.size + R.gn + R.en : Nat) : Int)
        · rw [szN_lt h2] at hcall
          have HC := Lib.hid hcall
          have HR := Lib.hid (szN_lt (m := m) (x := n + need l) (by have h3 := A.out; have h4 := Hle.out; rw [Hn1.out] at h4; omega))
          clear hcall h2
          go_wp2_with fail
          refine Calls.mono HC.out ?_
          rintro e w1 ⟨rfl, hb1⟩
          go_wp2
          go_ret
          exact ⟨ret_int HR.out.symm, below_callS hbl hb1⟩
        · rw [szN_ge h2] at hcall
          obtain ⟨q2, hq2⟩ : ∃ q2 : Int, q2 = q - ((R.nm.size + R.gn + R.en : Nat) : Int) := ⟨_, rfl⟩
          rw [← hq2] at hcall
          have HC := Lib.hid hcall
          have hq20 : 0 ≤ q2 := by omega
          have hq21 : q2 ≤ 1048576 := by omega
          have hq22 : ¬ q2 < 0 := by omega
          have Hq2 := Lib.hid hq2
          clear hcall h2 hq2
          go_wp2_with fail
          refine Calls.mono HC.out ?_
          rintro e w1 ⟨rfl, hb1⟩
          go_wp2_with fail
          go_roundw
          case rel => exact ⟨k + 1, q2, by omega, rfl, by go_num, hq20, hq21, below_callS hbl hb1, Lib.hid (by rw [Htk.out, Hq2.out, A.out, Hn1.out]; omega)⟩
          case measure => simp [intOf]; omega
      · obtain rfl : n = k := by omega
        have hlt' : ¬ (n : Int) < (n : Int) := by omega
        have HR := Lib.hid (show szN m (n + need l) = q by
          have h3 := A.out
          rw [take_len HI.out.len] at h3
          rw [szN_ge (by omega)]; omega)
        go_wp2
        go_ret
        exact ⟨ret_int HR.out.symm, hbl⟩
end Go.Proofs.YtkaikbaagajckaaGreat
namespace Go.Proofs.YtkaikbaagajckaaGreat
open Go.RowKit
set_option linter.unusedVariables false
set_option linter.unusedSimpArgs false
set_option maxHeartbeats 1000000 in
theorem laws_eqRule {R R' : RM} {r : RuD} {w : World} (h : RuM w (R, r)) (h' : RuM w (R', r)) :
    Calls Tryz.prog 112 #[.agg #[.string R.nm, .slice R.ga R.gn R.gc, .slice R.ea R.en R.ec], .agg #[.string R'.nm, .slice R'.ga R'.gn R'.gc, .slice R'.ea R'.en R'.ec]] w fun e w' => e = .returned (.bool true) ∧ Below w.heap.size w w' := by
  obtain ⟨nm, ga, gn, gc, ea, en, ec⟩ := R
  obtain ⟨nm', ga', gn', gc', ea', en', ec'⟩ := R'
  obtain ⟨e1, h2, hg, hgn, he, hen⟩ := h
  obtain ⟨e1', _, hg', _, he', _⟩ := h'
  simp only at e1 h2 hg hgn he hen e1' hg' he' ⊢
  have e2 : nm' = nm := e1'.trans e1.symm
  have e3 : gn' = gn := hg'.len.symm.trans hg.len
  have e4 : en' = en := he'.len.symm.trans he.len
  subst e2 e3 e4
  have K1 := Lib.hid (fun (wx : World) (hb : Below w.heap.size w wx) => laws_eqTestS (hg.keep hb) (hg'.keep hb) hgn)
  have K2 := Lib.hid (fun (wx : World) (hb : Below w.heap.size w wx) => laws_eqAssignS (he.keep hb) (he'.keep hb) hen)
  have hq : (nm'.toList == nm'.toList) = true := by simp
  have hq2 : (nm'.toList != nm'.toList) = false := by simp
  clear e1 e1' h2 hg he hg' he'
  go_enter Tryz.func112, Tryz.ntmps112
  go_wp2_with fail
  refine Calls.mono (K1.out _ bel) ?_
  rintro e w1 ⟨rfl, hb_w1⟩
  obtain ⟨hc_w1, hf_w1⟩ := bcell hb_w1
  have hs_w1 := hb_w1.size
  go_wp2_with fail
  refine Calls.mono (K2.out _ bel) ?_
  rintro e w2 ⟨rfl, hb_w2⟩
  obtain ⟨hc_w2, hf_w2⟩ := bcell hb_w2
  have hs_w2 := hb_w2.size
  go_wp2
  go_ret
  exact ⟨rfl, bel⟩
theorem RuM.keep {w0 w : World} {x : RM × RuD} (h : RuM w0 x) (hb : Below w0.heap.size w0 w) : RuM w x := by
  obtain ⟨q1, q2, q3, q4, q5, q6⟩ := h
  exact ⟨q1, q2, q3.keep hb, q4, q5.keep hb, q6⟩
set_option maxHeartbeats 4000000 in
theorem laws_eqRuleS {a a' : Option Addr} {n c c' : Nat} {l l' : List (RM × RuD)} {w : World} (hI : FR w w a n c l) (hI' : FR w w a' n c' l') (hl : l.map (·.2) = l'.map (·.2)) (hn : n ≤ 1048576) :
    Calls Tryz.prog 55 #[.slice a n c, .slice a' n c'] w fun e w' => e = .returned (.bool true) ∧ Below w.heap.size w w' := by
  have HI := Lib.hid hI
  have HI' := Lib.hid hI'
  have HL := Lib.hid hl
  clear hI hI' hl
  have hq : ((n : Int) != (n : Int)) = false := by simp
  go_enter Tryz.func55, Tryz.ntmps55
  go_wp2
  go_loopw [5] (fun i wr => ∃ k : Nat, k ≤ n ∧ i = .int .i64 k ∧ Below w.heap.size w wr) (fun i _ => n - (intOf i).toNat)
  case atStart => exact ⟨0, Nat.zero_le _, rfl, Below.refl _ _⟩
  case round =>
    obtain ⟨k, hk, rfl, hbl⟩ := hrel
    by_cases hlt : k < n
    · obtain ⟨b, off, R, r, rfl, hb, hx, hwf, c0, c1, c2⟩ := FR.get (HI.out.keep hbl) hlt
      obtain ⟨b', off', R', r', rfl, hb', hx', hwf', d0, d1, d2⟩ := FR.get (HI'.out.keep hbl) hlt
      obtain rfl : r = r' := by
        have h1 := congrArg (fun z => z[k]?) HL.out
        simp [hx, hx'] at h1
        exact h1
      have HC := Lib.hid (fun (wx : World) (hb : Below w.heap.size w wx) => laws_eqRule (hwf.keep hb) (hwf'.keep hb))
      clear hx hx' hwf hwf'
      have hlt' : (k : Int) < (n : Int) := by omega
      have hpos : (0 : Int) ≤ (k : Int) := by omega
      go_wp2
      go_region_held3 (fun wx => wx.cell? ⟨b, off + k * 3, none⟩ = some (.string R.nm) ∧ wx.cell? ⟨b, off + k * 3 + 1, none⟩ = some (.slice R.ga R.gn R.gc) ∧ wx.cell? ⟨b, off + k * 3 + 2, none⟩ = some (.slice R.ea R.en R.ec) ∧ wx.cell? ⟨b', off' + k * 3, none⟩ = some (.string R'.nm) ∧ wx.cell? ⟨b', off' + k * 3 + 1, none⟩ = some (.slice R'.ga R'.gn R'.gc) ∧ wx.cell? ⟨b', off' + k * 3 + 2, none⟩ = some (.slice R'.ea R'.en R'.ec) ∧ b < wx.heap.size ∧ b' < wx.heap.size ∧ Below w.heap.size w wx) (((try go_split_ands); (repeat' apply And.intro) <;> first | assumption | exact Blk.keep (by assumption) hbx | exact Blk.drew (by assumption) | exact Blk.drew (Blk.made _ _ _) | exact Below.drew (by assumption) | exact Below.drew (below_allocS (by first | exact Below.refl _ _ | assumption) _) | exact below_callS (by assumption) hbx | exact below_call (by assumption) hbx (Below.size (by assumption)) | exact (hcx _ _ (by assumption)).trans (by assumption) | omega | (simp [*]; done) | (simp; omega))) (first | (go_at_call 112; refine Calls.mono (HC.out _ (by first | assumption | (go_split_ands; assumption))) ?_; rintro e wx2 ⟨rfl, hbx⟩; obtain ⟨hcx, hfx⟩ := bcell hbx; have hsx := hbx.size))
      go_split_ands
      go_wp2
      go_roundw
      case rel => exact ⟨k + 1, by omega, by go_num, by assumption⟩
      case measure => simp [intOf]; omega
    · go_wp2
      go_ret
      exact ⟨rfl, hbl⟩
end Go.Proofs.YtkaikbaagajckaaGreat
namespace Go.Proofs.YtkaikbaagajckaaGreat
open Go.RowKit
set_option linter.unusedVariables false
set_option linter.unusedSimpArgs false
theorem OwnF.typ {α : Type} {k : Nat} {enc : α → List Value} {ok : α → Prop} {E : TypeId} {w : World} {base : Nat} {a : Option Addr} {n c : Nat} {l : List α} (h : OwnF k enc ok E w base a n c l) {g : Nat} (e : a = some ⟨g, 0, none⟩) : ∃ cur, w.heap[g]? = some (.cells cur E (0, 0)) := by
  subst e
  rcases h.1.2 with ⟨he, _⟩ | ⟨g', cap, cur, he, hb, hg, _⟩
  · simp only [Value.slice.injEq] at he; cases he.1
  · simp only [Value.slice.injEq, Option.some.injEq, Addr.mk.injEq] at he
    obtain ⟨⟨rfl, _⟩, _⟩ := he
    exact ⟨cur, hg⟩
theorem OwnI.typ {E : TypeId} {w : World} {base : Nat} {a : Option Addr} {n c : Nat} {l : List Int} (h : OwnI E w base a n c l) {g : Nat} (e : a = some ⟨g, 0, none⟩) : ∃ cur, w.heap[g]? = some (.cells cur E (0, 0)) := by
  subst e
  rcases h.1.2 with ⟨he, _⟩ | ⟨g', cap, cur, he, hb, hg, _⟩
  · simp only [Value.slice.injEq] at he; cases he.1
  · simp only [Value.slice.injEq, Option.some.injEq, Addr.mk.injEq] at he
    obtain ⟨⟨rfl, _⟩, _⟩ := he
    exact ⟨cur, hg⟩
theorem typ_apart {w : World} {a a' : Option Addr} {E E' : TypeId} (h : ∀ {g : Nat}, a = some ⟨g, 0, none⟩ → ∃ cur, w.heap[g]? = some (.cells cur E (0, 0))) (h' : ∀ {g : Nat}, a' = some ⟨g, 0, none⟩ → ∃ cur, w.heap[g]? = some (.cells cur E' (0, 0))) (hE : E ≠ E') : Apart a a' := fun g e e' => by
  obtain ⟨c1, h1⟩ := h e
  obtain ⟨c2, h2⟩ := h' e'
  rw [h1] at h2
  simp at h2
  exact hE h2.2
theorem flat_set31 {α : Type} {enc : α → List Value} (hk : ∀ x, (enc x).length = 3) {l : List α} {i : Nat} {x y : α} {u0 v0 v1 v2 : Value} (hy : l[i]? = some y) (he : enc y = [u0, v1, v2]) (hx : enc x = [v0, v1, v2]) :
    (l.flatMap enc).set (i * 3) v0 = (l.set i x).flatMap enc := by
  have hi : i < l.length := (List.getElem?_eq_some_iff.1 hy).1
  obtain ⟨h1, h2, h3⟩ := flat_set hk hi x y hy
  rw [h1, h2, he, hx, List.set_append_right _ _ (by omega), h3]; simp
theorem OwnF.set31 {α : Type} {enc : α → List Value} {ok : α → Prop} {E : TypeId} {w : World} {base g : Nat} {n c : Nat} {l : List α} (h : OwnF 3 enc ok E w base (some ⟨g, 0, none⟩) n c l) {i : Nat} {x y : α} {u0 v0 v1 v2 : Value} (hy : l[i]? = some y) (he : enc y = [u0, v1, v2]) (hx : enc x = [v0, v1, v2]) (hok : ok x) :
    OwnF 3 enc ok E (w.setCell ⟨g, i * 3, none⟩ v0) base (some ⟨g, 0, none⟩) n c (l.set i x) := by
  obtain ⟨h1, h2, h3, h4⟩ := h
  refine ⟨?_, fun z hz => ?_, by simpa using h3, h4⟩
  · rw [← flat_set31 h4 hy he hx]
    exact (h1.stored (i * 3) v0).1
  · rcases List.mem_or_eq_of_mem_set hz with h1 | h1
    · exact h2 z h1
    · rw [h1]; exact hok
abbrev OwnT := OwnF 3 I2b.enc I2b.ok 127
abbrev OwnA := OwnF 2 I2.enc I2.ok 199
/-- a rule whose parts are the call's own -/
structure RO (w : World) (lo : Nat) (x : RM × RuD) : Prop where
  nm : x.1.nm = x.2.nm
  nms : x.2.nm.size ≤ maxLen
  g : OwnT w lo x.1.ga x.1.gn x.1.gc x.2.g
  gn : x.1.gn ≤ 1048576
  e : OwnA w lo x.1.ea x.1.en x.1.ec x.2.e
  en : x.1.en ≤ 1048576
/-- a slice of rules that is the call's own -/
structure ROwn (w : World) (lo : Nat) (a : Option Addr) (n c : Nat) (l : List (RM × RuD)) : Prop where
  row : OwnF 3 encR (fun _ => True) 149 w lo a n c l
  each : ∀ x ∈ l, RO w lo x
  apart : ∀ (i j : Nat) (x y : RM × RuD), l[i]? = some x → l[j]? = some y → i ≠ j → Apart x.1.ga y.1.ga ∧ Apart x.1.ea y.1.ea
theorem RO.rum {w : World} {lo : Nat} {x : RM × RuD} (h : RO w lo x) : RuM w x := ⟨h.nm, h.nms, h.g.flats, h.gn, h.e.flats, h.en⟩
theorem ROwn.fr {w : World} {lo : Nat} {a : Option Addr} {n c : Nat} {l : List (RM × RuD)} (h : ROwn w lo a n c l) : FR w w a n c l := by
  have hf := h.row.flats
  exact ⟨hf.len, hf.cap, hf.pos, fun x hx => (h.each x hx).rum, hf.nil⟩
theorem RO.keep {w w' : World} {lo : Nat} {x : RM × RuD} (h : RO w lo x) (hb : Below w.heap.size w w') : RO w' lo x := ⟨h.nm, h.nms, h.g.keep hb, h.gn, h.e.keep hb, h.en⟩
theorem ROwn.keep {w w' : World} {lo : Nat} {a : Option Addr} {n c : Nat} {l : List (RM × RuD)} (h : ROwn w lo a n c l) (hb : Below w.heap.size w w') : ROwn w' lo a n c l :=
  ⟨h.row.keep hb, fun x hx => (h.each x hx).keep hb, h.apart⟩
theorem RO.le {w : World} {lo lo' : Nat} {x : RM × RuD} (h : RO w lo x) (hl : lo' ≤ lo) : RO w lo' x := ⟨h.nm, h.nms, h.g.le hl, h.gn, h.e.le hl, h.en⟩
theorem ROwn.le {w : World} {lo lo' : Nat} {a : Option Addr} {n c : Nat} {l : List (RM × RuD)} (h : ROwn w lo a n c l) (hl : lo' ≤ lo) : ROwn w lo' a n c l :=
  ⟨h.row.le hl, fun x hx => (h.each x hx).le hl, h.apart⟩
/-- all blocks of a slice of rules lie from lo on below hi -/
def inI (lo hi : Nat) (a : Option Addr) : Prop := ∀ g, a = some ⟨g, 0, none⟩ → lo ≤ g ∧ g < hi
def RBd (lo hi : Nat) (a : Option Addr) (l : List (RM × RuD)) : Prop := inI lo hi a ∧ ∀ x ∈ l, inI lo hi x.1.ga ∧ inI lo hi x.1.ea
theorem ROwn.bd {w : World} {lo : Nat} {a : Option Addr} {n c : Nat} {l : List (RM × RuD)} (h : ROwn w lo a n c l) : RBd lo w.heap.size a l :=
  ⟨h.row.blk, fun x hx => ⟨(h.each x hx).g.blk, (h.each x hx).e.blk⟩⟩
theorem ROwn.here {lo lo' hi : Nat} {a : Option Addr} {n c : Nat} {l : List (RM × RuD)} (bd : RBd lo' hi a l) (w1 w2 : World) (hk : ∀ k, lo' ≤ k → k < hi → w2.heap[k]? = w1.heap[k]?) (h : ROwn w1 lo a n c l) : ROwn w2 lo a n c l :=
  ⟨OwnF.here bd.1 w1 w2 hk h.row, fun x hx => by
    have hh := h.each x hx
    exact ⟨hh.nm, hh.nms, OwnF.here (bd.2 x hx).1 w1 w2 hk hh.g, hh.gn, OwnF.here (bd.2 x hx).2 w1 w2 hk hh.e, hh.en⟩, h.apart⟩
theorem ROwn.own {w : World} {lo : Nat} {a : Option Addr} {n c : Nat} {l : List (RM × RuD)} (h : ROwn w lo a n c l) : Own (fun w => ROwn w lo a n c l) lo w.heap.size w := ⟨h, Nat.le_refl _, ROwn.here h.bd⟩
theorem encR_len (x : RM × RuD) : (encR x).length = 3 := rfl
theorem get_set {α : Type} {l : List α} {i j : Nat} {x y : α} (h : (l.set i x)[j]? = some y) : (j = i ∧ y = x) ∨ (j ≠ i ∧ l[j]? = some y) := by
  rw [List.getElem?_set] at h
  split at h
  · split at h
    · rename_i e _
      exact .inl ⟨e.symm, by simpa using h.symm⟩
    · cases h
  · rename_i e
    exact .inr ⟨fun e' => e e'.symm, h⟩
/-- the blocks of a row of rules stay apart where a rule changes in what it means alone -/
theorem apart_set {l : List (RM × RuD)} {i : Nat} {x y : RM × RuD} (hy : l[i]? = some y) (hg : x.1.ga = y.1.ga) (he : x.1.ea = y.1.ea)
    (h : ∀ (i j : Nat) (x y : RM × RuD), l[i]? = some x → l[j]? = some y → i ≠ j → Apart x.1.ga y.1.ga ∧ Apart x.1.ea y.1.ea) :
    ∀ (i' j : Nat) (x' y' : RM × RuD), (l.set i x)[i']? = some x' → (l.set i x)[j]? = some y' → i' ≠ j → Apart x'.1.ga y'.1.ga ∧ Apart x'.1.ea y'.1.ea := by
  intro i' j x' y' h1 h2 hij
  rcases get_set h1 with ⟨rfl, rfl⟩ | ⟨e1, k1⟩ <;> rcases get_set h2 with ⟨rfl, rfl⟩ | ⟨e2, k2⟩
  · exact absurd rfl hij
  · rw [hg, he]; exact h _ _ _ _ hy k2 hij
  · rw [hg, he]; exact h _ _ _ _ k1 hy hij
  · exact h _ _ _ _ k1 k2 hij
theorem bd_set {lo hi : Nat} {a : Option Addr} {l : List (RM × RuD)} {i : Nat} {x y : RM × RuD} (hy : l[i]? = some y) (hg : x.1.ga = y.1.ga) (he : x.1.ea = y.1.ea) (h : RBd lo hi a l) : RBd lo hi a (l.set i x) :=
  ⟨h.1, fun z hz => by
    rcases List.mem_or_eq_of_mem_set hz with h1 | h1
    · exact h.2 z h1
    · subst h1; rw [hg, he]; exact h.2 y (List.mem_of_getElem? hy)⟩
/-- a rule's name is written -/
theorem ROwn.setNm {w : World} {lo g : Nat} {n c : Nat} {l : List (RM × RuD)} (h : ROwn w lo (some ⟨g, 0, none⟩) n c l) {i : Nat} {R : RM} {r : RuD} (hy : l[i]? = some (R, r)) (s : ByteArray) (hs : s.size ≤ maxLen) :
    ROwn (w.setCell ⟨g, i * 3, none⟩ (.string s)) lo (some ⟨g, 0, none⟩) n c (l.set i ({ R with nm := s }, { r with nm := s })) := by
  have hm := List.mem_of_getElem? hy
  have sg := set_grown (w := w) g (i * 3) (.string s)
  have hG : ∀ x ∈ l, OwnT (w.setCell ⟨g, i * 3, none⟩ (.string s)) lo x.1.ga x.1.gn x.1.gc x.2.g := fun x hx => (h.each x hx).g.keepG sg fun g' e' e'' => by
    cases e''; exact typ_apart h.row.typ (h.each x hx).g.typ (by decide) g rfl e'
  have hE : ∀ x ∈ l, OwnA (w.setCell ⟨g, i * 3, none⟩ (.string s)) lo x.1.ea x.1.en x.1.ec x.2.e := fun x hx => (h.each x hx).e.keepG sg fun g' e' e'' => by
    cases e''; exact typ_apart h.row.typ (h.each x hx).e.typ (by decide) g rfl e'
  refine ⟨h.row.set31 hy (show encR (R, r) = [_, _, _] from rfl) rfl trivial, fun x hx => ?_, apart_set hy rfl rfl h.apart⟩
  rcases List.mem_or_eq_of_mem_set hx with h1 | h1
  · exact ⟨(h.each x h1).nm, (h.each x h1).nms, hG x h1, (h.each x h1).gn, hE x h1, (h.each x h1).en⟩
  · subst h1
    exact ⟨rfl, hs, hG (R, r) hm, (h.each _ hm).gn, hE (R, r) hm, (h.each _ hm).en⟩
/-- a rule's guard is written -/
theorem ROwn.setG {w w' : World} {lo : Nat} {a : Option Addr} {n c m : Nat} {l : List (RM × RuD)} (h : ROwn w lo a n c l) {i : Nat} {R : RM} {r : RuD} (hy : l[i]? = some (R, r)) (ht : Touch w w' m R.ga) {g' : List I2b} (hg : OwnT w' lo R.ga R.gn R.gc g') :
    ROwn w' lo a n c (l.set i (R, { r with g := g' })) := by
  have hm := List.mem_of_getElem? hy
  have hr : OwnF 3 encR (fun _ => True) 149 w' lo a n c l := h.row.keepT ht (typ_apart h.row.typ (h.each _ hm).g.typ (by decide))
  have hE : ∀ x ∈ l, OwnA w' lo x.1.ea x.1.en x.1.ec x.2.e := fun x hx => (h.each x hx).e.keepT ht (typ_apart (h.each x hx).e.typ (h.each _ hm).g.typ (by decide))
  have hfl : (l.set i (R, { r with g := g' })).flatMap encR = l.flatMap encR := by
    obtain ⟨h1, h2, _⟩ := flat_set encR_len (List.getElem?_eq_some_iff.1 hy).1 (R, { r with g := g' }) (R, r) hy
    rw [h1, h2]; rfl
  refine ⟨⟨by rw [hfl]; exact hr.1, fun _ _ => trivial, by rw [List.length_set]; exact hr.2.2.1, hr.2.2.2⟩, fun x hx => ?_, apart_set hy rfl rfl h.apart⟩
  obtain ⟨j, hj⟩ := List.getElem?_of_mem hx
  rcases get_set hj with ⟨rfl, rfl⟩ | ⟨e1, h1⟩
  · have hh := h.each _ hm
    exact ⟨hh.nm, hh.nms, hg, hh.gn, hE (R, r) hm, hh.en⟩
  · have hmx := List.mem_of_getElem? h1
    have hh := h.each _ hmx
    exact ⟨hh.nm, hh.nms, hh.g.keepT ht (h.apart _ _ _ _ h1 hy e1).1, hh.gn, hE _ hmx, hh.en⟩
/-- a rule's effect is written -/
theorem ROwn.setE {w w' : World} {lo : Nat} {a : Option Addr} {n c m : Nat} {l : List (RM × RuD)} (h : ROwn w lo a n c l) {i : Nat} {R : RM} {r : RuD} (hy : l[i]? = some (R, r)) (ht : Touch w w' m R.ea) {e' : List I2} (he : OwnA w' lo R.ea R.en R.ec e') :
    ROwn w' lo a n c (l.set i (R, { r with e := e' })) := by
  have hm := List.mem_of_getElem? hy
  have hr : OwnF 3 encR (fun _ => True) 149 w' lo a n c l := h.row.keepT ht (typ_apart h.row.typ (h.each _ hm).e.typ (by decide))
  have hG : ∀ x ∈ l, OwnT w' lo x.1.ga x.1.gn x.1.gc x.2.g := fun x hx => (h.each x hx).g.keepT ht (typ_apart (h.each x hx).g.typ (h.each _ hm).e.typ (by decide))
  have hfl : (l.set i (R, { r with e := e' })).flatMap encR = l.flatMap encR := by
    obtain ⟨h1, h2, _⟩ := flat_set encR_len (List.getElem?_eq_some_iff.1 hy).1 (R, { r with e := e' }) (R, r) hy
    rw [h1, h2]; rfl
  refine ⟨⟨by rw [hfl]; exact hr.1, fun _ _ => trivial, by rw [List.length_set]; exact hr.2.2.1, hr.2.2.2⟩, fun x hx => ?_, apart_set hy rfl rfl h.apart⟩
  obtain ⟨j, hj⟩ := List.getElem?_of_mem hx
  rcases get_set hj with ⟨rfl, rfl⟩ | ⟨e1, h1⟩
  · have hh := h.each _ hm
    exact ⟨hh.nm, hh.nms, hG (R, r) hm, hh.gn, he, hh.en⟩
  · have hmx := List.mem_of_getElem? h1
    have hh := h.each _ hmx
    exact ⟨hh.nm, hh.nms, hG _ hmx, hh.gn, hh.e.keepT ht (h.apart _ _ _ _ h1 hy e1).2, hh.en⟩
/-- a rule made since is laid in -/
theorem ROwn.put {w w' : World} {lo g : Nat} {n c : Nat} {l : List (RM × RuD)} (h : ROwn w lo (some ⟨g, 0, none⟩) n c l) (hb : Below w.heap.size w w') {i : Nat} (hi : i < n) {x : RM × RuD} (hx : RO w' w.heap.size x) (hlo : lo ≤ w.heap.size) {v0 v1 v2 : Value} (he : encR x = [v0, v1, v2]) :
    ROwn (((w'.setCell ⟨g, i * 3, none⟩ v0).setCell ⟨g, i * 3 + 1, none⟩ v1).setCell ⟨g, i * 3 + 2, none⟩ v2) lo (some ⟨g, 0, none⟩) n c (l.set i x) := by
  have h' := h.keep hb
  have hg := h'.row.blk g rfl
  have hg0 := h.row.blk g rfl
  have sg : w'.grownBy (((w'.setCell ⟨g, i * 3, none⟩ v0).setCell ⟨g, i * 3 + 1, none⟩ v1).setCell ⟨g, i * 3 + 2, none⟩ v2) (some g) := grownBy_set (grownBy_set (set_grown g _ _) _ _) _ _
  refine ⟨h'.row.set3 hi trivial he, fun y hy => ?_, ?_⟩
  · rcases List.mem_or_eq_of_mem_set hy with h1 | h1
    · have hh := h'.each y h1
      exact ⟨hh.nm, hh.nms, hh.g.keepG sg fun g' e' e'' => by cases e''; exact typ_apart h'.row.typ hh.g.typ (by decide) g rfl e', hh.gn, hh.e.keepG sg fun g' e' e'' => by cases e''; exact typ_apart h'.row.typ hh.e.typ (by decide) g rfl e', hh.en⟩
    · subst h1
      have hx' := hx.le hlo
      exact ⟨hx.nm, hx.nms, hx'.g.keepG sg fun g' e' e'' => by cases e''; have := (hx.g.blk g e').1; omega, hx.gn, hx'.e.keepG sg fun g' e' e'' => by cases e''; have := (hx.e.blk g e').1; omega, hx.en⟩
  · intro i' j x' y' h1 h2 hij
    rcases get_set h1 with ⟨rfl, rfl⟩ | ⟨e1, k1⟩ <;> rcases get_set h2 with ⟨rfl, rfl⟩ | ⟨e2, k2⟩
    · exact absurd rfl hij
    · have hh := h.each _ (List.mem_of_getElem? k2)
      exact ⟨Apart.symm (Apart.of (fun q e => (hh.g.blk q e).2) (fun q e => (hx.g.blk q e).1)), Apart.symm (Apart.of (fun q e => (hh.e.blk q e).2) (fun q e => (hx.e.blk q e).1))⟩
    · have hh := h.each _ (List.mem_of_getElem? k1)
      exact ⟨Apart.of (fun q e => (hh.g.blk q e).2) (fun q e => (hx.g.blk q e).1), Apart.of (fun q e => (hh.e.blk q e).2) (fun q e => (hx.e.blk q e).1)⟩
    · exact h.apart _ _ _ _ k1 k2 hij
end Go.Proofs.YtkaikbaagajckaaGreat
namespace Go.Proofs.YtkaikbaagajckaaGreat
open Go.RowKit
set_option linter.unusedVariables false
set_option linter.unusedSimpArgs false
/-- where the values of a found state lie -/
structure QM where
  a : Option Addr
  n : Nat
  c : Nat
def encQ (x : QM × SN) : List Value := [.slice x.1.a x.1.n x.1.c, .int .i64 x.2.fr, .int .i64 x.2.ru, .int .i64 x.2.dp]
theorem Tryz.inforeached : (Tryz.prog.info? 121).map (fun i => (i.zero, i.size, i.bytes)) = some (some (.agg #[.slice none 0 0, .int .i64 0, .int .i64 0, .int .i64 0]), 4, 48) := by kernel_rfl
/-- a list of found states that is the call's own -/
structure QOwn (w : World) (lo : Nat) (a : Option Addr) (n c : Nat) (l : List (QM × SN)) : Prop where
  row : OwnF 4 encQ (fun _ => True) 121 w lo a n c l
  each : ∀ x ∈ l, OwnI 2 w lo x.1.a x.1.n x.1.c x.2.v
theorem QOwn.keep {w w' : World} {lo : Nat} {a : Option Addr} {n c : Nat} {l : List (QM × SN)} (h : QOwn w lo a n c l) (hb : Below w.heap.size w w') : QOwn w' lo a n c l :=
  ⟨h.row.keep hb, fun x hx => (h.each x hx).keep hb⟩
theorem QOwn.le {w : World} {lo lo' : Nat} {a : Option Addr} {n c : Nat} {l : List (QM × SN)} (h : QOwn w lo a n c l) (hl : lo' ≤ lo) : QOwn w lo' a n c l :=
  ⟨h.row.le hl, fun x hx => (h.each x hx).le hl⟩
/-- a write in a block that is no row leaves the list -/
theorem QOwn.keepG {w w' : World} {lo b : Nat} {a : Option Addr} {n c : Nat} {l : List (QM × SN)} (h : QOwn w lo a n c l) (hg : w.grownBy w' (some b)) (hb : ∀ (cur : Array Value) (E : TypeId), w.heap[b]? ≠ some (.cells cur E (0, 0))) : QOwn w' lo a n c l :=
  ⟨h.row.keepG hg fun g e e' => by
      cases e'
      obtain ⟨cur, h1⟩ := h.row.typ e
      exact hb _ _ h1,
   fun x hx => (h.each x hx).keepG hg fun g e e' => by
      cases e'
      obtain ⟨cur, h1⟩ := (h.each x hx).typ e
      exact hb _ _ h1⟩
theorem QOwn.get {w : World} {lo : Nat} {a : Option Addr} {n c : Nat} {l : List (QM × SN)} (h : QOwn w lo a n c l) {i : Nat} (hi : i < n) :
    ∃ b off R y, a = some ⟨b, off, none⟩ ∧ b < w.heap.size ∧ l[i]? = some (R, y) ∧ OwnI 2 w lo R.a R.n R.c y.v ∧ w.cell? ⟨b, off + i * 4, none⟩ = some (.slice R.a R.n R.c) ∧ w.cell? ⟨b, off + i * 4 + 1, none⟩ = some (.int .i64 y.fr) ∧ w.cell? ⟨b, off + i * 4 + 2, none⟩ = some (.int .i64 y.ru) ∧ w.cell? ⟨b, off + i * 4 + 3, none⟩ = some (.int .i64 y.dp) := by
  obtain ⟨b, off, x, h1, h2, h3, _, h5⟩ := h.row.flats.at hi
  exact ⟨b, off, x.1, x.2, h1, h2, h3, h.each x (List.mem_of_getElem? h3), h5 0 _ rfl, h5 1 _ rfl, h5 2 _ rfl, h5 3 _ rfl⟩
/-- the list of the start alone -/
theorem QOwn.one {w : World} {lo : Nat} (y : QM × SN) (hy : OwnI 2 w lo y.1.a y.1.n y.1.c y.2.v) (hl : lo ≤ w.heap.size) (cs : Array Value) (hcs : cs = #[.slice y.1.a y.1.n y.1.c, .int .i64 y.2.fr, .int .i64 y.2.ru, .int .i64 y.2.dp]) :
    QOwn (w.alloc (.cells cs 121)) lo (some ⟨w.heap.size, 0, none⟩) 1 1 [y] :=
  ⟨OwnF.lit w [y] hl rfl (by decide) (fun _ => rfl) (fun _ _ => trivial) (by rw [hcs]; rfl), fun x hx => by
    simp at hx; rw [hx]; exact hy.keep ((Below.refl _ _).alloc (Nat.le_refl _) _)⟩
theorem appQ {w : World} {ops : Array Oper} {rest : List Oper} {o : Oper} {act : Act} {Q : Exit → Act → World → Prop} (hgd : o.guard = none) (s x : Operand)
    (ho : o.op = .call { callee := .builtin .append, args := #[s, x], argTypes := #[95, 95] })
    (base : Nat) (a : Option Addr) (n c : Nat) (l : List (QM × SN)) (hown : QOwn w base a n c l) (hs : act.eval s = .slice a n c) (gx : Nat) (hx : act.eval x = .slice (some ⟨gx, 0, none⟩) 1 1) (hg : gx = w.heap.size) (y : QM × SN) (hy : OwnI 2 w base y.1.a y.1.n y.1.c y.2.v) (cs : Array Value) (hcs : cs = #[.slice y.1.a y.1.n y.1.c, .int .i64 y.2.fr, .int .i64 y.2.ru, .int .i64 y.2.dp])
    (hn : n ≤ 4194304) (hbase : base ≤ w.heap.size)
    (K : ∀ g' c' w', QOwn w' base (some ⟨g', 0, none⟩) (n + 1) c' (l ++ [y]) → Below base w w' → Touch w w' 1 a → (a = some ⟨g', 0, none⟩ ∨ g' = w.heap.size + 1) → w.heap.size + 1 ≤ w'.heap.size → wpList Tryz.prog ops Q rest (act.put o.dst (.slice (some ⟨g', 0, none⟩) (n + 1) c')) w') : wpList Tryz.prog ops Q (o :: rest) act (w.alloc (.cells cs 121)) := by
  refine appAtL (k := 4) (m := 1) (enc := encQ) (ok := fun _ => True) hgd s x ho Tryz.underlying95 Tryz.inforeached rfl (by decide) (by decide) (fun z u hu => by simp [encQ] at hu; rcases hu with rfl | rfl | rfl | rfl <;> rfl) base a n c l [y] hown.row hs gx hx hg (by rw [hcs]; rfl) rfl (fun _ _ => trivial) (by decide) hn (by decide) hbase ?_
  intro g' c' w' h1 h2 h3 h4 h5
  have ht : Touch w w' 1 a := ⟨_, h3, fun b e => ⟨by decide, own_block hown.row.1 b e⟩⟩
  refine K g' c' w' ⟨h1, fun z hz => ?_⟩ h2 ht h4 h5
  have hz' : OwnI 2 w base z.1.a z.1.n z.1.c z.2.v := by
    rcases List.mem_append.1 hz with hz | hz
    · exact hown.each z hz
    · simp at hz; rw [hz]; exact hy
  exact hz'.keepT ht fun g e e' => typ_apart (fun {g} e => hz'.typ e) (fun {g} e => hown.row.typ e) (by decide) g e e'
end Go.Proofs.YtkaikbaagajckaaGreat
namespace Go.Proofs.YtkaikbaagajckaaGreat
open Go.RowKit
set_option linter.unusedVariables false
set_option linter.unusedSimpArgs false
def encS (x : QM × List Int) : List Value := [.slice x.1.a x.1.n x.1.c]
theorem encS_len (x : QM × List Int) : (encS x).length = 1 := rfl
theorem encS_one (y : QM × List Int) : ∀ u ∈ encS y, u.oneCell' = true := fun u hu => by simp [encS] at hu; subst hu; rfl
theorem Tryz.infosl : (Tryz.prog.info? 22).map (fun i => (i.zero, i.size, i.bytes)) = some (some (.slice none 0 0), 1, 24) := by kernel_rfl
/-- a row of states that is the call's own -/
structure SRow (w : World) (lo l2 : Nat) (a : Option Addr) (n c : Nat) (l : List (QM × List Int)) : Prop where
  row : OwnF 1 encS (fun _ => True) 22 w lo a n c l
  each : ∀ x ∈ l, OwnI 2 w l2 x.1.a x.1.n x.1.c x.2
theorem SRow.keep {w w' : World} {lo l2 : Nat} {a : Option Addr} {n c : Nat} {l : List (QM × List Int)} (h : SRow w lo l2 a n c l) (hb : Below w.heap.size w w') : SRow w' lo l2 a n c l :=
  ⟨h.row.keep hb, fun x hx => (h.each x hx).keep hb⟩
theorem SRow.le {w : World} {lo lo' l2 l2' : Nat} {a : Option Addr} {n c : Nat} {l : List (QM × List Int)} (h : SRow w lo l2 a n c l) (hl : lo' ≤ lo) (hl2 : l2' ≤ l2) : SRow w lo' l2' a n c l :=
  ⟨h.row.le hl, fun x hx => (h.each x hx).le hl2⟩
theorem SRow.keepG {w w' : World} {lo l2 b : Nat} {a : Option Addr} {n c : Nat} {l : List (QM × List Int)} (h : SRow w lo l2 a n c l) (hg : w.grownBy w' (some b)) (hb : ∀ (cur : Array Value) (E : TypeId), w.heap[b]? = some (.cells cur E (0, 0)) → E ≠ 22 ∧ E ≠ 2) : SRow w' lo l2 a n c l :=
  ⟨h.row.keepG hg fun g e e' => by
      cases e'
      obtain ⟨cur, h1⟩ := h.row.typ e
      exact (hb _ _ h1).1 rfl,
   fun x hx => (h.each x hx).keepG hg fun g e e' => by
      cases e'
      obtain ⟨cur, h1⟩ := (h.each x hx).typ e
      exact (hb _ _ h1).2 rfl⟩
theorem SRow.get {w : World} {lo l2 : Nat} {a : Option Addr} {n c : Nat} {l : List (QM × List Int)} (h : SRow w lo l2 a n c l) {i : Nat} (hi : i < n) :
    ∃ b off R v, a = some ⟨b, off, none⟩ ∧ b < w.heap.size ∧ l[i]? = some (R, v) ∧ OwnI 2 w l2 R.a R.n R.c v ∧ w.cell? ⟨b, off + i, none⟩ = some (.slice R.a R.n R.c) := by
  obtain ⟨b, off, x, h1, h2, h3, _, h5⟩ := h.row.flats.at hi
  have := h5 0 _ rfl
  rw [Nat.mul_one] at this
  exact ⟨b, off, x.1, x.2, h1, h2, h3, h.each x (List.mem_of_getElem? h3), this⟩
theorem SRow.len {w : World} {lo l2 : Nat} {a : Option Addr} {n c : Nat} {l : List (QM × List Int)} (h : SRow w lo l2 a n c l) : l.length = n := h.row.flats.len
theorem SRow.nil (w : World) (lo l2 : Nat) : SRow w lo l2 none 0 0 [] := ⟨⟨World.ownsRow_nil w lo _ 1, (fun _ h => by cases h), rfl, encS_len⟩, fun _ h => by cases h⟩
theorem Flats.part {α : Type} {k : Nat} {enc : α → List Value} {ok : α → Prop} {w : World} {a : Option Addr} {n c : Nat} {l : List α} (h : Flats k enc ok w a n c l) {lo hi : Nat} (h1 : lo ≤ hi) (h2 : hi ≤ n) : Flats k enc ok w (if c = lo then a else a.map (·.add (lo * k))) (hi - lo) (c - lo) ((l.drop lo).take (hi - lo)) := by
  have hc := h.cap
  have hl := h.len
  refine ⟨by rw [List.length_take, List.length_drop, hl]; omega, by omega, ?_, fun x hx => h.wf x (List.mem_of_mem_drop (List.mem_of_mem_take hx)), fun e => ?_⟩
  · by_cases h0 : hi - lo = 0
    · exact .inl h0
    · obtain ⟨b, off, ha, hlt, hx⟩ := h.pos.resolve_left (by omega)
      subst ha
      refine .inr ⟨b, off + lo * k, ?_, hlt, fun i x hi' j v hv => ?_⟩
      · rw [if_neg (by omega), Option.map_some]
        congr 1
        by_cases h0 : lo * k = 0 <;> simp [Addr.add, h0]
      · rw [List.getElem?_take] at hi'
        split at hi'
        · rw [List.getElem?_drop] at hi'
          have := hx _ _ hi' j v hv
          rw [Nat.add_mul] at this
          rw [show off + lo * k + i * k + j = off + (lo * k + i * k) + j by omega]; exact this
        · cases hi'
  · have ha : a = none := by
      split at e
      · exact e
      · cases a with
        | none => rfl
        | some => cases e
    have := h.nil ha
    omega
/-- from w to w' nothing that was there is written but block b and rows of states -/
structure StepW (b : Nat) (w w' : World) : Prop where
  os : w'.os = w.os
  tape : w'.tape = w.tape
  output : w'.output = w.output
  size : w.heap.size ≤ w'.heap.size
  block : ∀ k, k < w.heap.size → k ≠ b → (∀ cur, w.heap[k]? ≠ some (.cells cur 22 (0, 0))) → w'.heap[k]? = w.heap[k]?
theorem StepW.refl (b : Nat) (w : World) : StepW b w w := ⟨rfl, rfl, rfl, Nat.le_refl _, fun _ _ _ _ => rfl⟩
theorem StepW.trans {b : Nat} {w w' w'' : World} (h : StepW b w w') (h' : StepW b w' w'') : StepW b w w'' :=
  ⟨h'.os.trans h.os, h'.tape.trans h.tape, h'.output.trans h.output, Nat.le_trans h.size h'.size, fun k hk hr ht => by
    have e := h.block k hk hr ht
    rw [h'.block k (Nat.lt_of_lt_of_le hk h.size) hr (fun cur => by rw [e]; exact ht cur), e]⟩
theorem StepW.below {b : Nat} {w w' : World} (h : Below w.heap.size w w') : StepW b w w' := ⟨h.os, h.tape, h.output, h.size, fun k hk _ _ => h.block k hk⟩
theorem StepW.set (b : Nat) (w : World) (j : Nat) (u : Value) : StepW b w (w.setCell ⟨b, j, none⟩ u) :=
  have h := set_grown (w := w) b j u
  ⟨h.os, h.tape, h.output, h.size, fun k hk hr _ => h.block k hk (fun e => hr (by cases e; rfl))⟩
theorem StepW.touch {b n' lo l2 : Nat} {w w' : World} {a : Option Addr} {n c : Nat} {l : List (QM × List Int)} (h : SRow w lo l2 a n c l) (ht : Touch w w' n' a) : StepW b w w' := by
  obtain ⟨r, hg, hr⟩ := ht
  refine ⟨hg.os, hg.tape, hg.output, hg.size, fun k hk _ hn => hg.block k hk fun e => ?_⟩
  obtain ⟨_, ha⟩ := hr k e.symm
  obtain ⟨cur, h1⟩ := h.row.typ ha
  exact hn _ h1
theorem Blk.keepS {b g : Nat} {w w' : World} {cs : Array Value} {T : TypeId} (h : Blk w g cs T) (hs : StepW b w w') (hg : g ≠ b) (hT : T ≠ 22) : Blk w' g cs T :=
  (hs.block g h.lt hg fun cur e => by rw [Blk] at h; rw [h] at e; simp only [Option.some.injEq, Obj.cells.injEq] at e; exact hT e.2.1).trans h
theorem OwnI.keepS {b lo : Nat} {w w' : World} {a : Option Addr} {n c : Nat} {l : List Int} {T : TypeId} {cs : Array Value} (h : OwnI 2 w lo a n c l) (hB : Blk w b cs T) (hT : T ≠ 2) (hs : StepW b w w') : OwnI 2 w' lo a n c l := by
  have hty := fun g e => h.typ (g := g) e
  obtain ⟨⟨hl, h2⟩, hw⟩ := h
  refine ⟨⟨hl, ?_⟩, hw⟩
  rcases h2 with h2 | ⟨g, cap, cur, he, hbs, hg, r⟩
  · exact .inl h2
  · have hlt : g < w.heap.size := Nat.lt_of_not_le fun h => by rw [Array.getElem?_eq_none h] at hg; cases hg
    refine .inr ⟨g, cap, cur, he, hbs, ?_, r⟩
    rw [hs.block g hlt (fun e => ?_) (fun cur' e => ?_)]; exact hg
    · subst e
      rw [Blk] at hB
      rw [hB] at hg
      simp only [Option.some.injEq, Obj.cells.injEq] at hg
      exact hT hg.2.1
    · rw [hg] at e
      simp only [Option.some.injEq, Obj.cells.injEq] at e
      exact absurd e.2.1 (by decide)
/-- append of one state to a row -/
theorem appS {w : World} {ops : Array Oper} {rest : List Oper} {o : Oper} {act : Act} {Q : Exit → Act → World → Prop} (hgd : o.guard = none) (s x : Operand)
    (ho : o.op = .call { callee := .builtin .append, args := #[s, x], argTypes := #[31, 31] })
    (base b2 : Nat) (a : Option Addr) (n c : Nat) (l : List (QM × List Int)) (hown : SRow w base b2 a n c l) (hs : act.eval s = .slice a n c) (gx : Nat) (hx : act.eval x = .slice (some ⟨gx, 0, none⟩) 1 1) (hg : gx = w.heap.size) (y : QM × List Int) (hy : OwnI 2 w b2 y.1.a y.1.n y.1.c y.2) (cs : Array Value) (hcs : cs = #[.slice y.1.a y.1.n y.1.c])
    (hn : n ≤ 4194304) (hbase : base ≤ w.heap.size)
    (K : ∀ g' c' w', SRow w' base b2 (some ⟨g', 0, none⟩) (n + 1) c' (l ++ [y]) → Below base w w' → Touch w w' 1 a → (a = some ⟨g', 0, none⟩ ∨ g' = w.heap.size + 1) → w.heap.size + 1 ≤ w'.heap.size → wpList Tryz.prog ops Q rest (act.put o.dst (.slice (some ⟨g', 0, none⟩) (n + 1) c')) w') : wpList Tryz.prog ops Q (o :: rest) act (w.alloc (.cells cs 22)) := by
  refine appAtL (k := 1) (m := 1) (enc := encS) (ok := fun _ => True) hgd s x ho Tryz.underlying31 Tryz.infosl rfl (by decide) (by decide) encS_one base a n c l [y] hown.row hs gx hx hg (by rw [hcs]; rfl) rfl (fun _ _ => trivial) (by decide) hn (by decide) hbase ?_
  intro g' c' w' h1 h2 h3 h4 h5
  have ht : Touch w w' 1 a := ⟨_, h3, fun b e => ⟨by decide, own_block hown.row.1 b e⟩⟩
  refine K g' c' w' ⟨h1, fun z hz => ?_⟩ h2 ht h4 h5
  have hz' : OwnI 2 w b2 z.1.a z.1.n z.1.c z.2 := by
    rcases List.mem_append.1 hz with hz | hz
    · exact hown.each z hz
    · simp at hz; rw [hz]; exact hy
  exact hz'.keepT ht fun g e e' => typ_apart (fun {g} e => hz'.typ e) (fun {g} e => hown.row.typ e) (by decide) g e e'
/-- append of a part of a row to a row -/
theorem appSL {w : World} {ops : Array Oper} {rest : List Oper} {o : Oper} {act : Act} {Q : Exit → Act → World → Prop} (hgd : o.guard = none) (s x : Operand)
    (ho : o.op = .call { callee := .builtin .append, args := #[s, x], argTypes := #[31, 31] })
    (base b2 : Nat) (a : Option Addr) (n c : Nat) (l : List (QM × List Int)) (hown : SRow w base b2 a n c l) (hs : act.eval s = .slice a n c) (a2 : Option Addr) (m c2 : Nat) (l2 : List (QM × List Int)) (hx : act.eval x = .slice a2 m c2) (hsrc : Flats 1 encS (fun _ => True) w a2 m c2 l2) (hy : ∀ y ∈ l2, OwnI 2 w b2 y.1.a y.1.n y.1.c y.2)
    (hn : n ≤ 4194304) (hm : m ≤ 4194304) (hbase : base ≤ w.heap.size)
    (K : ∀ a' c' w', SRow w' base b2 a' (n + m) c' (l ++ l2) → Below base w w' → Touch w w' 1 a → wpList Tryz.prog ops Q rest (act.put o.dst (.slice a' (n + m) c')) w') : wpList Tryz.prog ops Q (o :: rest) act w := by
  refine appendL_F (k := 1) (enc := encS) (ok := fun _ => True) hgd s x _ _ ho Tryz.underlying31 Tryz.infosl rfl (by decide) (by decide) encS_one base a n c l hown.row hs a2 m c2 l2 hx hsrc hn hm hbase ?_
  intro a' c' w' h1 h2 h3 h4
  have ht : Touch w w' 1 a := ⟨_, h3, fun b e => ⟨by decide, own_block hown.row.1 b e⟩⟩
  refine K a' c' w' ⟨h1, fun z hz => ?_⟩ h2 ht
  have hz' : OwnI 2 w b2 z.1.a z.1.n z.1.c z.2 := by
    rcases List.mem_append.1 hz with hz | hz
    · exact hown.each z hz
    · exact hy z hz
  exact hz'.keepT ht fun g e e' => typ_apart (fun {g} e => hz'.typ e) (fun {g} e => hown.row.typ e) (by decide) g e e'
end Go.Proofs.YtkaikbaagajckaaGreat
