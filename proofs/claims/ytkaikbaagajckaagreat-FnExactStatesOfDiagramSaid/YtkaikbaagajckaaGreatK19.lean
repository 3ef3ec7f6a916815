/- Models of the exact laws: what the generated walks of the laws use.; BitsOfState and StateOfBits by what the model means.; Diagrams with a code, as calls return them.; Diagrams in the exact laws: copies, comparisons and marks; TestDiagram by what the model means.; The states of a diagram, as the law wants them.; What the arguments that came in read as: the step from a row's readings to the walks' own words.; What the listed package-level variables hold, cell by cell.; Models that came in. -/
import Derived.Test.YtkaikbaagajckaaGreatK18
import Derived.Test.YtkaikbaagajckaaGreatK11
import Derived.Test.YtkaikbaagajckaaGreatK13
import Derived.Test.YtkaikbaagajckaaGreatBase
import Derived.Test.YtkaikbaagajckaaGreatK08
import Derived.Test.YtkaikbaagajckaaGreatFl
import Derived.Test.YtkaikbaagajckaaGreatK17
import Derived.Deep.Slices
import Derived.Deep.Strs
import Derived.ChangeSame
import Derived.Lib.LaidTab
import Derived.Lib.SmallJoins
import Derived.Test.YtkaikbaagajckaaGreatK06
namespace Go.Proofs.YtkaikbaagajckaaGreat
open Go.RowKit
set_option linter.unusedVariables false
set_option linter.unusedSimpArgs false
/-- rules as they are meant, laid nowhere -/
def rsM (rs : List RuD) : List (RM × RuD) := rs.map fun r => (⟨r.nm, none, 0, 0, none, 0, 0⟩, r)
theorem rsM_map (rs : List RuD) : (rsM rs).map (·.2) = rs := by simp [rsM, Function.comp_def]
theorem rulesB_map {sz : List Int} {l : List (RM × RuD)} : rulesB sz l = (l.map (·.2)).all (ruleB sz) := by
  rw [rulesB, List.all_map]; rfl
theorem modelB_rs {sz st : List Int} {l : List (RM × RuD)} {rs : List RuD} (h : l.map (·.2) = rs) : modelB sz st l = modelB sz st (rsM rs) := by
  subst h
  rw [modelB, modelB, rulesB_map, rulesB_map, rsM_map]
  simp [rsM]
theorem bmL_rs {sz st : List Int} {l : List (RM × RuD)} {rs : List RuD} (h : l.map (·.2) = rs) : bmL sz st l = bmL sz st (rsM rs) := by rw [bmL, bmL, modelB_rs h]
theorem bmC_rs {sz st : List Int} {l : List (RM × RuD)} {rs : List RuD} (h : l.map (·.2) = rs) : bmC sz st l = bmC sz st (rsM rs) := by rw [bmC, bmC, modelB_rs h]
theorem bmL_len (sz st : List Int) (l : List (RM × RuD)) : (bmL sz st l).length ≤ sz.length := by
  rw [bmL]; split <;> simp
theorem FX.keepX {w w' : World} {a : Option Addr} {n c : Nat} {l : List (RM × RuD)} (h : FX w w a n c l) (hb : Below w.heap.size w w') : FX w' w' a n c l := by
  have hf := Flats.keep h hb
  exact ⟨hf.len, hf.cap, hf.pos, fun x hx => by obtain ⟨q1, q2, q3, q4, q5, q6⟩ := hf.wf x hx; exact ⟨q1, q2, q3.keep hb, q4, q5.keep hb, q6⟩, hf.nil⟩
theorem need_mem {l : List (RM × RuD)} {x : RM × RuD} (h : x ∈ l) : need1 x ≤ need l := by
  obtain ⟨k, hk⟩ := List.getElem?_of_mem h
  have := need_le hk
  omega
theorem cnt_need {l : List (RM × RuD)} (h : ∀ x ∈ l, x.2.g.length = x.1.gn ∧ x.2.e.length = x.1.en) : cntRu (l.map (·.2)) ≤ l.length + 3 * need l := by
  induction l with
  | nil => simp [cntRu, need]
  | cons x r ih =>
    have h1 := ih fun y hy => h y (List.mem_cons_of_mem _ hy)
    have h2 := h x (List.mem_cons_self ..)
    have e1 : cntRu ((x :: r).map (·.2)) = cnt1 x.2 + cntRu (r.map (·.2)) := by simp [cntRu]
    have e2 : need (x :: r) = need1 x + need r := by simp [need]
    have e3 : cnt1 x.2 = 1 + 3 * x.2.g.length + 2 * x.2.e.length := rfl
    have e4 : need1 x = x.1.nm.size + x.1.gn + x.1.en := rfl
    rw [List.length_cons]
    omega
theorem mrd_of {w : World} {sa : Option Addr} {sn sc : Nat} {ta : Option Addr} {tn tc : Nat} {ra : Option Addr} {rn rc N : Nat} {sz st : List Int} {l : List (RM × RuD)} {rs : List RuD} (hS : Ints w sa sn sc sz) (hT : Ints w ta tn tc st) (hR : FX w w ra rn rc l) (hrs : l.map (·.2) = rs) (hN : sn + tn + (rn + need l) = N) (hn : N ≤ 1048576) : MRd w sa sn sc ta tn tc ra rn rc sz st rs := by
  refine ⟨hS, hT, ⟨l, ⟨hR.len, hR.cap, hR.pos, fun x hx => ?_, hR.nil⟩, hrs⟩, by omega, by omega, by omega⟩
  obtain ⟨q1, q2, q3, q4, q5, q6⟩ := hR.wf x hx
  have h1 := need_mem hx
  have e4 : need1 x = x.1.nm.size + x.1.gn + x.1.en := rfl
  exact ⟨q1, q2, q3, by omega, q5, by omega⟩
theorem cnt_of {w : World} {ra : Option Addr} {sn tn rn rc N : Nat} {l : List (RM × RuD)} {rs : List RuD} (hR : FX w w ra rn rc l) (hrs : l.map (·.2) = rs) (hN : sn + tn + (rn + need l) = N) : cntRu rs ≤ 3 * N := by
  rw [← hrs]
  have h1 := cnt_need (l := l) fun x hx => by
    obtain ⟨q1, q2, q3, q4, q5, q6⟩ := hR.wf x hx
    exact ⟨q3.len, q5.len⟩
  have h2 := hR.len
  omega
theorem laws_szModelN {sa ta ra : Option Addr} {sn sc tn tc rn rc N : Nat} {l : List (RM × RuD)} {m : Int} {w : World} (hR : FX w w ra rn rc l) (hs : (sn : Int) ≤ 9223372036854775807) (ht : (tn : Int) ≤ 9223372036854775807) (hr : (rn : Int) ≤ 9223372036854775807) (hm : 0 ≤ m) (hm' : m ≤ 1048576) (hN : sn + tn + (rn + need l) = N) :
    Calls Tryz.prog 9 #[.agg #[.slice sa sn sc, .slice ta tn tc, .slice ra rn rc], .int .i64 m] w fun e w' => e = .returned (.int .i64 (if m < (N : Int) then -1 else m - N)) ∧ Below w.heap.size w w' := by
  have h := laws_szModel (sa := sa) (sc := sc) (ta := ta) (tc := tc) hR hs ht hr hm hm'
  rw [hN] at h
  exact h
end Go.Proofs.YtkaikbaagajckaaGreat
namespace Go.Proofs.YtkaikbaagajckaaGreat
open Go.RowKit
set_option linter.unusedVariables false
set_option linter.unusedSimpArgs false
theorem bsC_rs {sz st vs : List Int} {l : List (RM × RuD)} {rs : List RuD} (h : l.map (·.2) = rs) : bsC sz st l vs = bsC sz st (rsM rs) vs := by rw [bsC, bsC, modelB_rs h]
theorem bsL_rs {sz st vs : List Int} {l : List (RM × RuD)} {rs : List RuD} (h : l.map (·.2) = rs) : bsL sz st l vs = bsL sz st (rsM rs) vs := by rw [bsL, bsL, bsC_rs h]
theorem soC_rs {sz st vs : List Int} {l : List (RM × RuD)} {rs : List RuD} (h : l.map (·.2) = rs) : soC sz st l vs = soC sz st (rsM rs) vs := by rw [soC, soC, modelB_rs h]
theorem soL_rs {sz st vs : List Int} {l : List (RM × RuD)} {rs : List RuD} (h : l.map (·.2) = rs) : soL sz st l vs = soL sz st (rsM rs) vs := by rw [soL, soL, soC_rs h]
theorem wN_5 (z : Int) : (wN z).toNat ≤ 5 := by unfold wN; omega
theorem stBits_len (sz vs : List Int) : (stBits sz vs).length ≤ 5 * vs.length := by
  rw [stBits]
  have : ∀ l : List (Int × Int), (l.flatMap fun p => bitsDn p.1 (wN p.2).toNat).length ≤ 5 * l.length := fun l => by
    induction l with
    | nil => simp
    | cons p r ih =>
      rw [List.flatMap_cons, List.length_append, bitsDn_len, List.length_cons]
      have := wN_5 p.2
      omega
  refine Nat.le_trans (this _) ?_
  have : (vs.zip sz).length ≤ vs.length := by rw [List.length_zip]; omega
  omega
theorem bsL_len (sz st : List Int) (l : List (RM × RuD)) (vs : List Int) : (bsL sz st l vs).length ≤ 80 := by
  rw [bsL]
  split
  · rename_i h
    have hm : modelB sz st l = true := by cases hm : modelB sz st l with | true => rfl | false => rw [bsC, if_pos hm] at h; cases h
    have hs : stateB sz vs = true := by cases hs : stateB sz vs with | true => rfl | false => rw [bsC, if_neg (by simp [hm]), if_pos hs] at h; cases h
    have h1 := stBits_len sz vs
    have h2 := stateB_len hs
    have h3 := modelB_len hm
    omega
  · simp
theorem soL_len (sz st : List Int) (l : List (RM × RuD)) (vs : List Int) : (soL sz st l vs).length ≤ sz.length := by
  rw [soL]
  split
  · simp [stV]
  · simp
end Go.Proofs.YtkaikbaagajckaaGreat
namespace Go.Proofs.YtkaikbaagajckaaGreat
open Go.RowKit
set_option linter.unusedVariables false
set_option linter.unusedSimpArgs false
/-- a diagram with its code that a call returns -/
def DgR (w : World) (C : Int × List I3 × Int × Int) (e : Ending) (w' : World) : Prop := ∃ da dc, e = .returned (.tuple #[.agg #[.int .i64 C.1, .slice da C.2.1.length dc, .int .i64 C.2.2.1], .int .i64 C.2.2.2]) ∧ OwnF 3 I3.enc I3.ok 117 w' w.heap.size da C.2.1.length dc C.2.1 ∧ Below w.heap.size w w'
/-- a diagram with a code that a call returns, as the laws want it -/
def DgQ (w : World) (i : Int) (L : List I3) (r code : Int) (e : Ending) (w' : World) : Prop := ∃ n a c, e = .returned (.tuple #[.agg #[.int .i64 i, .slice a n c, .int .i64 r], .int .i64 code]) ∧ Below w.heap.size w w' ∧ OwnF 3 I3.enc I3.ok 117 w' w.heap.size a n c L
theorem DgR.q {w w' : World} {C : Int × List I3 × Int × Int} {e : Ending} (h : DgR w C e w') : DgQ w C.1 C.2.1 C.2.2.1 C.2.2.2 e w' := by
  obtain ⟨da, dc, h1, h2, h3⟩ := h
  exact ⟨_, da, dc, h1, h3, h2⟩
end Go.Proofs.YtkaikbaagajckaaGreat
namespace Go.Proofs.YtkaikbaagajckaaGreat
open Go.RowKit
set_option linter.unusedVariables false
set_option linter.unusedSimpArgs false
set_option maxHeartbeats 1000000 in
theorem laws_toDiagram {b r : Int} {a : Option Addr} {n c : Nat} {l : List I3} {w : World} (hI : F3 w a n c l) (hn : n ≤ 1048576) :
    Calls Tryz.prog 13 #[.agg #[.int .i64 b, .slice a n c, .int .i64 r]] w fun e w' => ∃ g, e = .returned (.agg #[.int .i64 b, .slice (some ⟨g, 0, none⟩) n n, .int .i64 r]) ∧ Below w.heap.size w w' ∧ OwnF 3 I3.enc I3.ok 117 w' w.heap.size (some ⟨g, 0, none⟩) n n l := by
  have HI := Lib.hid hI
  clear hI
  go_enter Tryz.func13, Tryz.ntmps13
  go_wp2_with fail
  refine Calls.mono (laws_toNodeS (HI.out.keep bel) hn) ?_
  rintro e w1 ⟨rfl, hb_w1, ho⟩
  obtain ⟨hc_w1, hf_w1⟩ := bcell hb_w1
  have hs_w1 := hb_w1.size
  simp at hs_w1
  have HO := Lib.hid ho
  clear ho
  have hz1 : w.heap.size < w1.heap.size := by omega
  have hz2 : w.heap.size + 1 < w1.heap.size := by omega
  have hz3 : w.heap.size + 1 + 1 < w1.heap.size := by omega
  go_wp2
  refine bodyPost_ret (v := .agg #[.int .i64 b, .slice (some ⟨w.heap.size + 1 + 1 + 1, 0, none⟩) n n, .int .i64 r]) (by simp [results, Tryz.results13, go_sem, hc_w1, hf_w1, hz1, hz2, hz3]) rfl ⟨w.heap.size + 1 + 1 + 1, rfl, bel, ?_⟩
  have h := HO.out
  simp at h
  refine OwnF.le (base := w.heap.size + 1 + 1 + 1) ?_ (by omega)
  repeat (refine OwnF.keepG ?_ (set_grown _ _ _) (by intro g hg; simp at hg ⊢; omega))
  exact h
theorem laws_szDiagram {b r : Int} {a : Option Addr} {n c : Nat} {m : Int} {w : World} (hn : (n : Int) ≤ 9223372036854775807) (hm : 0 ≤ m) (hm' : m ≤ 1048576) :
    Calls Tryz.prog 10 #[.agg #[.int .i64 b, .slice a n c, .int .i64 r], .int .i64 m] w fun e w' => e = .returned (.int .i64 (if m < n then -1 else m - n)) ∧ Below w.heap.size w w' := by
  by_cases h : m < n
  all_goals
    go_enter Tryz.func10, Tryz.ntmps10
    go_wp2
    go_ret
    exact ⟨ret_int (by first | rfl | (split <;> omega)), bel⟩
theorem laws_eqDiagram {b r : Int} {a a' : Option Addr} {n c n' c' : Nat} {l : List I3} {w : World} (hI : F3 w a n c l) (hI' : F3 w a' n' c' l) (hn : n ≤ 1048576) (hn' : n' ≤ 1048576) :
    Calls Tryz.prog 17 #[.agg #[.int .i64 b, .slice a n c, .int .i64 r], .agg #[.int .i64 b, .slice a' n' c', .int .i64 r]] w fun e w' => e = .returned (.bool true) ∧ Below w.heap.size w w' := by
  obtain rfl : n = n' := by have h1 := hI.len; have h2 := hI'.len; omega
  have HI := Lib.hid hI
  have HI' := Lib.hid hI'
  clear hI hI'
  have hb : (b != b) = false := by simp
  have hr : (r != r) = false := by simp
  go_enter Tryz.func17, Tryz.ntmps17
  go_wp2_with fail
  refine Calls.mono (laws_eqNodeS (HI.out.keep bel) (HI'.out.keep bel) hn) ?_
  rintro e w1 ⟨rfl, hb_w1⟩
  obtain ⟨hc_w1, hf_w1⟩ := bcell hb_w1
  have hs_w1 := hb_w1.size
  go_wp2
  go_ret
  exact ⟨rfl, bel⟩
set_option maxHeartbeats 1000000 in
theorem laws_markDiagram {b r : Int} {a : Option Addr} {n c base : Nat} {l : List I3} {q : Int} {w : World} (hI : OwnF 3 I3.enc I3.ok 117 w base a n c l) (hn : n ≤ 1048576) (hq0 : 0 ≤ q) (hq1 : q ≤ 1099511627776) :
    Calls Tryz.prog 19 #[.agg #[.int .i64 b, .slice a n c, .int .i64 r], .int .i64 q] w fun e w' => e = .returned (.int .i64 (q + 3 * n)) ∧ Touch w w' n a ∧ OwnF 3 I3.enc I3.ok 117 w' base a n c (marks3 q n) := by
  have HI := Lib.hid hI
  clear hI
  go_enter Tryz.func19, Tryz.ntmps19
  go_wp2_with fail
  refine Calls.mono (laws_markNodeS (HI.out.keep bel) hn hq0 hq1) ?_
  rintro e w1 ⟨rfl, ht, ho⟩
  have HO := Lib.hid ho
  clear ho
  go_wp2
  go_ret
  obtain ⟨r9, hg, hr9⟩ := ht
  exact ⟨rfl, ⟨r9, grownBy_trans (World.grownBy_alloc _ _ _) hg, hr9⟩, HO.out⟩
theorem laws_heldDiagram {b r : Int} {a : Option Addr} {n c : Nat} {q : Int} {w : World} (hI : F3 w a n c (marks3 q n)) (hn : n ≤ 1048576) (hq0 : 0 ≤ q) (hq1 : q ≤ 1099511627776) :
    Calls Tryz.prog 24 #[.agg #[.int .i64 b, .slice a n c, .int .i64 r], .int .i64 q] w fun e w' => e = .returned (.int .i64 (q + 3 * n)) ∧ Below w.heap.size w w' := by
  have HI := Lib.hid hI
  clear hI
  have hqn : decide (q + 3 * (n : Int) < 0) = false := by simp; omega
  go_enter Tryz.func24, Tryz.ntmps24
  go_wp2_with fail
  refine Calls.mono (laws_heldNodeS (HI.out.keep bel) hn hq0 hq1) ?_
  rintro e _ ⟨rfl, rfl⟩
  go_wp2
  go_ret
  exact ⟨rfl, bel⟩
end Go.Proofs.YtkaikbaagajckaaGreat
namespace Go.Proofs.YtkaikbaagajckaaGreat
open Go.RowKit
set_option linter.unusedVariables false
set_option linter.unusedSimpArgs false
theorem sdC_rs {sz st : List Int} {l : List (RM × RuD)} {rs : List RuD} {inp : Int} {L : List I3} {root : Int} (h : l.map (·.2) = rs) : sdC sz st l inp L root = sdC sz st (rsM rs) inp L root := by
  rw [sdC, sdC, modelB_rs h]
theorem xs_len {sz : List Int} {D : List I3} {k : Nat} {r : Int} {c v : List Int} (h : v ∈ xsN sz D k r c) : v.length = sz.length := by
  rw [xsN, List.mem_map] at h
  obtain ⟨s, _, rfl⟩ := h
  exact stV_len _ _
theorem sdC_rows {sz st : List Int} {l : List (RM × RuD)} {inp : Int} {L : List I3} {root : Int} : (∀ v ∈ (sdC sz st l inp L root).1, v.length = sz.length) ∧ (sdC sz st l inp L root).1.length ≤ 4000 := by
  rw [sdC]
  split
  · exact ⟨(fun v h => by cases h), by simp⟩
  · split
    · exact ⟨(fun v h => by cases h), by simp⟩
    · split
      · exact ⟨(fun v h => by cases h), by simp⟩
      · split
        · rename_i h
          exact ⟨fun v hv => xs_len hv, h⟩
        · exact ⟨(fun v h => by cases h), by simp⟩
theorem SRow.sso {ap : Bool} {w : World} {lo m : Nat} {a : Option Addr} {n c : Nat} {l : List (QM × List Int)} {C : List (List Int)} (h : SRow w lo lo a n c l) (hC : l.map (·.2) = C) (hm : ∀ v ∈ C, v.length = m) (hp : ap = true → l.Pairwise fun x y => Apart x.1.a y.1.a) : SsO ap w lo w.heap.size a n c m (fun j => C.getD j []) := by
  have hrow := h.row
  refine ⟨l.map (·.1), ?_, fun j q hq => ?_, fun hap i j x y hij hx hy => ?_, fun g e => (hrow.blk g e).2⟩
  · obtain ⟨h1, h2, h3, h4⟩ := hrow
    refine ⟨?_, fun _ _ => trivial, by rw [List.length_map]; exact h3, fun _ => rfl⟩
    rw [List.flatMap_map]
    exact h1
  · rw [List.getElem?_map, Option.map_eq_some_iff] at hq
    obtain ⟨x, hx, rfl⟩ := hq
    have hx9 := List.mem_of_getElem? hx
    have h1 := h.each x hx9
    have h2 : C[j]? = some x.2 := by rw [← hC, List.getElem?_map, hx]; rfl
    have h3 := hm x.2 (List.mem_of_getElem? h2)
    refine ⟨by rw [← h1.len]; exact h3, ?_, fun g e => (h1.blk g e).2⟩
    simp only [List.getD_eq_getElem?_getD, h2, Option.getD_some]
    exact h1
  · rw [List.getElem?_map, Option.map_eq_some_iff] at hx hy
    obtain ⟨x', hx, rfl⟩ := hx
    obtain ⟨y', hy, rfl⟩ := hy
    have hpw := List.pairwise_iff_getElem.1 (hp hap)
    obtain ⟨hi, rfl⟩ := List.getElem?_eq_some_iff.1 hx
    obtain ⟨hj, rfl⟩ := List.getElem?_eq_some_iff.1 hy
    rcases Nat.lt_or_gt_of_ne hij with h9 | h9
    · exact hpw i j hi hj h9
    · exact (hpw j i hj hi h9).symm
/-- states with a code, as the laws want them -/
def SdQ (ap : Bool) (w : World) (m n : Nat) (f : Nat → List Int) (code : Int) (e : Ending) (w' : World) : Prop := ∃ a c, e = .returned (.tuple #[.slice a n c, .int .i64 code]) ∧ Below w.heap.size w w' ∧ SsO ap w' w.heap.size w'.heap.size a n c m f
theorem SdR.q {ap : Bool} {w w' : World} {m : Nat} {C : List (List Int) × Int} {e : Ending} (h : SdR ap w C e w') (hm : ∀ v ∈ C.1, v.length = m) : SdQ ap w m C.1.length (fun j => C.1.getD j []) C.2 e w' := by
  obtain ⟨a, c, l, h1, h2, h3, h4, h5⟩ := h
  exact ⟨a, c, h1, h4, h2.sso h3 hm h5⟩
theorem spec_StatesOfDiagram_r {sa ta ra da : Option Addr} {sn sc tn tc rn rc dn dc : Nat} {sz st : List Int} {rs : List RuD} {inp root : Int} {L : List I3} {w : World} (h : MRd w sa sn sc ta tn tc ra rn rc sz st rs) (hD : F3 w da dn dc L) (hdn : dn ≤ 1048576) (hi : I64 inp) (hr : I64 root) :
    Calls Tryz.prog 11 #[.agg #[.slice sa sn sc, .slice ta tn tc, .slice ra rn rc], .agg #[.int .i64 inp, .slice da dn dc, .int .i64 root]] w (SdQ false w sn (sdC sz st (rsM rs) inp L root).1.length (fun j => (sdC sz st (rsM rs) inp L root).1.getD j []) (sdC sz st (rsM rs) inp L root).2) := by
  obtain ⟨l, h1, h2⟩ := h.r
  obtain rfl : L.length = dn := hD.len
  have h9 := spec_StatesOfDiagram (da := da) (dc := dc) (inp := inp) (root := root) h.s h.sn h.t h.tn h1 h.rn hD (by unfold maxLen; omega) hi hr
  rw [sdC_rs h2] at h9
  exact h9.mono fun e w' h8 => h8.q fun v hv => by rw [← h.s.len]; exact sdC_rows.1 v hv
theorem impl_StatesOfDiagram_r {sa ta ra da : Option Addr} {sn sc tn tc rn rc dn dc : Nat} {sz st : List Int} {rs : List RuD} {inp root : Int} {L : List I3} {w : World} (h : MRd w sa sn sc ta tn tc ra rn rc sz st rs) (hD : F3 w da dn dc L) (hdn : dn ≤ 1048576) (hi : I64 inp) (hr : I64 root) :
    Calls Tryz.prog 14 #[.agg #[.slice sa sn sc, .slice ta tn tc, .slice ra rn rc], .agg #[.int .i64 inp, .slice da dn dc, .int .i64 root]] w (SdQ true w sn (sdC sz st (rsM rs) inp L root).1.length (fun j => (sdC sz st (rsM rs) inp L root).1.getD j []) (sdC sz st (rsM rs) inp L root).2) := by
  obtain ⟨l, h1, h2⟩ := h.r
  obtain rfl : L.length = dn := hD.len
  have h9 := impl_StatesOfDiagram (da := da) (dc := dc) (inp := inp) (root := root) h.s h.sn h.t h.tn h1 h.rn hD (by unfold maxLen; omega) hi hr
  rw [sdC_rs h2] at h9
  exact h9.mono fun e w' h8 => h8.q fun v hv => by rw [← h.s.len]; exact sdC_rows.1 v hv
end Go.Proofs.YtkaikbaagajckaaGreat
namespace Go.Proofs.YtkaikbaagajckaaGreat
open Go.ChangeShapes Go.WideShapes Go.ChangeAt Go.RowKit Go.Joins
set_option linter.unusedVariables false
set_option linter.unusedSimpArgs false
theorem Tryz.own : ownKnob Tryz.prog.godebug = none := by kernel_rfl
theorem Tryz.laidOut : laidOutB Tryz.prog = true := by kernel_rfl
theorem lt_of_cell {w : World} {b o : Nat} {v : Value} (h : w.cell? ⟨b, o, none⟩ = some v) : b < w.heap.size :=
  Nat.lt_of_not_le fun hle => by simp [World.cell?, Array.getElem?_eq_none hle] at h
theorem Ints.mk_of {w : World} {x : Addr} {n c : Nat} {zs : List Int} (hn : n ≤ c) (hz : zs.length = c) (hcell : ∀ i, i < zs.length → w.cell? (x.add i) = some (.int .i64 (zs.getD i 0))) (hw : ∀ z ∈ zs, (Lit.int .i64 z).wf = true) : Ints w (some x) n c (zs.take n) := by
  refine ⟨by simp; omega, hn, ?_, fun z hz => I64.of (hw z (List.mem_of_mem_take hz)), fun h => by cases h⟩
  by_cases h0 : n = 0
  · exact .inl h0
  · obtain ⟨b, off, spot⟩ := x
    have hc := hcell 0 (by omega)
    have hspot : spot = none := by simpa [Addr.add] using World.cell?_spot hc
    subst hspot
    refine .inr ⟨b, off, rfl, lt_of_cell hc, fun i y hy => ?_⟩
    rw [List.getElem?_take] at hy
    split at hy
    · have hi : i < zs.length := (List.getElem?_eq_some_iff.1 hy).1
      have := hcell i hi
      rw [List.getD_eq_getElem?_getD, hy] at this
      have e : (⟨b, off, none⟩ : Addr).add i = ⟨b, off + i, none⟩ := by
        by_cases h0 : i = 0 <;> simp [Addr.add, h0]
      rw [← e]; exact this
    · cases hy
section
variable {H : Type} {enc : TypeId × Value → H} {P : Program} {W : World} {base : Nat} {held : Bool}
theorem open_Ints {t e : TypeId} {a : Option Addr} {n c : Nat} {d : DataW H} {p : List MemPlace} (ht : P.underlying t = some (.slice e)) (he : P.underlying e = some (.int .i64)) (hc : P.cellsOf e = 1)
    (h : DataW.Trod enc P W base (fun _ => true) held t (.slice a n c) d p) : ∃ l, Ints W a n c l := by
  obtain ⟨fuel, hf⟩ := h
  rcases open_ints ht he hc hf with ⟨hcs, _⟩ | ⟨x, l, c', zs, hcs, _, hl, hm, hz, _, hcell, hwz⟩
  · simp [Value.cells] at hcs
    obtain ⟨rfl, rfl, rfl⟩ := hcs
    exact ⟨[], rfl, Nat.le_refl _, .inl rfl, (fun _ h => by cases h), fun _ => ⟨rfl, rfl⟩⟩
  · simp [Value.cells] at hcs
    obtain ⟨rfl, rfl, rfl⟩ := hcs
    exact ⟨_, Ints.mk_of hl (by simpa using hz) hcell hwz⟩
theorem len_le {sp : Nat → Bool} {t e : TypeId} {fuel : Nat} {a : Option Addr} {n c : Nat} {x : DataW H × List MemPlace} (ht : P.underlying t = some (.slice e)) (h : DataW.trod enc P W base sp held fuel t (.slice a n c : Value).cells.toList = some x) : n ≤ maxLen := by
  rcases Deep.open_slice ht h with ⟨hcs, _⟩ | ⟨x, len, cap, m, nn, D, Pl, hcs, _, hl, hm, _⟩
  · simp [Value.cells] at hcs; rw [hcs.2.1]; exact Nat.zero_le _
  · simp [Value.cells] at hcs; rw [hcs.2.1]; omega
theorem add_none {b off i : Nat} : (⟨b, off, none⟩ : Addr).add i = ⟨b, off + i, none⟩ := by
  by_cases h0 : i = 0 <;> simp [Addr.add, h0]
theorem open_Flats {α : Type} [Inhabited α] {k : Nat} (hk : 0 < k) {encf : α → List Value} {ok : α → Prop} {t e : TypeId} {a : Option Addr} {n c : Nat} {d : DataW H} {p : List MemPlace} (ht : P.underlying t = some (.slice e)) (hC : P.cellsOf e = k)
    (hel : ∀ m cs x, cs.length = k → DataW.trod enc P W base (fun _ => true) held m e cs = some x → ∃ y : α, cs = encf y ∧ ok y)
    (h : DataW.Trod enc P W base (fun _ => true) held t (.slice a n c) d p) : ∃ l, Flats k encf ok W a n c l := by
  obtain ⟨fuel, hf⟩ := h
  rcases Deep.open_slice ht hf with ⟨hcs, _⟩ | ⟨x, len, cap, m, nn, D, Pl, hcs, _, hl, _, hm, _, hx⟩
  · simp [Value.cells] at hcs
    obtain ⟨rfl, rfl, rfl⟩ := hcs
    exact ⟨[], rfl, Nat.le_refl _, .inl rfl, (fun _ h => by cases h), fun _ => ⟨rfl, rfl⟩⟩
  · simp [Value.cells] at hcs
    obtain ⟨rfl, rfl, rfl⟩ := hcs
    simp only [if_true] at hm
    subst hm
    have hy : ∀ i, ∃ y : α, i < n → (∀ j, j < k → W.cell? (x.add (i * k) |>.add j) = (encf y)[j]?) ∧ (encf y).length = k ∧ ok y := by
      intro i
      by_cases hi : i < n
      · obtain ⟨cs', h1, h2⟩ := hx i (by omega)
        rw [hC] at h1
        obtain ⟨_, hlen, hcell⟩ := World.cells?_some h1
        obtain ⟨y, rfl, hok⟩ := hel _ _ _ hlen h2
        exact ⟨y, fun _ => ⟨hcell, hlen, hok⟩⟩
      · exact ⟨default, fun h => absurd h hi⟩
    let Y : Nat → α := fun i => (hy i).choose
    have hY : ∀ i, i < n → (∀ j, j < k → W.cell? (x.add (i * k) |>.add j) = (encf (Y i))[j]?) ∧ (encf (Y i)).length = k ∧ ok (Y i) := fun i => (hy i).choose_spec
    clear_value Y
    refine ⟨(List.range n).map Y, by simp, hl, ?_, fun z hz => ?_, fun h => by cases h⟩
    · by_cases h0 : n = 0
      · exact .inl h0
      · obtain ⟨b, off, spot⟩ := x
        obtain ⟨h1, h2, _⟩ := hY 0 (by omega)
        have hc := h1 0 hk
        rw [List.getElem?_eq_getElem (by omega)] at hc
        have hspot : spot = none := by simpa [Addr.add] using World.cell?_spot hc
        subst hspot
        refine .inr ⟨b, off, rfl, ?_, fun i y hy j v hv => ?_⟩
        · simp only [Nat.zero_mul, add_none, Nat.add_zero] at hc
          exact lt_of_cell hc
        · have hi : i < n := by
            have := (List.getElem?_eq_some_iff.1 hy).1
            simpa using this
          rw [range_get hi] at hy
          simp only [Option.some.injEq] at hy
          subst hy
          obtain ⟨h1, h2, _⟩ := hY i hi
          have hj : j < k := by rw [← h2]; exact (List.getElem?_eq_some_iff.1 hv).1
          have := h1 j hj
          rw [add_none, add_none, hv] at this
          exact this
    · simp only [List.mem_map, List.mem_range] at hz
      obtain ⟨i, hi, rfl⟩ := hz
      exact (hY i hi).2.2
instance : Inhabited I2 := ⟨⟨0, 0⟩⟩
instance : Inhabited I3 := ⟨⟨0, 0, 0⟩⟩
instance : Inhabited I2b := ⟨⟨0, 0, false⟩⟩
theorem read_I3 {e : TypeId} {f0 f1 f2 : Field} (he : P.underlying e = some (.struct #[f0, f1, f2])) (o0 : f0.offset = 0) (o1 : f1.offset = 1) (o2 : f2.offset = 2) (c0 : P.cellsOf f0.type = 1) (c1 : P.cellsOf f1.type = 1) (c2 : P.cellsOf f2.type = 1) (t0 : P.underlying f0.type = some (.int .i64)) (t1 : P.underlying f1.type = some (.int .i64)) (t2 : P.underlying f2.type = some (.int .i64))
    (m : Nat) (cs : List Value) (x : DataW H × List MemPlace) (hl : cs.length = 3) (h : DataW.trod enc P W base (fun _ => true) held m e cs = some x) : ∃ y : I3, cs = y.enc ∧ y.ok := by
  obtain ⟨y0, y1, y2, n, _, _, h0, h1, h2⟩ := Deep.trod_struct3 he h
  match cs, hl with
  | [v0, v1, v2], _ =>
    rw [o0, c0] at h0; rw [o1, c1] at h1; rw [o2, c2] at h2
    obtain ⟨a, e0, _, w0⟩ := DataW.trod_int t0 h0
    obtain ⟨b, e1, _, w1⟩ := DataW.trod_int t1 h1
    obtain ⟨c, e2, _, w2⟩ := DataW.trod_int t2 h2
    simp at e0 e1 e2
    exact ⟨⟨a, b, c⟩, by simp [I3.enc, e0, e1, e2], I64.of w0, I64.of w1, I64.of w2⟩
theorem read_I2b {e : TypeId} {f0 f1 f2 : Field} (he : P.underlying e = some (.struct #[f0, f1, f2])) (o0 : f0.offset = 0) (o1 : f1.offset = 1) (o2 : f2.offset = 2) (c0 : P.cellsOf f0.type = 1) (c1 : P.cellsOf f1.type = 1) (c2 : P.cellsOf f2.type = 1) (t0 : P.underlying f0.type = some (.int .i64)) (t1 : P.underlying f1.type = some (.int .i64)) (t2 : P.underlying f2.type = some .bool)
    (m : Nat) (cs : List Value) (x : DataW H × List MemPlace) (hl : cs.length = 3) (h : DataW.trod enc P W base (fun _ => true) held m e cs = some x) : ∃ y : I2b, cs = y.enc ∧ y.ok := by
  obtain ⟨y0, y1, y2, n, _, _, h0, h1, h2⟩ := Deep.trod_struct3 he h
  match cs, hl with
  | [v0, v1, v2], _ =>
    rw [o0, c0] at h0; rw [o1, c1] at h1; rw [o2, c2] at h2
    obtain ⟨a, e0, _, w0⟩ := DataW.trod_int t0 h0
    obtain ⟨b, e1, _, w1⟩ := DataW.trod_int t1 h1
    obtain ⟨c, e2, _⟩ := DataW.trod_bool t2 h2
    simp at e0 e1 e2
    exact ⟨⟨a, b, c⟩, by simp [I2b.enc, e0, e1, e2], I64.of w0, I64.of w1⟩
theorem read_I2 {e : TypeId} {f0 f1 : Field} (he : P.underlying e = some (.struct #[f0, f1])) (o0 : f0.offset = 0) (o1 : f1.offset = 1) (c0 : P.cellsOf f0.type = 1) (c1 : P.cellsOf f1.type = 1) (t0 : P.underlying f0.type = some (.int .i64)) (t1 : P.underlying f1.type = some (.int .i64))
    (m : Nat) (cs : List Value) (x : DataW H × List MemPlace) (hl : cs.length = 2) (h : DataW.trod enc P W base (fun _ => true) held m e cs = some x) : ∃ y : I2, cs = y.enc ∧ y.ok := by
  obtain ⟨y0, y1, n, _, _, h0, h1⟩ := trod_struct2 he h
  match cs, hl with
  | [v0, v1], _ =>
    rw [o0, c0] at h0; rw [o1, c1] at h1
    obtain ⟨a, e0, _, w0⟩ := DataW.trod_int t0 h0
    obtain ⟨b, e1, _, w1⟩ := DataW.trod_int t1 h1
    simp at e0 e1
    exact ⟨⟨a, b⟩, by simp [I2.enc, e0, e1], I64.of w0, I64.of w1⟩
end
end Go.Proofs.YtkaikbaagajckaaGreat
namespace Go.Proofs.YtkaikbaagajckaaGreat
open Go.RowKit Go.ChangeShapes Go.Joins
set_option linter.unusedVariables false
set_option linter.unusedSimpArgs false
/-- block g holds these cells -/
def Tab (w : World) (g : Nat) (cs : List Value) : Prop := g < w.heap.size ∧ ∀ i v, cs[i]? = some v → w.cell? ⟨g, i, none⟩ = some v
theorem Tab.keep {w w' : World} {g : Nat} {cs : List Value} (h : Tab w g cs) (hb : Below w.heap.size w w') : Tab w' g cs :=
  ⟨Nat.lt_of_lt_of_le h.1 hb.size, fun i v hv => (hb.cell (p := ⟨g, i, none⟩) h.1).trans (h.2 i v hv)⟩
theorem Tab.of_var {P : Program} {w : World} {n : String} {g : Nat} {cs : Array Value} (hg : P.globalNamed n = some g) (h : w.var? P n = some cs) : Tab w g cs.toList := by
  refine ⟨?_, fun i v hv => ?_⟩
  · unfold World.var? at h
    rw [hg] at h
    simp only [Option.bind_some] at h
    exact Nat.lt_of_not_le fun hle => by rw [Array.getElem?_eq_none hle] at h; cases h
  · rw [World.var?_cell hg h i]; simpa using hv
theorem laidVars_mem {P : Program} {w : World} : ∀ {l : List (String × DataW Unit)} {ps : List MemPlace}, DataW.LaidVars P w l ps → ∀ {n : String} {d : DataW Unit}, (n, d) ∈ l →
    ∃ g t cs fuel p, P.globalNamed n = some g ∧ (P.globals[g]?).map (·.type) = some t ∧ w.var? P n = some cs ∧ DataW.trod (fun _ => ()) P w 0 (fun _ => true) false fuel t cs.toList = some (d, p)
  | (n', d') :: r, ps, h, n, d, hm => by
    obtain ⟨g, t, cs, fuel, p, q, h1, h2, h3, h4, h5, _⟩ := h
    rcases List.mem_cons.1 hm with e | hm
    · cases e; exact ⟨g, t, cs, fuel, p, h1, h2, h3, h4⟩
    · exact laidVars_mem h5 hm
  | [], _, _, _, _, hm => by cases hm
theorem chunks_eq {α β : Type} {f : α → List β} {k : Nat} : ∀ {zs : List α} {cs : List β}, cs.length = zs.length * k → (∀ i z, zs[i]? = some z → (cs.drop (i * k)).take k = f z) → cs = zs.flatMap f
  | [], cs, hl, _ => by
    simp at hl; simp [hl]
  | z :: zs, cs, hl, h => by
    have h0 := h 0 z rfl
    simp only [Nat.zero_mul, List.drop_zero] at h0
    have h1 : cs.drop k = zs.flatMap f := chunks_eq (k := k) (by simp [List.length_drop, hl, Nat.succ_mul]) fun i y hy => by
      have := h (i + 1) y (by simpa using hy)
      rw [List.drop_drop, show k + i * k = (i + 1) * k from by rw [Nat.succ_mul, Nat.add_comm]]
      exact this
    rw [List.flatMap_cons, ← h0, ← h1, List.take_append_drop]
section
variable {H : Type} {enc : TypeId × Value → H} {P : Program} {w : World} {base : Nat} {sp : Nat → Bool} {held : Bool}
theorem cells_of_arr {α : Type} {encf : α → List Value} {encd : α → DataW H} {fuel : Nat} {t e : TypeId} {n k : Nat} {cs : List Value} {zs : List α} {p : List MemPlace}
    (ht : P.underlying t = some (.array n e)) (hce : P.cellsOf e = k) (hct : P.cellsOf t = n * k)
    (hel : ∀ m cs z p, cs.length = k → DataW.trod enc P w base sp held m e cs = some (encd z, p) → cs = encf z)
    (h : DataW.trod enc P w base sp held fuel t cs = some (.agg (zs.map encd), p)) : cs = zs.flatMap encf := by
  cases fuel with
  | zero => simp [DataW.trod] at h
  | succ fuel =>
    simp only [DataW.trod, ht, hce, hct] at h
    split at h
    · rename_i hl
      obtain ⟨xs, hm, hx⟩ := Option.map_eq_some_iff.1 h
      have hxs : xs.map (·.1) = zs.map encd := by
        have := congrArg Prod.fst hx
        simpa using this
      have hxl : xs.length = n := by simpa using Lib.mapM_length hm
      have hzl : zs.length = n := by
        have := congrArg List.length hxs
        simp at this
        omega
      refine chunks_eq (k := k) (by rw [hl, hzl]) fun i z hz => ?_
      have hi : i < n := by rw [← hzl]; exact (List.getElem?_eq_some_iff.1 hz).1
      obtain ⟨b, hb, hf⟩ := Lib.mapM_at hm i i (by simp [hi])
      have h2 : (xs.map (·.1))[i]? = some (encd z) := by rw [hxs, List.getElem?_map, hz]; rfl
      rw [List.getElem?_map, hb] at h2
      simp only [Option.map_some, Option.some.injEq] at h2
      obtain ⟨b1, b2⟩ := b
      subst h2
      refine hel _ _ z _ ?_ hf
      have : i * k + k ≤ n * k := by rw [← Nat.succ_mul]; exact Nat.mul_le_mul_right _ hi
      simp [List.length_take, List.length_drop, hl]; omega
    · cases h
theorem str_cell {m : Nat} {e : TypeId} {cs : List Value} {z : List UInt8} {p : List MemPlace} (he : P.underlying e = some .string) (hl : cs.length = 1)
    (h : DataW.trod enc P w base sp held m e cs = some (.lit (.string z), p)) : cs = [.string ⟨z.toArray⟩] := by
  cases m with
  | zero => simp [DataW.trod] at h
  | succ m =>
    match cs, hl with
    | [v], _ =>
      cases v with
      | string s =>
        simp only [DataW.trod, he] at h
        split at h
        · simp only [Option.some.injEq, Prod.mk.injEq, DataW.lit.injEq, Lit.string.injEq] at h
          obtain ⟨rfl, _⟩ := h
          rfl
        · cases h
      | _ => simp [DataW.trod, he] at h
/-- a value that is a part of a struct and whose type is a slice type -/
theorem slice_part {m : Nat} {t e : TypeId} {v : Value} {y : DataW H × List MemPlace} (ht : P.underlying t = some (.slice e)) (h : DataW.trod enc P w base sp held m t [v] = some y) :
    ∃ a n c, v = .slice a n c ∧ DataW.Trod enc P w base sp held t (.slice a n c) y.1 y.2 := by
  rcases Deep.open_slice ht h with ⟨hcs, _⟩ | ⟨x, len, cap, m, nn, D, Pl, hcs, _⟩
  · simp only [List.cons.injEq, and_true] at hcs
    exact ⟨_, _, _, hcs, _, by rw [hcs] at h; exact h⟩
  · simp only [List.cons.injEq, and_true] at hcs
    exact ⟨_, _, _, hcs, _, by rw [hcs] at h; exact h⟩
end
theorem trodVars_len {H : Type} {enc : TypeId × Value → H} {P : Program} {w : World} {sp : Nat → Bool} : ∀ {ns : List String} {gs : List (DataW H)} {ps : List MemPlace}, DataW.TrodVars enc P w sp ns gs ps → gs.length = ns.length
  | [], [], _, _ => rfl
  | [], _ :: _, _, h => h.elim
  | _ :: _, [], _, h => h.elim
  | n :: ns, d :: ds, ps, h => by
    obtain ⟨g, t, cs, fuel, p, q, h1, h2, h3, h4, hs, e⟩ := h
    have := trodVars_len hs
    simp [this]
/-- lays cells in a block -/
def lay (cs : List Value) : Obj → Obj
  | .cells _ t frozen => .cells cs.toArray t frozen
  | o => o
/-- a row of the table of commands -/
structure CRow where
  from' : Int
  to' : Int
  role : Int
  key : Bool
def CRow.enc (x : CRow) : List Value := [.int .i64 x.from', .int .i64 x.to', .int .i64 x.role, .bool x.key]
def CRow.encd {H : Type} (x : CRow) : DataW H := .agg [.lit (.int .i64 x.from'), .lit (.int .i64 x.to'), .lit (.int .i64 x.role), .lit (.bool x.key)]
theorem int_cell {H : Type} {enc : TypeId × Value → H} {P : Program} {w : World} {base : Nat} {sp : Nat → Bool} {held : Bool} {m : Nat} {e : TypeId} {cs : List Value} {z : Int} {p : List MemPlace} (he : P.underlying e = some (.int .i64))
    (h : DataW.trod enc P w base sp held m e cs = some (.lit (.int .i64 z), p)) : cs = [.int .i64 z] := by
  obtain ⟨a, e0, d0, w0⟩ := DataW.trod_int he h
  simp at d0
  rw [e0, d0.1]
theorem bool_cell {H : Type} {enc : TypeId × Value → H} {P : Program} {w : World} {base : Nat} {sp : Nat → Bool} {held : Bool} {m : Nat} {e : TypeId} {cs : List Value} {z : Bool} {p : List MemPlace} (he : P.underlying e = some .bool)
    (h : DataW.trod enc P w base sp held m e cs = some (.lit (.bool z), p)) : cs = [.bool z] := by
  obtain ⟨a, e0, d0⟩ := DataW.trod_bool he h
  simp at d0
  rw [e0, d0.1]
theorem crow_cells {H : Type} {enc : TypeId × Value → H} {P : Program} {w : World} {base : Nat} {sp : Nat → Bool} {held : Bool} {m : Nat} {e : TypeId} {f0 f1 f2 f3 : Field} {cs : List Value} {z : CRow} {p : List MemPlace} (he : P.underlying e = some (.struct #[f0, f1, f2, f3]))
    (o0 : f0.offset = 0) (o1 : f1.offset = 1) (o2 : f2.offset = 2) (o3 : f3.offset = 3) (c0 : P.cellsOf f0.type = 1) (c1 : P.cellsOf f1.type = 1) (c2 : P.cellsOf f2.type = 1) (c3 : P.cellsOf f3.type = 1)
    (t0 : P.underlying f0.type = some (.int .i64)) (t1 : P.underlying f1.type = some (.int .i64)) (t2 : P.underlying f2.type = some (.int .i64)) (t3 : P.underlying f3.type = some .bool) (hl : cs.length = 4)
    (h : DataW.trod enc P w base sp held m e cs = some (z.encd, p)) : cs = z.enc := by
  obtain ⟨y0, y1, y2, y3, n, hx, _, h0, h1, h2, h3⟩ := Joins.trod_struct4 he h
  simp only [CRow.encd, Prod.mk.injEq, DataW.agg.injEq, List.cons.injEq, and_true] at hx
  obtain ⟨⟨e0, e1, e2, e3⟩, _⟩ := hx
  obtain ⟨y0, q0⟩ := y0; obtain ⟨y1, q1⟩ := y1; obtain ⟨y2, q2⟩ := y2; obtain ⟨y3, q3⟩ := y3
  simp only at e0 e1 e2 e3
  subst e0 e1 e2 e3
  match cs, hl with
  | [v0, v1, v2, v3], _ =>
    rw [o0, c0] at h0; rw [o1, c1] at h1; rw [o2, c2] at h2; rw [o3, c3] at h3
    have k0 := int_cell t0 h0
    have k1 := int_cell t1 h1
    have k2 := int_cell t2 h2
    have k3 := bool_cell t3 h3
    simp at k0 k1 k2 k3
    simp [CRow.enc, k0, k1, k2, k3]
def strsCells (l : List (List UInt8)) : List Value := l.flatMap fun z => [.string ⟨z.toArray⟩]
def modeNm : List (List UInt8) := [[111, 102, 102], [109, 97, 105, 110, 116, 101, 110, 97, 110, 99, 101], [114, 101, 97, 100, 121], [114, 117, 110, 110, 105, 110, 103], [115, 116, 111, 112, 112, 101, 100], [101, 118, 97, 99, 117, 97, 116, 105, 111, 110]]
def cmdRows : List CRow := [⟨1, 2, 1, true⟩, ⟨4, 3, 1, false⟩, ⟨8, 2, 1, false⟩, ⟨62, 4, 0, false⟩, ⟨16, 2, 2, true⟩, ⟨16, 5, 3, false⟩, ⟨32, 4, 3, false⟩, ⟨5, 1, 2, true⟩, ⟨2, 2, 2, true⟩, ⟨4, 0, 1, false⟩]
end Go.Proofs.YtkaikbaagajckaaGreat
namespace Go.Proofs.YtkaikbaagajckaaGreat
open Go.ChangeShapes Go.WideShapes Go.ChangeAt Go.RowKit Go.Joins
set_option linter.unusedVariables false
set_option linter.unusedSimpArgs false
instance : Inhabited (RM × RuD) := ⟨(⟨⟨#[]⟩, none, 0, 0, none, 0, 0⟩, ⟨⟨#[]⟩, [], []⟩)⟩
section
variable {H : Type} {enc : TypeId × Value → H} {P : Program} {W : World} {base : Nat} {held : Bool}
theorem read_Rule {e te ae : TypeId} {f0 f1 f2 : Field} (he : P.underlying e = some (.struct #[f0, f1, f2])) (o0 : f0.offset = 0) (o1 : f1.offset = 1) (o2 : f2.offset = 2) (c0 : P.cellsOf f0.type = 1) (c1 : P.cellsOf f1.type = 1) (c2 : P.cellsOf f2.type = 1)
    (t0 : P.underlying f0.type = some .string) (t1 : P.underlying f1.type = some (.slice te)) (t2 : P.underlying f2.type = some (.slice ae)) (k1 : P.cellsOf te = 3) (k2 : P.cellsOf ae = 2)
    (r1 : ∀ m cs x, cs.length = 3 → DataW.trod enc P W base (fun _ => true) held m te cs = some x → ∃ y : I2b, cs = y.enc ∧ y.ok) (r2 : ∀ m cs x, cs.length = 2 → DataW.trod enc P W base (fun _ => true) held m ae cs = some x → ∃ y : I2, cs = y.enc ∧ y.ok)
    (m : Nat) (cs : List Value) (x : DataW H × List MemPlace) (hl : cs.length = 3) (h : DataW.trod enc P W base (fun _ => true) held m e cs = some x) : ∃ y : RM × RuD, cs = encR y ∧ RuX W y := by
  obtain ⟨y0, y1, y2, n, _, _, h0, h1, h2⟩ := Deep.trod_struct3 he h
  match cs, hl with
  | [v0, v1, v2], _ =>
    rw [o0, c0] at h0; rw [o1, c1] at h1; rw [o2, c2] at h2
    obtain ⟨s, e0, _, hs⟩ := DataW.trod_string t0 h0
    obtain ⟨ga, gn, gc, e1, hg⟩ := slice_part (v := v1) t1 h1
    obtain ⟨ea, en, ec, e2, hea⟩ := slice_part (v := v2) t2 h2
    simp at e0
    subst e0 e1 e2
    obtain ⟨g, wg⟩ := open_Flats (encf := I2b.enc) (ok := I2b.ok) (by decide) t1 k1 r1 hg
    obtain ⟨l, wl⟩ := open_Flats (encf := I2.enc) (ok := I2.ok) (by decide) t2 k2 r2 hea
    have bg : gn ≤ maxLen := by obtain ⟨_, hf⟩ := hg; exact len_le t1 hf
    have bl : en ≤ maxLen := by obtain ⟨_, hf⟩ := hea; exact len_le t2 hf
    exact ⟨(⟨s, ga, gn, gc, ea, en, ec⟩, ⟨s, g, l⟩), rfl, rfl, hs, wg, bg, wl, bl⟩
end
theorem open_Rules {H : Type} {enc : TypeId × Value → H} {W : World} {base : Nat} {held : Bool} {d : DataW H} {p : List MemPlace} {a : Option Addr} {n c : Nat} (h : DataW.Trod enc Tryz.prog W base (fun _ => true) held 23 (.slice a n c) d p) : ∃ l, FX W W a n c l :=
  open_Flats (encf := encR) (ok := RuX W) (by decide) Tryz.underlying23 (by kernel_rfl)
    (read_Rule Tryz.underlying143 rfl rfl rfl (by kernel_rfl) (by kernel_rfl) (by kernel_rfl) Tryz.underlying9 Tryz.underlying64 Tryz.underlying141 (by kernel_rfl) (by kernel_rfl)
      (read_I2b Tryz.underlying129 rfl rfl rfl (by kernel_rfl) (by kernel_rfl) (by kernel_rfl) Tryz.underlying2 Tryz.underlying2 Tryz.underlying4)
      (read_I2 Tryz.underlying234 rfl rfl (by kernel_rfl) (by kernel_rfl) Tryz.underlying2 Tryz.underlying2)) h
end Go.Proofs.YtkaikbaagajckaaGreat
