/- Diagrams in the exact laws: copies, comparisons and marks; TestDiagram by what the model means. -/
import Derived.Test.YtkaikbaagajckaaJf
import Derived.Test.YtkaikbaagajckaaWo
import Derived.Test.YtkaikbaagajckaaFl
namespace Go.Proofs.Ytkaikbaagajckaa
open Go.RowKit
set_option linter.unusedVariables false
set_option linter.unusedSimpArgs false
theorem laws_eqDiagram {b r : Int} {a a' : Option Addr} {n c n' c' : Nat} {l : List I3} {w : World} (hI : F3 w a n c l) (hI' : F3 w a' n' c' l) (hn : n ≤ 1048576) (hn' : n' ≤ 1048576) :
    Calls Try.prog 35 #[.agg #[.int .i64 b, .slice a n c, .int .i64 r], .agg #[.int .i64 b, .slice a' n' c', .int .i64 r]] w fun e w' => e = .returned (.bool true) ∧ Below w.heap.size w w' := by
  obtain rfl : n = n' := by have h1 := hI.len; have h2 := hI'.len; omega
  have HI := Lib.hid hI
  have HI' := Lib.hid hI'
  clear hI hI'
  have hb : (b != b) = false := by simp
  have hr : (r != r) = false := by simp
  go_enter Try.func35, Try.ntmps35
  go_wp2_with fail
  refine Calls.mono (laws_eqNodeS (HI.out.keep (by repeat (first | exact Below.refl _ _ | assumption | refine below_allocS ?_ _ | refine below_callS ?_ (by assumption) | (refine Below.alloc ?_ (by first | omega | (simp; done) | (simp; omega)) _) | (refine Below.setCell ?_ (by first | omega | (simp; done) | (simp; omega)) _) | refine Below.drew ?_ | refine below_drewN ?_ _ | (refine below_call ?_ (by assumption) (by first | omega | (simp; done) | (simp; omega))) | (refine Below.trans ?_ (by assumption))))) (HI'.out.keep (by repeat (first | exact Below.refl _ _ | assumption | refine below_allocS ?_ _ | refine below_callS ?_ (by assumption) | (refine Below.alloc ?_ (by first | omega | (simp; done) | (simp; omega)) _) | (refine Below.setCell ?_ (by first | omega | (simp; done) | (simp; omega)) _) | refine Below.drew ?_ | refine below_drewN ?_ _ | (refine below_call ?_ (by assumption) (by first | omega | (simp; done) | (simp; omega))) | (refine Below.trans ?_ (by assumption))))) hn) ?_
  rintro e w1 ⟨rfl, hb_w1⟩
  obtain ⟨hc_w1, hf_w1⟩ := bcell hb_w1
  have hs_w1 := hb_w1.size
  go_wp2
  go_ret
  exact ⟨rfl, by repeat (first | exact Below.refl _ _ | assumption | refine below_allocS ?_ _ | refine below_callS ?_ (by assumption) | (refine Below.alloc ?_ (by first | omega | (simp; done) | (simp; omega)) _) | (refine Below.setCell ?_ (by first | omega | (simp; done) | (simp; omega)) _) | refine Below.drew ?_ | refine below_drewN ?_ _ | (refine below_call ?_ (by assumption) (by first | omega | (simp; done) | (simp; omega))) | (refine Below.trans ?_ (by assumption)))⟩
set_option maxHeartbeats 1000000 in
theorem laws_markDiagram {b r : Int} {a : Option Addr} {n c base : Nat} {l : List I3} {q : Int} {w : World} (hI : OwnF 3 I3.enc I3.ok 76 w base a n c l) (hn : n ≤ 1048576) (hq0 : 0 ≤ q) (hq1 : q ≤ 1099511627776) :
    Calls Try.prog 40 #[.agg #[.int .i64 b, .slice a n c, .int .i64 r], .int .i64 q] w fun e w' => e = .returned (.int .i64 (q + 3 * n)) ∧ Touch w w' n a ∧ OwnF 3 I3.enc I3.ok 76 w' base a n c (marks3 q n) := by
  have HI := Lib.hid hI
  clear hI
  go_enter Try.func40, Try.ntmps40
  go_wp2_with fail
  refine Calls.mono (laws_markNodeS (HI.out.keep (by repeat (first | exact Below.refl _ _ | assumption | refine below_allocS ?_ _ | refine below_callS ?_ (by assumption) | (refine Below.alloc ?_ (by first | omega | (simp; done) | (simp; omega)) _) | (refine Below.setCell ?_ (by first | omega | (simp; done) | (simp; omega)) _) | refine Below.drew ?_ | refine below_drewN ?_ _ | (refine below_call ?_ (by assumption) (by first | omega | (simp; done) | (simp; omega))) | (refine Below.trans ?_ (by assumption))))) hn hq0 hq1) ?_
  rintro e w1 ⟨rfl, ht, ho⟩
  have HO := Lib.hid ho
  clear ho
  go_wp2
  go_ret
  obtain ⟨r9, hg, hr9⟩ := ht
  exact ⟨rfl, ⟨r9, grownBy_trans (World.grownBy_alloc _ _ _) hg, hr9⟩, HO.out⟩
theorem laws_heldDiagram {b r : Int} {a : Option Addr} {n c : Nat} {q : Int} {w : World} (hI : F3 w a n c (marks3 q n)) (hn : n ≤ 1048576) (hq0 : 0 ≤ q) (hq1 : q ≤ 1099511627776) :
    Calls Try.prog 41 #[.agg #[.int .i64 b, .slice a n c, .int .i64 r], .int .i64 q] w fun e w' => e = .returned (.int .i64 (q + 3 * n)) ∧ Below w.heap.size w w' := by
  have HI := Lib.hid hI
  clear hI
  have hqn : decide (q + 3 * (n : Int) < 0) = false := by simp; omega
  go_enter Try.func41, Try.ntmps41
  go_wp2_with fail
  refine Calls.mono (laws_heldNodeS (HI.out.keep (by repeat (first | exact Below.refl _ _ | assumption | refine below_allocS ?_ _ | refine below_callS ?_ (by assumption) | (refine Below.alloc ?_ (by first | omega | (simp; done) | (simp; omega)) _) | (refine Below.setCell ?_ (by first | omega | (simp; done) | (simp; omega)) _) | refine Below.drew ?_ | refine below_drewN ?_ _ | (refine below_call ?_ (by assumption) (by first | omega | (simp; done) | (simp; omega))) | (refine Below.trans ?_ (by assumption))))) hn hq0 hq1) ?_
  rintro e _ ⟨rfl, rfl⟩
  go_wp2
  go_ret
  exact ⟨rfl, by repeat (first | exact Below.refl _ _ | assumption | refine below_allocS ?_ _ | refine below_callS ?_ (by assumption) | (refine Below.alloc ?_ (by first | omega | (simp; done) | (simp; omega)) _) | (refine Below.setCell ?_ (by first | omega | (simp; done) | (simp; omega)) _) | refine Below.drew ?_ | refine below_drewN ?_ _ | (refine below_call ?_ (by assumption) (by first | omega | (simp; done) | (simp; omega))) | (refine Below.trans ?_ (by assumption)))⟩
theorem tdC_rs {sz st : List Int} {l : List (RM × RuD)} {rs : List RuD} {g : List I2b} (h : l.map (·.2) = rs) : tdC sz st l g = tdC sz st (rsM rs) g := by rw [tdC, tdC, modelB_rs h]
theorem tdC_len (sz st : List Int) (l : List (RM × RuD)) (g : List I2b) : (tdC sz st l g).2.1.length ≤ 496 := by
  rw [tdC]
  split
  · simp
  · split
    · simp
    · split
      · simp
      · rename_i h _ _
        have hm : modelB sz st l = true := by simpa using h
        exact ts_few (modelB_all hm) (modelB_len hm)
/-- a diagram with a code that a call returns, as the laws want it -/
def DgQ (w : World) (i : Int) (L : List I3) (r code : Int) (e : Ending) (w' : World) : Prop := ∃ n a c, e = .returned (.tuple #[.agg #[.int .i64 i, .slice a n c, .int .i64 r], .int .i64 code]) ∧ Below w.heap.size w w' ∧ OwnF 3 I3.enc I3.ok 76 w' w.heap.size a n c L
theorem DgR.q {w w' : World} {C : Int × List I3 × Int × Int} {e : Ending} (h : DgR w C e w') : DgQ w C.1 C.2.1 C.2.2.1 C.2.2.2 e w' := by
  obtain ⟨da, dc, h1, h2, h3⟩ := h
  exact ⟨_, da, dc, h1, h3, h2⟩
theorem spec_TestDiagram_r {sa ta ra ga : Option Addr} {sn sc tn tc rn rc gn gc : Nat} {sz st : List Int} {rs : List RuD} {g : List I2b} {w : World} (h : MRd w sa sn sc ta tn tc ra rn rc sz st rs) (hG : F2b w ga gn gc g) (hg : gn ≤ 1048576) :
    Calls Try.prog 31 #[.agg #[.slice sa sn sc, .slice ta tn tc, .slice ra rn rc], .slice ga gn gc] w (DgQ w (tdC sz st (rsM rs) g).1 (tdC sz st (rsM rs) g).2.1 (tdC sz st (rsM rs) g).2.2.1 (tdC sz st (rsM rs) g).2.2.2) := by
  obtain ⟨l, h1, h2⟩ := h.r
  have := spec_TestDiagram h.s h.sn h.t h.tn h1 h.rn hG hg
  rw [tdC_rs h2] at this
  exact this.mono fun e w' h => h.q
theorem impl_TestDiagram_r {sa ta ra ga : Option Addr} {sn sc tn tc rn rc gn gc : Nat} {sz st : List Int} {rs : List RuD} {g : List I2b} {w : World} (h : MRd w sa sn sc ta tn tc ra rn rc sz st rs) (hG : F2b w ga gn gc g) (hg : gn ≤ 1048576) :
    Calls Try.prog 34 #[.agg #[.slice sa sn sc, .slice ta tn tc, .slice ra rn rc], .slice ga gn gc] w (DgQ w (tdC sz st (rsM rs) g).1 (tdC sz st (rsM rs) g).2.1 (tdC sz st (rsM rs) g).2.2.1 (tdC sz st (rsM rs) g).2.2.2) := by
  obtain ⟨l, h1, h2⟩ := h.r
  have := impl_TestDiagram h.s h.sn h.t h.tn h1 h.rn hG hg
  rw [tdC_rs h2] at this
  exact this.mono fun e w' h => h.q
end Go.Proofs.Ytkaikbaagajckaa
