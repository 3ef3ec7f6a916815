/- Models of the exact laws: what the generated walks of the laws use. -/
import Derived.Test.YtcnjnkjnpfpaeaaJf
import Derived.Test.YtcnjnkjnpfpaeaaL23d
import Derived.Test.YtcnjnkjnpfpaeaaL10
namespace Go.Proofs.Ytcnjnkjnpfpaeaa
open Go.RowKit
set_option linter.unusedVariables false
set_option linter.unusedSimpArgs false
/-- rules as they are meant, laid nowhere -/
def rsM (rs : List RuD) : List (RM × RuD) := rs.map fun r => (⟨r.nm, none, 0, 0, none, 0, 0⟩, r)
theorem rsM_map (rs : List RuD) : (rsM rs).map (·.2) = rs := by simp [rsM, Function.comp_def]
theorem rulesB_map {sz : List Int} {l : List (RM × RuD)} : rulesB sz l = (l.map (·.2)).all (ruleB sz) := by
  rw [rulesB, List.all_map]; rfl
theorem modelB_rs {sz st : List Int} {l : List (RM × RuD)} {rs : List RuD} (h : l.map (·.2) = rs) : modelB sz st l = modelB sz st (rsM rs) := by
  subst h
  rw [modelB, modelB, rulesB_map, rulesB_map, rsM_map]
  simp [rsM]
theorem bmL_rs {sz st : List Int} {l : List (RM × RuD)} {rs : List RuD} (h : l.map (·.2) = rs) : bmL sz st l = bmL sz st (rsM rs) := by rw [bmL, bmL, modelB_rs h]
theorem bmC_rs {sz st : List Int} {l : List (RM × RuD)} {rs : List RuD} (h : l.map (·.2) = rs) : bmC sz st l = bmC sz st (rsM rs) := by rw [bmC, bmC, modelB_rs h]
theorem bmL_len (sz st : List Int) (l : List (RM × RuD)) : (bmL sz st l).length ≤ sz.length := by
  rw [bmL]; split <;> simp
theorem FX.keepX {w w' : World} {a : Option Addr} {n c : Nat} {l : List (RM × RuD)} (h : FX w w a n c l) (hb : Below w.heap.size w w') : FX w' w' a n c l := by
  have hf := Flats.keep h hb
  exact ⟨hf.len, hf.cap, hf.pos, fun x hx => by obtain ⟨q1, q2, q3, q4, q5, q6⟩ := hf.wf x hx; exact ⟨q1, q2, q3.keep hb, q4, q5.keep hb, q6⟩, hf.nil⟩
theorem need_mem {l : List (RM × RuD)} {x : RM × RuD} (h : x ∈ l) : need1 x ≤ need l := by
  obtain ⟨k, hk⟩ := List.getElem?_of_mem h
  have := need_le hk
  omega
theorem cnt_need {l : List (RM × RuD)} (h : ∀ x ∈ l, x.2.g.length = x.1.gn ∧ x.2.e.length = x.1.en) : cntRu (l.map (·.2)) ≤ l.length + 3 * need l := by
  induction l with
  | nil => simp [cntRu, need]
  | cons x r ih =>
    have h1 := ih fun y hy => h y (List.mem_cons_of_mem _ hy)
    have h2 := h x (List.mem_cons_self ..)
    have e1 : cntRu ((x :: r).map (·.2)) = cnt1 x.2 + cntRu (r.map (·.2)) := by simp [cntRu]
    have e2 : need (x :: r) = need1 x + need r := by simp [need]
    have e3 : cnt1 x.2 = 1 + 3 * x.2.g.length + 2 * x.2.e.length := rfl
    have e4 : need1 x = x.1.nm.size + x.1.gn + x.1.en := rfl
    rw [List.length_cons]
    omega
theorem mrd_of {w : World} {sa : Option Addr} {sn sc : Nat} {ta : Option Addr} {tn tc : Nat} {ra : Option Addr} {rn rc N : Nat} {sz st : List Int} {l : List (RM × RuD)} {rs : List RuD} (hS : Ints w sa sn sc sz) (hT : Ints w ta tn tc st) (hR : FX w w ra rn rc l) (hrs : l.map (·.2) = rs) (hN : sn + tn + (rn + need l) = N) (hn : N ≤ 1048576) : MRd w sa sn sc ta tn tc ra rn rc sz st rs := by
  refine ⟨hS, hT, ⟨l, ⟨hR.len, hR.cap, hR.pos, fun x hx => ?_, hR.nil⟩, hrs⟩, by omega, by omega, by omega⟩
  obtain ⟨q1, q2, q3, q4, q5, q6⟩ := hR.wf x hx
  have h1 := need_mem hx
  have e4 : need1 x = x.1.nm.size + x.1.gn + x.1.en := rfl
  exact ⟨q1, q2, q3, by omega, q5, by omega⟩
theorem cnt_of {w : World} {ra : Option Addr} {sn tn rn rc N : Nat} {l : List (RM × RuD)} {rs : List RuD} (hR : FX w w ra rn rc l) (hrs : l.map (·.2) = rs) (hN : sn + tn + (rn + need l) = N) : cntRu rs ≤ 3 * N := by
  rw [← hrs]
  have h1 := cnt_need (l := l) fun x hx => by
    obtain ⟨q1, q2, q3, q4, q5, q6⟩ := hR.wf x hx
    exact ⟨q3.len, q5.len⟩
  have h2 := hR.len
  omega
theorem spec_BitsOfModel_r {sa : Option Addr} {sn sc : Nat} {ta : Option Addr} {tn tc : Nat} {ra : Option Addr} {rn rc : Nat} {sz st : List Int} {rs : List RuD} {w : World} (h : MRd w sa sn sc ta tn tc ra rn rc sz st rs) :
    Calls Try.prog 13 #[.agg #[.slice sa sn sc, .slice ta tn tc, .slice ra rn rc]] w fun e w' => RetIC 2 w (bmL sz st (rsM rs)) (bmC sz st (rsM rs)) e w' := by
  obtain ⟨l, h1, h2⟩ := h.r
  have := spec_BitsOfModel h.s h.sn h.t h.tn h1 h.rn
  rw [bmL_rs h2, bmC_rs h2] at this
  exact this
theorem impl_BitsOfModel_r {sa : Option Addr} {sn sc : Nat} {ta : Option Addr} {tn tc : Nat} {ra : Option Addr} {rn rc : Nat} {sz st : List Int} {rs : List RuD} {w : World} (h : MRd w sa sn sc ta tn tc ra rn rc sz st rs) :
    Calls Try.prog 12 #[.agg #[.slice sa sn sc, .slice ta tn tc, .slice ra rn rc]] w fun e w' => RetIC 2 w (bmL sz st (rsM rs)) (bmC sz st (rsM rs)) e w' := by
  obtain ⟨l, h1, h2⟩ := h.r
  have := impl_BitsOfModel h.s h.sn h.t h.tn h1 h.rn
  rw [bmL_rs h2, bmC_rs h2] at this
  exact this
end Go.Proofs.Ytcnjnkjnpfpaeaa
