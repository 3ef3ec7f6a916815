/- A region that draws its order and whose last operation is a call that changes what the loads before it read.; A region that draws its order and in which one operation, behind all loads, changes what they read.; The program's forests, walked: a node is made once.; Diagrams in the exact laws: copies, comparisons and marks; TestDiagram by what the model means.; The reference's builds of diagrams, walked: a node is made once. -/
import Derived.Test.YtkaikbaagajckaaGreatBase
import Derived.OrdersHeld
import Derived.Test.YtkaikbaagajckaaGreatR10
import Derived.Test.YtkaikbaagajckaaGreatR11
import Derived.BigQuiet
import Derived.Test.YtkaikbaagajckaaGreatR02
import Derived.Laws.StructEq
namespace Go.Proofs.YtkaikbaagajckaaGreat
open Go.RowKit
set_option linter.unusedVariables false
set_option linter.unusedSimpArgs false
section
variable {P : Program} {ops : Array Oper} {Q : Exit → Act → World → Prop} {md : Region.Mode} {S : World → Prop}
/-- what is listed has what it waits for listed -/
def dcL (md : Region.Mode) (ops : Array Oper) (listed : Array Bool) : Prop := ∀ (k : Nat) (o : Oper), ops[k]? = some o → listed.getD k true = true → ∀ e ∈ o.after, Region.binds md e = true → listed.getD e.on false = true
def dcB (md : Region.Mode) (ops : Array Oper) (listed : Array Bool) : Bool := (List.range ops.size).all fun k => match ops[k]? with
  | none => true
  | some o => !listed.getD k true || o.after.all fun e => !Region.binds md e || listed.getD e.on false
theorem dcB_spec {listed : Array Bool} (h : dcB md ops listed = true) : dcL md ops listed := by
  intro k o ho hk e he hb
  rw [dcB, List.all_eq_true] at h
  have h1 := h k (List.mem_range.2 (Array.getElem?_eq_some_iff.1 ho).1)
  rw [ho] at h1
  simp only [hk, Bool.not_true, Bool.false_or, Array.all_eq_true_iff_forall_mem, Bool.or_eq_true, Bool.not_eq_true'] at h1
  exact (h1 e he).resolve_left (by simp [hb])
theorem dcL_set {listed : Array Bool} {j : Nat} (h : dcL md ops listed) (hj : j ∈ Region.ready md ops listed) : dcL md ops (listed.setIfInBounds j true) := by
  intro k o ho hk e he hb
  by_cases hjk : j = k
  · subst hjk
    obtain ⟨_, o', ho', hall⟩ := mem_ready.1 hj
    rw [ho] at ho'
    cases ho'
    exact getD_set_true (hall e he hb)
  · rw [getD_set_ne true hjk] at hk
    exact getD_set_true (h k o ho hk e he hb)
/-- L waits for i -/
def rchL (md : Region.Mode) (ops : Array Oper) : Nat → Nat → Nat → Bool
  | 0, _, _ => false
  | f + 1, L, i => match ops[L]? with
    | none => false
    | some o => o.after.any fun e => Region.binds md e && (e.on == i || rchL md ops f e.on i)
theorem rchL_spec {listed : Array Bool} (hd : dcL md ops listed) : ∀ (f L i : Nat), (L ∈ Region.ready md ops listed ∨ listed.getD L false = true) → rchL md ops f L i = true → listed.getD i false = true
  | 0, _, _, _, h => by cases h
  | f + 1, L, i, hL, h => by
    rw [rchL] at h
    split at h
    · cases h
    · rename_i o ho
      obtain ⟨e, he, hh⟩ := Array.any_eq_true'.1 h
      simp only [Bool.and_eq_true, Bool.or_eq_true, beq_iff_eq] at hh
      have hon : listed.getD e.on false = true := by
        rcases hL with hL | hL
        · obtain ⟨_, o', ho', hall⟩ := mem_ready.1 hL
          rw [ho] at ho'
          cases ho'
          exact hall e he hh.1
        · refine hd L o ho ?_ e he hh.1
          rcases Nat.lt_or_ge L listed.size with h' | h'
          · simp [h'] at hL ⊢; exact hL
          · simp [Array.getElem?_eq_none h'] at hL
      rcases hh.2 with rfl | h2
      · exact hon
      · exact rchL_spec hd f e.on i (.inr hon) h2
/-- L comes last -/
def lastL (md : Region.Mode) (ops : Array Oper) (L : Nat) : Bool := (List.range ops.size).all fun i => i == L || rchL md ops ops.size L i
theorem lastL_spec {listed : Array Bool} {L i : Nat} (h : lastL md ops L = true) (hd : dcL md ops listed) (hL : L ∈ Region.ready md ops listed) (hi : i < ops.size) (hne : i ≠ L) : listed.getD i true = true := by
  rw [lastL, List.all_eq_true] at h
  have h1 := h i (List.mem_range.2 hi)
  simp only [Bool.or_eq_true, beq_iff_eq, hne, false_or] at h1
  have h2 := rchL_spec hd _ _ _ (.inl hL) h1
  rcases Nat.lt_or_ge i listed.size with h' | h'
  · simp [h'] at h2 ⊢; exact h2
  · simp [Array.getElem?_eq_none h'] at h2
/-- whatever order is picked from here on, and S holds behind every operation but L -/
def wpAnyL (P : Program) (md : Region.Mode) (ops : Array Oper) (Q : Exit → Act → World → Prop) (S : World → Prop) (L : Nat) : Nat → Array Bool → Act → World → Prop
  | 0, listed, a, w => Region.ready md ops listed = [] ∧ Q .normal a w
  | fuel + 1, listed, a, w =>
    (Region.ready md ops listed = [] → Q .normal a w) ∧
    ∀ i ∈ Region.ready md ops listed, wpOp P ops Q i (fun a' w' => (i ≠ L → S w') ∧ wpAnyL P md ops Q S L fuel (listed.setIfInBounds i true) a' w') a w
theorem wpAny_of_L {L : Nat} : ∀ (fuel : Nat) (listed : Array Bool) (a : Act) (w : World), wpAnyL P md ops Q S L fuel listed a w → wpAny P md ops Q fuel listed a w
  | 0, _, _, _, h => h
  | fuel + 1, _, _, _, h => ⟨h.1, fun i hi => wpOp_mono (fun a' w' h' => wpAny_of_L fuel _ a' w' h'.2) (h.2 i hi)⟩
theorem wpAnyL_first {i L : Nat} {oi : Oper} {v : Value} (hi : ops[i]? = some oi) (hsel : ∀ (j : Nat) (o : Oper) cs b, ops[j]? = some o → o.op ≠ .select cs b) (hlast : lastL md ops L = true) (hiL : i ≠ L)
    (hQ : ∀ c a w, Q (.panic c) (a.put oi.dst v) w → Q (.panic c) a w) :
    ∀ (fuel : Nat) (listed : Array Bool) (a : Act) (w : World), dcL md ops listed →
      (∀ j oj, ops[j]? = some oj → j ≠ i → listed.getD j true = false → (∀ e ∈ oj.after, Region.binds md e = true → e.on ≠ i) → oi.apart ops oj = true) →
      i ∈ Region.ready md ops listed → YieldsIf P ops S oi v a → S w →
      wpAnyL P md ops Q S L fuel (listed.setIfInBounds i true) (a.put oi.dst v) w → wpAnyL P md ops Q S L (fuel + 1) listed a w := by
  intro fuel
  induction fuel with
  | zero =>
    intro listed a w _ _ hr hy hS H
    refine ⟨fun h => (by rw [h] at hr; cases hr), fun j hj => ?_⟩
    by_cases hji : j = i
    · subst hji; exact hy.wpOp hi hS ⟨fun _ => hS, H⟩
    · have := ready_mono hj hji
      rw [H.1] at this
      cases this
  | succ fuel ih =>
    intro listed a w hdc hfree hr hy hS H
    refine ⟨fun h => (by rw [h] at hr; cases hr), fun j hj => ?_⟩
    by_cases hji : j = i
    · subst hji; exact hy.wpOp hi hS ⟨fun _ => hS, H⟩
    · have hjL : j ≠ L := fun e => by
        subst e
        have h1 := lastL_spec hlast hdc hj (Array.getElem?_eq_some_iff.1 hi).1 hiL
        have h2 := (mem_ready.1 hr).1
        rw [h1] at h2; cases h2
      have h1 := H.2 j (ready_mono hj hji)
      obtain ⟨hjun, oj, hoj, hall⟩ := mem_ready.1 hj
      have hnot : ∀ e ∈ oj.after, Region.binds md e = true → e.on ≠ i := fun e he hb heq => by
        have h1 := hall e he hb
        have h0 := (mem_ready.1 hr).1
        rw [heq] at h1
        rcases Nat.lt_or_ge i listed.size with h' | h'
        · simp [h'] at h0 h1; rw [h0] at h1; cases h1
        · simp [Array.getElem?_eq_none h'] at h1
      have h2 := wpOp_putIf hoj (hfree j oj hoj hji hjun hnot) (fun cs b => hsel i oi cs b hi) (fun cs b => hsel j oj cs b hoj) hQ hy h1
      have hfree' : ∀ k ok, ops[k]? = some ok → k ≠ i → (listed.setIfInBounds j true).getD k true = false →
          (∀ e ∈ ok.after, Region.binds md e = true → e.on ≠ i) → oi.apart ops ok = true := fun k ok hk hki hun hno => by
        refine hfree k ok hk hki ?_ hno
        by_cases hjk : j = k
        · subst hjk; exact hjun
        · rw [getD_set_ne true hjk] at hun; exact hun
      refine wpOp_mono (fun a' w' h3 => ⟨fun _ => h3.2.1 hjL, ih (listed.setIfInBounds j true) a' w' (dcL_set hdc hj) hfree' (ready_mono hr (Ne.symm hji)) h3.1 (h3.2.1 hjL) ?_⟩) h2
      rw [Array.setIfInBounds_comm _ _ hji]
      exact h3.2.2
theorem wpAnyL_take {i L : Nat} {oi : Oper} {v : Value} {fuel : Nat} {listed : Array Bool} {a : Act} {w : World} (hi : ops[i]? = some oi) (hlast : lastL md ops L = true) (hiL : i ≠ L) (hdc : dcB md ops listed = true)
    (hs : Region.noSelect ops = true) (hf : Region.free md ops listed i = true) (hr : (Region.ready md ops listed).contains i = true)
    (hQ : ∀ c a w, Q (.panic c) (a.put oi.dst v) w → Q (.panic c) a w) (hy : YieldsIf P ops S oi v a) (hS : S w)
    (h : wpAnyL P md ops Q S L fuel (listed.setIfInBounds i true) (a.put oi.dst v) w) : wpAnyL P md ops Q S L (fuel + 1) listed a w :=
  wpAnyL_first hi (Region.noSelect_spec hs) hlast hiL hQ fuel listed a w (dcB_spec hdc) (Region.free_spec hi hf) (by simpa using hr) hy hS h
def AllReadyL (P : Program) (md : Region.Mode) (ops : Array Oper) (Q : Exit → Act → World → Prop) (S : World → Prop) (L : Nat) (fuel : Nat) (listed : Array Bool) (a : Act) (w : World) (rs : List Nat) : Prop :=
  ∀ i ∈ rs, wpOp P ops Q i (fun a' w' => (i ≠ L → S w') ∧ wpAnyL P md ops Q S L fuel (listed.setIfInBounds i true) a' w') a w
theorem AllReadyL.nil {L fuel : Nat} {listed : Array Bool} {a : Act} {w : World} : AllReadyL P md ops Q S L fuel listed a w [] := fun _ h => by cases h
theorem AllReadyL.cons {L fuel : Nat} {listed : Array Bool} {a : Act} {w : World} {i : Nat} {o : Oper} {rs : List Nat} (ho : ops[i]? = some o)
    (h : ∀ K' : Act → World → Prop, Shut (∀ a w, S w → (S w → wpAnyL P md ops Q S L fuel (listed.setIfInBounds i true) a w) → K' a w) → if Region.wanted o (yielded ops a.tmps) = true then Oper.wp P o a w K' Q else K' (a.put o.dst undef) w)
    (hs : AllReadyL P md ops Q S L fuel listed a w rs) : AllReadyL P md ops Q S L fuel listed a w (i :: rs) := fun j hj => by
  rcases List.mem_cons.1 hj with rfl | hj
  · exact wpOp_step ho (fun K' hK => h K' (fun a w hS hW => hK a w ⟨fun _ => hS, hW hS⟩))
  · exact hs j hj
theorem AllReadyL.last {L fuel : Nat} {listed : Array Bool} {a : Act} {w : World} {o : Oper} (ho : ops[L]? = some o)
    (h : ∀ K' : Act → World → Prop, Shut (∀ a w, wpAnyL P md ops Q S L fuel (listed.setIfInBounds L true) a w → K' a w) → if Region.wanted o (yielded ops a.tmps) = true then Oper.wp P o a w K' Q else K' (a.put o.dst undef) w) :
    AllReadyL P md ops Q S L fuel listed a w [L] := fun j hj => by
  rcases List.mem_cons.1 hj with rfl | hj
  · exact wpOp_step ho (fun K' hK => h K' (fun a w hW => hK a w ⟨fun e => absurd rfl e, hW⟩))
  · cases hj
theorem wpAnyL_ready {L : Nat} {rs : List Nat} {fuel : Nat} {listed : Array Bool} {a : Act} {w : World} (hr : Region.ready md ops listed = rs) (hne : rs ≠ [])
    (h : AllReadyL P md ops Q S L fuel listed a w rs) : wpAnyL P md ops Q S L (fuel + 1) listed a w := ⟨fun h0 => absurd (hr ▸ h0) hne, hr ▸ h⟩
theorem wpAnyL_done {L : Nat} {listed : Array Bool} {a : Act} {w : World} (hr : Region.ready md ops listed = []) (h : Q .normal a w) :
    ∀ fuel, wpAnyL P md ops Q S L fuel listed a w
  | 0 => ⟨hr, h⟩
  | _ + 1 => ⟨fun _ => h, by rw [hr]; simp⟩
theorem wp_region_L {L id : Nat} {a : Act} {w : World} (hm : P.follows .mixedOrders = true) (hS : S w.drew)
    (h : S w.drew → wpAnyL P .any ops Q S L ops.size (Array.replicate ops.size false) a w.drew) : (Code.region id ops true).wp P Q a w :=
  wp_region_any hm (wpAny_of_L _ _ _ _ (h hS))
end
section
variable {P : Program} {ops : Array Oper} {Q : Exit → Act → World → Prop} {md : Region.Mode} {S : World → Prop}
/-- L waits for i: while i is not listed, L neither is listed nor ready -/
theorem rch_open {listed : Array Bool} {L i : Nat} (hr : rchL md ops ops.size L i = true) (hd : dcL md ops listed) (hi : listed.getD i true = false) : L ∉ Region.ready md ops listed ∧ listed.getD L true = false := by
  have hno : ¬ listed.getD i false = true := fun h => by
    rcases Nat.lt_or_ge i listed.size with h' | h'
    · simp [h'] at h hi; rw [h] at hi; cases hi
    · simp [Array.getElem?_eq_none h'] at h
  refine ⟨fun h => hno (rchL_spec hd _ _ _ (.inl h) hr), ?_⟩
  cases h : listed.getD L true with
  | false => rfl
  | true =>
    rcases Nat.lt_or_ge L listed.size with h' | h'
    · exact absurd (rchL_spec hd _ _ _ (.inr (by simp [h'] at h ⊢; exact h)) hr) hno
    · have : ops.size ≠ 0 := fun h0 => by rw [h0] at hr; cases hr
      exfalso
      have hn : ops[L]? = none ∨ ∃ o, ops[L]? = some o := by cases ops[L]? <;> simp
      rcases hn with hn | ⟨o, ho⟩
      · obtain ⟨f, hf⟩ := Nat.exists_eq_succ_of_ne_zero this
        rw [hf, rchL, hn] at hr; cases hr
      · obtain ⟨f, hf⟩ := Nat.exists_eq_succ_of_ne_zero this
        rw [hf, rchL, ho] at hr
        obtain ⟨e, he, hh⟩ := Array.any_eq_true'.1 hr
        simp only [Bool.and_eq_true, Bool.or_eq_true, beq_iff_eq] at hh
        have hon : listed.getD e.on false = true := hd L o ho h e he hh.1
        rcases hh.2 with e1 | e2
        · exact hno (e1 ▸ hon)
        · exact hno (rchL_spec hd f e.on i (.inr hon) e2)
/-- whatever order is picked from here on, and S holds behind every operation until L is done -/
def wpAnyM (P : Program) (md : Region.Mode) (ops : Array Oper) (Q : Exit → Act → World → Prop) (S : World → Prop) (L : Nat) : Nat → Array Bool → Act → World → Prop
  | 0, listed, a, w => Region.ready md ops listed = [] ∧ Q .normal a w
  | fuel + 1, listed, a, w =>
    (Region.ready md ops listed = [] → Q .normal a w) ∧
    ∀ i ∈ Region.ready md ops listed, wpOp P ops Q i (fun a' w' => (i ≠ L → listed.getD L true = false → S w') ∧ wpAnyM P md ops Q S L fuel (listed.setIfInBounds i true) a' w') a w
theorem wpAny_of_M {L : Nat} : ∀ (fuel : Nat) (listed : Array Bool) (a : Act) (w : World), wpAnyM P md ops Q S L fuel listed a w → wpAny P md ops Q fuel listed a w
  | 0, _, _, _, h => h
  | fuel + 1, _, _, _, h => ⟨h.1, fun i hi => wpOp_mono (fun a' w' h' => wpAny_of_M fuel _ a' w' h'.2) (h.2 i hi)⟩
theorem wpAnyM_first {i L : Nat} {oi : Oper} {v : Value} (hi : ops[i]? = some oi) (hsel : ∀ (j : Nat) (o : Oper) cs b, ops[j]? = some o → o.op ≠ .select cs b) (hrch : rchL md ops ops.size L i = true)
    (hQ : ∀ c a w, Q (.panic c) (a.put oi.dst v) w → Q (.panic c) a w) :
    ∀ (fuel : Nat) (listed : Array Bool) (a : Act) (w : World), dcL md ops listed →
      (∀ j oj, ops[j]? = some oj → j ≠ i → listed.getD j true = false → (∀ e ∈ oj.after, Region.binds md e = true → e.on ≠ i) → oi.apart ops oj = true) →
      i ∈ Region.ready md ops listed → YieldsIf P ops S oi v a → S w →
      wpAnyM P md ops Q S L fuel (listed.setIfInBounds i true) (a.put oi.dst v) w → wpAnyM P md ops Q S L (fuel + 1) listed a w := by
  intro fuel
  induction fuel with
  | zero =>
    intro listed a w _ _ hr hy hS H
    refine ⟨fun h => (by rw [h] at hr; cases hr), fun j hj => ?_⟩
    by_cases hji : j = i
    · subst hji; exact hy.wpOp hi hS ⟨fun _ _ => hS, H⟩
    · have := ready_mono hj hji
      rw [H.1] at this
      cases this
  | succ fuel ih =>
    intro listed a w hdc hfree hr hy hS H
    refine ⟨fun h => (by rw [h] at hr; cases hr), fun j hj => ?_⟩
    by_cases hji : j = i
    · subst hji; exact hy.wpOp hi hS ⟨fun _ _ => hS, H⟩
    · obtain ⟨hLr, hLl⟩ := rch_open hrch hdc (mem_ready.1 hr).1
      have hjL : j ≠ L := fun e => hLr (e ▸ hj)
      have hiL : i ≠ L := fun e => hLr (e ▸ hr)
      have hLl2 : (listed.setIfInBounds i true).getD L true = false := by rw [getD_set_ne true hiL]; exact hLl
      have h1 := H.2 j (ready_mono hj hji)
      obtain ⟨hjun, oj, hoj, hall⟩ := mem_ready.1 hj
      have hnot : ∀ e ∈ oj.after, Region.binds md e = true → e.on ≠ i := fun e he hb heq => by
        have h1 := hall e he hb
        have h0 := (mem_ready.1 hr).1
        rw [heq] at h1
        rcases Nat.lt_or_ge i listed.size with h' | h'
        · simp [h'] at h0 h1; rw [h0] at h1; cases h1
        · simp [Array.getElem?_eq_none h'] at h1
      have h2 := wpOp_putIf hoj (hfree j oj hoj hji hjun hnot) (fun cs b => hsel i oi cs b hi) (fun cs b => hsel j oj cs b hoj) hQ hy h1
      have hfree' : ∀ k ok, ops[k]? = some ok → k ≠ i → (listed.setIfInBounds j true).getD k true = false →
          (∀ e ∈ ok.after, Region.binds md e = true → e.on ≠ i) → oi.apart ops ok = true := fun k ok hk hki hun hno => by
        refine hfree k ok hk hki ?_ hno
        by_cases hjk : j = k
        · subst hjk; exact hjun
        · rw [getD_set_ne true hjk] at hun; exact hun
      refine wpOp_mono (fun a' w' h3 => ⟨fun _ _ => h3.2.1 hjL hLl2, ih (listed.setIfInBounds j true) a' w' (dcL_set hdc hj) hfree' (ready_mono hr (Ne.symm hji)) h3.1 (h3.2.1 hjL hLl2) ?_⟩) h2
      rw [Array.setIfInBounds_comm _ _ hji]
      exact h3.2.2
theorem wpAnyM_take {i L : Nat} {oi : Oper} {v : Value} {fuel : Nat} {listed : Array Bool} {a : Act} {w : World} (hi : ops[i]? = some oi) (hrch : rchL md ops ops.size L i = true) (hdc : dcB md ops listed = true)
    (hs : Region.noSelect ops = true) (hf : Region.free md ops listed i = true) (hr : (Region.ready md ops listed).contains i = true)
    (hQ : ∀ c a w, Q (.panic c) (a.put oi.dst v) w → Q (.panic c) a w) (hy : YieldsIf P ops S oi v a) (hS : S w)
    (h : wpAnyM P md ops Q S L fuel (listed.setIfInBounds i true) (a.put oi.dst v) w) : wpAnyM P md ops Q S L (fuel + 1) listed a w :=
  wpAnyM_first hi (Region.noSelect_spec hs) hrch hQ fuel listed a w (dcB_spec hdc) (Region.free_spec hi hf) (by simpa using hr) hy hS h
theorem tkM0 (i : Nat) {L : Nat} {oi : Oper} {v : Value} {fuel : Nat} {listed : Array Bool} {a : Act} {w : World} (hy : ∀ w, S w → (execOp a.eval oi).run P w = .ok (.value v) w) (h : wpAnyM P md ops Q S L fuel (listed.setIfInBounds i true) (a.put oi.dst v) w)
    (hi : ops[i]? = some oi := by simp only [List.getElem?_toArray, List.getElem?_cons_succ, List.getElem?_cons_zero] <;> rfl) (hrch : rchL md ops ops.size L i = true := by kernel_rfl) (hdc : dcB md ops listed = true := by kernel_rfl) (hs : Region.noSelect ops = true := by kernel_rfl) (hf : Region.free md ops listed i = true := by kernel_rfl) (hr : (Region.ready md ops listed).contains i = true := by kernel_rfl)
    (hw : Region.wanted oi (yielded ops a.tmps) = true := by rfl)
    (hQ : ∀ c a w, Q (.panic c) (a.put oi.dst v) w → Q (.panic c) a w := by exact fun _ _ _ h => h) (hS : S w := by assumption) : wpAnyM P md ops Q S L (fuel + 1) listed a w :=
  wpAnyM_take hi hrch hdc hs hf hr hQ (Or.inl ⟨hw, hy⟩) hS h
theorem tkM (i : Nat) {L : Nat} {oi : Oper} {v : Value} {fuel : Nat} {listed : Array Bool} {a : Act} {w : World} (h : wpAnyM P md ops Q S L fuel (listed.setIfInBounds i true) (a.put oi.dst v) w)
    (hi : ops[i]? = some oi := by simp only [List.getElem?_toArray, List.getElem?_cons_succ, List.getElem?_cons_zero] <;> rfl) (hrch : rchL md ops ops.size L i = true := by kernel_rfl) (hdc : dcB md ops listed = true := by kernel_rfl) (hs : Region.noSelect ops = true := by kernel_rfl) (hf : Region.free md ops listed i = true := by kernel_rfl) (hr : (Region.ready md ops listed).contains i = true := by kernel_rfl)
    (hw : Region.wanted oi (yielded ops a.tmps) = true := by rfl)
    (hy : ∀ w, S w → (execOp a.eval oi).run P w = .ok (.value v) w := by intro wv hSw; (try dsimp only at hSw); go_simp; try with_reducible rfl) (hQ : ∀ c a w, Q (.panic c) (a.put oi.dst v) w → Q (.panic c) a w := by exact fun _ _ _ h => h) (hS : S w := by assumption) : wpAnyM P md ops Q S L (fuel + 1) listed a w :=
  wpAnyM_take hi hrch hdc hs hf hr hQ (Or.inl ⟨hw, hy⟩) hS h
theorem tkMB (i : Nat) {L : Nat} {oi : Oper} {v : Value} {fuel : Nat} {listed : Array Bool} {a : Act} {w : World} (h : wpAnyM P md ops Q S L fuel (listed.setIfInBounds i true) (a.put oi.dst v) w)
    (hi : ops[i]? = some oi := by simp only [List.getElem?_toArray, List.getElem?_cons_succ, List.getElem?_cons_zero] <;> rfl) (hrch : rchL md ops ops.size L i = true := by kernel_rfl) (hdc : dcB md ops listed = true := by kernel_rfl) (hs : Region.noSelect ops = true := by kernel_rfl) (hf : Region.free md ops listed i = true := by kernel_rfl) (hr : (Region.ready md ops listed).contains i = true := by kernel_rfl)
    (hw : Region.wanted oi (yielded ops a.tmps) = true := by rfl)
    (hy : ∀ w, S w → (execOp a.eval oi).run P w = .ok (.value v) w := by intro wv hSw; (try dsimp only at hSw); obtain ⟨hcq, _⟩ := bcell hSw; have hsq := Below.size hSw; go_simp; try with_reducible rfl) (hQ : ∀ c a w, Q (.panic c) (a.put oi.dst v) w → Q (.panic c) a w := by exact fun _ _ _ h => h) (hS : S w := by assumption) : wpAnyM P md ops Q S L (fuel + 1) listed a w :=
  wpAnyM_take hi hrch hdc hs hf hr hQ (Or.inl ⟨hw, hy⟩) hS h
def AllReadyM (P : Program) (md : Region.Mode) (ops : Array Oper) (Q : Exit → Act → World → Prop) (S : World → Prop) (L : Nat) (fuel : Nat) (listed : Array Bool) (a : Act) (w : World) (rs : List Nat) : Prop :=
  ∀ i ∈ rs, wpOp P ops Q i (fun a' w' => (i ≠ L → listed.getD L true = false → S w') ∧ wpAnyM P md ops Q S L fuel (listed.setIfInBounds i true) a' w') a w
theorem AllReadyM.nil {L fuel : Nat} {listed : Array Bool} {a : Act} {w : World} : AllReadyM P md ops Q S L fuel listed a w [] := fun _ h => by cases h
theorem AllReadyM.cons {L fuel : Nat} {listed : Array Bool} {a : Act} {w : World} {i : Nat} {o : Oper} {rs : List Nat} (ho : ops[i]? = some o)
    (h : ∀ K' : Act → World → Prop, Shut (∀ a w, S w → (S w → wpAnyM P md ops Q S L fuel (listed.setIfInBounds i true) a w) → K' a w) → if Region.wanted o (yielded ops a.tmps) = true then Oper.wp P o a w K' Q else K' (a.put o.dst undef) w)
    (hs : AllReadyM P md ops Q S L fuel listed a w rs) : AllReadyM P md ops Q S L fuel listed a w (i :: rs) := fun j hj => by
  rcases List.mem_cons.1 hj with rfl | hj
  · exact wpOp_step ho (fun K' hK => h K' (fun a w hS hW => hK a w ⟨fun _ _ => hS, hW hS⟩))
  · exact hs j hj
/-- the operation that changes what the loads read -/
theorem AllReadyM.last {L fuel : Nat} {listed : Array Bool} {a : Act} {w : World} {o : Oper} (ho : ops[L]? = some o)
    (h : ∀ K' : Act → World → Prop, Shut (∀ a w, wpAnyM P md ops Q S L fuel (listed.setIfInBounds L true) a w → K' a w) → if Region.wanted o (yielded ops a.tmps) = true then Oper.wp P o a w K' Q else K' (a.put o.dst undef) w) :
    AllReadyM P md ops Q S L fuel listed a w [L] := fun j hj => by
  rcases List.mem_cons.1 hj with rfl | hj
  · exact wpOp_step ho (fun K' hK => h K' (fun a w hW => hK a w ⟨fun e => absurd rfl e, hW⟩))
  · cases hj
/-- an operation behind it -/
theorem AllReadyM.then {L i fuel : Nat} {listed : Array Bool} {a : Act} {w : World} {o : Oper} (hL : listed.getD L true = true) (ho : ops[i]? = some o)
    (h : ∀ K' : Act → World → Prop, Shut (∀ a w, wpAnyM P md ops Q S L fuel (listed.setIfInBounds i true) a w → K' a w) → if Region.wanted o (yielded ops a.tmps) = true then Oper.wp P o a w K' Q else K' (a.put o.dst undef) w) :
    AllReadyM P md ops Q S L fuel listed a w [i] := fun j hj => by
  rcases List.mem_cons.1 hj with rfl | hj
  · exact wpOp_step ho (fun K' hK => h K' (fun a w hW => hK a w ⟨fun _ e => (by rw [hL] at e; cases e), hW⟩))
  · cases hj
theorem wpAnyM_ready {L : Nat} {rs : List Nat} {fuel : Nat} {listed : Array Bool} {a : Act} {w : World} (hr : Region.ready md ops listed = rs) (hne : rs ≠ [])
    (h : AllReadyM P md ops Q S L fuel listed a w rs) : wpAnyM P md ops Q S L (fuel + 1) listed a w := ⟨fun h0 => absurd (hr ▸ h0) hne, hr ▸ h⟩
theorem wpAnyM_done {L : Nat} {listed : Array Bool} {a : Act} {w : World} (hr : Region.ready md ops listed = []) (h : Q .normal a w) :
    ∀ fuel, wpAnyM P md ops Q S L fuel listed a w
  | 0 => ⟨hr, h⟩
  | _ + 1 => ⟨fun _ => h, by rw [hr]; simp⟩
theorem wp_region_M {L id : Nat} {a : Act} {w : World} (hm : P.follows .mixedOrders = true) (hS : S w.drew)
    (h : S w.drew → wpAnyM P .any ops Q S L ops.size (Array.replicate ops.size false) a w.drew) : (Code.region id ops true).wp P Q a w :=
  wp_region_any hm (wpAny_of_M _ _ _ _ (h hS))
end
theorem posN_app {x : I3} : ∀ {L : List I3}, x ∉ L → ∀ y, posN y (L ++ [x]) = if y = x then some L.length else posN y L
  | [], _, y => by
    rw [List.nil_append, posN, posN]
    by_cases h : x = y
    · rw [if_pos h, if_pos h.symm]; rfl
    · rw [if_neg h, if_neg (fun e => h e.symm), posN]; rfl
  | z :: r, h, y => by
    have h1 : z ≠ x := fun e => h (by rw [e]; exact List.mem_cons_self ..)
    have h2 : x ∉ r := fun e => h (List.mem_cons_of_mem _ e)
    rw [List.cons_append, posN, posN, posN_app h2 y]
    by_cases hz : z = y
    · rw [if_pos hz, if_pos hz, if_neg (fun e => h1 (hz.trans e))]
    · rw [if_neg hz, if_neg hz]
      by_cases hy : y = x
      · rw [if_pos hy, if_pos hy]; rfl
      · rw [if_neg hy, if_neg hy]
theorem OwnF.typN {α : Type} {k : Nat} {enc : α → List Value} {ok : α → Prop} {E : TypeId} {w : World} {base : Nat} {a : Option Addr} {n c : Nat} {l : List α} (h : OwnF k enc ok E w base a n c l) {g : Nat} (e : a = some ⟨g, 0, none⟩) : ∃ cur, w.heap[g]? = some (.cells cur E (0, 0)) := by
  subst e
  rcases h.1.2 with ⟨he, _⟩ | ⟨g', cap, cur, he, hb, hg, _⟩
  · simp only [Value.slice.injEq] at he; cases he.1
  · simp only [Value.slice.injEq, Option.some.injEq, Addr.mk.injEq] at he
    obtain ⟨⟨rfl, _⟩, _⟩ := he
    exact ⟨cur, hg⟩
theorem Tryz.infoNode9 : (Tryz.prog.info? 117).map (fun i => (i.zero, i.size, i.bytes)) = some (some (.agg #[.int .i64 0, .int .i64 0, .int .i64 0]), 3, 24) := by kernel_rfl
theorem I3.one9 (y : I3) : ∀ u ∈ y.enc, u.oneCell' = true := fun u hu => by
  simp only [I3.enc, List.mem_cons, List.not_mem_nil, or_false] at hu
  rcases hu with rfl | rfl | rfl <;> rfl
abbrev MapN := MapA 117 I3.ok litK3
/-- block p is a forest of the call's own (from block lo on) with these nodes -/
structure ForA (w : World) (lo p mb : Nat) (inp : Int) (na : Option Addr) (nc mn : Nat) (L : List I3) : Prop where
  blk : Blk w p #[.int .i64 inp, .slice na L.length nc, .map (some mb)] 213
  own : OwnF 3 I3.enc I3.ok 117 w lo na L.length nc L
  map : MapN w mb mn (fun x => (posN x L).map fun (k : Nat) => (k : Int) + 2)
  few : mn ≤ L.length
  lop : lo ≤ p
  lom : lo ≤ mb
theorem ForA.keep {w w' : World} {lo p mb : Nat} {inp : Int} {na : Option Addr} {nc mn : Nat} {L : List I3} (h : ForA w lo p mb inp na nc mn L) (hb : Below w.heap.size w w') : ForA w' lo p mb inp na nc mn L :=
  ⟨h.blk.keep hb, h.own.keep hb, h.map.keep hb, h.few, h.lop, h.lom⟩
/-- what making a node may write: the forest's block, its map, its nodes -/
structure FrF (lo p mb : Nat) (w w' : World) : Prop where
  os : w'.os = w.os
  tape : w'.tape = w.tape
  output : w'.output = w.output
  size : w.heap.size ≤ w'.heap.size
  block : ∀ k, k < w.heap.size → k ≠ p → k ≠ mb → (k < lo ∨ ∀ cs l, w.heap[k]? ≠ some (.cells cs 117 l)) → w'.heap[k]? = w.heap[k]?
theorem FrF.refl (lo p mb : Nat) (w : World) : FrF lo p mb w w := ⟨rfl, rfl, rfl, Nat.le_refl _, fun _ _ _ _ _ => rfl⟩
theorem FrF.below {lo p mb B : Nat} {w0 w w' : World} (h : FrF lo p mb w w') (h0 : Below B w0 w) (hB : B ≤ w.heap.size) (hl : B ≤ lo) (hp : B ≤ p) (hm : B ≤ mb) : Below B w0 w' :=
  ⟨h.os.trans h0.os, h.tape.trans h0.tape, h.output.trans h0.output, Nat.le_trans h0.size h.size, fun k hk => (h.block k (by omega) (by omega) (by omega) (.inl (by omega))).trans (h0.block k hk)⟩
theorem FrF.trans {lo p mb : Nat} {w w' w'' : World} (h : FrF lo p mb w w') (h' : FrF lo p mb w' w'') : FrF lo p mb w w'' := by
  refine ⟨h'.os.trans h.os, h'.tape.trans h.tape, h'.output.trans h.output, Nat.le_trans h.size h'.size, fun k hk h1 h2 h3 => ?_⟩
  have e := h.block k hk h1 h2 h3
  refine (h'.block k (Nat.lt_of_lt_of_le hk h.size) h1 h2 ?_).trans e
  rcases h3 with h3 | h3
  · exact .inl h3
  · exact .inr fun cs l he => h3 cs l (e.symm.trans he)
theorem FrF.of_below {lo p mb : Nat} {w w' : World} (h : Below w.heap.size w w') : FrF lo p mb w w' := ⟨h.os, h.tape, h.output, h.size, fun k hk _ _ _ => h.block k hk⟩
/-- a block of another kind stays -/
theorem Blk.frf {lo p mb b : Nat} {w w' : World} {cs : Array Value} {T : TypeId} (h : Blk w b cs T) (hf : FrF lo p mb w w') (hp : b ≠ p) (hT : T ≠ 117) (hm : b ≠ mb) : Blk w' b cs T :=
  (hf.block b h.lt hp hm (.inr fun cs' l he => by
    rw [Blk] at h
    rw [h] at he
    simp only [Option.some.injEq, Obj.cells.injEq] at he
    exact hT he.2.1)).trans h
set_option maxHeartbeats 1000000 in
theorem impl_length_Node {a : Option Addr} {n c : Nat} {w : World} : Calls Tryz.prog 155 #[.slice a n c] w fun e w' => e = .returned (.int .i64 n) ∧ w = w' := by
  go_enter Tryz.func155, Tryz.ntmps155
  go_wp2
  go_ret
  exact ⟨rfl, rfl⟩
theorem impl_newForest {n : Int} {w : World} : Calls Tryz.prog 132 #[.int .i64 n] w fun e w' => ∃ p mb, e = .returned (.pointer (some ⟨p, 0, none⟩)) ∧ ForA w' w.heap.size p mb n none 0 0 [] ∧ Below w.heap.size w w' ∧ p < w'.heap.size := by
  have hmm := @run_makeMap Tryz.prog
  go_enter Tryz.func132, Tryz.ntmps132
  go_wp2
  go_ret
  refine ⟨_, _, rfl, ⟨(by have h := Blk.made (w.alloc (.map #[] 0)) #[.int .i64 n, .slice none 0 0, .map (some w.heap.size)] 213; simpa using h), ⟨World.ownsRow_nil _ _ _ 3, (fun _ h => by cases h), rfl, fun _ => rfl⟩, ((MapA.made w).keep ((Below.refl _ _).alloc (Nat.le_refl _) _)).congr (fun x _ => by simp [posN]), Nat.le_refl _, by simp, Nat.le_refl _⟩, bel, by simp⟩
set_option maxRecDepth 100000 in
set_option maxHeartbeats 4000000 in
theorem impl_node {lo p mb nc mn : Nat} {inp i a b : Int} {na : Option Addr} {L : List I3} {w : World} (hFor : ForA w lo p mb inp na nc mn L) (hL : L.length ≤ 4194000) (hi : I64 i) (ha : I64 a) (hb : I64 b) (hlo : lo ≤ w.heap.size) :
    Calls Tryz.prog 141 #[.pointer (some ⟨p, 0, none⟩), .int .i64 i, .int .i64 a, .int .i64 b] w fun e w' => e = .returned (.int .i64 (mkN L i a b).2) ∧ (∃ na' nc' mn', ForA w' lo p mb inp na' nc' mn' (mkN L i a b).1) ∧ FrF lo p mb w w' := by
  by_cases hab : a = b
  · subst hab
    have e1 : (a == a) = true := by simp
    have HM := Lib.hid (mkN_eq (L := L) (i := i) (rfl : a = a))
    have HF := Lib.hid hFor
    clear hFor
    go_enter Tryz.func141, Tryz.ntmps141
    go_wp2
    go_ret
    exact ⟨by rw [HM.out]; rfl, ⟨_, _, _, by rw [HM.out]; exact HF.out⟩, FrF.refl _ _ _ _⟩
  · have e1 : (a == b) = false := by simpa using hab
    have HNE := Lib.hid hab
    have hx : I3.ok ⟨i, a, b⟩ := ⟨hi, ha, hb⟩
    obtain ⟨W, hW⟩ : ∃ W, W = w.alloc (.cells #[.int .i64 i, .int .i64 a, .int .i64 b] 117) := ⟨_, rfl⟩
    have hbW : Below w.heap.size w W := by rw [hW]; exact bel
    have N9 := Lib.hid (show Blk W w.heap.size #[.int .i64 i, .int .i64 a, .int .i64 b] 117 by rw [hW]; exact Blk.made _ _ _)
    have P9 := Lib.hid (hFor.blk.keep hbW)
    have hlk := fun (wx : World) (hb : Below W.heap.size W wx) => ((hFor.map.keep hbW).keep hb).look keyN Tryz.underlying211 hx true
    have HF := Lib.hid hFor
    clear hFor hab
    have p2 := P9.out.cell 2
    have pl := P9.out.lt
    have n0 := N9.out.cell 0
    have n1 := N9.out.cell 1
    have n2 := N9.out.cell 2
    have nl := N9.out.lt
    simp at p2 n0 n1 n2
    cases hpos : posN ⟨i, a, b⟩ L with
    | some k =>
      have HLK := Lib.hid (show ∀ wx : World, Below W.heap.size W wx → (Instr.lookup 211 (.map (some mb)) (.agg #[.int .i64 i, .int .i64 a, .int .i64 b]) true).run Tryz.prog wx = .ok (.tuple #[.int .i64 ((k : Int) + 2), .bool true]) wx from fun wx hb => by
        have h := hlk wx hb
        rw [hpos] at h
        exact h)
      have HM := Lib.hid (mkN_old HNE.out hpos)
      clear hpos hlk
      go_enter Tryz.func141, Tryz.ntmps141
      go_wp2_with fail
      rw [← hW]
      clear hW
      go_wp2_with fail
      refine wp_region_noPanic ?_
      refine wp_region_M (L := 10) (S := fun wx => Below W.heap.size W wx) (by kernel_rfl) ?_ (fun hHeld => ?_)
      · exact (Below.refl _ _).drew
      refine tkMB 0 ?_
      try simp only [Act.put, s1, s2, s3]
      refine tkMB 1 ?_
      try simp only [Act.put, s1, s2, s3]
      refine tkMB 2 ?_
      try simp only [Act.put, s1, s2, s3]
      refine tkM0 3 (v := ?_) ?_ ?_
      rotate_left
      · (intro wv hSw; (try dsimp only at hSw); obtain ⟨hcq, _⟩ := bcell hSw; have hsq := Below.size hSw; have q2 := (hcq _ _ pl).trans p2; have ql := Nat.lt_of_lt_of_le pl hsq; go_simp; try with_reducible rfl)
      try simp only [Act.put, s1, s2, s3]
      refine tkM0 4 (v := ?_) ?_ ?_
      rotate_left
      · (intro wv hSw; (try dsimp only at hSw); obtain ⟨hcq, _⟩ := bcell hSw; have hsq := Below.size hSw; have q0 := (hcq _ _ nl).trans n0; have q1 := (hcq _ _ nl).trans n1; have q2 := (hcq _ _ nl).trans n2; have ql := Nat.lt_of_lt_of_le nl hsq; go_simp; try with_reducible rfl)
      try simp only [Act.put, s1, s2, s3]
      refine tkM0 5 (v := ?_) ?_ ?_
      rotate_left
      · (intro wv hSw; (try dsimp only at hSw); obtain ⟨hcq, _⟩ := bcell hSw; have hsq := Below.size hSw; have hl := HLK.out wv hSw; go_simp; try with_reducible rfl)
      try simp only [Act.put, s1, s2, s3]
      refine tkMB 6 ?_
      try simp only [Act.put, s1, s2, s3]
      refine tkMB 7 ?_
      try simp only [Act.put, s1, s2, s3]
      refine tkMB 8 ?_
      try simp only [Act.put, s1, s2, s3]
      refine tkMB 9 ?_
      try simp only [Act.put, s1, s2, s3]
      refine wpAnyM_ready (rs := [10]) (by kernel_rfl) (by simp) ?_
      refine AllReadyM.last rfl (fun K hK => ?_)
      go_simp
      refine hK.out _ _ ?_
      clear hK K
      try simp only [Act.put, s1, s2, s3]
      refine wpAnyM_done (by kernel_rfl) ?_ _
      refine NoPanic.normal ?_
      have HB := Lib.hid (below_callS hbW hHeld)
      clear p2 pl n0 n1 n2 nl
      go_wp2
      go_ret
      have hbe := HB.out
      refine ⟨by rw [HM.out]; rfl, ⟨na, nc, mn, ?_⟩, FrF.of_below hbe⟩
      rw [HM.out]
      exact HF.out.keep hbe
    | none =>
      have HLK := Lib.hid (show ∀ wx : World, Below W.heap.size W wx → (Instr.lookup 211 (.map (some mb)) (.agg #[.int .i64 i, .int .i64 a, .int .i64 b]) true).run Tryz.prog wx = .ok (.tuple #[.int .i64 0, .bool false]) wx from fun wx hb => by
        have h := hlk wx hb
        rw [hpos] at h
        exact h)
      have hnot := posN_none.1 hpos
      have HM := Lib.hid (mkN_new HNE.out hnot)
      have HNOT := Lib.hid hnot
      have hgn : ∀ g, na = some ⟨g, 0, none⟩ → g < w.heap.size := fun g e => (HF.out.own.blk g e).2
      clear hpos hlk hnot
      go_enter Tryz.func141, Tryz.ntmps141
      go_wp2_with fail
      rw [← hW]
      clear hW
      go_wp2_with fail
      refine wp_region_noPanic ?_
      refine wp_region_M (L := 10) (S := fun wx => Below W.heap.size W wx) (by kernel_rfl) ?_ (fun hHeld => ?_)
      · exact (Below.refl _ _).drew
      refine tkMB 0 ?_
      try simp only [Act.put, s1, s2, s3]
      refine tkMB 1 ?_
      try simp only [Act.put, s1, s2, s3]
      refine tkMB 2 ?_
      try simp only [Act.put, s1, s2, s3]
      refine tkM0 3 (v := ?_) ?_ ?_
      rotate_left
      · (intro wv hSw; (try dsimp only at hSw); obtain ⟨hcq, _⟩ := bcell hSw; have hsq := Below.size hSw; have q2 := (hcq _ _ pl).trans p2; have ql := Nat.lt_of_lt_of_le pl hsq; go_simp; try with_reducible rfl)
      try simp only [Act.put, s1, s2, s3]
      refine tkM0 4 (v := ?_) ?_ ?_
      rotate_left
      · (intro wv hSw; (try dsimp only at hSw); obtain ⟨hcq, _⟩ := bcell hSw; have hsq := Below.size hSw; have q0 := (hcq _ _ nl).trans n0; have q1 := (hcq _ _ nl).trans n1; have q2 := (hcq _ _ nl).trans n2; have ql := Nat.lt_of_lt_of_le nl hsq; go_simp; try with_reducible rfl)
      try simp only [Act.put, s1, s2, s3]
      refine tkM0 5 (v := ?_) ?_ ?_
      rotate_left
      · (intro wv hSw; (try dsimp only at hSw); obtain ⟨hcq, _⟩ := bcell hSw; have hsq := Below.size hSw; have hl := HLK.out wv hSw; go_simp; try with_reducible rfl)
      try simp only [Act.put, s1, s2, s3]
      refine tkMB 6 ?_
      try simp only [Act.put, s1, s2, s3]
      refine tkMB 7 ?_
      try simp only [Act.put, s1, s2, s3]
      refine tkMB 8 ?_
      try simp only [Act.put, s1, s2, s3]
      refine tkMB 9 ?_
      try simp only [Act.put, s1, s2, s3]
      refine wpAnyM_ready (rs := [10]) (by kernel_rfl) (by simp) ?_
      refine AllReadyM.last rfl (fun K hK => ?_)
      go_simp
      refine hK.out _ _ ?_
      clear hK K
      try simp only [Act.put, s1, s2, s3]
      refine wpAnyM_done (by kernel_rfl) ?_ _
      refine NoPanic.normal ?_
      have hbx := below_callS hbW hHeld.drew
      have HB := Lib.hid hbx
      have P5 := Lib.hid (P9.out.keep hHeld.drew)
      have N5 := Lib.hid (N9.out.keep hHeld.drew)
      have O5 := Lib.hid (HF.out.own.keep hbx)
      have M5 := Lib.hid (HF.out.map.keep hbx)
      have hs5 := hbx.size
      clear p2 pl n0 n1 n2 nl hbx
      have p1 := P5.out.cell 1
      have pl := P5.out.lt
      have n0 := N5.out.cell 0
      have n1 := N5.out.cell 1
      have n2 := N5.out.cell 2
      have nl := N5.out.lt
      simp only [List.getElem?_toArray, List.getElem?_cons_succ, List.getElem?_cons_zero] at p1 n0 n1 n2
      go_wp2_with fail
      refine wp_region_noPanic ?_
      refine wp_region_M (L := 10) (S := (fun wx => wx.cell? ⟨p, 1, none⟩ = some (.slice na L.length nc) ∧ wx.cell? ⟨w.heap.size, 0, none⟩ = some (.int .i64 i) ∧ wx.cell? ⟨w.heap.size, 1, none⟩ = some (.int .i64 a) ∧ wx.cell? ⟨w.heap.size, 2, none⟩ = some (.int .i64 b) ∧ p < wx.heap.size ∧ w.heap.size < wx.heap.size)) (by kernel_rfl) ?_ (fun hHeld => ?_)
      · exact ⟨p1, n0, n1, n2, pl, nl⟩
      clear p1 pl n0 n1 n2 nl
      refine tkM 0 ?_
      try simp only [Act.put, s1, s2, s3]
      refine tkM 1 ?_
      try simp only [Act.put, s1, s2, s3]
      refine tkM 2 ?_
      try simp only [Act.put, s1, s2, s3]
      refine tkM 3 ?_
      try simp only [Act.put, s1, s2, s3]
      refine tkM0 4 (v := ?_) ?_ ?_
      rotate_left
      · (intro wv hSw; (try dsimp only at hSw); obtain ⟨h1, h2, h3, h4, h5, h6⟩ := hSw; go_simp; try with_reducible rfl)
      try simp only [Act.put, s1, s2, s3]
      refine tkM0 5 (v := ?_) ?_ ?_
      rotate_left
      · (intro wv hSw; (try dsimp only at hSw); obtain ⟨h1, h2, h3, h4, h5, h6⟩ := hSw; go_simp; try with_reducible rfl)
      try simp only [Act.put, s1, s2, s3]
      refine wpAnyM_ready (rs := [6]) (by kernel_rfl) (by simp) ?_
      refine AllReadyM.cons rfl (fun K hK => ?_) AllReadyM.nil
      go_simp
      have hbX : Below W.heap.size W (W.alloc (.cells #[.int .i64 i, .int .i64 a, .int .i64 b] 117)).drew.drew := ((Below.refl _ _).alloc (Nat.le_refl _) _).drew.drew
      obtain ⟨Y, hY⟩ : ∃ Y, Y = (W.alloc (.cells #[.int .i64 i, .int .i64 a, .int .i64 b] 117)).drew.drew := ⟨_, rfl⟩
      have L6 := Lib.hid (show Blk Y W.heap.size #[.int .i64 i, .int .i64 a, .int .i64 b] 117 by rw [hY]; exact (Blk.made _ _ _).drew.drew)
      have hsY : Y.heap.size = W.heap.size + 1 := by rw [hY]; simp
      rw [← hY] at hbX ⊢
      clear hY
      have P6 := Lib.hid (P9.out.keep hbX)
      have N6 := Lib.hid (N9.out.keep hbX)
      have O6 := Lib.hid (HF.out.own.keep (below_callS hbW hbX))
      have M6 := Lib.hid (HF.out.map.keep (below_callS hbW hbX))
      have HB6 := Lib.hid (below_callS hbW hbX)
      have hsW := hbW.size
      clear P5 N5 O5 M5 HB hbX
      have SS : ∀ (wx : World), Blk wx p #[.int .i64 inp, .slice na L.length nc, .map (some mb)] 213 → Blk wx w.heap.size #[.int .i64 i, .int .i64 a, .int .i64 b] 117 → (wx.cell? ⟨p, 1, none⟩ = some (.slice na L.length nc) ∧ wx.cell? ⟨w.heap.size, 0, none⟩ = some (.int .i64 i) ∧ wx.cell? ⟨w.heap.size, 1, none⟩ = some (.int .i64 a) ∧ wx.cell? ⟨w.heap.size, 2, none⟩ = some (.int .i64 b) ∧ p < wx.heap.size ∧ w.heap.size < wx.heap.size) := fun wx h1 h2 => ⟨h1.cell 1, h2.cell 0, h2.cell 1, h2.cell 2, h1.lt, h2.lt⟩
      have HSS := Lib.hid SS
      clear SS
      refine hK.out _ _ (HSS.out _ P6.out N6.out) (fun hHeld => ?_)
      clear hK K
      try simp only [Act.put, s1, s2, s3]
      refine wpAnyM_ready (rs := [7]) (by kernel_rfl) (by simp) ?_
      refine AllReadyM.cons rfl (fun K hK => ?_) AllReadyM.nil
      refine wp_appAtL (k := 3) (m := 1) (enc := I3.enc) (ok := I3.ok) _ _ rfl Tryz.underlying38 Tryz.infoNode9 rfl (by decide) (by decide) I3.one9 lo na L.length nc L [⟨i, a, b⟩] O6.out rfl _ rfl L6.out rfl rfl (fun x hx9 => by simp at hx9; rw [hx9]; exact hx) (by decide) (by omega) (by decide) (by omega) ?_
      intro g' c' w6 h1 h2 h3
      have ht : Touch Y w6 1 na := ⟨_, h3, fun b e => ⟨by decide, own_block O6.out.1 b e⟩⟩
      have P7 := Lib.hid (P6.out.keepA ht (blk_ne P6.out O6.out.typN (by decide)))
      have N7 := Lib.hid (N6.out.keepA ht (fun e => by have := hgn _ e; omega))
      have M7 := Lib.hid (M6.out.keepG h3 (fun e => by
        have e1 := own_block O6.out.1 _ e
        obtain ⟨cur, hc⟩ := O6.out.typN e1
        obtain ⟨es, cl, hm⟩ := M6.out.isMap
        rw [hm] at hc
        cases hc))
      have O7 := Lib.hid h1
      have F7 := Lib.hid (show FrF lo p mb Y w6 from ⟨h3.os, h3.tape, h3.output, h3.size, fun k hk q1 q2 q3 => h3.block k hk (fun e => by
        have e1 := own_block O6.out.1 _ e.symm
        obtain ⟨cur, hc⟩ := O6.out.typN e1
        rcases q3 with q3 | q3
        · have := (O6.out.blk _ e1).1; omega
        · exact q3 _ _ hc)⟩)
      have hs7 := h3.size
      clear h1 h2 h3 ht
      refine hK.out _ _ (HSS.out _ P7.out N7.out) (fun hHeld => ?_)
      clear hK K
      try simp only [Act.put, s1, s2, s3]
      refine tkM 8 ?_
      try simp only [Act.put, s1, s2, s3]
      refine tkM 9 ?_
      try simp only [Act.put, s1, s2, s3]
      have c0 := P7.out.cell 1
      have cl := P7.out.lt
      have cf := P7.out.free
      simp at c0
      refine wpAnyM_ready (rs := [10]) (by kernel_rfl) (by simp) ?_
      refine AllReadyM.last rfl (fun K hK => ?_)
      go_simp
      refine hK.out _ _ ?_
      clear hK K
      try simp only [Act.put, s1, s2, s3]
      refine wpAnyM_done (by kernel_rfl) ?_ _
      refine NoPanic.normal ?_
      have hpm : p ≠ mb := fun e => by
        obtain ⟨es, cl2, hm⟩ := M7.out.isMap
        have h := P7.out
        rw [Blk, e, hm] at h
        cases h
      have hpg : g' ≠ p := fun e => blk_ne P7.out O7.out.typN (by decide) (by rw [e])
      have hpw : p < w.heap.size := HF.out.blk.lt
      obtain ⟨w7, hw7⟩ : ∃ w7, w7 = w6.setCell ⟨p, 1, none⟩ (.slice (some ⟨g', 0, none⟩) (L.length + 1) c') := ⟨_, rfl⟩
      have P8 := Lib.hid (show Blk w7 p #[.int .i64 inp, .slice (some ⟨g', 0, none⟩) (L.length + 1) c', .map (some mb)] 213 by rw [hw7]; exact P7.out.set 1 _)
      have N8 := Lib.hid (show Blk w7 w.heap.size #[.int .i64 i, .int .i64 a, .int .i64 b] 117 by rw [hw7]; exact N7.out.keepG (set_grown p 1 _) (by simp; omega))
      have O8 := Lib.hid (show OwnF 3 I3.enc I3.ok 117 w7 lo (some ⟨g', 0, none⟩) (L.length + 1) c' (L ++ [⟨i, a, b⟩]) by rw [hw7]; exact O7.out.keepG (set_grown p 1 _) (fun g e e' => by simp at e e'; omega))
      have M8 := Lib.hid (show MapN w7 mb mn (fun x => (posN x L).map fun (k : Nat) => (k : Int) + 2) by rw [hw7]; exact M7.out.keepG (set_grown p 1 _) (by simpa using hpm))
      have F8 := Lib.hid (show FrF lo p mb Y w7 from F7.out.trans (by
        rw [hw7]
        have hg := set_grown (w := w6) p 1 (.slice (some ⟨g', 0, none⟩) (L.length + 1) c')
        exact ⟨hg.os, hg.tape, hg.output, hg.size, fun k hk q1 q2 q3 => hg.block k hk (fun e => q1 (by simpa using e))⟩))
      have hs8 : w6.heap.size ≤ w7.heap.size := by rw [hw7]; simp [World.setCell]
      rw [← hw7]
      clear hw7 c0 cl cf hHeld P7 N7 O7 M7 F7
      have p1 := P8.out.cell 1
      have p2 := P8.out.cell 2
      have pl := P8.out.lt
      have n0 := N8.out.cell 0
      have n1 := N8.out.cell 1
      have n2 := N8.out.cell 2
      have nl := N8.out.lt
      simp at p1 p2 n0 n1 n2
      go_wp2_with fail
      go_wp2_with fail
      refine Calls.mono (impl_length_Node) ?_
      rintro e _ ⟨rfl, rfl⟩
      go_wp2_with fail
      refine wp_region_noPanic ?_
      refine wp_region_M (L := 6) (S := fun wx => Below w7.heap.size w7 wx) (by kernel_rfl) ?_ (fun hHeld => ?_)
      · exact (Below.refl _ _).drew
      refine tkMB 0 ?_
      try simp only [Act.put, s1, s2, s3]
      refine tkMB 1 ?_
      try simp only [Act.put, s1, s2, s3]
      refine tkMB 2 ?_
      try simp only [Act.put, s1, s2, s3]
      refine tkM0 3 (v := ?_) ?_ ?_
      rotate_left
      · (intro wv hSw; (try dsimp only at hSw); obtain ⟨hcq, _⟩ := bcell hSw; have hsq := Below.size hSw; have q2 := (hcq _ _ pl).trans p2; have ql := Nat.lt_of_lt_of_le pl hsq; go_simp; try with_reducible rfl)
      try simp only [Act.put, s1, s2, s3]
      refine tkM0 4 (v := ?_) ?_ ?_
      rotate_left
      · (intro wv hSw; (try dsimp only at hSw); obtain ⟨hcq, _⟩ := bcell hSw; have hsq := Below.size hSw; have q0 := (hcq _ _ nl).trans n0; have q1 := (hcq _ _ nl).trans n1; have q2 := (hcq _ _ nl).trans n2; have ql := Nat.lt_of_lt_of_le nl hsq; go_simp; try with_reducible rfl)
      try simp only [Act.put, s1, s2, s3]
      refine tkMB 5 ?_
      try simp only [Act.put, s1, s2, s3]
      refine wpAnyM_ready (rs := [6]) (by kernel_rfl) (by simp) ?_
      refine AllReadyM.last rfl (fun K hK => ?_)
      refine MapA.wp (M8.out.keep hHeld) keyN Tryz.underlying211 (by have := HF.out.few; unfold maxLen; omega) hx (v := (L.length : Int) + 2) (by unfold I64; omega) _ _ _ rfl rfl rfl (by first | rfl | (show Value.int .i64 _ = Value.int .i64 _; congr 1; omega)) ?_
      intro w9 hm9 hg9
      have P9' := Lib.hid ((P8.out.keep hHeld).keepG hg9 (by simpa using fun e => hpm e.symm))
      have O9 := Lib.hid ((O8.out.keep hHeld).keepG hg9 (fun g e e' => by
        cases e
        simp only [Option.some.injEq] at e'
        obtain ⟨cur, hc⟩ := O8.out.typN rfl
        obtain ⟨es, cl2, hm⟩ := M8.out.isMap
        rw [e', hc] at hm
        cases hm))
      have F9 := Lib.hid (show FrF lo p mb w7 w9 from (FrF.of_below hHeld).trans ⟨hg9.os, hg9.tape, hg9.output, hg9.size, fun k hk q1 q2 q3 => hg9.block k hk (fun e => q2 (by simpa using e))⟩)
      have M9 := Lib.hid hm9
      refine hK.out _ _ ?_
      clear hK K
      try simp only [Act.put, s1, s2, s3]
      refine wpAnyM_done (by kernel_rfl) ?_ _
      refine NoPanic.normal ?_
      clear hm9 hg9 p1 p2 pl n0 n1 n2 nl hHeld
      go_wp2
      go_ret
      have hlen : (L ++ [(⟨i, a, b⟩ : I3)]).length = L.length + 1 := by simp
      refine ⟨by rw [HM.out]; first | rfl | (show Ending.returned (Value.int .i64 _) = Ending.returned (Value.int .i64 _); congr 2; omega), ⟨some ⟨g', 0, none⟩, c', mn + 1, ?_⟩, ((FrF.of_below (lo := lo) (p := p) (mb := mb) HB6.out).trans F8.out).trans F9.out⟩
      rw [HM.out]
      refine ⟨by simp only [hlen]; exact P9'.out, by simp only [hlen]; exact O9.out, M9.out.congr (fun y _ => ?_), by have := HF.out.few; simp only [hlen]; omega, HF.out.lop, HF.out.lom⟩
      rw [posN_app HNOT.out]
      by_cases hy : y = ⟨i, a, b⟩
      · rw [if_pos hy, if_pos hy]; rfl
      · rw [if_neg hy, if_neg hy]
theorem laws_eqDiagram {b r : Int} {a a' : Option Addr} {n c n' c' : Nat} {l : List I3} {w : World} (hI : F3 w a n c l) (hI' : F3 w a' n' c' l) (hn : n ≤ 1048576) (hn' : n' ≤ 1048576) :
    Calls Tryz.prog 17 #[.agg #[.int .i64 b, .slice a n c, .int .i64 r], .agg #[.int .i64 b, .slice a' n' c', .int .i64 r]] w fun e w' => e = .returned (.bool true) ∧ Below w.heap.size w w' := by
  obtain rfl : n = n' := by have h1 := hI.len; have h2 := hI'.len; omega
  have HI := Lib.hid hI
  have HI' := Lib.hid hI'
  clear hI hI'
  have hb : (b != b) = false := by simp
  have hr : (r != r) = false := by simp
  go_enter Tryz.func17, Tryz.ntmps17
  go_wp2_with fail
  refine Calls.mono (laws_eqNodeS (HI.out.keep bel) (HI'.out.keep bel) hn) ?_
  rintro e w1 ⟨rfl, hb_w1⟩
  obtain ⟨hc_w1, hf_w1⟩ := bcell hb_w1
  have hs_w1 := hb_w1.size
  go_wp2
  go_ret
  exact ⟨rfl, bel⟩
set_option maxHeartbeats 1000000 in
theorem laws_markDiagram {b r : Int} {a : Option Addr} {n c base : Nat} {l : List I3} {q : Int} {w : World} (hI : OwnF 3 I3.enc I3.ok 117 w base a n c l) (hn : n ≤ 1048576) (hq0 : 0 ≤ q) (hq1 : q ≤ 1099511627776) :
    Calls Tryz.prog 19 #[.agg #[.int .i64 b, .slice a n c, .int .i64 r], .int .i64 q] w fun e w' => e = .returned (.int .i64 (q + 3 * n)) ∧ Touch w w' n a ∧ OwnF 3 I3.enc I3.ok 117 w' base a n c (marks3 q n) := by
  have HI := Lib.hid hI
  clear hI
  go_enter Tryz.func19, Tryz.ntmps19
  go_wp2_with fail
  refine Calls.mono (laws_markNodeS (HI.out.keep bel) hn hq0 hq1) ?_
  rintro e w1 ⟨rfl, ht, ho⟩
  have HO := Lib.hid ho
  clear ho
  go_wp2
  go_ret
  obtain ⟨r9, hg, hr9⟩ := ht
  exact ⟨rfl, ⟨r9, grownBy_trans (World.grownBy_alloc _ _ _) hg, hr9⟩, HO.out⟩
theorem laws_heldDiagram {b r : Int} {a : Option Addr} {n c : Nat} {q : Int} {w : World} (hI : F3 w a n c (marks3 q n)) (hn : n ≤ 1048576) (hq0 : 0 ≤ q) (hq1 : q ≤ 1099511627776) :
    Calls Tryz.prog 24 #[.agg #[.int .i64 b, .slice a n c, .int .i64 r], .int .i64 q] w fun e w' => e = .returned (.int .i64 (q + 3 * n)) ∧ Below w.heap.size w w' := by
  have HI := Lib.hid hI
  clear hI
  have hqn : decide (q + 3 * (n : Int) < 0) = false := by simp; omega
  go_enter Tryz.func24, Tryz.ntmps24
  go_wp2_with fail
  refine Calls.mono (laws_heldNodeS (HI.out.keep bel) hn hq0 hq1) ?_
  rintro e _ ⟨rfl, rfl⟩
  go_wp2
  go_ret
  exact ⟨rfl, bel⟩
theorem Blk.made1 (w : World) (o : Obj) (cs : Array Value) (T : TypeId) : Blk ((w.alloc o).alloc (.cells cs T)) (w.heap.size + 1) cs T := by
  have h := Blk.made (w.alloc o) cs T
  simpa using h
theorem Blk.made2 (w : World) (o o' : Obj) (cs : Array Value) (T : TypeId) : Blk (((w.alloc o).alloc o').alloc (.cells cs T)) (w.heap.size + 1 + 1) cs T := by
  have h := Blk.made ((w.alloc o).alloc o') cs T
  simpa using h
theorem below_alloc1 {w w' : World} (h : Below w.heap.size w w') (o : Obj) : Below w.heap.size w (w'.alloc o) := h.alloc h.size o
theorem Blk.keepN {w w' : World} {b c : Nat} {cs : Array Value} {T : TypeId} (h : Blk w b cs T) (hg : w.grownBy w' (some c)) (hr : c ≠ b) : Blk w' b cs T := h.keepG hg (fun e => hr (Option.some.inj e))
set_option maxRecDepth 100000 in
@[go_sem] theorem eqNode (x y z u v t : Int) (w : World) : (Op.equalIn 10000 117 (.agg #[.int .i64 x, .int .i64 y, .int .i64 z]) (.agg #[.int .i64 u, .int .i64 v, .int .i64 t])).run Tryz.prog w = .ok (x == u && (y == v && z == t)) w := by
  have u3 := Tryz.underlying2
  have a3 := Tryz.isAgg2
  have z3 := Tryz.sizeOf2
  have hS : Tryz.prog.underlying 117 = some (.struct (Tryz.prog.fieldsOf 117)) := by kernel_rfl
  have hp : Tryz.prog.stoodInHeld 117 = false := by kernel_rfl
  rw [show (10000 : Nat) = 9999 + 1 from rfl, run_equalIn_agg w 9999 117 _ _ hS hp]
  simp only [Program.fieldsOf, Tryz.underlying117]
  go_simp
  by_cases h1 : x = u <;> by_cases h2 : y = v <;> by_cases h3 : z = t <;> simp [h1, h2, h3]
/-- block p is a build of the call's own (from block lo on) with these nodes -/
structure BldA (w : World) (lo p : Nat) (na : Option Addr) (nc : Nat) (L : List I3) : Prop where
  blk : Blk w p #[.slice na L.length nc] 110
  own : OwnF 3 I3.enc I3.ok 117 w lo na L.length nc L
  lop : lo ≤ p
theorem BldA.keep {w w' : World} {lo p : Nat} {na : Option Addr} {nc : Nat} {L : List I3} (h : BldA w lo p na nc L) (hb : Below w.heap.size w w') : BldA w' lo p na nc L := ⟨h.blk.keep hb, h.own.keep hb, h.lop⟩
set_option maxRecDepth 100000 in
set_option maxHeartbeats 4000000 in
theorem spec_l22Node {lo p nc : Nat} {i a b : Int} {na : Option Addr} {L : List I3} {w : World} (hB : BldA w lo p na nc L) (hL : L.length ≤ 1048600) (hi : I64 i) (ha : I64 a) (hb : I64 b) (hlo : lo ≤ w.heap.size) :
    Calls Tryz.prog 179 #[.pointer (some ⟨p, 0, none⟩), .int .i64 i, .int .i64 a, .int .i64 b] w fun e w' => e = .returned (.int .i64 (mkN L i a b).2) ∧ (∃ na' nc', BldA w' lo p na' nc' (mkN L i a b).1) ∧ FrF lo p p w w' := by
  by_cases hab : a = b
  · subst hab
    have e1 : (a == a) = true := by simp
    have HM := Lib.hid (mkN_eq (L := L) (i := i) (rfl : a = a))
    have HF := Lib.hid hB
    clear hB
    go_enter Tryz.func179, Tryz.ntmps179
    go_wp2
    go_ret
    exact ⟨by rw [HM.out]; rfl, ⟨_, _, by rw [HM.out]; exact HF.out⟩, FrF.refl _ _ _ _⟩
  · have e1 : (a == b) = false := by simpa using hab
    have HNE := Lib.hid hab
    have hx : I3.ok ⟨i, a, b⟩ := ⟨hi, ha, hb⟩
    have hbW : Below w.heap.size w (w.alloc (.cells #[.int .i64 i, .int .i64 a, .int .i64 b] 117)) := bel
    have N0 := Lib.hid (Blk.made w #[.int .i64 i, .int .i64 a, .int .i64 b] 117)
    have B0 := Lib.hid (hB.keep hbW)
    have HF := Lib.hid hB
    clear hB hab
    go_enter Tryz.func179, Tryz.ntmps179
    go_wp2_with fail
    go_loopw [10] (fun s10 wr => ∃ j : Nat, s10 = .int .i64 j ∧ j ≤ L.length ∧ w.heap.size + 1 ≤ wr.heap.size ∧ Hid (Below w.heap.size w wr) ∧ Hid (Blk wr w.heap.size #[.int .i64 i, .int .i64 a, .int .i64 b] 117) ∧ Hid (∀ q, q < j → L[q]? ≠ some ⟨i, a, b⟩)) (fun s10 _ => L.length - (intOf s10).toNat)
    case atStart => exact ⟨0, rfl, by omega, by simp, Lib.hid hbW, N0, Lib.hid fun q h => by omega⟩
    case round =>
      clear N0 B0 hbW
      obtain ⟨j, rfl, hj, hsr, HB, N, A⟩ := hrel
      have B := Lib.hid (HF.out.keep HB.out)
      have p0 := B.out.blk.cell 0
      have pl := B.out.blk.lt
      simp at p0
      by_cases hlt : j < L.length
      · have hlt' : (j : Int) < (L.length : Int) := by omega
        have hj0 : (0 : Int) ≤ (j : Int) := by omega
        obtain ⟨bn, on, y, rfl, hbn, hy, _, c0, c1, c2⟩ := F3.get B.out.own.flats hlt
        have n0 := N.out.cell 0
        have n1 := N.out.cell 1
        have n2 := N.out.cell 2
        have nl := N.out.lt
        simp at n0 n1 n2
        have HY := Lib.hid hy
        clear hy
        by_cases he : y = ⟨i, a, b⟩
        · have HM := Lib.hid (mkN_old HNE.out (posN_hit (he ▸ HY.out) A.out))
          subst he
          go_wp2_with fail
          go_quiet (fail)
          go_wp2
          go_ret
          have hbe : Below w.heap.size w wr := HB.out
          refine ⟨by rw [HM.out]; rfl, ⟨some ⟨bn, on, none⟩, nc, ?_⟩, FrF.of_below (below_drewN hbe _)⟩
          rw [HM.out]
          exact (HF.out.keep hbe).keep (below_drewN (Below.refl _ _) _)
        · have hq : (y.a == i && (y.b == a && y.c == b)) = false := by
            rw [Bool.eq_false_iff]
            intro h
            simp only [Bool.and_eq_true, beq_iff_eq] at h
            exact he (by rw [I3.eta y, h.1, h.2.1, h.2.2])
          have A2 := Lib.hid (show ∀ q, q < j + 1 → L[q]? ≠ some ⟨i, a, b⟩ from fun q hq => by
            rcases (show q < j ∨ q = j by omega) with h | rfl
            · exact A.out q h
            · rw [HY.out]; exact fun e => he (Option.some.inj e))
          have hE := fun (wx : World) => (show (binOp .eql 117 (.agg #[.int .i64 y.a, .int .i64 y.b, .int .i64 y.c]) (.agg #[.int .i64 i, .int .i64 a, .int .i64 b])).run Tryz.prog wx = .ok (.bool false) wx by rw [run_eql_struct, eqNode, hq]; rfl)
          go_wp2_with fail
          go_quiet (fail)
          go_wp2
          go_roundw
          case rel => exact ⟨j + 1, rfl, by omega, hsr, Lib.hid (below_drewN HB.out _), Lib.hid (N.out.keep (below_drewN (Below.refl _ _) _)), A2⟩
          case measure => simp [intOf]; omega
      · have hjn : j = L.length := by omega
        have hnot : (⟨i, a, b⟩ : I3) ∉ L := fun hm => by
          obtain ⟨q, hq⟩ := List.getElem?_of_mem hm
          exact A.out q (by have := (List.getElem?_eq_some_iff.1 hq).1; omega) hq
        have HNOT := Lib.hid hnot
        have HM := Lib.hid (mkN_new HNE.out hnot)
        have hlt' : ¬ (j : Int) < (L.length : Int) := by omega
        have hgn : ∀ g, na = some ⟨g, 0, none⟩ → g < w.heap.size := fun g e => (HF.out.own.blk g e).2
        have n0 := N.out.cell 0
        have n1 := N.out.cell 1
        have n2 := N.out.cell 2
        have nl := N.out.lt
        simp at n0 n1 n2
        clear hnot
        go_wp2_with fail
        refine wp_region_noPanic ?_
        refine wp_region_M (L := 10) (S := (fun wx => wx.cell? ⟨p, 0, none⟩ = some (.slice na L.length nc) ∧ wx.cell? ⟨w.heap.size, 0, none⟩ = some (.int .i64 i) ∧ wx.cell? ⟨w.heap.size, 1, none⟩ = some (.int .i64 a) ∧ wx.cell? ⟨w.heap.size, 2, none⟩ = some (.int .i64 b) ∧ p < wx.heap.size ∧ w.heap.size < wx.heap.size)) (by kernel_rfl) ?_ (fun hHeld => ?_)
        · exact ⟨p0, n0, n1, n2, pl, nl⟩
        clear p0 pl n0 n1 n2 nl
        refine tkM 0 ?_
        try simp only [Act.put, s1, s2, s3]
        refine tkM 1 ?_
        try simp only [Act.put, s1, s2, s3]
        refine tkM 2 ?_
        try simp only [Act.put, s1, s2, s3]
        refine tkM 3 ?_
        try simp only [Act.put, s1, s2, s3]
        refine tkM0 4 (v := ?_) ?_ ?_
        rotate_left
        · (intro wv hSw; (try dsimp only at hSw); obtain ⟨h1, h2, h3, h4, h5, h6⟩ := hSw; go_simp; try with_reducible rfl)
        try simp only [Act.put, s1, s2, s3]
        refine tkM0 5 (v := ?_) ?_ ?_
        rotate_left
        · (intro wv hSw; (try dsimp only at hSw); obtain ⟨h1, h2, h3, h4, h5, h6⟩ := hSw; go_simp; try with_reducible rfl)
        try simp only [Act.put, s1, s2, s3]
        refine wpAnyM_ready (rs := [6]) (by kernel_rfl) (by simp) ?_
        refine AllReadyM.cons rfl (fun K hK => ?_) AllReadyM.nil
        go_simp
        have hbX : Below wr.heap.size wr (wr.alloc (.cells #[.int .i64 i, .int .i64 a, .int .i64 b] 117)).drew := ((Below.refl _ _).alloc (Nat.le_refl _) _).drew
        obtain ⟨Y, hY⟩ : ∃ Y, Y = (wr.alloc (.cells #[.int .i64 i, .int .i64 a, .int .i64 b] 117)).drew := ⟨_, rfl⟩
        have L6 := Lib.hid (show Blk Y wr.heap.size #[.int .i64 i, .int .i64 a, .int .i64 b] 117 by rw [hY]; exact (Blk.made _ _ _).drew)
        have hsY : Y.heap.size = wr.heap.size + 1 := by rw [hY]; simp
        rw [← hY] at hbX ⊢
        clear hY
        have B6 := Lib.hid (B.out.keep hbX)
        have N6 := Lib.hid (N.out.keep hbX)
        have HB6 := Lib.hid (below_callS HB.out hbX)
        clear hbX B
        have SS : ∀ (wx : World), Blk wx p #[.slice na L.length nc] 110 → Blk wx w.heap.size #[.int .i64 i, .int .i64 a, .int .i64 b] 117 → (wx.cell? ⟨p, 0, none⟩ = some (.slice na L.length nc) ∧ wx.cell? ⟨w.heap.size, 0, none⟩ = some (.int .i64 i) ∧ wx.cell? ⟨w.heap.size, 1, none⟩ = some (.int .i64 a) ∧ wx.cell? ⟨w.heap.size, 2, none⟩ = some (.int .i64 b) ∧ p < wx.heap.size ∧ w.heap.size < wx.heap.size) := fun wx h1 h2 => ⟨h1.cell 0, h2.cell 0, h2.cell 1, h2.cell 2, h1.lt, h2.lt⟩
        have HSS := Lib.hid SS
        clear SS
        refine hK.out _ _ (HSS.out _ B6.out.blk N6.out) (fun hHeld => ?_)
        clear hK K
        try simp only [Act.put, s1, s2, s3]
        refine wpAnyM_ready (rs := [7]) (by kernel_rfl) (by simp) ?_
        refine AllReadyM.cons rfl (fun K hK => ?_) AllReadyM.nil
        refine wp_appAtL (k := 3) (m := 1) (enc := I3.enc) (ok := I3.ok) _ _ rfl Tryz.underlying38 Tryz.infoNode9 rfl (by decide) (by decide) I3.one9 lo na L.length nc L [⟨i, a, b⟩] B6.out.own rfl _ rfl L6.out rfl rfl (fun x hx9 => by simp at hx9; rw [hx9]; exact hx) (by decide) (by omega) (by decide) (by omega) ?_
        intro g' c' w6 h1 h2 h3
        have ht : Touch Y w6 1 na := ⟨_, h3, fun b e => ⟨by decide, own_block B6.out.own.1 b e⟩⟩
        have P7 := Lib.hid (B6.out.blk.keepA ht (blk_ne B6.out.blk B6.out.own.typN (by decide)))
        have N7 := Lib.hid (N6.out.keepA ht (fun e => by have := hgn _ e; omega))
        have O7 := Lib.hid h1
        have F7 := Lib.hid (show FrF lo p p Y w6 from ⟨h3.os, h3.tape, h3.output, h3.size, fun k hk q1 q2 q3 => h3.block k hk (fun e => by
          have e1 := own_block B6.out.own.1 _ e.symm
          obtain ⟨cur, hc⟩ := B6.out.own.typN e1
          rcases q3 with q3 | q3
          · have := (B6.out.own.blk _ e1).1; omega
          · exact q3 _ _ hc)⟩)
        have hs7 := h3.size
        clear h1 h2 h3 ht
        refine hK.out _ _ (HSS.out _ P7.out N7.out) (fun hHeld => ?_)
        clear hK K
        try simp only [Act.put, s1, s2, s3]
        refine tkM 8 ?_
        try simp only [Act.put, s1, s2, s3]
        refine tkM 9 ?_
        try simp only [Act.put, s1, s2, s3]
        have c0 := P7.out.cell 0
        have cl := P7.out.lt
        have cf := P7.out.free
        simp at c0
        refine wpAnyM_ready (rs := [10]) (by kernel_rfl) (by simp) ?_
        refine AllReadyM.last rfl (fun K hK => ?_)
        go_simp
        refine hK.out _ _ ?_
        clear hK K
        try simp only [Act.put, s1, s2, s3]
        refine wpAnyM_done (by kernel_rfl) ?_ _
        refine NoPanic.normal ?_
        have hpg : g' ≠ p := fun e => blk_ne P7.out O7.out.typN (by decide) (by rw [e])
        obtain ⟨w7, hw7⟩ : ∃ w7, w7 = w6.setCell ⟨p, 0, none⟩ (.slice (some ⟨g', 0, none⟩) (L.length + 1) c') := ⟨_, rfl⟩
        have P8 := Lib.hid (show Blk w7 p #[.slice (some ⟨g', 0, none⟩) (L.length + 1) c'] 110 by rw [hw7]; exact P7.out.set 0 _)
        have O8 := Lib.hid (show OwnF 3 I3.enc I3.ok 117 w7 lo (some ⟨g', 0, none⟩) (L.length + 1) c' (L ++ [⟨i, a, b⟩]) by rw [hw7]; exact O7.out.keepG (set_grown p 0 _) (fun g e e' => by simp at e e'; omega))
        have F8 := Lib.hid (show FrF lo p p Y w7 from F7.out.trans (by
          rw [hw7]
          have hg := set_grown (w := w6) p 0 (.slice (some ⟨g', 0, none⟩) (L.length + 1) c')
          exact ⟨hg.os, hg.tape, hg.output, hg.size, fun k hk q1 q2 q3 => hg.block k hk (fun e => q1 (by simpa using e))⟩))
        rw [← hw7]
        clear hw7 c0 cl cf hHeld P7 N7 O7 F7
        have p0 := P8.out.cell 0
        have pl := P8.out.lt
        simp at p0
        go_wp2
        go_ret
        have hlen : (L ++ [(⟨i, a, b⟩ : I3)]).length = L.length + 1 := by simp
        refine ⟨by rw [HM.out]; first | rfl | (show Ending.returned (Value.int .i64 _) = Ending.returned (Value.int .i64 _); congr 2; omega), ⟨some ⟨g', 0, none⟩, c', ?_⟩, (FrF.of_below (lo := lo) (p := p) (mb := p) HB6.out).trans F8.out⟩
        rw [HM.out]
        exact ⟨by simp only [hlen]; exact P8.out, by simp only [hlen]; exact O8.out, HF.out.lop⟩
end Go.Proofs.YtkaikbaagajckaaGreat
