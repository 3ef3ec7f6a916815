/- The join of two diagrams: the program, walked.; The states of a diagram: what both sides answer. -/
import Derived.Test.YtkaikbaagajckaaGreatK13
import Derived.Laws.EntriesVeiled
namespace Go.Proofs.YtkaikbaagajckaaGreat
open Go.RowKit
set_option linter.unusedVariables false
set_option linter.unusedSimpArgs false
attribute [local go_sem ↓] Go.wp_at_zero Go.wp_at_succ
/-- the join: nodes, and the root's reference -/
def jnN (j n : Int) (A B : List I3) (rA rB : Int) : List I3 × Int := ((jnF j n A B (rA.toNat + rB.toNat) ([], fun _ _ => none) rA rB).1, (jnF j n A B (rA.toNat + rB.toNat) ([], fun _ _ => none) rA rB).2.2)
theorem jnN_inv {j n : Int} {A B : List I3} {rA rB : Int} (hA : Snd n A) (hB : Snd n B) (n0 : 0 ≤ n) (ha : RefB rA A.length) (hb : RefB rB B.length) (hA2 : A.length ≤ 2000) (hB2 : B.length ≤ 2000) :
    Snd n (jnN j n A B rA rB).1 ∧ RefB (jnN j n A B rA rB).2 (jnN j n A B rA rB).1.length ∧ (jnN j n A B rA rB).1.length ≤ 4008004 ∧ ∀ β, evR (jnN j n A B rA rB).1 β (jnN j n A B rA rB).2 = bopN j (evR A β rA) (evR B β rB) := by
  obtain ⟨h1, h2, _, h3, _⟩ := jn_ev (j := j) hA.redu.frst hB.redu.frst hA.ord hB.ord n0 (rA.toNat + rB.toNat) [] (fun _ _ => none) rA rB ha hb (Nat.le_refl _) (JnI.start j n A B)
  obtain ⟨⟨S, h4⟩, _⟩ := jn_cnt (j := j) hA.redu.frst hB.redu.frst hA.ord hB.ord (rA.toNat + rB.toNat) [] (fun _ _ => none) [] rA rB ha hb (Nat.le_refl _) (JnK.start A B)
  exact ⟨h1.snd, h2, (h4.most hA2 hB2).2, h3⟩
set_option maxRecDepth 100000 in
set_option maxHeartbeats 4000000 in
theorem impl_joinAll {aA aB : Option Addr} {cA cB : Nat} {A B : List I3} {j n rA rB : Int} {w : World} (hIA : F3 w aA A.length cA A) (hIB : F3 w aB B.length cB B) (hA : Snd n A) (hB : Snd n B) (n0 : 0 ≤ n) (n20 : n ≤ 20) (ha : RefB rA A.length) (hb : RefB rB B.length) (hA2 : A.length ≤ 2000) (hB2 : B.length ≤ 2000) :
    Calls Tryz.prog 73 #[.int .i64 j, .agg #[.int .i64 n, .slice aA A.length cA, .int .i64 rA], .agg #[.int .i64 n, .slice aB B.length cB, .int .i64 rB]] w fun e w' => ∃ lo p mb na nc mn, e = .returned (.tuple #[.pointer (some ⟨p, 0, none⟩), .int .i64 (jnN j n A B rA rB).2]) ∧ ForA w' lo p mb n na nc mn (jnN j n A B rA rB).1 ∧ w.heap.size ≤ lo ∧ Below w.heap.size w w' := by
  obtain ⟨w0, hw0⟩ : ∃ w0, w0 = ((w.alloc (.cells #[.int .i64 j] 2)).alloc (.cells #[.int .i64 n, .slice aA A.length cA, .int .i64 rA] 40)).alloc (.cells #[.int .i64 n, .slice aB B.length cB, .int .i64 rB] 40) := ⟨_, rfl⟩
  have hb0 : Below w.heap.size w w0 := by rw [hw0]; exact below_alloc1 (below_alloc1 (below_alloc1 (Below.refl _ _) _) _) _
  have J0 := Lib.hid (show Blk w0 w.heap.size #[.int .i64 j] 2 by rw [hw0]; exact (Blk.made _ _ _).keep (below_alloc1 (below_alloc1 (Below.refl _ _) _) _))
  have A0 := Lib.hid (show Blk w0 (w.heap.size + 1) #[.int .i64 n, .slice aA A.length cA, .int .i64 rA] 40 by rw [hw0]; exact (Blk.made1 _ _ _ _).keep (below_alloc1 (Below.refl _ _) _))
  have B0 := Lib.hid (show Blk w0 (w.heap.size + 1 + 1) #[.int .i64 n, .slice aB B.length cB, .int .i64 rB] 40 by rw [hw0]; exact Blk.made2 _ _ _ _ _)
  have hs0 : w0.heap.size = w.heap.size + 1 + 1 + 1 := by rw [hw0]; simp
  have HIA := Lib.hid hIA
  have HIB := Lib.hid hIB
  have HA := Lib.hid hA
  have HB := Lib.hid hB
  have HRA := Lib.hid ha
  have HRB := Lib.hid hb
  have hmm := @run_makeMap Tryz.prog
  have hlA : A.length = 0 ∨ ∀ g off, aA = some ⟨g, off, none⟩ → g < w.heap.size := hIA.lies
  have hlB : B.length = 0 ∨ ∀ g off, aB = some ⟨g, off, none⟩ → g < w.heap.size := hIB.lies
  have HLA := Lib.hid hlA
  have HLB := Lib.hid hlB
  have HB0 := Lib.hid hb0
  clear hIA hIB hA hB ha hb hlA hlB hb0
  go_enter Tryz.func73, Tryz.ntmps73
  go_wp2_with fail
  rw [← hw0]
  clear hw0
  refine Calls.mono impl_newForest ?_
  rintro e w1 ⟨p, mb, rfl, hFor, hb1, hp1⟩
  obtain ⟨lo, hlo⟩ : ∃ lo, lo = w0.heap.size := ⟨_, rfl⟩
  rw [← hlo] at hFor
  have hs1 := hb1.size
  obtain ⟨WF, hWF⟩ : ∃ W, W = w1.alloc (.cells #[.pointer (some ⟨p, 0, none⟩)] 101) := ⟨_, rfl⟩
  obtain ⟨WM, hWM⟩ : ∃ W, W = WF.alloc (.map #[] 0) := ⟨_, rfl⟩
  obtain ⟨WB, hWB⟩ : ∃ W, W = WM.alloc (.cells #[.map (some (w1.heap.size + 1))] 178) := ⟨_, rfl⟩
  obtain ⟨WV, hWV⟩ : ∃ W, W = WB.alloc (.cells #[vFun w.heap.size (w1.heap.size + 1 + 1) (w.heap.size + 1) (w.heap.size + 1 + 1) w1.heap.size (w1.heap.size + 1 + 1 + 1)] 179) := ⟨_, rfl⟩
  have hsF : WF.heap.size = w1.heap.size + 1 := by rw [hWF]; simp
  have hsM : WM.heap.size = w1.heap.size + 1 + 1 := by rw [hWM]; simp [hsF]
  have hsB : WB.heap.size = w1.heap.size + 1 + 1 + 1 := by rw [hWB]; simp [hsM]
  have hbF : Below w1.heap.size w1 WF := by rw [hWF]; exact below_alloc1 (Below.refl _ _) _
  have hbM : Below WF.heap.size WF WM := by rw [hWM]; exact below_alloc1 (Below.refl _ _) _
  have hbB : Below WM.heap.size WM WB := by rw [hWB]; exact below_alloc1 (Below.refl _ _) _
  have hbV : Below WB.heap.size WB WV := by rw [hWV]; exact below_alloc1 (Below.refl _ _) _
  have hbMB := below_callS hbM hbB
  have hbMV := below_callS hbMB hbV
  have hbBV := below_callS hbB hbV
  have hbFV := below_callS hbF hbMV
  have hb1V := below_callS hb1 hbFV
  have hbwV := below_callS HB0.out hb1V
  have Fb := (show Blk WF w1.heap.size #[.pointer (some ⟨p, 0, none⟩)] 101 by rw [hWF]; exact Blk.made _ _ _)
  have Mp := (show MapA 182 I2.ok litK2 WM (w1.heap.size + 1) 0 (fun _ => none) by rw [hWM, ← hsF]; exact MapA.made WF)
  have Mb := (show Blk WB (w1.heap.size + 1 + 1) #[.map (some (w1.heap.size + 1))] 178 by rw [hWB, ← hsM]; exact Blk.made _ _ _)
  have Vb := (show Blk WV (w1.heap.size + 1 + 1 + 1) #[vFun w.heap.size (w1.heap.size + 1 + 1) (w.heap.size + 1) (w.heap.size + 1 + 1) w1.heap.size (w1.heap.size + 1 + 1 + 1)] 179 by rw [hWV, ← hsB]; exact Blk.made _ _ _)
  have hmbne : w1.heap.size + 1 ≠ mb := by have := hFor.map.lt; omega
  have JW := Lib.hid (show JnW WV lo w.heap.size (w1.heap.size + 1 + 1) (w1.heap.size + 1) (w.heap.size + 1) (w.heap.size + 1 + 1) w1.heap.size p mb (w1.heap.size + 1 + 1 + 1) j n aA aB cA cB A B rA rB [] (fun _ _ => none) from
    ⟨(J0.out.keep hb1).keep hbFV, Mb.keep hbV, ⟨0, [], Mp.keep hbBV, JnK.start A B, Nat.le_refl _⟩, (A0.out.keep hb1).keep hbFV, (B0.out.keep hb1).keep hbFV, Fb.keep hbMV, ⟨_, _, _, hFor.keep hbFV⟩, Vb, HIA.out.keep hbwV, HIB.out.keep hbwV, JnI.start j n A B, ⟨by have := hb1V.size; omega, by omega, hmbne⟩, HLA.out.imp id (fun h g off e => by have := h g off e; omega), HLB.out.imp id (fun h g off e => by have := h g off e; omega)⟩)
  have hsV := hbFV.size
  have HBV := Lib.hid hbwV
  have hlow : w.heap.size ≤ lo := by omega
  have J1 := A0.out.keep hb1
  have a0 := J1.cell 0
  have xl := J1.lt
  simp only [List.getElem?_toArray, List.getElem?_cons_zero, List.getElem?_cons_succ] at a0
  clear hFor hb1 hbF hbM hbB hbV hbMB hbMV hbBV hbFV hb1V hbwV Fb Mp Mb Vb J0 A0 B0 J1 hmbne hp1
  subst hWV hWB hWM hWF
  have x2 := JW.out.a.cell 2
  have y2 := JW.out.b.cell 2
  simp only [List.getElem?_toArray, List.getElem?_cons_zero, List.getElem?_cons_succ] at x2 y2
  go_wp2_with fail
  refine Calls.mono (impl_joinVisit HA.out HB.out n0 n20 hA2 hB2 (rA.toNat + rB.toNat) rA rB [] (fun _ _ => none) _ JW.out HRA.out HRB.out (Nat.le_refl _)) ?_
  rintro e w5 ⟨rfl, hJ5, hb5⟩
  have J5 := Lib.hid hJ5
  have HB5 := Lib.hid (HBV.out.trans (hb5.mono hlow))
  clear hJ5 hb5 JW HBV x2 y2 a0 xl
  have f0 := J5.out.f.cell 0
  have fl := J5.out.f.lt
  simp only [List.getElem?_toArray, List.getElem?_cons_zero] at f0
  go_wp2
  go_ret2
  obtain ⟨na, nc, mn, hf⟩ := J5.out.fo
  exact ⟨lo, p, mb, na, nc, mn, by first | rfl | simp [jnN], hf, hlow, HB5.out⟩
end Go.Proofs.YtkaikbaagajckaaGreat
namespace Go.Proofs.YtkaikbaagajckaaGreat
open Go.RowKit
set_option linter.unusedVariables false
set_option linter.unusedSimpArgs false
theorem ts_inv {sz : List Int} {g : List I2b} (hs : allIn 1 32 sz = true) : Snd (offN sz sz.length : Int) (tsN sz g).1 ∧ RefB (tsN sz g).2 (tsN sz g).1.length := by
  obtain ⟨i1, i2, _, _, _⟩ := td_inv (g := g) hs sz.length (Nat.le_refl _)
  obtain ⟨h1, h2, _⟩ := can_snd i1 i2
  exact ⟨h1, h2⟩
/-- the join of a diagram with the diagram of all states -/
def ojN (sz : List Int) (L : List I3) (root : Int) : List I3 × Int := jnN 0 (offN sz sz.length : Int) L (tsN sz []).1 root (tsN sz []).2
/-- .. made canonical -/
def owN (sz : List Int) (L : List I3) (root : Int) : List I3 × Int := canN mkN (ojN sz L root).1 (ojN sz L root).2
theorem ojN_inv {sz : List Int} {L : List I3} {root : Int} (hs : allIn 1 32 sz = true) (hn : sz.length ≤ 16) (hS : Snd (offN sz sz.length : Int) L) (hr : RefB root L.length) (hl : L.length ≤ 2000) :
    Snd (offN sz sz.length : Int) (ojN sz L root).1 ∧ RefB (ojN sz L root).2 (ojN sz L root).1.length ∧ (ojN sz L root).1.length ≤ 4008004 ∧ ∀ β, evR (ojN sz L root).1 β (ojN sz L root).2 = (evR L β root && evR (tsN sz []).1 β (tsN sz []).2) := by
  obtain ⟨t1, t2⟩ := ts_inv (g := []) hs
  obtain ⟨h1, h2, h3, h4⟩ := jnN_inv (j := 0) hS t1 (by omega) hr t2 hl (Nat.le_trans (ts_few hs hn) (by omega))
  exact ⟨h1, h2, h3, fun β => by rw [ojN, h4, bopN, if_pos rfl]⟩
theorem owN_inv {sz : List Int} {L : List I3} {root : Int} (hs : allIn 1 32 sz = true) (hn : sz.length ≤ 16) (hS : Snd (offN sz sz.length : Int) L) (hr : RefB root L.length) (hl : L.length ≤ 2000) :
    Snd (offN sz sz.length : Int) (owN sz L root).1 ∧ RefB (owN sz L root).2 (owN sz L root).1.length ∧ (owN sz L root).1.length ≤ 4008004 ∧ ∀ β, evR (owN sz L root).1 β (owN sz L root).2 = (evR L β root && evR (tsN sz []).1 β (tsN sz []).2) := by
  obtain ⟨h1, h2, h3, h4⟩ := ojN_inv hs hn hS hr hl
  obtain ⟨g1, g2, _⟩ := can_snd h1 h2
  exact ⟨g1, g2, Nat.le_trans (can_length h1.redu h2) h3, fun β => by rw [owN, can_ev h1.redu h2, h4]⟩
/-- the lists of bits of the states -/
def owL (sz : List Int) (L : List I3) (root : Int) : List (List Int) := lsN (offN sz sz.length : Int) (owN sz L root).1 (offN sz sz.length) (owN sz L root).2
theorem owL_filter {sz : List Int} {L : List I3} {root : Int} (hs : allIn 1 32 sz = true) (hn : sz.length ≤ 16) (hS : Snd (offN sz sz.length : Int) L) (hr : RefB root L.length) (hl : L.length ≤ 2000) :
    owL sz L root = (allB (offN sz sz.length)).filter fun s => evR L (bitF 0 s) root && okB sz s := by
  obtain ⟨h1, h2, _, h4⟩ := owN_inv hs hn hS hr hl
  rw [owL, ls_filter h1.redu.frst h1.ord _ _ (Nat.le_refl _) h2 (by rw [Nat.sub_self]; exact lvl_pos h1.ord (by omega) h2)]
  refine List.filter_congr fun s hs' => ?_
  obtain ⟨q1, q2⟩ := allB_01 hs'
  rw [Nat.sub_self, h4, ts_ok hs q1 q2]
theorem owL_bits {sz : List Int} {L : List I3} {root : Int} (hs : allIn 1 32 sz = true) (hn : sz.length ≤ 16) (hS : Snd (offN sz sz.length : Int) L) (hr : RefB root L.length) (hl : L.length ≤ 2000) {s : List Int} (h : s ∈ owL sz L root) : s.length = offN sz sz.length ∧ allIn 0 1 s = true := by
  rw [owL_filter hs hn hS hr hl] at h
  obtain ⟨q1, q2⟩ := allB_01 (List.mem_filter.1 h).1
  refine ⟨q1, List.all_eq_true.2 fun x hx => ?_⟩
  rcases q2 x hx with rfl | rfl <;> rfl
theorem owL_states {sz : List Int} {L : List I3} {root : Int} (hs : allIn 1 32 sz = true) (hn : sz.length ≤ 16) (hS : Snd (offN sz sz.length : Int) L) (hr : RefB root L.length) (hl : L.length ≤ 2000) :
    (owL sz L root).map (stV sz) = xsN sz L (offN sz sz.length) root [] := by
  rw [owL_filter hs hn hS hr hl, xsN]
  simp
theorem owL_ones {sz : List Int} {L : List I3} {root : Int} (hs : allIn 1 32 sz = true) (hn : sz.length ≤ 16) (hS : Snd (offN sz sz.length : Int) L) (hr : RefB root L.length) (hl : L.length ≤ 2000) :
    onesN (offN sz sz.length : Int) (owN sz L root).1 (owN sz L root).2 = (xsN sz L (offN sz sz.length) root []).length := by
  obtain ⟨h1, h2, _, _⟩ := owN_inv hs hn hS hr hl
  rw [ones_ls h1 h2, ← owL_states hs hn hS hr hl, List.length_map, owL]
/-- what both answer: states, code -/
def sdC (sz st : List Int) (l : List (RM × RuD)) (inp : Int) (L : List I3) (root : Int) : List (List Int) × Int :=
  if modelB sz st l = false then ([], 1) else if diaB inp L root = false then ([], 1) else if inp ≠ (offN sz sz.length : Int) then ([], 2)
  else if (xsN sz L (offN sz sz.length) root []).length ≤ 4000 then (xsN sz L (offN sz sz.length) root [], 0) else ([], 3)
section
variable {sz st : List Int} {l : List (RM × RuD)} {inp : Int} {L : List I3} {root : Int}
theorem sdC_1 (h : modelB sz st l = false) : sdC sz st l inp L root = ([], 1) := if_pos h
theorem sdC_2 (h : modelB sz st l = true) (h2 : diaB inp L root = false) : sdC sz st l inp L root = ([], 1) := by rw [sdC, if_neg (by simp [h]), if_pos h2]
theorem sdC_3 (h : modelB sz st l = true) (h2 : diaB inp L root = true) (h3 : inp ≠ (offN sz sz.length : Int)) : sdC sz st l inp L root = ([], 2) := by rw [sdC, if_neg (by simp [h]), if_neg (by simp [h2]), if_pos h3]
theorem sdC_4 (h : modelB sz st l = true) (h2 : diaB inp L root = true) (h3 : inp = (offN sz sz.length : Int)) (h4 : ¬ (xsN sz L (offN sz sz.length) root []).length ≤ 4000) : sdC sz st l inp L root = ([], 3) := by rw [sdC, if_neg (by simp [h]), if_neg (by simp [h2]), if_neg (by simp [h3]), if_neg h4]
theorem sdC_5 (h : modelB sz st l = true) (h2 : diaB inp L root = true) (h3 : inp = (offN sz sz.length : Int)) (h4 : (xsN sz L (offN sz sz.length) root []).length ≤ 4000) : sdC sz st l inp L root = (xsN sz L (offN sz sz.length) root [], 0) := by rw [sdC, if_neg (by simp [h]), if_neg (by simp [h2]), if_neg (by simp [h3]), if_pos h4]
end
theorem valOf_zeros (k : Nat) : valOf (List.replicate k (0 : Int)) = 0 := by
  have key : ∀ (k : Nat), (List.replicate k (0 : Int)).foldl (fun a b => 2 * a + b) 0 = 0 := by
    intro k
    induction k with
    | zero => rfl
    | succ k ih => rw [List.replicate_succ, List.foldl_cons]; exact ih
  exact key k
/-- all zeros are a state's bits -/
theorem beg_nil {sz : List Int} (hs : allIn 1 32 sz = true) (n : Nat) : begB sz n [] = true := by
  rw [begB, List.nil_append, okB_iff (fun x hx => .inl (List.mem_replicate.1 hx).2)]
  intro j hj
  rw [List.drop_replicate, List.take_replicate, valOf_zeros]
  have h1 : sz.getD j 0 ∈ sz := by rw [List.getD_eq_getElem?_getD, List.getElem?_eq_getElem hj]; exact List.getElem_mem hj
  have h2 := List.all_eq_true.1 hs _ h1
  simp only [inB, Bool.and_eq_true, decide_eq_true_eq] at h2
  omega
theorem on_all {sz : List Int} {L : List I3} {root : Int} (hs : allIn 1 32 sz = true) (hS : Snd (offN sz sz.length : Int) L) (hr : RefB root L.length) :
    (onF sz (offN sz sz.length : Int) L (offN sz sz.length) (offN sz sz.length) root [] []).2 = decide ((xsN sz L (offN sz sz.length) root []).length ≤ 4000) ∧ ((onF sz (offN sz sz.length : Int) L (offN sz sz.length) (offN sz sz.length) root [] []).2 = true → (onF sz (offN sz sz.length : Int) L (offN sz sz.length) (offN sz sz.length) root [] []).1 = xsN sz L (offN sz sz.length) root []) := by
  have h := on_eq (sz := sz) hS.redu.frst hS.ord (offN sz sz.length) root [] [] (by simp) (fun x hx => by cases hx) (beg_nil hs _) hr (lvl_pos hS.ord (by omega) hr) (by simp)
  simpa using h
end Go.Proofs.YtkaikbaagajckaaGreat
