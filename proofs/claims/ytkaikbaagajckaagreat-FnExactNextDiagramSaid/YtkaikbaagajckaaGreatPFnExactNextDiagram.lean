/- For every input the law FnExactNextDiagram answers true and leaves its arguments as they were. -/
import Derived.Test.YtkaikbaagajckaaGreatN02
import Derived.Test.YtkaikbaagajckaaGreatN06
import Derived.Test.YtkaikbaagajckaaGreatXFnExactNextDiagram
namespace Go.Proofs.YtkaikbaagajckaaGreat.fnExactNextDiagramDone
open Go.ChangeShapes Go.WideShapes Go.ChangeAt Go.RowKit Go.Joins
set_option linter.unusedVariables false

set_option maxRecDepth 100000 in
set_option maxHeartbeats 1000000 in
theorem lifted (os : Os) (started : os.Started) (H : Type) (enc : TypeId × Value → H) :
    ReturnsInHanded {} Tryz.checked os 7 .any (Rows.fnExactNextDiagramSpec.pre6 enc Tryz.prog Tryz.f7 Rows.fnExactNextDiagramRow.domain false) (Rows.fnExactNextDiagramSpec.post enc Tryz.prog Tryz.f7 false true false false) := by
  refine returnsInHanded_of_change (C := Tryz.checked) Tryz.own started (by kernel_rfl) Tryz.func7
    (ChangeSpec.witness6 (enc := enc) (C := Tryz.checked) false ⟨#[], #[.agg #[.slice none 0 0, .slice none 0 0, .slice none 0 0], .agg #[.int .i64 0, .slice none 0 0, .int .i64 0]], []⟩ 8 (by kernel_rfl) (by kernel_rfl) (by kernel_rfl) (by kernel_rfl)) ?_
  intro W base args ds gs before hval0 hW hcnd _
  have hval : ∀ (j : Nat) t v, Tryz.f7.params[j]? = some t → args[j]? = some v → Value.okWide Tryz.prog W .any base t v := hval0
  have hW' := hW
  obtain ⟨p, q, hA0, hV, rfl, hfz, hnd⟩ := hW
  have hA : DataW.TrodAll enc Tryz.prog W 0 (fun _ => true) true Tryz.f7.params.toList args.toList ds p := hA0
  rw [Tryz.params7] at hA hval
  obtain ⟨v0, vs0, d0, ds0, p0, q0, hargs, rfl, rfl, h0, r0⟩ := trodAll_cons hA
  obtain ⟨v1, vs1, d1, ds1, p1, q1, rfl, rfl, rfl, h1, r1⟩ := trodAll_cons r0
  obtain ⟨rfl, rfl, rfl⟩ := trodAll_nil r1
  obtain rfl : args = #[v0, v1] := by cases args; simp_all
  obtain ⟨rfl, rfl⟩ := trodVars_none hV
  have k0 := h0
  have lt0 : ∀ x ∈ p0, x.block < W.heap.size := by obtain ⟨m, hm⟩ := k0; exact DataW.trod_lt m _ _ _ hm
  obtain ⟨c0_0, c0_1, c0_2, y0_0, y0_1, y0_2, m0, rfl, e0, g0, hy0_0, hy0_1, hy0_2⟩ := open_agg3 Tryz.underlying25 (by kernel_rfl) (by kernel_rfl) (hval 0 25 v0 rfl rfl) h0
  obtain ⟨a0_0, n0_0, cc0_0, rfl, hs0_0⟩ := slice_part Tryz.underlying22 hy0_0
  obtain ⟨l0_0, w0_0⟩ := open_Ints Tryz.underlying22 Tryz.underlying2 (by kernel_rfl) hs0_0
  have b0_0 : n0_0 ≤ maxLen := by obtain ⟨_, hf⟩ := hs0_0; exact len_le Tryz.underlying22 hf
  obtain ⟨a0_1, n0_1, cc0_1, rfl, hs0_1⟩ := slice_part Tryz.underlying22 hy0_1
  obtain ⟨l0_1, w0_1⟩ := open_Ints Tryz.underlying22 Tryz.underlying2 (by kernel_rfl) hs0_1
  have b0_1 : n0_1 ≤ maxLen := by obtain ⟨_, hf⟩ := hs0_1; exact len_le Tryz.underlying22 hf
  obtain ⟨a0_2, n0_2, cc0_2, rfl, hs0_2⟩ := slice_part Tryz.underlying23 hy0_2
  obtain ⟨l0_2, w0_2⟩ := open_Rules hs0_2
  have b0_2 : n0_2 ≤ maxLen := by obtain ⟨_, hf⟩ := hs0_2; exact len_le Tryz.underlying23 hf
  have k1 := h1
  have lt1 : ∀ x ∈ p1, x.block < W.heap.size := by obtain ⟨m, hm⟩ := k1; exact DataW.trod_lt m _ _ _ hm
  obtain ⟨c1_0, c1_1, c1_2, y1_0, y1_1, y1_2, m1, rfl, e1, g1, hy1_0, hy1_1, hy1_2⟩ := open_agg3 Tryz.underlying28 (by kernel_rfl) (by kernel_rfl) (hval 1 28 v1 rfl rfl) h1
  obtain ⟨x1_0, ex1_0, gx1_0, wx1_0⟩ := DataW.trod_int Tryz.underlying2 hy1_0
  simp at ex1_0; subst ex1_0
  obtain ⟨x1_2, ex1_2, gx1_2, wx1_2⟩ := DataW.trod_int Tryz.underlying2 hy1_2
  simp at ex1_2; subst ex1_2
  obtain ⟨a1, n1, cc1, rfl, hs1⟩ := slice_part Tryz.underlying26 hy1_1
  obtain ⟨l1, w1⟩ := open_Flats (by decide) Tryz.underlying26 (by kernel_rfl) (read_I3 Tryz.underlying152 rfl rfl rfl (by kernel_rfl) (by kernel_rfl) (by kernel_rfl) Tryz.underlying2 Tryz.underlying2 Tryz.underlying2) hs1
  have b1 : n1 ≤ maxLen := by obtain ⟨_, hf⟩ := hs1; exact len_le Tryz.underlying26 hf
  clear hA0 hval0
  refine Calls.mono (law_NextDiagram w0_0 b0_0 w0_1 b0_1 w0_2 b0_2 (I64.of wx1_0) (I64.of wx1_2) w1 b1) fun e W' ⟨he, bel⟩ => ?_
  subst he
  exact ⟨_, rfl, _, _, _, [], _, [], hW', trodAll_mk1 (shut_bool Tryz.underlying4 _), (trodAll_cons_mk (Below.trod Tryz.laidOut (by kernel_rfl) (of_decide_eq_true (by kernel_rfl)) k0 bel lt0) (trodAll_cons_mk (Below.trod Tryz.laidOut (by kernel_rfl) (of_decide_eq_true (by kernel_rfl)) k1 bel lt1) trodAll_mk0)), rfl, bel.frame _, fun h => by cases h⟩

theorem over : Rows.fnExactNextDiagramRow.holds Tryz.pinned (OpenSpec.ofChange Rows.fnExactNextDiagramSpec) :=
  OpenClaim.holds_of_wide 7 Tryz.f7 rfl rfl rfl rfl rfl rfl rfl ⟨rfl, rfl, rfl, rfl, rfl⟩ rfl rfl rfl rfl rfl (by kernel_rfl) Tryz.func7 (by kernel_rfl)
    (of_decide_eq_true (by kernel_rfl)) (by unfold Func.isWrapper; first | (rw [if_pos (by decide +kernel)]; kernel_rfl) | (rw [if_neg (by decide +kernel)]; exact ⟨rfl, rfl⟩))
    (fun os started H enc _ => lifted os started H enc)

theorem proved : Rows.FnExactNextDiagramSaid := over
end Go.Proofs.YtkaikbaagajckaaGreat.fnExactNextDiagramDone
