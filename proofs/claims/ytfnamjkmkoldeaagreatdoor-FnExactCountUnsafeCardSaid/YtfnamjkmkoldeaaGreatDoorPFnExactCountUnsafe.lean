/- For every input the law FnExactCountUnsafe answers true and leaves its arguments as they were; the listed package-level variables hold what the program's text lays. -/
import Derived.Test.YtfnamjkmkoldeaaGreatDoorCards
import Derived.Test.YtfnamjkmkoldeaaGreatDoorTie
import Derived.Test.YtfnamjkmkoldeaaGreatDoorQr
import Derived.Test.YtfnamjkmkoldeaaGreatDoorQj
import Derived.Test.YtfnamjkmkoldeaaGreatDoorXFnExactCountUnsafe
import Derived.Deep.DeepHandedRow
import Derived.OpenVars
namespace Go.Proofs.YtfnamjkmkoldeaaGreatDoor.fnExactCountUnsafeDone
open Go.ChangeShapes Go.WideShapes Go.ChangeAt Go.RowKit Go.Joins
set_option linter.unusedVariables false

set_option maxRecDepth 100000 in
set_option maxHeartbeats 1000000 in
theorem contract (H : Type) (enc : TypeId × Value → H) (W : World) (base : Nat) (args : Array Value) (ds gs : List (DataW H)) (before : List MemPlace)
    (hval0 : ∀ (j : Nat) t v, Tryz.f3.params[j]? = some t → args[j]? = some v → Value.okWide Tryz.prog W .any base t v)
    (hW : DataW.Whole enc Tryz.prog Tryz.f3.params.toList Rows.fnExactCountUnsafeSpec.vars false W args.toList ds gs before) (hL : laidMetH Tryz.prog Rows.fnExactCountUnsafeRow.laid W) :
    Calls Tryz.prog 3 args W fun e W' => ∃ v, e = .returned v ∧ Rows.fnExactCountUnsafeSpec.post enc Tryz.prog Tryz.f3 false true false false W args v W' := by
  have hval : ∀ (j : Nat) t v, Tryz.f3.params[j]? = some t → args[j]? = some v → Value.okWide Tryz.prog W .any base t v := hval0
  have hW' := hW
  obtain ⟨p, q, hA0, hV, rfl, hfz, hnd⟩ := hW
  have hA : DataW.TrodAll enc Tryz.prog W 0 (fun _ => true) true Tryz.f3.params.toList args.toList ds p := hA0
  rw [Tryz.params3] at hA hval
  obtain ⟨v0, vs0, d0, ds0, p0, q0, hargs, rfl, rfl, h0, r0⟩ := trodAll_cons hA
  obtain ⟨v1, vs1, d1, ds1, p1, q1, rfl, rfl, rfl, h1, r1⟩ := trodAll_cons r0
  obtain ⟨v2, vs2, d2, ds2, p2, q2, rfl, rfl, rfl, h2, r2⟩ := trodAll_cons r1
  obtain ⟨rfl, rfl, rfl⟩ := trodAll_nil r2
  obtain rfl : args = #[v0, v1, v2] := by cases args; simp_all
  obtain ⟨gd0, rfl⟩ : ∃ gd0, gs = [gd0] := by
    match gs, trodVars_len hV with
    | [gd0], _ => exact ⟨gd0, rfl⟩
  have k0 := h0
  have lt0 : ∀ x ∈ p0, x.block < W.heap.size := by obtain ⟨m, hm⟩ := k0; exact DataW.trod_lt m _ _ _ hm
  obtain ⟨c0_0, c0_1, y0_0, y0_1, m0, rfl, e0, g0, hy0_0, hy0_1⟩ := open_agg2 Tryz.underlying24 (by kernel_rfl) (by kernel_rfl) (hval 0 24 v0 rfl rfl) h0
  obtain ⟨x0_0, ex0_0, gx0_0, wx0_0⟩ := DataW.trod_int Tryz.underlying2 hy0_0
  simp at ex0_0; subst ex0_0
  obtain ⟨a0, n0, c0, rfl, hs0⟩ := slice_part Tryz.underlying22 hy0_1
  obtain ⟨l0, w0⟩ := open_Ints Tryz.underlying22 Tryz.underlying2 (by kernel_rfl) hs0
  have b0 : n0 ≤ maxLen := by obtain ⟨_, hf⟩ := hs0; exact len_le Tryz.underlying22 hf
  have k1 := h1
  have lt1 : ∀ x ∈ p1, x.block < W.heap.size := by obtain ⟨m, hm⟩ := k1; exact DataW.trod_lt m _ _ _ hm
  obtain ⟨a1, rfl, e1, g1, w1⟩ := open_int Tryz.underlying2 (hval 1 2 v1 rfl rfl) h1
  have k2 := h2
  have lt2 : ∀ x ∈ p2, x.block < W.heap.size := by obtain ⟨m, hm⟩ := k2; exact DataW.trod_lt m _ _ _ hm
  obtain ⟨a2, rfl, e2, g2⟩ := open_bool Tryz.underlying4 (hval 2 4 v2 rfl rfl) h2
  clear hA0 hval0
  refine Calls.mono (law_CountUnsafe (tab_ruleNames hL (by simp [Rows.fnExactCountUnsafeRow])) (I64.of wx0_0) w0 b0 (I64.of w1)) fun e W' ⟨he, bel⟩ => ?_
  subst he
  exact ⟨_, rfl, _, _, _, [], _, _, hW', trodAll_mk1 (shut_bool Tryz.underlying4 _), (trodAll_cons_mk (Below.trod Tryz.laidOut (by kernel_rfl) (of_decide_eq_true (by kernel_rfl)) k0 bel lt0) (trodAll_cons_mk (Below.trod Tryz.laidOut (by kernel_rfl) (of_decide_eq_true (by kernel_rfl)) k1 bel lt1) (trodAll_cons_mk (Below.trod Tryz.laidOut (by kernel_rfl) (of_decide_eq_true (by kernel_rfl)) k2 bel lt2) trodAll_mk0))), Below.trodVars Tryz.laidOut bel (by kernel_rfl) hV, bel.frame _, fun h => by cases h⟩

def datCells {H : Type} : DataW H → List Value
  | .agg l => l.map fun d => match d with
    | .lit (.int k v) => .int k v
    | .lit (.string s) => .string ⟨s.toArray⟩
    | .lit (.bool b) => .bool b
    | _ => .bool false
  | _ => []
/-- a world in which the listed variables hold what their initialisers lay -/
noncomputable def laidWorld (os : Os) : World :=
  { World.holding Tryz.prog os ⟨#[], #[], []⟩ with heap := (((((World.holding Tryz.prog os ⟨#[], #[], []⟩).heap.modify 3 (lay (datCells (H := Unit) Rows.laid_math_bits_deBruijn32tab))).modify 4 (lay (datCells (H := Unit) Rows.laid_math_bits_deBruijn64tab))).modify 1 (lay (datCells (H := Unit) Rows.laid_internal_strconv_uint64pow10))).modify 0 (lay (strsCells ruleNm))) }
set_option maxRecDepth 100000 in
theorem laid_met (os : Os) : laidMet Tryz.prog Rows.fnExactCountUnsafeRow.laid ((laidWorld os).forCall (fun _ _ => 0) ⟨#[], #[.agg #[.int .i64 0, .slice none 0 0], .int .i64 0, .bool false], []⟩).memory :=
  laidMet_of_run' 8 (by kernel_rfl) (by kernel_rfl)
set_option maxRecDepth 100000 in
theorem reads (os : Os) {H : Type} (enc : TypeId × Value → H) : ∃ places, DataW.whole enc Tryz.prog ((laidWorld os).forCall (fun _ _ => 0) ⟨#[], #[.agg #[.int .i64 0, .slice none 0 0], .int .i64 0, .bool false], []⟩).memory Tryz.f3.params.toList Rows.fnExactCountUnsafeSpec.vars false (#[.agg #[.int .i64 0, .slice none 0 0], .int .i64 0, .bool false] : Array Value).toList 8 = some ([.agg [.lit (.int .i64 0), .nil], .lit (.int .i64 0), .lit (.bool false)], [Rows.laid_loop_example_g00916_impl_ruleNames], places) :=
  ⟨(MemPlace.row ⟨0, 0, none⟩ 7 ++ [] ++ []), by kernel_rfl⟩

set_option maxRecDepth 100000 in
theorem lifted (os : Os) (started : os.Started) (H : Type) (enc : TypeId × Value → H) (F : Stop.Interp) :
    ReturnsInHanded {} Tryz.checked os 3 .any ((OpenSpec.ofChange Rows.fnExactCountUnsafeSpec).preRow enc Tryz.prog Tryz.f3 Rows.fnExactCountUnsafeRow.domain false Rows.fnExactCountUnsafeRow.laid) (((OpenSpec.ofChange Rows.fnExactCountUnsafeSpec).at F).post enc Tryz.prog Tryz.f3 false true false false) := by
  obtain ⟨places, hx⟩ := reads os enc
  refine returnsInHanded_of_row (C := Tryz.checked) (s := OpenSpec.ofChange Rows.fnExactCountUnsafeSpec) Tryz.own started (by kernel_rfl) Tryz.func3
    (witness_row_at (enc := enc) (C := Tryz.checked) false (laidWorld os) #[.agg #[.int .i64 0, .slice none 0 0], .int .i64 0, .bool false] rfl (by kernel_rfl) (by kernel_rfl) (by kernel_rfl)
      (OpenSpec.preRow_of_cond 8 hx (by kernel_rfl) (fun k hk => by cases hk) (by kernel_rfl) (laid_met os))) ?_
  intro W base args ds gs before hval hW _ _ _ hL _ _
  exact contract H enc W base args ds gs before hval hW hL

set_option maxRecDepth 100000 in
theorem joined_mayEnter : Tryz.pinned.checked.prog.mayEnter = true := by kernel_rfl
set_option maxRecDepth 100000 in
theorem joined : joinedFacts Tryz.pinned.checked.prog 3 Tryz.f3 (OpenSpec.ofChange Rows.fnExactCountUnsafeSpec).bare Rows.fnExactCountUnsafeRow = true := by
  unfold joinedFacts
  rw [joined_mayEnter]
  kernel_rfl

set_option maxRecDepth 100000 in
theorem said : Rows.FnExactCountUnsafeSaid :=
  OpenClaim.holds_of_cond 3 Tryz.f3 rfl rfl rfl rfl rfl rfl rfl ⟨rfl, rfl, rfl, rfl, rfl⟩ rfl rfl rfl rfl rfl (by kernel_rfl) Tryz.func3 joined
    (of_decide_eq_true (by kernel_rfl)) (by unfold Func.isWrapper; first | (rw [if_pos (by decide +kernel)]; kernel_rfl) | (rw [if_neg (by decide +kernel)]; exact ⟨rfl, rfl⟩))
    (fun os started H enc _ F => by rw [OpenClaim.pre_eq_preRow]; exact lifted os started H enc F)

set_option maxRecDepth 100000 in
theorem plain (f : FuncId) (fn : Func) (hf : Tryz.pinned.checked.prog.funcNamed "loop.example/g00916/laws.FnExactCountUnsafe" = some f) (hfn : Tryz.pinned.checked.prog.funcs[f]? = some fn) :
    false = Tryz.pinned.checked.prog.looks [] ∧ ∀ (j : Nat) t, fn.params[j]? = some t → Tryz.pinned.checked.prog.wantsStandIn t = false := by
  obtain rfl : f = 3 := Option.some.inj ((show Tryz.prog.funcNamed "loop.example/g00916/laws.FnExactCountUnsafe" = some 3 by kernel_rfl).symm.trans hf) |>.symm
  obtain rfl : fn = Tryz.f3 := (Option.some.inj (Tryz.func3.symm.trans hfn)).symm
  refine ⟨by kernel_rfl, fun j t ht => ?_⟩
  rw [Tryz.params3] at ht
  have hm := Array.mem_of_getElem? ht
  simp only [List.mem_toArray, List.mem_cons, List.not_mem_nil, or_false] at hm
  rcases hm with rfl | rfl | rfl
  all_goals first | exact (show Tryz.prog.wantsStandIn 24 = false by kernel_rfl) | exact (show Tryz.prog.wantsStandIn 2 = false by kernel_rfl) | exact (show Tryz.prog.wantsStandIn 4 = false by kernel_rfl)

set_option maxRecDepth 100000 in
theorem proved : Rows.FnExactCountUnsafeCardSaid :=
  Claim7.holds_tied_plain_at .later [] _ _ _ _ said (fun _ h => by cases h) (by kernel_rfl) (fun _ h => by cases h) fnExactCountUnsafe_row_tie rfl ⟨rfl, rfl⟩ (by kernel_rfl) rfl plain (by kernel_rfl)
end Go.Proofs.YtfnamjkmkoldeaaGreatDoor.fnExactCountUnsafeDone
