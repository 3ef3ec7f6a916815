/- Bits of states: there and back. Plain laws. -/
import Derived.Test.YtcnjnkjnpfpaeaaMo
namespace Go.Proofs.Ytcnjnkjnpfpaeaa
open Go.RowKit
set_option linter.unusedVariables false
set_option linter.unusedSimpArgs false
def bits01 (s : List Int) : Prop := ∀ x ∈ s, x = 0 ∨ x = 1
theorem dn_val {x : Int} {k : Nat} (h0 : 0 ≤ x) (h1 : x < 2 ^ k) (hk : k ≤ 5) : valOf (bitsDn x k) = x := by
  have h : ∀ k : Fin 6, ∀ a : Fin 32, a.val < 2 ^ k.val → valOf (bitsDn (a.val : Int) k.val) = (a.val : Int) := by decide +kernel
  have h2 : (2 : Int) ^ k ≤ 32 := by
    rcases (show k = 0 ∨ k = 1 ∨ k = 2 ∨ k = 3 ∨ k = 4 ∨ k = 5 by omega) with rfl | rfl | rfl | rfl | rfl | rfl <;> decide
  have h3 := h ⟨k, by omega⟩ ⟨x.toNat, by omega⟩ (by
    simp only
    have e : ((2 ^ k : Nat) : Int) = 2 ^ k := by rw [Int.natCast_pow]; rfl
    omega)
  simp only at h3
  rw [Int.toNat_of_nonneg h0] at h3
  exact h3
/-- a size leaves room for its values -/
theorem wN_room {z : Int} (h1 : 1 ≤ z) (h2 : z ≤ 32) : z ≤ 2 ^ (wN z).toNat ∧ (wN z).toNat ≤ 5 := by
  rcases wN_cases h1 h2 with ⟨h, e⟩ | ⟨h, e⟩ | ⟨h, h', e⟩ | ⟨h, h', e⟩ | ⟨h, h', e⟩ | ⟨h, h', e⟩ <;> rw [e] <;> refine ⟨?_, by decide⟩
  · rw [h]; decide
  · rw [h]; decide
  · exact Int.le_trans h' (by decide)
  · exact Int.le_trans h' (by decide)
  · exact Int.le_trans h' (by decide)
  · exact Int.le_trans h' (by decide)
/-- values that are a state, said place by place -/
def StV : List Int → List Int → Prop
  | [], [] => True
  | z :: sz, v :: vs => 1 ≤ z ∧ z ≤ 32 ∧ 0 ≤ v ∧ v < z ∧ StV sz vs
  | _, _ => False
theorem stv_of : ∀ {sz v : List Int}, allIn 1 32 sz = true → stateB sz v = true → StV sz v
  | [], [], _, _ => trivial
  | [], y :: v, _, h => by have := stateB_len h; simp at this
  | z :: sz, [], _, h => by have := stateB_len h; simp at this
  | z :: sz, y :: v, hs, h => by
    have hl := stateB_len h
    have h1 := allIn_at hs (k := 0) (z := z) rfl
    have h2 := stateB_at h (k := 0) (x := y) (z := z) rfl rfl
    refine ⟨h1.1, h1.2, h2.1, by omega, stv_of ?_ ?_⟩
    · rw [allIn, List.all_cons, Bool.and_eq_true] at hs; exact hs.2
    · rw [stateB_eq (by simpa using hl), upB, List.all_eq_true]
      intro k hk
      obtain ⟨x, hx⟩ : ∃ x, v[k]? = some x := ⟨_, List.getElem?_eq_getElem (List.mem_range.1 hk)⟩
      obtain ⟨z', hz⟩ : ∃ z', sz[k]? = some z' := ⟨_, List.getElem?_eq_getElem (by have := List.mem_range.1 hk; simp at hl; omega)⟩
      rw [getD_of hx, hasB_yes hz]
      have := stateB_at h (k := k + 1) (x := x) (z := z') (by simpa using hx) (by simpa using hz)
      simp only [inB, Bool.and_eq_true, decide_eq_true_eq]; omega
theorem stb_cons (z y : Int) (sz v : List Int) : stBits (z :: sz) (y :: v) = bitsDn y (wN z).toNat ++ stBits sz v := by
  rw [stBits, List.zip_cons_cons, List.flatMap_cons]; rfl
theorem offN_cons (z : Int) (sz : List Int) (k : Nat) : offN (z :: sz) (k + 1) = (wN z).toNat + offN sz k := by
  rw [offN, List.take_succ_cons, List.map_cons, List.sum_cons]; rfl
theorem stb_len : ∀ {sz v : List Int}, StV sz v → (stBits sz v).length = offN sz sz.length
  | [], [], _ => rfl
  | [], _ :: _, h => by cases h
  | _ :: _, [], h => by cases h
  | z :: sz, y :: v, h => by
    obtain ⟨_, _, _, _, h⟩ := h
    rw [stb_cons, List.length_append, bitsDn_len, stb_len h, List.length_cons, offN_cons]
theorem stb_01 : ∀ {sz v : List Int}, StV sz v → bits01 (stBits sz v)
  | [], [], _ => fun x hx => by cases hx
  | [], _ :: _, h => by cases h
  | _ :: _, [], h => by cases h
  | z :: sz, y :: v, h => by
    obtain ⟨h1, h2, h3, h4, h⟩ := h
    rw [stb_cons]
    intro x hx
    rcases List.mem_append.1 hx with hx | hx
    · obtain ⟨i, hi, rfl⟩ := List.mem_map.1 hx
      have := (wN_room h1 h2).2
      exact bitAt_in h3 (by omega) (by have := List.mem_range.1 hi; omega)
    · exact stb_01 h x hx
theorem stv_cons (z : Int) (sz b t : List Int) (hb : b.length = (wN z).toNat) : stV (z :: sz) (b ++ t) = valOf b :: stV sz t := by
  rw [stV, List.length_cons, List.range_succ_eq_map, List.map_cons, List.map_map]
  congr 1
  · show valOf (((b ++ t).drop (offN (z :: sz) 0)).take (wN z).toNat) = valOf b
    rw [show offN (z :: sz) 0 = 0 from rfl, List.drop_zero, ← hb, List.take_left]
  · rw [stV]
    apply List.map_congr_left
    intro k _
    show valOf (((b ++ t).drop (offN (z :: sz) (k + 1))).take (wN (sz.getD k 0)).toNat) = _
    rw [offN_cons, ← hb, ← List.drop_drop, List.drop_left]
theorem stv_stb : ∀ {sz v : List Int}, StV sz v → stV sz (stBits sz v) = v
  | [], [], _ => rfl
  | [], _ :: _, h => by cases h
  | _ :: _, [], h => by cases h
  | z :: sz, y :: v, h => by
    obtain ⟨h1, h2, h3, h4, h⟩ := h
    obtain ⟨r1, r2⟩ := wN_room h1 h2
    rw [stb_cons, stv_cons _ _ _ _ (bitsDn_len _ _), stv_stb h, dn_val h3 (by omega) r2]
theorem of_01 : ∀ {k : Nat} {b : List Int}, b.length = k → k ≤ 5 → bits01 b → bitsDn (valOf b) k = b := by
  have c : ∀ {x : Int} {t : List Int}, bits01 (x :: t) → (x = 0 ∨ x = 1) ∧ bits01 t := fun h => ⟨h _ (List.mem_cons_self ..), fun y hy => h y (List.mem_cons_of_mem _ hy)⟩
  intro k b hb hk h
  match b, h with
  | [], h => subst hb; rfl
  | [x], h =>
    subst hb; obtain ⟨h1, h⟩ := c h
    rcases h1 with rfl | rfl <;> decide +kernel
  | [x, y], h =>
    subst hb; obtain ⟨h1, h⟩ := c h; obtain ⟨h2, h⟩ := c h
    rcases h1 with rfl | rfl <;> rcases h2 with rfl | rfl <;> decide +kernel
  | [x, y, z], h =>
    subst hb; obtain ⟨h1, h⟩ := c h; obtain ⟨h2, h⟩ := c h; obtain ⟨h3, h⟩ := c h
    rcases h1 with rfl | rfl <;> rcases h2 with rfl | rfl <;> rcases h3 with rfl | rfl <;> decide +kernel
  | [x, y, z, u], h =>
    subst hb; obtain ⟨h1, h⟩ := c h; obtain ⟨h2, h⟩ := c h; obtain ⟨h3, h⟩ := c h; obtain ⟨h4, h⟩ := c h
    rcases h1 with rfl | rfl <;> rcases h2 with rfl | rfl <;> rcases h3 with rfl | rfl <;> rcases h4 with rfl | rfl <;> decide +kernel
  | [x, y, z, u, v], h =>
    subst hb; obtain ⟨h1, h⟩ := c h; obtain ⟨h2, h⟩ := c h; obtain ⟨h3, h⟩ := c h; obtain ⟨h4, h⟩ := c h; obtain ⟨h5, h⟩ := c h
    rcases h1 with rfl | rfl <;> rcases h2 with rfl | rfl <;> rcases h3 with rfl | rfl <;> rcases h4 with rfl | rfl <;> rcases h5 with rfl | rfl <;> decide +kernel
  | x :: y :: z :: u :: v :: t :: r, h => simp at hb; omega
theorem stb_stv : ∀ {sz b : List Int}, allIn 1 32 sz = true → bits01 b → b.length = offN sz sz.length → stBits sz (stV sz b) = b
  | [], b, _, _, hl => by
    have : b = [] := by rw [offN] at hl; simpa using hl
    subst this; rfl
  | z :: sz, b, hs, h, hl => by
    rw [allIn, List.all_cons, Bool.and_eq_true] at hs
    have hz := hs.1
    simp [inB] at hz
    obtain ⟨r1, r2⟩ := wN_room hz.1 hz.2
    rw [List.length_cons, offN_cons] at hl
    have e : b = b.take (wN z).toNat ++ b.drop (wN z).toNat := (List.take_append_drop _ _).symm
    have l1 : (b.take (wN z).toNat).length = (wN z).toNat := by rw [List.length_take]; omega
    have k1 : bits01 (b.take (wN z).toNat) := fun x hx => h x (List.mem_of_mem_take hx)
    have k2 : bits01 (b.drop (wN z).toNat) := fun x hx => h x (List.mem_of_mem_drop hx)
    have ih := stb_stv (sz := sz) (b := b.drop (wN z).toNat) (by rw [allIn]; exact hs.2) k2 (by rw [List.length_drop]; omega)
    generalize b.take (wN z).toNat = b1 at *
    generalize b.drop (wN z).toNat = b2 at *
    subst e
    rw [stv_cons _ _ _ _ l1, stb_cons, of_01 l1 r2 k1, ih]
theorem so_bs {sz st bs : List Int} {l : List (RM × RuD)} (h : soC sz st l bs = 0) : bsC sz st l (soL sz st l bs) = 0 ∧ bsL sz st l (soL sz st l bs) = bs := by
  have hL : soL sz st l bs = stV sz bs := by rw [soL, if_pos h]
  rw [hL]
  cases hm : modelB sz st l with
  | false => rw [(soC_1 hm).1] at h; cases h
  | true =>
    cases ha : areB bs (sz.map wN).sum with
    | false => rw [(soC_2 hm ha).1] at h; cases h
    | true =>
      cases hq : smB sz with
      | false => rw [(soC_3 hm ha hq).1] at h; cases h
      | true =>
        cases hs : stateB sz (stV sz bs) with
        | false => rw [(soC_4 hm ha hq hs).1] at h; cases h
        | true =>
          have hall := modelB_all hm
          obtain ⟨h1, h2⟩ := areB_parts ha hall
          have hc : bsC sz st l (stV sz bs) = 0 := by rw [bsC, if_neg (by simp [hm]), if_neg (by simp [hs]), if_neg (by simp [hq])]
          refine ⟨hc, ?_⟩
          rw [bsL, if_pos hc]
          refine stb_stv hall (fun x hx => ?_) h2
          rw [allIn, List.all_eq_true] at h1
          have := h1 x hx
          simp [inB] at this; omega
theorem bs_so {sz st vs : List Int} {l : List (RM × RuD)} (h : bsC sz st l vs = 0) : soC sz st l (bsL sz st l vs) = 0 ∧ soL sz st l (bsL sz st l vs) = vs ∧ bmC sz st l = 0 ∧ (bmL sz st l).sum = ((bsL sz st l vs).length : Int) := by
  have hL : bsL sz st l vs = stBits sz vs := by rw [bsL, if_pos h]
  rw [hL]
  cases hm : modelB sz st l with
  | false => rw [bsC, if_pos hm] at h; cases h
  | true =>
    cases hs : stateB sz vs with
    | false => rw [bsC, if_neg (by simp [hm]), if_pos hs] at h; cases h
    | true =>
      cases hq : smB sz with
      | false => rw [bsC, if_neg (by simp [hm]), if_neg (by simp [hs]), if_pos hq] at h; cases h
      | true =>
        have hall := modelB_all hm
        have hv := stv_of hall hs
        have hlen := stb_len hv
        have hof := offN_full hall
        have h01 := stb_01 hv
        have hback := stv_stb hv
        have ha : areB (stBits sz vs) (sz.map wN).sum = true := by
          rw [areB, Bool.and_eq_true]
          refine ⟨decide_eq_true (by rw [hlen]; exact hof), ?_⟩
          rw [allIn, List.all_eq_true]
          intro x hx
          have := h01 x hx
          simp only [inB, Bool.and_eq_true, decide_eq_true_eq]; omega
        obtain ⟨q1, q2⟩ := soC_0 (st := st) (l := l) hm ha hq (by rw [hback]; exact hs)
        refine ⟨q1, by rw [q2, hback], by rw [bmC, if_pos hm], ?_⟩
        rw [bmL, if_pos hm, ← hof, hlen]
end Go.Proofs.Ytcnjnkjnpfpaeaa
