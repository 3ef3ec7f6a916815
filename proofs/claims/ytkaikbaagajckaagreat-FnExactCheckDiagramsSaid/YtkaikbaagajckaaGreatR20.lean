/- What a valid model gives: plain laws.; Decision diagrams: bounds of counts, the first list of bits with the value 1, the diagram of an input: plain laws.; The states of a diagram: plain laws.; Bits of states: there and back, in order. Plain laws.; The diagram of the reachable states: the reference, walked. -/
import Derived.Test.YtkaikbaagajckaaGreatR07
import Derived.Test.YtkaikbaagajckaaGreatR15
import Derived.Test.YtkaikbaagajckaaGreatR16
import Derived.Test.YtkaikbaagajckaaGreatR10
import Derived.Test.YtkaikbaagajckaaGreatR17
import Derived.Test.YtkaikbaagajckaaGreatR08
import Derived.Test.YtkaikbaagajckaaGreatR19
namespace Go.Proofs.YtkaikbaagajckaaGreat
open Go.RowKit
set_option linter.unusedVariables false
set_option linter.unusedSimpArgs false
theorem sv_of_stateB {sz v : List Int} (h : stateB sz v = true) : SV sz v := by
  by_cases hl : v.length = sz.length
  · rw [stateB_eq hl, upB, List.all_eq_true] at h
    refine ⟨hl, fun k x z hx hz => ?_⟩
    have h1 := h k (List.mem_range.2 (List.getElem?_eq_some_iff.1 hx).1)
    rw [getD_of hx] at h1
    rw [hasB_yes (x := x) hz, inB, Bool.and_eq_true, decide_eq_true_eq, decide_eq_true_eq] at h1
    omega
  · rw [stateB_ne hl] at h; cases h
/-- what the search needs of a valid rule -/
theorem ruV_of {sz : List Int} {r : RuD} (h : ruleB sz r = true) : RuV sz r := by
  simp only [ruleB, Bool.and_eq_true, testsB, decide_eq_true_eq, List.all_eq_true] at h
  obtain ⟨he, _, ⟨_, hg⟩, _⟩ := h
  have hh : ∀ {v x : Int}, hasB sz v x = true → 0 ≤ v ∧ v < sz.length ∧ ∀ z, sz[v.toNat]? = some z → 0 ≤ x ∧ x < z := fun {v x} h => by
    simp only [hasB, inB, Bool.and_eq_true, decide_eq_true_eq] at h
    refine ⟨by omega, by omega, fun z hz => ?_⟩
    rw [List.getD_eq_getElem?_getD, hz] at h
    simp at h; omega
  refine ⟨fun t ht => ⟨(hh (hg t ht)).1, (hh (hg t ht)).2.1⟩, fun a ha => ?_⟩
  obtain ⟨k, hk⟩ := List.getElem?_of_mem ha
  rw [effB, upB, List.all_eq_true] at he
  have h1 := he k (List.mem_range.2 (List.getElem?_eq_some_iff.1 hk).1)
  rw [effAt, Bool.and_eq_true, getD2_of hk] at h1
  exact hh h1.1
/-- what a valid model gives its search -/
theorem model_gives {sz st : List Int} {l : List (RM × RuD)} (h : modelB sz st l = true) : (∀ z ∈ sz, z ≤ 256) ∧ SV sz st ∧ (∀ r ∈ l.map (·.2), RuV sz r) ∧ sz.length ≤ 16 ∧ l.length ≤ 200 ∧ allIn 1 32 sz = true := by
  simp only [modelB, Bool.and_eq_true, decide_eq_true_eq] at h
  obtain ⟨h1, h2, h3, h4, h5⟩ := h
  refine ⟨fun z hz => ?_, sv_of_stateB h3, fun r hr => ?_, ?_, h4, h2⟩
  · rw [allIn, List.all_eq_true] at h2
    have := h2 z hz
    simp only [inB, Bool.and_eq_true, decide_eq_true_eq] at this
    omega
  · obtain ⟨x, hx, rfl⟩ := List.mem_map.1 hr
    rw [rulesB, List.all_eq_true] at h5
    exact ruV_of (h5 x hx)
  · simp only [inB, Bool.and_eq_true, decide_eq_true_eq] at h1
    omega
/-! ### values along bits -/
theorem bit_at {bits : List Int} {i : Nat} {v : Int} (h : bits[i]? = some v) : bitF 0 bits i = (v == 1) := by
  rw [bitF, Nat.sub_zero, List.getD_eq_getElem?_getD, h]; simp
/-! ### the first list -/
/-! ### the diagram of an input -/
def bits01 (s : List Int) : Prop := ∀ x ∈ s, x = 0 ∨ x = 1
theorem allB_01 {k : Nat} {s : List Int} (h : s ∈ allB k) : s.length = k ∧ bits01 s := allB_mem.1 h
theorem vb_val {s : List Int} (hs : bits01 s) : ∀ (k i : Nat) (v : Int), i + k ≤ s.length → vbN (bitF 0 s) k i v = ((s.drop i).take k).foldl (fun a b => 2 * a + b) v := by
  intro k
  induction k with
  | zero => intro i v _; rw [vbN, List.take_zero]; rfl
  | succ k ih =>
    intro i v h
    have hi : i < s.length := by omega
    rw [vbN, List.drop_eq_getElem_cons hi, List.take_succ_cons, List.foldl_cons, ih (i + 1) _ (by omega)]
    congr 1
    have hb : bitF 0 s i = (s[i] == 1) := bit_at (List.getElem?_eq_getElem hi)
    rw [hb]
    rcases hs s[i] (List.getElem_mem hi) with e | e
    · rw [e]; rfl
    · rw [e]; rfl
/-- a list of bits that stands for a state -/
def okB (sz s : List Int) : Bool := stateB sz (stV sz s)
theorem stV_len (sz s : List Int) : (stV sz s).length = sz.length := by simp [stV]
theorem stV_getD {sz s : List Int} {k : Nat} (hk : k < sz.length) : (stV sz s).getD k 0 = valOf ((s.drop (offN sz k)).take (wN (sz.getD k 0)).toNat) := by
  rw [List.getD_eq_getElem?_getD, stV, range_get hk]; rfl
theorem valOf_nn {l : List Int} (h : bits01 l) : 0 ≤ valOf l := by
  have key : ∀ (l : List Int) (v : Int), bits01 l → 0 ≤ v → 0 ≤ l.foldl (fun a b => 2 * a + b) v := by
    intro l
    induction l with
    | nil => intro v _ hv; exact hv
    | cons x r ih =>
      intro v hl hv
      rw [List.foldl_cons]
      have hx := hl x (List.mem_cons_self ..)
      exact ih _ (fun y hy => hl y (List.mem_cons_of_mem _ hy)) (by omega)
  exact key l 0 h (Int.le_refl _)
theorem bits01_part {s : List Int} (h : bits01 s) (a b : Nat) : bits01 ((s.drop a).take b) := fun x hx => h x (List.mem_of_mem_drop (List.mem_of_mem_take hx))
theorem okB_iff {sz s : List Int} (hs : bits01 s) : okB sz s = true ↔ ∀ j, j < sz.length → valOf ((s.drop (offN sz j)).take (wN (sz.getD j 0)).toNat) < sz.getD j 0 := by
  rw [okB, stateB_eq (stV_len sz s), upB, List.all_eq_true, stV_len]
  constructor
  · intro h j hj
    have h1 := h j (List.mem_range.2 hj)
    have hz : sz[j]? = some (sz.getD j 0) := by rw [List.getD_eq_getElem?_getD, List.getElem?_eq_getElem hj]; rfl
    rw [hasB_yes hz, stV_getD hj] at h1
    simp only [inB, Bool.and_eq_true, decide_eq_true_eq] at h1
    omega
  · intro h j hj
    have hj := List.mem_range.1 hj
    have hz : sz[j]? = some (sz.getD j 0) := by rw [List.getD_eq_getElem?_getD, List.getElem?_eq_getElem hj]; rfl
    rw [hasB_yes hz, stV_getD hj]
    have h1 := h j hj
    have h2 := valOf_nn (bits01_part hs (offN sz j) (wN (sz.getD j 0)).toNat)
    simp only [inB, Bool.and_eq_true, decide_eq_true_eq]
    omega
/-- smaller bits, smaller values -/
theorem val_mono : ∀ {l l' : List Int} {v v' : Int}, l.length = l'.length → (∀ i : Nat, l.getD i 0 ≤ l'.getD i 0) → v ≤ v' → l.foldl (fun a b => 2 * a + b) v ≤ l'.foldl (fun a b => 2 * a + b) v'
  | [], [], v, v', _, _, h => h
  | [], y :: r', v, v', hl, _, h => by simp at hl
  | x :: r, [], v, v', hl, _, h => by simp at hl
  | x :: r, y :: r', v, v', hl, hp, h => by
    rw [List.foldl_cons, List.foldl_cons]
    refine val_mono (by simpa using hl) (fun i => by simpa using hp (i + 1)) ?_
    have h0 := hp 0
    simp at h0
    omega
theorem part_le {s t : List Int} (h : ∀ i : Nat, s.getD i 0 ≤ t.getD i 0) (a b i : Nat) : ((s.drop a).take b).getD i 0 ≤ ((t.drop a).take b).getD i 0 := by
  rw [List.getD_eq_getElem?_getD, List.getD_eq_getElem?_getD, List.getElem?_take, List.getElem?_take]
  split
  · rw [List.getElem?_drop, List.getElem?_drop]
    have := h (a + i)
    rw [List.getD_eq_getElem?_getD, List.getD_eq_getElem?_getD] at this
    exact this
  · exact Int.le_refl _
theorem okB_down {sz s t : List Int} (hs : bits01 s) (ht : bits01 t) (hl : s.length = t.length) (h : ∀ i : Nat, s.getD i 0 ≤ t.getD i 0) (hok : okB sz t = true) : okB sz s = true := by
  rw [okB_iff hs]
  rw [okB_iff ht] at hok
  intro j hj
  refine Int.lt_of_le_of_lt ?_ (hok j hj)
  exact val_mono (by simp [hl]) (part_le h _ _) (Int.le_refl _)
/-- is there a state whose bits begin so: the rest are zeros -/
def begB (sz : List Int) (N : Nat) (c : List Int) : Bool := okB sz (c ++ List.replicate (N - c.length) 0)
theorem beg_no {sz c t : List Int} {N : Nat} (hc : bits01 c) (ht : bits01 t) (hl : c.length + t.length = N) (h : begB sz N c = false) : okB sz (c ++ t) = false := by
  cases hok : okB sz (c ++ t) with
  | false => rfl
  | true =>
    have hz : bits01 (c ++ List.replicate (N - c.length) 0) := fun x hx => by
      rcases List.mem_append.1 hx with hx | hx
      · exact hc x hx
      · exact .inl (List.mem_replicate.1 hx).2
    have hct : bits01 (c ++ t) := fun x hx => by
      rcases List.mem_append.1 hx with hx | hx
      · exact hc x hx
      · exact ht x hx
    have := okB_down (sz := sz) hz hct (by simp; omega) (fun i => by
      rw [List.getD_eq_getElem?_getD, List.getD_eq_getElem?_getD, List.getElem?_append, List.getElem?_append]
      split
      · exact Int.le_refl _
      · rw [List.getElem?_replicate]
        split
        · cases hti : t[i - c.length]? with
          | none => exact Int.le_refl _
          | some x =>
            have := ht x (List.mem_of_getElem? hti)
            show (0 : Int) ≤ x
            omega
        · cases hti : t[i - c.length]? with
          | none => exact Int.le_refl _
          | some x =>
            have := ht x (List.mem_of_getElem? hti)
            show (0 : Int) ≤ x
            omega) hok
    rw [begB] at h
    rw [h] at this
    cases this
/-- what the reference collects, below some bits -/
def onF (sz : List Int) (n : Int) (D : List I3) (N : Nat) : Nat → Int → List Int → List (List Int) → List (List Int) × Bool
  | 0, r, c, out => if r = 0 then (out, true) else (if okB sz c = true then out ++ [stV sz c] else out, decide ((if okB sz c = true then out ++ [stV sz c] else out).length ≤ 4000))
  | k + 1, r, c, out => if r = 0 then (out, true) else if begB sz N (c ++ [0]) = false then (out, false)
    else if (onF sz n D N k (chN n D r c.length).1 (c ++ [0]) out).2 = false then ((onF sz n D N k (chN n D r c.length).1 (c ++ [0]) out).1, false)
    else if begB sz N (c ++ [1]) = false then ((onF sz n D N k (chN n D r c.length).1 (c ++ [0]) out).1, true)
    else onF sz n D N k (chN n D r c.length).2 (c ++ [1]) (onF sz n D N k (chN n D r c.length).1 (c ++ [0]) out).1
/-- the states below some bits -/
def xsN (sz : List Int) (D : List I3) (k : Nat) (r : Int) (c : List Int) : List (List Int) := ((allB k).filter fun s => evR D (bitF c.length s) r && okB sz (c ++ s)).map fun s => stV sz (c ++ s)
theorem xs_zero (sz : List Int) (D : List I3) (k : Nat) (c : List Int) : xsN sz D k 0 c = [] := by
  rw [xsN, List.map_eq_nil_iff, List.filter_eq_nil_iff]
  intro s _
  rw [ev_zero]; simp
theorem xs_succ {sz : List Int} {n : Nat} {D : List I3} (hF : Frst D) (hO : OrdN (n : Int) D) {k : Nat} {r : Int} {c : List Int} (hr : RefB r D.length) (hc : (c.length : Int) ≤ lvlN (n : Int) D r) (hn : c.length < n) :
    xsN sz D (k + 1) r c = xsN sz D k (chN (n : Int) D r c.length).1 (c ++ [0]) ++ xsN sz D k (chN (n : Int) D r c.length).2 (c ++ [1]) := by
  obtain ⟨h1, h2, h3, h4, h5⟩ := ch_all hF hO hr hc (by omega)
  rw [xsN, allB, List.filter_append, List.map_append, List.filter_map, List.filter_map, List.map_map, List.map_map, xsN, xsN]
  congr 1
  · congr 1
    · funext s; simp
    · congr 1
      funext s
      simp only [Function.comp, List.length_append, List.length_cons, List.length_nil, List.append_assoc, List.cons_append, List.nil_append]
      rw [h5, bitF_at, if_neg (by decide), ev_bit hF hO h1 h3]
  · congr 1
    · funext s; simp
    · congr 1
      funext s
      simp only [Function.comp, List.length_append, List.length_cons, List.length_nil, List.append_assoc, List.cons_append, List.nil_append]
      rw [h5, bitF_at, if_pos (by decide), ev_bit hF hO h2 h4]
theorem on_eq {sz : List Int} {n : Nat} {D : List I3} (hF : Frst D) (hO : OrdN (n : Int) D) : ∀ (k : Nat) (r : Int) (c : List Int) (out : List (List Int)), c.length + k = n → bits01 c → begB sz n c = true → RefB r D.length → (c.length : Int) ≤ lvlN (n : Int) D r → out.length ≤ 4000 →
    (onF sz (n : Int) D n k r c out).2 = decide (out.length + (xsN sz D k r c).length ≤ 4000) ∧ ((onF sz (n : Int) D n k r c out).2 = true → (onF sz (n : Int) D n k r c out).1 = out ++ xsN sz D k r c) := by
  intro k
  induction k with
  | zero =>
    intro r c out hk hc hb hr hl ho
    by_cases h0 : r = 0
    · subst h0
      rw [onF, if_pos rfl, xs_zero]
      simp [ho]
    · have h1 : r = 1 := by
        by_cases h2 : r < 2
        · have := hr.1; omega
        · obtain ⟨q, rfl⟩ : ∃ q : Nat, r = (q : Int) + 2 := ⟨(r - 2).toNat, by omega⟩
          have hq : q < D.length := by have := hr.2; omega
          have hx := List.getElem?_eq_getElem hq
          have := (hO _ _ hx).2.1
          rw [lvl_node hx] at hl
          omega
      subst h1
      have hx : xsN sz D 0 1 c = if okB sz c = true then [stV sz c] else [] := by
        rw [xsN, allB]
        have he : evR D (bitF c.length []) 1 = true := by rw [ev_low (by omega)]; rfl
        cases hok : okB sz c
        · simp [he, hok]
        · simp [he, hok]
      rw [onF, if_neg h0, hx]
      cases hok : okB sz c
      · simp [ho]
      · simp
  | succ k ih =>
    intro r c out hk hc hb hr hl ho
    by_cases h0 : r = 0
    · subst h0
      rw [onF, if_pos rfl, xs_zero]
      simp [ho]
    · obtain ⟨h1, h2, h3, h4, h5⟩ := ch_all hF hO hr hl (by omega)
      have hc0 : bits01 (c ++ [0]) := fun x hx => by
        rcases List.mem_append.1 hx with hx | hx
        · exact hc x hx
        · simp at hx; exact .inl hx
      have hc1 : bits01 (c ++ [1]) := fun x hx => by
        rcases List.mem_append.1 hx with hx | hx
        · exact hc x hx
        · simp at hx; exact .inr hx
      have hb0 : begB sz n (c ++ [0]) = true := by
        have e : c ++ List.replicate (n - c.length) 0 = (c ++ [0]) ++ List.replicate (n - (c ++ [(0 : Int)]).length) 0 := by
          have : n - c.length = (n - (c ++ [(0 : Int)]).length) + 1 := by simp; omega
          rw [this, List.replicate_succ]; simp
        rw [begB, ← e]; exact hb
      have hl0 : (((c ++ [(0 : Int)]).length : Nat) : Int) ≤ lvlN (n : Int) D (chN (n : Int) D r c.length).1 := by simp; omega
      have hl1 : (((c ++ [(1 : Int)]).length : Nat) : Int) ≤ lvlN (n : Int) D (chN (n : Int) D r c.length).2 := by simp; omega
      obtain ⟨i1, i2⟩ := ih (chN (n : Int) D r c.length).1 (c ++ [0]) out (by simp; omega) hc0 hb0 h1 hl0 ho
      rw [onF, if_neg h0, hb0, if_neg (by decide), xs_succ hF hO hr hl (by omega)]
      generalize onF sz (n : Int) D n k (chN (n : Int) D r c.length).1 (c ++ [0]) out = A at *
      cases hA : A.2
      · rw [if_pos rfl]
        rw [hA] at i1
        have : ¬ (out.length + (xsN sz D k (chN (n : Int) D r c.length).1 (c ++ [0])).length ≤ 4000) := of_decide_eq_false i1.symm
        refine ⟨?_, fun h => by cases h⟩
        simp only [List.length_append]
        exact (decide_eq_false (by omega)).symm
      · rw [if_neg (by decide)]
        rw [hA] at i1
        have hle : out.length + (xsN sz D k (chN (n : Int) D r c.length).1 (c ++ [0])).length ≤ 4000 := of_decide_eq_true i1.symm
        have hA1 := i2 hA
        cases hb1 : begB sz n (c ++ [1])
        · rw [if_pos rfl]
          have hx1 : xsN sz D k (chN (n : Int) D r c.length).2 (c ++ [1]) = [] := by
            rw [xsN, List.map_eq_nil_iff, List.filter_eq_nil_iff]
            intro s hs
            obtain ⟨s1, s2⟩ := allB_01 hs
            rw [beg_no hc1 s2 (by simp; omega) hb1]; simp
          rw [hx1, List.append_nil]
          exact ⟨(decide_eq_true hle).symm, fun _ => hA1⟩
        · rw [if_neg (by decide)]
          obtain ⟨j1, j2⟩ := ih (chN (n : Int) D r c.length).2 (c ++ [1]) A.1 (by simp; omega) hc1 hb1 h2 hl1 (by rw [hA1, List.length_append]; omega)
          rw [hA1] at j1 j2 ⊢
          rw [j1]
          refine ⟨by simp only [List.length_append]; rw [Nat.add_assoc], fun h => ?_⟩
          rw [j2 (by rw [j1]; exact h), List.append_assoc]
theorem dn_val {x : Int} {k : Nat} (h0 : 0 ≤ x) (h1 : x < 2 ^ k) (hk : k ≤ 5) : valOf (bitsDn x k) = x := by
  have h : ∀ k : Fin 6, ∀ a : Fin 32, a.val < 2 ^ k.val → valOf (bitsDn (a.val : Int) k.val) = (a.val : Int) := by decide +kernel
  have h2 : (2 : Int) ^ k ≤ 32 := by
    rcases (show k = 0 ∨ k = 1 ∨ k = 2 ∨ k = 3 ∨ k = 4 ∨ k = 5 by omega) with rfl | rfl | rfl | rfl | rfl | rfl <;> decide
  have h3 := h ⟨k, by omega⟩ ⟨x.toNat, by omega⟩ (by
    simp only
    have e : ((2 ^ k : Nat) : Int) = 2 ^ k := by rw [Int.natCast_pow]; rfl
    omega)
  simp only at h3
  rw [Int.toNat_of_nonneg h0] at h3
  exact h3
theorem dn_cmp {x y : Int} {k : Nat} (h0 : 0 ≤ x) (hxy : x < y) (h1 : y < 2 ^ k) (hk : k ≤ 5) : cmpL (bitsDn x k) (bitsDn y k) = -1 := by
  have h : ∀ k : Fin 6, ∀ b : Fin 32, b.val < 2 ^ k.val → ∀ a : Fin 32, a.val < b.val → cmpL (bitsDn (a.val : Int) k.val) (bitsDn (b.val : Int) k.val) = -1 := by decide +kernel
  have h2 : (2 : Int) ^ k ≤ 32 := by
    rcases (show k = 0 ∨ k = 1 ∨ k = 2 ∨ k = 3 ∨ k = 4 ∨ k = 5 by omega) with rfl | rfl | rfl | rfl | rfl | rfl <;> decide
  have h3 := h ⟨k, by omega⟩ ⟨y.toNat, by omega⟩ (by
    simp only
    have e : ((2 ^ k : Nat) : Int) = 2 ^ k := by rw [Int.natCast_pow]; rfl
    omega) ⟨x.toNat, by omega⟩ (by simp only; omega)
  simp only at h3
  rw [Int.toNat_of_nonneg h0, Int.toNat_of_nonneg (by omega)] at h3
  exact h3
/-- a size leaves room for its values -/
theorem wN_room {z : Int} (h1 : 1 ≤ z) (h2 : z ≤ 32) : z ≤ 2 ^ (wN z).toNat ∧ (wN z).toNat ≤ 5 := by
  rcases wN_cases h1 h2 with ⟨h, e⟩ | ⟨h, e⟩ | ⟨h, h', e⟩ | ⟨h, h', e⟩ | ⟨h, h', e⟩ | ⟨h, h', e⟩ <;> rw [e] <;> refine ⟨?_, by decide⟩
  · rw [h]; decide
  · rw [h]; decide
  · exact Int.le_trans h' (by decide)
  · exact Int.le_trans h' (by decide)
  · exact Int.le_trans h' (by decide)
  · exact Int.le_trans h' (by decide)
/-- values that are a state, said place by place -/
def StV : List Int → List Int → Prop
  | [], [] => True
  | z :: sz, v :: vs => 1 ≤ z ∧ z ≤ 32 ∧ 0 ≤ v ∧ v < z ∧ StV sz vs
  | _, _ => False
theorem stv_of : ∀ {sz v : List Int}, allIn 1 32 sz = true → stateB sz v = true → StV sz v
  | [], [], _, _ => trivial
  | [], y :: v, _, h => by have := stateB_len h; simp at this
  | z :: sz, [], _, h => by have := stateB_len h; simp at this
  | z :: sz, y :: v, hs, h => by
    have hl := stateB_len h
    have h1 := allIn_at hs (k := 0) (z := z) rfl
    have h2 := stateB_at h (k := 0) (x := y) (z := z) rfl rfl
    refine ⟨h1.1, h1.2, h2.1, by omega, stv_of ?_ ?_⟩
    · rw [allIn, List.all_cons, Bool.and_eq_true] at hs; exact hs.2
    · rw [stateB_eq (by simpa using hl), upB, List.all_eq_true]
      intro k hk
      obtain ⟨x, hx⟩ : ∃ x, v[k]? = some x := ⟨_, List.getElem?_eq_getElem (List.mem_range.1 hk)⟩
      obtain ⟨z', hz⟩ : ∃ z', sz[k]? = some z' := ⟨_, List.getElem?_eq_getElem (by have := List.mem_range.1 hk; simp at hl; omega)⟩
      rw [getD_of hx, hasB_yes hz]
      have := stateB_at h (k := k + 1) (x := x) (z := z') (by simpa using hx) (by simpa using hz)
      simp only [inB, Bool.and_eq_true, decide_eq_true_eq]; omega
theorem stb_cons (z y : Int) (sz v : List Int) : stBits (z :: sz) (y :: v) = bitsDn y (wN z).toNat ++ stBits sz v := by
  rw [stBits, List.zip_cons_cons, List.flatMap_cons]; rfl
theorem offN_cons (z : Int) (sz : List Int) (k : Nat) : offN (z :: sz) (k + 1) = (wN z).toNat + offN sz k := by
  rw [offN, List.take_succ_cons, List.map_cons, List.sum_cons]; rfl
theorem stb_len : ∀ {sz v : List Int}, StV sz v → (stBits sz v).length = offN sz sz.length
  | [], [], _ => rfl
  | [], _ :: _, h => by cases h
  | _ :: _, [], h => by cases h
  | z :: sz, y :: v, h => by
    obtain ⟨_, _, _, _, h⟩ := h
    rw [stb_cons, List.length_append, bitsDn_len, stb_len h, List.length_cons, offN_cons]
theorem stb_01 : ∀ {sz v : List Int}, StV sz v → bits01 (stBits sz v)
  | [], [], _ => fun x hx => by cases hx
  | [], _ :: _, h => by cases h
  | _ :: _, [], h => by cases h
  | z :: sz, y :: v, h => by
    obtain ⟨h1, h2, h3, h4, h⟩ := h
    rw [stb_cons]
    intro x hx
    rcases List.mem_append.1 hx with hx | hx
    · obtain ⟨i, hi, rfl⟩ := List.mem_map.1 hx
      have := (wN_room h1 h2).2
      exact bitAt_in h3 (by omega) (by have := List.mem_range.1 hi; omega)
    · exact stb_01 h x hx
theorem stv_cons (z : Int) (sz b t : List Int) (hb : b.length = (wN z).toNat) : stV (z :: sz) (b ++ t) = valOf b :: stV sz t := by
  rw [stV, List.length_cons, List.range_succ_eq_map, List.map_cons, List.map_map]
  congr 1
  · show valOf (((b ++ t).drop (offN (z :: sz) 0)).take (wN z).toNat) = valOf b
    rw [show offN (z :: sz) 0 = 0 from rfl, List.drop_zero, ← hb, List.take_left]
  · rw [stV]
    apply List.map_congr_left
    intro k _
    show valOf (((b ++ t).drop (offN (z :: sz) (k + 1))).take (wN (sz.getD k 0)).toNat) = _
    rw [offN_cons, ← hb, ← List.drop_drop, List.drop_left]
theorem stv_stb : ∀ {sz v : List Int}, StV sz v → stV sz (stBits sz v) = v
  | [], [], _ => rfl
  | [], _ :: _, h => by cases h
  | _ :: _, [], h => by cases h
  | z :: sz, y :: v, h => by
    obtain ⟨h1, h2, h3, h4, h⟩ := h
    obtain ⟨r1, r2⟩ := wN_room h1 h2
    rw [stb_cons, stv_cons _ _ _ _ (bitsDn_len _ _), stv_stb h, dn_val h3 (by omega) r2]
theorem cmpL_app : ∀ {a b : List Int} (x y : List Int), a.length = b.length → cmpL (a ++ x) (b ++ y) = if cmpL a b = 0 then cmpL x y else cmpL a b
  | [], [], x, y, _ => by simp [cmpL]
  | [], _ :: _, _, _, h => by simp at h
  | _ :: _, [], _, _, h => by simp at h
  | p :: a, q :: b, x, y, h => by
    rw [List.cons_append, List.cons_append, cmpL, cmpL]
    by_cases h1 : p < q
    · rw [if_pos h1, if_pos h1, if_neg (by omega)]
    · rw [if_neg h1, if_neg h1]
      by_cases h2 : q < p
      · rw [if_pos h2, if_pos h2, if_neg (by omega)]
      · rw [if_neg h2, if_neg h2, cmpL_app x y (by simpa using h)]
theorem stb_cmp : ∀ {sz u v : List Int}, StV sz u → StV sz v → cmpL u v < 0 → cmpL (stBits sz u) (stBits sz v) < 0
  | [], [], [], _, _, h => by simp [cmpL] at h
  | [], _ :: _, _, h, _, _ => by cases h
  | [], [], _ :: _, _, h, _ => by cases h
  | _ :: _, [], _, h, _, _ => by cases h
  | _ :: _, _ :: _, [], _, h, _ => by cases h
  | z :: sz, x :: u, y :: v, hu, hv, h => by
    obtain ⟨h1, h2, h3, h4, hu⟩ := hu
    obtain ⟨_, _, h5, h6, hv⟩ := hv
    obtain ⟨r1, r2⟩ := wN_room h1 h2
    rw [stb_cons, stb_cons, cmpL_app _ _ (by rw [bitsDn_len, bitsDn_len])]
    rw [cmpL] at h
    by_cases hxy : x < y
    · rw [dn_cmp h3 hxy (by omega) r2, if_neg (by decide)]; decide
    · rw [if_neg hxy] at h
      by_cases hyx : y < x
      · rw [if_pos hyx] at h; omega
      · rw [if_neg hyx] at h
        obtain rfl : x = y := by omega
        rw [cmpL_self, if_pos rfl]
        exact stb_cmp hu hv h
/-- the value of a set's diagram -/
theorem st_ev {n : Nat} : ∀ (k i : Nat) (ls : List (List Int)) (L : List I3), Snd (n : Int) L → i + k = n → (∀ s ∈ ls, s.length = n ∧ bits01 s) → ls.Pairwise (fun a b => cmpL a b < 0) → (∀ a ∈ ls, ∀ b ∈ ls, a.take i = b.take i) →
    ∀ β, evR (stN k i ls L).1 β (stN k i ls L).2 = true ↔ ∃ s ∈ ls, ∀ j, i ≤ j → j < n → β j = (s.getD j 0 == 1) := by
  intro k
  induction k with
  | zero =>
    intro i ls L hS hn hl hp ha β
    rw [stN]
    by_cases h : ls = []
    · subst h
      simp only [if_true]
      rw [ev_low (by omega)]
      simp
    · simp only [if_neg h]
      rw [ev_low (by omega)]
      obtain ⟨s, hs⟩ := List.exists_mem_of_ne_nil _ h
      simp only [decide_true, true_iff]
      exact ⟨s, hs, fun j h1 h2 => by omega⟩
  | succ k ih =>
    intro i ls L hS hn hl hp ha β
    by_cases h : ls = []
    · subst h
      rw [st_nil, ev_low (by simp)]
      simp
    · have hin : i < n := by omega
      have hbit : ∀ s ∈ ls, ∃ x, s[i]? = some x ∧ s.getD i 0 = x ∧ (x = 0 ∨ x = 1) := fun s hs => by
        obtain ⟨h1, h2⟩ := hl s hs
        have h3 : s[i]? = some s[i] := List.getElem?_eq_getElem (by omega)
        exact ⟨s[i], h3, by rw [List.getD_eq_getElem?_getD, h3]; rfl, h2 _ (List.getElem_mem _)⟩
      have hT : ∀ s ∈ ls.take (cutN i ls), s.getD i 0 = 0 := fun s hs => by
        have hm := List.mem_of_mem_take hs
        rw [cutN, tw_take] at hs
        have h1 := tw_mem hs
        obtain ⟨x, _, h2, h3⟩ := hbit s hm
        rw [h2] at h1 ⊢
        rcases h3 with h3 | h3
        · exact h3
        · rw [h3] at h1; simp at h1
      have hD : ∀ s ∈ ls.drop (cutN i ls), s.getD i 0 = 1 := fun s hs => by
        have hm := List.mem_of_mem_drop hs
        obtain ⟨q, hq⟩ := List.getElem?_of_mem hs
        rw [List.getElem?_drop] at hq
        obtain ⟨x, hx1, hx2, hx3⟩ := hbit s hm
        have hlt := (List.getElem?_eq_some_iff.1 hq).1
        obtain ⟨f, hf⟩ : ∃ f, ls[cutN i ls]? = some f := ⟨_, List.getElem?_eq_getElem (by omega)⟩
        have hf1 := tw_at (p := fun l : List Int => !(l.getD i 0 == 1)) hf
        obtain ⟨y, hy1, hy2, hy3⟩ := hbit f (List.mem_of_getElem? hf)
        simp only [hy2, Bool.not_eq_false', beq_iff_eq] at hf1
        rcases Nat.eq_zero_or_pos q with h0 | h0
        · subst h0
          rw [Nat.add_zero, hf] at hq
          cases hq
          rw [hy2, hf1]
        · have h1 : cmpL f s < 0 := by
            obtain ⟨i1, i2⟩ := List.getElem?_eq_some_iff.1 hf
            obtain ⟨j1, j2⟩ := List.getElem?_eq_some_iff.1 hq
            have := List.pairwise_iff_getElem.1 hp _ _ i1 j1 (by omega)
            rw [i2, j2] at this
            exact this
          rw [cmpL_at (ha f (List.mem_of_getElem? hf) s hm) hy1 hx1, hf1] at h1
          rw [hx2]
          rcases hx3 with e | e
          · rw [e, if_neg (by omega), if_pos (by omega)] at h1; omega
          · exact e
      have hsame : ∀ (c : Int) (K : List (List Int)), (∀ s ∈ K, s ∈ ls) → (∀ s ∈ K, s.getD i 0 = c) → ∀ a ∈ K, ∀ b ∈ K, a.take (i + 1) = b.take (i + 1) := fun c K hK hc a ha' b hb' => by
        obtain ⟨x, hx1, hx2, _⟩ := hbit a (hK a ha')
        obtain ⟨y, hy1, hy2, _⟩ := hbit b (hK b hb')
        rw [take_at hx1, take_at hy1, ha a (hK a ha') b (hK b hb'), ← hx2, ← hy2, hc a ha', hc b hb']
      have mT : ∀ s ∈ ls.take (cutN i ls), s ∈ ls := fun s => List.mem_of_mem_take
      have mD : ∀ s ∈ ls.drop (cutN i ls), s ∈ ls := fun s => List.mem_of_mem_drop
      obtain ⟨a1, a2, a3, t1, a4⟩ := st_inv k (i + 1) (ls.take (cutN i ls)) L hS (by omega)
      have e1 := ih (i + 1) (ls.take (cutN i ls)) L hS (by omega) (fun s hs => hl s (mT s hs)) (hp.sublist (List.take_sublist _ _)) (hsame 0 _ mT hT) β
      rw [st_new h rfl rfl]
      generalize stN k (i + 1) (ls.take (cutN i ls)) L = A at *
      obtain ⟨A1, A2⟩ := A
      simp only at a1 a2 a3 a4 e1 ⊢
      obtain ⟨b1, b2, b3, t2, b4⟩ := st_inv k (i + 1) (ls.drop (cutN i ls)) A1 a1 (by omega)
      have e2 := ih (i + 1) (ls.drop (cutN i ls)) A1 a1 (by omega) (fun s hs => hl s (mD s hs)) (hp.sublist (List.drop_sublist _ _)) (hsame 1 _ mD hD) β
      generalize stN k (i + 1) (ls.drop (cutN i ls)) A1 = B at *
      obtain ⟨B1, B2⟩ := B
      simp only at b1 b2 b3 b4 e2 ⊢
      have hl2 : RefB A2 B1.length := a2.mono (by rw [b4, List.length_append]; omega)
      have hF := b1.redu.frst
      rw [ev_mk hF hl2 b2, Int.toNat_natCast, show evR B1 β A2 = evR A1 β A2 by rw [b4]; exact ev_app a1.redu.frst a2]
      have split : ∀ s ∈ ls, s ∈ ls.take (cutN i ls) ∨ s ∈ ls.drop (cutN i ls) := fun s hs => by
        rw [← List.take_append_drop (cutN i ls) ls] at hs
        exact List.mem_append.1 hs
      cases hβ : β i with
      | true =>
        simp only [if_true]
        rw [e2]
        constructor
        · rintro ⟨s, hs, h1⟩
          refine ⟨s, mD s hs, fun j j1 j2 => ?_⟩
          rcases Nat.eq_or_lt_of_le j1 with e | e
          · subst e; rw [hβ, hD s hs]; rfl
          · exact h1 j e j2
        · rintro ⟨s, hs, h1⟩
          rcases split s hs with h2 | h2
          · have := h1 i (Nat.le_refl _) hin
            rw [hβ, hT s h2] at this; cases this
          · exact ⟨s, h2, fun j j1 j2 => h1 j (by omega) j2⟩
      | false =>
        simp only [Bool.false_eq_true, if_false]
        rw [e1]
        constructor
        · rintro ⟨s, hs, h1⟩
          refine ⟨s, mT s hs, fun j j1 j2 => ?_⟩
          rcases Nat.eq_or_lt_of_le j1 with e | e
          · subst e; rw [hβ, hT s hs]; rfl
          · exact h1 j e j2
        · rintro ⟨s, hs, h1⟩
          rcases split s hs with h2 | h2
          · exact ⟨s, h2, fun j j1 j2 => h1 j (by omega) j2⟩
          · have := h1 i (Nat.le_refl _) hin
            rw [hβ, hD s h2] at this; cases this
end Go.Proofs.YtkaikbaagajckaaGreat
namespace Go.Proofs.YtkaikbaagajckaaGreat
open Go.RowKit
set_option linter.unusedVariables false
set_option linter.unusedSimpArgs false
attribute [local go_sem ↓] Go.wp_at_zero Go.wp_at_succ
/-- the diagram of a list of states, in order, with its code -/
def sdgN (sz : List Int) (K : List (List Int)) : Int × List I3 × Int × Int := lmC (offN sz sz.length : Int) (rdN (offN sz sz.length) (K.map (stBits sz))).1 (rdN (offN sz sz.length) (K.map (stBits sz))).2
/-- the diagram of the reachable states, with its code -/
def rcC (sz st : List Int) (l : List (RM × RuD)) : Int × List I3 × Int × Int :=
  if modelB sz st l = false then (0, [], 0, 1) else if smB sz = false then (0, [], 0, 3) else match bfsP (l.map (·.2)) st with
  | none => (0, [], 0, 3)
  | some L => sdgN sz (srtS (L.map (·.v)))
theorem rcC_1 {sz st : List Int} {l : List (RM × RuD)} (h : modelB sz st l = false) : rcC sz st l = (0, [], 0, 1) := if_pos h
theorem rcC_2 {sz st : List Int} {l : List (RM × RuD)} (h : modelB sz st l = true) (h2 : smB sz = false) : rcC sz st l = (0, [], 0, 3) := by rw [rcC, if_neg (by simp [h]), if_pos h2]
theorem rcC_3 {sz st : List Int} {l : List (RM × RuD)} (h : modelB sz st l = true) (h2 : smB sz = true) (h3 : bfsP (l.map (·.2)) st = none) : rcC sz st l = (0, [], 0, 3) := by rw [rcC, if_neg (by simp [h]), if_neg (by simp [h2]), h3]
theorem rcC_4 {sz st : List Int} {l : List (RM × RuD)} {L : List SN} (h : modelB sz st l = true) (h2 : smB sz = true) (h3 : bfsP (l.map (·.2)) st = some L) : rcC sz st l = sdgN sz (srtS (L.map (·.v))) := by rw [rcC, if_neg (by simp [h]), if_neg (by simp [h2]), h3]
theorem sv_stateB {sz v : List Int} (h : SV sz v) : stateB sz v = true := by
  rw [stateB_eq h.1, upB, List.all_eq_true]
  intro i hi
  have hi' := List.mem_range.1 hi
  have e1 := List.getElem?_eq_getElem hi'
  have e2 := List.getElem?_eq_getElem (show i < sz.length by rw [← h.1]; exact hi')
  have h1 := h.2 i _ _ e1 e2
  rw [getD_of e1, hasB_yes e2]
  simp only [inB, Bool.and_eq_true, decide_eq_true_eq]; omega
theorem run_len9 {rs : List RuD} : ∀ (f i : Nat) {L M : List SN}, L.length ≤ 4000 → runN9 rs f i L = some M → M.length ≤ 4000
  | 0, _, _, _, _, h => by cases h
  | f + 1, i, L, M, hL, h => by
    rw [runN9] at h
    split at h
    · cases h; exact hL
    · split at h
      · cases h
      · rename_i x _ hx
        exact run_len9 f (i + 1) (by omega) h
theorem bfs_few {rs : List RuD} {st : List Int} {L : List SN} (h : bfsP rs st = some L) : L.length ≤ 4000 := run_len9 _ _ (by simp) h
/-- what the search finds are states, all different, few -/
theorem bfs_gives {sz st : List Int} {l : List (RM × RuD)} {L : List SN} (hm : modelB sz st l = true) (h : bfsP (l.map (·.2)) st = some L) : SNs sz L ∧ ∀ x ∈ L.map (·.v), stateB sz x = true := by
  obtain ⟨g1, g2, g3, _⟩ := model_gives hm
  have hs := SNs.run g3 _ _ (SNs.start g2) h
  exact ⟨hs, fun x hx => by
    obtain ⟨y, hy, rfl⟩ := List.mem_map.1 hx
    exact sv_stateB (hs.sv y hy)⟩
theorem sm_off {sz : List Int} (hs : allIn 1 32 sz = true) (h : smB sz = true) : offN sz sz.length ≤ 20 := by
  have h1 := of_decide_eq_true h
  have h2 := offN_full hs
  omega
theorem SRow.lsA {w : World} {lo l2 : Nat} {a : Option Addr} {n c : Nat} {l : List (QM × List Int)} (h : SRow w lo l2 a n c l) : LsA w w.heap.size a n c l := by
  refine ⟨h.row.flats, h.row.flats.lies, fun x hx => ⟨(h.each x hx).ints, ?_⟩⟩
  rcases (h.each x hx).form with ⟨_, h0, _⟩ | ⟨g, hg⟩
  · exact .inl h0
  · exact .inr fun g' off e => by
      rw [hg] at e
      cases e
      exact ((h.each x hx).blk _ hg).2
theorem SpSt.le8 {w : World} {lo lo' b m : Nat} {L : List SN} {ov : Bool} (h : SpSt w lo b m L ov) (hl : lo' ≤ lo) : SpSt w lo' b m L ov := by
  obtain ⟨oa, oc, ta, tc, ka, kc, l1, l2, l3, h1, h2, h3, h4, h5, h6⟩ := h
  exact ⟨oa, oc, ta, tc, ka, kc, l1, l2, l3, h1, by omega, h3.le hl hl, h4.le hl hl, h5.le hl hl, h6⟩
set_option maxHeartbeats 2000000 in
theorem spec_l21All {sa ta ra : Option Addr} {sn sc tn tc rn rc : Nat} {sz st : List Int} {l : List (RM × RuD)} {w : World} (hI : Ints w sa sn sc sz) (hn : sn ≤ 1048576) (hT : Ints w ta tn tc st) (ht : tn ≤ 1048576) (hR : FR w w ra rn rc l) (hr : rn ≤ 1048576) (hm : modelB sz st l = true) :
    Calls Tryz.prog 63 #[.agg #[.slice sa sn sc, .slice ta tn tc, .slice ra rn rc], .slice none 0 0] w fun e w' => Below w.heap.size w w' ∧ (bfsP (l.map (·.2)) st = none → e = .returned (.tuple #[.pointer none, .int .i64 3])) ∧ ∀ L, bfsP (l.map (·.2)) st = some L → ∃ b, e = .returned (.tuple #[.pointer (some ⟨b, 0, none⟩), .int .i64 0]) ∧ SpSt w' w.heap.size b sz.length L false ∧ SNs sz L := by
  obtain ⟨g1, g2, g3, g4, g5, g6⟩ := model_gives hm
  have hgn : ∀ x ∈ l, x.1.gn ≤ 1048576 ∧ x.1.en ≤ 1048576 := fun x hx => by
    have h := hR.wf x hx
    exact ⟨h.2.2.2.1, h.2.2.2.2.2⟩
  have htl : tn ≤ 16 := by rw [← hT.len, g2.1]; exact g4
  have hrl := hR.len
  have K1 := Lib.hid (fun (wx : World) (hb : Below w.heap.size w wx) => by
    have h := spec_IsModel (hI.keep hb) hn (hT.keep hb) ht (hR.self hb) hr
    rw [hm] at h; exact h)
  have K2 := Lib.hid (fun (wx : World) (hb : Below w.heap.size w wx) => spec_l20Tests (g := []) (ga := none) (gn := 0) (gc := 0) (ta := ta) (tn := tn) (tc := tc) (ra := ra) (rn := rn) (rc := rc) (hI.keep hb) hn g6 ⟨rfl, Nat.le_refl _, .inl rfl, (fun x hx => by cases hx), fun _ => ⟨rfl, rfl⟩⟩ (by decide))
  have K3 := Lib.hid (fun (wx : World) (hb : Below w.heap.size w wx) => spec_l21Run (sa := sa) (sn := sn) (sc := sc) (w0 := wx) (w := wx) (Below.refl _ _) (hR.self hb) (by omega) (hT.keep hb) (by omega) g2 g3 hgn)
  have X := Lib.hid (Blk.made w #[.slice sa sn sc, .slice ta tn tc, .slice ra rn rc] 36)
  have hb0 : Below w.heap.size w (w.alloc (.cells #[.slice sa sn sc, .slice ta tn tc, .slice ra rn rc] 36)) := below_alloc1 (Below.refl _ _) _
  clear hI hT hR hm g1 g2 g3 g4 g5 g6 hgn htl hrl
  go_enter Tryz.func63, Tryz.ntmps63
  go_wp2_with fail
  refine Calls.mono (K1.out _ hb0) ?_
  rintro e w1 ⟨rfl, hb⟩
  have X1 := Lib.hid (X.out.keep hb)
  have HB1 := Lib.hid (below_callS hb0 hb)
  clear hb X hb0
  have x0 := X1.out.cell 0
  have x1 := X1.out.cell 1
  have x2 := X1.out.cell 2
  have xl := X1.out.lt
  simp only [List.getElem?_toArray, List.getElem?_cons_zero, List.getElem?_cons_succ] at x0 x1 x2
  go_wp2_with fail
  refine Calls.mono (K2.out _ HB1.out) ?_
  rintro e w2 ⟨rfl, hb⟩
  have X2 := Lib.hid (X1.out.keep hb)
  have HB2 := Lib.hid (below_callS HB1.out hb)
  clear hb x0 x1 x2 xl X1
  have x0 := X2.out.cell 0
  have x1 := X2.out.cell 1
  have x2 := X2.out.cell 2
  have xl := X2.out.lt
  simp only [List.getElem?_toArray, List.getElem?_cons_zero, List.getElem?_cons_succ] at x0 x1 x2
  have ht0 : testsB sz [] = true := rfl
  rw [ht0]
  clear ht0
  go_wp2_with fail
  refine Calls.mono (K3.out _ HB2.out) ?_
  rintro e w3 ⟨b, L, ov, rfl, hS, hb, hbf, hns⟩
  have HB3 := Lib.hid (below_callS HB2.out hb)
  have HS := Lib.hid (hS.le8 HB2.out.size)
  have HBF := Lib.hid hbf
  have HNS := Lib.hid hns
  obtain ⟨oa, oc, ta', tc', ka, kc, lo', lt', lk, hBlk, _⟩ := hS
  have c3 := hBlk.cell 3
  have zl := hBlk.lt
  simp only [List.getElem?_toArray, List.getElem?_cons_zero, List.getElem?_cons_succ] at c3
  clear hb hbf hns hBlk x0 x1 x2 xl
  cases ov with
  | true =>
    go_wp2
    go_ret2
    refine ⟨HB3.out, fun _ => rfl, fun L' hL => ?_⟩
    have := HBF.out
    rw [hL] at this
    simp at this
  | false =>
    go_wp2
    go_ret2
    refine ⟨HB3.out, fun h => ?_, fun L' hL => ?_⟩
    · have := HBF.out
      rw [h] at this
      simp at this
    · have := HBF.out
      rw [hL] at this
      simp at this
      subst this
      exact ⟨b, rfl, HS.out, HNS.out⟩
end Go.Proofs.YtkaikbaagajckaaGreat
