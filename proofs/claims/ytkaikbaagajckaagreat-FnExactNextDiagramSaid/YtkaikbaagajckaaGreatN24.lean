/- Decision diagrams: bounds of counts, the first list of bits with the value 1, the diagram of an input: plain laws.; The states of a diagram: plain laws.; Bits of states: there and back, in order. Plain laws.; The diagram of the reachable states: the reference, walked.; Diagrams that are not too large, or a code: the program, walked.; All reachable states of a model: the program, walked. -/
import Derived.Test.YtkaikbaagajckaaGreatN17
import Derived.Test.YtkaikbaagajckaaGreatN10
import Derived.Test.YtkaikbaagajckaaGreatN20
import Derived.Test.YtkaikbaagajckaaGreatN09
import Derived.Test.YtkaikbaagajckaaGreatN23
import Derived.Test.YtkaikbaagajckaaGreatN14
import Derived.Test.YtkaikbaagajckaaGreatN08
import Derived.Test.YtkaikbaagajckaaGreatN16
import Derived.Test.YtkaikbaagajckaaGreatN07
namespace Go.Proofs.YtkaikbaagajckaaGreat
open Go.RowKit
set_option linter.unusedVariables false
set_option linter.unusedSimpArgs false
theorem cnt_le {n : Int} {L : List I3} (h : Snd n L) (hn : 0 ≤ n) : ∀ (m : Nat) (r : Int), r.toNat ≤ m → RefB r L.length → cntR n L r ≤ 2 ^ (n - lvlN n L r).toNat := by
  have low : ∀ r : Int, r < 2 → cntR n L r ≤ 2 ^ (n - lvlN n L r).toNat := fun r h2 => by
    have := Nat.two_pow_pos (n - lvlN n L r).toNat
    rw [cnt_low h2]
    split <;> omega
  intro m
  induction m with
  | zero => intro r hm hr; exact low r (by omega)
  | succ m ih =>
    intro r hm hr
    by_cases h2 : r < 2
    · exact low r h2
    · obtain ⟨k, rfl⟩ : ∃ k : Nat, r = (k : Int) + 2 := ⟨(r - 2).toNat, by omega⟩
      have hlt : k < L.length := by have := hr.2; omega
      obtain ⟨x, hx⟩ : ∃ x, L[k]? = some x := ⟨_, List.getElem?_eq_getElem hlt⟩
      have f3 := (h.redu.frst.low _ _ hx)
      have f4 := (h.redu.frst.high _ _ hx)
      have f3' := f3.2
      have f4' := f4.2
      obtain ⟨o1, o2, o3, o4⟩ := h.ord _ _ hx
      have i1 := ih x.b (by omega) (f3.mono (by omega))
      have i2 := ih x.c (by omega) (f4.mono (by omega))
      have l1 := lvl_le h.ord (f3.mono (by omega) : RefB x.b L.length)
      have l2 := lvl_le h.ord (f4.mono (by omega) : RefB x.c L.length)
      rw [cnt_node h.redu.frst hx, lvl_node hx]
      have e0 : (n - x.a).toNat = (n - (x.a + 1)).toNat + 1 := by omega
      have e1 : 2 ^ (n - lvlN n L x.b).toNat * 2 ^ (lvlN n L x.b - (x.a + 1)).toNat = 2 ^ (n - (x.a + 1)).toNat := by rw [← Nat.pow_add]; congr 1; omega
      have e2 : 2 ^ (n - lvlN n L x.c).toNat * 2 ^ (lvlN n L x.c - (x.a + 1)).toNat = 2 ^ (n - (x.a + 1)).toNat := by rw [← Nat.pow_add]; congr 1; omega
      have g1 := Nat.mul_le_mul_right (2 ^ (lvlN n L x.b - (x.a + 1)).toNat) i1
      have g2 := Nat.mul_le_mul_right (2 ^ (lvlN n L x.c - (x.a + 1)).toNat) i2
      rw [e1] at g1
      rw [e2] at g2
      rw [e0, Nat.pow_succ]
      omega
theorem pow_20 {k : Nat} (h : k ≤ 20) : 2 ^ k ≤ 1048576 := Nat.le_trans (Nat.pow_le_pow_right (by decide) h) (by decide)
theorem cnt_few {n : Int} {L : List I3} (h : Snd n L) (hn : 0 ≤ n) (h20 : n ≤ 20) {r : Int} (hr : RefB r L.length) : cntR n L r ≤ 1048576 := by
  have h0 := lvl_pos h.ord hn hr
  exact Nat.le_trans (cnt_le h hn _ r (Nat.le_refl _) hr) (pow_20 (by omega))
/-! ### values along bits -/
theorem bit_at {bits : List Int} {i : Nat} {v : Int} (h : bits[i]? = some v) : bitF 0 bits i = (v == 1) := by
  rw [bitF, Nat.sub_zero, List.getD_eq_getElem?_getD, h]; simp
/-! ### the first list -/
/-! ### the diagram of an input -/
def bits01 (s : List Int) : Prop := ∀ x ∈ s, x = 0 ∨ x = 1
theorem allB_01 {k : Nat} {s : List Int} (h : s ∈ allB k) : s.length = k ∧ bits01 s := allB_mem.1 h
theorem vb_val {s : List Int} (hs : bits01 s) : ∀ (k i : Nat) (v : Int), i + k ≤ s.length → vbN (bitF 0 s) k i v = ((s.drop i).take k).foldl (fun a b => 2 * a + b) v := by
  intro k
  induction k with
  | zero => intro i v _; rw [vbN, List.take_zero]; rfl
  | succ k ih =>
    intro i v h
    have hi : i < s.length := by omega
    rw [vbN, List.drop_eq_getElem_cons hi, List.take_succ_cons, List.foldl_cons, ih (i + 1) _ (by omega)]
    congr 1
    have hb : bitF 0 s i = (s[i] == 1) := bit_at (List.getElem?_eq_getElem hi)
    rw [hb]
    rcases hs s[i] (List.getElem_mem hi) with e | e
    · rw [e]; rfl
    · rw [e]; rfl
/-- a list of bits that stands for a state -/
def okB (sz s : List Int) : Bool := stateB sz (stV sz s)
theorem stV_len (sz s : List Int) : (stV sz s).length = sz.length := by simp [stV]
theorem stV_getD {sz s : List Int} {k : Nat} (hk : k < sz.length) : (stV sz s).getD k 0 = valOf ((s.drop (offN sz k)).take (wN (sz.getD k 0)).toNat) := by
  rw [List.getD_eq_getElem?_getD, stV, range_get hk]; rfl
theorem valOf_nn {l : List Int} (h : bits01 l) : 0 ≤ valOf l := by
  have key : ∀ (l : List Int) (v : Int), bits01 l → 0 ≤ v → 0 ≤ l.foldl (fun a b => 2 * a + b) v := by
    intro l
    induction l with
    | nil => intro v _ hv; exact hv
    | cons x r ih =>
      intro v hl hv
      rw [List.foldl_cons]
      have hx := hl x (List.mem_cons_self ..)
      exact ih _ (fun y hy => hl y (List.mem_cons_of_mem _ hy)) (by omega)
  exact key l 0 h (Int.le_refl _)
theorem bits01_part {s : List Int} (h : bits01 s) (a b : Nat) : bits01 ((s.drop a).take b) := fun x hx => h x (List.mem_of_mem_drop (List.mem_of_mem_take hx))
theorem okB_iff {sz s : List Int} (hs : bits01 s) : okB sz s = true ↔ ∀ j, j < sz.length → valOf ((s.drop (offN sz j)).take (wN (sz.getD j 0)).toNat) < sz.getD j 0 := by
  rw [okB, stateB_eq (stV_len sz s), upB, List.all_eq_true, stV_len]
  constructor
  · intro h j hj
    have h1 := h j (List.mem_range.2 hj)
    have hz : sz[j]? = some (sz.getD j 0) := by rw [List.getD_eq_getElem?_getD, List.getElem?_eq_getElem hj]; rfl
    rw [hasB_yes hz, stV_getD hj] at h1
    simp only [inB, Bool.and_eq_true, decide_eq_true_eq] at h1
    omega
  · intro h j hj
    have hj := List.mem_range.1 hj
    have hz : sz[j]? = some (sz.getD j 0) := by rw [List.getD_eq_getElem?_getD, List.getElem?_eq_getElem hj]; rfl
    rw [hasB_yes hz, stV_getD hj]
    have h1 := h j hj
    have h2 := valOf_nn (bits01_part hs (offN sz j) (wN (sz.getD j 0)).toNat)
    simp only [inB, Bool.and_eq_true, decide_eq_true_eq]
    omega
/-- the diagram without tests has the value 1 at the states' bits -/
theorem ts_ok {sz s : List Int} (hsz : allIn 1 32 sz = true) (hl : s.length = offN sz sz.length) (hs : bits01 s) : evR (tsN sz []).1 (bitF 0 s) (tsN sz []).2 = okB sz s := by
  obtain ⟨i1, i2, _, _, i5⟩ := td_inv (g := []) hsz sz.length (Nat.le_refl _)
  rw [tsN, can_ev i1.redu i2, Bool.eq_iff_iff, i5, okB_iff hs]
  constructor
  · intro h j hj
    have h1 := h j (by omega) hj
    obtain ⟨z, hz⟩ : ∃ z, sz[j]? = some z := ⟨_, List.getElem?_eq_getElem hj⟩
    have h9 := offN_step hz
    have h8 := offN_le (sz := sz) (k := j + 1) (by omega)
    rw [alB, List.any_nil, Bool.not_false, Bool.and_true, decide_eq_true_eq, vb_val hs _ _ _ (by rw [getD_of hz]; omega)] at h1
    exact h1
  · intro h j _ hj
    have h1 := h j hj
    obtain ⟨z, hz⟩ : ∃ z, sz[j]? = some z := ⟨_, List.getElem?_eq_getElem hj⟩
    have h9 := offN_step hz
    have h8 := offN_le (sz := sz) (k := j + 1) (by omega)
    rw [alB, List.any_nil, Bool.not_false, Bool.and_true, decide_eq_true_eq, vb_val hs _ _ _ (by rw [getD_of hz]; omega)]
    exact h1
/-- smaller bits, smaller values -/
theorem val_mono : ∀ {l l' : List Int} {v v' : Int}, l.length = l'.length → (∀ i : Nat, l.getD i 0 ≤ l'.getD i 0) → v ≤ v' → l.foldl (fun a b => 2 * a + b) v ≤ l'.foldl (fun a b => 2 * a + b) v'
  | [], [], v, v', _, _, h => h
  | [], y :: r', v, v', hl, _, h => by simp at hl
  | x :: r, [], v, v', hl, _, h => by simp at hl
  | x :: r, y :: r', v, v', hl, hp, h => by
    rw [List.foldl_cons, List.foldl_cons]
    refine val_mono (by simpa using hl) (fun i => by simpa using hp (i + 1)) ?_
    have h0 := hp 0
    simp at h0
    omega
theorem part_le {s t : List Int} (h : ∀ i : Nat, s.getD i 0 ≤ t.getD i 0) (a b i : Nat) : ((s.drop a).take b).getD i 0 ≤ ((t.drop a).take b).getD i 0 := by
  rw [List.getD_eq_getElem?_getD, List.getD_eq_getElem?_getD, List.getElem?_take, List.getElem?_take]
  split
  · rw [List.getElem?_drop, List.getElem?_drop]
    have := h (a + i)
    rw [List.getD_eq_getElem?_getD, List.getD_eq_getElem?_getD] at this
    exact this
  · exact Int.le_refl _
theorem okB_down {sz s t : List Int} (hs : bits01 s) (ht : bits01 t) (hl : s.length = t.length) (h : ∀ i : Nat, s.getD i 0 ≤ t.getD i 0) (hok : okB sz t = true) : okB sz s = true := by
  rw [okB_iff hs]
  rw [okB_iff ht] at hok
  intro j hj
  refine Int.lt_of_le_of_lt ?_ (hok j hj)
  exact val_mono (by simp [hl]) (part_le h _ _) (Int.le_refl _)
/-- is there a state whose bits begin so: the rest are zeros -/
def begB (sz : List Int) (N : Nat) (c : List Int) : Bool := okB sz (c ++ List.replicate (N - c.length) 0)
theorem beg_no {sz c t : List Int} {N : Nat} (hc : bits01 c) (ht : bits01 t) (hl : c.length + t.length = N) (h : begB sz N c = false) : okB sz (c ++ t) = false := by
  cases hok : okB sz (c ++ t) with
  | false => rfl
  | true =>
    have hz : bits01 (c ++ List.replicate (N - c.length) 0) := fun x hx => by
      rcases List.mem_append.1 hx with hx | hx
      · exact hc x hx
      · exact .inl (List.mem_replicate.1 hx).2
    have hct : bits01 (c ++ t) := fun x hx => by
      rcases List.mem_append.1 hx with hx | hx
      · exact hc x hx
      · exact ht x hx
    have := okB_down (sz := sz) hz hct (by simp; omega) (fun i => by
      rw [List.getD_eq_getElem?_getD, List.getD_eq_getElem?_getD, List.getElem?_append, List.getElem?_append]
      split
      · exact Int.le_refl _
      · rw [List.getElem?_replicate]
        split
        · cases hti : t[i - c.length]? with
          | none => exact Int.le_refl _
          | some x =>
            have := ht x (List.mem_of_getElem? hti)
            show (0 : Int) ≤ x
            omega
        · cases hti : t[i - c.length]? with
          | none => exact Int.le_refl _
          | some x =>
            have := ht x (List.mem_of_getElem? hti)
            show (0 : Int) ≤ x
            omega) hok
    rw [begB] at h
    rw [h] at this
    cases this
/-- what the reference collects, below some bits -/
def onF (sz : List Int) (n : Int) (D : List I3) (N : Nat) : Nat → Int → List Int → List (List Int) → List (List Int) × Bool
  | 0, r, c, out => if r = 0 then (out, true) else (if okB sz c = true then out ++ [stV sz c] else out, decide ((if okB sz c = true then out ++ [stV sz c] else out).length ≤ 4000))
  | k + 1, r, c, out => if r = 0 then (out, true) else if begB sz N (c ++ [0]) = false then (out, false)
    else if (onF sz n D N k (chN n D r c.length).1 (c ++ [0]) out).2 = false then ((onF sz n D N k (chN n D r c.length).1 (c ++ [0]) out).1, false)
    else if begB sz N (c ++ [1]) = false then ((onF sz n D N k (chN n D r c.length).1 (c ++ [0]) out).1, true)
    else onF sz n D N k (chN n D r c.length).2 (c ++ [1]) (onF sz n D N k (chN n D r c.length).1 (c ++ [0]) out).1
/-- the states below some bits -/
def xsN (sz : List Int) (D : List I3) (k : Nat) (r : Int) (c : List Int) : List (List Int) := ((allB k).filter fun s => evR D (bitF c.length s) r && okB sz (c ++ s)).map fun s => stV sz (c ++ s)
theorem xs_zero (sz : List Int) (D : List I3) (k : Nat) (c : List Int) : xsN sz D k 0 c = [] := by
  rw [xsN, List.map_eq_nil_iff, List.filter_eq_nil_iff]
  intro s _
  rw [ev_zero]; simp
theorem xs_succ {sz : List Int} {n : Nat} {D : List I3} (hF : Frst D) (hO : OrdN (n : Int) D) {k : Nat} {r : Int} {c : List Int} (hr : RefB r D.length) (hc : (c.length : Int) ≤ lvlN (n : Int) D r) (hn : c.length < n) :
    xsN sz D (k + 1) r c = xsN sz D k (chN (n : Int) D r c.length).1 (c ++ [0]) ++ xsN sz D k (chN (n : Int) D r c.length).2 (c ++ [1]) := by
  obtain ⟨h1, h2, h3, h4, h5⟩ := ch_all hF hO hr hc (by omega)
  rw [xsN, allB, List.filter_append, List.map_append, List.filter_map, List.filter_map, List.map_map, List.map_map, xsN, xsN]
  congr 1
  · congr 1
    · funext s; simp
    · congr 1
      funext s
      simp only [Function.comp, List.length_append, List.length_cons, List.length_nil, List.append_assoc, List.cons_append, List.nil_append]
      rw [h5, bitF_at, if_neg (by decide), ev_bit hF hO h1 h3]
  · congr 1
    · funext s; simp
    · congr 1
      funext s
      simp only [Function.comp, List.length_append, List.length_cons, List.length_nil, List.append_assoc, List.cons_append, List.nil_append]
      rw [h5, bitF_at, if_pos (by decide), ev_bit hF hO h2 h4]
theorem on_eq {sz : List Int} {n : Nat} {D : List I3} (hF : Frst D) (hO : OrdN (n : Int) D) : ∀ (k : Nat) (r : Int) (c : List Int) (out : List (List Int)), c.length + k = n → bits01 c → begB sz n c = true → RefB r D.length → (c.length : Int) ≤ lvlN (n : Int) D r → out.length ≤ 4000 →
    (onF sz (n : Int) D n k r c out).2 = decide (out.length + (xsN sz D k r c).length ≤ 4000) ∧ ((onF sz (n : Int) D n k r c out).2 = true → (onF sz (n : Int) D n k r c out).1 = out ++ xsN sz D k r c) := by
  intro k
  induction k with
  | zero =>
    intro r c out hk hc hb hr hl ho
    by_cases h0 : r = 0
    · subst h0
      rw [onF, if_pos rfl, xs_zero]
      simp [ho]
    · have h1 : r = 1 := by
        by_cases h2 : r < 2
        · have := hr.1; omega
        · obtain ⟨q, rfl⟩ : ∃ q : Nat, r = (q : Int) + 2 := ⟨(r - 2).toNat, by omega⟩
          have hq : q < D.length := by have := hr.2; omega
          have hx := List.getElem?_eq_getElem hq
          have := (hO _ _ hx).2.1
          rw [lvl_node hx] at hl
          omega
      subst h1
      have hx : xsN sz D 0 1 c = if okB sz c = true then [stV sz c] else [] := by
        rw [xsN, allB]
        have he : evR D (bitF c.length []) 1 = true := by rw [ev_low (by omega)]; rfl
        cases hok : okB sz c
        · simp [he, hok]
        · simp [he, hok]
      rw [onF, if_neg h0, hx]
      cases hok : okB sz c
      · simp [ho]
      · simp
  | succ k ih =>
    intro r c out hk hc hb hr hl ho
    by_cases h0 : r = 0
    · subst h0
      rw [onF, if_pos rfl, xs_zero]
      simp [ho]
    · obtain ⟨h1, h2, h3, h4, h5⟩ := ch_all hF hO hr hl (by omega)
      have hc0 : bits01 (c ++ [0]) := fun x hx => by
        rcases List.mem_append.1 hx with hx | hx
        · exact hc x hx
        · simp at hx; exact .inl hx
      have hc1 : bits01 (c ++ [1]) := fun x hx => by
        rcases List.mem_append.1 hx with hx | hx
        · exact hc x hx
        · simp at hx; exact .inr hx
      have hb0 : begB sz n (c ++ [0]) = true := by
        have e : c ++ List.replicate (n - c.length) 0 = (c ++ [0]) ++ List.replicate (n - (c ++ [(0 : Int)]).length) 0 := by
          have : n - c.length = (n - (c ++ [(0 : Int)]).length) + 1 := by simp; omega
          rw [this, List.replicate_succ]; simp
        rw [begB, ← e]; exact hb
      have hl0 : (((c ++ [(0 : Int)]).length : Nat) : Int) ≤ lvlN (n : Int) D (chN (n : Int) D r c.length).1 := by simp; omega
      have hl1 : (((c ++ [(1 : Int)]).length : Nat) : Int) ≤ lvlN (n : Int) D (chN (n : Int) D r c.length).2 := by simp; omega
      obtain ⟨i1, i2⟩ := ih (chN (n : Int) D r c.length).1 (c ++ [0]) out (by simp; omega) hc0 hb0 h1 hl0 ho
      rw [onF, if_neg h0, hb0, if_neg (by decide), xs_succ hF hO hr hl (by omega)]
      generalize onF sz (n : Int) D n k (chN (n : Int) D r c.length).1 (c ++ [0]) out = A at *
      cases hA : A.2
      · rw [if_pos rfl]
        rw [hA] at i1
        have : ¬ (out.length + (xsN sz D k (chN (n : Int) D r c.length).1 (c ++ [0])).length ≤ 4000) := of_decide_eq_false i1.symm
        refine ⟨?_, fun h => by cases h⟩
        simp only [List.length_append]
        exact (decide_eq_false (by omega)).symm
      · rw [if_neg (by decide)]
        rw [hA] at i1
        have hle : out.length + (xsN sz D k (chN (n : Int) D r c.length).1 (c ++ [0])).length ≤ 4000 := of_decide_eq_true i1.symm
        have hA1 := i2 hA
        cases hb1 : begB sz n (c ++ [1])
        · rw [if_pos rfl]
          have hx1 : xsN sz D k (chN (n : Int) D r c.length).2 (c ++ [1]) = [] := by
            rw [xsN, List.map_eq_nil_iff, List.filter_eq_nil_iff]
            intro s hs
            obtain ⟨s1, s2⟩ := allB_01 hs
            rw [beg_no hc1 s2 (by simp; omega) hb1]; simp
          rw [hx1, List.append_nil]
          exact ⟨(decide_eq_true hle).symm, fun _ => hA1⟩
        · rw [if_neg (by decide)]
          obtain ⟨j1, j2⟩ := ih (chN (n : Int) D r c.length).2 (c ++ [1]) A.1 (by simp; omega) hc1 hb1 h2 hl1 (by rw [hA1, List.length_append]; omega)
          rw [hA1] at j1 j2 ⊢
          rw [j1]
          refine ⟨by simp only [List.length_append]; rw [Nat.add_assoc], fun h => ?_⟩
          rw [j2 (by rw [j1]; exact h), List.append_assoc]
/-- a size leaves room for its values -/
theorem wN_room {z : Int} (h1 : 1 ≤ z) (h2 : z ≤ 32) : z ≤ 2 ^ (wN z).toNat ∧ (wN z).toNat ≤ 5 := by
  rcases wN_cases h1 h2 with ⟨h, e⟩ | ⟨h, e⟩ | ⟨h, h', e⟩ | ⟨h, h', e⟩ | ⟨h, h', e⟩ | ⟨h, h', e⟩ <;> rw [e] <;> refine ⟨?_, by decide⟩
  · rw [h]; decide
  · rw [h]; decide
  · exact Int.le_trans h' (by decide)
  · exact Int.le_trans h' (by decide)
  · exact Int.le_trans h' (by decide)
  · exact Int.le_trans h' (by decide)
/-- values that are a state, said place by place -/
def StV : List Int → List Int → Prop
  | [], [] => True
  | z :: sz, v :: vs => 1 ≤ z ∧ z ≤ 32 ∧ 0 ≤ v ∧ v < z ∧ StV sz vs
  | _, _ => False
theorem stv_of : ∀ {sz v : List Int}, allIn 1 32 sz = true → stateB sz v = true → StV sz v
  | [], [], _, _ => trivial
  | [], y :: v, _, h => by have := stateB_len h; simp at this
  | z :: sz, [], _, h => by have := stateB_len h; simp at this
  | z :: sz, y :: v, hs, h => by
    have hl := stateB_len h
    have h1 := allIn_at hs (k := 0) (z := z) rfl
    have h2 := stateB_at h (k := 0) (x := y) (z := z) rfl rfl
    refine ⟨h1.1, h1.2, h2.1, by omega, stv_of ?_ ?_⟩
    · rw [allIn, List.all_cons, Bool.and_eq_true] at hs; exact hs.2
    · rw [stateB_eq (by simpa using hl), upB, List.all_eq_true]
      intro k hk
      obtain ⟨x, hx⟩ : ∃ x, v[k]? = some x := ⟨_, List.getElem?_eq_getElem (List.mem_range.1 hk)⟩
      obtain ⟨z', hz⟩ : ∃ z', sz[k]? = some z' := ⟨_, List.getElem?_eq_getElem (by have := List.mem_range.1 hk; simp at hl; omega)⟩
      rw [getD_of hx, hasB_yes hz]
      have := stateB_at h (k := k + 1) (x := x) (z := z') (by simpa using hx) (by simpa using hz)
      simp only [inB, Bool.and_eq_true, decide_eq_true_eq]; omega
theorem stb_cons (z y : Int) (sz v : List Int) : stBits (z :: sz) (y :: v) = bitsDn y (wN z).toNat ++ stBits sz v := by
  rw [stBits, List.zip_cons_cons, List.flatMap_cons]; rfl
theorem offN_cons (z : Int) (sz : List Int) (k : Nat) : offN (z :: sz) (k + 1) = (wN z).toNat + offN sz k := by
  rw [offN, List.take_succ_cons, List.map_cons, List.sum_cons]; rfl
theorem stb_len : ∀ {sz v : List Int}, StV sz v → (stBits sz v).length = offN sz sz.length
  | [], [], _ => rfl
  | [], _ :: _, h => by cases h
  | _ :: _, [], h => by cases h
  | z :: sz, y :: v, h => by
    obtain ⟨_, _, _, _, h⟩ := h
    rw [stb_cons, List.length_append, bitsDn_len, stb_len h, List.length_cons, offN_cons]
theorem stb_01 : ∀ {sz v : List Int}, StV sz v → bits01 (stBits sz v)
  | [], [], _ => fun x hx => by cases hx
  | [], _ :: _, h => by cases h
  | _ :: _, [], h => by cases h
  | z :: sz, y :: v, h => by
    obtain ⟨h1, h2, h3, h4, h⟩ := h
    rw [stb_cons]
    intro x hx
    rcases List.mem_append.1 hx with hx | hx
    · obtain ⟨i, hi, rfl⟩ := List.mem_map.1 hx
      have := (wN_room h1 h2).2
      exact bitAt_in h3 (by omega) (by have := List.mem_range.1 hi; omega)
    · exact stb_01 h x hx
end Go.Proofs.YtkaikbaagajckaaGreat
namespace Go.Proofs.YtkaikbaagajckaaGreat
open Go.RowKit
set_option linter.unusedVariables false
set_option linter.unusedSimpArgs false
attribute [local go_sem ↓] Go.wp_at_zero Go.wp_at_succ
/-- the diagram of a list of states, in order, with its code -/
def sdgN (sz : List Int) (K : List (List Int)) : Int × List I3 × Int × Int := lmC (offN sz sz.length : Int) (rdN (offN sz sz.length) (K.map (stBits sz))).1 (rdN (offN sz sz.length) (K.map (stBits sz))).2
theorem sv_stateB {sz v : List Int} (h : SV sz v) : stateB sz v = true := by
  rw [stateB_eq h.1, upB, List.all_eq_true]
  intro i hi
  have hi' := List.mem_range.1 hi
  have e1 := List.getElem?_eq_getElem hi'
  have e2 := List.getElem?_eq_getElem (show i < sz.length by rw [← h.1]; exact hi')
  have h1 := h.2 i _ _ e1 e2
  rw [getD_of e1, hasB_yes e2]
  simp only [inB, Bool.and_eq_true, decide_eq_true_eq]; omega
theorem sm_off {sz : List Int} (hs : allIn 1 32 sz = true) (h : smB sz = true) : offN sz sz.length ≤ 20 := by
  have h1 := of_decide_eq_true h
  have h2 := offN_full hs
  omega
theorem SRow.lsA {w : World} {lo l2 : Nat} {a : Option Addr} {n c : Nat} {l : List (QM × List Int)} (h : SRow w lo l2 a n c l) : LsA w w.heap.size a n c l := by
  refine ⟨h.row.flats, h.row.flats.lies, fun x hx => ⟨(h.each x hx).ints, ?_⟩⟩
  rcases (h.each x hx).form with ⟨_, h0, _⟩ | ⟨g, hg⟩
  · exact .inl h0
  · exact .inr fun g' off e => by
      rw [hg] at e
      cases e
      exact ((h.each x hx).blk _ hg).2
end Go.Proofs.YtkaikbaagajckaaGreat
namespace Go.Proofs.YtkaikbaagajckaaGreat
open Go.RowKit
set_option linter.unusedVariables false
set_option linter.unusedSimpArgs false
set_option maxRecDepth 100000 in
set_option maxHeartbeats 2000000 in
theorem impl_limitedC {lo p mb nc mn : Nat} {inp root : Int} {na : Option Addr} {L : List I3} {w : World} (hFor : ForA w lo p mb inp na nc mn L) (hR : Redu L) (hL : L.length ≤ 4194000) (hinp : I64 inp) (hr : RefB root L.length) :
    Calls Tryz.prog 90 #[.pointer (some ⟨p, 0, none⟩), .int .i64 root] w fun e w' => ∃ da dc, e = .returned (.tuple #[.agg #[.int .i64 (lmC inp (canN mkN L root).1 (canN mkN L root).2).1, .slice da (lmC inp (canN mkN L root).1 (canN mkN L root).2).2.1.length dc, .int .i64 (lmC inp (canN mkN L root).1 (canN mkN L root).2).2.2.1], .int .i64 (lmC inp (canN mkN L root).1 (canN mkN L root).2).2.2.2]) ∧ OwnF 3 I3.enc I3.ok 117 w' w.heap.size da (lmC inp (canN mkN L root).1 (canN mkN L root).2).2.1.length dc (lmC inp (canN mkN L root).1 (canN mkN L root).2).2.1 ∧ Below w.heap.size w w' := by
  by_cases hfew : (canN mkN L root).1.length ≤ 2000
  · rw [lmC_yes hfew]
    exact impl_limited hFor hR hL hinp hr hfew
  · have hcl := can_length hR hr
    rw [lmC_no hfew]
    have hbW := fun (o : Obj) => below_alloc1 (Below.refl w.heap.size w) o
    have HF := Lib.hid hFor
    clear hFor
    go_enter Tryz.func90, Tryz.ntmps90
    go_wp2_with fail
    refine Calls.mono (impl_canonical (HF.out.keep (hbW _)) hR hL hinp hr) ?_
    rintro e w1 ⟨da, dc, rfl, hO, hb1⟩
    have X1 := Lib.hid ((Blk.made w #[.int .i64 0, .slice none 0 0, .int .i64 0] 40).keep hb1)
    have hs1 := hb1.size
    simp at hs1
    have HB1 := Lib.hid (below_callS (hbW _) hb1)
    clear hO hb1 hbW
    have hn : (2000 : Int) < ((canN mkN L root).1.length : Int) := by omega
    have x0 := X1.out.cell 0
    have x1 := X1.out.cell 1
    have x2 := X1.out.cell 2
    have xl := X1.out.lt
    have xf := X1.out.free
    simp only [List.getElem?_toArray, List.getElem?_cons_succ, List.getElem?_cons_zero] at x0 x1 x2
    have hb0 : Below w.heap.size w w1 := HB1.out
    go_wp2
    refine bodyPost_ret (v := .tuple #[.agg #[.int .i64 0, .slice none 0 0, .int .i64 0], .int .i64 3]) (by simp [results, Tryz.results90, go_sem, *]) rfl ⟨none, 0, rfl, ⟨World.ownsRow_nil _ _ _ 3, (fun _ h => by cases h), rfl, fun _ => rfl⟩, ?_⟩
    exact bel

end Go.Proofs.YtkaikbaagajckaaGreat
