/- States sorted by the program, each once: the states in order.; The reachable states of a model in order: the program, walked.; The reference's builds of diagrams, walked: a node is made once. -/
import Derived.Test.YtkaikbaagajckaaGreatN17
import Derived.Test.YtkaikbaagajckaaGreatN14
import Derived.Test.YtkaikbaagajckaaGreatN07
import Derived.Test.YtkaikbaagajckaaGreatPu
import Derived.Test.YtkaikbaagajckaaGreatN13
import Derived.Laws.StructEq
namespace Go.Proofs.YtkaikbaagajckaaGreat
open Go.RowKit
set_option linter.unusedVariables false
set_option linter.unusedSimpArgs false
theorem own_cut {w : World} {lo g n c m : Nat} {E : TypeId} {xs : List Value} (h : w.ownsRow lo E 1 (.slice (some ⟨g, 0, none⟩) n c) n xs) (hm : m ≤ n) : w.ownsRow lo E 1 (.slice (some ⟨g, 0, none⟩) m c) m (xs.take m) := by
  obtain ⟨hl, h2⟩ := h
  refine ⟨by rw [List.length_take, hl]; omega, .inr ?_⟩
  rcases h2 with ⟨he, _⟩ | ⟨g', cap, cur, he, hb, hg, hnc, hcm, hcs, ht⟩
  · simp at he
  · simp only [Value.slice.injEq, Option.some.injEq, Addr.mk.injEq, and_true, true_and] at he
    obtain ⟨rfl, rfl⟩ := he
    refine ⟨g, c, cur, rfl, hb, hg, by omega, hcm, hcs, ?_⟩
    rw [← ht, List.take_take, Nat.mul_one, Nat.mul_one, Nat.min_eq_left hm]
theorem own_past {lo g n c : Nat} {E : TypeId} {xs : List Value} : ∀ (vs : List Value) (o : Nat) (w : World), w.ownsRow lo E 1 (.slice (some ⟨g, 0, none⟩) n c) n xs → n ≤ o → (w.setCells g o vs).ownsRow lo E 1 (.slice (some ⟨g, 0, none⟩) n c) n xs ∧ w.grownBy (w.setCells g o vs) (some g)
  | [], o, w, h, _ => ⟨h, grownBy_refl _ _⟩
  | v :: vs, o, w, h, ho => by
    have h1 := (h.stored o v).1
    rw [List.set_eq_of_length_le (by have := h.1; omega)] at h1
    obtain ⟨h2, h3⟩ := own_past vs (o + 1) _ h1 (by omega)
    exact ⟨h2, grownBy_trans (grownBy_set (grownBy_refl _ _) o v) h3⟩
theorem SRow.cut {w : World} {lo l2 g n c m : Nat} {l : List (QM × List Int)} (h : SRow w lo l2 (some ⟨g, 0, none⟩) n c l) (hm : m ≤ n) : SRow w lo l2 (some ⟨g, 0, none⟩) m c (l.take m) := by
  have h1 := own_cut h.row.1 hm
  have h2 : (l.flatMap encS).take m = (l.take m).flatMap encS := by
    have e : ∀ q : List (QM × List Int), q.flatMap encS = q.map fun x => Value.slice x.1.a x.1.n x.1.c := fun q => by
      induction q with
      | nil => rfl
      | cons y r ih => rw [List.flatMap_cons, ih]; rfl
    rw [e, e, List.map_take]
  rw [h2] at h1
  exact ⟨⟨h1, fun _ _ => trivial, by rw [List.length_take, h.len]; omega, encS_len⟩, fun x hx => h.each x (List.mem_of_mem_take hx)⟩
theorem SRow.past {w : World} {lo l2 g n c o : Nat} {l : List (QM × List Int)} (h : SRow w lo l2 (some ⟨g, 0, none⟩) n c l) (hT : 2 ≠ 22) (vs : List Value) (ho : n ≤ o) : SRow (w.setCells g o vs) lo l2 (some ⟨g, 0, none⟩) n c l ∧ w.grownBy (w.setCells g o vs) (some g) := by
  obtain ⟨h1, h2⟩ := own_past vs o w h.row.1 ho
  refine ⟨⟨⟨h1, h.row.2⟩, fun x hx => (h.each x hx).keepG h2 fun q e e2 => ?_⟩, h2⟩
  have := h.apart9 hT x hx q 0 e
  simp only [Option.some.injEq] at e2
  exact this (by rw [e2])
theorem SRow.put {w : World} {lo l2 g n c i : Nat} {l : List (QM × List Int)} (h : SRow w lo l2 (some ⟨g, 0, none⟩) n c l) (hT : 2 ≠ 22) (x : QM × List Int) (hx : x ∈ l) (hi : i < n) : SRow (w.setCell ⟨g, i, none⟩ (.slice x.1.a x.1.n x.1.c)) lo l2 (some ⟨g, 0, none⟩) n c (l.set i x) := by
  have hg : w.grownBy (w.setCell ⟨g, i, none⟩ (.slice x.1.a x.1.n x.1.c)) (some g) := grownBy_set (grownBy_refl _ _) _ _
  have hk : ∀ y ∈ l, OwnI 2 (w.setCell ⟨g, i, none⟩ (.slice x.1.a x.1.n x.1.c)) l2 y.1.a y.1.n y.1.c y.2 := fun y hy => (h.each y hy).keepG hg fun q e e2 => by
    have := h.apart9 hT y hy q 0 e
    simp only [Option.some.injEq] at e2
    exact this (by rw [e2])
  have hf : (l.flatMap encS).set i (.slice x.1.a x.1.n x.1.c) = (l.set i x).flatMap encS := by
    have e : ∀ q : List (QM × List Int), q.flatMap encS = q.map fun x => Value.slice x.1.a x.1.n x.1.c := fun q => by
      induction q with
      | nil => rfl
      | cons y r ih => rw [List.flatMap_cons, ih]; rfl
    rw [e, e, List.map_set]
  have h1 := (h.row.1.stored i (.slice x.1.a x.1.n x.1.c)).1
  rw [hf] at h1
  refine ⟨⟨h1, fun _ _ => trivial, by rw [List.length_set]; exact h.len, encS_len⟩, fun y hy => ?_⟩
  rcases List.mem_or_eq_of_mem_set hy with h2 | h2
  · exact hk y h2
  · rw [h2]; exact hk x hx
/-- the first q of a list, without those that are as the one before -/
def cpQ (l : List (QM × List Int)) : Nat → List (QM × List Int)
  | 0 => []
  | q + 1 => cpQ l q ++ match l[q]? with
    | none => []
    | some x => if q ≠ 0 ∧ (l[q - 1]?).map (·.2) = some x.2 then [] else [x]
theorem cp_one {l : List (QM × List Int)} {x : QM × List Int} (h : l[0]? = some x) : cpQ l 1 = [x] := by
  rw [cpQ, h]; simp [cpQ]
theorem cp_same {l : List (QM × List Int)} {q : Nat} {x y : QM × List Int} (hx : l[q + 1]? = some x) (hy : l[q]? = some y) (h : x.2 = y.2) : cpQ l (q + 2) = cpQ l (q + 1) := by
  rw [cpQ, hx]
  simp only [Nat.add_sub_cancel, hy, Option.map_some]
  rw [if_pos ⟨by omega, by rw [h]⟩, List.append_nil]
theorem cp_new {l : List (QM × List Int)} {q : Nat} {x y : QM × List Int} (hx : l[q + 1]? = some x) (hy : l[q]? = some y) (h : x.2 ≠ y.2) : cpQ l (q + 2) = cpQ l (q + 1) ++ [x] := by
  rw [cpQ, hx]
  simp only [Nat.add_sub_cancel, hy, Option.map_some]
  rw [if_neg (fun e => h (by simpa using e.2.symm))]
theorem cp_mem (l : List (QM × List Int)) : ∀ q, ∀ x ∈ cpQ l q, x ∈ l.take q := by
  intro q
  induction q with
  | zero => intro x h; cases h
  | succ q ih =>
    intro x h
    rw [cpQ] at h
    cases hl : l[q]? with
    | none =>
      rw [hl] at h
      simp only [List.append_nil] at h
      exact (List.take_sublist_take_left (by omega)).subset (ih x h)
    | some y =>
      rw [hl] at h
      simp only at h
      rw [take_at hl]
      rcases List.mem_append.1 h with h | h
      · exact List.mem_append_left _ (ih x h)
      · split at h
        · cases h
        · exact List.mem_append_right _ h
theorem cp_asc {m : Nat} {l : List (QM × List Int)} (hl : ∀ x ∈ l.map (·.2), x.length = m) (hp : (l.map (·.2)).Pairwise fun a b => cmpL a b ≤ 0) : ∀ q, q ≤ l.length → AscS m ((cpQ l q).map (·.2)) ∧ ∀ y, y ∈ (cpQ l q).map (·.2) ↔ y ∈ (l.take q).map (·.2) := by
  intro q
  induction q with
  | zero => intro _; exact ⟨asc_nil m, fun y => Iff.rfl⟩
  | succ q ih =>
    intro hq
    obtain ⟨i1, i2⟩ := ih (by omega)
    obtain ⟨x, hx⟩ : ∃ x, l[q]? = some x := ⟨_, List.getElem?_eq_getElem (by omega)⟩
    have hxm : x.2 ∈ l.map (·.2) := List.mem_map_of_mem (List.mem_of_getElem? hx)
    have hle : ∀ (i : Nat) (y : QM × List Int), l[i]? = some y → i < q → cmpL y.2 x.2 ≤ 0 := fun i y hy hi => by
      have h1 : (l.map (·.2))[i]? = some y.2 := by rw [List.getElem?_map, hy]; rfl
      have h2 : (l.map (·.2))[q]? = some x.2 := by rw [List.getElem?_map, hx]; rfl
      obtain ⟨a1, a2⟩ := List.getElem?_eq_some_iff.1 h1
      obtain ⟨b1, b2⟩ := List.getElem?_eq_some_iff.1 h2
      have := List.pairwise_iff_getElem.1 hp _ _ a1 b1 hi
      rw [a2, b2] at this
      exact this
    cases q with
    | zero =>
      rw [cp_one hx, take_at hx]
      refine ⟨⟨fun y hy => ?_, by simp⟩, fun y => by simp⟩
      simp at hy
      rw [hy]; exact hl _ hxm
    | succ q =>
      obtain ⟨y, hy⟩ : ∃ y, l[q]? = some y := ⟨_, List.getElem?_eq_getElem (by omega)⟩
      have hym : y.2 ∈ l.map (·.2) := List.mem_map_of_mem (List.mem_of_getElem? hy)
      rw [take_at hx, List.map_append]
      by_cases he : x.2 = y.2
      · rw [cp_same hx hy he]
        refine ⟨i1, fun z => ?_⟩
        rw [i2, List.mem_append]
        constructor
        · exact .inl
        · rintro (h | h)
          · exact h
          · simp at h
            rw [h, he]
            exact List.mem_map_of_mem (List.mem_of_getElem? (i := q) (by rw [List.getElem?_take, if_pos (by omega)]; exact hy))
      · rw [cp_new hx hy he, List.map_append]
        have hlt : ∀ z ∈ (cpQ l (q + 1)).map (·.2), cmpL z x.2 < 0 := fun z hz => by
          obtain ⟨p, hp', hpz⟩ := List.mem_map.1 ((i2 z).1 hz)
          obtain ⟨i, hi⟩ := List.getElem?_of_mem hp'
          rw [List.getElem?_take] at hi
          split at hi
          · rename_i hiq
            have h1 := hle i p hi (by omega)
            have h2 := hle q y hy (by omega)
            have h3 : cmpL y.2 x.2 ≠ 0 := fun e => he (cmpL_eq (by rw [hl _ hym, hl _ hxm]) e).symm
            rw [← hpz]
            have lp := hl p.2 (List.mem_map_of_mem (List.mem_of_getElem? hi))
            have h4 : cmpL p.2 x.2 ≠ 0 := fun e => by
              have e1 := cmpL_eq (by rw [lp, hl _ hxm]) e
              rcases Nat.lt_or_ge i q with h5 | h5
              · have h6 : (l.map (·.2))[i]? = some p.2 := by rw [List.getElem?_map, hi]; rfl
                have h7 : (l.map (·.2))[q]? = some y.2 := by rw [List.getElem?_map, hy]; rfl
                obtain ⟨a1, a2⟩ := List.getElem?_eq_some_iff.1 h6
                obtain ⟨b1, b2⟩ := List.getElem?_eq_some_iff.1 h7
                have h8 := List.pairwise_iff_getElem.1 hp _ _ a1 b1 h5
                rw [a2, b2, e1] at h8
                have := cmpL_anti y.2 x.2
                omega
              · have : i = q := by omega
                subst this
                rw [hi] at hy
                cases hy
                exact he e1.symm
            omega
          · cases hi
        refine ⟨⟨fun z hz => ?_, ?_⟩, fun z => ?_⟩
        · rcases List.mem_append.1 hz with h | h
          · exact i1.1 z h
          · simp at h; rw [h]; exact hl _ hxm
        · rw [List.pairwise_append]
          exact ⟨i1.2, by simp, fun a ha b hb => by simp at hb; rw [hb]; exact hlt a ha⟩
        · rw [List.mem_append, List.mem_append, i2]
theorem cp_all {m : Nat} {l : List (QM × List Int)} (hl : ∀ x ∈ l.map (·.2), x.length = m) (hp : (l.map (·.2)).Pairwise fun a b => cmpL a b ≤ 0) : (cpQ l l.length).map (·.2) = srtS (l.map (·.2)) := by
  obtain ⟨h1, h2⟩ := cp_asc hl hp l.length (Nat.le_refl _)
  exact srt_of hl h1 fun y => by rw [h2, List.take_length]
/-- a list that is being made compact: q looked at, the first k kept -/
structure CpI (l M : List (QM × List Int)) (q k : Nat) : Prop where
  len : M.length = l.length
  kept : M.take k = cpQ l q
  few : k + 1 ≤ q
  rest : ∀ i, q ≤ i + 1 → M[i]? = l[i]?
  mem : ∀ x ∈ M, x ∈ l
theorem CpI.skip {l M : List (QM × List Int)} {q k : Nat} {x y : QM × List Int} (h : CpI l M (q + 1) k) (hx : l[q + 1]? = some x) (hy : l[q]? = some y) (he : x.2 = y.2) : CpI l M (q + 2) k :=
  ⟨h.len, by rw [cp_same hx hy he]; exact h.kept, by have := h.few; omega, fun i hi => h.rest i (by omega), h.mem⟩
theorem CpI.step {l M : List (QM × List Int)} {q k : Nat} {x y : QM × List Int} (h : CpI l M (q + 1) k) (hx : l[q + 1]? = some x) (hy : l[q]? = some y) (he : x.2 ≠ y.2) : CpI l (M.set k x) (q + 2) (k + 1) := by
  have hk := h.few
  have hql := (List.getElem?_eq_some_iff.1 hx).1
  have hkl : k < M.length := by rw [h.len]; omega
  refine ⟨by rw [List.length_set]; exact h.len, ?_, by omega, fun i hi => ?_, fun z hz => ?_⟩
  · rw [cp_new hx hy he, ← h.kept, List.take_add_one, List.take_set_of_le (Nat.le_refl _), List.getElem?_set_self hkl]
    rfl
  · rw [List.getElem?_set_ne (by omega)]
    exact h.rest i (by omega)
  · rcases List.mem_or_eq_of_mem_set hz with h1 | h1
    · exact h.mem z h1
    · rw [h1]; exact List.mem_of_getElem? hx
theorem zeroSl9 (w : World) : (zeroValue 22).run Tryz.prog w = .ok (.slice none 0 0) w := by
  obtain ⟨i, hi, hz0, _⟩ := info_parts Tryz.infosl
  simp [zeroValue, typeInfo, hi, hz0]
theorem Touch.of_grown {w w' : World} {g : Nat} (h : w.grownBy w' (some g)) : Touch w w' 1 (some ⟨g, 0, none⟩) := ⟨some g, h, fun b e => by cases e; exact ⟨by decide, rfl⟩⟩
set_option maxHeartbeats 8000000 in
theorem slices_CompactFunc_G {m lo l2 n c : Nat} {a : Option Addr} {l : List (QM × List Int)} {w : World} (hO : SRow w lo l2 a n c l) (hE : ∀ x ∈ l, x.1.n = m) (hn : n ≤ 1048576) (hm : m ≤ 1048576) (hlo : lo ≤ w.heap.size) :
    Calls Tryz.prog 186 #[.slice a n c, .func (.func 187) #[] #[]] w fun e w' => ∃ k, e = .returned (.slice a k c) ∧ SRow w' lo l2 a k c (cpQ l n) ∧ Below lo w w' ∧ Touch w w' 1 a := by
  have hln := hO.len
  have HE := Lib.hid hE
  by_cases h2 : n < 2
  · have h2' : (n : Int) < 2 := by omega
    have hcp : cpQ l n = l := by
      rcases (show n = 0 ∨ n = 1 by omega) with h | h
      · subst h
        rw [List.eq_nil_of_length_eq_zero hln]; rfl
      · subst h
        obtain ⟨x, rfl⟩ := List.length_eq_one_iff.1 hln
        exact cp_one rfl
    have HO := Lib.hid hO
    have HC := Lib.hid hcp
    clear hO hE hcp
    go_enter Tryz.func186, Tryz.ntmps186
    go_wp2
    go_ret
    exact ⟨n, rfl, by rw [HC.out]; exact HO.out, Below.refl _ _, none, grownBy_refl _ _, fun b e => by cases e⟩
  · have h2' : ¬ (n : Int) < 2 := by omega
    obtain ⟨g, rfl⟩ := hO.row.shape (by omega)
    have hcap := hO.row.flats.cap
    have HO := Lib.hid hO
    have HL := Lib.hid hln
    obtain ⟨x0, hx0⟩ : ∃ x, l[0]? = some x := ⟨_, List.getElem?_eq_getElem (by omega)⟩
    have H0 := Lib.hid (show cpQ l 1 = l.take 1 by rw [cp_one hx0, take_at hx0]; rfl)
    clear hO hE hx0 hln
    go_enter Tryz.func186, Tryz.ntmps186
    go_wp2_with fail
    go_loopw [5] (fun s5 wr => ∃ j : Nat, s5 = .int .i64 j ∧ 1 ≤ j ∧ j ≤ n ∧ lo ≤ wr.heap.size ∧ Hid (Below lo w wr) ∧ Hid (w.grownBy wr (some g)) ∧ Hid (SRow wr lo l2 (some ⟨g, 0, none⟩) n c l) ∧ Hid (cpQ l j = l.take j)) (fun s5 _ => n - (intOf s5).toNat)
    case atStart => exact ⟨1, rfl, by omega, by omega, hlo, Lib.hid (Below.refl _ _), Lib.hid (grownBy_refl _ _), HO, H0⟩
    case round =>
      clear HO H0
      obtain ⟨j, rfl, hj1, hj, hlr, HB, HG, SR, CP⟩ := hrel
      by_cases hlt : j < n
      · obtain ⟨k, rfl⟩ : ∃ k, j = k + 1 := ⟨j - 1, by omega⟩
        have hlt' : ((k : Int) + 1) < (n : Int) := by omega
        have hk0 : (0 : Int) ≤ (k : Int) := by omega
        have hk1 : (0 : Int) ≤ (k : Int) + 1 := by omega
        have hkn : (k : Int) < (n : Int) := by omega
        have hw1 : IntKind.i64.wrap (k : Int) = (k : Int) := IntWalk.i64_in _ (by omega)
        obtain ⟨b, off, R, xv, he, hb, hx, hxo, c1⟩ := SR.out.get hlt
        simp only [Option.some.injEq, Addr.mk.injEq, and_true] at he
        obtain ⟨rfl, rfl⟩ := he
        obtain ⟨b', off', R', yv, he, _, hy, hyo, c0⟩ := SR.out.get (show k < n by omega)
        simp only [Option.some.injEq, Addr.mk.injEq, and_true] at he
        obtain ⟨rfl, rfl⟩ := he
        have hxn := HE.out _ (List.mem_of_getElem? hx)
        have hyn := HE.out _ (List.mem_of_getElem? hy)
        simp only at hxn hyn
        have KE := Lib.hid (fun (wx : World) (hb : Below wr.heap.size wr wx) => (show Calls Tryz.prog 187 #[.slice R.a R.n R.c, .slice R'.a R'.n R'.c] wx (fun e w' => e = .returned (.bool (xv == yv)) ∧ Below wx.heap.size wx w') by
          have h := slices_Equal_i64 (n := m) (by have := hxo.ints.keep hb; rw [hxn] at this; exact this) (by have := hyo.ints.keep hb; rw [hyn] at this; exact this) hm
          rw [hxn, hyn]
          exact h))
        have hbr : Below wr.heap.size wr wr := Below.refl _ _
        simp only [Nat.zero_add] at c0 c1
        by_cases hxy : xv = yv
        · have HS := Lib.hid (cp_same hx hy hxy)
          rw [show (xv == yv) = true by simpa using hxy] at KE
          have CI := Lib.hid (show CpI l l (k + 1 + 1) (k + 1) from ⟨rfl, by rw [HS.out, CP.out], by omega, fun i hi => rfl, fun x h => h⟩)
          have hck : ¬ c = k + 1 := by omega
          have hkc : ((k : Int) + 1) ≤ (c : Int) := by omega
          have hnc : (n : Int) ≤ (c : Int) := by omega
          have hkn1 : ((k : Int) + 1) ≤ (n : Int) := by omega
          clear hx hy hxo hyo hxn hyn HS CP hxy
          go_wp2_with fail
          go_region_held3 (fun wx => wx.cell? ⟨g, k + 1, none⟩ = some (.slice R.a R.n R.c) ∧ wx.cell? ⟨g, k, none⟩ = some (.slice R'.a R'.n R'.c) ∧ g < wx.heap.size ∧ Below wr.heap.size wr wx) (((try go_split_ands); (repeat' apply And.intro) <;> first | (with_reducible assumption) | (with_reducible exact cell_drew (by with_reducible assumption)) | (with_reducible exact lt_drew (by with_reducible assumption)) | (with_reducible exact Below.drew (by with_reducible assumption)) | (with_reducible exact (hcx _ _ (by with_reducible assumption)).trans (by with_reducible assumption)) | (with_reducible exact Nat.lt_of_lt_of_le (by with_reducible assumption) hsx) | (with_reducible exact below_callS (by with_reducible assumption) hbx) | omega)) (first | (go_at_call 187; go_split_ands; refine Calls.mono (KE.out _ (by assumption)) ?_; rintro e w6 ⟨rfl, hbx⟩; obtain ⟨hcx, hfx⟩ := bcell hbx; have hsx := hbx.size))
          have hb7 : Below wr.heap.size wr w6 := by go_split_ands; assumption
          have HB7 := Lib.hid (below_call HB.out hb7 hlr)
          have HG7 := Lib.hid (grownBy_trans HG.out (grownBy_below hb7 _))
          have SR7 := Lib.hid (SR.out.keep hb7)
          have hs7 := hb7.size
          clear hb7 hbx hcx hfx hsx hbr KE c0 c1 hb SR HB HG
          go_split_ands
          go_wp2_with fail
          go_loopw [5, 7] (fun s5 s7 wi => ∃ (kk q : Nat) (M : List (QM × List Int)), s5 = .int .i64 kk ∧ s7 = .int .i64 ((q : Int) + 1) ∧ k + 1 + (q + 1) ≤ n ∧ lo ≤ wi.heap.size ∧ Hid (Below lo w wi) ∧ Hid (w.grownBy wi (some g)) ∧ Hid (SRow wi lo l2 (some ⟨g, 0, none⟩) n c M) ∧ Hid (CpI l M (k + 1 + q + 1) kk)) (fun _ s7 _ => n - (intOf s7).toNat)
          case atStart => exact ⟨k + 1, 0, l, by go_num, by go_num, by omega, by omega, HB7, HG7, SR7, CI⟩
          case round =>
            clear HB7 HG7 SR7 CI hs7 hlr
            obtain ⟨kk, q, M, rfl, rfl, hle, hlri, HBi, HGi, Si, CI⟩ := hrel
            have hfew := CI.out.few
            have hkk0 : (0 : Int) ≤ (kk : Int) := by omega
            have hq0 : (0 : Int) ≤ (q : Int) := by omega
            have hq1 : (0 : Int) ≤ (q : Int) + 1 := by omega
            have hwq : IntKind.i64.wrap (q : Int) = (q : Int) := IntWalk.i64_in _ (by omega)
            have hkkn : (kk : Int) < (n : Int) := by omega
            have hkkc : (kk : Int) ≤ (c : Int) := by omega
            have hkkn1 : (kk : Int) ≤ (n : Int) := by omega
            have hckk : ¬ c = kk := by omega
            by_cases hlt2 : k + 1 + (q + 1) < n
            · have hA : (q : Int) + 1 < ((n - (k + 1) : Nat) : Int) := by omega
              have hA2 : (q : Int) < ((n - (k + 1) : Nat) : Int) := by omega
              obtain ⟨b, off, R2, xv, he, hb, hx, hxo, c1⟩ := Si.out.get hlt2
              simp only [Option.some.injEq, Addr.mk.injEq, and_true] at he
              obtain ⟨rfl, rfl⟩ := he
              obtain ⟨b, off, R3, yv, he, _, hy, hyo, c0⟩ := Si.out.get (show k + 1 + q < n by omega)
              simp only [Option.some.injEq, Addr.mk.injEq, and_true] at he
              obtain ⟨rfl, rfl⟩ := he
              obtain ⟨b, off, R4, zv, he, _, _, _, ck⟩ := Si.out.get (show kk < n by omega)
              simp only [Option.some.injEq, Addr.mk.injEq, and_true] at he
              obtain ⟨rfl, rfl⟩ := he
              have fk := Si.out.row.free kk
              have hxl : l[k + 1 + q + 1]? = some (R2, xv) := by rw [← CI.out.rest _ (by omega)]; exact hx
              have hyl : l[k + 1 + q]? = some (R3, yv) := by rw [← CI.out.rest _ (by omega)]; exact hy
              have hxn := HE.out _ (List.mem_of_getElem? hxl)
              have hyn := HE.out _ (List.mem_of_getElem? hyl)
              simp only at hxn hyn
              have KE := Lib.hid (fun (wx : World) (hb : Below wr.heap.size wr wx) => (show Calls Tryz.prog 187 #[.slice R2.a R2.n R2.c, .slice R3.a R3.n R3.c] wx (fun e w' => e = .returned (.bool (xv == yv)) ∧ Below wx.heap.size wx w') by
                have h := slices_Equal_i64 (n := m) (by have := hxo.ints.keep hb; rw [hxn] at this; exact this) (by have := hyo.ints.keep hb; rw [hyn] at this; exact this) hm
                rw [hxn, hyn]
                exact h))
              have hbr : Below wr.heap.size wr wr := Below.refl _ _
              simp only [Nat.zero_add] at c0 c1 ck
              have MX := Lib.hid (show (R2, xv) ∈ M from List.mem_of_getElem? hx)
              by_cases hxy : xv = yv
              · have CI2 := Lib.hid (CI.out.skip hxl hyl hxy)
                rw [show (xv == yv) = true by simpa using hxy] at KE
                clear hx hy hxo hyo hxn hyn hxl hyl hxy CI ck fk
                go_wp2_with fail
                go_region_held3 (fun wx => wx.cell? ⟨g, k + 1 + (q + 1), none⟩ = some (.slice R2.a R2.n R2.c) ∧ wx.cell? ⟨g, k + 1 + q, none⟩ = some (.slice R3.a R3.n R3.c) ∧ g < wx.heap.size ∧ Below wr.heap.size wr wx) (((try go_split_ands); (repeat' apply And.intro) <;> first | (with_reducible assumption) | (with_reducible exact cell_drew (by with_reducible assumption)) | (with_reducible exact lt_drew (by with_reducible assumption)) | (with_reducible exact Below.drew (by with_reducible assumption)) | (with_reducible exact (hcx _ _ (by with_reducible assumption)).trans (by with_reducible assumption)) | (with_reducible exact Nat.lt_of_lt_of_le (by with_reducible assumption) hsx) | (with_reducible exact below_callS (by with_reducible assumption) hbx) | omega)) (first | (go_at_call 187; go_split_ands; refine Calls.mono (KE.out _ (by assumption)) ?_; rintro e w6 ⟨rfl, hbx⟩; obtain ⟨hcx, hfx⟩ := bcell hbx; have hsx := hbx.size))
                have hb7 : Below wr.heap.size wr w6 := by go_split_ands; assumption
                have HB7 := Lib.hid (below_call HBi.out hb7 hlri)
                have HG7 := Lib.hid (grownBy_trans HGi.out (grownBy_below hb7 _))
                have SR7 := Lib.hid (Si.out.keep hb7)
                have hs7 := hb7.size
                clear hb7 hbx hcx hfx hsx hbr KE c0 c1 hb Si HBi HGi
                go_split_ands
                go_wp2_with fail
                go_roundw
                case rel => exact ⟨kk, q + 1, M, by go_num, by go_num, by omega, by omega, HB7, HG7, SR7, CI2⟩
                case measure => simp [intOf]; omega
              · have CI2 := Lib.hid (CI.out.step hxl hyl hxy)
                rw [show (xv == yv) = false by simpa using hxy] at KE
                clear hx hy hxo hyo hxn hyn hxl hyl hxy CI
                go_wp2_with fail
                go_region_held3 (fun wx => wx.cell? ⟨g, k + 1 + (q + 1), none⟩ = some (.slice R2.a R2.n R2.c) ∧ wx.cell? ⟨g, k + 1 + q, none⟩ = some (.slice R3.a R3.n R3.c) ∧ g < wx.heap.size ∧ Below wr.heap.size wr wx) (((try go_split_ands); (repeat' apply And.intro) <;> first | (with_reducible assumption) | (with_reducible exact cell_drew (by with_reducible assumption)) | (with_reducible exact lt_drew (by with_reducible assumption)) | (with_reducible exact Below.drew (by with_reducible assumption)) | (with_reducible exact (hcx _ _ (by with_reducible assumption)).trans (by with_reducible assumption)) | (with_reducible exact Nat.lt_of_lt_of_le (by with_reducible assumption) hsx) | (with_reducible exact below_callS (by with_reducible assumption) hbx) | omega)) (first | (go_at_call 187; go_split_ands; refine Calls.mono (KE.out _ (by assumption)) ?_; rintro e w6 ⟨rfl, hbx⟩; obtain ⟨hcx, hfx⟩ := bcell hbx; have hsx := hbx.size))
                have hb7 : Below wr.heap.size wr w6 := by go_split_ands; assumption
                obtain ⟨hc7, hf7⟩ := bcell hb7
                have d1 := (hc7 _ _ hb).trans c1
                have dk := (hc7 _ _ hb).trans ck
                have gk := (hf7 g kk hb).trans fk
                have dl := Nat.lt_of_lt_of_le hb hb7.size
                have HB7 := Lib.hid (below_call HBi.out hb7 hlri)
                have HG7 := Lib.hid (grownBy_trans HGi.out (grownBy_below hb7 _))
                have SR7 := Lib.hid (Si.out.keep hb7)
                have hs7 := hb7.size
                have hlb := (SR7.out.row.blk g rfl).1
                clear hb7 hbx hcx hfx hsx hbr KE c0 c1 hb Si HBi HGi hc7 hf7 ck fk
                go_split_ands
                go_wp2_with fail
                have hG8 := Lib.hid (grownBy_set HG7.out kk (.slice R2.a R2.n R2.c))
                have S8 := Lib.hid (SR7.out.put (by decide) (R2, xv) MX.out (show kk < n by omega))
                have HB8 := Lib.hid ((Below.refl lo w).grown hG8.out hlo (fun z e => by cases e; exact hlb))
                go_roundw
                case rel => exact ⟨kk + 1, q + 1, _, by go_num, by go_num, by omega, by simp; omega, HB8, hG8, S8, CI2⟩
                case measure => simp [intOf]; omega
            · have hend : k + 1 + q + 1 = n := by omega
              have hA : ¬ (q : Int) + 1 < ((n - (k + 1) : Nat) : Int) := by omega
              have hcl : ∀ ty, (Builtin.clear_ #[31] ty #[.slice (some ⟨g, kk, none⟩) (n - kk) (c - kk)]).run Tryz.prog wr = .ok (.tuple #[]) (wr.setCells g kk (List.replicate (n - kk) (.slice none 0 0))) :=
                fun ty => Lib.run_clear_slice wr _ _ ty (.slice none 0 0) Tryz.underlying31 zeroSl9 rfl rfl g kk _ _ (by omega) (fun j hj => by
                  obtain ⟨b, off, R4, zv, he, _, _, _, ck⟩ := Si.out.get (show kk + j < n by omega)
                  simp only [Option.some.injEq, Addr.mk.injEq, and_true] at he
                  obtain ⟨rfl, rfl⟩ := he
                  simp only [Nat.zero_add] at ck
                  rw [ck]; rfl) (fun j hj => Si.out.row.free (kk + j))
              have hlb := (Si.out.row.blk g rfl).1
              have hcut := Si.out.cut (m := kk) (by omega)
              obtain ⟨hS9, hG9⟩ := hcut.past (by decide) (List.replicate (n - kk) (.slice none 0 0)) (Nat.le_refl kk)
              have hk9 := CI.out.kept
              rw [hend] at hk9
              rw [hk9] at hS9
              have S9 := Lib.hid hS9
              have HG9 := Lib.hid (grownBy_trans HGi.out hG9)
              have HB9 := Lib.hid ((Below.refl lo w).grown HG9.out hlo (fun z e => by cases e; exact hlb))
              clear hS9 hG9 hcut hk9 Si HGi HBi CI
              go_wp2
              go_ret
              exact ⟨kk, rfl, S9.out, HB9.out, Touch.of_grown HG9.out⟩
        · have HS := Lib.hid (cp_new hx hy hxy)
          rw [show (xv == yv) = false by simpa using hxy] at KE
          have HC := Lib.hid (show cpQ l (k + 2) = l.take (k + 2) by rw [HS.out, CP.out, take_at (k := k + 1) hx])
          clear hx hy hxo hyo hxn hyn HS CP hxy
          go_wp2_with fail
          go_region_held3 (fun wx => wx.cell? ⟨g, k + 1, none⟩ = some (.slice R.a R.n R.c) ∧ wx.cell? ⟨g, k, none⟩ = some (.slice R'.a R'.n R'.c) ∧ g < wx.heap.size ∧ Below wr.heap.size wr wx) (((try go_split_ands); (repeat' apply And.intro) <;> first | (with_reducible assumption) | (with_reducible exact cell_drew (by with_reducible assumption)) | (with_reducible exact lt_drew (by with_reducible assumption)) | (with_reducible exact Below.drew (by with_reducible assumption)) | (with_reducible exact (hcx _ _ (by with_reducible assumption)).trans (by with_reducible assumption)) | (with_reducible exact Nat.lt_of_lt_of_le (by with_reducible assumption) hsx) | (with_reducible exact below_callS (by with_reducible assumption) hbx) | omega)) (first | (go_at_call 187; go_split_ands; refine Calls.mono (KE.out _ (by assumption)) ?_; rintro e w6 ⟨rfl, hbx⟩; obtain ⟨hcx, hfx⟩ := bcell hbx; have hsx := hbx.size))
          have hb7 : Below wr.heap.size wr w6 := by go_split_ands; assumption
          have HB7 := Lib.hid (below_call HB.out hb7 hlr)
          have HG7 := Lib.hid (grownBy_trans HG.out (grownBy_below hb7 _))
          have SR7 := Lib.hid (SR.out.keep hb7)
          have hs7 := hb7.size
          clear hb7 hbx hcx hfx hsx hbr KE c0 c1 hb SR HB HG
          go_split_ands
          go_wp2_with fail
          go_roundw
          case rel => exact ⟨k + 2, by go_num, by omega, by omega, by omega, HB7, HG7, SR7, HC⟩
          case measure => simp [intOf]; omega
      · obtain rfl : n = j := by omega
        have hlt' : ¬ (n : Int) < (n : Int) := by omega
        have HF := Lib.hid (show cpQ l n = l by rw [CP.out, List.take_of_length_le (by rw [HL.out]; exact Nat.le_refl _)])
        go_wp2
        go_ret
        exact ⟨n, rfl, by rw [HF.out]; exact SR.out, HB.out, Touch.of_grown HG.out⟩
set_option maxHeartbeats 1000000 in
theorem impl_sortedG {m lo l2 n c : Nat} {a : Option Addr} {l : List (QM × List Int)} {w : World} (hO : SRow w lo l2 a n c l) (hE : ∀ x ∈ l, x.1.n = m) (hn : n ≤ 1048576) (hm : m ≤ 1048576) (hlo : lo ≤ w.heap.size) :
    Calls Tryz.prog 131 #[.slice a n c] w fun e w' => ∃ n2, e = .returned (.slice a n2 c) ∧ n2 ≤ n ∧ ∃ l', SRow w' lo l2 a n2 c l' ∧ (∀ x ∈ l', x.1.n = m) ∧ l'.map (·.2) = srtS (l.map (·.2)) ∧ Below lo w w' ∧ Touch w w' 1 a := by
  have HL := Lib.hid (show ∀ x ∈ l.map (·.2), x.length = m from fun x hx => by
    obtain ⟨y, hy, rfl⟩ := List.mem_map.1 hx
    rw [(hO.each y hy).ints.len, hE y hy])
  by_cases h0 : 0 < n
  · obtain ⟨g, rfl⟩ := hO.row.shape h0
    have K1 := Lib.hid (sort_R hO hE h0 hn hm)
    clear hO hE
    go_enter Tryz.func131, Tryz.ntmps131
    go_wp2_with fail
    refine Calls.mono K1.out ?_
    rintro e w1 ⟨rfl, l', hS, hE', hp, hpw, hb1, hg1⟩
    have hs1 := hb1.size
    have hl'n := hS.len
    have hmem : ∀ y, y ∈ l'.map (·.2) ↔ y ∈ l.map (·.2) := fun y => hp.mem_iff
    have hsr : (cpQ l' l'.length).map (·.2) = srtS (l.map (·.2)) := by
      rw [cp_all (fun x hx => HL.out x ((hmem x).1 hx)) hpw]
      exact srt_of HL.out (srt_asc fun x hx => HL.out x ((hmem x).1 hx)) fun y => (srt_mem (fun x hx => HL.out x ((hmem x).1 hx)) y).trans (hmem y)
    rw [hl'n] at hsr
    have HCP := Lib.hid (fun x (hx : x ∈ cpQ l' n) => hE' x (List.mem_of_mem_take (cp_mem l' n x hx)))
    have K2 := Lib.hid (slices_CompactFunc_G hS hE' hn hm (Nat.le_trans hlo hs1))
    have HSR := Lib.hid hsr
    have HB1 := Lib.hid hb1
    have HG1 := Lib.hid hg1
    have hcl : (cpQ l' n).length ≤ n := by
      have h1 : ∀ q, (cpQ l' q).length ≤ q := by
        intro q
        induction q with
        | zero => exact Nat.le_refl _
        | succ q ih =>
          rw [cpQ, List.length_append]
          have : (match l'[q]? with
            | none => []
            | some x => if q ≠ 0 ∧ (l'[q - 1]?).map (·.2) = some x.2 then [] else [x] : List (QM × List Int)).length ≤ 1 := by
            split
            · simp
            · split <;> simp
          omega
      exact h1 n
    clear K1 hS hp hpw hsr hE' hmem hb1 hg1
    go_wp2_with fail
    refine Calls.mono K2.out ?_
    rintro e w2 ⟨n2, rfl, hS2, hb2, r, hg2, hr2⟩
    have hb3 := HB1.out.trans hb2
    have S2 := Lib.hid hS2
    have hn2 : n2 ≤ n := by rw [← hS2.len]; exact hcl
    have ht : Touch w w2 1 (some ⟨g, 0, none⟩) := by
      refine Touch.of_grown ?_
      rcases r with _ | r
      · exact grownBy_trans HG1.out ⟨hg2.os, hg2.tape, hg2.output, hg2.size, fun k hk _ => hg2.block k hk (by simp)⟩
      · have := (hr2 r rfl).2
        simp only [Option.some.injEq, Addr.mk.injEq, and_true] at this
        subst this
        exact grownBy_trans HG1.out hg2
    clear hS2 hg2 hr2 hb2
    go_wp2
    go_ret
    exact ⟨n2, rfl, hn2, _, S2.out, HCP.out, HSR.out, hb3, ht⟩
  · obtain rfl : n = 0 := by omega
    have hl : l = [] := List.eq_nil_of_length_eq_zero hO.len
    subst hl
    have K2 := Lib.hid (slices_CompactFunc_G hO hE hn hm hlo)
    have K1 := Lib.hid (Tryz.slices_SortFunc_none (α := Nat) a c (.func (.func 185) #[] #[]) w)
    clear hO hE
    go_enter Tryz.func131, Tryz.ntmps131
    go_wp2_with fail
    refine Calls.mono K1.out ?_
    rintro e _ ⟨rfl, rfl⟩
    go_wp2_with fail
    refine Calls.mono K2.out ?_
    rintro e w2 ⟨n2, rfl, hS2, hb2, ht2⟩
    have hn2 : n2 = 0 := by rw [← hS2.len]; rfl
    subst hn2
    have S2 := Lib.hid hS2
    clear hS2
    go_wp2
    go_ret
    exact ⟨0, rfl, Nat.le_refl _, _, S2.out, (fun x hx => by cases hx), rfl, hb2, ht2⟩

theorem Blk.made1 (w : World) (o : Obj) (cs : Array Value) (T : TypeId) : Blk ((w.alloc o).alloc (.cells cs T)) (w.heap.size + 1) cs T := by
  have h := Blk.made (w.alloc o) cs T
  simpa using h
theorem Blk.made2 (w : World) (o o' : Obj) (cs : Array Value) (T : TypeId) : Blk (((w.alloc o).alloc o').alloc (.cells cs T)) (w.heap.size + 1 + 1) cs T := by
  have h := Blk.made ((w.alloc o).alloc o') cs T
  simpa using h
theorem below_alloc1 {w w' : World} (h : Below w.heap.size w w') (o : Obj) : Below w.heap.size w (w'.alloc o) := h.alloc h.size o
theorem Blk.keepN {w w' : World} {b c : Nat} {cs : Array Value} {T : TypeId} (h : Blk w b cs T) (hg : w.grownBy w' (some c)) (hr : c ≠ b) : Blk w' b cs T := h.keepG hg (fun e => hr (Option.some.inj e))
set_option maxRecDepth 100000 in
@[go_sem] theorem eqNode (x y z u v t : Int) (w : World) : (Op.equalIn 10000 117 (.agg #[.int .i64 x, .int .i64 y, .int .i64 z]) (.agg #[.int .i64 u, .int .i64 v, .int .i64 t])).run Tryz.prog w = .ok (x == u && (y == v && z == t)) w := by
  have u3 := Tryz.underlying2
  have a3 := Tryz.isAgg2
  have z3 := Tryz.sizeOf2
  have hS : Tryz.prog.underlying 117 = some (.struct (Tryz.prog.fieldsOf 117)) := by kernel_rfl
  have hp : Tryz.prog.stoodInHeld 117 = false := by kernel_rfl
  rw [show (10000 : Nat) = 9999 + 1 from rfl, run_equalIn_agg w 9999 117 _ _ hS hp]
  simp only [Program.fieldsOf, Tryz.underlying117]
  go_simp
  by_cases h1 : x = u <;> by_cases h2 : y = v <;> by_cases h3 : z = t <;> simp [h1, h2, h3]
/-- block p is a build of the call's own (from block lo on) with these nodes -/
structure BldA (w : World) (lo p : Nat) (na : Option Addr) (nc : Nat) (L : List I3) : Prop where
  blk : Blk w p #[.slice na L.length nc] 110
  own : OwnF 3 I3.enc I3.ok 117 w lo na L.length nc L
  lop : lo ≤ p
theorem BldA.keep {w w' : World} {lo p : Nat} {na : Option Addr} {nc : Nat} {L : List I3} (h : BldA w lo p na nc L) (hb : Below w.heap.size w w') : BldA w' lo p na nc L := ⟨h.blk.keep hb, h.own.keep hb, h.lop⟩
set_option maxRecDepth 100000 in
set_option maxHeartbeats 4000000 in
theorem spec_l22Node {lo p nc : Nat} {i a b : Int} {na : Option Addr} {L : List I3} {w : World} (hB : BldA w lo p na nc L) (hL : L.length ≤ 1048600) (hi : I64 i) (ha : I64 a) (hb : I64 b) (hlo : lo ≤ w.heap.size) :
    Calls Tryz.prog 179 #[.pointer (some ⟨p, 0, none⟩), .int .i64 i, .int .i64 a, .int .i64 b] w fun e w' => e = .returned (.int .i64 (mkN L i a b).2) ∧ (∃ na' nc', BldA w' lo p na' nc' (mkN L i a b).1) ∧ FrF lo p p w w' := by
  by_cases hab : a = b
  · subst hab
    have e1 : (a == a) = true := by simp
    have HM := Lib.hid (mkN_eq (L := L) (i := i) (rfl : a = a))
    have HF := Lib.hid hB
    clear hB
    go_enter Tryz.func179, Tryz.ntmps179
    go_wp2
    go_ret
    exact ⟨by rw [HM.out]; rfl, ⟨_, _, by rw [HM.out]; exact HF.out⟩, FrF.refl _ _ _ _⟩
  · have e1 : (a == b) = false := by simpa using hab
    have HNE := Lib.hid hab
    have hx : I3.ok ⟨i, a, b⟩ := ⟨hi, ha, hb⟩
    have hbW : Below w.heap.size w (w.alloc (.cells #[.int .i64 i, .int .i64 a, .int .i64 b] 117)) := bel
    have N0 := Lib.hid (Blk.made w #[.int .i64 i, .int .i64 a, .int .i64 b] 117)
    have B0 := Lib.hid (hB.keep hbW)
    have HF := Lib.hid hB
    clear hB hab
    go_enter Tryz.func179, Tryz.ntmps179
    go_wp2_with fail
    go_loopw [10] (fun s10 wr => ∃ j : Nat, s10 = .int .i64 j ∧ j ≤ L.length ∧ w.heap.size + 1 ≤ wr.heap.size ∧ Hid (Below w.heap.size w wr) ∧ Hid (Blk wr w.heap.size #[.int .i64 i, .int .i64 a, .int .i64 b] 117) ∧ Hid (∀ q, q < j → L[q]? ≠ some ⟨i, a, b⟩)) (fun s10 _ => L.length - (intOf s10).toNat)
    case atStart => exact ⟨0, rfl, by omega, by simp, Lib.hid hbW, N0, Lib.hid fun q h => by omega⟩
    case round =>
      clear N0 B0 hbW
      obtain ⟨j, rfl, hj, hsr, HB, N, A⟩ := hrel
      have B := Lib.hid (HF.out.keep HB.out)
      have p0 := B.out.blk.cell 0
      have pl := B.out.blk.lt
      simp at p0
      by_cases hlt : j < L.length
      · have hlt' : (j : Int) < (L.length : Int) := by omega
        have hj0 : (0 : Int) ≤ (j : Int) := by omega
        obtain ⟨bn, on, y, rfl, hbn, hy, _, c0, c1, c2⟩ := F3.get B.out.own.flats hlt
        have n0 := N.out.cell 0
        have n1 := N.out.cell 1
        have n2 := N.out.cell 2
        have nl := N.out.lt
        simp at n0 n1 n2
        have HY := Lib.hid hy
        clear hy
        by_cases he : y = ⟨i, a, b⟩
        · have HM := Lib.hid (mkN_old HNE.out (posN_hit (he ▸ HY.out) A.out))
          subst he
          go_wp2_with fail
          go_quiet (fail)
          go_wp2
          go_ret
          have hbe : Below w.heap.size w wr := HB.out
          refine ⟨by rw [HM.out]; rfl, ⟨some ⟨bn, on, none⟩, nc, ?_⟩, FrF.of_below (below_drewN hbe _)⟩
          rw [HM.out]
          exact (HF.out.keep hbe).keep (below_drewN (Below.refl _ _) _)
        · have hq : (y.a == i && (y.b == a && y.c == b)) = false := by
            rw [Bool.eq_false_iff]
            intro h
            simp only [Bool.and_eq_true, beq_iff_eq] at h
            exact he (by rw [I3.eta y, h.1, h.2.1, h.2.2])
          have A2 := Lib.hid (show ∀ q, q < j + 1 → L[q]? ≠ some ⟨i, a, b⟩ from fun q hq => by
            rcases (show q < j ∨ q = j by omega) with h | rfl
            · exact A.out q h
            · rw [HY.out]; exact fun e => he (Option.some.inj e))
          have hE := fun (wx : World) => (show (binOp .eql 117 (.agg #[.int .i64 y.a, .int .i64 y.b, .int .i64 y.c]) (.agg #[.int .i64 i, .int .i64 a, .int .i64 b])).run Tryz.prog wx = .ok (.bool false) wx by rw [run_eql_struct, eqNode, hq]; rfl)
          go_wp2_with fail
          go_quiet (fail)
          go_wp2
          go_roundw
          case rel => exact ⟨j + 1, rfl, by omega, hsr, Lib.hid (below_drewN HB.out _), Lib.hid (N.out.keep (below_drewN (Below.refl _ _) _)), A2⟩
          case measure => simp [intOf]; omega
      · have hjn : j = L.length := by omega
        have hnot : (⟨i, a, b⟩ : I3) ∉ L := fun hm => by
          obtain ⟨q, hq⟩ := List.getElem?_of_mem hm
          exact A.out q (by have := (List.getElem?_eq_some_iff.1 hq).1; omega) hq
        have HNOT := Lib.hid hnot
        have HM := Lib.hid (mkN_new HNE.out hnot)
        have hlt' : ¬ (j : Int) < (L.length : Int) := by omega
        have hgn : ∀ g, na = some ⟨g, 0, none⟩ → g < w.heap.size := fun g e => (HF.out.own.blk g e).2
        have n0 := N.out.cell 0
        have n1 := N.out.cell 1
        have n2 := N.out.cell 2
        have nl := N.out.lt
        simp at n0 n1 n2
        clear hnot
        go_wp2_with fail
        refine wp_region_noPanic ?_
        refine wp_region_M (L := 10) (S := (fun wx => wx.cell? ⟨p, 0, none⟩ = some (.slice na L.length nc) ∧ wx.cell? ⟨w.heap.size, 0, none⟩ = some (.int .i64 i) ∧ wx.cell? ⟨w.heap.size, 1, none⟩ = some (.int .i64 a) ∧ wx.cell? ⟨w.heap.size, 2, none⟩ = some (.int .i64 b) ∧ p < wx.heap.size ∧ w.heap.size < wx.heap.size)) (by kernel_rfl) ?_ (fun hHeld => ?_)
        · exact ⟨p0, n0, n1, n2, pl, nl⟩
        clear p0 pl n0 n1 n2 nl
        refine tkM 0 ?_
        try simp only [pu]
        refine tkM 1 ?_
        try simp only [pu]
        refine tkM 2 ?_
        try simp only [pu]
        refine tkM 3 ?_
        try simp only [pu]
        refine tkM0 4 (v := ?_) ?_ ?_
        rotate_left
        · (intro wv hSw; (try dsimp only at hSw); obtain ⟨h1, h2, h3, h4, h5, h6⟩ := hSw; go_simp; try with_reducible rfl)
        try simp only [pu]
        refine tkM0 5 (v := ?_) ?_ ?_
        rotate_left
        · (intro wv hSw; (try dsimp only at hSw); obtain ⟨h1, h2, h3, h4, h5, h6⟩ := hSw; go_simp; try with_reducible rfl)
        try simp only [pu]
        refine wpAnyM_ready (rs := [6]) (by kernel_rfl) (by simp) ?_
        refine AllReadyM.cons rfl (fun K hK => ?_) AllReadyM.nil
        go_simp
        have hbX : Below wr.heap.size wr (wr.alloc (.cells #[.int .i64 i, .int .i64 a, .int .i64 b] 117)).drew := ((Below.refl _ _).alloc (Nat.le_refl _) _).drew
        obtain ⟨Y, hY⟩ : ∃ Y, Y = (wr.alloc (.cells #[.int .i64 i, .int .i64 a, .int .i64 b] 117)).drew := ⟨_, rfl⟩
        have L6 := Lib.hid (show Blk Y wr.heap.size #[.int .i64 i, .int .i64 a, .int .i64 b] 117 by rw [hY]; exact (Blk.made _ _ _).drew)
        have hsY : Y.heap.size = wr.heap.size + 1 := by rw [hY]; simp
        rw [← hY] at hbX ⊢
        clear hY
        have B6 := Lib.hid (B.out.keep hbX)
        have N6 := Lib.hid (N.out.keep hbX)
        have HB6 := Lib.hid (below_callS HB.out hbX)
        clear hbX B
        have SS : ∀ (wx : World), Blk wx p #[.slice na L.length nc] 110 → Blk wx w.heap.size #[.int .i64 i, .int .i64 a, .int .i64 b] 117 → (wx.cell? ⟨p, 0, none⟩ = some (.slice na L.length nc) ∧ wx.cell? ⟨w.heap.size, 0, none⟩ = some (.int .i64 i) ∧ wx.cell? ⟨w.heap.size, 1, none⟩ = some (.int .i64 a) ∧ wx.cell? ⟨w.heap.size, 2, none⟩ = some (.int .i64 b) ∧ p < wx.heap.size ∧ w.heap.size < wx.heap.size) := fun wx h1 h2 => ⟨h1.cell 0, h2.cell 0, h2.cell 1, h2.cell 2, h1.lt, h2.lt⟩
        have HSS := Lib.hid SS
        clear SS
        refine hK.out _ _ (HSS.out _ B6.out.blk N6.out) (fun hHeld => ?_)
        clear hK K
        try simp only [pu]
        refine wpAnyM_ready (rs := [7]) (by kernel_rfl) (by simp) ?_
        refine AllReadyM.cons rfl (fun K hK => ?_) AllReadyM.nil
        refine wp_appAtL (k := 3) (m := 1) (enc := I3.enc) (ok := I3.ok) _ _ rfl Tryz.underlying38 Tryz.infoNode9 rfl (by decide) (by decide) I3.one9 lo na L.length nc L [⟨i, a, b⟩] B6.out.own rfl _ rfl L6.out rfl rfl (fun x hx9 => by simp at hx9; rw [hx9]; exact hx) (by decide) (by omega) (by decide) (by omega) ?_
        intro g' c' w6 h1 h2 h3
        have ht : Touch Y w6 1 na := ⟨_, h3, fun b e => ⟨by decide, own_block B6.out.own.1 b e⟩⟩
        have P7 := Lib.hid (B6.out.blk.keepA ht (blk_ne B6.out.blk B6.out.own.typN (by decide)))
        have N7 := Lib.hid (N6.out.keepA ht (fun e => by have := hgn _ e; omega))
        have O7 := Lib.hid h1
        have F7 := Lib.hid (show FrF lo p p Y w6 from ⟨h3.os, h3.tape, h3.output, h3.size, fun k hk q1 q2 q3 => h3.block k hk (fun e => by
          have e1 := own_block B6.out.own.1 _ e.symm
          obtain ⟨cur, hc⟩ := B6.out.own.typN e1
          rcases q3 with q3 | q3
          · have := (B6.out.own.blk _ e1).1; omega
          · exact q3 _ _ hc)⟩)
        have hs7 := h3.size
        clear h1 h2 h3 ht
        refine hK.out _ _ (HSS.out _ P7.out N7.out) (fun hHeld => ?_)
        clear hK K
        try simp only [pu]
        refine tkM 8 ?_
        try simp only [pu]
        refine tkM 9 ?_
        try simp only [pu]
        have c0 := P7.out.cell 0
        have cl := P7.out.lt
        have cf := P7.out.free
        simp at c0
        refine wpAnyM_ready (rs := [10]) (by kernel_rfl) (by simp) ?_
        refine AllReadyM.last rfl (fun K hK => ?_)
        go_simp
        refine hK.out _ _ ?_
        clear hK K
        try simp only [pu]
        refine wpAnyM_done (by kernel_rfl) ?_ _
        refine NoPanic.normal ?_
        have hpg : g' ≠ p := fun e => blk_ne P7.out O7.out.typN (by decide) (by rw [e])
        obtain ⟨w7, hw7⟩ : ∃ w7, w7 = w6.setCell ⟨p, 0, none⟩ (.slice (some ⟨g', 0, none⟩) (L.length + 1) c') := ⟨_, rfl⟩
        have P8 := Lib.hid (show Blk w7 p #[.slice (some ⟨g', 0, none⟩) (L.length + 1) c'] 110 by rw [hw7]; exact P7.out.set 0 _)
        have O8 := Lib.hid (show OwnF 3 I3.enc I3.ok 117 w7 lo (some ⟨g', 0, none⟩) (L.length + 1) c' (L ++ [⟨i, a, b⟩]) by rw [hw7]; exact O7.out.keepG (set_grown p 0 _) (fun g e e' => by simp at e e'; omega))
        have F8 := Lib.hid (show FrF lo p p Y w7 from F7.out.trans (by
          rw [hw7]
          have hg := set_grown (w := w6) p 0 (.slice (some ⟨g', 0, none⟩) (L.length + 1) c')
          exact ⟨hg.os, hg.tape, hg.output, hg.size, fun k hk q1 q2 q3 => hg.block k hk (fun e => q1 (by simpa using e))⟩))
        rw [← hw7]
        clear hw7 c0 cl cf hHeld P7 N7 O7 F7
        have p0 := P8.out.cell 0
        have pl := P8.out.lt
        simp at p0
        go_wp2
        go_ret
        have hlen : (L ++ [(⟨i, a, b⟩ : I3)]).length = L.length + 1 := by simp
        refine ⟨by rw [HM.out]; first | rfl | (show Ending.returned (Value.int .i64 _) = Ending.returned (Value.int .i64 _); congr 2; omega), ⟨some ⟨g', 0, none⟩, c', ?_⟩, (FrF.of_below (lo := lo) (p := p) (mb := p) HB6.out).trans F8.out⟩
        rw [HM.out]
        exact ⟨by simp only [hlen]; exact P8.out, by simp only [hlen]; exact O8.out, HF.out.lop⟩
end Go.Proofs.YtkaikbaagajckaaGreat
