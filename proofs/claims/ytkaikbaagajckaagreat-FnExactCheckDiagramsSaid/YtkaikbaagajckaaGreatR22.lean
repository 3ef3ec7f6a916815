/- Different states, sorted and made compact: the same number of them.; Different states, sorted and made compact by the program: as many of them as before.; Different states, sorted by the program: the states in order.; States sorted by the program, each once: the states in order.; The reachable states of a model in order: the program, walked.; Diagrams that are not too large, or a code: the program, walked. -/
import Derived.Test.YtkaikbaagajckaaGreatR21
import Derived.Test.YtkaikbaagajckaaGreatR15
import Derived.Test.YtkaikbaagajckaaGreatSs
import Derived.Test.YtkaikbaagajckaaGreatR11
import Derived.Test.YtkaikbaagajckaaGreatR16
import Derived.Test.YtkaikbaagajckaaGreatR20
import Derived.Test.YtkaikbaagajckaaGreatR07
import Derived.Test.YtkaikbaagajckaaGreatR14
import Derived.Test.YtkaikbaagajckaaGreatR17
namespace Go.Proofs.YtkaikbaagajckaaGreat
open Go.RowKit
set_option linter.unusedVariables false
set_option linter.unusedSimpArgs false
open Go.Shelf Go.Lib Go.Sort in
theorem grownBy_sortWorld {α : Type} [Inhabited α] (enc : α → Value) (w : World) (blk off n : Nat) (d : Array α) (os : Array Obj) : w.grownBy (sortWorld enc w blk off n d os) (some blk) := by
  refine ⟨rfl, rfl, rfl, ?_, fun k hk hne => ?_⟩
  · simp [sortWorld, grow, putRow, mapBlock, ahead]
  · have hkb : blk ≠ k := fun e => hne (by rw [e])
    simp only [sortWorld, grow, putRow, mapBlock, ahead]
    rw [Array.getElem?_append_left (by simpa using hk), Array.getElem?_modify, if_neg hkb]
    rfl
/-- a state that lies in another block than the row -/
abbrev Item (w : World) (blk m : Nat) : Type := {x : QM × List Int // Ints w x.1.a m x.1.c x.2 ∧ x.2.length = m ∧ ∀ g off, x.1.a = some ⟨g, off, none⟩ → g ≠ blk}
def encI9 {w : World} {blk m : Nat} (x : Item w blk m) : Value := .slice x.1.1.a m x.1.1.c
def cmpI9 {w : World} {blk m : Nat} (x y : Item w blk m) : Int := cmpL x.1.2 y.1.2
open Go.Shelf Go.Lib Go.Sort in
theorem swo9 {w : World} {blk m : Nat} : SWO (ltOf (cmpI9 (w := w) (blk := blk) (m := m))) := by
  refine ⟨fun x => ?_, fun x y z h1 h2 => ?_, fun x y z h1 h2 => ?_⟩
  · exact decide_eq_false (by rw [cmpI9, cmpL_self]; omega)
  · have h1 := of_decide_eq_true h1
    have h2 := of_decide_eq_true h2
    exact decide_eq_true (cmpL_trans (by rw [x.2.2.1, y.2.2.1]) (by rw [y.2.2.1, z.2.2.1]) h1 h2)
  · have h1 := of_decide_eq_false h1
    have h2 := of_decide_eq_false h2
    rw [cmpI9] at h1 h2
    refine decide_eq_false fun h3 => ?_
    rw [cmpI9] at h3
    have a1 := cmpL_anti x.1.2 y.1.2
    rcases cmpL_range y.1.2 x.1.2 with h | h | h
    · have := cmpL_trans (by rw [y.2.2.1, x.2.2.1]) (by rw [x.2.2.1, z.2.2.1]) (show cmpL y.1.2 x.1.2 < 0 by omega) h3
      omega
    · have e := cmpL_eq (by rw [y.2.2.1, x.2.2.1]) h
      rw [← e] at h3; omega
    · omega
theorem Ints.keepG {w w' : World} {blk : Nat} {a : Option Addr} {n c : Nat} {l : List Int} (h : Ints w a n c l) (hg : w.grownBy w' (some blk)) (hb : ∀ g off, a = some ⟨g, off, none⟩ → g ≠ blk) : Ints w' a n c l := by
  refine ⟨h.len, h.cap, ?_, h.wf, h.nil⟩
  rcases h.pos with h0 | ⟨b, off, ha, hlt, hc⟩
  · exact .inl h0
  · refine .inr ⟨b, off, ha, Nat.lt_of_lt_of_le hlt hg.size, fun i x hx => ?_⟩
    rw [World.cell?_of_block (a := ⟨b, off + i, none⟩) (hg.block b hlt (fun e => hb b off ha (by cases e; rfl)))]
    exact hc i x hx
open Go.Shelf Go.Lib Go.Sort in
theorem cmpReads9 {w : World} {blk off m size : Nat} [Inhabited (Item w blk m)] (hm : m ≤ 1048576) : CmpReads Tryz.prog 185 #[] (encI9 (w := w) (blk := blk) (m := m)) cmpI9 blk off size w := fun k os dk hs x y => by
  have hg := grownBy_sortWorld encI9 w blk off k dk os
  have h := slices_Compare_i64 (x.2.1.keepG hg x.2.2.2) (y.2.1.keepG hg y.2.2.2) hm
  rw [Array.append_empty]
  exact Calls.mono h fun e w' ⟨h1, h2⟩ => ⟨h1, 0, h2.symm⟩
open Go.Shelf Go.Lib Go.Sort in
theorem perm9 {α : Type} [Inhabited α] {d d' : Array α} (h : PermIn 0 d.size d d') : d'.size = d.size ∧ d'.toList.Perm d.toList := by
  obtain ⟨h1, _, h3⟩ := h
  refine ⟨h1, ?_⟩
  have e1 : d.extract 0 d.size = d := by simp
  have e2 : d'.extract 0 d.size = d' := by rw [← h1]; simp
  rw [e1, e2] at h3
  exact h3
theorem SRow.apart9 {w : World} {lo l2 : Nat} {a : Option Addr} {n c : Nat} {l : List (QM × List Int)} (h : SRow w lo l2 a n c l) (hT : 2 ≠ 22) : ∀ x ∈ l, ∀ q off, x.1.a = some ⟨q, off, none⟩ → a ≠ some ⟨q, 0, none⟩ := by
  intro x hx q off e e2
  have hx' := h.each x hx
  rcases hx'.form with ⟨h1, _⟩ | ⟨g, h1⟩
  · rw [h1] at e; cases e
  · rw [h1] at e
    simp only [Option.some.injEq, Addr.mk.injEq, and_true] at e
    obtain ⟨rfl, rfl⟩ := e
    obtain ⟨c1, t1⟩ := hx'.typ h1
    obtain ⟨c2, t2⟩ := h.row.typ e2
    rw [t1] at t2
    simp only [Option.some.injEq, Obj.cells.injEq] at t2
    exact hT t2.2.1
open Go.Shelf Go.Lib Go.Sort in
theorem own_sortWorld {α : Type} [Inhabited α] {E : TypeId} (enc : α → Value) {w : World} {blk lo n c k : Nat} {xs : List Value} {d : Array α} {os : Array Obj} (h : w.ownsRow lo E 1 (.slice (some ⟨blk, 0, none⟩) n c) n xs) (hn : d.size = n) :
    (sortWorld enc w blk 0 k d os).ownsRow lo E 1 (.slice (some ⟨blk, 0, none⟩) n c) n (d.toList.map enc) := by
  refine ⟨by simp [hn], .inr ?_⟩
  rcases h.2 with ⟨he, _⟩ | ⟨g, cap, cur, he, hb, hg, hnc, hcm, hcs, ht⟩
  · simp at he
  · simp only [Value.slice.injEq, Option.some.injEq, Addr.mk.injEq, and_true, true_and] at he
    obtain ⟨rfl, rfl⟩ := he
    have hlt : blk < w.heap.size := Nat.lt_of_not_le fun h => by rw [Array.getElem?_eq_none h] at hg; cases hg
    refine ⟨blk, c, putCells enc 0 d cur, rfl, hb, ?_, hnc, hcm, by simp [putCells, hcs], ?_⟩
    · simp only [sortWorld, grow, putRow, mapBlock, ahead]
      rw [Array.getElem?_append_left (by simpa using hlt), Array.getElem?_modify, if_pos rfl]
      show Option.map (onCells (putCells enc 0 d)) w.heap[blk]? = _
      rw [hg]
      rfl
    · rw [Nat.mul_one]
      apply List.ext_getElem?
      intro i
      rw [List.getElem?_take]
      by_cases hi : i < n
      · rw [if_pos hi, List.getElem?_map, Array.getElem?_toList, Array.getElem?_toList, putCells, Array.getElem?_mapIdx]
        have h1 : i < cur.size := by omega
        rw [Array.getElem?_eq_getElem h1, Array.getElem?_eq_getElem (show i < d.size by omega)]
        simp only [Option.map_some, Nat.zero_le, Nat.zero_add, true_and, Nat.sub_zero]
        rw [if_pos (by omega), getElem!_pos d i (by omega)]
      · rw [if_neg hi, List.getElem?_eq_none (by simp; omega)]
open Go.Shelf Go.Lib Go.Sort in
theorem sort_R {m lo l2 g n c : Nat} {l : List (QM × List Int)} {w : World} (hO : SRow w lo l2 (some ⟨g, 0, none⟩) n c l) (hE : ∀ x ∈ l, x.1.n = m) (h0 : 0 < n) (hn : n ≤ 1048576) (hm : m ≤ 1048576) :
    Calls Tryz.prog 184 #[.slice (some ⟨g, 0, none⟩) n c, .func (.func 185) #[] #[]] w fun e w' => e = .returned (.tuple #[]) ∧ ∃ l', SRow w' lo l2 (some ⟨g, 0, none⟩) n c l' ∧ (∀ x ∈ l', x.1.n = m) ∧ (l'.map (·.2)).Perm (l.map (·.2)) ∧ (l'.map (·.2)).Pairwise (fun a b => cmpL a b ≤ 0) ∧ Below lo w w' ∧ w.grownBy w' (some g) := by
  have hap := hO.apart9 (by decide)
  have hP : ∀ x ∈ l, Ints w x.1.a m x.1.c x.2 ∧ x.2.length = m ∧ ∀ q off, x.1.a = some ⟨q, off, none⟩ → q ≠ g := fun x hx => by
    have h1 := (hO.each x hx).ints
    have h2 := hE x hx
    exact ⟨h2 ▸ h1, by rw [h1.len, h2], fun q off e e2 => hap x hx q off e (by rw [e2])⟩
  have hln := hO.len
  obtain ⟨x0, hx0⟩ : ∃ x, x ∈ l := List.exists_mem_of_length_pos (by omega)
  letI : Inhabited (Item w g m) := ⟨⟨x0, hP x0 hx0⟩⟩
  obtain ⟨d, hdl⟩ : ∃ d : Array (Item w g m), d.toList.map (·.1) = l := ⟨(l.attachWith _ hP).toArray, by rw [List.toList_toArray]; exact List.attachWith_map_subtype_val hP⟩
  have hds : d.size = n := by rw [← hln, ← hdl]; simp
  have hblk := hO.row.blk g rfl
  have hH : Holds (encI9 (w := w) (blk := g) (m := m)) w g 0 d := fun j hj => by
    refine ⟨?_, hO.row.free _⟩
    obtain ⟨b, off, x, he, _, hx, _, hc⟩ := hO.row.flats.at (show j < n by omega)
    simp only [Option.some.injEq, Addr.mk.injEq, and_true] at he
    obtain ⟨rfl, rfl⟩ := he
    have h1 := hc 0 _ rfl
    rw [Nat.mul_one, Nat.add_zero] at h1
    rw [h1]
    have h2 : l[j]? = some (d[j]!).1 := by
      rw [← hdl, List.getElem?_map, Array.getElem?_toList, Array.getElem?_eq_getElem hj, getElem!_pos d j hj]; rfl
    rw [hx] at h2
    have h3 := hE x (List.mem_of_getElem? hx)
    simp only [Option.some.injEq] at h2
    rw [encI9, ← h2, h3]
  have hcmp := (cmpReads9 (w := w) (blk := g) (off := 0) (m := m) (size := d.size) hm).lays
  have hrow := hO.row
  rw [← hds]
  refine Calls.mono (Tryz.slices_SortFunc (encI9 (w := w) (blk := g) (m := m)) (fun _ => rfl) cmpI9 swo9 185 #[] g 0 c d w (fun _ _ => by kernel_rfl) hcmp hH hblk.2 (by omega)) ?_
  rintro e w' ⟨rfl, d', k, os, hp, hst, rfl⟩
  obtain ⟨hs', hperm⟩ := perm9 hp
  have hg := grownBy_sortWorld (encI9 (w := w) (blk := g) (m := m)) w g 0 k d' os
  have hl' : ∀ x ∈ d'.toList, x.1 ∈ l := fun x hx => by rw [← hdl]; exact List.mem_map_of_mem (hperm.mem_iff.1 hx)
  have hen : d'.toList.map (encI9 (w := w) (blk := g) (m := m)) = (d'.toList.map (·.1)).flatMap encS := by
    rw [List.flatMap_map]
    have : ∀ q : List (Item w g m), (∀ x ∈ q, x.1 ∈ l) → q.map (encI9 (w := w) (blk := g) (m := m)) = q.flatMap fun x => encS x.1 := by
      intro q
      induction q with
      | nil => intro _; rfl
      | cons y r ih =>
        intro hq
        rw [List.map_cons, List.flatMap_cons, ih fun x hx => hq x (List.mem_cons_of_mem _ hx)]
        have h3 := hE y.1 (hq y (List.mem_cons_self ..))
        rw [encS, h3]; rfl
    exact this _ hl'
  have hown := own_sortWorld (E := 22) (encI9 (w := w) (blk := g) (m := m)) (k := k) (d := d') (os := os) hrow.1 (by omega)
  rw [hen] at hown
  have hpl : ((d'.toList.map (·.1)).map (·.2)).Perm (l.map (·.2)) := by
    rw [← hdl]; exact (hperm.map _).map _
  rw [hds]
  refine ⟨rfl, d'.toList.map (·.1), ⟨⟨hown, fun _ _ => trivial, by simp; omega, encS_len⟩, fun x hx => ?_⟩, fun x hx => ?_, hpl, ?_, (Below.refl _ _).grown hg (Nat.le_trans hblk.1 (Nat.le_of_lt hblk.2)) (fun q e => by cases e; exact hblk.1), hg⟩
  · obtain ⟨y, hy, rfl⟩ := List.mem_map.1 hx
    exact (hO.each _ (hl' y hy)).keepG hg fun q e e2 => by
      simp only [Option.some.injEq] at e2
      exact y.2.2.2 q 0 e e2.symm
  · obtain ⟨y, hy, rfl⟩ := List.mem_map.1 hx
    exact hE _ (hl' y hy)
  · rw [List.pairwise_map, List.pairwise_map, List.pairwise_iff_getElem]
    intro i j hi hj hij
    simp only [Array.length_toList] at hi hj
    have h1 := hst i j (Nat.zero_le _) hij (by omega)
    rw [getElem!_pos d' i hi, getElem!_pos d' j hj] at h1
    have h2 := of_decide_eq_false h1
    rw [cmpI9] at h2
    have h3 := cmpL_anti d'[i].1.2 d'[j].1.2
    simp only [Array.getElem_toList]
    omega
theorem own_cut {w : World} {lo g n c m : Nat} {E : TypeId} {xs : List Value} (h : w.ownsRow lo E 1 (.slice (some ⟨g, 0, none⟩) n c) n xs) (hm : m ≤ n) : w.ownsRow lo E 1 (.slice (some ⟨g, 0, none⟩) m c) m (xs.take m) := by
  obtain ⟨hl, h2⟩ := h
  refine ⟨by rw [List.length_take, hl]; omega, .inr ?_⟩
  rcases h2 with ⟨he, _⟩ | ⟨g', cap, cur, he, hb, hg, hnc, hcm, hcs, ht⟩
  · simp at he
  · simp only [Value.slice.injEq, Option.some.injEq, Addr.mk.injEq, and_true, true_and] at he
    obtain ⟨rfl, rfl⟩ := he
    refine ⟨g, c, cur, rfl, hb, hg, by omega, hcm, hcs, ?_⟩
    rw [← ht, List.take_take, Nat.mul_one, Nat.mul_one, Nat.min_eq_left hm]
theorem own_past {lo g n c : Nat} {E : TypeId} {xs : List Value} : ∀ (vs : List Value) (o : Nat) (w : World), w.ownsRow lo E 1 (.slice (some ⟨g, 0, none⟩) n c) n xs → n ≤ o → (w.setCells g o vs).ownsRow lo E 1 (.slice (some ⟨g, 0, none⟩) n c) n xs ∧ w.grownBy (w.setCells g o vs) (some g)
  | [], o, w, h, _ => ⟨h, grownBy_refl _ _⟩
  | v :: vs, o, w, h, ho => by
    have h1 := (h.stored o v).1
    rw [List.set_eq_of_length_le (by have := h.1; omega)] at h1
    obtain ⟨h2, h3⟩ := own_past vs (o + 1) _ h1 (by omega)
    exact ⟨h2, grownBy_trans (grownBy_set (grownBy_refl _ _) o v) h3⟩
theorem SRow.cut {w : World} {lo l2 g n c m : Nat} {l : List (QM × List Int)} (h : SRow w lo l2 (some ⟨g, 0, none⟩) n c l) (hm : m ≤ n) : SRow w lo l2 (some ⟨g, 0, none⟩) m c (l.take m) := by
  have h1 := own_cut h.row.1 hm
  have h2 : (l.flatMap encS).take m = (l.take m).flatMap encS := by
    have e : ∀ q : List (QM × List Int), q.flatMap encS = q.map fun x => Value.slice x.1.a x.1.n x.1.c := fun q => by
      induction q with
      | nil => rfl
      | cons y r ih => rw [List.flatMap_cons, ih]; rfl
    rw [e, e, List.map_take]
  rw [h2] at h1
  exact ⟨⟨h1, fun _ _ => trivial, by rw [List.length_take, h.len]; omega, encS_len⟩, fun x hx => h.each x (List.mem_of_mem_take hx)⟩
theorem SRow.past {w : World} {lo l2 g n c o : Nat} {l : List (QM × List Int)} (h : SRow w lo l2 (some ⟨g, 0, none⟩) n c l) (hT : 2 ≠ 22) (vs : List Value) (ho : n ≤ o) : SRow (w.setCells g o vs) lo l2 (some ⟨g, 0, none⟩) n c l ∧ w.grownBy (w.setCells g o vs) (some g) := by
  obtain ⟨h1, h2⟩ := own_past vs o w h.row.1 ho
  refine ⟨⟨⟨h1, h.row.2⟩, fun x hx => (h.each x hx).keepG h2 fun q e e2 => ?_⟩, h2⟩
  have := h.apart9 hT x hx q 0 e
  simp only [Option.some.injEq] at e2
  exact this (by rw [e2])
theorem SRow.put {w : World} {lo l2 g n c i : Nat} {l : List (QM × List Int)} (h : SRow w lo l2 (some ⟨g, 0, none⟩) n c l) (hT : 2 ≠ 22) (x : QM × List Int) (hx : x ∈ l) (hi : i < n) : SRow (w.setCell ⟨g, i, none⟩ (.slice x.1.a x.1.n x.1.c)) lo l2 (some ⟨g, 0, none⟩) n c (l.set i x) := by
  have hg : w.grownBy (w.setCell ⟨g, i, none⟩ (.slice x.1.a x.1.n x.1.c)) (some g) := grownBy_set (grownBy_refl _ _) _ _
  have hk : ∀ y ∈ l, OwnI 2 (w.setCell ⟨g, i, none⟩ (.slice x.1.a x.1.n x.1.c)) l2 y.1.a y.1.n y.1.c y.2 := fun y hy => (h.each y hy).keepG hg fun q e e2 => by
    have := h.apart9 hT y hy q 0 e
    simp only [Option.some.injEq] at e2
    exact this (by rw [e2])
  have hf : (l.flatMap encS).set i (.slice x.1.a x.1.n x.1.c) = (l.set i x).flatMap encS := by
    have e : ∀ q : List (QM × List Int), q.flatMap encS = q.map fun x => Value.slice x.1.a x.1.n x.1.c := fun q => by
      induction q with
      | nil => rfl
      | cons y r ih => rw [List.flatMap_cons, ih]; rfl
    rw [e, e, List.map_set]
  have h1 := (h.row.1.stored i (.slice x.1.a x.1.n x.1.c)).1
  rw [hf] at h1
  refine ⟨⟨h1, fun _ _ => trivial, by rw [List.length_set]; exact h.len, encS_len⟩, fun y hy => ?_⟩
  rcases List.mem_or_eq_of_mem_set hy with h2 | h2
  · exact hk y h2
  · rw [h2]; exact hk x hx
/-- the first q of a list, without those that are as the one before -/
def cpQ (l : List (QM × List Int)) : Nat → List (QM × List Int)
  | 0 => []
  | q + 1 => cpQ l q ++ match l[q]? with
    | none => []
    | some x => if q ≠ 0 ∧ (l[q - 1]?).map (·.2) = some x.2 then [] else [x]
theorem cp_one {l : List (QM × List Int)} {x : QM × List Int} (h : l[0]? = some x) : cpQ l 1 = [x] := by
  rw [cpQ, h]; simp [cpQ]
theorem cp_same {l : List (QM × List Int)} {q : Nat} {x y : QM × List Int} (hx : l[q + 1]? = some x) (hy : l[q]? = some y) (h : x.2 = y.2) : cpQ l (q + 2) = cpQ l (q + 1) := by
  rw [cpQ, hx]
  simp only [Nat.add_sub_cancel, hy, Option.map_some]
  rw [if_pos ⟨by omega, by rw [h]⟩, List.append_nil]
theorem cp_new {l : List (QM × List Int)} {q : Nat} {x y : QM × List Int} (hx : l[q + 1]? = some x) (hy : l[q]? = some y) (h : x.2 ≠ y.2) : cpQ l (q + 2) = cpQ l (q + 1) ++ [x] := by
  rw [cpQ, hx]
  simp only [Nat.add_sub_cancel, hy, Option.map_some]
  rw [if_neg (fun e => h (by simpa using e.2.symm))]
theorem cp_mem (l : List (QM × List Int)) : ∀ q, ∀ x ∈ cpQ l q, x ∈ l.take q := by
  intro q
  induction q with
  | zero => intro x h; cases h
  | succ q ih =>
    intro x h
    rw [cpQ] at h
    cases hl : l[q]? with
    | none =>
      rw [hl] at h
      simp only [List.append_nil] at h
      exact (List.take_sublist_take_left (by omega)).subset (ih x h)
    | some y =>
      rw [hl] at h
      simp only at h
      rw [take_at hl]
      rcases List.mem_append.1 h with h | h
      · exact List.mem_append_left _ (ih x h)
      · split at h
        · cases h
        · exact List.mem_append_right _ h
theorem cp_asc {m : Nat} {l : List (QM × List Int)} (hl : ∀ x ∈ l.map (·.2), x.length = m) (hp : (l.map (·.2)).Pairwise fun a b => cmpL a b ≤ 0) : ∀ q, q ≤ l.length → AscS m ((cpQ l q).map (·.2)) ∧ ∀ y, y ∈ (cpQ l q).map (·.2) ↔ y ∈ (l.take q).map (·.2) := by
  intro q
  induction q with
  | zero => intro _; exact ⟨asc_nil m, fun y => Iff.rfl⟩
  | succ q ih =>
    intro hq
    obtain ⟨i1, i2⟩ := ih (by omega)
    obtain ⟨x, hx⟩ : ∃ x, l[q]? = some x := ⟨_, List.getElem?_eq_getElem (by omega)⟩
    have hxm : x.2 ∈ l.map (·.2) := List.mem_map_of_mem (List.mem_of_getElem? hx)
    have hle : ∀ (i : Nat) (y : QM × List Int), l[i]? = some y → i < q → cmpL y.2 x.2 ≤ 0 := fun i y hy hi => by
      have h1 : (l.map (·.2))[i]? = some y.2 := by rw [List.getElem?_map, hy]; rfl
      have h2 : (l.map (·.2))[q]? = some x.2 := by rw [List.getElem?_map, hx]; rfl
      obtain ⟨a1, a2⟩ := List.getElem?_eq_some_iff.1 h1
      obtain ⟨b1, b2⟩ := List.getElem?_eq_some_iff.1 h2
      have := List.pairwise_iff_getElem.1 hp _ _ a1 b1 hi
      rw [a2, b2] at this
      exact this
    cases q with
    | zero =>
      rw [cp_one hx, take_at hx]
      refine ⟨⟨fun y hy => ?_, by simp⟩, fun y => by simp⟩
      simp at hy
      rw [hy]; exact hl _ hxm
    | succ q =>
      obtain ⟨y, hy⟩ : ∃ y, l[q]? = some y := ⟨_, List.getElem?_eq_getElem (by omega)⟩
      have hym : y.2 ∈ l.map (·.2) := List.mem_map_of_mem (List.mem_of_getElem? hy)
      rw [take_at hx, List.map_append]
      by_cases he : x.2 = y.2
      · rw [cp_same hx hy he]
        refine ⟨i1, fun z => ?_⟩
        rw [i2, List.mem_append]
        constructor
        · exact .inl
        · rintro (h | h)
          · exact h
          · simp at h
            rw [h, he]
            exact List.mem_map_of_mem (List.mem_of_getElem? (i := q) (by rw [List.getElem?_take, if_pos (by omega)]; exact hy))
      · rw [cp_new hx hy he, List.map_append]
        have hlt : ∀ z ∈ (cpQ l (q + 1)).map (·.2), cmpL z x.2 < 0 := fun z hz => by
          obtain ⟨p, hp', hpz⟩ := List.mem_map.1 ((i2 z).1 hz)
          obtain ⟨i, hi⟩ := List.getElem?_of_mem hp'
          rw [List.getElem?_take] at hi
          split at hi
          · rename_i hiq
            have h1 := hle i p hi (by omega)
            have h2 := hle q y hy (by omega)
            have h3 : cmpL y.2 x.2 ≠ 0 := fun e => he (cmpL_eq (by rw [hl _ hym, hl _ hxm]) e).symm
            rw [← hpz]
            have lp := hl p.2 (List.mem_map_of_mem (List.mem_of_getElem? hi))
            have h4 : cmpL p.2 x.2 ≠ 0 := fun e => by
              have e1 := cmpL_eq (by rw [lp, hl _ hxm]) e
              rcases Nat.lt_or_ge i q with h5 | h5
              · have h6 : (l.map (·.2))[i]? = some p.2 := by rw [List.getElem?_map, hi]; rfl
                have h7 : (l.map (·.2))[q]? = some y.2 := by rw [List.getElem?_map, hy]; rfl
                obtain ⟨a1, a2⟩ := List.getElem?_eq_some_iff.1 h6
                obtain ⟨b1, b2⟩ := List.getElem?_eq_some_iff.1 h7
                have h8 := List.pairwise_iff_getElem.1 hp _ _ a1 b1 h5
                rw [a2, b2, e1] at h8
                have := cmpL_anti y.2 x.2
                omega
              · have : i = q := by omega
                subst this
                rw [hi] at hy
                cases hy
                exact he e1.symm
            omega
          · cases hi
        refine ⟨⟨fun z hz => ?_, ?_⟩, fun z => ?_⟩
        · rcases List.mem_append.1 hz with h | h
          · exact i1.1 z h
          · simp at h; rw [h]; exact hl _ hxm
        · rw [List.pairwise_append]
          exact ⟨i1.2, by simp, fun a ha b hb => by simp at hb; rw [hb]; exact hlt a ha⟩
        · rw [List.mem_append, List.mem_append, i2]
theorem cp_all {m : Nat} {l : List (QM × List Int)} (hl : ∀ x ∈ l.map (·.2), x.length = m) (hp : (l.map (·.2)).Pairwise fun a b => cmpL a b ≤ 0) : (cpQ l l.length).map (·.2) = srtS (l.map (·.2)) := by
  obtain ⟨h1, h2⟩ := cp_asc hl hp l.length (Nat.le_refl _)
  exact srt_of hl h1 fun y => by rw [h2, List.take_length]
/-- a list that is being made compact: q looked at, the first k kept -/
structure CpI (l M : List (QM × List Int)) (q k : Nat) : Prop where
  len : M.length = l.length
  kept : M.take k = cpQ l q
  few : k + 1 ≤ q
  rest : ∀ i, q ≤ i + 1 → M[i]? = l[i]?
  mem : ∀ x ∈ M, x ∈ l
theorem CpI.skip {l M : List (QM × List Int)} {q k : Nat} {x y : QM × List Int} (h : CpI l M (q + 1) k) (hx : l[q + 1]? = some x) (hy : l[q]? = some y) (he : x.2 = y.2) : CpI l M (q + 2) k :=
  ⟨h.len, by rw [cp_same hx hy he]; exact h.kept, by have := h.few; omega, fun i hi => h.rest i (by omega), h.mem⟩
theorem CpI.step {l M : List (QM × List Int)} {q k : Nat} {x y : QM × List Int} (h : CpI l M (q + 1) k) (hx : l[q + 1]? = some x) (hy : l[q]? = some y) (he : x.2 ≠ y.2) : CpI l (M.set k x) (q + 2) (k + 1) := by
  have hk := h.few
  have hql := (List.getElem?_eq_some_iff.1 hx).1
  have hkl : k < M.length := by rw [h.len]; omega
  refine ⟨by rw [List.length_set]; exact h.len, ?_, by omega, fun i hi => ?_, fun z hz => ?_⟩
  · rw [cp_new hx hy he, ← h.kept, List.take_add_one, List.take_set_of_le (Nat.le_refl _), List.getElem?_set_self hkl]
    rfl
  · rw [List.getElem?_set_ne (by omega)]
    exact h.rest i (by omega)
  · rcases List.mem_or_eq_of_mem_set hz with h1 | h1
    · exact h.mem z h1
    · rw [h1]; exact List.mem_of_getElem? hx
theorem zeroSl9 (w : World) : (zeroValue 22).run Tryz.prog w = .ok (.slice none 0 0) w := by
  obtain ⟨i, hi, hz0, _⟩ := info_parts Tryz.infosl
  simp [zeroValue, typeInfo, hi, hz0]
theorem Touch.of_grown {w w' : World} {g : Nat} (h : w.grownBy w' (some g)) : Touch w w' 1 (some ⟨g, 0, none⟩) := ⟨some g, h, fun b e => by cases e; exact ⟨by decide, rfl⟩⟩
set_option maxHeartbeats 8000000 in
theorem slices_CompactFunc_G {m lo l2 n c : Nat} {a : Option Addr} {l : List (QM × List Int)} {w : World} (hO : SRow w lo l2 a n c l) (hE : ∀ x ∈ l, x.1.n = m) (hn : n ≤ 1048576) (hm : m ≤ 1048576) (hlo : lo ≤ w.heap.size) :
    Calls Tryz.prog 186 #[.slice a n c, .func (.func 187) #[] #[]] w fun e w' => ∃ k, e = .returned (.slice a k c) ∧ SRow w' lo l2 a k c (cpQ l n) ∧ Below lo w w' ∧ Touch w w' 1 a := by
  have hln := hO.len
  have HE := Lib.hid hE
  by_cases h2 : n < 2
  · have h2' : (n : Int) < 2 := by omega
    have hcp : cpQ l n = l := by
      rcases (show n = 0 ∨ n = 1 by omega) with h | h
      · subst h
        rw [List.eq_nil_of_length_eq_zero hln]; rfl
      · subst h
        obtain ⟨x, rfl⟩ := List.length_eq_one_iff.1 hln
        exact cp_one rfl
    have HO := Lib.hid hO
    have HC := Lib.hid hcp
    clear hO hE hcp
    go_enter Tryz.func186, Tryz.ntmps186
    go_wp2
    go_ret
    exact ⟨n, rfl, by rw [HC.out]; exact HO.out, Below.refl _ _, none, grownBy_refl _ _, fun b e => by cases e⟩
  · have h2' : ¬ (n : Int) < 2 := by omega
    obtain ⟨g, rfl⟩ := hO.row.shape (by omega)
    have hcap := hO.row.flats.cap
    have HO := Lib.hid hO
    have HL := Lib.hid hln
    obtain ⟨x0, hx0⟩ : ∃ x, l[0]? = some x := ⟨_, List.getElem?_eq_getElem (by omega)⟩
    have H0 := Lib.hid (show cpQ l 1 = l.take 1 by rw [cp_one hx0, take_at hx0]; rfl)
    clear hO hE hx0 hln
    go_enter Tryz.func186, Tryz.ntmps186
    go_wp2_with fail
    go_loopw [5] (fun s5 wr => ∃ j : Nat, s5 = .int .i64 j ∧ 1 ≤ j ∧ j ≤ n ∧ lo ≤ wr.heap.size ∧ Hid (Below lo w wr) ∧ Hid (w.grownBy wr (some g)) ∧ Hid (SRow wr lo l2 (some ⟨g, 0, none⟩) n c l) ∧ Hid (cpQ l j = l.take j)) (fun s5 _ => n - (intOf s5).toNat)
    case atStart => exact ⟨1, rfl, by omega, by omega, hlo, Lib.hid (Below.refl _ _), Lib.hid (grownBy_refl _ _), HO, H0⟩
    case round =>
      clear HO H0
      obtain ⟨j, rfl, hj1, hj, hlr, HB, HG, SR, CP⟩ := hrel
      by_cases hlt : j < n
      · obtain ⟨k, rfl⟩ : ∃ k, j = k + 1 := ⟨j - 1, by omega⟩
        have hlt' : ((k : Int) + 1) < (n : Int) := by omega
        have hk0 : (0 : Int) ≤ (k : Int) := by omega
        have hk1 : (0 : Int) ≤ (k : Int) + 1 := by omega
        have hkn : (k : Int) < (n : Int) := by omega
        have hw1 : IntKind.i64.wrap (k : Int) = (k : Int) := IntWalk.i64_in _ (by omega)
        obtain ⟨b, off, R, xv, he, hb, hx, hxo, c1⟩ := SR.out.get hlt
        simp only [Option.some.injEq, Addr.mk.injEq, and_true] at he
        obtain ⟨rfl, rfl⟩ := he
        obtain ⟨b', off', R', yv, he, _, hy, hyo, c0⟩ := SR.out.get (show k < n by omega)
        simp only [Option.some.injEq, Addr.mk.injEq, and_true] at he
        obtain ⟨rfl, rfl⟩ := he
        have hxn := HE.out _ (List.mem_of_getElem? hx)
        have hyn := HE.out _ (List.mem_of_getElem? hy)
        simp only at hxn hyn
        have KE := Lib.hid (fun (wx : World) (hb : Below wr.heap.size wr wx) => (show Calls Tryz.prog 187 #[.slice R.a R.n R.c, .slice R'.a R'.n R'.c] wx (fun e w' => e = .returned (.bool (xv == yv)) ∧ Below wx.heap.size wx w') by
          have h := slices_Equal_i64 (n := m) (by have := hxo.ints.keep hb; rw [hxn] at this; exact this) (by have := hyo.ints.keep hb; rw [hyn] at this; exact this) hm
          rw [hxn, hyn]
          exact h))
        have hbr : Below wr.heap.size wr wr := Below.refl _ _
        simp only [Nat.zero_add] at c0 c1
        by_cases hxy : xv = yv
        · have HS := Lib.hid (cp_same hx hy hxy)
          rw [show (xv == yv) = true by simpa using hxy] at KE
          have CI := Lib.hid (show CpI l l (k + 1 + 1) (k + 1) from ⟨rfl, by rw [HS.out, CP.out], by omega, fun i hi => rfl, fun x h => h⟩)
          have hck : ¬ c = k + 1 := by omega
          have hkc : ((k : Int) + 1) ≤ (c : Int) := by omega
          have hnc : (n : Int) ≤ (c : Int) := by omega
          have hkn1 : ((k : Int) + 1) ≤ (n : Int) := by omega
          clear hx hy hxo hyo hxn hyn HS CP hxy
          go_wp2_with fail
          go_region_held3 (fun wx => wx.cell? ⟨g, k + 1, none⟩ = some (.slice R.a R.n R.c) ∧ wx.cell? ⟨g, k, none⟩ = some (.slice R'.a R'.n R'.c) ∧ g < wx.heap.size ∧ Below wr.heap.size wr wx) (((try go_split_ands); (repeat' apply And.intro) <;> first | (with_reducible assumption) | (with_reducible exact cell_drew (by with_reducible assumption)) | (with_reducible exact lt_drew (by with_reducible assumption)) | (with_reducible exact Below.drew (by with_reducible assumption)) | (with_reducible exact (hcx _ _ (by with_reducible assumption)).trans (by with_reducible assumption)) | (with_reducible exact Nat.lt_of_lt_of_le (by with_reducible assumption) hsx) | (with_reducible exact below_callS (by with_reducible assumption) hbx) | omega)) (first | (go_at_call 187; go_split_ands; refine Calls.mono (KE.out _ (by assumption)) ?_; rintro e w6 ⟨rfl, hbx⟩; obtain ⟨hcx, hfx⟩ := bcell hbx; have hsx := hbx.size))
          have hb7 : Below wr.heap.size wr w6 := by go_split_ands; assumption
          have HB7 := Lib.hid (below_call HB.out hb7 hlr)
          have HG7 := Lib.hid (grownBy_trans HG.out (grownBy_below hb7 _))
          have SR7 := Lib.hid (SR.out.keep hb7)
          have hs7 := hb7.size
          clear hb7 hbx hcx hfx hsx hbr KE c0 c1 hb SR HB HG
          go_split_ands
          go_wp2_with fail
          go_loopw [5, 7] (fun s5 s7 wi => ∃ (kk q : Nat) (M : List (QM × List Int)), s5 = .int .i64 kk ∧ s7 = .int .i64 ((q : Int) + 1) ∧ k + 1 + (q + 1) ≤ n ∧ lo ≤ wi.heap.size ∧ Hid (Below lo w wi) ∧ Hid (w.grownBy wi (some g)) ∧ Hid (SRow wi lo l2 (some ⟨g, 0, none⟩) n c M) ∧ Hid (CpI l M (k + 1 + q + 1) kk)) (fun _ s7 _ => n - (intOf s7).toNat)
          case atStart => exact ⟨k + 1, 0, l, by go_num, by go_num, by omega, by omega, HB7, HG7, SR7, CI⟩
          case round =>
            clear HB7 HG7 SR7 CI hs7 hlr
            obtain ⟨kk, q, M, rfl, rfl, hle, hlri, HBi, HGi, Si, CI⟩ := hrel
            have hfew := CI.out.few
            have hkk0 : (0 : Int) ≤ (kk : Int) := by omega
            have hq0 : (0 : Int) ≤ (q : Int) := by omega
            have hq1 : (0 : Int) ≤ (q : Int) + 1 := by omega
            have hwq : IntKind.i64.wrap (q : Int) = (q : Int) := IntWalk.i64_in _ (by omega)
            have hkkn : (kk : Int) < (n : Int) := by omega
            have hkkc : (kk : Int) ≤ (c : Int) := by omega
            have hkkn1 : (kk : Int) ≤ (n : Int) := by omega
            have hckk : ¬ c = kk := by omega
            by_cases hlt2 : k + 1 + (q + 1) < n
            · have hA : (q : Int) + 1 < ((n - (k + 1) : Nat) : Int) := by omega
              have hA2 : (q : Int) < ((n - (k + 1) : Nat) : Int) := by omega
              obtain ⟨b, off, R2, xv, he, hb, hx, hxo, c1⟩ := Si.out.get hlt2
              simp only [Option.some.injEq, Addr.mk.injEq, and_true] at he
              obtain ⟨rfl, rfl⟩ := he
              obtain ⟨b, off, R3, yv, he, _, hy, hyo, c0⟩ := Si.out.get (show k + 1 + q < n by omega)
              simp only [Option.some.injEq, Addr.mk.injEq, and_true] at he
              obtain ⟨rfl, rfl⟩ := he
              obtain ⟨b, off, R4, zv, he, _, _, _, ck⟩ := Si.out.get (show kk < n by omega)
              simp only [Option.some.injEq, Addr.mk.injEq, and_true] at he
              obtain ⟨rfl, rfl⟩ := he
              have fk := Si.out.row.free kk
              have hxl : l[k + 1 + q + 1]? = some (R2, xv) := by rw [← CI.out.rest _ (by omega)]; exact hx
              have hyl : l[k + 1 + q]? = some (R3, yv) := by rw [← CI.out.rest _ (by omega)]; exact hy
              have hxn := HE.out _ (List.mem_of_getElem? hxl)
              have hyn := HE.out _ (List.mem_of_getElem? hyl)
              simp only at hxn hyn
              have KE := Lib.hid (fun (wx : World) (hb : Below wr.heap.size wr wx) => (show Calls Tryz.prog 187 #[.slice R2.a R2.n R2.c, .slice R3.a R3.n R3.c] wx (fun e w' => e = .returned (.bool (xv == yv)) ∧ Below wx.heap.size wx w') by
                have h := slices_Equal_i64 (n := m) (by have := hxo.ints.keep hb; rw [hxn] at this; exact this) (by have := hyo.ints.keep hb; rw [hyn] at this; exact this) hm
                rw [hxn, hyn]
                exact h))
              have hbr : Below wr.heap.size wr wr := Below.refl _ _
              simp only [Nat.zero_add] at c0 c1 ck
              have MX := Lib.hid (show (R2, xv) ∈ M from List.mem_of_getElem? hx)
              by_cases hxy : xv = yv
              · have CI2 := Lib.hid (CI.out.skip hxl hyl hxy)
                rw [show (xv == yv) = true by simpa using hxy] at KE
                clear hx hy hxo hyo hxn hyn hxl hyl hxy CI ck fk
                go_wp2_with fail
                go_region_held3 (fun wx => wx.cell? ⟨g, k + 1 + (q + 1), none⟩ = some (.slice R2.a R2.n R2.c) ∧ wx.cell? ⟨g, k + 1 + q, none⟩ = some (.slice R3.a R3.n R3.c) ∧ g < wx.heap.size ∧ Below wr.heap.size wr wx) (((try go_split_ands); (repeat' apply And.intro) <;> first | (with_reducible assumption) | (with_reducible exact cell_drew (by with_reducible assumption)) | (with_reducible exact lt_drew (by with_reducible assumption)) | (with_reducible exact Below.drew (by with_reducible assumption)) | (with_reducible exact (hcx _ _ (by with_reducible assumption)).trans (by with_reducible assumption)) | (with_reducible exact Nat.lt_of_lt_of_le (by with_reducible assumption) hsx) | (with_reducible exact below_callS (by with_reducible assumption) hbx) | omega)) (first | (go_at_call 187; go_split_ands; refine Calls.mono (KE.out _ (by assumption)) ?_; rintro e w6 ⟨rfl, hbx⟩; obtain ⟨hcx, hfx⟩ := bcell hbx; have hsx := hbx.size))
                have hb7 : Below wr.heap.size wr w6 := by go_split_ands; assumption
                have HB7 := Lib.hid (below_call HBi.out hb7 hlri)
                have HG7 := Lib.hid (grownBy_trans HGi.out (grownBy_below hb7 _))
                have SR7 := Lib.hid (Si.out.keep hb7)
                have hs7 := hb7.size
                clear hb7 hbx hcx hfx hsx hbr KE c0 c1 hb Si HBi HGi
                go_split_ands
                go_wp2_with fail
                go_roundw
                case rel => exact ⟨kk, q + 1, M, by go_num, by go_num, by omega, by omega, HB7, HG7, SR7, CI2⟩
                case measure => simp [intOf]; omega
              · have CI2 := Lib.hid (CI.out.step hxl hyl hxy)
                rw [show (xv == yv) = false by simpa using hxy] at KE
                clear hx hy hxo hyo hxn hyn hxl hyl hxy CI
                go_wp2_with fail
                go_region_held3 (fun wx => wx.cell? ⟨g, k + 1 + (q + 1), none⟩ = some (.slice R2.a R2.n R2.c) ∧ wx.cell? ⟨g, k + 1 + q, none⟩ = some (.slice R3.a R3.n R3.c) ∧ g < wx.heap.size ∧ Below wr.heap.size wr wx) (((try go_split_ands); (repeat' apply And.intro) <;> first | (with_reducible assumption) | (with_reducible exact cell_drew (by with_reducible assumption)) | (with_reducible exact lt_drew (by with_reducible assumption)) | (with_reducible exact Below.drew (by with_reducible assumption)) | (with_reducible exact (hcx _ _ (by with_reducible assumption)).trans (by with_reducible assumption)) | (with_reducible exact Nat.lt_of_lt_of_le (by with_reducible assumption) hsx) | (with_reducible exact below_callS (by with_reducible assumption) hbx) | omega)) (first | (go_at_call 187; go_split_ands; refine Calls.mono (KE.out _ (by assumption)) ?_; rintro e w6 ⟨rfl, hbx⟩; obtain ⟨hcx, hfx⟩ := bcell hbx; have hsx := hbx.size))
                have hb7 : Below wr.heap.size wr w6 := by go_split_ands; assumption
                obtain ⟨hc7, hf7⟩ := bcell hb7
                have d1 := (hc7 _ _ hb).trans c1
                have dk := (hc7 _ _ hb).trans ck
                have gk := (hf7 g kk hb).trans fk
                have dl := Nat.lt_of_lt_of_le hb hb7.size
                have HB7 := Lib.hid (below_call HBi.out hb7 hlri)
                have HG7 := Lib.hid (grownBy_trans HGi.out (grownBy_below hb7 _))
                have SR7 := Lib.hid (Si.out.keep hb7)
                have hs7 := hb7.size
                have hlb := (SR7.out.row.blk g rfl).1
                clear hb7 hbx hcx hfx hsx hbr KE c0 c1 hb Si HBi HGi hc7 hf7 ck fk
                go_split_ands
                go_wp2_with fail
                have hG8 := Lib.hid (grownBy_set HG7.out kk (.slice R2.a R2.n R2.c))
                have S8 := Lib.hid (SR7.out.put (by decide) (R2, xv) MX.out (show kk < n by omega))
                have HB8 := Lib.hid ((Below.refl lo w).grown hG8.out hlo (fun z e => by cases e; exact hlb))
                go_roundw
                case rel => exact ⟨kk + 1, q + 1, _, by go_num, by go_num, by omega, by simp; omega, HB8, hG8, S8, CI2⟩
                case measure => simp [intOf]; omega
            · have hend : k + 1 + q + 1 = n := by omega
              have hA : ¬ (q : Int) + 1 < ((n - (k + 1) : Nat) : Int) := by omega
              have hcl : ∀ ty, (Builtin.clear_ #[31] ty #[.slice (some ⟨g, kk, none⟩) (n - kk) (c - kk)]).run Tryz.prog wr = .ok (.tuple #[]) (wr.setCells g kk (List.replicate (n - kk) (.slice none 0 0))) :=
                fun ty => Lib.run_clear_slice wr _ _ ty (.slice none 0 0) Tryz.underlying31 zeroSl9 rfl rfl g kk _ _ (by omega) (fun j hj => by
                  obtain ⟨b, off, R4, zv, he, _, _, _, ck⟩ := Si.out.get (show kk + j < n by omega)
                  simp only [Option.some.injEq, Addr.mk.injEq, and_true] at he
                  obtain ⟨rfl, rfl⟩ := he
                  simp only [Nat.zero_add] at ck
                  rw [ck]; rfl) (fun j hj => Si.out.row.free (kk + j))
              have hlb := (Si.out.row.blk g rfl).1
              have hcut := Si.out.cut (m := kk) (by omega)
              obtain ⟨hS9, hG9⟩ := hcut.past (by decide) (List.replicate (n - kk) (.slice none 0 0)) (Nat.le_refl kk)
              have hk9 := CI.out.kept
              rw [hend] at hk9
              rw [hk9] at hS9
              have S9 := Lib.hid hS9
              have HG9 := Lib.hid (grownBy_trans HGi.out hG9)
              have HB9 := Lib.hid ((Below.refl lo w).grown HG9.out hlo (fun z e => by cases e; exact hlb))
              clear hS9 hG9 hcut hk9 Si HGi HBi CI
              go_wp2
              go_ret
              exact ⟨kk, rfl, S9.out, HB9.out, Touch.of_grown HG9.out⟩
        · have HS := Lib.hid (cp_new hx hy hxy)
          rw [show (xv == yv) = false by simpa using hxy] at KE
          have HC := Lib.hid (show cpQ l (k + 2) = l.take (k + 2) by rw [HS.out, CP.out, take_at (k := k + 1) hx])
          clear hx hy hxo hyo hxn hyn HS CP hxy
          go_wp2_with fail
          go_region_held3 (fun wx => wx.cell? ⟨g, k + 1, none⟩ = some (.slice R.a R.n R.c) ∧ wx.cell? ⟨g, k, none⟩ = some (.slice R'.a R'.n R'.c) ∧ g < wx.heap.size ∧ Below wr.heap.size wr wx) (((try go_split_ands); (repeat' apply And.intro) <;> first | (with_reducible assumption) | (with_reducible exact cell_drew (by with_reducible assumption)) | (with_reducible exact lt_drew (by with_reducible assumption)) | (with_reducible exact Below.drew (by with_reducible assumption)) | (with_reducible exact (hcx _ _ (by with_reducible assumption)).trans (by with_reducible assumption)) | (with_reducible exact Nat.lt_of_lt_of_le (by with_reducible assumption) hsx) | (with_reducible exact below_callS (by with_reducible assumption) hbx) | omega)) (first | (go_at_call 187; go_split_ands; refine Calls.mono (KE.out _ (by assumption)) ?_; rintro e w6 ⟨rfl, hbx⟩; obtain ⟨hcx, hfx⟩ := bcell hbx; have hsx := hbx.size))
          have hb7 : Below wr.heap.size wr w6 := by go_split_ands; assumption
          have HB7 := Lib.hid (below_call HB.out hb7 hlr)
          have HG7 := Lib.hid (grownBy_trans HG.out (grownBy_below hb7 _))
          have SR7 := Lib.hid (SR.out.keep hb7)
          have hs7 := hb7.size
          clear hb7 hbx hcx hfx hsx hbr KE c0 c1 hb SR HB HG
          go_split_ands
          go_wp2_with fail
          go_roundw
          case rel => exact ⟨k + 2, by go_num, by omega, by omega, by omega, HB7, HG7, SR7, HC⟩
          case measure => simp [intOf]; omega
      · obtain rfl : n = j := by omega
        have hlt' : ¬ (n : Int) < (n : Int) := by omega
        have HF := Lib.hid (show cpQ l n = l by rw [CP.out, List.take_of_length_le (by rw [HL.out]; exact Nat.le_refl _)])
        go_wp2
        go_ret
        exact ⟨n, rfl, by rw [HF.out]; exact SR.out, HB.out, Touch.of_grown HG.out⟩
set_option maxHeartbeats 1000000 in
theorem impl_sortedG {m lo l2 n c : Nat} {a : Option Addr} {l : List (QM × List Int)} {w : World} (hO : SRow w lo l2 a n c l) (hE : ∀ x ∈ l, x.1.n = m) (hn : n ≤ 1048576) (hm : m ≤ 1048576) (hlo : lo ≤ w.heap.size) :
    Calls Tryz.prog 131 #[.slice a n c] w fun e w' => ∃ n2, e = .returned (.slice a n2 c) ∧ n2 ≤ n ∧ ∃ l', SRow w' lo l2 a n2 c l' ∧ (∀ x ∈ l', x.1.n = m) ∧ l'.map (·.2) = srtS (l.map (·.2)) ∧ Below lo w w' ∧ Touch w w' 1 a := by
  have HL := Lib.hid (show ∀ x ∈ l.map (·.2), x.length = m from fun x hx => by
    obtain ⟨y, hy, rfl⟩ := List.mem_map.1 hx
    rw [(hO.each y hy).ints.len, hE y hy])
  by_cases h0 : 0 < n
  · obtain ⟨g, rfl⟩ := hO.row.shape h0
    have K1 := Lib.hid (sort_R hO hE h0 hn hm)
    clear hO hE
    go_enter Tryz.func131, Tryz.ntmps131
    go_wp2_with fail
    refine Calls.mono K1.out ?_
    rintro e w1 ⟨rfl, l', hS, hE', hp, hpw, hb1, hg1⟩
    have hs1 := hb1.size
    have hl'n := hS.len
    have hmem : ∀ y, y ∈ l'.map (·.2) ↔ y ∈ l.map (·.2) := fun y => hp.mem_iff
    have hsr : (cpQ l' l'.length).map (·.2) = srtS (l.map (·.2)) := by
      rw [cp_all (fun x hx => HL.out x ((hmem x).1 hx)) hpw]
      exact srt_of HL.out (srt_asc fun x hx => HL.out x ((hmem x).1 hx)) fun y => (srt_mem (fun x hx => HL.out x ((hmem x).1 hx)) y).trans (hmem y)
    rw [hl'n] at hsr
    have HCP := Lib.hid (fun x (hx : x ∈ cpQ l' n) => hE' x (List.mem_of_mem_take (cp_mem l' n x hx)))
    have K2 := Lib.hid (slices_CompactFunc_G hS hE' hn hm (Nat.le_trans hlo hs1))
    have HSR := Lib.hid hsr
    have HB1 := Lib.hid hb1
    have HG1 := Lib.hid hg1
    have hcl : (cpQ l' n).length ≤ n := by
      have h1 : ∀ q, (cpQ l' q).length ≤ q := by
        intro q
        induction q with
        | zero => exact Nat.le_refl _
        | succ q ih =>
          rw [cpQ, List.length_append]
          have : (match l'[q]? with
            | none => []
            | some x => if q ≠ 0 ∧ (l'[q - 1]?).map (·.2) = some x.2 then [] else [x] : List (QM × List Int)).length ≤ 1 := by
            split
            · simp
            · split <;> simp
          omega
      exact h1 n
    clear K1 hS hp hpw hsr hE' hmem hb1 hg1
    go_wp2_with fail
    refine Calls.mono K2.out ?_
    rintro e w2 ⟨n2, rfl, hS2, hb2, r, hg2, hr2⟩
    have hb3 := HB1.out.trans hb2
    have S2 := Lib.hid hS2
    have hn2 : n2 ≤ n := by rw [← hS2.len]; exact hcl
    have ht : Touch w w2 1 (some ⟨g, 0, none⟩) := by
      refine Touch.of_grown ?_
      rcases r with _ | r
      · exact grownBy_trans HG1.out ⟨hg2.os, hg2.tape, hg2.output, hg2.size, fun k hk _ => hg2.block k hk (by simp)⟩
      · have := (hr2 r rfl).2
        simp only [Option.some.injEq, Addr.mk.injEq, and_true] at this
        subst this
        exact grownBy_trans HG1.out hg2
    clear hS2 hg2 hr2 hb2
    go_wp2
    go_ret
    exact ⟨n2, rfl, hn2, _, S2.out, HCP.out, HSR.out, hb3, ht⟩
  · obtain rfl : n = 0 := by omega
    have hl : l = [] := List.eq_nil_of_length_eq_zero hO.len
    subst hl
    have K2 := Lib.hid (slices_CompactFunc_G hO hE hn hm hlo)
    have K1 := Lib.hid (Tryz.slices_SortFunc_none (α := Nat) a c (.func (.func 185) #[] #[]) w)
    clear hO hE
    go_enter Tryz.func131, Tryz.ntmps131
    go_wp2_with fail
    refine Calls.mono K1.out ?_
    rintro e _ ⟨rfl, rfl⟩
    go_wp2_with fail
    refine Calls.mono K2.out ?_
    rintro e w2 ⟨n2, rfl, hS2, hb2, ht2⟩
    have hn2 : n2 = 0 := by rw [← hS2.len]; rfl
    subst hn2
    have S2 := Lib.hid hS2
    clear hS2
    go_wp2
    go_ret
    exact ⟨0, rfl, Nat.le_refl _, _, S2.out, (fun x hx => by cases hx), rfl, hb2, ht2⟩
set_option maxHeartbeats 2000000 in
theorem impl_statesOfT {g : Nat} {n' c' lo m : Nat} {a' : Option Addr} {l : List (QM × SN)} {w : World} (eg : ∀ args w, (callFunc g args).run Tryz.prog w = .ok (.enter g args) w) (hg : ∀ (W : World) (v : Value), Calls Tryz.prog g (#[v] ++ #[]) W fun e w' => e = .returned (.bool true) ∧ W = w')
    (hQ : QOwn w lo a' n' c' l) (hlo : lo ≤ w.heap.size) (hP : ∀ x ∈ l, x.2.v.length = m) (hm : m ≤ 1048576) (hn' : n' ≤ 1048576) :
    Calls Tryz.prog 69 #[.slice a' n' c', .func (.func g) #[] #[]] w fun e w' => ∃ a2 c2 l2 n2, e = .returned (.slice a2 n2 c2) ∧ SRow w' w.heap.size lo a2 n2 c2 l2 ∧ (∀ x ∈ l2, x.1.n = m) ∧ l2.map (·.2) = srtS (l.map (·.2.v)) ∧ n2 ≤ n' ∧ Below w.heap.size w w' := by
  have HQ := Lib.hid hQ
  have HP := Lib.hid hP
  clear hQ hP
  go_enter Tryz.func69, Tryz.ntmps69
  go_wp2_with fail
  go_loopw [5, 10] (fun s5 s10 wr => ∃ (j cd : Nat) (ad : Option Addr) (ld : List (QM × List Int)), s5 = .slice ad j cd ∧ s10 = .int .i64 j ∧ j ≤ n' ∧ w.heap.size ≤ wr.heap.size ∧ Hid (Below w.heap.size w wr) ∧ Hid (SRow wr w.heap.size lo ad j cd ld) ∧ Hid (ld.map (·.2) = (l.take j).map (·.2.v))) (fun _ s10 _ => n' - (intOf s10).toNat)
  case atStart => exact ⟨0, 0, none, [], rfl, rfl, by omega, Nat.le_refl _, Lib.hid (Below.refl _ _), Lib.hid (SRow.nil _ _ _), Lib.hid (by simp)⟩
  case round =>
    obtain ⟨j, cd, ad, ld, rfl, rfl, hj, hsr, HB, SD, A⟩ := hrel
    by_cases hlt : j < n'
    · have hlt' : (j : Int) < (n' : Int) := by omega
      have hj0 : (0 : Int) ≤ (j : Int) := by omega
      obtain ⟨b, off, R, y, rfl, hb, hly, hov, q0, q1, q2, q3⟩ := (HQ.out.keep HB.out).get hlt
      have HLY := Lib.hid hly
      have OV := Lib.hid hov
      have KU := Lib.hid (fun (wx : World) => hg wx (.slice R.a R.n R.c))
      have HA := Lib.hid (show (ld ++ [(R, y.v)]).map (·.2) = (l.take (j + 1)).map (·.2.v) by
        rw [List.map_append, A.out, take_at hly, List.map_append]; rfl)
      clear hly hov
      have hbX : Below wr.heap.size wr (wr.alloc (.cells #[.slice R.a R.n R.c, .int .i64 y.fr, .int .i64 y.ru, .int .i64 y.dp] 121)) := bel
      have X := Lib.hid (Blk.made wr #[.slice R.a R.n R.c, .int .i64 y.fr, .int .i64 y.ru, .int .i64 y.dp] 121)
      go_wp2_with fail
      clear q0 q1 q2 q3
      refine Calls.mono (KU.out _) ?_
      rintro e w1 ⟨rfl, rfl⟩
      have X1 := X.out
      have SD1 := Lib.hid (SD.out.keep hbX)
      have OV1 := Lib.hid (OV.out.keep hbX)
      have HB1 := Lib.hid (below_call HB.out hbX hsr)
      have hs1 := hbX.size
      have x0 := X1.cell 0
      have xl := X1.lt
      simp at x0
      clear hbX X X1 KU SD OV HB
      go_wp2_with (at_builtin; refine appS rfl _ _ rfl w.heap.size lo _ _ _ _ SD1.out rfl _ rfl (by first | rfl | (simp; done)) (R, y.v) OV1.out _ rfl (by omega) (by (try simp); omega) ?_; intro g' c2 w2 h1 h2 h3 h4 h5; have SD2 := Lib.hid h1; have HB2 := Lib.hid (HB1.out.trans h2); have hs2 := h2.size; clear h1 h2 h3 h4 h5)
      go_roundw
      case rel => exact ⟨j + 1, c2, _, _, by go_num, by go_num, by omega, by omega, HB2, SD2, HA⟩
      case measure => simp [intOf]; omega
    · have hlt' : ¬ (j : Int) < (n' : Int) := by omega
      obtain rfl : n' = j := by omega
      have hA := A.out
      rw [List.take_of_length_le (by rw [HQ.out.row.flats.len]; exact Nat.le_refl _)] at hA
      have hE : ∀ x ∈ ld, x.1.n = m := fun x hx => by
        have h1 := (SD.out.each x hx).ints
        have h2 : x.2 ∈ l.map (·.2.v) := by rw [← hA]; exact List.mem_map_of_mem hx
        obtain ⟨y, hy, e⟩ := List.mem_map.1 h2
        rw [← h1.len, ← e]; exact HP.out y hy
      have K := Lib.hid (impl_sortedG SD.out hE (by omega) hm hsr)
      have HAA := Lib.hid hA
      have HBr := HB
      clear hA hE SD A
      go_wp2_with fail
      refine Calls.mono K.out ?_
      rintro e w2 ⟨n2, rfl, hn2, l2, hS, hE2, hsr2, hb2, _⟩
      have hb3 := HBr.out.trans hb2
      rw [HAA.out] at hsr2
      go_wp2
      go_ret
      exact ⟨ad, cd, l2, n2, rfl, hS, hE2, hsr2, by omega, hb3⟩
set_option maxRecDepth 100000 in
set_option maxHeartbeats 2000000 in
theorem impl_limitedC {lo p mb nc mn : Nat} {inp root : Int} {na : Option Addr} {L : List I3} {w : World} (hFor : ForA w lo p mb inp na nc mn L) (hR : Redu L) (hL : L.length ≤ 4194000) (hinp : I64 inp) (hr : RefB root L.length) :
    Calls Tryz.prog 90 #[.pointer (some ⟨p, 0, none⟩), .int .i64 root] w fun e w' => ∃ da dc, e = .returned (.tuple #[.agg #[.int .i64 (lmC inp (canN mkN L root).1 (canN mkN L root).2).1, .slice da (lmC inp (canN mkN L root).1 (canN mkN L root).2).2.1.length dc, .int .i64 (lmC inp (canN mkN L root).1 (canN mkN L root).2).2.2.1], .int .i64 (lmC inp (canN mkN L root).1 (canN mkN L root).2).2.2.2]) ∧ OwnF 3 I3.enc I3.ok 117 w' w.heap.size da (lmC inp (canN mkN L root).1 (canN mkN L root).2).2.1.length dc (lmC inp (canN mkN L root).1 (canN mkN L root).2).2.1 ∧ Below w.heap.size w w' := by
  by_cases hfew : (canN mkN L root).1.length ≤ 2000
  · rw [lmC_yes hfew]
    exact impl_limited hFor hR hL hinp hr hfew
  · have hcl := can_length hR hr
    rw [lmC_no hfew]
    have hbW := fun (o : Obj) => below_alloc1 (Below.refl w.heap.size w) o
    have HF := Lib.hid hFor
    clear hFor
    go_enter Tryz.func90, Tryz.ntmps90
    go_wp2_with fail
    refine Calls.mono (impl_canonical (HF.out.keep (hbW _)) hR hL hinp hr) ?_
    rintro e w1 ⟨da, dc, rfl, hO, hb1⟩
    have X1 := Lib.hid ((Blk.made w #[.int .i64 0, .slice none 0 0, .int .i64 0] 40).keep hb1)
    have hs1 := hb1.size
    simp at hs1
    have HB1 := Lib.hid (below_callS (hbW _) hb1)
    clear hO hb1 hbW
    have hn : (2000 : Int) < ((canN mkN L root).1.length : Int) := by omega
    have x0 := X1.out.cell 0
    have x1 := X1.out.cell 1
    have x2 := X1.out.cell 2
    have xl := X1.out.lt
    have xf := X1.out.free
    simp only [List.getElem?_toArray, List.getElem?_cons_succ, List.getElem?_cons_zero] at x0 x1 x2
    have hb0 : Below w.heap.size w w1 := HB1.out
    go_wp2
    refine bodyPost_ret (v := .tuple #[.agg #[.int .i64 0, .slice none 0 0, .int .i64 0], .int .i64 3]) (by simp [results, Tryz.results90, go_sem, *]) rfl ⟨none, 0, rfl, ⟨World.ownsRow_nil _ _ _ 3, (fun _ h => by cases h), rfl, fun _ => rfl⟩, ?_⟩
    exact bel
end Go.Proofs.YtkaikbaagajckaaGreat
