/- The program's forests, walked: a node is made once. -/
import Derived.Test.YtkaikbaagajckaaVm
import Derived.Test.YtkaikbaagajckaaAt
import Derived.Test.YtkaikbaagajckaaAi
import Derived.Test.YtkaikbaagajckaaKm
import Derived.BigQuiet
namespace Go.Proofs.Ytkaikbaagajckaa
open Go.RowKit
set_option linter.unusedVariables false
set_option linter.unusedSimpArgs false
theorem posN_app {x : I3} : ∀ {L : List I3}, x ∉ L → ∀ y, posN y (L ++ [x]) = if y = x then some L.length else posN y L
  | [], _, y => by
    rw [List.nil_append, posN, posN]
    by_cases h : x = y
    · rw [if_pos h, if_pos h.symm]; rfl
    · rw [if_neg h, if_neg (fun e => h e.symm), posN]; rfl
  | z :: r, h, y => by
    have h1 : z ≠ x := fun e => h (by rw [e]; exact List.mem_cons_self ..)
    have h2 : x ∉ r := fun e => h (List.mem_cons_of_mem _ e)
    rw [List.cons_append, posN, posN, posN_app h2 y]
    by_cases hz : z = y
    · rw [if_pos hz, if_pos hz, if_neg (fun e => h1 (hz.trans e))]
    · rw [if_neg hz, if_neg hz]
      by_cases hy : y = x
      · rw [if_pos hy, if_pos hy]; rfl
      · rw [if_neg hy, if_neg hy]
theorem OwnF.typN {α : Type} {k : Nat} {enc : α → List Value} {ok : α → Prop} {E : TypeId} {w : World} {base : Nat} {a : Option Addr} {n c : Nat} {l : List α} (h : OwnF k enc ok E w base a n c l) {g : Nat} (e : a = some ⟨g, 0, none⟩) : ∃ cur, w.heap[g]? = some (.cells cur E (0, 0)) := by
  subst e
  rcases h.1.2 with ⟨he, _⟩ | ⟨g', cap, cur, he, hb, hg, _⟩
  · simp only [Value.slice.injEq] at he; cases he.1
  · simp only [Value.slice.injEq, Option.some.injEq, Addr.mk.injEq] at he
    obtain ⟨⟨rfl, _⟩, _⟩ := he
    exact ⟨cur, hg⟩
theorem Try.infoNode : (Try.prog.info? 76).map (fun i => (i.zero, i.size, i.bytes)) = some (some (.agg #[.int .i64 0, .int .i64 0, .int .i64 0]), 3, 24) := by kernel_rfl
theorem I3.one9 (y : I3) : ∀ u ∈ y.enc, u.oneCell' = true := fun u hu => by
  simp only [I3.enc, List.mem_cons, List.not_mem_nil, or_false] at hu
  rcases hu with rfl | rfl | rfl <;> rfl
abbrev MapN := MapA 76 I3.ok litK3
/-- block p is a forest of the call's own (from block lo on) with these nodes -/
structure ForA (w : World) (lo p mb : Nat) (inp : Int) (na : Option Addr) (nc mn : Nat) (L : List I3) : Prop where
  blk : Blk w p #[.int .i64 inp, .slice na L.length nc, .map (some mb)] 140
  own : OwnF 3 I3.enc I3.ok 76 w lo na L.length nc L
  map : MapN w mb mn (fun x => (posN x L).map fun (k : Nat) => (k : Int) + 2)
  few : mn ≤ L.length
  lop : lo ≤ p
  lom : lo ≤ mb
theorem ForA.keep {w w' : World} {lo p mb : Nat} {inp : Int} {na : Option Addr} {nc mn : Nat} {L : List I3} (h : ForA w lo p mb inp na nc mn L) (hb : Below w.heap.size w w') : ForA w' lo p mb inp na nc mn L :=
  ⟨h.blk.keep hb, h.own.keep hb, h.map.keep hb, h.few, h.lop, h.lom⟩
/-- what making a node may write: the forest's block, its map, its nodes -/
structure FrF (lo p mb : Nat) (w w' : World) : Prop where
  os : w'.os = w.os
  tape : w'.tape = w.tape
  output : w'.output = w.output
  size : w.heap.size ≤ w'.heap.size
  block : ∀ k, k < w.heap.size → k ≠ p → k ≠ mb → (k < lo ∨ ∀ cs l, w.heap[k]? ≠ some (.cells cs 76 l)) → w'.heap[k]? = w.heap[k]?
theorem FrF.refl (lo p mb : Nat) (w : World) : FrF lo p mb w w := ⟨rfl, rfl, rfl, Nat.le_refl _, fun _ _ _ _ _ => rfl⟩
theorem FrF.below {lo p mb B : Nat} {w0 w w' : World} (h : FrF lo p mb w w') (h0 : Below B w0 w) (hB : B ≤ w.heap.size) (hl : B ≤ lo) (hp : B ≤ p) (hm : B ≤ mb) : Below B w0 w' :=
  ⟨h.os.trans h0.os, h.tape.trans h0.tape, h.output.trans h0.output, Nat.le_trans h0.size h.size, fun k hk => (h.block k (by omega) (by omega) (by omega) (.inl (by omega))).trans (h0.block k hk)⟩
theorem FrF.trans {lo p mb : Nat} {w w' w'' : World} (h : FrF lo p mb w w') (h' : FrF lo p mb w' w'') : FrF lo p mb w w'' := by
  refine ⟨h'.os.trans h.os, h'.tape.trans h.tape, h'.output.trans h.output, Nat.le_trans h.size h'.size, fun k hk h1 h2 h3 => ?_⟩
  have e := h.block k hk h1 h2 h3
  refine (h'.block k (Nat.lt_of_lt_of_le hk h.size) h1 h2 ?_).trans e
  rcases h3 with h3 | h3
  · exact .inl h3
  · exact .inr fun cs l he => h3 cs l (e.symm.trans he)
theorem FrF.of_below {lo p mb : Nat} {w w' : World} (h : Below w.heap.size w w') : FrF lo p mb w w' := ⟨h.os, h.tape, h.output, h.size, fun k hk _ _ _ => h.block k hk⟩
/-- a block of another kind stays -/
theorem Blk.frf {lo p mb b : Nat} {w w' : World} {cs : Array Value} {T : TypeId} (h : Blk w b cs T) (hf : FrF lo p mb w w') (hp : b ≠ p) (hT : T ≠ 76) (hm : b ≠ mb) : Blk w' b cs T :=
  (hf.block b h.lt hp hm (.inr fun cs' l he => by
    rw [Blk] at h
    rw [h] at he
    simp only [Option.some.injEq, Obj.cells.injEq] at he
    exact hT he.2.1)).trans h
set_option maxHeartbeats 1000000 in
theorem impl_length_Node {a : Option Addr} {n c : Nat} {w : World} : Calls Try.prog 63 #[.slice a n c] w fun e w' => e = .returned (.int .i64 n) ∧ w = w' := by
  go_enter Try.func63, Try.ntmps63
  go_wp2
  go_ret
  exact ⟨rfl, rfl⟩
theorem impl_newForest {n : Int} {w : World} : Calls Try.prog 64 #[.int .i64 n] w fun e w' => ∃ p mb, e = .returned (.pointer (some ⟨p, 0, none⟩)) ∧ ForA w' w.heap.size p mb n none 0 0 [] ∧ Below w.heap.size w w' ∧ p < w'.heap.size := by
  have hmm := @run_makeMap Try.prog
  go_enter Try.func64, Try.ntmps64
  go_wp2
  go_ret
  refine ⟨_, _, rfl, ⟨(by have h := Blk.made (w.alloc (.map #[] 0)) #[.int .i64 n, .slice none 0 0, .map (some w.heap.size)] 140; simpa using h), ⟨World.ownsRow_nil _ _ _ 3, (fun _ h => by cases h), rfl, fun _ => rfl⟩, ((MapA.made w).keep ((Below.refl _ _).alloc (Nat.le_refl _) _)).congr (fun x _ => by simp [posN]), Nat.le_refl _, by simp, Nat.le_refl _⟩, by repeat (first | exact Below.refl _ _ | assumption | refine below_allocS ?_ _ | refine below_callS ?_ (by assumption) | (refine Below.alloc ?_ (by first | omega | (simp; done) | (simp; omega)) _) | (refine Below.setCell ?_ (by first | omega | (simp; done) | (simp; omega)) _) | refine Below.drew ?_ | refine below_drewN ?_ _ | (refine below_call ?_ (by assumption) (by first | omega | (simp; done) | (simp; omega))) | (refine Below.trans ?_ (by assumption))), by simp⟩
set_option maxRecDepth 100000 in
set_option maxHeartbeats 4000000 in
theorem impl_node {lo p mb nc mn : Nat} {inp i a b : Int} {na : Option Addr} {L : List I3} {w : World} (hFor : ForA w lo p mb inp na nc mn L) (hL : L.length ≤ 4194000) (hi : I64 i) (ha : I64 a) (hb : I64 b) (hlo : lo ≤ w.heap.size) :
    Calls Try.prog 66 #[.pointer (some ⟨p, 0, none⟩), .int .i64 i, .int .i64 a, .int .i64 b] w fun e w' => e = .returned (.int .i64 (mkN L i a b).2) ∧ (∃ na' nc' mn', ForA w' lo p mb inp na' nc' mn' (mkN L i a b).1) ∧ FrF lo p mb w w' := by
  by_cases hab : a = b
  · subst hab
    have e1 : (a == a) = true := by simp
    have HM := Lib.hid (mkN_eq (L := L) (i := i) (rfl : a = a))
    have HF := Lib.hid hFor
    clear hFor
    go_enter Try.func66, Try.ntmps66
    go_wp2
    go_ret
    exact ⟨by rw [HM.out]; rfl, ⟨_, _, _, by rw [HM.out]; exact HF.out⟩, FrF.refl _ _ _ _⟩
  · have e1 : (a == b) = false := by simpa using hab
    have HNE := Lib.hid hab
    have hx : I3.ok ⟨i, a, b⟩ := ⟨hi, ha, hb⟩
    obtain ⟨W, hW⟩ : ∃ W, W = w.alloc (.cells #[.int .i64 i, .int .i64 a, .int .i64 b] 76) := ⟨_, rfl⟩
    have hbW : Below w.heap.size w W := by rw [hW]; repeat (first | exact Below.refl _ _ | assumption | refine below_allocS ?_ _ | refine below_callS ?_ (by assumption) | (refine Below.alloc ?_ (by first | omega | (simp; done) | (simp; omega)) _) | (refine Below.setCell ?_ (by first | omega | (simp; done) | (simp; omega)) _) | refine Below.drew ?_ | refine below_drewN ?_ _ | (refine below_call ?_ (by assumption) (by first | omega | (simp; done) | (simp; omega))) | (refine Below.trans ?_ (by assumption)))
    have N9 := Lib.hid (show Blk W w.heap.size #[.int .i64 i, .int .i64 a, .int .i64 b] 76 by rw [hW]; exact Blk.made _ _ _)
    have P9 := Lib.hid (hFor.blk.keep hbW)
    have hlk := fun (wx : World) (hb : Below W.heap.size W wx) => ((hFor.map.keep hbW).keep hb).look keyN Try.underlying138 hx true
    have HF := Lib.hid hFor
    clear hFor hab
    have p2 := P9.out.cell 2
    have pl := P9.out.lt
    have n0 := N9.out.cell 0
    have n1 := N9.out.cell 1
    have n2 := N9.out.cell 2
    have nl := N9.out.lt
    simp at p2 n0 n1 n2
    cases hpos : posN ⟨i, a, b⟩ L with
    | some k =>
      have HLK := Lib.hid (show ∀ wx : World, Below W.heap.size W wx → (Instr.lookup 138 (.map (some mb)) (.agg #[.int .i64 i, .int .i64 a, .int .i64 b]) true).run Try.prog wx = .ok (.tuple #[.int .i64 ((k : Int) + 2), .bool true]) wx from fun wx hb => by
        have h := hlk wx hb
        rw [hpos] at h
        exact h)
      have HM := Lib.hid (mkN_old HNE.out hpos)
      clear hpos hlk
      go_enter Try.func66, Try.ntmps66
      go_wp2_with fail
      rw [← hW]
      clear hW
      go_wp2_with fail
      refine wp_region_noPanic ?_
      refine wp_region_M (L := 10) (S := fun wx => Below W.heap.size W wx) (by kernel_rfl) ?_ (fun hHeld => ?_)
      · exact (Below.refl _ _).drew
      refine wpAnyM_take (i := 0) (v := ?_) (by simp only [List.getElem?_toArray, List.getElem?_cons_succ, List.getElem?_cons_zero] <;> rfl) (by kernel_rfl) (by kernel_rfl) (by kernel_rfl) (by kernel_rfl) (by kernel_rfl) (fun _ _ _ h => h) (Or.inl ⟨by rfl, ?_⟩) (by assumption) ?_
      rotate_left
      · (intro wv hSw; (try dsimp only at hSw); obtain ⟨hcq, _⟩ := bcell hSw; have hsq := Below.size hSw; go_simp; try with_reducible rfl)
      try simp only [Act.put, List.setIfInBounds_toArray, List.set_cons_zero, List.set_cons_succ]
      refine wpAnyM_take (i := 1) (v := ?_) (by simp only [List.getElem?_toArray, List.getElem?_cons_succ, List.getElem?_cons_zero] <;> rfl) (by kernel_rfl) (by kernel_rfl) (by kernel_rfl) (by kernel_rfl) (by kernel_rfl) (fun _ _ _ h => h) (Or.inl ⟨by rfl, ?_⟩) (by assumption) ?_
      rotate_left
      · (intro wv hSw; (try dsimp only at hSw); obtain ⟨hcq, _⟩ := bcell hSw; have hsq := Below.size hSw; go_simp; try with_reducible rfl)
      try simp only [Act.put, List.setIfInBounds_toArray, List.set_cons_zero, List.set_cons_succ]
      refine wpAnyM_take (i := 2) (v := ?_) (by simp only [List.getElem?_toArray, List.getElem?_cons_succ, List.getElem?_cons_zero] <;> rfl) (by kernel_rfl) (by kernel_rfl) (by kernel_rfl) (by kernel_rfl) (by kernel_rfl) (fun _ _ _ h => h) (Or.inl ⟨by rfl, ?_⟩) (by assumption) ?_
      rotate_left
      · (intro wv hSw; (try dsimp only at hSw); obtain ⟨hcq, _⟩ := bcell hSw; have hsq := Below.size hSw; go_simp; try with_reducible rfl)
      try simp only [Act.put, List.setIfInBounds_toArray, List.set_cons_zero, List.set_cons_succ]
      refine wpAnyM_take (i := 3) (v := ?_) (by simp only [List.getElem?_toArray, List.getElem?_cons_succ, List.getElem?_cons_zero] <;> rfl) (by kernel_rfl) (by kernel_rfl) (by kernel_rfl) (by kernel_rfl) (by kernel_rfl) (fun _ _ _ h => h) (Or.inl ⟨by rfl, ?_⟩) (by assumption) ?_
      rotate_left
      · (intro wv hSw; (try dsimp only at hSw); obtain ⟨hcq, _⟩ := bcell hSw; have hsq := Below.size hSw; have q2 := (hcq _ _ pl).trans p2; have ql := Nat.lt_of_lt_of_le pl hsq; go_simp; try with_reducible rfl)
      try simp only [Act.put, List.setIfInBounds_toArray, List.set_cons_zero, List.set_cons_succ]
      refine wpAnyM_take (i := 4) (v := ?_) (by simp only [List.getElem?_toArray, List.getElem?_cons_succ, List.getElem?_cons_zero] <;> rfl) (by kernel_rfl) (by kernel_rfl) (by kernel_rfl) (by kernel_rfl) (by kernel_rfl) (fun _ _ _ h => h) (Or.inl ⟨by rfl, ?_⟩) (by assumption) ?_
      rotate_left
      · (intro wv hSw; (try dsimp only at hSw); obtain ⟨hcq, _⟩ := bcell hSw; have hsq := Below.size hSw; have q0 := (hcq _ _ nl).trans n0; have q1 := (hcq _ _ nl).trans n1; have q2 := (hcq _ _ nl).trans n2; have ql := Nat.lt_of_lt_of_le nl hsq; go_simp; try with_reducible rfl)
      try simp only [Act.put, List.setIfInBounds_toArray, List.set_cons_zero, List.set_cons_succ]
      refine wpAnyM_take (i := 5) (v := ?_) (by simp only [List.getElem?_toArray, List.getElem?_cons_succ, List.getElem?_cons_zero] <;> rfl) (by kernel_rfl) (by kernel_rfl) (by kernel_rfl) (by kernel_rfl) (by kernel_rfl) (fun _ _ _ h => h) (Or.inl ⟨by rfl, ?_⟩) (by assumption) ?_
      rotate_left
      · (intro wv hSw; (try dsimp only at hSw); obtain ⟨hcq, _⟩ := bcell hSw; have hsq := Below.size hSw; have hl := HLK.out wv hSw; go_simp; try with_reducible rfl)
      try simp only [Act.put, List.setIfInBounds_toArray, List.set_cons_zero, List.set_cons_succ]
      refine wpAnyM_take (i := 6) (v := ?_) (by simp only [List.getElem?_toArray, List.getElem?_cons_succ, List.getElem?_cons_zero] <;> rfl) (by kernel_rfl) (by kernel_rfl) (by kernel_rfl) (by kernel_rfl) (by kernel_rfl) (fun _ _ _ h => h) (Or.inl ⟨by rfl, ?_⟩) (by assumption) ?_
      rotate_left
      · (intro wv hSw; (try dsimp only at hSw); obtain ⟨hcq, _⟩ := bcell hSw; have hsq := Below.size hSw; go_simp; try with_reducible rfl)
      try simp only [Act.put, List.setIfInBounds_toArray, List.set_cons_zero, List.set_cons_succ]
      refine wpAnyM_take (i := 7) (v := ?_) (by simp only [List.getElem?_toArray, List.getElem?_cons_succ, List.getElem?_cons_zero] <;> rfl) (by kernel_rfl) (by kernel_rfl) (by kernel_rfl) (by kernel_rfl) (by kernel_rfl) (fun _ _ _ h => h) (Or.inl ⟨by rfl, ?_⟩) (by assumption) ?_
      rotate_left
      · (intro wv hSw; (try dsimp only at hSw); obtain ⟨hcq, _⟩ := bcell hSw; have hsq := Below.size hSw; go_simp; try with_reducible rfl)
      try simp only [Act.put, List.setIfInBounds_toArray, List.set_cons_zero, List.set_cons_succ]
      refine wpAnyM_take (i := 8) (v := ?_) (by simp only [List.getElem?_toArray, List.getElem?_cons_succ, List.getElem?_cons_zero] <;> rfl) (by kernel_rfl) (by kernel_rfl) (by kernel_rfl) (by kernel_rfl) (by kernel_rfl) (fun _ _ _ h => h) (Or.inl ⟨by rfl, ?_⟩) (by assumption) ?_
      rotate_left
      · (intro wv hSw; (try dsimp only at hSw); obtain ⟨hcq, _⟩ := bcell hSw; have hsq := Below.size hSw; go_simp; try with_reducible rfl)
      try simp only [Act.put, List.setIfInBounds_toArray, List.set_cons_zero, List.set_cons_succ]
      refine wpAnyM_take (i := 9) (v := ?_) (by simp only [List.getElem?_toArray, List.getElem?_cons_succ, List.getElem?_cons_zero] <;> rfl) (by kernel_rfl) (by kernel_rfl) (by kernel_rfl) (by kernel_rfl) (by kernel_rfl) (fun _ _ _ h => h) (Or.inl ⟨by rfl, ?_⟩) (by assumption) ?_
      rotate_left
      · (intro wv hSw; (try dsimp only at hSw); obtain ⟨hcq, _⟩ := bcell hSw; have hsq := Below.size hSw; go_simp; try with_reducible rfl)
      try simp only [Act.put, List.setIfInBounds_toArray, List.set_cons_zero, List.set_cons_succ]
      refine wpAnyM_ready (rs := [10]) (by kernel_rfl) (by simp) ?_
      refine AllReadyM.last rfl (fun K hK => ?_)
      go_simp
      refine hK.out _ _ ?_
      clear hK K
      try simp only [Act.put, List.setIfInBounds_toArray, List.set_cons_zero, List.set_cons_succ]
      refine wpAnyM_done (by kernel_rfl) ?_ _
      refine NoPanic.normal ?_
      have HB := Lib.hid (below_callS hbW hHeld)
      clear p2 pl n0 n1 n2 nl
      go_wp2
      go_ret
      have hbe := HB.out
      refine ⟨by rw [HM.out]; rfl, ⟨na, nc, mn, ?_⟩, FrF.of_below hbe⟩
      rw [HM.out]
      exact HF.out.keep hbe
    | none =>
      have HLK := Lib.hid (show ∀ wx : World, Below W.heap.size W wx → (Instr.lookup 138 (.map (some mb)) (.agg #[.int .i64 i, .int .i64 a, .int .i64 b]) true).run Try.prog wx = .ok (.tuple #[.int .i64 0, .bool false]) wx from fun wx hb => by
        have h := hlk wx hb
        rw [hpos] at h
        exact h)
      have hnot := posN_none.1 hpos
      have HM := Lib.hid (mkN_new HNE.out hnot)
      have HNOT := Lib.hid hnot
      have hgn : ∀ g, na = some ⟨g, 0, none⟩ → g < w.heap.size := fun g e => (HF.out.own.blk g e).2
      clear hpos hlk hnot
      go_enter Try.func66, Try.ntmps66
      go_wp2_with fail
      rw [← hW]
      clear hW
      go_wp2_with fail
      refine wp_region_noPanic ?_
      refine wp_region_M (L := 10) (S := fun wx => Below W.heap.size W wx) (by kernel_rfl) ?_ (fun hHeld => ?_)
      · exact (Below.refl _ _).drew
      refine wpAnyM_take (i := 0) (v := ?_) (by simp only [List.getElem?_toArray, List.getElem?_cons_succ, List.getElem?_cons_zero] <;> rfl) (by kernel_rfl) (by kernel_rfl) (by kernel_rfl) (by kernel_rfl) (by kernel_rfl) (fun _ _ _ h => h) (Or.inl ⟨by rfl, ?_⟩) (by assumption) ?_
      rotate_left
      · (intro wv hSw; (try dsimp only at hSw); obtain ⟨hcq, _⟩ := bcell hSw; have hsq := Below.size hSw; go_simp; try with_reducible rfl)
      try simp only [Act.put, List.setIfInBounds_toArray, List.set_cons_zero, List.set_cons_succ]
      refine wpAnyM_take (i := 1) (v := ?_) (by simp only [List.getElem?_toArray, List.getElem?_cons_succ, List.getElem?_cons_zero] <;> rfl) (by kernel_rfl) (by kernel_rfl) (by kernel_rfl) (by kernel_rfl) (by kernel_rfl) (fun _ _ _ h => h) (Or.inl ⟨by rfl, ?_⟩) (by assumption) ?_
      rotate_left
      · (intro wv hSw; (try dsimp only at hSw); obtain ⟨hcq, _⟩ := bcell hSw; have hsq := Below.size hSw; go_simp; try with_reducible rfl)
      try simp only [Act.put, List.setIfInBounds_toArray, List.set_cons_zero, List.set_cons_succ]
      refine wpAnyM_take (i := 2) (v := ?_) (by simp only [List.getElem?_toArray, List.getElem?_cons_succ, List.getElem?_cons_zero] <;> rfl) (by kernel_rfl) (by kernel_rfl) (by kernel_rfl) (by kernel_rfl) (by kernel_rfl) (fun _ _ _ h => h) (Or.inl ⟨by rfl, ?_⟩) (by assumption) ?_
      rotate_left
      · (intro wv hSw; (try dsimp only at hSw); obtain ⟨hcq, _⟩ := bcell hSw; have hsq := Below.size hSw; go_simp; try with_reducible rfl)
      try simp only [Act.put, List.setIfInBounds_toArray, List.set_cons_zero, List.set_cons_succ]
      refine wpAnyM_take (i := 3) (v := ?_) (by simp only [List.getElem?_toArray, List.getElem?_cons_succ, List.getElem?_cons_zero] <;> rfl) (by kernel_rfl) (by kernel_rfl) (by kernel_rfl) (by kernel_rfl) (by kernel_rfl) (fun _ _ _ h => h) (Or.inl ⟨by rfl, ?_⟩) (by assumption) ?_
      rotate_left
      · (intro wv hSw; (try dsimp only at hSw); obtain ⟨hcq, _⟩ := bcell hSw; have hsq := Below.size hSw; have q2 := (hcq _ _ pl).trans p2; have ql := Nat.lt_of_lt_of_le pl hsq; go_simp; try with_reducible rfl)
      try simp only [Act.put, List.setIfInBounds_toArray, List.set_cons_zero, List.set_cons_succ]
      refine wpAnyM_take (i := 4) (v := ?_) (by simp only [List.getElem?_toArray, List.getElem?_cons_succ, List.getElem?_cons_zero] <;> rfl) (by kernel_rfl) (by kernel_rfl) (by kernel_rfl) (by kernel_rfl) (by kernel_rfl) (fun _ _ _ h => h) (Or.inl ⟨by rfl, ?_⟩) (by assumption) ?_
      rotate_left
      · (intro wv hSw; (try dsimp only at hSw); obtain ⟨hcq, _⟩ := bcell hSw; have hsq := Below.size hSw; have q0 := (hcq _ _ nl).trans n0; have q1 := (hcq _ _ nl).trans n1; have q2 := (hcq _ _ nl).trans n2; have ql := Nat.lt_of_lt_of_le nl hsq; go_simp; try with_reducible rfl)
      try simp only [Act.put, List.setIfInBounds_toArray, List.set_cons_zero, List.set_cons_succ]
      refine wpAnyM_take (i := 5) (v := ?_) (by simp only [List.getElem?_toArray, List.getElem?_cons_succ, List.getElem?_cons_zero] <;> rfl) (by kernel_rfl) (by kernel_rfl) (by kernel_rfl) (by kernel_rfl) (by kernel_rfl) (fun _ _ _ h => h) (Or.inl ⟨by rfl, ?_⟩) (by assumption) ?_
      rotate_left
      · (intro wv hSw; (try dsimp only at hSw); obtain ⟨hcq, _⟩ := bcell hSw; have hsq := Below.size hSw; have hl := HLK.out wv hSw; go_simp; try with_reducible rfl)
      try simp only [Act.put, List.setIfInBounds_toArray, List.set_cons_zero, List.set_cons_succ]
      refine wpAnyM_take (i := 6) (v := ?_) (by simp only [List.getElem?_toArray, List.getElem?_cons_succ, List.getElem?_cons_zero] <;> rfl) (by kernel_rfl) (by kernel_rfl) (by kernel_rfl) (by kernel_rfl) (by kernel_rfl) (fun _ _ _ h => h) (Or.inl ⟨by rfl, ?_⟩) (by assumption) ?_
      rotate_left
      · (intro wv hSw; (try dsimp only at hSw); obtain ⟨hcq, _⟩ := bcell hSw; have hsq := Below.size hSw; go_simp; try with_reducible rfl)
      try simp only [Act.put, List.setIfInBounds_toArray, List.set_cons_zero, List.set_cons_succ]
      refine wpAnyM_take (i := 7) (v := ?_) (by simp only [List.getElem?_toArray, List.getElem?_cons_succ, List.getElem?_cons_zero] <;> rfl) (by kernel_rfl) (by kernel_rfl) (by kernel_rfl) (by kernel_rfl) (by kernel_rfl) (fun _ _ _ h => h) (Or.inl ⟨by rfl, ?_⟩) (by assumption) ?_
      rotate_left
      · (intro wv hSw; (try dsimp only at hSw); obtain ⟨hcq, _⟩ := bcell hSw; have hsq := Below.size hSw; go_simp; try with_reducible rfl)
      try simp only [Act.put, List.setIfInBounds_toArray, List.set_cons_zero, List.set_cons_succ]
      refine wpAnyM_take (i := 8) (v := ?_) (by simp only [List.getElem?_toArray, List.getElem?_cons_succ, List.getElem?_cons_zero] <;> rfl) (by kernel_rfl) (by kernel_rfl) (by kernel_rfl) (by kernel_rfl) (by kernel_rfl) (fun _ _ _ h => h) (Or.inl ⟨by rfl, ?_⟩) (by assumption) ?_
      rotate_left
      · (intro wv hSw; (try dsimp only at hSw); obtain ⟨hcq, _⟩ := bcell hSw; have hsq := Below.size hSw; go_simp; try with_reducible rfl)
      try simp only [Act.put, List.setIfInBounds_toArray, List.set_cons_zero, List.set_cons_succ]
      refine wpAnyM_take (i := 9) (v := ?_) (by simp only [List.getElem?_toArray, List.getElem?_cons_succ, List.getElem?_cons_zero] <;> rfl) (by kernel_rfl) (by kernel_rfl) (by kernel_rfl) (by kernel_rfl) (by kernel_rfl) (fun _ _ _ h => h) (Or.inl ⟨by rfl, ?_⟩) (by assumption) ?_
      rotate_left
      · (intro wv hSw; (try dsimp only at hSw); obtain ⟨hcq, _⟩ := bcell hSw; have hsq := Below.size hSw; go_simp; try with_reducible rfl)
      try simp only [Act.put, List.setIfInBounds_toArray, List.set_cons_zero, List.set_cons_succ]
      refine wpAnyM_ready (rs := [10]) (by kernel_rfl) (by simp) ?_
      refine AllReadyM.last rfl (fun K hK => ?_)
      go_simp
      refine hK.out _ _ ?_
      clear hK K
      try simp only [Act.put, List.setIfInBounds_toArray, List.set_cons_zero, List.set_cons_succ]
      refine wpAnyM_done (by kernel_rfl) ?_ _
      refine NoPanic.normal ?_
      have hbx := below_callS hbW hHeld.drew
      have HB := Lib.hid hbx
      have P5 := Lib.hid (P9.out.keep hHeld.drew)
      have N5 := Lib.hid (N9.out.keep hHeld.drew)
      have O5 := Lib.hid (HF.out.own.keep hbx)
      have M5 := Lib.hid (HF.out.map.keep hbx)
      have hs5 := hbx.size
      clear p2 pl n0 n1 n2 nl hbx
      have p1 := P5.out.cell 1
      have pl := P5.out.lt
      have n0 := N5.out.cell 0
      have n1 := N5.out.cell 1
      have n2 := N5.out.cell 2
      have nl := N5.out.lt
      simp only [List.getElem?_toArray, List.getElem?_cons_succ, List.getElem?_cons_zero] at p1 n0 n1 n2
      go_wp2_with fail
      refine wp_region_noPanic ?_
      refine wp_region_M (L := 10) (S := (fun wx => wx.cell? ⟨p, 1, none⟩ = some (.slice na L.length nc) ∧ wx.cell? ⟨w.heap.size, 0, none⟩ = some (.int .i64 i) ∧ wx.cell? ⟨w.heap.size, 1, none⟩ = some (.int .i64 a) ∧ wx.cell? ⟨w.heap.size, 2, none⟩ = some (.int .i64 b) ∧ p < wx.heap.size ∧ w.heap.size < wx.heap.size)) (by kernel_rfl) ?_ (fun hHeld => ?_)
      · exact ⟨p1, n0, n1, n2, pl, nl⟩
      clear p1 pl n0 n1 n2 nl
      refine wpAnyM_take (i := 0) (v := ?_) (by simp only [List.getElem?_toArray, List.getElem?_cons_succ, List.getElem?_cons_zero] <;> rfl) (by kernel_rfl) (by kernel_rfl) (by kernel_rfl) (by kernel_rfl) (by kernel_rfl) (fun _ _ _ h => h) (Or.inl ⟨by rfl, ?_⟩) (by assumption) ?_
      rotate_left
      · (intro wv hSw; (try dsimp only at hSw); go_simp; try with_reducible rfl)
      try simp only [Act.put, List.setIfInBounds_toArray, List.set_cons_zero, List.set_cons_succ]
      refine wpAnyM_take (i := 1) (v := ?_) (by simp only [List.getElem?_toArray, List.getElem?_cons_succ, List.getElem?_cons_zero] <;> rfl) (by kernel_rfl) (by kernel_rfl) (by kernel_rfl) (by kernel_rfl) (by kernel_rfl) (fun _ _ _ h => h) (Or.inl ⟨by rfl, ?_⟩) (by assumption) ?_
      rotate_left
      · (intro wv hSw; (try dsimp only at hSw); go_simp; try with_reducible rfl)
      try simp only [Act.put, List.setIfInBounds_toArray, List.set_cons_zero, List.set_cons_succ]
      refine wpAnyM_take (i := 2) (v := ?_) (by simp only [List.getElem?_toArray, List.getElem?_cons_succ, List.getElem?_cons_zero] <;> rfl) (by kernel_rfl) (by kernel_rfl) (by kernel_rfl) (by kernel_rfl) (by kernel_rfl) (fun _ _ _ h => h) (Or.inl ⟨by rfl, ?_⟩) (by assumption) ?_
      rotate_left
      · (intro wv hSw; (try dsimp only at hSw); go_simp; try with_reducible rfl)
      try simp only [Act.put, List.setIfInBounds_toArray, List.set_cons_zero, List.set_cons_succ]
      refine wpAnyM_take (i := 3) (v := ?_) (by simp only [List.getElem?_toArray, List.getElem?_cons_succ, List.getElem?_cons_zero] <;> rfl) (by kernel_rfl) (by kernel_rfl) (by kernel_rfl) (by kernel_rfl) (by kernel_rfl) (fun _ _ _ h => h) (Or.inl ⟨by rfl, ?_⟩) (by assumption) ?_
      rotate_left
      · (intro wv hSw; (try dsimp only at hSw); go_simp; try with_reducible rfl)
      try simp only [Act.put, List.setIfInBounds_toArray, List.set_cons_zero, List.set_cons_succ]
      refine wpAnyM_take (i := 4) (v := ?_) (by simp only [List.getElem?_toArray, List.getElem?_cons_succ, List.getElem?_cons_zero] <;> rfl) (by kernel_rfl) (by kernel_rfl) (by kernel_rfl) (by kernel_rfl) (by kernel_rfl) (fun _ _ _ h => h) (Or.inl ⟨by rfl, ?_⟩) (by assumption) ?_
      rotate_left
      · (intro wv hSw; (try dsimp only at hSw); obtain ⟨h1, h2, h3, h4, h5, h6⟩ := hSw; go_simp; try with_reducible rfl)
      try simp only [Act.put, List.setIfInBounds_toArray, List.set_cons_zero, List.set_cons_succ]
      refine wpAnyM_take (i := 5) (v := ?_) (by simp only [List.getElem?_toArray, List.getElem?_cons_succ, List.getElem?_cons_zero] <;> rfl) (by kernel_rfl) (by kernel_rfl) (by kernel_rfl) (by kernel_rfl) (by kernel_rfl) (fun _ _ _ h => h) (Or.inl ⟨by rfl, ?_⟩) (by assumption) ?_
      rotate_left
      · (intro wv hSw; (try dsimp only at hSw); obtain ⟨h1, h2, h3, h4, h5, h6⟩ := hSw; go_simp; try with_reducible rfl)
      try simp only [Act.put, List.setIfInBounds_toArray, List.set_cons_zero, List.set_cons_succ]
      refine wpAnyM_ready (rs := [6]) (by kernel_rfl) (by simp) ?_
      refine AllReadyM.cons rfl (fun K hK => ?_) AllReadyM.nil
      go_simp
      have hbX : Below W.heap.size W (W.alloc (.cells #[.int .i64 i, .int .i64 a, .int .i64 b] 76)).drew.drew := ((Below.refl _ _).alloc (Nat.le_refl _) _).drew.drew
      obtain ⟨Y, hY⟩ : ∃ Y, Y = (W.alloc (.cells #[.int .i64 i, .int .i64 a, .int .i64 b] 76)).drew.drew := ⟨_, rfl⟩
      have L6 := Lib.hid (show Blk Y W.heap.size #[.int .i64 i, .int .i64 a, .int .i64 b] 76 by rw [hY]; exact (Blk.made _ _ _).drew.drew)
      have hsY : Y.heap.size = W.heap.size + 1 := by rw [hY]; simp
      rw [← hY] at hbX ⊢
      clear hY
      have P6 := Lib.hid (P9.out.keep hbX)
      have N6 := Lib.hid (N9.out.keep hbX)
      have O6 := Lib.hid (HF.out.own.keep (below_callS hbW hbX))
      have M6 := Lib.hid (HF.out.map.keep (below_callS hbW hbX))
      have HB6 := Lib.hid (below_callS hbW hbX)
      have hsW := hbW.size
      clear P5 N5 O5 M5 HB hbX
      have SS : ∀ (wx : World), Blk wx p #[.int .i64 inp, .slice na L.length nc, .map (some mb)] 140 → Blk wx w.heap.size #[.int .i64 i, .int .i64 a, .int .i64 b] 76 → (wx.cell? ⟨p, 1, none⟩ = some (.slice na L.length nc) ∧ wx.cell? ⟨w.heap.size, 0, none⟩ = some (.int .i64 i) ∧ wx.cell? ⟨w.heap.size, 1, none⟩ = some (.int .i64 a) ∧ wx.cell? ⟨w.heap.size, 2, none⟩ = some (.int .i64 b) ∧ p < wx.heap.size ∧ w.heap.size < wx.heap.size) := fun wx h1 h2 => ⟨h1.cell 1, h2.cell 0, h2.cell 1, h2.cell 2, h1.lt, h2.lt⟩
      have HSS := Lib.hid SS
      clear SS
      refine hK.out _ _ (HSS.out _ P6.out N6.out) (fun hHeld => ?_)
      clear hK K
      try simp only [Act.put, List.setIfInBounds_toArray, List.set_cons_zero, List.set_cons_succ]
      refine wpAnyM_ready (rs := [7]) (by kernel_rfl) (by simp) ?_
      refine AllReadyM.cons rfl (fun K hK => ?_) AllReadyM.nil
      refine wp_appAtL (k := 3) (m := 1) (enc := I3.enc) (ok := I3.ok) _ _ rfl Try.underlying24 Try.infoNode rfl (by decide) (by decide) I3.one9 lo na L.length nc L [⟨i, a, b⟩] O6.out rfl _ rfl L6.out rfl rfl (fun x hx9 => by simp at hx9; rw [hx9]; exact hx) (by decide) (by omega) (by decide) (by omega) ?_
      intro g' c' w6 h1 h2 h3
      have ht : Touch Y w6 1 na := ⟨_, h3, fun b e => ⟨by decide, own_block O6.out.1 b e⟩⟩
      have P7 := Lib.hid (P6.out.keepA ht (blk_ne P6.out O6.out.typN (by decide)))
      have N7 := Lib.hid (N6.out.keepA ht (fun e => by have := hgn _ e; omega))
      have M7 := Lib.hid (M6.out.keepG h3 (fun e => by
        have e1 := own_block O6.out.1 _ e
        obtain ⟨cur, hc⟩ := O6.out.typN e1
        obtain ⟨es, cl, hm⟩ := M6.out.isMap
        rw [hm] at hc
        cases hc))
      have O7 := Lib.hid h1
      have F7 := Lib.hid (show FrF lo p mb Y w6 from ⟨h3.os, h3.tape, h3.output, h3.size, fun k hk q1 q2 q3 => h3.block k hk (fun e => by
        have e1 := own_block O6.out.1 _ e.symm
        obtain ⟨cur, hc⟩ := O6.out.typN e1
        rcases q3 with q3 | q3
        · have := (O6.out.blk _ e1).1; omega
        · exact q3 _ _ hc)⟩)
      have hs7 := h3.size
      clear h1 h2 h3 ht
      refine hK.out _ _ (HSS.out _ P7.out N7.out) (fun hHeld => ?_)
      clear hK K
      try simp only [Act.put, List.setIfInBounds_toArray, List.set_cons_zero, List.set_cons_succ]
      refine wpAnyM_take (i := 8) (v := ?_) (by simp only [List.getElem?_toArray, List.getElem?_cons_succ, List.getElem?_cons_zero] <;> rfl) (by kernel_rfl) (by kernel_rfl) (by kernel_rfl) (by kernel_rfl) (by kernel_rfl) (fun _ _ _ h => h) (Or.inl ⟨by rfl, ?_⟩) (by assumption) ?_
      rotate_left
      · (intro wv hSw; (try dsimp only at hSw); go_simp; try with_reducible rfl)
      try simp only [Act.put, List.setIfInBounds_toArray, List.set_cons_zero, List.set_cons_succ]
      refine wpAnyM_take (i := 9) (v := ?_) (by simp only [List.getElem?_toArray, List.getElem?_cons_succ, List.getElem?_cons_zero] <;> rfl) (by kernel_rfl) (by kernel_rfl) (by kernel_rfl) (by kernel_rfl) (by kernel_rfl) (fun _ _ _ h => h) (Or.inl ⟨by rfl, ?_⟩) (by assumption) ?_
      rotate_left
      · (intro wv hSw; (try dsimp only at hSw); go_simp; try with_reducible rfl)
      try simp only [Act.put, List.setIfInBounds_toArray, List.set_cons_zero, List.set_cons_succ]
      have c0 := P7.out.cell 1
      have cl := P7.out.lt
      have cf := P7.out.free
      simp at c0
      refine wpAnyM_ready (rs := [10]) (by kernel_rfl) (by simp) ?_
      refine AllReadyM.last rfl (fun K hK => ?_)
      go_simp
      refine hK.out _ _ ?_
      clear hK K
      try simp only [Act.put, List.setIfInBounds_toArray, List.set_cons_zero, List.set_cons_succ]
      refine wpAnyM_done (by kernel_rfl) ?_ _
      refine NoPanic.normal ?_
      have hpm : p ≠ mb := fun e => by
        obtain ⟨es, cl2, hm⟩ := M7.out.isMap
        have h := P7.out
        rw [Blk, e, hm] at h
        cases h
      have hpg : g' ≠ p := fun e => blk_ne P7.out O7.out.typN (by decide) (by rw [e])
      have hpw : p < w.heap.size := HF.out.blk.lt
      obtain ⟨w7, hw7⟩ : ∃ w7, w7 = w6.setCell ⟨p, 1, none⟩ (.slice (some ⟨g', 0, none⟩) (L.length + 1) c') := ⟨_, rfl⟩
      have P8 := Lib.hid (show Blk w7 p #[.int .i64 inp, .slice (some ⟨g', 0, none⟩) (L.length + 1) c', .map (some mb)] 140 by rw [hw7]; exact P7.out.set 1 _)
      have N8 := Lib.hid (show Blk w7 w.heap.size #[.int .i64 i, .int .i64 a, .int .i64 b] 76 by rw [hw7]; exact N7.out.keepG (set_grown p 1 _) (by simp; omega))
      have O8 := Lib.hid (show OwnF 3 I3.enc I3.ok 76 w7 lo (some ⟨g', 0, none⟩) (L.length + 1) c' (L ++ [⟨i, a, b⟩]) by rw [hw7]; exact O7.out.keepG (set_grown p 1 _) (fun g e e' => by simp at e e'; omega))
      have M8 := Lib.hid (show MapN w7 mb mn (fun x => (posN x L).map fun (k : Nat) => (k : Int) + 2) by rw [hw7]; exact M7.out.keepG (set_grown p 1 _) (by simpa using hpm))
      have F8 := Lib.hid (show FrF lo p mb Y w7 from F7.out.trans (by
        rw [hw7]
        have hg := set_grown (w := w6) p 1 (.slice (some ⟨g', 0, none⟩) (L.length + 1) c')
        exact ⟨hg.os, hg.tape, hg.output, hg.size, fun k hk q1 q2 q3 => hg.block k hk (fun e => q1 (by simpa using e))⟩))
      have hs8 : w6.heap.size ≤ w7.heap.size := by rw [hw7]; simp [World.setCell]
      rw [← hw7]
      clear hw7 c0 cl cf hHeld P7 N7 O7 M7 F7
      have p1 := P8.out.cell 1
      have p2 := P8.out.cell 2
      have pl := P8.out.lt
      have n0 := N8.out.cell 0
      have n1 := N8.out.cell 1
      have n2 := N8.out.cell 2
      have nl := N8.out.lt
      simp at p1 p2 n0 n1 n2
      go_wp2_with fail
      go_wp2_with fail
      refine Calls.mono (impl_length_Node) ?_
      rintro e _ ⟨rfl, rfl⟩
      go_wp2_with fail
      refine wp_region_noPanic ?_
      refine wp_region_M (L := 6) (S := fun wx => Below w7.heap.size w7 wx) (by kernel_rfl) ?_ (fun hHeld => ?_)
      · exact (Below.refl _ _).drew
      refine wpAnyM_take (i := 0) (v := ?_) (by simp only [List.getElem?_toArray, List.getElem?_cons_succ, List.getElem?_cons_zero] <;> rfl) (by kernel_rfl) (by kernel_rfl) (by kernel_rfl) (by kernel_rfl) (by kernel_rfl) (fun _ _ _ h => h) (Or.inl ⟨by rfl, ?_⟩) (by assumption) ?_
      rotate_left
      · (intro wv hSw; (try dsimp only at hSw); obtain ⟨hcq, _⟩ := bcell hSw; have hsq := Below.size hSw; go_simp; try with_reducible rfl)
      try simp only [Act.put, List.setIfInBounds_toArray, List.set_cons_zero, List.set_cons_succ]
      refine wpAnyM_take (i := 1) (v := ?_) (by simp only [List.getElem?_toArray, List.getElem?_cons_succ, List.getElem?_cons_zero] <;> rfl) (by kernel_rfl) (by kernel_rfl) (by kernel_rfl) (by kernel_rfl) (by kernel_rfl) (fun _ _ _ h => h) (Or.inl ⟨by rfl, ?_⟩) (by assumption) ?_
      rotate_left
      · (intro wv hSw; (try dsimp only at hSw); obtain ⟨hcq, _⟩ := bcell hSw; have hsq := Below.size hSw; go_simp; try with_reducible rfl)
      try simp only [Act.put, List.setIfInBounds_toArray, List.set_cons_zero, List.set_cons_succ]
      refine wpAnyM_take (i := 2) (v := ?_) (by simp only [List.getElem?_toArray, List.getElem?_cons_succ, List.getElem?_cons_zero] <;> rfl) (by kernel_rfl) (by kernel_rfl) (by kernel_rfl) (by kernel_rfl) (by kernel_rfl) (fun _ _ _ h => h) (Or.inl ⟨by rfl, ?_⟩) (by assumption) ?_
      rotate_left
      · (intro wv hSw; (try dsimp only at hSw); obtain ⟨hcq, _⟩ := bcell hSw; have hsq := Below.size hSw; go_simp; try with_reducible rfl)
      try simp only [Act.put, List.setIfInBounds_toArray, List.set_cons_zero, List.set_cons_succ]
      refine wpAnyM_take (i := 3) (v := ?_) (by simp only [List.getElem?_toArray, List.getElem?_cons_succ, List.getElem?_cons_zero] <;> rfl) (by kernel_rfl) (by kernel_rfl) (by kernel_rfl) (by kernel_rfl) (by kernel_rfl) (fun _ _ _ h => h) (Or.inl ⟨by rfl, ?_⟩) (by assumption) ?_
      rotate_left
      · (intro wv hSw; (try dsimp only at hSw); obtain ⟨hcq, _⟩ := bcell hSw; have hsq := Below.size hSw; have q2 := (hcq _ _ pl).trans p2; have ql := Nat.lt_of_lt_of_le pl hsq; go_simp; try with_reducible rfl)
      try simp only [Act.put, List.setIfInBounds_toArray, List.set_cons_zero, List.set_cons_succ]
      refine wpAnyM_take (i := 4) (v := ?_) (by simp only [List.getElem?_toArray, List.getElem?_cons_succ, List.getElem?_cons_zero] <;> rfl) (by kernel_rfl) (by kernel_rfl) (by kernel_rfl) (by kernel_rfl) (by kernel_rfl) (fun _ _ _ h => h) (Or.inl ⟨by rfl, ?_⟩) (by assumption) ?_
      rotate_left
      · (intro wv hSw; (try dsimp only at hSw); obtain ⟨hcq, _⟩ := bcell hSw; have hsq := Below.size hSw; have q0 := (hcq _ _ nl).trans n0; have q1 := (hcq _ _ nl).trans n1; have q2 := (hcq _ _ nl).trans n2; have ql := Nat.lt_of_lt_of_le nl hsq; go_simp; try with_reducible rfl)
      try simp only [Act.put, List.setIfInBounds_toArray, List.set_cons_zero, List.set_cons_succ]
      refine wpAnyM_take (i := 5) (v := ?_) (by simp only [List.getElem?_toArray, List.getElem?_cons_succ, List.getElem?_cons_zero] <;> rfl) (by kernel_rfl) (by kernel_rfl) (by kernel_rfl) (by kernel_rfl) (by kernel_rfl) (fun _ _ _ h => h) (Or.inl ⟨by rfl, ?_⟩) (by assumption) ?_
      rotate_left
      · (intro wv hSw; (try dsimp only at hSw); obtain ⟨hcq, _⟩ := bcell hSw; have hsq := Below.size hSw; go_simp; try with_reducible rfl)
      try simp only [Act.put, List.setIfInBounds_toArray, List.set_cons_zero, List.set_cons_succ]
      refine wpAnyM_ready (rs := [6]) (by kernel_rfl) (by simp) ?_
      refine AllReadyM.last rfl (fun K hK => ?_)
      refine MapA.wp (M8.out.keep hHeld) keyN Try.underlying138 (by have := HF.out.few; unfold maxLen; omega) hx (v := (L.length : Int) + 2) (by unfold I64; omega) _ _ _ rfl rfl rfl (by first | rfl | (show Value.int .i64 _ = Value.int .i64 _; congr 1; omega)) ?_
      intro w9 hm9 hg9
      have P9' := Lib.hid ((P8.out.keep hHeld).keepG hg9 (by simpa using fun e => hpm e.symm))
      have O9 := Lib.hid ((O8.out.keep hHeld).keepG hg9 (fun g e e' => by
        cases e
        simp only [Option.some.injEq] at e'
        obtain ⟨cur, hc⟩ := O8.out.typN rfl
        obtain ⟨es, cl2, hm⟩ := M8.out.isMap
        rw [e', hc] at hm
        cases hm))
      have F9 := Lib.hid (show FrF lo p mb w7 w9 from (FrF.of_below hHeld).trans ⟨hg9.os, hg9.tape, hg9.output, hg9.size, fun k hk q1 q2 q3 => hg9.block k hk (fun e => q2 (by simpa using e))⟩)
      have M9 := Lib.hid hm9
      refine hK.out _ _ ?_
      clear hK K
      try simp only [Act.put, List.setIfInBounds_toArray, List.set_cons_zero, List.set_cons_succ]
      refine wpAnyM_done (by kernel_rfl) ?_ _
      refine NoPanic.normal ?_
      clear hm9 hg9 p1 p2 pl n0 n1 n2 nl hHeld
      go_wp2
      go_ret
      have hlen : (L ++ [(⟨i, a, b⟩ : I3)]).length = L.length + 1 := by simp
      refine ⟨by rw [HM.out]; first | rfl | (show Ending.returned (Value.int .i64 _) = Ending.returned (Value.int .i64 _); congr 2; omega), ⟨some ⟨g', 0, none⟩, c', mn + 1, ?_⟩, ((FrF.of_below (lo := lo) (p := p) (mb := mb) HB6.out).trans F8.out).trans F9.out⟩
      rw [HM.out]
      refine ⟨by simp only [hlen]; exact P9'.out, by simp only [hlen]; exact O9.out, M9.out.congr (fun y _ => ?_), by have := HF.out.few; simp only [hlen]; omega, HF.out.lop, HF.out.lom⟩
      rw [posN_app HNOT.out]
      by_cases hy : y = ⟨i, a, b⟩
      · rw [if_pos hy, if_pos hy]; rfl
      · rw [if_neg hy, if_neg hy]
end Go.Proofs.Ytkaikbaagajckaa
