/- The program's forests, walked: a node is made once.; Diagrams in the exact laws: copies, comparisons and marks; TestDiagram by what the model means.; The search through the states of a model: plain laws.; Tests, rules and states of models: what the search of the program calls, walked.; The state to which a rule leads, and a state's text: the program, walked.; A state's text: the program, walked. -/
import Derived.Test.YtkaikbaagajckaaGreatPu
import Derived.Test.YtkaikbaagajckaaGreatN11
import Derived.Test.YtkaikbaagajckaaGreatN12
import Derived.BigQuiet
import Derived.Test.YtkaikbaagajckaaGreatN10
import Derived.Test.YtkaikbaagajckaaGreatN01
import Derived.Test.YtkaikbaagajckaaGreatN02
import Derived.Laws.BytesArg
namespace Go.Proofs.YtkaikbaagajckaaGreat
open Go.RowKit
set_option linter.unusedVariables false
set_option linter.unusedSimpArgs false
theorem posN_app {x : I3} : ∀ {L : List I3}, x ∉ L → ∀ y, posN y (L ++ [x]) = if y = x then some L.length else posN y L
  | [], _, y => by
    rw [List.nil_append, posN, posN]
    by_cases h : x = y
    · rw [if_pos h, if_pos h.symm]; rfl
    · rw [if_neg h, if_neg (fun e => h e.symm), posN]; rfl
  | z :: r, h, y => by
    have h1 : z ≠ x := fun e => h (by rw [e]; exact List.mem_cons_self ..)
    have h2 : x ∉ r := fun e => h (List.mem_cons_of_mem _ e)
    rw [List.cons_append, posN, posN, posN_app h2 y]
    by_cases hz : z = y
    · rw [if_pos hz, if_pos hz, if_neg (fun e => h1 (hz.trans e))]
    · rw [if_neg hz, if_neg hz]
      by_cases hy : y = x
      · rw [if_pos hy, if_pos hy]; rfl
      · rw [if_neg hy, if_neg hy]
theorem OwnF.typN {α : Type} {k : Nat} {enc : α → List Value} {ok : α → Prop} {E : TypeId} {w : World} {base : Nat} {a : Option Addr} {n c : Nat} {l : List α} (h : OwnF k enc ok E w base a n c l) {g : Nat} (e : a = some ⟨g, 0, none⟩) : ∃ cur, w.heap[g]? = some (.cells cur E (0, 0)) := by
  subst e
  rcases h.1.2 with ⟨he, _⟩ | ⟨g', cap, cur, he, hb, hg, _⟩
  · simp only [Value.slice.injEq] at he; cases he.1
  · simp only [Value.slice.injEq, Option.some.injEq, Addr.mk.injEq] at he
    obtain ⟨⟨rfl, _⟩, _⟩ := he
    exact ⟨cur, hg⟩
theorem Tryz.infoNode9 : (Tryz.prog.info? 117).map (fun i => (i.zero, i.size, i.bytes)) = some (some (.agg #[.int .i64 0, .int .i64 0, .int .i64 0]), 3, 24) := by kernel_rfl
theorem I3.one9 (y : I3) : ∀ u ∈ y.enc, u.oneCell' = true := fun u hu => by
  simp only [I3.enc, List.mem_cons, List.not_mem_nil, or_false] at hu
  rcases hu with rfl | rfl | rfl <;> rfl
abbrev MapN := MapA 117 I3.ok litK3
/-- block p is a forest of the call's own (from block lo on) with these nodes -/
structure ForA (w : World) (lo p mb : Nat) (inp : Int) (na : Option Addr) (nc mn : Nat) (L : List I3) : Prop where
  blk : Blk w p #[.int .i64 inp, .slice na L.length nc, .map (some mb)] 213
  own : OwnF 3 I3.enc I3.ok 117 w lo na L.length nc L
  map : MapN w mb mn (fun x => (posN x L).map fun (k : Nat) => (k : Int) + 2)
  few : mn ≤ L.length
  lop : lo ≤ p
  lom : lo ≤ mb
theorem ForA.keep {w w' : World} {lo p mb : Nat} {inp : Int} {na : Option Addr} {nc mn : Nat} {L : List I3} (h : ForA w lo p mb inp na nc mn L) (hb : Below w.heap.size w w') : ForA w' lo p mb inp na nc mn L :=
  ⟨h.blk.keep hb, h.own.keep hb, h.map.keep hb, h.few, h.lop, h.lom⟩
/-- what making a node may write: the forest's block, its map, its nodes -/
structure FrF (lo p mb : Nat) (w w' : World) : Prop where
  os : w'.os = w.os
  tape : w'.tape = w.tape
  output : w'.output = w.output
  size : w.heap.size ≤ w'.heap.size
  block : ∀ k, k < w.heap.size → k ≠ p → k ≠ mb → (k < lo ∨ ∀ cs l, w.heap[k]? ≠ some (.cells cs 117 l)) → w'.heap[k]? = w.heap[k]?
theorem FrF.refl (lo p mb : Nat) (w : World) : FrF lo p mb w w := ⟨rfl, rfl, rfl, Nat.le_refl _, fun _ _ _ _ _ => rfl⟩
theorem FrF.below {lo p mb B : Nat} {w0 w w' : World} (h : FrF lo p mb w w') (h0 : Below B w0 w) (hB : B ≤ w.heap.size) (hl : B ≤ lo) (hp : B ≤ p) (hm : B ≤ mb) : Below B w0 w' :=
  ⟨h.os.trans h0.os, h.tape.trans h0.tape, h.output.trans h0.output, Nat.le_trans h0.size h.size, fun k hk => (h.block k (by omega) (by omega) (by omega) (.inl (by omega))).trans (h0.block k hk)⟩
theorem FrF.trans {lo p mb : Nat} {w w' w'' : World} (h : FrF lo p mb w w') (h' : FrF lo p mb w' w'') : FrF lo p mb w w'' := by
  refine ⟨h'.os.trans h.os, h'.tape.trans h.tape, h'.output.trans h.output, Nat.le_trans h.size h'.size, fun k hk h1 h2 h3 => ?_⟩
  have e := h.block k hk h1 h2 h3
  refine (h'.block k (Nat.lt_of_lt_of_le hk h.size) h1 h2 ?_).trans e
  rcases h3 with h3 | h3
  · exact .inl h3
  · exact .inr fun cs l he => h3 cs l (e.symm.trans he)
theorem FrF.of_below {lo p mb : Nat} {w w' : World} (h : Below w.heap.size w w') : FrF lo p mb w w' := ⟨h.os, h.tape, h.output, h.size, fun k hk _ _ _ => h.block k hk⟩
/-- a block of another kind stays -/
theorem Blk.frf {lo p mb b : Nat} {w w' : World} {cs : Array Value} {T : TypeId} (h : Blk w b cs T) (hf : FrF lo p mb w w') (hp : b ≠ p) (hT : T ≠ 117) (hm : b ≠ mb) : Blk w' b cs T :=
  (hf.block b h.lt hp hm (.inr fun cs' l he => by
    rw [Blk] at h
    rw [h] at he
    simp only [Option.some.injEq, Obj.cells.injEq] at he
    exact hT he.2.1)).trans h
set_option maxHeartbeats 1000000 in
theorem impl_length_Node {a : Option Addr} {n c : Nat} {w : World} : Calls Tryz.prog 155 #[.slice a n c] w fun e w' => e = .returned (.int .i64 n) ∧ w = w' := by
  go_enter Tryz.func155, Tryz.ntmps155
  go_wp2
  go_ret
  exact ⟨rfl, rfl⟩
theorem impl_newForest {n : Int} {w : World} : Calls Tryz.prog 132 #[.int .i64 n] w fun e w' => ∃ p mb, e = .returned (.pointer (some ⟨p, 0, none⟩)) ∧ ForA w' w.heap.size p mb n none 0 0 [] ∧ Below w.heap.size w w' ∧ p < w'.heap.size := by
  have hmm := @run_makeMap Tryz.prog
  go_enter Tryz.func132, Tryz.ntmps132
  go_wp2
  go_ret
  refine ⟨_, _, rfl, ⟨(by have h := Blk.made (w.alloc (.map #[] 0)) #[.int .i64 n, .slice none 0 0, .map (some w.heap.size)] 213; simpa using h), ⟨World.ownsRow_nil _ _ _ 3, (fun _ h => by cases h), rfl, fun _ => rfl⟩, ((MapA.made w).keep ((Below.refl _ _).alloc (Nat.le_refl _) _)).congr (fun x _ => by simp [posN]), Nat.le_refl _, by simp, Nat.le_refl _⟩, bel, by simp⟩
set_option maxRecDepth 100000 in
set_option maxHeartbeats 4000000 in
theorem impl_node {lo p mb nc mn : Nat} {inp i a b : Int} {na : Option Addr} {L : List I3} {w : World} (hFor : ForA w lo p mb inp na nc mn L) (hL : L.length ≤ 4194000) (hi : I64 i) (ha : I64 a) (hb : I64 b) (hlo : lo ≤ w.heap.size) :
    Calls Tryz.prog 141 #[.pointer (some ⟨p, 0, none⟩), .int .i64 i, .int .i64 a, .int .i64 b] w fun e w' => e = .returned (.int .i64 (mkN L i a b).2) ∧ (∃ na' nc' mn', ForA w' lo p mb inp na' nc' mn' (mkN L i a b).1) ∧ FrF lo p mb w w' := by
  by_cases hab : a = b
  · subst hab
    have e1 : (a == a) = true := by simp
    have HM := Lib.hid (mkN_eq (L := L) (i := i) (rfl : a = a))
    have HF := Lib.hid hFor
    clear hFor
    go_enter Tryz.func141, Tryz.ntmps141
    go_wp2
    go_ret
    exact ⟨by rw [HM.out]; rfl, ⟨_, _, _, by rw [HM.out]; exact HF.out⟩, FrF.refl _ _ _ _⟩
  · have e1 : (a == b) = false := by simpa using hab
    have HNE := Lib.hid hab
    have hx : I3.ok ⟨i, a, b⟩ := ⟨hi, ha, hb⟩
    obtain ⟨W, hW⟩ : ∃ W, W = w.alloc (.cells #[.int .i64 i, .int .i64 a, .int .i64 b] 117) := ⟨_, rfl⟩
    have hbW : Below w.heap.size w W := by rw [hW]; exact bel
    have N9 := Lib.hid (show Blk W w.heap.size #[.int .i64 i, .int .i64 a, .int .i64 b] 117 by rw [hW]; exact Blk.made _ _ _)
    have P9 := Lib.hid (hFor.blk.keep hbW)
    have hlk := fun (wx : World) (hb : Below W.heap.size W wx) => ((hFor.map.keep hbW).keep hb).look keyN Tryz.underlying211 hx true
    have HF := Lib.hid hFor
    clear hFor hab
    have p2 := P9.out.cell 2
    have pl := P9.out.lt
    have n0 := N9.out.cell 0
    have n1 := N9.out.cell 1
    have n2 := N9.out.cell 2
    have nl := N9.out.lt
    simp at p2 n0 n1 n2
    cases hpos : posN ⟨i, a, b⟩ L with
    | some k =>
      have HLK := Lib.hid (show ∀ wx : World, Below W.heap.size W wx → (Instr.lookup 211 (.map (some mb)) (.agg #[.int .i64 i, .int .i64 a, .int .i64 b]) true).run Tryz.prog wx = .ok (.tuple #[.int .i64 ((k : Int) + 2), .bool true]) wx from fun wx hb => by
        have h := hlk wx hb
        rw [hpos] at h
        exact h)
      have HM := Lib.hid (mkN_old HNE.out hpos)
      clear hpos hlk
      go_enter Tryz.func141, Tryz.ntmps141
      go_wp2_with fail
      rw [← hW]
      clear hW
      go_wp2_with fail
      refine wp_region_noPanic ?_
      refine wp_region_M (L := 10) (S := fun wx => Below W.heap.size W wx) (by kernel_rfl) ?_ (fun hHeld => ?_)
      · exact (Below.refl _ _).drew
      refine tkMB 0 ?_
      try simp only [pu]
      refine tkMB 1 ?_
      try simp only [pu]
      refine tkMB 2 ?_
      try simp only [pu]
      refine tkM0 3 (v := ?_) ?_ ?_
      rotate_left
      · (intro wv hSw; (try dsimp only at hSw); obtain ⟨hcq, _⟩ := bcell hSw; have hsq := Below.size hSw; have q2 := (hcq _ _ pl).trans p2; have ql := Nat.lt_of_lt_of_le pl hsq; go_simp; try with_reducible rfl)
      try simp only [pu]
      refine tkM0 4 (v := ?_) ?_ ?_
      rotate_left
      · (intro wv hSw; (try dsimp only at hSw); obtain ⟨hcq, _⟩ := bcell hSw; have hsq := Below.size hSw; have q0 := (hcq _ _ nl).trans n0; have q1 := (hcq _ _ nl).trans n1; have q2 := (hcq _ _ nl).trans n2; have ql := Nat.lt_of_lt_of_le nl hsq; go_simp; try with_reducible rfl)
      try simp only [pu]
      refine tkM0 5 (v := ?_) ?_ ?_
      rotate_left
      · (intro wv hSw; (try dsimp only at hSw); obtain ⟨hcq, _⟩ := bcell hSw; have hsq := Below.size hSw; have hl := HLK.out wv hSw; go_simp; try with_reducible rfl)
      try simp only [pu]
      refine tkMB 6 ?_
      try simp only [pu]
      refine tkMB 7 ?_
      try simp only [pu]
      refine tkMB 8 ?_
      try simp only [pu]
      refine tkMB 9 ?_
      try simp only [pu]
      refine wpAnyM_ready (rs := [10]) (by kernel_rfl) (by simp) ?_
      refine AllReadyM.last rfl (fun K hK => ?_)
      go_simp
      refine hK.out _ _ ?_
      clear hK K
      try simp only [pu]
      refine wpAnyM_done (by kernel_rfl) ?_ _
      refine NoPanic.normal ?_
      have HB := Lib.hid (below_callS hbW hHeld)
      clear p2 pl n0 n1 n2 nl
      go_wp2
      go_ret
      have hbe := HB.out
      refine ⟨by rw [HM.out]; rfl, ⟨na, nc, mn, ?_⟩, FrF.of_below hbe⟩
      rw [HM.out]
      exact HF.out.keep hbe
    | none =>
      have HLK := Lib.hid (show ∀ wx : World, Below W.heap.size W wx → (Instr.lookup 211 (.map (some mb)) (.agg #[.int .i64 i, .int .i64 a, .int .i64 b]) true).run Tryz.prog wx = .ok (.tuple #[.int .i64 0, .bool false]) wx from fun wx hb => by
        have h := hlk wx hb
        rw [hpos] at h
        exact h)
      have hnot := posN_none.1 hpos
      have HM := Lib.hid (mkN_new HNE.out hnot)
      have HNOT := Lib.hid hnot
      have hgn : ∀ g, na = some ⟨g, 0, none⟩ → g < w.heap.size := fun g e => (HF.out.own.blk g e).2
      clear hpos hlk hnot
      go_enter Tryz.func141, Tryz.ntmps141
      go_wp2_with fail
      rw [← hW]
      clear hW
      go_wp2_with fail
      refine wp_region_noPanic ?_
      refine wp_region_M (L := 10) (S := fun wx => Below W.heap.size W wx) (by kernel_rfl) ?_ (fun hHeld => ?_)
      · exact (Below.refl _ _).drew
      refine tkMB 0 ?_
      try simp only [pu]
      refine tkMB 1 ?_
      try simp only [pu]
      refine tkMB 2 ?_
      try simp only [pu]
      refine tkM0 3 (v := ?_) ?_ ?_
      rotate_left
      · (intro wv hSw; (try dsimp only at hSw); obtain ⟨hcq, _⟩ := bcell hSw; have hsq := Below.size hSw; have q2 := (hcq _ _ pl).trans p2; have ql := Nat.lt_of_lt_of_le pl hsq; go_simp; try with_reducible rfl)
      try simp only [pu]
      refine tkM0 4 (v := ?_) ?_ ?_
      rotate_left
      · (intro wv hSw; (try dsimp only at hSw); obtain ⟨hcq, _⟩ := bcell hSw; have hsq := Below.size hSw; have q0 := (hcq _ _ nl).trans n0; have q1 := (hcq _ _ nl).trans n1; have q2 := (hcq _ _ nl).trans n2; have ql := Nat.lt_of_lt_of_le nl hsq; go_simp; try with_reducible rfl)
      try simp only [pu]
      refine tkM0 5 (v := ?_) ?_ ?_
      rotate_left
      · (intro wv hSw; (try dsimp only at hSw); obtain ⟨hcq, _⟩ := bcell hSw; have hsq := Below.size hSw; have hl := HLK.out wv hSw; go_simp; try with_reducible rfl)
      try simp only [pu]
      refine tkMB 6 ?_
      try simp only [pu]
      refine tkMB 7 ?_
      try simp only [pu]
      refine tkMB 8 ?_
      try simp only [pu]
      refine tkMB 9 ?_
      try simp only [pu]
      refine wpAnyM_ready (rs := [10]) (by kernel_rfl) (by simp) ?_
      refine AllReadyM.last rfl (fun K hK => ?_)
      go_simp
      refine hK.out _ _ ?_
      clear hK K
      try simp only [pu]
      refine wpAnyM_done (by kernel_rfl) ?_ _
      refine NoPanic.normal ?_
      have hbx := below_callS hbW hHeld.drew
      have HB := Lib.hid hbx
      have P5 := Lib.hid (P9.out.keep hHeld.drew)
      have N5 := Lib.hid (N9.out.keep hHeld.drew)
      have O5 := Lib.hid (HF.out.own.keep hbx)
      have M5 := Lib.hid (HF.out.map.keep hbx)
      have hs5 := hbx.size
      clear p2 pl n0 n1 n2 nl hbx
      have p1 := P5.out.cell 1
      have pl := P5.out.lt
      have n0 := N5.out.cell 0
      have n1 := N5.out.cell 1
      have n2 := N5.out.cell 2
      have nl := N5.out.lt
      simp only [List.getElem?_toArray, List.getElem?_cons_succ, List.getElem?_cons_zero] at p1 n0 n1 n2
      go_wp2_with fail
      refine wp_region_noPanic ?_
      refine wp_region_M (L := 10) (S := (fun wx => wx.cell? ⟨p, 1, none⟩ = some (.slice na L.length nc) ∧ wx.cell? ⟨w.heap.size, 0, none⟩ = some (.int .i64 i) ∧ wx.cell? ⟨w.heap.size, 1, none⟩ = some (.int .i64 a) ∧ wx.cell? ⟨w.heap.size, 2, none⟩ = some (.int .i64 b) ∧ p < wx.heap.size ∧ w.heap.size < wx.heap.size)) (by kernel_rfl) ?_ (fun hHeld => ?_)
      · exact ⟨p1, n0, n1, n2, pl, nl⟩
      clear p1 pl n0 n1 n2 nl
      refine tkM 0 ?_
      try simp only [pu]
      refine tkM 1 ?_
      try simp only [pu]
      refine tkM 2 ?_
      try simp only [pu]
      refine tkM 3 ?_
      try simp only [pu]
      refine tkM0 4 (v := ?_) ?_ ?_
      rotate_left
      · (intro wv hSw; (try dsimp only at hSw); obtain ⟨h1, h2, h3, h4, h5, h6⟩ := hSw; go_simp; try with_reducible rfl)
      try simp only [pu]
      refine tkM0 5 (v := ?_) ?_ ?_
      rotate_left
      · (intro wv hSw; (try dsimp only at hSw); obtain ⟨h1, h2, h3, h4, h5, h6⟩ := hSw; go_simp; try with_reducible rfl)
      try simp only [pu]
      refine wpAnyM_ready (rs := [6]) (by kernel_rfl) (by simp) ?_
      refine AllReadyM.cons rfl (fun K hK => ?_) AllReadyM.nil
      go_simp
      have hbX : Below W.heap.size W (W.alloc (.cells #[.int .i64 i, .int .i64 a, .int .i64 b] 117)).drew.drew := ((Below.refl _ _).alloc (Nat.le_refl _) _).drew.drew
      obtain ⟨Y, hY⟩ : ∃ Y, Y = (W.alloc (.cells #[.int .i64 i, .int .i64 a, .int .i64 b] 117)).drew.drew := ⟨_, rfl⟩
      have L6 := Lib.hid (show Blk Y W.heap.size #[.int .i64 i, .int .i64 a, .int .i64 b] 117 by rw [hY]; exact (Blk.made _ _ _).drew.drew)
      have hsY : Y.heap.size = W.heap.size + 1 := by rw [hY]; simp
      rw [← hY] at hbX ⊢
      clear hY
      have P6 := Lib.hid (P9.out.keep hbX)
      have N6 := Lib.hid (N9.out.keep hbX)
      have O6 := Lib.hid (HF.out.own.keep (below_callS hbW hbX))
      have M6 := Lib.hid (HF.out.map.keep (below_callS hbW hbX))
      have HB6 := Lib.hid (below_callS hbW hbX)
      have hsW := hbW.size
      clear P5 N5 O5 M5 HB hbX
      have SS : ∀ (wx : World), Blk wx p #[.int .i64 inp, .slice na L.length nc, .map (some mb)] 213 → Blk wx w.heap.size #[.int .i64 i, .int .i64 a, .int .i64 b] 117 → (wx.cell? ⟨p, 1, none⟩ = some (.slice na L.length nc) ∧ wx.cell? ⟨w.heap.size, 0, none⟩ = some (.int .i64 i) ∧ wx.cell? ⟨w.heap.size, 1, none⟩ = some (.int .i64 a) ∧ wx.cell? ⟨w.heap.size, 2, none⟩ = some (.int .i64 b) ∧ p < wx.heap.size ∧ w.heap.size < wx.heap.size) := fun wx h1 h2 => ⟨h1.cell 1, h2.cell 0, h2.cell 1, h2.cell 2, h1.lt, h2.lt⟩
      have HSS := Lib.hid SS
      clear SS
      refine hK.out _ _ (HSS.out _ P6.out N6.out) (fun hHeld => ?_)
      clear hK K
      try simp only [pu]
      refine wpAnyM_ready (rs := [7]) (by kernel_rfl) (by simp) ?_
      refine AllReadyM.cons rfl (fun K hK => ?_) AllReadyM.nil
      refine wp_appAtL (k := 3) (m := 1) (enc := I3.enc) (ok := I3.ok) _ _ rfl Tryz.underlying38 Tryz.infoNode9 rfl (by decide) (by decide) I3.one9 lo na L.length nc L [⟨i, a, b⟩] O6.out rfl _ rfl L6.out rfl rfl (fun x hx9 => by simp at hx9; rw [hx9]; exact hx) (by decide) (by omega) (by decide) (by omega) ?_
      intro g' c' w6 h1 h2 h3
      have ht : Touch Y w6 1 na := ⟨_, h3, fun b e => ⟨by decide, own_block O6.out.1 b e⟩⟩
      have P7 := Lib.hid (P6.out.keepA ht (blk_ne P6.out O6.out.typN (by decide)))
      have N7 := Lib.hid (N6.out.keepA ht (fun e => by have := hgn _ e; omega))
      have M7 := Lib.hid (M6.out.keepG h3 (fun e => by
        have e1 := own_block O6.out.1 _ e
        obtain ⟨cur, hc⟩ := O6.out.typN e1
        obtain ⟨es, cl, hm⟩ := M6.out.isMap
        rw [hm] at hc
        cases hc))
      have O7 := Lib.hid h1
      have F7 := Lib.hid (show FrF lo p mb Y w6 from ⟨h3.os, h3.tape, h3.output, h3.size, fun k hk q1 q2 q3 => h3.block k hk (fun e => by
        have e1 := own_block O6.out.1 _ e.symm
        obtain ⟨cur, hc⟩ := O6.out.typN e1
        rcases q3 with q3 | q3
        · have := (O6.out.blk _ e1).1; omega
        · exact q3 _ _ hc)⟩)
      have hs7 := h3.size
      clear h1 h2 h3 ht
      refine hK.out _ _ (HSS.out _ P7.out N7.out) (fun hHeld => ?_)
      clear hK K
      try simp only [pu]
      refine tkM 8 ?_
      try simp only [pu]
      refine tkM 9 ?_
      try simp only [pu]
      have c0 := P7.out.cell 1
      have cl := P7.out.lt
      have cf := P7.out.free
      simp at c0
      refine wpAnyM_ready (rs := [10]) (by kernel_rfl) (by simp) ?_
      refine AllReadyM.last rfl (fun K hK => ?_)
      go_simp
      refine hK.out _ _ ?_
      clear hK K
      try simp only [pu]
      refine wpAnyM_done (by kernel_rfl) ?_ _
      refine NoPanic.normal ?_
      have hpm : p ≠ mb := fun e => by
        obtain ⟨es, cl2, hm⟩ := M7.out.isMap
        have h := P7.out
        rw [Blk, e, hm] at h
        cases h
      have hpg : g' ≠ p := fun e => blk_ne P7.out O7.out.typN (by decide) (by rw [e])
      have hpw : p < w.heap.size := HF.out.blk.lt
      obtain ⟨w7, hw7⟩ : ∃ w7, w7 = w6.setCell ⟨p, 1, none⟩ (.slice (some ⟨g', 0, none⟩) (L.length + 1) c') := ⟨_, rfl⟩
      have P8 := Lib.hid (show Blk w7 p #[.int .i64 inp, .slice (some ⟨g', 0, none⟩) (L.length + 1) c', .map (some mb)] 213 by rw [hw7]; exact P7.out.set 1 _)
      have N8 := Lib.hid (show Blk w7 w.heap.size #[.int .i64 i, .int .i64 a, .int .i64 b] 117 by rw [hw7]; exact N7.out.keepG (set_grown p 1 _) (by simp; omega))
      have O8 := Lib.hid (show OwnF 3 I3.enc I3.ok 117 w7 lo (some ⟨g', 0, none⟩) (L.length + 1) c' (L ++ [⟨i, a, b⟩]) by rw [hw7]; exact O7.out.keepG (set_grown p 1 _) (fun g e e' => by simp at e e'; omega))
      have M8 := Lib.hid (show MapN w7 mb mn (fun x => (posN x L).map fun (k : Nat) => (k : Int) + 2) by rw [hw7]; exact M7.out.keepG (set_grown p 1 _) (by simpa using hpm))
      have F8 := Lib.hid (show FrF lo p mb Y w7 from F7.out.trans (by
        rw [hw7]
        have hg := set_grown (w := w6) p 1 (.slice (some ⟨g', 0, none⟩) (L.length + 1) c')
        exact ⟨hg.os, hg.tape, hg.output, hg.size, fun k hk q1 q2 q3 => hg.block k hk (fun e => q1 (by simpa using e))⟩))
      have hs8 : w6.heap.size ≤ w7.heap.size := by rw [hw7]; simp [World.setCell]
      rw [← hw7]
      clear hw7 c0 cl cf hHeld P7 N7 O7 M7 F7
      have p1 := P8.out.cell 1
      have p2 := P8.out.cell 2
      have pl := P8.out.lt
      have n0 := N8.out.cell 0
      have n1 := N8.out.cell 1
      have n2 := N8.out.cell 2
      have nl := N8.out.lt
      simp at p1 p2 n0 n1 n2
      go_wp2_with fail
      go_wp2_with fail
      refine Calls.mono (impl_length_Node) ?_
      rintro e _ ⟨rfl, rfl⟩
      go_wp2_with fail
      refine wp_region_noPanic ?_
      refine wp_region_M (L := 6) (S := fun wx => Below w7.heap.size w7 wx) (by kernel_rfl) ?_ (fun hHeld => ?_)
      · exact (Below.refl _ _).drew
      refine tkMB 0 ?_
      try simp only [pu]
      refine tkMB 1 ?_
      try simp only [pu]
      refine tkMB 2 ?_
      try simp only [pu]
      refine tkM0 3 (v := ?_) ?_ ?_
      rotate_left
      · (intro wv hSw; (try dsimp only at hSw); obtain ⟨hcq, _⟩ := bcell hSw; have hsq := Below.size hSw; have q2 := (hcq _ _ pl).trans p2; have ql := Nat.lt_of_lt_of_le pl hsq; go_simp; try with_reducible rfl)
      try simp only [pu]
      refine tkM0 4 (v := ?_) ?_ ?_
      rotate_left
      · (intro wv hSw; (try dsimp only at hSw); obtain ⟨hcq, _⟩ := bcell hSw; have hsq := Below.size hSw; have q0 := (hcq _ _ nl).trans n0; have q1 := (hcq _ _ nl).trans n1; have q2 := (hcq _ _ nl).trans n2; have ql := Nat.lt_of_lt_of_le nl hsq; go_simp; try with_reducible rfl)
      try simp only [pu]
      refine tkMB 5 ?_
      try simp only [pu]
      refine wpAnyM_ready (rs := [6]) (by kernel_rfl) (by simp) ?_
      refine AllReadyM.last rfl (fun K hK => ?_)
      refine MapA.wp (M8.out.keep hHeld) keyN Tryz.underlying211 (by have := HF.out.few; unfold maxLen; omega) hx (v := (L.length : Int) + 2) (by unfold I64; omega) _ _ _ rfl rfl rfl (by first | rfl | (show Value.int .i64 _ = Value.int .i64 _; congr 1; omega)) ?_
      intro w9 hm9 hg9
      have P9' := Lib.hid ((P8.out.keep hHeld).keepG hg9 (by simpa using fun e => hpm e.symm))
      have O9 := Lib.hid ((O8.out.keep hHeld).keepG hg9 (fun g e e' => by
        cases e
        simp only [Option.some.injEq] at e'
        obtain ⟨cur, hc⟩ := O8.out.typN rfl
        obtain ⟨es, cl2, hm⟩ := M8.out.isMap
        rw [e', hc] at hm
        cases hm))
      have F9 := Lib.hid (show FrF lo p mb w7 w9 from (FrF.of_below hHeld).trans ⟨hg9.os, hg9.tape, hg9.output, hg9.size, fun k hk q1 q2 q3 => hg9.block k hk (fun e => q2 (by simpa using e))⟩)
      have M9 := Lib.hid hm9
      refine hK.out _ _ ?_
      clear hK K
      try simp only [pu]
      refine wpAnyM_done (by kernel_rfl) ?_ _
      refine NoPanic.normal ?_
      clear hm9 hg9 p1 p2 pl n0 n1 n2 nl hHeld
      go_wp2
      go_ret
      have hlen : (L ++ [(⟨i, a, b⟩ : I3)]).length = L.length + 1 := by simp
      refine ⟨by rw [HM.out]; first | rfl | (show Ending.returned (Value.int .i64 _) = Ending.returned (Value.int .i64 _); congr 2; omega), ⟨some ⟨g', 0, none⟩, c', mn + 1, ?_⟩, ((FrF.of_below (lo := lo) (p := p) (mb := mb) HB6.out).trans F8.out).trans F9.out⟩
      rw [HM.out]
      refine ⟨by simp only [hlen]; exact P9'.out, by simp only [hlen]; exact O9.out, M9.out.congr (fun y _ => ?_), by have := HF.out.few; simp only [hlen]; omega, HF.out.lop, HF.out.lom⟩
      rw [posN_app HNOT.out]
      by_cases hy : y = ⟨i, a, b⟩
      · rw [if_pos hy, if_pos hy]; rfl
      · rw [if_neg hy, if_neg hy]
set_option maxHeartbeats 1000000 in
theorem laws_toDiagram {b r : Int} {a : Option Addr} {n c : Nat} {l : List I3} {w : World} (hI : F3 w a n c l) (hn : n ≤ 1048576) :
    Calls Tryz.prog 13 #[.agg #[.int .i64 b, .slice a n c, .int .i64 r]] w fun e w' => ∃ g, e = .returned (.agg #[.int .i64 b, .slice (some ⟨g, 0, none⟩) n n, .int .i64 r]) ∧ Below w.heap.size w w' ∧ OwnF 3 I3.enc I3.ok 117 w' w.heap.size (some ⟨g, 0, none⟩) n n l := by
  have HI := Lib.hid hI
  clear hI
  go_enter Tryz.func13, Tryz.ntmps13
  go_wp2_with fail
  refine Calls.mono (laws_toNodeS (HI.out.keep bel) hn) ?_
  rintro e w1 ⟨rfl, hb_w1, ho⟩
  obtain ⟨hc_w1, hf_w1⟩ := bcell hb_w1
  have hs_w1 := hb_w1.size
  simp at hs_w1
  have HO := Lib.hid ho
  clear ho
  have hz1 : w.heap.size < w1.heap.size := by omega
  have hz2 : w.heap.size + 1 < w1.heap.size := by omega
  have hz3 : w.heap.size + 1 + 1 < w1.heap.size := by omega
  go_wp2
  refine bodyPost_ret (v := .agg #[.int .i64 b, .slice (some ⟨w.heap.size + 1 + 1 + 1, 0, none⟩) n n, .int .i64 r]) (by simp [results, Tryz.results13, go_sem, hc_w1, hf_w1, hz1, hz2, hz3]) rfl ⟨w.heap.size + 1 + 1 + 1, rfl, bel, ?_⟩
  have h := HO.out
  simp at h
  refine OwnF.le (base := w.heap.size + 1 + 1 + 1) ?_ (by omega)
  repeat (refine OwnF.keepG ?_ (set_grown _ _ _) (by intro g hg; simp at hg ⊢; omega))
  exact h
theorem laws_szDiagram {b r : Int} {a : Option Addr} {n c : Nat} {m : Int} {w : World} (hn : (n : Int) ≤ 9223372036854775807) (hm : 0 ≤ m) (hm' : m ≤ 1048576) :
    Calls Tryz.prog 10 #[.agg #[.int .i64 b, .slice a n c, .int .i64 r], .int .i64 m] w fun e w' => e = .returned (.int .i64 (if m < n then -1 else m - n)) ∧ Below w.heap.size w w' := by
  by_cases h : m < n
  all_goals
    go_enter Tryz.func10, Tryz.ntmps10
    go_wp2
    go_ret
    exact ⟨ret_int (by first | rfl | (split <;> omega)), bel⟩
theorem laws_eqDiagram {b r : Int} {a a' : Option Addr} {n c n' c' : Nat} {l : List I3} {w : World} (hI : F3 w a n c l) (hI' : F3 w a' n' c' l) (hn : n ≤ 1048576) (hn' : n' ≤ 1048576) :
    Calls Tryz.prog 17 #[.agg #[.int .i64 b, .slice a n c, .int .i64 r], .agg #[.int .i64 b, .slice a' n' c', .int .i64 r]] w fun e w' => e = .returned (.bool true) ∧ Below w.heap.size w w' := by
  obtain rfl : n = n' := by have h1 := hI.len; have h2 := hI'.len; omega
  have HI := Lib.hid hI
  have HI' := Lib.hid hI'
  clear hI hI'
  have hb : (b != b) = false := by simp
  have hr : (r != r) = false := by simp
  go_enter Tryz.func17, Tryz.ntmps17
  go_wp2_with fail
  refine Calls.mono (laws_eqNodeS (HI.out.keep bel) (HI'.out.keep bel) hn) ?_
  rintro e w1 ⟨rfl, hb_w1⟩
  obtain ⟨hc_w1, hf_w1⟩ := bcell hb_w1
  have hs_w1 := hb_w1.size
  go_wp2
  go_ret
  exact ⟨rfl, bel⟩
set_option maxHeartbeats 1000000 in
theorem laws_markDiagram {b r : Int} {a : Option Addr} {n c base : Nat} {l : List I3} {q : Int} {w : World} (hI : OwnF 3 I3.enc I3.ok 117 w base a n c l) (hn : n ≤ 1048576) (hq0 : 0 ≤ q) (hq1 : q ≤ 1099511627776) :
    Calls Tryz.prog 19 #[.agg #[.int .i64 b, .slice a n c, .int .i64 r], .int .i64 q] w fun e w' => e = .returned (.int .i64 (q + 3 * n)) ∧ Touch w w' n a ∧ OwnF 3 I3.enc I3.ok 117 w' base a n c (marks3 q n) := by
  have HI := Lib.hid hI
  clear hI
  go_enter Tryz.func19, Tryz.ntmps19
  go_wp2_with fail
  refine Calls.mono (laws_markNodeS (HI.out.keep bel) hn hq0 hq1) ?_
  rintro e w1 ⟨rfl, ht, ho⟩
  have HO := Lib.hid ho
  clear ho
  go_wp2
  go_ret
  obtain ⟨r9, hg, hr9⟩ := ht
  exact ⟨rfl, ⟨r9, grownBy_trans (World.grownBy_alloc _ _ _) hg, hr9⟩, HO.out⟩
theorem laws_heldDiagram {b r : Int} {a : Option Addr} {n c : Nat} {q : Int} {w : World} (hI : F3 w a n c (marks3 q n)) (hn : n ≤ 1048576) (hq0 : 0 ≤ q) (hq1 : q ≤ 1099511627776) :
    Calls Tryz.prog 24 #[.agg #[.int .i64 b, .slice a n c, .int .i64 r], .int .i64 q] w fun e w' => e = .returned (.int .i64 (q + 3 * n)) ∧ Below w.heap.size w w' := by
  have HI := Lib.hid hI
  clear hI
  have hqn : decide (q + 3 * (n : Int) < 0) = false := by simp; omega
  go_enter Tryz.func24, Tryz.ntmps24
  go_wp2_with fail
  refine Calls.mono (laws_heldNodeS (HI.out.keep bel) hn hq0 hq1) ?_
  rintro e _ ⟨rfl, rfl⟩
  go_wp2
  go_ret
  exact ⟨rfl, bel⟩
/-- a state that was found: the state, the place of the state from which it was found, the rule, how many rules, the rules -/
structure SN where
  v : List Int
  fr : Int
  ru : Int
  dp : Int
  tr : List Int
def holdsP (v : List Int) (g : List I2b) : Bool := g.all fun t => (v.getD t.a.toNat 0 == t.b) == t.c
def zRu : RuD := ⟨⟨#[]⟩, [], []⟩
def enabP (rs : List RuD) (v : List Int) : List Nat := (List.range rs.length).filter fun i => holdsP v (rs.getD i zRu).g
def applyP (v : List Int) (e : List I2) : List Int := e.foldl (fun u a => u.set a.a.toNat a.b) v
def nextP (rs : List RuD) (v : List Int) : List (Nat × List Int) := (enabP rs v).map fun i => (i, applyP v (rs.getD i zRu).e)
def addN (i : Nat) (x : SN) (L : List SN) (r : Nat × List Int) : List SN :=
  if L.any (fun y => y.v == r.2) then L else L ++ [⟨r.2, i, r.1, x.dp + 1, x.tr ++ [(r.1 : Int)]⟩]
def expN (rs : List RuD) (i : Nat) (x : SN) (L : List SN) : List SN := (nextP rs x.v).foldl (addN i x) L
def runN9 (rs : List RuD) : Nat → Nat → List SN → Option (List SN)
  | 0, _, _ => none
  | f + 1, i, L => match L[i]? with
    | none => some L
    | some x => if 4000 < (expN rs i x L).length then none else runN9 rs f (i + 1) (expN rs i x L)
theorem addN_pre (i : Nat) (x : SN) (L : List SN) (r : Nat × List Int) : ∃ t, addN i x L r = L ++ t ∧ t.length ≤ 1 := by
  rw [addN]
  split
  · exact ⟨[], by simp, by simp⟩
  · exact ⟨_, rfl, by simp⟩
theorem foldN_pre (i : Nat) (x : SN) : ∀ (l : List (Nat × List Int)) (L : List SN), ∃ t, l.foldl (addN i x) L = L ++ t ∧ t.length ≤ l.length
  | [], L => ⟨[], by simp, by simp⟩
  | r :: l, L => by
    obtain ⟨t1, h1, h2⟩ := addN_pre i x L r
    obtain ⟨t2, h3, h4⟩ := foldN_pre i x l (addN i x L r)
    exact ⟨t1 ++ t2, by rw [List.foldl_cons, h3, h1, List.append_assoc], by rw [List.length_append, List.length_cons]; omega⟩
/-- a state's values lie in the sizes -/
def SV (sz v : List Int) : Prop := v.length = sz.length ∧ ∀ (k : Nat) (x z : Int), v[k]? = some x → sz[k]? = some z → 0 ≤ x ∧ x < z
def RuV (sz : List Int) (r : RuD) : Prop := (∀ t ∈ r.g, 0 ≤ t.a ∧ t.a < sz.length) ∧ (∀ a ∈ r.e, 0 ≤ a.a ∧ a.a < sz.length ∧ ∀ z, sz[a.a.toNat]? = some z → 0 ≤ a.b ∧ a.b < z)
theorem sv_set {sz v : List Int} (h : SV sz v) {k : Nat} {x : Int} (hx : ∀ z, sz[k]? = some z → 0 ≤ x ∧ x < z) : SV sz (v.set k x) := by
  refine ⟨by rw [List.length_set]; exact h.1, fun j y z hy hz => ?_⟩
  rw [List.getElem?_set] at hy
  split at hy
  · rename_i e
    subst e
    split at hy
    · cases hy; exact hx z hz
    · cases hy
  · exact h.2 j y z hy hz
theorem sv_apply {sz : List Int} : ∀ {e : List I2} {v : List Int}, SV sz v → (∀ a ∈ e, ∀ z, sz[a.a.toNat]? = some z → 0 ≤ a.b ∧ a.b < z) → SV sz (applyP v e)
  | [], v, h, _ => h
  | a :: e, v, h, he => by
    rw [applyP, List.foldl_cons]
    exact sv_apply (sv_set h (he a (List.mem_cons_self ..))) fun b hb => he b (List.mem_cons_of_mem _ hb)
/-- all states that were found are states; no state stands twice; each but the first was found from one before it -/
structure SNs (sz : List Int) (L : List SN) : Prop where
  sv : ∀ y ∈ L, SV sz y.v
  nd : (L.map (·.v)).Nodup
  fr : ∀ (j : Nat) (y : SN), L[j]? = some y → (y.fr = -1 ∧ y.tr = []) ∨ ∃ (k : Nat) (z : SN), y.fr = (k : Int) ∧ k < j ∧ L[k]? = some z ∧ y.tr = z.tr ++ [y.ru]
theorem SNs.start {sz st : List Int} (h : SV sz st) : SNs sz [⟨st, -1, 0, 0, []⟩] := by
  refine ⟨fun y hy => ?_, by simp, fun j y hy => ?_⟩
  · simp at hy; rw [hy]; exact h
  · cases j with
    | zero => simp at hy; subst hy; exact .inl ⟨rfl, rfl⟩
    | succ j => simp at hy
theorem SNs.add {sz : List Int} {L : List SN} (h : SNs sz L) {i : Nat} {x : SN} (hx : L[i]? = some x) {r : Nat × List Int} (hr : SV sz r.2) : SNs sz (addN i x L r) := by
  rw [addN]
  split
  · exact h
  · rename_i hn
    have hi : i < L.length := (List.getElem?_eq_some_iff.1 hx).1
    refine ⟨fun y hy => ?_, ?_, fun j y hy => ?_⟩
    · rcases List.mem_append.1 hy with hy | hy
      · exact h.sv y hy
      · simp at hy; rw [hy]; exact hr
    · rw [List.map_append, List.nodup_append]
      refine ⟨h.nd, by simp, fun a ha b hb => ?_⟩
      simp at hb
      subst hb
      rintro rfl
      obtain ⟨y, hy, hyv⟩ := List.mem_map.1 ha
      exact hn (List.any_eq_true.2 ⟨y, hy, by simp [hyv]⟩)
    · by_cases hj : j < L.length
      · rw [List.getElem?_append_left hj] at hy
        rcases h.fr j y hy with h1 | ⟨k, z, h1, h2, h3, h4⟩
        · exact .inl h1
        · exact .inr ⟨k, z, h1, h2, by rw [List.getElem?_append_left (by omega)]; exact h3, h4⟩
      · rw [List.getElem?_append_right (by omega)] at hy
        have hj0 : j = L.length := by
          have := (List.getElem?_eq_some_iff.1 hy).1
          simp at this; omega
        subst hj0
        simp at hy
        subst hy
        exact .inr ⟨i, x, rfl, hi, by rw [List.getElem?_append_left hi]; exact hx, rfl⟩
theorem SNs.fold {sz : List Int} {i : Nat} {x : SN} : ∀ {l : List (Nat × List Int)} {L : List SN}, SNs sz L → L[i]? = some x → (∀ r ∈ l, SV sz r.2) → SNs sz (l.foldl (addN i x) L)
  | [], L, h, _, _ => h
  | r :: l, L, h, hx, hl => by
    rw [List.foldl_cons]
    refine SNs.fold (h.add hx (hl r (List.mem_cons_self ..))) ?_ fun q hq => hl q (List.mem_cons_of_mem _ hq)
    obtain ⟨t, ht, _⟩ := addN_pre i x L r
    rw [ht, List.getElem?_append_left (List.getElem?_eq_some_iff.1 hx).1]
    exact hx
theorem next_sv {sz : List Int} {rs : List RuD} {v : List Int} (hr : ∀ r ∈ rs, RuV sz r) (hv : SV sz v) : ∀ q ∈ nextP rs v, SV sz q.2 := by
  intro q hq
  rw [nextP] at hq
  obtain ⟨i, hi, rfl⟩ := List.mem_map.1 hq
  refine sv_apply hv fun a ha z hz => ?_
  by_cases h : i < rs.length
  · have hm : rs.getD i zRu ∈ rs := by rw [List.getD_eq_getElem?_getD, List.getElem?_eq_getElem h]; exact List.getElem_mem h
    exact ((hr _ hm).2 a ha).2.2 z hz
  · rw [List.getD_eq_getElem?_getD, List.getElem?_eq_none (by omega)] at ha
    cases ha
theorem SNs.exp {sz : List Int} {rs : List RuD} {i : Nat} {x : SN} {L : List SN} (hr : ∀ r ∈ rs, RuV sz r) (h : SNs sz L) (hx : L[i]? = some x) : SNs sz (expN rs i x L) :=
  h.fold hx (next_sv hr (h.sv x (List.mem_of_getElem? hx)))
theorem SNs.run {sz : List Int} {rs : List RuD} (hr : ∀ r ∈ rs, RuV sz r) : ∀ (f i : Nat) {L M : List SN}, SNs sz L → runN9 rs f i L = some M → SNs sz M
  | 0, _, _, _, _, h => by cases h
  | f + 1, i, L, M, hL, h => by
    rw [runN9] at h
    split at h
    · cases h; exact hL
    · rename_i x hx
      split at h
      · cases h
      · exact SNs.run hr f (i + 1) (hL.exp hr hx) h
/-- a state as a text -/
def keyL (v : List Int) : List UInt8 := v.map fun x => UInt8.ofNat x.toNat
/-- a test that looks at one of m variables -/
def okV (m : Nat) (x : I2b) : Prop := x.ok ∧ 0 ≤ x.a ∧ x.a < (m : Int)
theorem FV.get {m : Nat} {w : World} {a : Option Addr} {n c : Nat} {l : List I2b} (h : Flats 3 I2b.enc (okV m) w a n c l) {i : Nat} (hi : i < n) :
    ∃ b off x, a = some ⟨b, off, none⟩ ∧ b < w.heap.size ∧ l[i]? = some x ∧ okV m x ∧ w.cell? ⟨b, off + i * 3, none⟩ = some (.int .i64 x.a) ∧ w.cell? ⟨b, off + i * 3 + 1, none⟩ = some (.int .i64 x.b) ∧ w.cell? ⟨b, off + i * 3 + 2, none⟩ = some (.bool x.c) := by
  obtain ⟨b, off, x, h1, h2, h3, h4, h5⟩ := h.at hi
  exact ⟨b, off, x, h1, h2, h3, h4, h5 0 _ rfl, h5 1 _ rfl, h5 2 _ rfl⟩
theorem F2b.toV {m : Nat} {w : World} {a : Option Addr} {n c : Nat} {l : List I2b} (h : F2b w a n c l) (hv : ∀ t ∈ l, 0 ≤ t.a ∧ t.a < (m : Int)) : Flats 3 I2b.enc (okV m) w a n c l :=
  ⟨h.len, h.cap, h.pos, fun x hx => ⟨h.wf x hx, hv x hx⟩, h.nil⟩
set_option maxHeartbeats 1000000 in
theorem slices_IndexFunc_TestV {m g : Nat} {lb : Array Value} {p : I2b → Bool} {a : Option Addr} {n c : Nat} {l : List I2b} {w : World}
    (eg : ∀ args w, (callFunc g args).run Tryz.prog w = .ok (.enter g args) w) (hp : PredF Tryz.prog g lb I2b.enc (okV m) p w) (hI : Flats 3 I2b.enc (okV m) w a n c l) (hn : n ≤ 1048576) :
    Calls Tryz.prog 192 #[.slice a n c, .func (.func g) #[] lb] w fun e w' => e = .returned (.int .i64 (idxF p l)) ∧ Below w.heap.size w w' := by
  have HP := Lib.hid hp
  clear hp
  go_enter Tryz.func192, Tryz.ntmps192
  go_wp2
  go_loopg [5, 8] n (fun gg _ s8 wr => ∃ kk : Nat, kk ≤ n ∧ n - kk ≤ gg ∧ s8 = .int .i64 kk ∧ Below w.heap.size w wr ∧ Hid ((l.take kk).any p = false))
  case atStart => exact ⟨0, Nat.zero_le _, by omega, rfl, Below.refl _ _, rfl⟩
  case round =>
    obtain ⟨kk, hkk, hg, rfl, hbl, A⟩ := hrel
    have HI := Lib.hid hI
    by_cases hlt : kk < n
    · obtain ⟨b, off, x, rfl, hb, hx, hwf, hc0, hc1, hc2⟩ := FV.get (hI.keep hbl) hlt
      have Hx := Lib.hid hx
      have hcall := HP.out _ x hwf hbl
      clear hx hI hwf
      cases hq : p x with
      | true =>
        have Hq := Lib.hid hq
        rw [hq] at hcall
        clear hq
        go_wp2_with (go_at_fn g; refine hcall.mono ?_; rintro e w1 ⟨rfl, hb1⟩)
        go_ret
        exact ⟨ret_int (by rw [idxF_hit Hx.out Hq.out A.out]), below_call hbl hb1 hbl.size⟩
      | false =>
        have Hq := Lib.hid hq
        rw [hq] at hcall
        clear hq
        go_wp2_with (go_at_fn g; refine hcall.mono ?_; rintro e w1 ⟨rfl, hb1⟩)
        go_roundg (n - (kk + 1))
        case measure => omega
        case rel => exact ⟨kk + 1, by omega, by omega, by go_num, below_call hbl hb1 hbl.size, any_take_step Hx.out A.out Hq.out⟩
    · clear hI
      go_wp2
      go_ret
      have e : l.take kk = l := take_len (by have := HI.out.len; omega)
      have h1 := A.out
      rw [e] at h1
      exact ⟨ret_int (by rw [idxF_miss h1]), hbl⟩
theorem slices_ContainsFunc_TestV {m g : Nat} {lb : Array Value} {p : I2b → Bool} {a : Option Addr} {n c : Nat} {l : List I2b} {w : World}
    (eg : ∀ args w, (callFunc g args).run Tryz.prog w = .ok (.enter g args) w) (hp : PredF Tryz.prog g lb I2b.enc (okV m) p w) (hI : Flats 3 I2b.enc (okV m) w a n c l) (hn : n ≤ 1048576) :
    Calls Tryz.prog 142 #[.slice a n c, .func (.func g) #[] lb] w fun e w' => e = .returned (.bool (l.any p)) ∧ Below w.heap.size w w' := by
  have h := idxF_nonneg p l
  have hc := slices_IndexFunc_TestV eg hp hI hn
  generalize idxF p l = r at h hc
  have H := Lib.hid h
  have HI := Lib.hid hI
  have HP := Lib.hid hp
  clear h hI hp
  go_enter Tryz.func142, Tryz.ntmps142
  go_wp2_with fail
  refine Calls.mono hc ?_
  rintro e w1 ⟨rfl, hb1⟩
  go_wp2
  go_ret
  exact ⟨ret_bool H.out, hb1⟩
def tstP (v : List Int) (t : I2b) : Bool := (v.getD t.a.toNat 0 == t.b) != t.c
theorem holdsP_any {v : List Int} {g : List I2b} : holdsP v g = !(g.any (tstP v)) := by
  rw [holdsP, List.not_any_eq_all_not]
  congr 1
  funext t
  rw [tstP]
  cases (v.getD t.a.toNat 0 == t.b) <;> cases t.c <;> rfl
set_option maxHeartbeats 1000000 in
theorem impl_holds_1 {x : I2b} {p : Nat} {a : Option Addr} {n c : Nat} {v : List Int} {w : World} (hx : okV n x) (hB : Blk w p #[.slice a n c] 22) (hI : Ints w a n c v) :
    Calls Tryz.prog 154 #[.agg #[.int .i64 x.a, .int .i64 x.b, .bool x.c], .pointer (some ⟨p, 0, none⟩)] w fun e w' => e = .returned (.bool (tstP v x)) ∧ Below w.heap.size w w' := by
  obtain ⟨⟨xa, xb⟩, h0, h1⟩ := hx
  obtain ⟨x1, x2, x3⟩ := x
  simp only at xa xb h0 h1
  obtain ⟨q, rfl⟩ := Int.eq_ofNat_of_zero_le h0
  obtain ⟨b, off, y, rfl, hb, hy, hcell, hyw⟩ := hI.at (k := q) (by omega)
  have hq1 : (q : Int) < (n : Int) := by omega
  have HT := Lib.hid (show tstP v ⟨(q : Int), x2, x3⟩ = ((y == x2) != x3) by rw [tstP, Int.toNat_natCast, List.getD_eq_getElem?_getD, hy]; rfl)
  have c0 := hB.cell 0
  have cl := hB.lt
  simp at c0
  clear hy hI hB
  go_enter Tryz.func154, Tryz.ntmps154
  go_wp2
  go_quiet (fail)
  go_wp2
  go_ret
  exact ⟨ret_bool (by rw [HT.out]; rfl), bel⟩
set_option maxHeartbeats 1000000 in
theorem impl_holds {va ga : Option Addr} {vn vc gn gc : Nat} {v : List Int} {g : List I2b} {w : World} (hI : Ints w va vn vc v) (hG : F2b w ga gn gc g) (hg : gn ≤ 1048576) (hv : ∀ t ∈ g, 0 ≤ t.a ∧ t.a < (vn : Int)) :
    Calls Tryz.prog 85 #[.slice va vn vc, .slice ga gn gc] w fun e w' => e = .returned (.bool (holdsP v g)) ∧ Below w.heap.size w w' := by
  have hb0 : Below w.heap.size w (w.alloc (.cells #[.slice va vn vc] 22)) := bel
  have hp : PredF Tryz.prog 154 #[.pointer (some ⟨w.heap.size, 0, none⟩)] I2b.enc (okV vn) (tstP v) (w.alloc (.cells #[.slice va vn vc] 22)) := fun W x hx hb =>
    impl_holds_1 hx ((Blk.made w #[.slice va vn vc] 22).keep hb) ((hI.keep hb0).keep hb)
  have hc := slices_ContainsFunc_TestV (m := vn) (fun _ _ => by kernel_rfl) hp ((hG.toV hv).keep hb0) hg
  have HC := Lib.hid hc
  have HH := Lib.hid (holdsP_any (v := v) (g := g))
  clear hc hp hI hG hv
  go_enter Tryz.func85, Tryz.ntmps85
  go_wp2_with fail
  refine Calls.mono HC.out ?_
  rintro e w1 ⟨rfl, hb1⟩
  go_wp2
  go_ret
  exact ⟨ret_bool (by rw [HH.out]), bel⟩
theorem applyP_take {e : List I2} {v : List Int} {j : Nat} {x : I2} (h : e[j]? = some x) : applyP v (e.take (j + 1)) = (applyP v (e.take j)).set x.a.toNat x.b := by
  rw [take_at h, applyP, List.foldl_append]; rfl
set_option maxHeartbeats 2000000 in
theorem impl_apply {ga ea va : Option Addr} {gn gc en ec vn vc : Nat} {nm : ByteArray} {v : List Int} {l : List I2} {w : World} (hE : F2 w ea en ec l) (hn : en ≤ 1048576) (hV : Ints w va vn vc v) (hvn : vn ≤ 1048576) (hv : ∀ a ∈ l, 0 ≤ a.a ∧ a.a < (vn : Int)) :
    Calls Tryz.prog 161 #[.agg #[.string nm, .slice ga gn gc, .slice ea en ec], .slice va vn vc] w fun e w' => ∃ a c, e = .returned (.slice a vn c) ∧ OwnI 2 w' w.heap.size a vn c (applyP v l) ∧ Below w.heap.size w w' := by
  have X := Lib.hid (Blk.made w #[.string nm, .slice ga gn gc, .slice ea en ec] 149)
  have hbA : Below w.heap.size w (w.alloc (.cells #[.string nm, .slice ga gn gc, .slice ea en ec] 149)) := bel
  have HE := Lib.hid hE
  have HV := Lib.hid hV
  have HVT := Lib.hid hv
  have HLE := Lib.hid hE.len
  have HLV := Lib.hid hV.len
  clear hE hV hv
  go_enter Tryz.func161, Tryz.ntmps161
  go_wp2_with fail
  refine Calls.mono (slices_Clone_i64 (HV.out.keep hbA) hvn) ?_
  rintro e w1 ⟨a1, c1, rfl, hb1, ho1, hnl⟩
  have hs1 := hb1.size
  simp at hs1
  have hX := X.out.keep hb1
  have x2 := hX.cell 2
  have xl := hX.lt
  simp at x2
  have hbl1 : Below w.heap.size w w1 := bel
  have O := Lib.hid (ho1.le (show w.heap.size + 1 ≤ _ by simp))
  clear ho1 hb1 hnl hX
  go_wp2_with fail
  clear x2 xl
  go_loopw [13] (fun s13 wr => ∃ j : Nat, s13 = .int .i64 j ∧ j ≤ en ∧ w.heap.size + 1 ≤ wr.heap.size ∧ Below w.heap.size w wr ∧ Hid (OwnI 2 wr (w.heap.size + 1) a1 vn c1 (applyP v (l.take j)))) (fun s13 _ => en - (intOf s13).toNat)
  case atStart => exact ⟨0, rfl, by omega, hs1, hbl1, O⟩
  case round =>
    clear O hbl1 hs1
    obtain ⟨j, rfl, hj, hsr, hbl, O⟩ := hrel
    by_cases hlt : j < en
    · have hlt' : (j : Int) < (en : Int) := by omega
      have hj0 : (0 : Int) ≤ (j : Int) := by omega
      obtain ⟨b, off, x, rfl, hb, hx, hxo, c0, c1'⟩ := F2.get (HE.out.keep hbl) hlt
      have hxv := HVT.out x (List.mem_of_getElem? hx)
      have Hx := Lib.hid hx
      obtain ⟨xa, xb⟩ := x
      simp only at hxv c0 c1'
      obtain ⟨q, rfl⟩ := Int.eq_ofNat_of_zero_le hxv.1
      have hq : q < vn := by omega
      have hq' : (q : Int) < (vn : Int) := by omega
      obtain ⟨g, rfl⟩ := O.out.shape (by omega)
      have O2 := Lib.hid (O.out.keep (show Below wr.heap.size wr (wr.alloc (.cells #[.int .i64 (q : Int), .int .i64 xb] 199)) from bel))
      obtain ⟨y, hy, hyo, hcell⟩ := O2.out.cell hq
      have hfz := O2.out.free
      have hgl := (O2.out.lt).2
      have hxo2 := hxo.2
      clear hx hy hxo hyo hxv
      go_wp2
      go_roundw
      case rel =>
        refine ⟨j + 1, by go_num, by omega, by simp; omega, ?_, Lib.hid ?_⟩
        · have hh := (O2.out.lt).1
          exact bel
        · rw [applyP_take Hx.out]
          exact O2.out.set q hxo2
      case measure => simp [intOf]; omega
    · obtain rfl : en = j := by omega
      have hlt' : ¬ (en : Int) < (en : Int) := by omega
      have hO := O.out
      rw [List.take_of_length_le (by rw [HLE.out]; exact Nat.le_refl _)] at hO
      have HO := Lib.hid hO
      clear hO O
      go_wp2
      go_ret
      exact ⟨_, _, rfl, HO.out.le (by omega), hbl⟩

end Go.Proofs.YtkaikbaagajckaaGreat
