/- Facts that hang on an interval of blocks: what a law keeps while it writes marks elsewhere.; The scalar helpers of layer 1, walked once: each returns what its Lean function says and leaves the world alone.; The copies, comparisons and marks of the exact laws, walked.; Generic functions of Go's package slices, walked over int64.; Slices of records: the copies, comparisons and marks of the exact laws, and Go's generic functions, walked. -/
import Derived.Test.YtkaikbaagajckaaGreatBase
import Derived.Lib.SliceRun
namespace Go.Proofs.YtkaikbaagajckaaGreat
open Go.RowKit
set_option linter.unusedVariables false
set_option linter.unusedSimpArgs false
/-- nothing that was there is written but in the blocks from lo on below hi -/
structure Only (lo hi : Nat) (w w' : World) : Prop where
  os : w'.os = w.os
  tape : w'.tape = w.tape
  output : w'.output = w.output
  size : w.heap.size ≤ w'.heap.size
  block : ∀ k, k < w.heap.size → (k < lo ∨ hi ≤ k) → w'.heap[k]? = w.heap[k]?
theorem Only.below {lo hi B : Nat} {w w' w0 : World} (h : Only lo hi w w') (h0 : Below B w0 w) (hB : B ≤ lo) (hw : B ≤ w.heap.size) : Below B w0 w' :=
  ⟨h.os.trans h0.os, h.tape.trans h0.tape, h.output.trans h0.output, Nat.le_trans h0.size h.size, fun k hk => (h.block k (by omega) (.inl (by omega))).trans (h0.block k hk)⟩
theorem Only.trans {lo hi : Nat} {w w' w'' : World} (h : Only lo hi w w') (h' : Only lo hi w' w'') : Only lo hi w w'' :=
  ⟨h'.os.trans h.os, h'.tape.trans h.tape, h'.output.trans h.output, Nat.le_trans h.size h'.size, fun k hk hr => (h'.block k (Nat.lt_of_lt_of_le hk h.size) hr).trans (h.block k hk hr)⟩
theorem Only.mono {lo hi lo' hi' : Nat} {w w' : World} (h : Only lo hi w w') (h1 : lo' ≤ lo) (h2 : hi ≤ hi') : Only lo' hi' w w' :=
  ⟨h.os, h.tape, h.output, h.size, fun k hk hr => h.block k hk (by omega)⟩
theorem Only.of_below {lo hi : Nat} {w w' : World} (h : Below w.heap.size w w') : Only lo hi w w' := ⟨h.os, h.tape, h.output, h.size, fun k hk _ => h.block k hk⟩
theorem Touch.only {w w' : World} {n lo hi : Nat} {a : Option Addr} (h : Touch w w' n a) (ha : ∀ g, a = some ⟨g, 0, none⟩ → lo ≤ g ∧ g < hi) : Only lo hi w w' := by
  obtain ⟨r, hg, hr⟩ := h
  refine ⟨hg.os, hg.tape, hg.output, hg.size, fun k hk hd => hg.block k hk fun e => ?_⟩
  have := ha k (hr k e.symm).2
  omega
theorem ocell {lo hi : Nat} {W w1 : World} (h : Only lo hi W w1) : ∀ b o, b < W.heap.size → (b < lo ∨ hi ≤ b) → w1.cell? ⟨b, o, none⟩ = W.cell? ⟨b, o, none⟩ :=
  fun b o hb hd => World.cell?_of_block (a := ⟨b, o, none⟩) (h.block b hb hd)
theorem Only.refl (lo hi : Nat) (w : World) : Only lo hi w w := ⟨rfl, rfl, rfl, Nat.le_refl _, fun _ _ _ => rfl⟩
theorem Only.set {lo hi b : Nat} {w w' : World} (h : Only lo hi w w') (hb : lo ≤ b ∧ b < hi) (i : Nat) (v : Value) : Only lo hi w (w'.setCell ⟨b, i, none⟩ v) :=
  h.trans ⟨rfl, rfl, rfl, by simp [World.setCell], fun k _ hk => Below.heap_setCell _ _ _ _ (fun e => by simp at e; omega)⟩
theorem Only.drew {lo hi : Nat} {w w' : World} (h : Only lo hi w w') : Only lo hi w w'.drew := h.trans ⟨rfl, rfl, rfl, Nat.le_refl _, fun _ _ _ => rfl⟩
theorem Only.drewN {lo hi : Nat} {w w' : World} (h : Only lo hi w w') (n : Nat) : Only lo hi w (w'.drewN n) := h.trans ⟨rfl, rfl, rfl, Nat.le_refl _, fun _ _ _ => rfl⟩
theorem Only.then {lo hi : Nat} {w w' w'' : World} (h : Only lo hi w w') (hb : Below w'.heap.size w' w'') : Only lo hi w w'' := h.trans (Only.of_below hb)
theorem Only.alloc {lo hi : Nat} {w w' : World} (h : Only lo hi w w') (o : Obj) : Only lo hi w (w'.alloc o) := h.then ((Below.refl _ _).alloc (Nat.le_refl _) o)
theorem Only.grown {lo hi : Nat} {w w' w'' : World} {r : Option Nat} (h : Only lo hi w w') (hg : w'.grownBy w'' r) (hr : ∀ k, r = some k → lo ≤ k ∧ k < hi) : Only lo hi w w'' :=
  h.trans ⟨hg.os, hg.tape, hg.output, hg.size, fun k hk hd => hg.block k hk fun e => by have := hr k e.symm; omega⟩
theorem Below.only {lo hi B : Nat} {w0 w w' : World} (h0 : Below B w0 w) (h : Only lo hi w w') (hB : B ≤ lo) (hw : B ≤ w.heap.size) : Below B w0 w' := h.below h0 hB hw
theorem OwnI.only {E : TypeId} {w w' : World} {base lo hi : Nat} {a : Option Addr} {n c : Nat} {l : List Int} (h : OwnI E w base a n c l) (ho : Only lo hi w w') (hd : ∀ g, a = some ⟨g, 0, none⟩ → g < lo ∨ hi ≤ g) : OwnI E w' base a n c l := by
  obtain ⟨⟨hl, h2⟩, hw⟩ := h
  refine ⟨⟨hl, ?_⟩, hw⟩
  rcases h2 with h2 | ⟨g, cap, cur, he, hbs, hg, r⟩
  · exact .inl h2
  · have hlt : g < w.heap.size := Nat.lt_of_not_le fun h => by rw [Array.getElem?_eq_none h] at hg; cases hg
    have he' := he
    simp only [Value.slice.injEq] at he'
    exact .inr ⟨g, cap, cur, he, hbs, by rw [ho.block g hlt (hd g he'.1)]; exact hg, r⟩
theorem OwnF.only {α : Type} {k : Nat} {enc : α → List Value} {ok : α → Prop} {E : TypeId} {w w' : World} {base lo hi : Nat} {a : Option Addr} {n c : Nat} {l : List α} (h : OwnF k enc ok E w base a n c l) (ho : Only lo hi w w') (hd : ∀ g, a = some ⟨g, 0, none⟩ → g < lo ∨ hi ≤ g) : OwnF k enc ok E w' base a n c l := by
  obtain ⟨⟨hl, h2⟩, hw⟩ := h
  refine ⟨⟨hl, ?_⟩, hw⟩
  rcases h2 with h2 | ⟨g, cap, cur, he, hbs, hg, r⟩
  · exact .inl h2
  · have hlt : g < w.heap.size := Nat.lt_of_not_le fun h => by rw [Array.getElem?_eq_none h] at hg; cases hg
    have he' := he
    simp only [Value.slice.injEq] at he'
    exact .inr ⟨g, cap, cur, he, hbs, by rw [ho.block g hlt (hd g he'.1)]; exact hg, r⟩
theorem Ints.only {w w' : World} {lo hi : Nat} {a : Option Addr} {n c : Nat} {l : List Int} (h : Ints w a n c l) (ho : Only lo hi w w') (hd : ∀ g off, a = some ⟨g, off, none⟩ → g < lo ∨ hi ≤ g) : Ints w' a n c l := by
  refine ⟨h.len, h.cap, ?_, h.wf, h.nil⟩
  rcases h.pos with h0 | ⟨b, off, ha, hlt, hc⟩
  · exact .inl h0
  · exact .inr ⟨b, off, ha, Nat.lt_of_lt_of_le hlt ho.size, fun i x hx => (World.cell?_of_block (a := ⟨b, off + i, none⟩) (ho.block b hlt (hd b off ha))).trans (hc i x hx)⟩
theorem Flats.only {α : Type} {k : Nat} {enc : α → List Value} {ok : α → Prop} {w w' : World} {lo hi : Nat} {a : Option Addr} {n c : Nat} {l : List α} (h : Flats k enc ok w a n c l) (ho : Only lo hi w w') (hd : ∀ g off, a = some ⟨g, off, none⟩ → g < lo ∨ hi ≤ g) : Flats k enc ok w' a n c l := by
  refine ⟨h.len, h.cap, ?_, h.wf, h.nil⟩
  rcases h.pos with h0 | ⟨b, off, ha, hlt, hc⟩
  · exact .inl h0
  · exact .inr ⟨b, off, ha, Nat.lt_of_lt_of_le hlt ho.size, fun i x hx j v hv => (World.cell?_of_block (a := ⟨b, off + i * k + j, none⟩) (ho.block b hlt (hd b off ha))).trans (hc i x hx j v hv)⟩
structure Own (P : World → Prop) (lo hi : Nat) (w : World) : Prop where
  fact : P w
  upto : hi ≤ w.heap.size
  here : ∀ w1 w2 : World, (∀ k, lo ≤ k → k < hi → w2.heap[k]? = w1.heap[k]?) → P w1 → P w2
theorem Own.keep {P : World → Prop} {lo hi : Nat} {w w' : World} (h : Own P lo hi w) (hb : Below w.heap.size w w') : Own P lo hi w' :=
  ⟨h.here w w' (fun k _ hk => hb.block k (Nat.lt_of_lt_of_le hk h.upto)) h.fact, Nat.le_trans h.upto hb.size, h.here⟩
theorem Own.apart {P : World → Prop} {lo hi lo' hi' : Nat} {w w' : World} (h : Own P lo hi w) (ho : Only lo' hi' w w') (hd : hi ≤ lo' ∨ hi' ≤ lo) : Own P lo hi w' :=
  ⟨h.here w w' (fun k h1 h2 => ho.block k (Nat.lt_of_lt_of_le h2 h.upto) (by omega)) h.fact, Nat.le_trans h.upto ho.size, h.here⟩
theorem Own.turn {P Q : World → Prop} {lo hi : Nat} {w w' : World} (h : Own P lo hi w) (hs : w.heap.size ≤ w'.heap.size) (hq : Q w') (hh : ∀ w1 w2 : World, (∀ k, lo ≤ k → k < hi → w2.heap[k]? = w1.heap[k]?) → Q w1 → Q w2) : Own Q lo hi w' :=
  ⟨hq, Nat.le_trans h.upto hs, hh⟩
theorem Blk.apart {w w' : World} {b lo hi : Nat} {cs : Array Value} {T : TypeId} (h : Blk w b cs T) (ho : Only lo hi w w') (hd : b < lo ∨ hi ≤ b) : Blk w' b cs T := (ho.block b h.lt hd).trans h
theorem OwnI.here {E : TypeId} {base lo hi : Nat} {a : Option Addr} {n c : Nat} {l : List Int} (ha : ∀ g, a = some ⟨g, 0, none⟩ → lo ≤ g ∧ g < hi) (w1 w2 : World) (hk : ∀ k, lo ≤ k → k < hi → w2.heap[k]? = w1.heap[k]?) (h : OwnI E w1 base a n c l) : OwnI E w2 base a n c l := by
  obtain ⟨⟨hl, h2⟩, hw⟩ := h
  refine ⟨⟨hl, ?_⟩, hw⟩
  rcases h2 with h2 | ⟨g, cap, cur, he, hbs, hg, r⟩
  · exact .inl h2
  · simp only [Value.slice.injEq] at he
    obtain ⟨h1, h2⟩ := ha g he.1
    exact .inr ⟨g, cap, cur, by simp only [Value.slice.injEq]; exact he, hbs, by rw [hk g h1 h2]; exact hg, r⟩
theorem OwnF.here {α : Type} {k' : Nat} {enc : α → List Value} {ok : α → Prop} {E : TypeId} {base lo hi : Nat} {a : Option Addr} {n c : Nat} {l : List α} (ha : ∀ g, a = some ⟨g, 0, none⟩ → lo ≤ g ∧ g < hi) (w1 w2 : World) (hk : ∀ k, lo ≤ k → k < hi → w2.heap[k]? = w1.heap[k]?) (h : OwnF k' enc ok E w1 base a n c l) : OwnF k' enc ok E w2 base a n c l := by
  obtain ⟨⟨hl, h2⟩, hw⟩ := h
  refine ⟨⟨hl, ?_⟩, hw⟩
  rcases h2 with h2 | ⟨g, cap, cur, he, hbs, hg, r⟩
  · exact .inl h2
  · simp only [Value.slice.injEq] at he
    obtain ⟨h1, h2⟩ := ha g he.1
    exact .inr ⟨g, cap, cur, by simp only [Value.slice.injEq]; exact he, hbs, by rw [hk g h1 h2]; exact hg, r⟩
theorem OwnI.own {E : TypeId} {w : World} {base : Nat} {a : Option Addr} {n c : Nat} {l : List Int} (h : OwnI E w base a n c l) : Own (fun w => OwnI E w base a n c l) base w.heap.size w := ⟨h, Nat.le_refl _, OwnI.here h.blk⟩
theorem OwnF.own {α : Type} {k' : Nat} {enc : α → List Value} {ok : α → Prop} {E : TypeId} {w : World} {base : Nat} {a : Option Addr} {n c : Nat} {l : List α} (h : OwnF k' enc ok E w base a n c l) : Own (fun w => OwnF k' enc ok E w base a n c l) base w.heap.size w := ⟨h, Nat.le_refl _, OwnF.here h.blk⟩
theorem spec_l01In {x lo hi : Int} {w : World} : Calls Tryz.prog 117 #[.int .i64 x, .int .i64 lo, .int .i64 hi] w fun e w' => e = .returned (.bool (inB x lo hi)) ∧ w = w' := by
  go_enter Tryz.func117, Tryz.ntmps117
  go_wp2
  all_goals
    go_ret
    exact ⟨ret_bool (by simp [inB]; omega), rfl⟩
theorem impl_within {x lo hi : Int} {w : World} : Calls Tryz.prog 89 #[.int .i64 x, .int .i64 lo, .int .i64 hi] w fun e w' => e = .returned (.bool (inB x lo hi)) ∧ w = w' := by
  go_enter Tryz.func89, Tryz.ntmps89
  go_wp2
  all_goals
    go_ret
    exact ⟨ret_bool (by simp [inB]; omega), rfl⟩
theorem impl_length_i64 {a : Option Addr} {n c : Nat} {w : World} : Calls Tryz.prog 123 #[.slice a n c] w fun e w' => e = .returned (.int .i64 n) ∧ w = w' := by
  go_enter Tryz.func123, Tryz.ntmps123
  go_wp2
  go_ret
  exact ⟨rfl, rfl⟩
theorem Tryz.infoi64 : (Tryz.prog.info? 2).map (fun i => (i.zero, i.size, i.bytes)) = some (some (.int .i64 0), 1, 8) := by kernel_rfl
set_option maxHeartbeats 1000000 in
theorem laws_toInt64S {a : Option Addr} {n c : Nat} {l : List Int} {w : World} (hI : Ints w a n c l) (hn : n ≤ 1048576) :
    Calls Tryz.prog 50 #[.slice a n c] w fun e w' => e = .returned (.slice (some ⟨w.heap.size, 0, none⟩) n n) ∧ Below w.heap.size w w' ∧ OwnI 2 w' w.heap.size (some ⟨w.heap.size, 0, none⟩) n n l := by
  obtain ⟨i0, hi, hz0, hz1, hz2⟩ := info_parts Tryz.infoi64
  obtain ⟨w1, hmk, hown, hgr⟩ := run_make_full (P := Tryz.prog) w w.heap.size 22 2 i0 (.int .i64 0) 1 Tryz.underlying22 hi hz0 hz1 .i64 .i64 n (by rw [hz2]; omega) (by unfold maxLen; omega) (Nat.le_refl _)
  have hb1 : Below w.heap.size w w1 := (Below.refl _ _).grown hgr (Nat.le_refl _) (fun k h => by cases h)
  have ho : OwnI 2 w1 w.heap.size (some ⟨w.heap.size, 0, none⟩) n n (l.take 0 ++ List.replicate (n - 0) 0) := by
    refine ⟨?_, fun x hx => ?_⟩
    · have : (madeCells (Value.cells (.int .i64 0)) (n * 1)).toList = (l.take 0 ++ List.replicate (n - 0) 0).map (Value.int .i64) := by
        rw [Nat.mul_one, show Value.cells (.int .i64 0) = #[.int .i64 0] from rfl, toList_madeCells_one]; simp
      rw [this] at hown; exact hown
    · simp at hx; rw [hx.2]; exact ⟨by omega, by omega⟩
  have HI := Lib.hid hI
  have HO := Lib.hid ho
  clear hI ho hown hgr hi hz0 hz1 hz2
  go_enter Tryz.func50, Tryz.ntmps50
  go_wp2
  clear hmk
  go_loopw [4] (fun i wr => ∃ k : Nat, k ≤ n ∧ i = .int .i64 k ∧ Below w.heap.size w wr ∧ Hid (OwnI 2 wr w.heap.size (some ⟨w.heap.size, 0, none⟩) n n (l.take k ++ List.replicate (n - k) 0))) (fun i _ => n - (intOf i).toNat)
  case atStart => exact ⟨0, Nat.zero_le _, rfl, hb1, HO.out⟩
  case round =>
    obtain ⟨k, hk, rfl, hbl, hO⟩ := hrel
    by_cases hlt : k < n
    · obtain ⟨b, off, x, rfl, hb, hx, hcell, hwf⟩ := (HI.out.keep hbl).at hlt
      have Hx := Lib.hid hx
      obtain ⟨y, _, _, hcy⟩ := hO.out.cell hlt
      have hfz := hO.out.free k
      have hne : b ≠ w.heap.size := by
        have := HI.out.pos
        rcases this with h0 | ⟨b', off', he, hb', _⟩
        · omega
        · simp at he; omega
      clear hx
      go_wp2
      go_roundw
      case rel => exact ⟨k + 1, by omega, by go_num, hbl.setCell (by simp) _, by have := hO.out.set k hwf; rw [set_fill Hx.out n HI.out.len] at this; exact this⟩
      case measure => simp [intOf]; omega
    · go_wp2
      go_ret
      have e : k = n := by omega
      have h1 := hO.out
      rw [e, take_len HI.out.len, Nat.sub_self, List.replicate_zero, List.append_nil] at h1
      exact ⟨rfl, hbl, h1⟩
set_option maxHeartbeats 1000000 in
theorem laws_eqInt64S {a a' : Option Addr} {n c n' c' : Nat} {l l' : List Int} {w : World} (hI : Ints w a n c l) (hI' : Ints w a' n' c' l') (hn : n ≤ 1048576) (hn' : n' ≤ 1048576) :
    Calls Tryz.prog 54 #[.slice a n c, .slice a' n' c'] w fun e w' => e = .returned (.bool (decide (l = l'))) ∧ Below w.heap.size w w' := by
  have HI := Lib.hid hI
  have HI' := Lib.hid hI'
  clear hI hI'
  by_cases hnn : n = n'
  · subst hnn
    have hq : ((n : Int) != (n : Int)) = false := by simp
    go_enter Tryz.func54, Tryz.ntmps54
    go_wp2
    go_loopw [5] (fun i wr => ∃ k : Nat, k ≤ n ∧ i = .int .i64 k ∧ Below w.heap.size w wr ∧ Hid (l.take k = l'.take k)) (fun i _ => n - (intOf i).toNat)
    case atStart => exact ⟨0, Nat.zero_le _, rfl, Below.refl _ _, rfl⟩
    case round =>
      obtain ⟨k, hk, rfl, hbl, hO⟩ := hrel
      by_cases hlt : k < n
      · obtain ⟨b, off, x, rfl, hb, hx, hcell, hwf⟩ := (HI.out.keep hbl).at hlt
        obtain ⟨b', off', x', rfl, hb', hx', hcell', hwf'⟩ := (HI'.out.keep hbl).at hlt
        have Hx := Lib.hid hx
        have Hx' := Lib.hid hx'
        clear hx hx'
        have hlt' : (k : Int) < (n : Int) := by omega
        have hpos : (0 : Int) ≤ (k : Int) := by omega
        by_cases hxx : x = x'
        · have hd : (x != x') = false := by simp [hxx]
          have Hxx := Lib.hid hxx
          clear hxx
          go_wp2
          go_quiet (fail)
          go_wp2
          go_roundw
          case rel => exact ⟨k + 1, by omega, by go_num, below_drewN hbl _, by show _ = _; rw [take_at Hx.out, take_at Hx'.out, hO.out, Hxx.out]⟩
          case measure => simp [intOf]; omega
        · have hd : (x != x') = true := by simp [hxx]
          go_wp2
          go_quiet (fail)
          go_wp2
          go_ret
          refine ⟨ret_bool ?_, below_drewN hbl _⟩
          have : l ≠ l' := fun h => hxx (by have h1 := Hx.out; have h2 := Hx'.out; rw [h, h2] at h1; simpa using h1.symm)
          simp [this]
      · go_wp2
        go_ret
        have e : k = n := by omega
        have h1 := hO.out
        rw [e, take_len HI.out.len, take_len HI'.out.len] at h1
        exact ⟨ret_bool (by simp [h1]), hbl⟩
  · have hq : ((n : Int) != (n' : Int)) = true := by simp; omega
    have hne : l ≠ l' := fun h => hnn (by rw [← HI.out.len, ← HI'.out.len, h])
    have Hne := Lib.hid hne
    clear hne
    go_enter Tryz.func54, Tryz.ntmps54
    go_wp2
    go_ret
    exact ⟨ret_bool (by simp [Hne.out]), Below.refl _ _⟩
set_option maxHeartbeats 1000000 in
theorem laws_markInt64S {a : Option Addr} {n c base : Nat} {l : List Int} {q : Int} {w : World} (hI : OwnI 2 w base a n c l) (hn : n ≤ 1048576) (hq0 : 0 ≤ q) (hq1 : q ≤ 1099511627776) :
    Calls Tryz.prog 57 #[.slice a n c, .int .i64 q] w fun e w' => e = .returned (.int .i64 (q + n)) ∧ Touch w w' n a ∧ OwnI 2 w' base a n c (marksI q n) := by
  by_cases hn0 : n = 0
  · subst hn0
    have HI := Lib.hid hI
    have hl : l = marksI q 0 := by have := hI.len; cases l with | nil => rfl | cons => simp at this
    subst hl
    clear hI
    go_enter Tryz.func57, Tryz.ntmps57
    go_wp2
    go_loopw [1, 5] (fun s1 s5 wr => s1 = .int .i64 q ∧ s5 = .int .i64 0 ∧ wr = w) (fun _ _ _ => 0)
    case atStart => exact ⟨rfl, rfl, rfl⟩
    case round =>
      obtain ⟨rfl, rfl, rfl⟩ := hrel
      go_wp2
      go_ret
      exact ⟨ret_int (by omega), ⟨none, grownBy_refl _ _, fun _ h => by cases h⟩, HI.out⟩
  · obtain ⟨g, rfl⟩ := hI.shape (by omega)
    have HI := Lib.hid (show OwnI 2 w base (some ⟨g, 0, none⟩) n c ((marksI q n).take 0 ++ l.drop 0) by simpa using hI)
    have hlen := hI.len
    have Hlen := Lib.hid hlen
    clear hI hlen
    go_enter Tryz.func57, Tryz.ntmps57
    go_wp2
    go_loopw [1, 5] (fun s1 s5 wr => ∃ j : Nat, j ≤ n ∧ s1 = .int .i64 (q + j) ∧ s5 = .int .i64 j ∧ w.grownBy wr (some g) ∧ Hid (OwnI 2 wr base (some ⟨g, 0, none⟩) n c ((marksI q n).take j ++ l.drop j))) (fun _ s5 _ => n - (intOf s5).toNat)
    case atStart => exact ⟨0, Nat.zero_le _, by simp, rfl, grownBy_refl _ _, HI.out⟩
    case round =>
      obtain ⟨j, hj, rfl, rfl, hg, hO⟩ := hrel
      by_cases hlt : j < n
      · obtain ⟨y, _, _, hc0⟩ := hO.out.cell hlt
        have hfz := hO.out.free
        go_wp2
        go_roundw
        case rel =>
          refine ⟨j + 1, by omega, by go_num, by go_num, ?_, ?_⟩
          · repeat (first | exact hg | refine grownBy_set ?_ _ _)
          · have := hO.out.set j (x := q + (j : Int)) ⟨by omega, by omega⟩
            rw [show q + (j : Int) = (fun i : Nat => q + (i : Int)) j from rfl, marksI, mix_set hlt Hlen.out] at this
            exact this
        case measure => simp [intOf]; omega
      · go_wp2
        go_ret
        have e : j = n := by omega
        have h1 := hO.out
        rw [e, List.drop_of_length_le (by have := Hlen.out; omega), List.append_nil, List.take_of_length_le (by simp [marksI])] at h1
        exact ⟨ret_int (by rw [e]), ⟨_, hg, fun b hb => by cases hb; exact ⟨by omega, rfl⟩⟩, h1⟩
theorem laws_toInt64S_g {a : Option Addr} {n c : Nat} {l : List Int} {w : World} (hI : Ints w a n c l) (hn : n ≤ 1048576) :
    Calls Tryz.prog 50 #[.slice a n c] w fun e w' => ∃ g, e = .returned (.slice (some ⟨g, 0, none⟩) n n) ∧ Below w.heap.size w w' ∧ OwnI 2 w' w.heap.size (some ⟨g, 0, none⟩) n n l :=
  Calls.mono (laws_toInt64S hI hn) fun e w' ⟨h1, h2, h3⟩ => ⟨_, h1, h2, h3⟩
/-- what a function value g bound to lb answers at an int64 -/
def PredI (P : Program) (g : Nat) (lb : Array Value) (p : Int → Bool) (w : World) : Prop :=
  ∀ (W : World) (x : Int), I64 x → Below w.heap.size w W → Calls P g (#[.int .i64 x] ++ lb) W fun e w' => e = .returned (.bool (p x)) ∧ Below W.heap.size W w'
/-- the place of the first element at which p holds, or -1 -/
def idxF {α : Type} (p : α → Bool) : List α → Int
  | [] => -1
  | x :: r => if p x then 0 else (if idxF p r < 0 then -1 else idxF p r + 1)
theorem idxF_nonneg {α : Type} (p : α → Bool) (l : List α) : decide (0 ≤ idxF p l) = l.any p := by
  induction l with
  | nil => simp [idxF]
  | cons x r ih =>
    rw [List.any_cons, ← ih, idxF]
    by_cases h : p x = true
    · simp [h]
    · by_cases h' : idxF p r < 0
      · simp [h, h']
      · simp [h, h']; omega
theorem idxF_ge {α : Type} (p : α → Bool) (l : List α) : -1 ≤ idxF p l := by
  induction l with
  | nil => simp [idxF]
  | cons x r ih => rw [idxF]; split <;> (try split) <;> omega
theorem idxF_hit {α : Type} {p : α → Bool} {l : List α} {k : Nat} {x : α} (hk : l[k]? = some x) (hp : p x = true) (hb : (l.take k).any p = false) : idxF p l = k := by
  induction l generalizing k with
  | nil => simp at hk
  | cons y r ih =>
    cases k with
    | zero => simp at hk; subst hk; simp [idxF, hp]
    | succ k =>
      simp only [List.take_succ_cons, List.any_cons, Bool.or_eq_false_iff] at hb
      have := ih (k := k) (by simpa using hk) hb.2
      rw [idxF, this]; simp [hb.1]; omega
theorem idxF_miss {α : Type} {p : α → Bool} {l : List α} (hb : l.any p = false) : idxF p l = -1 := by
  have h := idxF_nonneg p l
  have h' := idxF_ge p l
  rw [hb] at h
  have := of_decide_eq_false h
  omega
set_option maxHeartbeats 1000000 in
theorem slices_IndexFunc_i64 {g : Nat} {lb : Array Value} {p : Int → Bool} {a : Option Addr} {n c : Nat} {l : List Int} {w : World}
    (eg : ∀ args w, (callFunc g args).run Tryz.prog w = .ok (.enter g args) w) (hp : PredI Tryz.prog g lb p w) (hI : Ints w a n c l) (hn : n ≤ 1048576) :
    Calls Tryz.prog 180 #[.slice a n c, .func (.func g) #[] lb] w fun e w' => e = .returned (.int .i64 (idxF p l)) ∧ Below w.heap.size w w' := by
  have HP := Lib.hid hp
  clear hp
  go_enter Tryz.func180, Tryz.ntmps180
  go_wp2
  go_loopg [5, 8] n (fun gg _ s8 wr => ∃ kk : Nat, kk ≤ n ∧ n - kk ≤ gg ∧ s8 = .int .i64 kk ∧ Below w.heap.size w wr ∧ Hid ((l.take kk).any p = false))
  case atStart => exact ⟨0, Nat.zero_le _, by omega, rfl, Below.refl _ _, rfl⟩
  case round =>
    obtain ⟨kk, hkk, hg, rfl, hbl, A⟩ := hrel
    have HI := Lib.hid hI
    by_cases hlt : kk < n
    · obtain ⟨b, off, x, rfl, hb, hx, hcell, hwf⟩ := (hI.keep hbl).at hlt
      have Hx := Lib.hid hx
      have hcall := HP.out _ x hwf hbl
      clear hx hI
      cases hq : p x with
      | true =>
        have Hq := Lib.hid hq
        rw [hq] at hcall
        clear hq
        go_wp2_with (go_at_fn g; refine hcall.mono ?_; rintro e w1 ⟨rfl, hb1⟩)
        go_ret
        exact ⟨ret_int (by rw [idxF_hit Hx.out Hq.out A.out]), below_call hbl hb1 hbl.size⟩
      | false =>
        have Hq := Lib.hid hq
        rw [hq] at hcall
        clear hq
        go_wp2_with (go_at_fn g; refine hcall.mono ?_; rintro e w1 ⟨rfl, hb1⟩)
        go_roundg (n - (kk + 1))
        case measure => omega
        case rel => exact ⟨kk + 1, by omega, by omega, by go_num, below_call hbl hb1 hbl.size, any_take_step Hx.out A.out Hq.out⟩
    · clear hI
      go_wp2
      go_ret
      have e : l.take kk = l := take_len (by have := HI.out.len; omega)
      have h1 := A.out
      rw [e] at h1
      exact ⟨ret_int (by rw [idxF_miss h1]), hbl⟩
theorem slices_ContainsFunc_i64 {g : Nat} {lb : Array Value} {p : Int → Bool} {a : Option Addr} {n c : Nat} {l : List Int} {w : World}
    (eg : ∀ args w, (callFunc g args).run Tryz.prog w = .ok (.enter g args) w) (hp : PredI Tryz.prog g lb p w) (hI : Ints w a n c l) (hn : n ≤ 1048576) :
    Calls Tryz.prog 124 #[.slice a n c, .func (.func g) #[] lb] w fun e w' => e = .returned (.bool (l.any p)) ∧ Below w.heap.size w w' := by
  have h := idxF_nonneg p l
  have hc := slices_IndexFunc_i64 eg hp hI hn
  generalize idxF p l = r at h hc
  have H := Lib.hid h
  have HI := Lib.hid hI
  have HP := Lib.hid hp
  clear h hI hp
  go_enter Tryz.func124, Tryz.ntmps124
  go_wp2_with fail
  refine Calls.mono hc ?_
  rintro e w1 ⟨rfl, hb1⟩
  go_wp2
  go_ret
  exact ⟨ret_bool H.out, hb1⟩
set_option maxHeartbeats 1000000 in
theorem slices_Clone_i64 {a : Option Addr} {n c : Nat} {l : List Int} {w : World} (hI : Ints w a n c l) (hn : n ≤ 1048576) :
    Calls Tryz.prog 175 #[.slice a n c] w fun e w' => ∃ a' c', e = .returned (.slice a' n c') ∧ Below w.heap.size w w' ∧ OwnI 2 w' w.heap.size a' n c' l ∧ NilBy a' a := by
  have hnl := fun (wx : World) => Lib.run_eql_slice_nil (P := Tryz.prog) wx 22 2 a n c 0 0 Tryz.underlying22
  cases a with
  | none =>
    obtain ⟨rfl, rfl⟩ := hI.nil rfl
    have hl : l = [] := List.length_eq_zero_iff.1 hI.len
    subst hl
    clear hI
    go_enter Tryz.func175, Tryz.ntmps175
    go_wp2
    go_ret
    exact ⟨none, 0, rfl, Below.refl _ _, OwnI.nil _ _ _, NilBy.refl _⟩
  | some ad =>
    have HI := Lib.hid hI
    clear hI
    go_enter Tryz.func175, Tryz.ntmps175
    go_wp2_with (at_builtin; refine appendL_i64 rfl _ _ 22 2 rfl Tryz.underlying22 Tryz.infoi64 w.heap.size _ _ _ _ (OwnI.empty w (Nat.le_refl _)) rfl _ _ _ _ rfl (HI.out.keep ((Below.refl _ _).alloc (Nat.le_refl _) _)) (by omega) (by omega) (by simp) ?_; intro a1 c1 w1 hown1 hb1 hg1 hnil1)
    have Hown := Lib.hid hown1
    clear hown1
    go_ret
    exact ⟨_, _, rfl, bel, by simpa using Hown.out, NilBy.some fun h => by have := hnil1 h; cases this⟩
/-- what a function value g bound to lb answers at a record -/
def PredF {α : Type} (P : Program) (g : Nat) (lb : Array Value) (enc : α → List Value) (ok : α → Prop) (p : α → Bool) (w : World) : Prop :=
  ∀ (W : World) (x : α), ok x → Below w.heap.size w W → Calls P g (#[.agg (enc x).toArray] ++ lb) W fun e w' => e = .returned (.bool (p x)) ∧ Below W.heap.size W w'
theorem flat_replicate {α : Type} {enc : α → List Value} {z : α} {zc : Array Value} (h : enc z = zc.toList) (hk : 0 < zc.size) (n : Nat) : (madeCells zc (n * zc.size)).toList = (List.replicate n z).flatMap enc := by
  apply List.ext_getElem?
  intro j
  have hflat : ∀ m, (List.replicate m z).flatMap enc = (List.range (m * zc.size)).map (zc[· % zc.size]!) := by
    intro m
    induction m with
    | zero => simp
    | succ m ih =>
      rw [List.replicate_succ', List.flatMap_append, ih, Nat.add_mul, Nat.one_mul, List.range_add, List.map_append, List.map_map]
      congr 1
      rw [List.flatMap_singleton, h]
      apply List.ext_getElem?
      intro i
      by_cases hi : i < zc.size
      · simp [hi, Function.comp, Nat.mul_add_mod_of_lt, Nat.mod_eq_of_lt]
      · simp [hi]
  rw [hflat]
  simp [madeCells]
theorem laws_toTest {x : I2b} {w : World} : Calls Tryz.prog 91 #[.agg #[.int .i64 x.a, .int .i64 x.b, .bool x.c]] w fun e w' => e = .returned (.agg #[.int .i64 x.a, .int .i64 x.b, .bool x.c]) ∧ Below w.heap.size w w' := by
  go_enter Tryz.func91, Tryz.ntmps91
  go_wp2
  exact bodyPost_ret (v := .agg #[.int .i64 x.a, .int .i64 x.b, .bool x.c]) (by simp [results, Tryz.results91, go_sem]) rfl ⟨rfl, bel⟩
theorem laws_toAssign {x : I2} {w : World} : Calls Tryz.prog 197 #[.agg #[.int .i64 x.a, .int .i64 x.b]] w fun e w' => e = .returned (.agg #[.int .i64 x.a, .int .i64 x.b]) ∧ Below w.heap.size w w' := by
  go_enter Tryz.func197, Tryz.ntmps197
  go_wp2
  exact bodyPost_ret (v := .agg #[.int .i64 x.a, .int .i64 x.b]) (by simp [results, Tryz.results197, go_sem]) rfl ⟨rfl, bel⟩
theorem laws_toNode {x : I3} {w : World} : Calls Tryz.prog 107 #[.agg #[.int .i64 x.a, .int .i64 x.b, .int .i64 x.c]] w fun e w' => e = .returned (.agg #[.int .i64 x.a, .int .i64 x.b, .int .i64 x.c]) ∧ Below w.heap.size w w' := by
  go_enter Tryz.func107, Tryz.ntmps107
  go_wp2
  exact bodyPost_ret (v := .agg #[.int .i64 x.a, .int .i64 x.b, .int .i64 x.c]) (by simp [results, Tryz.results107, go_sem]) rfl ⟨rfl, bel⟩
theorem laws_eqTest {x : I2b} {w : World} : Calls Tryz.prog 92 #[.agg #[.int .i64 x.a, .int .i64 x.b, .bool x.c], .agg #[.int .i64 x.a, .int .i64 x.b, .bool x.c]] w fun e w' => e = .returned (.bool true) ∧ Below w.heap.size w w' := by
  go_enter Tryz.func92, Tryz.ntmps92
  go_wp2
  go_ret
  exact ⟨rfl, bel⟩
theorem laws_eqAssign {x : I2} {w : World} : Calls Tryz.prog 198 #[.agg #[.int .i64 x.a, .int .i64 x.b], .agg #[.int .i64 x.a, .int .i64 x.b]] w fun e w' => e = .returned (.bool true) ∧ Below w.heap.size w w' := by
  go_enter Tryz.func198, Tryz.ntmps198
  go_wp2
  go_ret
  exact ⟨rfl, bel⟩
theorem laws_eqNode {x : I3} {w : World} : Calls Tryz.prog 113 #[.agg #[.int .i64 x.a, .int .i64 x.b, .int .i64 x.c], .agg #[.int .i64 x.a, .int .i64 x.b, .int .i64 x.c]] w fun e w' => e = .returned (.bool true) ∧ Below w.heap.size w w' := by
  go_enter Tryz.func113, Tryz.ntmps113
  go_wp2
  go_ret
  exact ⟨rfl, bel⟩
theorem laws_szTestS {a : Option Addr} {n c : Nat} {m : Int} {w : World} (hn : (n : Int) ≤ 9223372036854775807) (hm : 0 ≤ m) (hm' : m ≤ 1048576) : Calls Tryz.prog 36 #[.slice a n c, .int .i64 m] w fun e w' => e = .returned (.int .i64 (if m < n then -1 else m - n)) ∧ w = w' := by
  by_cases h : m < (n : Int)
  · rw [if_pos h]
    have h' : m - (n : Int) < 0 := by omega
    go_enter Tryz.func36, Tryz.ntmps36
    go_wp2
    go_ret
    exact ⟨rfl, rfl⟩
  · rw [if_neg h]
    have h' : ¬ m - (n : Int) < 0 := by omega
    go_enter Tryz.func36, Tryz.ntmps36
    go_wp2
    go_ret
    exact ⟨rfl, rfl⟩
theorem laws_szAssignS {a : Option Addr} {n c : Nat} {m : Int} {w : World} (hn : (n : Int) ≤ 9223372036854775807) (hm : 0 ≤ m) (hm' : m ≤ 1048576) : Calls Tryz.prog 165 #[.slice a n c, .int .i64 m] w fun e w' => e = .returned (.int .i64 (if m < n then -1 else m - n)) ∧ w = w' := by
  by_cases h : m < (n : Int)
  · rw [if_pos h]
    have h' : m - (n : Int) < 0 := by omega
    go_enter Tryz.func165, Tryz.ntmps165
    go_wp2
    go_ret
    exact ⟨rfl, rfl⟩
  · rw [if_neg h]
    have h' : ¬ m - (n : Int) < 0 := by omega
    go_enter Tryz.func165, Tryz.ntmps165
    go_wp2
    go_ret
    exact ⟨rfl, rfl⟩
theorem Tryz.infoTest : (Tryz.prog.info? 127).map (fun i => (i.zero, i.size, i.bytes)) = some (some (.agg #[.int .i64 0, .int .i64 0, .bool false]), 3, 24) := by kernel_rfl
theorem Tryz.infoAssign : (Tryz.prog.info? 199).map (fun i => (i.zero, i.size, i.bytes)) = some (some (.agg #[.int .i64 0, .int .i64 0]), 2, 16) := by kernel_rfl
theorem Tryz.infoNode : (Tryz.prog.info? 117).map (fun i => (i.zero, i.size, i.bytes)) = some (some (.agg #[.int .i64 0, .int .i64 0, .int .i64 0]), 3, 24) := by kernel_rfl
set_option maxHeartbeats 1000000 in
theorem laws_toTestS {a : Option Addr} {n c : Nat} {l : List I2b} {w : World} (hI : F2b w a n c l) (hn : n ≤ 1048576) :
    Calls Tryz.prog 37 #[.slice a n c] w fun e w' => e = .returned (.slice (some ⟨w.heap.size, 0, none⟩) n n) ∧ Below w.heap.size w w' ∧ OwnF 3 I2b.enc I2b.ok 127 w' w.heap.size (some ⟨w.heap.size, 0, none⟩) n n l := by
  obtain ⟨i0, hi, hz0, hz1, hz2⟩ := info_parts Tryz.infoTest
  obtain ⟨w1, hmk, hown, hgr⟩ := run_make_full (P := Tryz.prog) w w.heap.size 54 127 i0 (.agg #[.int .i64 0, .int .i64 0, .bool false]) 3 Tryz.underlying54 hi hz0 hz1 .i64 .i64 n (by rw [hz2]; omega) (by unfold maxLen; omega) (Nat.le_refl _)
  have hb1 : Below w.heap.size w w1 := (Below.refl _ _).grown hgr (Nat.le_refl _) (fun k h => by cases h)
  have ho : OwnF 3 I2b.enc I2b.ok 127 w1 w.heap.size (some ⟨w.heap.size, 0, none⟩) n n (l.take 0 ++ List.replicate (n - 0) ⟨0, 0, false⟩) := by
    refine ⟨?_, fun x hx => ?_, by simp, fun _ => rfl⟩
    · rw [show n * 3 = n * (Value.cells (.agg #[.int .i64 0, .int .i64 0, .bool false])).size from rfl, flat_replicate (enc := I2b.enc) (z := ⟨0, 0, false⟩) (zc := Value.cells (.agg #[.int .i64 0, .int .i64 0, .bool false])) rfl (by decide)] at hown
      simpa using hown
    · simp at hx; rw [hx.2]; simp only [I2b.ok, I64]; omega
  have HI := Lib.hid hI
  have HO := Lib.hid ho
  clear hI ho hown hgr hi hz0 hz1 hz2
  go_enter Tryz.func37, Tryz.ntmps37
  go_wp2
  clear hmk
  go_loopw [4] (fun i wr => ∃ k : Nat, k ≤ n ∧ i = .int .i64 k ∧ Below w.heap.size w wr ∧ Hid (OwnF 3 I2b.enc I2b.ok 127 wr w.heap.size (some ⟨w.heap.size, 0, none⟩) n n (l.take k ++ List.replicate (n - k) ⟨0, 0, false⟩))) (fun i _ => n - (intOf i).toNat)
  case atStart => exact ⟨0, Nat.zero_le _, rfl, hb1, HO.out⟩
  case round =>
    obtain ⟨k, hk, rfl, hbl, hO⟩ := hrel
    by_cases hlt : k < n
    · obtain ⟨b, off, x, rfl, hb, hx, hwf, hc0, hc1, hc2⟩ := F2b.get (HI.out.keep hbl) hlt
      have Hx := Lib.hid hx
      have hne : b ≠ w.heap.size := by
        have := HI.out.pos
        rcases this with h0 | ⟨b', off', he, hb', _⟩
        · omega
        · simp at he; omega
      clear hx
      go_wp2_with fail
      refine Calls.mono (laws_toTest (x := x)) ?_
      rintro e w2 ⟨rfl, hb2⟩
      have hO2 := Lib.hid (hO.out.keep hb2)
      have hbl2 := below_call hbl hb2 hbl.size
      obtain ⟨_, _, y, h1, _, _, _, hc0', hc1', hc2'⟩ := F2b.get hO2.out.flats hlt
      simp only [Option.some.injEq, Addr.mk.injEq, and_true] at h1
      obtain ⟨rfl, rfl⟩ := h1
      simp only [Nat.zero_add] at hc0' hc1' hc2'
      have hfz := hO2.out.free
      have hlt2 := hO2.out.blk _ rfl
      clear hb2
      go_wp2
      go_roundw
      case rel => exact ⟨k + 1, by omega, by go_num, bel, by have := OwnF.set3 hO2.out hlt hwf (x := x) rfl; rw [set_fill Hx.out n HI.out.len] at this; exact this⟩
      case measure => simp [intOf]; omega
    · go_wp2
      go_ret
      have e : k = n := by omega
      have h1 := hO.out
      rw [e, take_len HI.out.len, Nat.sub_self, List.replicate_zero, List.append_nil] at h1
      exact ⟨rfl, hbl, h1⟩
set_option maxHeartbeats 1000000 in
theorem laws_toAssignS {a : Option Addr} {n c : Nat} {l : List I2} {w : World} (hI : F2 w a n c l) (hn : n ≤ 1048576) :
    Calls Tryz.prog 170 #[.slice a n c] w fun e w' => e = .returned (.slice (some ⟨w.heap.size, 0, none⟩) n n) ∧ Below w.heap.size w w' ∧ OwnF 2 I2.enc I2.ok 199 w' w.heap.size (some ⟨w.heap.size, 0, none⟩) n n l := by
  obtain ⟨i0, hi, hz0, hz1, hz2⟩ := info_parts Tryz.infoAssign
  obtain ⟨w1, hmk, hown, hgr⟩ := run_make_full (P := Tryz.prog) w w.heap.size 147 199 i0 (.agg #[.int .i64 0, .int .i64 0]) 2 Tryz.underlying147 hi hz0 hz1 .i64 .i64 n (by rw [hz2]; omega) (by unfold maxLen; omega) (Nat.le_refl _)
  have hb1 : Below w.heap.size w w1 := (Below.refl _ _).grown hgr (Nat.le_refl _) (fun k h => by cases h)
  have ho : OwnF 2 I2.enc I2.ok 199 w1 w.heap.size (some ⟨w.heap.size, 0, none⟩) n n (l.take 0 ++ List.replicate (n - 0) ⟨0, 0⟩) := by
    refine ⟨?_, fun x hx => ?_, by simp, fun _ => rfl⟩
    · rw [show n * 2 = n * (Value.cells (.agg #[.int .i64 0, .int .i64 0])).size from rfl, flat_replicate (enc := I2.enc) (z := ⟨0, 0⟩) (zc := Value.cells (.agg #[.int .i64 0, .int .i64 0])) rfl (by decide)] at hown
      simpa using hown
    · simp at hx; rw [hx.2]; simp only [I2.ok, I64]; omega
  have HI := Lib.hid hI
  have HO := Lib.hid ho
  clear hI ho hown hgr hi hz0 hz1 hz2
  go_enter Tryz.func170, Tryz.ntmps170
  go_wp2
  clear hmk
  go_loopw [4] (fun i wr => ∃ k : Nat, k ≤ n ∧ i = .int .i64 k ∧ Below w.heap.size w wr ∧ Hid (OwnF 2 I2.enc I2.ok 199 wr w.heap.size (some ⟨w.heap.size, 0, none⟩) n n (l.take k ++ List.replicate (n - k) ⟨0, 0⟩))) (fun i _ => n - (intOf i).toNat)
  case atStart => exact ⟨0, Nat.zero_le _, rfl, hb1, HO.out⟩
  case round =>
    obtain ⟨k, hk, rfl, hbl, hO⟩ := hrel
    by_cases hlt : k < n
    · obtain ⟨b, off, x, rfl, hb, hx, hwf, hc0, hc1⟩ := F2.get (HI.out.keep hbl) hlt
      have Hx := Lib.hid hx
      have hne : b ≠ w.heap.size := by
        have := HI.out.pos
        rcases this with h0 | ⟨b', off', he, hb', _⟩
        · omega
        · simp at he; omega
      clear hx
      go_wp2_with fail
      refine Calls.mono (laws_toAssign (x := x)) ?_
      rintro e w2 ⟨rfl, hb2⟩
      have hO2 := Lib.hid (hO.out.keep hb2)
      have hbl2 := below_call hbl hb2 hbl.size
      obtain ⟨_, _, y, h1, _, _, _, hc0', hc1'⟩ := F2.get hO2.out.flats hlt
      simp only [Option.some.injEq, Addr.mk.injEq, and_true] at h1
      obtain ⟨rfl, rfl⟩ := h1
      simp only [Nat.zero_add] at hc0' hc1'
      have hfz := hO2.out.free
      have hlt2 := hO2.out.blk _ rfl
      clear hb2
      go_wp2
      go_roundw
      case rel => exact ⟨k + 1, by omega, by go_num, bel, by have := OwnF.set2 hO2.out hlt hwf (x := x) rfl; rw [set_fill Hx.out n HI.out.len] at this; exact this⟩
      case measure => simp [intOf]; omega
    · go_wp2
      go_ret
      have e : k = n := by omega
      have h1 := hO.out
      rw [e, take_len HI.out.len, Nat.sub_self, List.replicate_zero, List.append_nil] at h1
      exact ⟨rfl, hbl, h1⟩
set_option maxHeartbeats 1000000 in
theorem laws_toNodeS {a : Option Addr} {n c : Nat} {l : List I3} {w : World} (hI : F3 w a n c l) (hn : n ≤ 1048576) :
    Calls Tryz.prog 52 #[.slice a n c] w fun e w' => e = .returned (.slice (some ⟨w.heap.size, 0, none⟩) n n) ∧ Below w.heap.size w w' ∧ OwnF 3 I3.enc I3.ok 117 w' w.heap.size (some ⟨w.heap.size, 0, none⟩) n n l := by
  obtain ⟨i0, hi, hz0, hz1, hz2⟩ := info_parts Tryz.infoNode
  obtain ⟨w1, hmk, hown, hgr⟩ := run_make_full (P := Tryz.prog) w w.heap.size 38 117 i0 (.agg #[.int .i64 0, .int .i64 0, .int .i64 0]) 3 Tryz.underlying38 hi hz0 hz1 .i64 .i64 n (by rw [hz2]; omega) (by unfold maxLen; omega) (Nat.le_refl _)
  have hb1 : Below w.heap.size w w1 := (Below.refl _ _).grown hgr (Nat.le_refl _) (fun k h => by cases h)
  have ho : OwnF 3 I3.enc I3.ok 117 w1 w.heap.size (some ⟨w.heap.size, 0, none⟩) n n (l.take 0 ++ List.replicate (n - 0) ⟨0, 0, 0⟩) := by
    refine ⟨?_, fun x hx => ?_, by simp, fun _ => rfl⟩
    · rw [show n * 3 = n * (Value.cells (.agg #[.int .i64 0, .int .i64 0, .int .i64 0])).size from rfl, flat_replicate (enc := I3.enc) (z := ⟨0, 0, 0⟩) (zc := Value.cells (.agg #[.int .i64 0, .int .i64 0, .int .i64 0])) rfl (by decide)] at hown
      simpa using hown
    · simp at hx; rw [hx.2]; simp only [I3.ok, I64]; omega
  have HI := Lib.hid hI
  have HO := Lib.hid ho
  clear hI ho hown hgr hi hz0 hz1 hz2
  go_enter Tryz.func52, Tryz.ntmps52
  go_wp2
  clear hmk
  go_loopw [4] (fun i wr => ∃ k : Nat, k ≤ n ∧ i = .int .i64 k ∧ Below w.heap.size w wr ∧ Hid (OwnF 3 I3.enc I3.ok 117 wr w.heap.size (some ⟨w.heap.size, 0, none⟩) n n (l.take k ++ List.replicate (n - k) ⟨0, 0, 0⟩))) (fun i _ => n - (intOf i).toNat)
  case atStart => exact ⟨0, Nat.zero_le _, rfl, hb1, HO.out⟩
  case round =>
    obtain ⟨k, hk, rfl, hbl, hO⟩ := hrel
    by_cases hlt : k < n
    · obtain ⟨b, off, x, rfl, hb, hx, hwf, hc0, hc1, hc2⟩ := F3.get (HI.out.keep hbl) hlt
      have Hx := Lib.hid hx
      have hne : b ≠ w.heap.size := by
        have := HI.out.pos
        rcases this with h0 | ⟨b', off', he, hb', _⟩
        · omega
        · simp at he; omega
      clear hx
      go_wp2_with fail
      refine Calls.mono (laws_toNode (x := x)) ?_
      rintro e w2 ⟨rfl, hb2⟩
      have hO2 := Lib.hid (hO.out.keep hb2)
      have hbl2 := below_call hbl hb2 hbl.size
      obtain ⟨_, _, y, h1, _, _, _, hc0', hc1', hc2'⟩ := F3.get hO2.out.flats hlt
      simp only [Option.some.injEq, Addr.mk.injEq, and_true] at h1
      obtain ⟨rfl, rfl⟩ := h1
      simp only [Nat.zero_add] at hc0' hc1' hc2'
      have hfz := hO2.out.free
      have hlt2 := hO2.out.blk _ rfl
      clear hb2
      go_wp2
      go_roundw
      case rel => exact ⟨k + 1, by omega, by go_num, bel, by have := OwnF.set3 hO2.out hlt hwf (x := x) rfl; rw [set_fill Hx.out n HI.out.len] at this; exact this⟩
      case measure => simp [intOf]; omega
    · go_wp2
      go_ret
      have e : k = n := by omega
      have h1 := hO.out
      rw [e, take_len HI.out.len, Nat.sub_self, List.replicate_zero, List.append_nil] at h1
      exact ⟨rfl, hbl, h1⟩
set_option maxHeartbeats 2000000 in
theorem laws_eqTestS {a a' : Option Addr} {n c c' : Nat} {l : List I2b} {w : World} (hI : F2b w a n c l) (hI' : F2b w a' n c' l) (hn : n ≤ 1048576) :
    Calls Tryz.prog 38 #[.slice a n c, .slice a' n c'] w fun e w' => e = .returned (.bool true) ∧ Below w.heap.size w w' := by
  have HI := Lib.hid hI
  have HI' := Lib.hid hI'
  clear hI hI'
  have hq : ((n : Int) != (n : Int)) = false := by simp
  go_enter Tryz.func38, Tryz.ntmps38
  go_wp2
  go_loopw [5] (fun i wr => ∃ k : Nat, k ≤ n ∧ i = .int .i64 k ∧ Below w.heap.size w wr) (fun i _ => n - (intOf i).toNat)
  case atStart => exact ⟨0, Nat.zero_le _, rfl, Below.refl _ _⟩
  case round =>
    obtain ⟨k, hk, rfl, hbl⟩ := hrel
    by_cases hlt : k < n
    · obtain ⟨b, off, x, rfl, hb, hx, hwf, hc0, hc1, hc2⟩ := F2b.get (HI.out.keep hbl) hlt
      obtain ⟨b', off', x', rfl, hb', hx', _, hc0', hc1', hc2'⟩ := F2b.get (HI'.out.keep hbl) hlt
      obtain rfl : x = x' := by rw [hx] at hx'; simpa using hx'
      clear hx hx' 
      have hlt' : (k : Int) < (n : Int) := by omega
      have hpos : (0 : Int) ≤ (k : Int) := by omega
      go_wp2
      go_region_held3 (fun wx => wx.cell? ⟨b, off + k * 3, none⟩ = some (.int .i64 x.a) ∧ wx.cell? ⟨b, off + k * 3 + 1, none⟩ = some (.int .i64 x.b) ∧ wx.cell? ⟨b, off + k * 3 + 2, none⟩ = some (.bool x.c) ∧ wx.cell? ⟨b', off' + k * 3, none⟩ = some (.int .i64 x.a) ∧ wx.cell? ⟨b', off' + k * 3 + 1, none⟩ = some (.int .i64 x.b) ∧ wx.cell? ⟨b', off' + k * 3 + 2, none⟩ = some (.bool x.c) ∧ b < wx.heap.size ∧ b' < wx.heap.size ∧ Below w.heap.size w wx) (((try go_split_ands); (repeat' apply And.intro) <;> first | assumption | exact Blk.keep (by assumption) hbx | exact Blk.drew (by assumption) | exact Blk.drew (Blk.made _ _ _) | exact Below.drew (by assumption) | exact Below.drew (below_allocS (by first | exact Below.refl _ _ | assumption) _) | exact below_callS (by assumption) hbx | exact below_call (by assumption) hbx (Below.size (by assumption)) | exact (hcx _ _ (by assumption)).trans (by assumption) | omega | (simp [*]; done) | (simp; omega))) (first | (go_at_call 92; refine Calls.mono (laws_eqTest (x := x)) ?_; rintro e wx2 ⟨rfl, hbx⟩; obtain ⟨hcx, hfx⟩ := bcell hbx; have hsx := hbx.size))
      go_split_ands
      go_wp2
      go_roundw
      case rel => exact ⟨k + 1, by omega, by go_num, by assumption⟩
      case measure => simp [intOf]; omega
    · go_wp2
      go_ret
      exact ⟨rfl, hbl⟩
set_option maxHeartbeats 2000000 in
theorem laws_eqAssignS {a a' : Option Addr} {n c c' : Nat} {l : List I2} {w : World} (hI : F2 w a n c l) (hI' : F2 w a' n c' l) (hn : n ≤ 1048576) :
    Calls Tryz.prog 176 #[.slice a n c, .slice a' n c'] w fun e w' => e = .returned (.bool true) ∧ Below w.heap.size w w' := by
  have HI := Lib.hid hI
  have HI' := Lib.hid hI'
  clear hI hI'
  have hq : ((n : Int) != (n : Int)) = false := by simp
  go_enter Tryz.func176, Tryz.ntmps176
  go_wp2
  go_loopw [5] (fun i wr => ∃ k : Nat, k ≤ n ∧ i = .int .i64 k ∧ Below w.heap.size w wr) (fun i _ => n - (intOf i).toNat)
  case atStart => exact ⟨0, Nat.zero_le _, rfl, Below.refl _ _⟩
  case round =>
    obtain ⟨k, hk, rfl, hbl⟩ := hrel
    by_cases hlt : k < n
    · obtain ⟨b, off, x, rfl, hb, hx, hwf, hc0, hc1⟩ := F2.get (HI.out.keep hbl) hlt
      obtain ⟨b', off', x', rfl, hb', hx', _, hc0', hc1'⟩ := F2.get (HI'.out.keep hbl) hlt
      obtain rfl : x = x' := by rw [hx] at hx'; simpa using hx'
      clear hx hx' 
      have hlt' : (k : Int) < (n : Int) := by omega
      have hpos : (0 : Int) ≤ (k : Int) := by omega
      go_wp2
      go_region_held3 (fun wx => wx.cell? ⟨b, off + k * 2, none⟩ = some (.int .i64 x.a) ∧ wx.cell? ⟨b, off + k * 2 + 1, none⟩ = some (.int .i64 x.b) ∧ wx.cell? ⟨b', off' + k * 2, none⟩ = some (.int .i64 x.a) ∧ wx.cell? ⟨b', off' + k * 2 + 1, none⟩ = some (.int .i64 x.b) ∧ b < wx.heap.size ∧ b' < wx.heap.size ∧ Below w.heap.size w wx) (((try go_split_ands); (repeat' apply And.intro) <;> first | assumption | exact Blk.keep (by assumption) hbx | exact Blk.drew (by assumption) | exact Blk.drew (Blk.made _ _ _) | exact Below.drew (by assumption) | exact Below.drew (below_allocS (by first | exact Below.refl _ _ | assumption) _) | exact below_callS (by assumption) hbx | exact below_call (by assumption) hbx (Below.size (by assumption)) | exact (hcx _ _ (by assumption)).trans (by assumption) | omega | (simp [*]; done) | (simp; omega))) (first | (go_at_call 198; refine Calls.mono (laws_eqAssign (x := x)) ?_; rintro e wx2 ⟨rfl, hbx⟩; obtain ⟨hcx, hfx⟩ := bcell hbx; have hsx := hbx.size))
      go_split_ands
      go_wp2
      go_roundw
      case rel => exact ⟨k + 1, by omega, by go_num, by assumption⟩
      case measure => simp [intOf]; omega
    · go_wp2
      go_ret
      exact ⟨rfl, hbl⟩
set_option maxHeartbeats 2000000 in
theorem laws_eqNodeS {a a' : Option Addr} {n c c' : Nat} {l : List I3} {w : World} (hI : F3 w a n c l) (hI' : F3 w a' n c' l) (hn : n ≤ 1048576) :
    Calls Tryz.prog 56 #[.slice a n c, .slice a' n c'] w fun e w' => e = .returned (.bool true) ∧ Below w.heap.size w w' := by
  have HI := Lib.hid hI
  have HI' := Lib.hid hI'
  clear hI hI'
  have hq : ((n : Int) != (n : Int)) = false := by simp
  go_enter Tryz.func56, Tryz.ntmps56
  go_wp2
  go_loopw [5] (fun i wr => ∃ k : Nat, k ≤ n ∧ i = .int .i64 k ∧ Below w.heap.size w wr) (fun i _ => n - (intOf i).toNat)
  case atStart => exact ⟨0, Nat.zero_le _, rfl, Below.refl _ _⟩
  case round =>
    obtain ⟨k, hk, rfl, hbl⟩ := hrel
    by_cases hlt : k < n
    · obtain ⟨b, off, x, rfl, hb, hx, hwf, hc0, hc1, hc2⟩ := F3.get (HI.out.keep hbl) hlt
      obtain ⟨b', off', x', rfl, hb', hx', _, hc0', hc1', hc2'⟩ := F3.get (HI'.out.keep hbl) hlt
      obtain rfl : x = x' := by rw [hx] at hx'; simpa using hx'
      clear hx hx' 
      have hlt' : (k : Int) < (n : Int) := by omega
      have hpos : (0 : Int) ≤ (k : Int) := by omega
      go_wp2
      go_region_held3 (fun wx => wx.cell? ⟨b, off + k * 3, none⟩ = some (.int .i64 x.a) ∧ wx.cell? ⟨b, off + k * 3 + 1, none⟩ = some (.int .i64 x.b) ∧ wx.cell? ⟨b, off + k * 3 + 2, none⟩ = some (.int .i64 x.c) ∧ wx.cell? ⟨b', off' + k * 3, none⟩ = some (.int .i64 x.a) ∧ wx.cell? ⟨b', off' + k * 3 + 1, none⟩ = some (.int .i64 x.b) ∧ wx.cell? ⟨b', off' + k * 3 + 2, none⟩ = some (.int .i64 x.c) ∧ b < wx.heap.size ∧ b' < wx.heap.size ∧ Below w.heap.size w wx) (((try go_split_ands); (repeat' apply And.intro) <;> first | assumption | exact Blk.keep (by assumption) hbx | exact Blk.drew (by assumption) | exact Blk.drew (Blk.made _ _ _) | exact Below.drew (by assumption) | exact Below.drew (below_allocS (by first | exact Below.refl _ _ | assumption) _) | exact below_callS (by assumption) hbx | exact below_call (by assumption) hbx (Below.size (by assumption)) | exact (hcx _ _ (by assumption)).trans (by assumption) | omega | (simp [*]; done) | (simp; omega))) (first | (go_at_call 113; refine Calls.mono (laws_eqNode (x := x)) ?_; rintro e wx2 ⟨rfl, hbx⟩; obtain ⟨hcx, hfx⟩ := bcell hbx; have hsx := hbx.size))
      go_split_ands
      go_wp2
      go_roundw
      case rel => exact ⟨k + 1, by omega, by go_num, by assumption⟩
      case measure => simp [intOf]; omega
    · go_wp2
      go_ret
      exact ⟨rfl, hbl⟩
set_option maxHeartbeats 1000000 in
theorem slices_IndexFunc_Test {g : Nat} {lb : Array Value} {p : I2b → Bool} {a : Option Addr} {n c : Nat} {l : List I2b} {w : World}
    (eg : ∀ args w, (callFunc g args).run Tryz.prog w = .ok (.enter g args) w) (hp : PredF Tryz.prog g lb I2b.enc I2b.ok p w) (hI : F2b w a n c l) (hn : n ≤ 1048576) :
    Calls Tryz.prog 192 #[.slice a n c, .func (.func g) #[] lb] w fun e w' => e = .returned (.int .i64 (idxF p l)) ∧ Below w.heap.size w w' := by
  have HP := Lib.hid hp
  clear hp
  go_enter Tryz.func192, Tryz.ntmps192
  go_wp2
  go_loopg [5, 8] n (fun gg _ s8 wr => ∃ kk : Nat, kk ≤ n ∧ n - kk ≤ gg ∧ s8 = .int .i64 kk ∧ Below w.heap.size w wr ∧ Hid ((l.take kk).any p = false))
  case atStart => exact ⟨0, Nat.zero_le _, by omega, rfl, Below.refl _ _, rfl⟩
  case round =>
    obtain ⟨kk, hkk, hg, rfl, hbl, A⟩ := hrel
    have HI := Lib.hid hI
    by_cases hlt : kk < n
    · obtain ⟨b, off, x, rfl, hb, hx, hwf, hc0, hc1, hc2⟩ := F2b.get (hI.keep hbl) hlt
      have Hx := Lib.hid hx
      have hcall := HP.out _ x hwf hbl
      clear hx hI
      cases hq : p x with
      | true =>
        have Hq := Lib.hid hq
        rw [hq] at hcall
        clear hq
        go_wp2_with (go_at_fn g; refine hcall.mono ?_; rintro e w1 ⟨rfl, hb1⟩)
        go_ret
        exact ⟨ret_int (by rw [idxF_hit Hx.out Hq.out A.out]), below_call hbl hb1 hbl.size⟩
      | false =>
        have Hq := Lib.hid hq
        rw [hq] at hcall
        clear hq
        go_wp2_with (go_at_fn g; refine hcall.mono ?_; rintro e w1 ⟨rfl, hb1⟩)
        go_roundg (n - (kk + 1))
        case measure => omega
        case rel => exact ⟨kk + 1, by omega, by omega, by go_num, below_call hbl hb1 hbl.size, any_take_step Hx.out A.out Hq.out⟩
    · clear hI
      go_wp2
      go_ret
      have e : l.take kk = l := take_len (by have := HI.out.len; omega)
      have h1 := A.out
      rw [e] at h1
      exact ⟨ret_int (by rw [idxF_miss h1]), hbl⟩
theorem slices_ContainsFunc_Test {g : Nat} {lb : Array Value} {p : I2b → Bool} {a : Option Addr} {n c : Nat} {l : List I2b} {w : World}
    (eg : ∀ args w, (callFunc g args).run Tryz.prog w = .ok (.enter g args) w) (hp : PredF Tryz.prog g lb I2b.enc I2b.ok p w) (hI : F2b w a n c l) (hn : n ≤ 1048576) :
    Calls Tryz.prog 142 #[.slice a n c, .func (.func g) #[] lb] w fun e w' => e = .returned (.bool (l.any p)) ∧ Below w.heap.size w w' := by
  have h := idxF_nonneg p l
  have hc := slices_IndexFunc_Test eg hp hI hn
  generalize idxF p l = r at h hc
  have H := Lib.hid h
  have HI := Lib.hid hI
  have HP := Lib.hid hp
  clear h hI hp
  go_enter Tryz.func142, Tryz.ntmps142
  go_wp2_with fail
  refine Calls.mono hc ?_
  rintro e w1 ⟨rfl, hb1⟩
  go_wp2
  go_ret
  exact ⟨ret_bool H.out, hb1⟩
set_option maxHeartbeats 1000000 in
theorem laws_markAssignS {a : Option Addr} {n c base : Nat} {l : List I2} {q : Int} {w : World} (hI : OwnF 2 I2.enc I2.ok 199 w base a n c l) (hn : n ≤ 1048576) (hq0 : 0 ≤ q) (hq1 : q ≤ 1099511627776) :
    Calls Tryz.prog 116 #[.slice a n c, .int .i64 q] w fun e w' => e = .returned (.int .i64 (q + 2 * n)) ∧ Touch w w' n a ∧ OwnF 2 I2.enc I2.ok 199 w' base a n c (marks2 q n) := by
  by_cases hn0 : n = 0
  · subst hn0
    have HI := Lib.hid hI
    have hl : l = marks2 q 0 := by have := hI.len; cases l with | nil => rfl | cons => simp at this
    subst hl
    clear hI
    go_enter Tryz.func116, Tryz.ntmps116
    go_wp2
    go_loopw [1, 5] (fun s1 s5 wr => s1 = .int .i64 q ∧ s5 = .int .i64 0 ∧ wr = w) (fun _ _ _ => 0)
    case atStart => exact ⟨rfl, rfl, rfl⟩
    case round =>
      obtain ⟨rfl, rfl, rfl⟩ := hrel
      go_wp2
      go_ret
      exact ⟨ret_int (by omega), ⟨none, grownBy_refl _ _, fun _ h => by cases h⟩, HI.out⟩
  · obtain ⟨g, rfl⟩ := hI.shape (by omega)
    have HI := Lib.hid (show OwnF 2 I2.enc I2.ok 199 w base (some ⟨g, 0, none⟩) n c ((marks2 q n).take 0 ++ l.drop 0) by simpa using hI)
    have hlen := hI.len
    have Hlen := Lib.hid hlen
    clear hI hlen
    go_enter Tryz.func116, Tryz.ntmps116
    go_wp2
    go_loopw [1, 5] (fun s1 s5 wr => ∃ j : Nat, j ≤ n ∧ s1 = .int .i64 (q + 2 * j) ∧ s5 = .int .i64 j ∧ w.grownBy wr (some g) ∧ Hid (OwnF 2 I2.enc I2.ok 199 wr base (some ⟨g, 0, none⟩) n c ((marks2 q n).take j ++ l.drop j))) (fun _ s5 _ => n - (intOf s5).toNat)
    case atStart => exact ⟨0, Nat.zero_le _, by simp, rfl, grownBy_refl _ _, HI.out⟩
    case round =>
      obtain ⟨j, hj, rfl, rfl, hg, hO⟩ := hrel
      by_cases hlt : j < n
      · obtain ⟨_, _, y, h1, _, _, _, hc0, hc1⟩ := F2.get hO.out.flats hlt
        simp only [Option.some.injEq, Addr.mk.injEq, and_true] at h1
        obtain ⟨rfl, rfl⟩ := h1
        simp only [Nat.zero_add] at hc0 hc1
        have hfz := hO.out.free
        go_wp2
        go_roundw
        case rel =>
          refine ⟨j + 1, by omega, by go_num, by go_num, ?_, ?_⟩
          · repeat (first | exact hg | refine grownBy_set ?_ _ _)
          · have := OwnF.set2 hO.out hlt (x := ⟨q + 2 * (j : Int), q + 2 * (j : Int) + 1⟩) (by simp only [I2.ok, I64]; omega) rfl
            rw [show (⟨q + 2 * (j : Int), q + 2 * (j : Int) + 1⟩ : I2) = (fun i : Nat => (⟨q + 2 * (i : Int), q + 2 * (i : Int) + 1⟩ : I2)) j from rfl, marks2, mix_set hlt Hlen.out] at this
            exact this
        case measure => simp [intOf]; omega
      · go_wp2
        go_ret
        have e : j = n := by omega
        have h1 := hO.out
        rw [e, List.drop_of_length_le (by have := Hlen.out; omega), List.append_nil, List.take_of_length_le (by simp [marks2])] at h1
        exact ⟨ret_int (by rw [e]), ⟨_, hg, fun b hb => by cases hb; exact ⟨by omega, rfl⟩⟩, h1⟩
set_option maxHeartbeats 1000000 in
theorem laws_markNodeS {a : Option Addr} {n c base : Nat} {l : List I3} {q : Int} {w : World} (hI : OwnF 3 I3.enc I3.ok 117 w base a n c l) (hn : n ≤ 1048576) (hq0 : 0 ≤ q) (hq1 : q ≤ 1099511627776) :
    Calls Tryz.prog 59 #[.slice a n c, .int .i64 q] w fun e w' => e = .returned (.int .i64 (q + 3 * n)) ∧ Touch w w' n a ∧ OwnF 3 I3.enc I3.ok 117 w' base a n c (marks3 q n) := by
  by_cases hn0 : n = 0
  · subst hn0
    have HI := Lib.hid hI
    have hl : l = marks3 q 0 := by have := hI.len; cases l with | nil => rfl | cons => simp at this
    subst hl
    clear hI
    go_enter Tryz.func59, Tryz.ntmps59
    go_wp2
    go_loopw [1, 5] (fun s1 s5 wr => s1 = .int .i64 q ∧ s5 = .int .i64 0 ∧ wr = w) (fun _ _ _ => 0)
    case atStart => exact ⟨rfl, rfl, rfl⟩
    case round =>
      obtain ⟨rfl, rfl, rfl⟩ := hrel
      go_wp2
      go_ret
      exact ⟨ret_int (by omega), ⟨none, grownBy_refl _ _, fun _ h => by cases h⟩, HI.out⟩
  · obtain ⟨g, rfl⟩ := hI.shape (by omega)
    have HI := Lib.hid (show OwnF 3 I3.enc I3.ok 117 w base (some ⟨g, 0, none⟩) n c ((marks3 q n).take 0 ++ l.drop 0) by simpa using hI)
    have hlen := hI.len
    have Hlen := Lib.hid hlen
    clear hI hlen
    go_enter Tryz.func59, Tryz.ntmps59
    go_wp2
    go_loopw [1, 5] (fun s1 s5 wr => ∃ j : Nat, j ≤ n ∧ s1 = .int .i64 (q + 3 * j) ∧ s5 = .int .i64 j ∧ w.grownBy wr (some g) ∧ Hid (OwnF 3 I3.enc I3.ok 117 wr base (some ⟨g, 0, none⟩) n c ((marks3 q n).take j ++ l.drop j))) (fun _ s5 _ => n - (intOf s5).toNat)
    case atStart => exact ⟨0, Nat.zero_le _, by simp, rfl, grownBy_refl _ _, HI.out⟩
    case round =>
      obtain ⟨j, hj, rfl, rfl, hg, hO⟩ := hrel
      by_cases hlt : j < n
      · obtain ⟨_, _, y, h1, _, _, _, hc0, hc1, hc2⟩ := F3.get hO.out.flats hlt
        simp only [Option.some.injEq, Addr.mk.injEq, and_true] at h1
        obtain ⟨rfl, rfl⟩ := h1
        simp only [Nat.zero_add] at hc0 hc1 hc2
        have hfz := hO.out.free
        go_wp2
        go_roundw
        case rel =>
          refine ⟨j + 1, by omega, by go_num, by go_num, ?_, ?_⟩
          · repeat (first | exact hg | refine grownBy_set ?_ _ _)
          · have := OwnF.set3 hO.out hlt (x := ⟨q + 3 * (j : Int), q + 3 * (j : Int) + 1, q + 3 * (j : Int) + 1 + 1⟩) (by simp only [I3.ok, I64]; omega) rfl
            rw [show (⟨q + 3 * (j : Int), q + 3 * (j : Int) + 1, q + 3 * (j : Int) + 1 + 1⟩ : I3) = (fun i : Nat => (⟨q + 3 * (i : Int), q + 3 * (i : Int) + 1, q + 3 * (i : Int) + 1 + 1⟩ : I3)) j from rfl, marks3, mix_set hlt Hlen.out] at this
            exact this
        case measure => simp [intOf]; omega
      · go_wp2
        go_ret
        have e : j = n := by omega
        have h1 := hO.out
        rw [e, List.drop_of_length_le (by have := Hlen.out; omega), List.append_nil, List.take_of_length_le (by simp [marks3])] at h1
        exact ⟨ret_int (by rw [e]), ⟨_, hg, fun b hb => by cases hb; exact ⟨by omega, rfl⟩⟩, h1⟩
set_option maxHeartbeats 1000000 in
theorem laws_heldNodeS {a : Option Addr} {n c : Nat} {q : Int} {w : World} (hI : F3 w a n c (marks3 q n)) (hn : n ≤ 1048576) (hq0 : 0 ≤ q) (hq1 : q ≤ 1099511627776) :
    Calls Tryz.prog 71 #[.slice a n c, .int .i64 q] w fun e w' => e = .returned (.int .i64 (q + 3 * n)) ∧ w = w' := by
  have HI := Lib.hid hI
  clear hI
  go_enter Tryz.func71, Tryz.ntmps71
  go_wp2
  go_loop [1, 5] (fun s1 s5 => ∃ j : Nat, j ≤ n ∧ s1 = .int .i64 (q + 3 * j) ∧ s5 = .int .i64 j) (fun _ s5 => n - (intOf s5).toNat)
  case atStart => exact ⟨0, Nat.zero_le _, by simp, rfl⟩
  case round =>
    obtain ⟨j, hj, rfl, rfl⟩ := hrel
    by_cases hlt : j < n
    · obtain ⟨b, off, x, rfl, hb, hx, hwf, hc0, hc1, hc2⟩ := F3.get HI.out hlt
      rw [marks3, range_get hlt] at hx
      simp only [Option.some.injEq] at hx
      subst hx
      go_wp2
      go_round
      case rel => exact ⟨j + 1, by omega, by go_num, by go_num⟩
      case measure => simp [intOf]; omega
    · go_wp2
      go_ret
      have e : j = n := by omega
      exact ⟨ret_int (by rw [e]), rfl⟩
end Go.Proofs.YtkaikbaagajckaaGreat
