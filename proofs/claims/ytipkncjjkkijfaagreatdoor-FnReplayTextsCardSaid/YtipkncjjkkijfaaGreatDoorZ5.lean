/- A run of a replay: the reference, walked.; RunReplay and the draw of a replay: the reference, walked. -/
import Derived.Test.YtipkncjjkkijfaaGreatDoorQc
import Derived.Test.YtipkncjjkkijfaaGreatDoorPv
import Derived.Test.YtipkncjjkkijfaaGreatDoorQe
namespace Go.Proofs.YtipkncjjkkijfaaGreatDoor
open Go.RowKit
set_option linter.unusedVariables false
set_option linter.unusedSimpArgs false
attribute [local go_sem ↓] Go.wp_at_zero Go.wp_at_succ
theorem rpC_traf {b : Int} {l : List Int} {evs : List I3} (h : rpC b l evs = 0) : trafB b l = true := by
  cases ht : trafB b l with
  | true => rfl
  | false => rw [rpC, ht, if_neg Bool.false_ne_true] at h; cases h
/-- what stands in memory between two events: the result's box, the traffic's box, its places, the statuses -/
structure RnS (B0 : Nat) (wr : World) (B n : Nat) (q h co g cs : Nat) (lo st : List Int) : Prop where
  r : Blk wr (B0 + 1) #[.int .i64 0, .slice none 0 0] 26
  o : Blk wr q #[.int .i64 (B : Int), .slice (some ⟨h, 0, none⟩) n co] 26
  p : OwnI 2 wr B0 (some ⟨h, 0, none⟩) n co lo
  s : OwnI 2 wr B0 (some ⟨g, 0, none⟩) B cs st
  hq : B0 + 2 ≤ q
  ne : h ≠ g
  t : trafB (B : Int) lo = true
theorem RnS.keep {B0 : Nat} {wr wr' : World} {B n q h co g cs : Nat} {lo st : List Int} (H : RnS B0 wr B n q h co g cs lo st) (hb : Below wr.heap.size wr wr') : RnS B0 wr' B n q h co g cs lo st :=
  ⟨H.r.keep hb, H.o.keep hb, H.p.keep hb, H.s.keep hb, H.hq, H.ne, H.t⟩
theorem OwnI.ty9 {E : TypeId} {w : World} {base g : Nat} {n c : Nat} {l : List Int} (h : OwnI E w base (some ⟨g, 0, none⟩) n c l) : ∃ cur, w.heap[g]? = some (.cells cur E (0, 0)) := h.f1.ty9 rfl
theorem RnS.gne {B0 : Nat} {wr : World} {B n q h co g cs : Nat} {lo st : List Int} (H : RnS B0 wr B n q h co g cs lo st) {b : Nat} {cs' : Array Value} (hb : Blk wr b cs' 26) : b ≠ g ∧ b ≠ h := by
  constructor
  · rintro rfl
    obtain ⟨cur, h1⟩ := H.s.ty9
    rw [show _ = _ from hb] at h1
    simp only [Option.some.injEq, Obj.cells.injEq] at h1
    exact absurd h1.2.1 (by decide)
  · rintro rfl
    obtain ⟨cur, h1⟩ := H.p.ty9
    rw [show _ = _ from hb] at h1
    simp only [Option.some.injEq, Obj.cells.injEq] at h1
    exact absurd h1.2.1 (by decide)
theorem RnS.setS {B0 : Nat} {wr : World} {B n q h co g cs : Nat} {lo st : List Int} (H : RnS B0 wr B n q h co g cs lo st) (p : Nat) {x : Int} (hx : I64 x) : RnS B0 (wr.setCell ⟨g, p, none⟩ (.int .i64 x)) B n q h co g cs lo (st.set p x) := by
  have hon : Only g (g + 1) wr (wr.setCell ⟨g, p, none⟩ (.int .i64 x)) := (Only.refl _ _ wr).set ⟨Nat.le_refl _, Nat.lt_succ_self _⟩ p _
  have h1 := (H.gne H.r).1
  have h2 := (H.gne H.o).1
  have h3 := H.ne
  exact ⟨H.r.apart hon (by omega), H.o.apart hon (by omega), H.p.only hon (fun g' e => by cases e; omega), H.s.set p hx, H.hq, H.ne, H.t⟩
/-- the traffic's box is written anew -/
theorem RnS.setO {B0 : Nat} {wr : World} {B n q h co h' co' g cs : Nat} {lo lo' st : List Int} (H : RnS B0 wr B n q h co g cs lo st) (hp : OwnI 2 wr B0 (some ⟨h', 0, none⟩) n co' lo') (hg : h' ≠ g) (ht : trafB (B : Int) lo' = true) : RnS B0 ((wr.setCell ⟨q, 0, none⟩ (.int .i64 (B : Int))).setCell ⟨q, 1, none⟩ (.slice (some ⟨h', 0, none⟩) n co')) B n q h' co' g cs lo' st := by
  have hon : Only q (q + 1) wr ((wr.setCell ⟨q, 0, none⟩ (.int .i64 (B : Int))).setCell ⟨q, 1, none⟩ (.slice (some ⟨h', 0, none⟩) n co')) := ((Only.refl _ _ wr).set ⟨Nat.le_refl _, Nat.lt_succ_self _⟩ 0 _).set ⟨Nat.le_refl _, Nat.lt_succ_self _⟩ 1 _
  have h1 := (H.gne H.o).1
  have hq := H.hq
  have hh : q ≠ h' := by
    rintro rfl
    obtain ⟨cur, h1⟩ := hp.ty9
    rw [show _ = _ from H.o] at h1
    simp only [Option.some.injEq, Obj.cells.injEq] at h1
    exact absurd h1.2.1 (by decide)
  exact ⟨H.r.apart hon (by omega), (H.o.set 0 _).set 1 _, hp.only hon (fun g' e => by cases e; omega), H.s.only hon (fun g' e => by cases e; omega), hq, hg, ht⟩
theorem ev_two {b : Int} {n : Nat} {x : I3} (hv : evB b n x = true) : (x.a = 0 ∧ 0 ≤ x.b ∧ x.b < n) ∨ (x.a = 1 ∧ 0 ≤ x.b ∧ x.b < b) := by
  obtain ⟨xa, xb, xc⟩ := x
  simp only [evB, eventB] at hv
  simp only
  split at hv
  · rename_i h0
    simp [inB] at hv
    exact .inl ⟨h0, by omega, by omega⟩
  · split at hv
    · rename_i h0 h1
      simp [inB] at hv
      exact .inr ⟨h1, by omega, by omega⟩
    · cases hv
/-- the tuple that a run hands back -/
def RnRet (w : World) (e : Ending) (w' : World) : Prop := (∃ (b' : Int) (a1 a2 : Option Addr) (n1 c1 n2 c2 : Nat) (f k : Int), e = .returned (.tuple #[.agg #[.int .i64 b', .slice a1 n1 c1], .slice a2 n2 c2, .int .i64 f, .int .i64 k])) ∧ Below w.heap.size w w'
theorem results_cell_tmp3 {P : Program} {fn : Func} {p u1 u2 u3 : Tmp} {ty : TypeId} (h : fn.results = #[.cell p ty, .tmp u1, .tmp u2, .tmp u3]) (tmps : Array Value) (w : World) (g : Nat) (t : TypeId) (cs : Array Value) (d : TypeDesc)
    (hp : tmps.getD p undef = .pointer (some ⟨g, 0, none⟩)) (hg : Blk w g cs t) (v1 v2 v3 : Value) (h1 : tmps.getD u1 undef = v1) (h2 : tmps.getD u2 undef = v2) (h3 : tmps.getD u3 undef = v3)
    (hu : P.underlying ty = some d) (hd : (match d with | .struct _ | .array _ _ => true | _ => false) = true) (hi : (P.info? ty).map (·.size) = some cs.size) :
    (results fn tmps).run P w = .ok (.tuple #[.agg cs, v1, v2, v3]) w := by
  simp only [results, h]
  simp [Sem.run_bind, Result.andThen, asAddr, run_loadVar_row w g t ty cs (0, 0) d hg hu hd hi, ← h1, ← h2, ← h3, hp]
  try (rw [Array.getD_eq_getD_getElem?] at hp; simp [hp, run_loadVar_row w g t ty cs (0, 0) d hg hu hd hi])
theorem mkB {B : Nat} (h2 : 2 ≤ B) (h8 : B ≤ 8) (w : World) : (Instr.makeSlice 24 (.int .i64 (B : Int)) (.int .i64 (B : Int))).run Tryz.prog w = .ok (.slice (some ⟨w.heap.size, 0, none⟩) B B) (w.alloc (.cells (List.replicate B (Value.int .i64 0)).toArray 2)) := by
  rcases (show B = 2 ∨ B = 3 ∨ B = 4 ∨ B = 5 ∨ B = 6 ∨ B = 7 ∨ B = 8 by omega) with rfl | rfl | rfl | rfl | rfl | rfl | rfl <;> kernel_rfl
theorem own_rep {w : World} {base B : Nat} (hb : base ≤ w.heap.size) (h8 : B ≤ 8) : OwnI 2 (w.alloc (.cells (List.replicate B (Value.int .i64 0)).toArray 2)) base (some ⟨w.heap.size, 0, none⟩) B B (List.replicate B 0) :=
  OwnF.i1 (OwnF.lit w (List.replicate B 0) hb (by simp) (by omega) (fun _ => rfl) (fun x hx => by rw [(List.mem_replicate.1 hx).2]; decide) (by rw [flat_enc1, List.map_replicate]))
set_option maxRecDepth 100000 in
set_option maxHeartbeats 4000000 in
theorem spec_l25Run {b : Int} {a s : Option Addr} {n c m d : Nat} {l : List Int} {evs : List I3} {w : World} (hI : Ints w a n c l) (hS : F3 w s m d evs) (hn : n ≤ 1048576) (hm : m ≤ 1048576) :
    Calls Tryz.prog 53 #[.agg #[.int .i64 b, .slice a n c], .slice s m d] w (RnRet w) := by
  obtain ⟨wA, hwA⟩ : ∃ v, v = (w.alloc (.cells #[.int .i64 b, .slice a n c] 26)).alloc (.cells #[.int .i64 0, .slice none 0 0] 26) := ⟨_, rfl⟩
  have hb0 : Below w.heap.size w (w.alloc (.cells #[.int .i64 b, .slice a n c] 26)) := below_alloc1 (Below.refl _ _) _
  have hs0 : (w.alloc (.cells #[.int .i64 b, .slice a n c] 26)).heap.size = w.heap.size + 1 := Array.size_push _
  have hbA : Below w.heap.size w wA := by rw [hwA]; exact below_callS hb0 (below_alloc1 (Below.refl _ _) _)
  have hsA : wA.heap.size = w.heap.size + 2 := by rw [hwA]; show (Array.push _ _).size = _; rw [Array.size_push]; omega
  have XA := Lib.hid (show Blk wA w.heap.size #[.int .i64 b, .slice a n c] 26 by rw [hwA]; exact (Blk.made w _ _).keep (below_alloc1 (Below.refl _ _) _))
  have RA := Lib.hid (show Blk wA (w.heap.size + 1) #[.int .i64 0, .slice none 0 0] 26 by rw [hwA, ← hs0]; exact Blk.made _ _ _)
  have HI := Lib.hid hI
  have HS := Lib.hid hS
  have hln := hI.len
  have hsl := hS.len
  clear hI hS hb0 hs0
  have x0 := XA.out.cell 0
  have x1 := XA.out.cell 1
  have xl := XA.out.lt
  have xf := XA.out.free
  simp only [List.getElem?_toArray, List.getElem?_cons_zero, List.getElem?_cons_succ] at x0 x1
  go_enter Tryz.func53, Tryz.ntmps53
  go_upto_region 1 with fail
  rw [← hwA]
  clear hwA
  go_wp2_with fail
  refine Calls.mono (spec_l25Code (HI.out.keep hbA) (HS.out.keep hbA) hn hm) ?_
  rintro e w1 ⟨rfl, hb1⟩
  have X1 := Lib.hid (XA.out.keep hb1)
  have R1 := Lib.hid (RA.out.keep hb1)
  have B1 := below_callS hbA hb1
  have hs1 := hb1.size
  clear hb1 XA RA x0 x1 xl xf hbA
  by_cases hC : rpC b l evs = 0
  · have ht := rpC_traf hC
    obtain ⟨hb2, hb8, hl4, hm2, hall⟩ := rpC_ok hC
    rw [hC]
    clear hC
    obtain ⟨B, rfl⟩ := Int.eq_ofNat_of_zero_le (show 0 ≤ b by omega)
    have HA := Lib.hid hall
    have HT := Lib.hid ht
    have hn1 : 1 ≤ n := by have := (trafB_split ht).2.2.1; omega
    have hn4 : n ≤ 4 := by omega
    have hm200 : m ≤ 200 := by omega
    have KO := Lib.hid (fun (wx : World) (hw : Below w1.heap.size w1 wx) => spec_l01Own0 (HI.out.keep (below_callS B1 hw)) (by omega))
    clear hall ht hln hsl hl4 hm2
    go_upto_region 4 with fail
    go_cut [9] (fun s9 wx => ∃ q h co : Nat, s9 = .pointer (some ⟨q, 0, none⟩) ∧ w.heap.size + 2 ≤ q ∧ Below w.heap.size w wx ∧ Hid (Blk wx w.heap.size #[.int .i64 (B : Int), .slice a n c] 26) ∧ Hid (Blk wx (w.heap.size + 1) #[.int .i64 0, .slice none 0 0] 26) ∧ Hid (Blk wx q #[.int .i64 (B : Int), .slice (some ⟨h, 0, none⟩) n co] 26) ∧ Hid (OwnI 2 wx (w.heap.size + 2) (some ⟨h, 0, none⟩) n co l))
    case first =>
      refine wp_region_noPanic ?_
      refine wp_region_held_drew (S := fun wx => Blk wx w.heap.size #[.int .i64 (B : Int), .slice a n c] 26 ∧ Below w.heap.size w wx) (by kernel_rfl) ?_ (fun hHeld => ?_)
      · exact ⟨X1.out.keep (Below.refl _ _).drew, B1.drew⟩
      have hx : Below w1.heap.size w1 w1.drew := (Below.refl _ _).drew
      refine tkH0 0 (v := ?_) ?_ ?_
      rotate_left
      · (intro wv hSw; clear hSw; go_simp; try with_reducible rfl)
      try simp only [Act.put, s1, s2, s3]
      refine tkH0 1 (v := ?_) ?_ ?_
      rotate_left
      · (intro wv hSw; obtain ⟨hq, hq9⟩ := hSw; have q0 := hq.cell 0; have q1 := hq.cell 1; have zl := hq.lt; simp only [List.getElem?_toArray, List.getElem?_cons_zero, List.getElem?_cons_succ] at q0 q1; go_simp; try with_reducible rfl)
      try simp only [Act.put, s1, s2, s3]
      refine tkH0 2 (v := ?_) ?_ ?_
      rotate_left
      · (intro wv hSw; clear hSw; go_simp; try with_reducible rfl)
      try simp only [Act.put, s1, s2, s3]
      refine tkH0 3 (v := ?_) ?_ ?_
      rotate_left
      · (intro wv hSw; obtain ⟨hq, hq9⟩ := hSw; have q0 := hq.cell 0; have q1 := hq.cell 1; have zl := hq.lt; simp only [List.getElem?_toArray, List.getElem?_cons_zero, List.getElem?_cons_succ] at q0 q1; go_simp; try with_reducible rfl)
      try simp only [Act.put, s1, s2, s3]
      refine wpAnyH_ready (rs := [4, 6]) (by kernel_rfl) (by simp) ?_
      refine AllReadyH.cons rfl (fun K hK => ?_) (AllReadyH.cons rfl (fun K hK => ?_) AllReadyH.nil)
      · go_simp
        refine Calls.mono (KO.out _ hx) ?_
        rintro e w2 ⟨a2, c2, rfl, hbn, ho⟩
        obtain ⟨h, rfl⟩ : ∃ g, a2 = some ⟨g, 0, none⟩ := by
          rcases ho.1.2 with ⟨_, h0⟩ | ⟨g, cap, cur, he, _⟩
          · omega
          · simp only [Value.slice.injEq] at he; exact ⟨g, he.1⟩
        have O2 := Lib.hid (ho.le (show w.heap.size + 2 ≤ _ by have := hx.size; first | omega | (simp at this ⊢; omega)))
        replace hx := below_callS hx hbn
        clear ho hbn hHeld
        go_wp2_with fail
        refine hK.out _ _ ⟨X1.out.keep hx, below_callS B1 hx⟩ (fun hHeld => ?_)
        clear hK K
        try simp only [Act.put, s1, s2, s3]
        refine tkH0 5 (v := ?_) ?_ ?_
        rotate_left
        · (intro wv hSw; clear hSw; go_simp; try with_reducible rfl)
        try simp only [Act.put, s1, s2, s3]
        refine wpAnyH_ready (rs := [6]) (by kernel_rfl) (by simp) ?_
        refine AllReadyH.cons rfl (fun K hK => ?_) AllReadyH.nil
        go_simp
        obtain ⟨w3, hw3⟩ : ∃ v, v = w2.alloc (.cells #[.int .i64 0, .slice none 0 0] 26) := ⟨_, rfl⟩
        have hb3 : Below w2.heap.size w2 w3 := by rw [hw3]; exact below_alloc1 (Below.refl _ _) _
        have Q := Lib.hid (show Blk w3 w2.heap.size #[.int .i64 0, .slice none 0 0] 26 by rw [hw3]; exact Blk.made _ _ _)
        have hq2 := hx.size
        replace O2 := Lib.hid (O2.out.keep hb3)
        replace hx := below_callS hx hb3
        rw [← hw3]
        clear hw3 hb3 hHeld
        generalize w2.heap.size = q at *
        go_wp2_with fail
        refine hK.out _ _ ⟨X1.out.keep hx, below_callS B1 hx⟩ (fun hHeld => ?_)
        clear hK K
        try simp only [Act.put, s1, s2, s3]
        have hq3 : w.heap.size + 2 ≤ q := by omega
        have r0 := Q.out.cell 0
        have r1 := Q.out.cell 1
        have rl := Q.out.lt
        have rf := Q.out.free
        simp only [List.getElem?_toArray, List.getElem?_cons_zero, List.getElem?_cons_succ] at r0 r1
        refine wpAnyH_ready (rs := [7]) (by kernel_rfl) (by simp) ?_
        refine AllReadyH.cons rfl (fun K hK => ?_) AllReadyH.nil
        go_simp
        have hon : Only q (q + 1) w3 ((World.setCell w3 ⟨q, 0, none⟩ (.int .i64 (B : Int))).setCell ⟨q, 1, none⟩ (.slice (some ⟨h, 0, none⟩) n c2)) := ((Only.refl _ _ w3).set ⟨Nat.le_refl _, Nat.lt_succ_self _⟩ 0 _).set ⟨Nat.le_refl _, Nat.lt_succ_self _⟩ 1 _
        have hne : h ≠ q := by
          rintro rfl
          obtain ⟨cur, h1⟩ := O2.out.f1.ty9 rfl
          rw [show _ = _ from Q.out] at h1
          simp only [Option.some.injEq, Obj.cells.injEq] at h1
          exact absurd h1.2.1 (by decide)
        have QF := Lib.hid ((Q.out.set 0 (.int .i64 (B : Int))).set 1 (.slice (some ⟨h, 0, none⟩) n c2))
        have OF := Lib.hid (O2.out.only hon (fun g e => by cases e; omega))
        have XF := Lib.hid ((X1.out.keep hx).apart hon (by omega))
        have RF := Lib.hid ((R1.out.keep hx).apart hon (by omega))
        have BF := hon.below (below_callS B1 hx) (by omega) (by have := (below_callS B1 hx).size; omega)
        clear hon r0 r1 rl rf hx hHeld Q O2
        obtain ⟨wF, hwF⟩ : ∃ v, v = (World.setCell w3 ⟨q, 0, none⟩ (.int .i64 (B : Int))).setCell ⟨q, 1, none⟩ (.slice (some ⟨h, 0, none⟩) n c2) := ⟨_, rfl⟩
        rw [← hwF] at QF OF XF RF BF ⊢
        clear hwF
        refine hK.out _ _ ⟨XF.out, BF⟩ (fun hHeld => ?_)
        clear hK K
        try simp only [Act.put, s1, s2, s3]
        refine wpAnyH_done (by kernel_rfl) ?_ _
        refine NoPanic.normal ?_
        clear hHeld
        go_wp2_with fail
        go_meet
        exact ⟨q, h, c2, rfl, hq3, BF, XF, RF, QF, OF⟩
      · go_simp
        obtain ⟨w2', hw3⟩ : ∃ v, v = (World.alloc w1 (.cells #[.int .i64 0, .slice none 0 0] 26)).drew := ⟨_, rfl⟩
        replace hx : Below w1.heap.size w1 w2' := by rw [hw3]; exact (below_alloc1 (Below.refl _ _) _).drew
        have Q := Lib.hid (show Blk w2' w1.heap.size #[.int .i64 0, .slice none 0 0] 26 by rw [hw3]; exact (Blk.made w1 _ _).drew)
        have hq2 := hs1
        have hsz : w1.heap.size < w2'.heap.size := by rw [hw3]; show _ < (Array.push _ _).size; rw [Array.size_push]; omega
        rw [← hw3]
        clear hw3 hHeld
        obtain ⟨q, hqd⟩ : ∃ q, q = w1.heap.size := ⟨_, rfl⟩
        rw [← hqd] at Q ⊢
        have hq3' : w.heap.size + 2 ≤ q := by omega
        have hqs : q < w2'.heap.size := by omega
        clear hqd
        go_wp2_with fail
        refine hK.out _ _ ⟨X1.out.keep hx, below_callS B1 hx⟩ (fun hHeld => ?_)
        clear hK K
        try simp only [Act.put, s1, s2, s3]
        refine wpAnyH_ready (rs := [4]) (by kernel_rfl) (by simp) ?_
        refine AllReadyH.cons rfl (fun K hK => ?_) AllReadyH.nil
        go_simp
        refine Calls.mono (KO.out _ hx) ?_
        rintro e w3 ⟨a2, c2, rfl, hbn, ho⟩
        obtain ⟨h, rfl⟩ : ∃ g, a2 = some ⟨g, 0, none⟩ := by
          rcases ho.1.2 with ⟨_, h0⟩ | ⟨g, cap, cur, he, _⟩
          · omega
          · simp only [Value.slice.injEq] at he; exact ⟨g, he.1⟩
        have O2 := Lib.hid (ho.le (show w.heap.size + 2 ≤ _ by have := hx.size; first | omega | (simp at this ⊢; omega)))
        replace Q := Lib.hid (Q.out.keep hbn)
        replace hx := below_callS hx hbn
        clear ho hbn hHeld
        go_wp2_with fail
        refine hK.out _ _ ⟨X1.out.keep hx, below_callS B1 hx⟩ (fun hHeld => ?_)
        clear hK K
        try simp only [Act.put, s1, s2, s3]
        refine tkH0 5 (v := ?_) ?_ ?_
        rotate_left
        · (intro wv hSw; clear hSw; go_simp; try with_reducible rfl)
        try simp only [Act.put, s1, s2, s3]
        have hq3 : w.heap.size + 2 ≤ q := by omega
        have r0 := Q.out.cell 0
        have r1 := Q.out.cell 1
        have rl := Q.out.lt
        have rf := Q.out.free
        simp only [List.getElem?_toArray, List.getElem?_cons_zero, List.getElem?_cons_succ] at r0 r1
        refine wpAnyH_ready (rs := [7]) (by kernel_rfl) (by simp) ?_
        refine AllReadyH.cons rfl (fun K hK => ?_) AllReadyH.nil
        go_simp
        have hon : Only q (q + 1) w3 ((World.setCell w3 ⟨q, 0, none⟩ (.int .i64 (B : Int))).setCell ⟨q, 1, none⟩ (.slice (some ⟨h, 0, none⟩) n c2)) := ((Only.refl _ _ w3).set ⟨Nat.le_refl _, Nat.lt_succ_self _⟩ 0 _).set ⟨Nat.le_refl _, Nat.lt_succ_self _⟩ 1 _
        have hne : h ≠ q := by
          rintro rfl
          obtain ⟨cur, h1⟩ := O2.out.f1.ty9 rfl
          rw [show _ = _ from Q.out] at h1
          simp only [Option.some.injEq, Obj.cells.injEq] at h1
          exact absurd h1.2.1 (by decide)
        have QF := Lib.hid ((Q.out.set 0 (.int .i64 (B : Int))).set 1 (.slice (some ⟨h, 0, none⟩) n c2))
        have OF := Lib.hid (O2.out.only hon (fun g e => by cases e; omega))
        have XF := Lib.hid ((X1.out.keep hx).apart hon (by omega))
        have RF := Lib.hid ((R1.out.keep hx).apart hon (by omega))
        have BF := hon.below (below_callS B1 hx) (by omega) (by have := (below_callS B1 hx).size; omega)
        clear hon r0 r1 rl rf hx hHeld Q O2
        obtain ⟨wF, hwF⟩ : ∃ v, v = (World.setCell w3 ⟨q, 0, none⟩ (.int .i64 (B : Int))).setCell ⟨q, 1, none⟩ (.slice (some ⟨h, 0, none⟩) n c2) := ⟨_, rfl⟩
        rw [← hwF] at QF OF XF RF BF ⊢
        clear hwF
        refine hK.out _ _ ⟨XF.out, BF⟩ (fun hHeld => ?_)
        clear hK K
        try simp only [Act.put, s1, s2, s3]
        refine wpAnyH_done (by kernel_rfl) ?_ _
        refine NoPanic.normal ?_
        clear hHeld
        go_wp2_with fail
        go_meet
        exact ⟨q, h, c2, rfl, hq3, BF, XF, RF, QF, OF⟩
    case rest =>
      clear X1 R1 B1 hs1 KO
      obtain ⟨q, h, co, rfl, hq, BW, X2, R2, Q2, P2⟩ := hcut
      have hmk := fun (wx : World) => mkB (B := B) (by omega) (by omega) wx
      have x0 := X2.out.cell 0
      have xl := X2.out.lt
      have xf := X2.out.free
      simp only [List.getElem?_toArray, List.getElem?_cons_zero, List.getElem?_cons_succ] at x0
      go_upto_region 6 with fail
      obtain ⟨wM, hwM⟩ : ∃ v, v = World.alloc wc (.cells (Array.replicate B (Value.int .i64 0)) 2) := ⟨_, rfl⟩
      have hbM : Below wc.heap.size wc wM := by rw [hwM]; exact below_alloc1 (Below.refl _ _) _
      have S0 : OwnI 2 wM w.heap.size (some ⟨wc.heap.size, 0, none⟩) B B (List.replicate B 0) := by rw [hwM]; exact own_rep (by have := BW.size; omega) (by omega)
      have hPl := P2.out.lt
      have hcs := BW.size
      rw [← hwM]
      clear hwM hmk x0 xl xf
      obtain ⟨g, hg⟩ : ∃ g, g = wc.heap.size := ⟨_, rfl⟩
      rw [← hg] at S0 ⊢
      have ST := Lib.hid (show RnS w.heap.size wM B n q h co g B l (List.replicate B 0) from ⟨R2.out.keep hbM, Q2.out.keep hbM, (P2.out.keep hbM).le (by omega), S0, hq, (by omega), HT.out⟩)
      have BM := below_callS BW hbM
      clear hg S0 hPl hcs hbM X2 R2 Q2 P2 BW HT
      go_wp2_with fail
      go_loopw [11, 12] (fun s11 s12 wr => ∃ (k h co : Nat) (f : Int) (lo st : List Int), s11 = .int .i64 f ∧ s12 = .int .i64 (k : Int) ∧ k ≤ m ∧ Below w.heap.size w wr ∧ Hid (RnS w.heap.size wr B n q h co g B lo st)) (fun _ s12 _ => m + 1 - (intOf s12).toNat)
      case atStart => exact ⟨0, h, co, -1, l, _, rfl, rfl, by omega, BM, ST⟩
      case round =>
        clear ST BM
        obtain ⟨k, h, co, f, lo, st, rfl, rfl, hk, hbl, S⟩ := hrel
        have hk0 : (0 : Int) ≤ (k : Int) := by omega
        have hkm : (k : Int) ≤ (m : Int) := by omega
        go_upto_region 10 with fail
        go_cut [43] (fun s43 wx => ∃ v : Bool, s43 = .bool v ∧ Below w.heap.size w wx ∧ Hid (RnS w.heap.size wx B n q h co g B lo st))
        case first =>
          have q0 := S.out.o.cell 0
          have q1 := S.out.o.cell 1
          have ql := S.out.o.lt
          simp only [List.getElem?_toArray, List.getElem?_cons_zero, List.getElem?_cons_succ] at q0 q1
          by_cases hf : f < 0
          · have KS := Lib.hid (spec_IsSafeTraffic (S.out.p.ints) S.out.t)
            go_wp2_with fail
            refine Calls.mono KS.out ?_
            rintro e w2 ⟨rfl, hb2⟩
            have S2 := Lib.hid (S.out.keep hb2)
            have hbl2 := below_callS hbl hb2
            clear KS S hbl hb2 q0 q1 ql
            go_wp2_with fail
            go_meet
            exact ⟨_, rfl, hbl2, S2⟩
          · have KS := hf
            go_wp2_with fail
            go_meet
            exact ⟨false, rfl, hbl, S⟩
        case rest =>
          clear S hbl
          obtain ⟨v, rfl, hbl, S⟩ := hcut
          obtain ⟨wK, hwK⟩ : ∃ x : World, x = wc := ⟨_, rfl⟩
          subst hwK
          go_upto_if 43 with fail
          go_cut [11] (fun s11 wx => ∃ f' : Int, s11 = .int .i64 f' ∧ Below w.heap.size w wx ∧ Hid (RnS w.heap.size wx B n q h co g B lo st))
          case first =>
            cases v
            · go_wp2_with fail
              go_meet
              exact ⟨f, rfl, hbl, S⟩
            · go_wp2_with fail
              go_meet
              exact ⟨k, rfl, hbl, S⟩
          case rest =>
            clear S hbl
            obtain ⟨f', rfl, hbl, S⟩ := hcut
            obtain ⟨wL, hwL⟩ : ∃ x : World, x = wc := ⟨_, rfl⟩
            subst hwL
            by_cases hkm' : k = m
            · have hke : ((k : Int) == (m : Int)) = true := by simp [hkm']
              have q0 := S.out.o.cell 0
              have q1 := S.out.o.cell 1
              have ql := S.out.o.lt
              have r0 := S.out.r.cell 0
              have r1 := S.out.r.cell 1
              have rl := S.out.r.lt
              have rf := S.out.r.free
              simp only [List.getElem?_toArray, List.getElem?_cons_zero, List.getElem?_cons_succ] at q0 q1 r0 r1
              have hqr : q ≠ w.heap.size + 1 := by omega
              have RF := Lib.hid ((S.out.r.set 0 (.int .i64 (B : Int))).set 1 (.slice (some ⟨h, 0, none⟩) n co))
              have BF := Below.setCell (Below.setCell hbl (show w.heap.size ≤ (⟨w.heap.size + 1, 0, none⟩ : Addr).block from Nat.le_succ _) (.int .i64 (B : Int))) (show w.heap.size ≤ (⟨w.heap.size + 1, 1, none⟩ : Addr).block from Nat.le_succ _) (.slice (some ⟨h, 0, none⟩) n co)
              clear S hbl
              go_wp2_with fail
              exact bodyPost_ret (v := .tuple #[.agg #[.int .i64 (B : Int), .slice (some ⟨h, 0, none⟩) n co], .slice (some ⟨g, 0, none⟩) B B, .int .i64 f', .int .i64 0]) (results_cell_tmp3 Tryz.results53 _ _ (w.heap.size + 1) 26 #[.int .i64 (B : Int), .slice (some ⟨h, 0, none⟩) n co] _ rfl (show Blk _ _ #[.int .i64 (B : Int), .slice (some ⟨h, 0, none⟩) n co] 26 from RF.out) _ _ _ rfl rfl rfl Tryz.underlying26 rfl (by kernel_rfl)) rfl ⟨⟨_, _, _, _, _, _, _, _, _, rfl⟩, BF⟩
            · have hke : ((k : Int) == (m : Int)) = false := by simp; omega
              have hlt : k < m := by omega
              have hlt' : (k : Int) < (m : Int) := by omega
              obtain ⟨b', off, x, rfl, hb', hx, hwf, c0, c1, c2⟩ := F3.get (HS.out.keep hbl) hlt
              have hev := ev_two (HA.out x (List.mem_of_getElem? hx))
              obtain ⟨xa, xb, xc⟩ := x
              simp only at hev c0 c1 c2
              have hxc : I64 xc := hwf.2.2
              clear hx hwf
              go_upto_region 13 with fail
              go_upto_region 14 with fail
              obtain ⟨wE, hwE⟩ : ∃ v, v = World.alloc wL (.cells #[.int .i64 xa, .int .i64 xb, .int .i64 xc] 38) := ⟨_, rfl⟩
              have hbE : Below wL.heap.size wL wE := by rw [hwE]; exact below_alloc1 (Below.refl _ _) _
              have hE : Blk wE wL.heap.size #[.int .i64 xa, .int .i64 xb, .int .i64 xc] 38 := by rw [hwE]; exact Blk.made _ _ _
              have SE := Lib.hid (S.out.keep hbE)
              have hblE := below_callS hbl hbE
              have e0 := hE.cell 0
              have e1 := hE.cell 1
              have e2 := hE.cell 2
              have el := hE.lt
              simp only [List.getElem?_toArray, List.getElem?_cons_zero, List.getElem?_cons_succ] at e0 e1 e2
              rw [← hwE]
              clear hwE hbE S hbl c0 c1 c2 hb'
              have HE := Lib.hid hE
              clear hE
              generalize wL.heap.size = pe at *
              rcases hev with ⟨ha, hb0, hbn⟩ | ⟨ha, hb0, hbn⟩
              · subst ha
                obtain ⟨p, rfl⟩ := Int.eq_ofNat_of_zero_le hb0
                have hp0 : (0 : Int) ≤ (p : Int) := by omega
                have hll := SE.out.p.len
                have hpn : p < n := by have h9 := HI.out.len; omega
                have QB := Lib.hid SE.out.o
                have EB := HE
                have PI := Lib.hid SE.out.p.ints
                have SI := Lib.hid SE.out.s.ints
                have TT := Lib.hid SE.out.t
                go_upto_region 21 with fail
                clear e0 e1 e2 el hb0 hbn hll
                refine wp_region_noPanic ?_
                refine wp_region_held_drew (S := fun wx => Blk wx q #[.int .i64 (B : Int), .slice (some ⟨h, 0, none⟩) n co] 26 ∧ Blk wx pe #[.int .i64 0, .int .i64 (p : Int), .int .i64 xc] 38 ∧ Below wE.heap.size wE wx) (by kernel_rfl) ?_ (fun hHeld => ?_)
                · exact ⟨QB.out.keep (Below.refl _ _).drew, EB.out.keep (Below.refl _ _).drew, (Below.refl _ _).drew⟩
                have hx : Below wE.heap.size wE wE.drew := (Below.refl _ _).drew
                refine tkH0 2 (v := ?_) ?_ ?_
                rotate_left
                · (intro wv hSw; clear hSw; go_simp; try with_reducible rfl)
                try simp only [Act.put, s1, s2, s3]
                refine tkH0 5 (v := ?_) ?_ ?_
                rotate_left
                · (intro wv hSw; clear hSw; go_simp; try with_reducible rfl)
                try simp only [Act.put, s1, s2, s3]
                refine tkH0 0 (v := ?_) ?_ ?_
                rotate_left
                · (intro wv hSw; obtain ⟨hq, hz9, hw9⟩ := hSw; have q0 := hq.cell 0; have q1 := hq.cell 1; have zl := hq.lt; simp only [List.getElem?_toArray, List.getElem?_cons_zero, List.getElem?_cons_succ] at q0 q1; go_simp; try with_reducible rfl)
                try simp only [Act.put, s1, s2, s3]
                refine tkH0 1 (v := ?_) ?_ ?_
                rotate_left
                · (intro wv hSw; obtain ⟨hq, hz9, hw9⟩ := hSw; have q0 := hq.cell 0; have q1 := hq.cell 1; have zl := hq.lt; simp only [List.getElem?_toArray, List.getElem?_cons_zero, List.getElem?_cons_succ] at q0 q1; go_simp; try with_reducible rfl)
                try simp only [Act.put, s1, s2, s3]
                refine tkH0 6 (v := ?_) ?_ ?_
                rotate_left
                · (intro wv hSw; obtain ⟨hq, hz9, hw9⟩ := hSw; have q0 := hz9.cell 0; have q1 := hz9.cell 1; have q2 := hz9.cell 2; have zl := hz9.lt; simp only [List.getElem?_toArray, List.getElem?_cons_zero, List.getElem?_cons_succ] at q0 q1 q2; go_simp; try with_reducible rfl)
                try simp only [Act.put, s1, s2, s3]
                refine wpAnyH_ready (rs := [3]) (by kernel_rfl) (by simp) ?_
                refine AllReadyH.cons rfl (fun K hK => ?_) AllReadyH.nil
                go_simp
                refine Calls.mono (spec_l25Faults (SI.out.keep hx) (by omega)) ?_
                rintro e w2 ⟨aF, nF, cF, L, rfl, hF, hnF, hLF, hbn⟩
                have FF := Lib.hid hF.flats
                have LF := Lib.hid hLF
                replace hx := below_callS hx hbn
                clear hF hLF hbn hHeld
                go_wp2_with fail
                refine hK.out _ _ ⟨QB.out.keep hx, EB.out.keep hx, hx⟩ (fun hHeld => ?_)
                clear hK K
                try simp only [Act.put, s1, s2, s3]
                refine wpAnyH_ready (rs := [4]) (by kernel_rfl) (by simp) ?_
                refine AllReadyH.cons rfl (fun K hK => ?_) AllReadyH.nil
                go_simp
                refine Calls.mono (spec_l11Report (PI.out.keep hx) FF.out TT.out hnF LF.out) ?_
                rintro e w3 ⟨u1, u2, d1, d2, l1, l2, rfl, h1, h2, hbn⟩
                have I1 := Lib.hid h1
                have I2' := Lib.hid h2
                replace hx := below_callS hx hbn
                clear h1 h2 hbn hHeld FF LF
                go_wp2_with fail
                refine hK.out _ _ ⟨QB.out.keep hx, EB.out.keep hx, hx⟩ (fun hHeld => ?_)
                clear hK K
                try simp only [Act.put, s1, s2, s3]
                refine wpAnyH_ready (rs := [7]) (by kernel_rfl) (by simp) ?_
                refine AllReadyH.cons rfl (fun K hK => ?_) AllReadyH.nil
                go_simp
                refine Calls.mono (spec_l11Permits (t := p) (PI.out.keep hx) TT.out hpn I1.out I2'.out) ?_
                rintro e w4 ⟨⟨pv, rfl⟩, hbn⟩
                replace hx := below_callS hx hbn
                clear hbn hHeld I1 I2'
                go_wp2_with fail
                refine hK.out _ _ ⟨QB.out.keep hx, EB.out.keep hx, hx⟩ (fun hHeld => ?_)
                clear hK K
                try simp only [Act.put, s1, s2, s3]
                refine tkH0 8 (v := ?_) ?_ ?_
                rotate_left
                · (intro wv hSw; clear hSw; go_simp; try with_reducible rfl)
                try simp only [Act.put, s1, s2, s3]
                refine wpAnyH_done (by kernel_rfl) ?_ _
                refine NoPanic.normal ?_
                clear hHeld
                have S4 := Lib.hid (SE.out.keep hx)
                have E4 := Lib.hid (EB.out.keep hx)
                have hbl4 := below_callS hblE hx
                clear hx SE EB QB PI SI TT HE hblE
                cases pv
                · have SE := S4
                  have hblE := hbl4
                  have r0 := SE.out.r.cell 0
                  have r1 := SE.out.r.cell 1
                  have rl := SE.out.r.lt
                  have rf := SE.out.r.free
                  simp only [List.getElem?_toArray, List.getElem?_cons_zero, List.getElem?_cons_succ] at r0 r1
                  have RF := Lib.hid SE.out.r
                  have BF := hblE
                  clear SE hblE
                  go_wp2_with fail
                  exact bodyPost_ret (v := .tuple #[.agg #[.int .i64 0, .slice none 0 0], .slice none 0 0, .int .i64 0, .int .i64 5]) (results_cell_tmp3 Tryz.results53 _ _ (w.heap.size + 1) 26 #[.int .i64 0, .slice none 0 0] _ rfl (show Blk _ _ #[.int .i64 0, .slice none 0 0] 26 from (RF.out.set 0 (.int .i64 0)).set 1 (.slice none 0 0)) _ _ _ rfl rfl rfl Tryz.underlying26 rfl (by kernel_rfl)) rfl ⟨⟨0, none, none, 0, 0, 0, 0, 0, 5, rfl⟩, Below.setCell (Below.setCell BF (show w.heap.size ≤ w.heap.size + 1 by omega) _) (show w.heap.size ≤ w.heap.size + 1 by omega) _⟩
                · have q0 := S4.out.o.cell 0
                  have q1 := S4.out.o.cell 1
                  have ql := S4.out.o.lt
                  have qf := S4.out.o.free
                  have e1 := E4.out.cell 1
                  have el := E4.out.lt
                  simp only [List.getElem?_toArray, List.getElem?_cons_zero, List.getElem?_cons_succ] at q0 q1 e1
                  have KM := Lib.hid (spec_l10Move (t := p) S4.out.p.ints S4.out.t hpn)
                  have gl4 := (S4.out.s.lt).2
                  go_wp2_with fail
                  refine Calls.mono KM.out ?_
                  rintro e w5 ⟨a5, c5, l5, rfl, ho, ht5, hb5⟩
                  obtain ⟨h5, rfl⟩ : ∃ g, a5 = some ⟨g, 0, none⟩ := by
                    rcases ho.1.2 with ⟨_, h0⟩ | ⟨g, cap, cur, he, _⟩
                    · omega
                    · simp only [Value.slice.injEq] at he; exact ⟨g, he.1⟩
                  have hne5 : h5 ≠ g := by have := (ho.lt).1; omega
                  have S5 := Lib.hid ((S4.out.keep hb5).setO (ho.le (show w.heap.size ≤ _ from hbl4.size)) hne5 ht5)
                  have hbl5 := Below.setCell (Below.setCell (below_callS hbl4 hb5) (show w.heap.size ≤ (⟨q, 0, none⟩ : Addr).block by show w.heap.size ≤ q; omega) (.int .i64 (B : Int))) (show w.heap.size ≤ (⟨q, 1, none⟩ : Addr).block by show w.heap.size ≤ q; omega) (.slice (some ⟨h5, 0, none⟩) n c5)
                  have q0' := (S4.out.o.keep hb5).cell 0
                  have q1' := (S4.out.o.keep hb5).cell 1
                  have ql' := (S4.out.o.keep hb5).lt
                  have qf' := (S4.out.o.keep hb5).free
                  simp only [List.getElem?_toArray, List.getElem?_cons_zero, List.getElem?_cons_succ] at q0' q1'
                  clear q0 q1 ql qf e1 el KM S4 E4 ho ht5 hb5 hbl4
                  go_wp2_with fail
                  go_roundw
                  case rel => exact ⟨k + 1, h5, c5, f', l5, _, rfl, by go_num, by omega, hbl5, S5⟩
                  case measure => simp only [intOf]; omega
              · subst ha
                obtain ⟨p, rfl⟩ := Int.eq_ofNat_of_zero_le hb0
                have hp0 : (0 : Int) ≤ (p : Int) := by omega
                obtain ⟨y, hy, _, cy⟩ := SE.out.s.cell (k := p) (by omega)
                have gl := (SE.out.s.lt).2
                have gf := SE.out.s.free p
                clear hy hb0
                by_cases h3 : xc = 3
                · have h3' : (xc == 3) = true := by simp [h3]
                  by_cases hy1 : y = 1
                  · have hy2 : (y != 1) = false := by simp [hy1]
                    go_wp2_with fail
                    go_roundw
                    case rel => exact ⟨k + 1, h, co, f', lo, _, rfl, by go_num, by omega, Below.setCell hblE (show w.heap.size ≤ (⟨g, p, none⟩ : Addr).block from (SE.out.s.lt).1) _, Lib.hid (by first | exact SE.out.setS p hxc | exact SE.out.setS p (show I64 3 by decide))⟩
                    case measure => simp only [intOf]; omega
                  · have hy2 : (y != 1) = true := by simpa using hy1
                    have r0 := SE.out.r.cell 0
                    have r1 := SE.out.r.cell 1
                    have rl := SE.out.r.lt
                    have rf := SE.out.r.free
                    simp only [List.getElem?_toArray, List.getElem?_cons_zero, List.getElem?_cons_succ] at r0 r1
                    have RF := Lib.hid SE.out.r
                    have BF := hblE
                    clear SE hblE
                    go_wp2_with fail
                    exact bodyPost_ret (v := .tuple #[.agg #[.int .i64 0, .slice none 0 0], .slice none 0 0, .int .i64 0, .int .i64 5]) (results_cell_tmp3 Tryz.results53 _ _ (w.heap.size + 1) 26 #[.int .i64 0, .slice none 0 0] _ rfl (show Blk _ _ #[.int .i64 0, .slice none 0 0] 26 from (RF.out.set 0 (.int .i64 0)).set 1 (.slice none 0 0)) _ _ _ rfl rfl rfl Tryz.underlying26 rfl (by kernel_rfl)) rfl ⟨⟨0, none, none, 0, 0, 0, 0, 0, 5, rfl⟩, Below.setCell (Below.setCell BF (show w.heap.size ≤ w.heap.size + 1 by omega) _) (show w.heap.size ≤ w.heap.size + 1 by omega) _⟩
                · have h3' : (xc == 3) = false := by simpa using h3
                  by_cases hy1 : y = 0
                  · have hy2 : (y != 0) = false := by simp [hy1]
                    go_wp2_with fail
                    go_roundw
                    case rel => exact ⟨k + 1, h, co, f', lo, _, rfl, by go_num, by omega, Below.setCell hblE (show w.heap.size ≤ (⟨g, p, none⟩ : Addr).block from (SE.out.s.lt).1) _, Lib.hid (by first | exact SE.out.setS p hxc | exact SE.out.setS p (show I64 3 by decide))⟩
                    case measure => simp only [intOf]; omega
                  · have hy2 : (y != 0) = true := by simpa using hy1
                    have r0 := SE.out.r.cell 0
                    have r1 := SE.out.r.cell 1
                    have rl := SE.out.r.lt
                    have rf := SE.out.r.free
                    simp only [List.getElem?_toArray, List.getElem?_cons_zero, List.getElem?_cons_succ] at r0 r1
                    have RF := Lib.hid SE.out.r
                    have BF := hblE
                    clear SE hblE
                    go_wp2_with fail
                    exact bodyPost_ret (v := .tuple #[.agg #[.int .i64 0, .slice none 0 0], .slice none 0 0, .int .i64 0, .int .i64 5]) (results_cell_tmp3 Tryz.results53 _ _ (w.heap.size + 1) 26 #[.int .i64 0, .slice none 0 0] _ rfl (show Blk _ _ #[.int .i64 0, .slice none 0 0] 26 from (RF.out.set 0 (.int .i64 0)).set 1 (.slice none 0 0)) _ _ _ rfl rfl rfl Tryz.underlying26 rfl (by kernel_rfl)) rfl ⟨⟨0, none, none, 0, 0, 0, 0, 0, 5, rfl⟩, Below.setCell (Below.setCell BF (show w.heap.size ≤ w.heap.size + 1 by omega) _) (show w.heap.size ≤ w.heap.size + 1 by omega) _⟩
  · have hC' : (rpC b l evs != 0) = true := by simpa using hC
    obtain ⟨k, hk⟩ : ∃ k, k = rpC b l evs := ⟨_, rfl⟩
    rw [← hk] at hC' ⊢
    have r0 := R1.out.cell 0
    have r1 := R1.out.cell 1
    have rl := R1.out.lt
    have rf := R1.out.free
    simp only [List.getElem?_toArray, List.getElem?_cons_zero, List.getElem?_cons_succ] at r0 r1
    have RF := R1
    have BF := B1
    clear hk hC X1 HI HS hln hsl
    go_wp2
    exact bodyPost_ret (v := .tuple #[.agg #[.int .i64 0, .slice none 0 0], .slice none 0 0, .int .i64 0, .int .i64 k]) (results_cell_tmp3 Tryz.results53 _ _ (w.heap.size + 1) 26 #[.int .i64 0, .slice none 0 0] _ rfl (show Blk _ _ #[.int .i64 0, .slice none 0 0] 26 from (RF.out.set 0 (.int .i64 0)).set 1 (.slice none 0 0)) _ _ _ rfl rfl rfl Tryz.underlying26 rfl (by kernel_rfl)) rfl ⟨⟨0, none, none, 0, 0, 0, 0, 0, k, rfl⟩, Below.setCell (Below.setCell BF (show w.heap.size ≤ w.heap.size + 1 by omega) _) (show w.heap.size ≤ w.heap.size + 1 by omega) _⟩
end Go.Proofs.YtipkncjjkkijfaaGreatDoor
namespace Go.Proofs.YtipkncjjkkijfaaGreatDoor
open Go.RowKit
set_option linter.unusedVariables false
set_option linter.unusedSimpArgs false
attribute [local go_sem ↓] Go.wp_at_zero Go.wp_at_succ
theorem results_cell_tmp2 {P : Program} {fn : Func} {p u1 u2 : Tmp} {ty : TypeId} (h : fn.results = #[.cell p ty, .tmp u1, .tmp u2]) (tmps : Array Value) (w : World) (g : Nat) (t : TypeId) (cs : Array Value) (d : TypeDesc)
    (hp : tmps.getD p undef = .pointer (some ⟨g, 0, none⟩)) (hg : Blk w g cs t) (v1 v2 : Value) (h1 : tmps.getD u1 undef = v1) (h2 : tmps.getD u2 undef = v2)
    (hu : P.underlying ty = some d) (hd : (match d with | .struct _ | .array _ _ => true | _ => false) = true) (hi : (P.info? ty).map (·.size) = some cs.size) :
    (results fn tmps).run P w = .ok (.tuple #[.agg cs, v1, v2]) w := by
  simp only [results, h]
  simp [Sem.run_bind, Result.andThen, asAddr, run_loadVar_row w g t ty cs (0, 0) d hg hu hd hi, ← h1, ← h2, hp]
  try (rw [Array.getD_eq_getD_getElem?] at hp; simp [hp, run_loadVar_row w g t ty cs (0, 0) d hg hu hd hi])
set_option maxRecDepth 100000 in
set_option maxHeartbeats 1000000 in
theorem spec_RunReplay {b : Int} {a s : Option Addr} {n c m d : Nat} {l : List Int} {evs : List I3} {w : World} (hI : Ints w a n c l) (hS : F3 w s m d evs) (hn : n ≤ 1048576) (hm : m ≤ 1048576) :
    Calls Tryz.prog 35 #[.agg #[.int .i64 b, .slice a n c], .slice s m d] w fun e w' => (∃ (b' : Int) (a1 a2 : Option Addr) (n1 c1 n2 c2 : Nat) (k : Int), e = .returned (.tuple #[.agg #[.int .i64 b', .slice a1 n1 c1], .slice a2 n2 c2, .int .i64 k])) ∧ Below w.heap.size w w' := by
  obtain ⟨wA, hwA⟩ : ∃ v, v = (w.alloc (.cells #[.int .i64 b, .slice a n c] 26)).alloc (.cells #[.int .i64 0, .slice none 0 0] 26) := ⟨_, rfl⟩
  have hb0 : Below w.heap.size w (w.alloc (.cells #[.int .i64 b, .slice a n c] 26)) := below_alloc1 (Below.refl _ _) _
  have hs0 : (w.alloc (.cells #[.int .i64 b, .slice a n c] 26)).heap.size = w.heap.size + 1 := Array.size_push _
  have hbA : Below w.heap.size w wA := by rw [hwA]; exact below_callS hb0 (below_alloc1 (Below.refl _ _) _)
  have hsA : wA.heap.size = w.heap.size + 2 := by rw [hwA]; show (Array.push _ _).size = _; rw [Array.size_push]; omega
  have XA := Lib.hid (show Blk wA w.heap.size #[.int .i64 b, .slice a n c] 26 by rw [hwA]; exact (Blk.made w _ _).keep (below_alloc1 (Below.refl _ _) _))
  have RA := Lib.hid (show Blk wA (w.heap.size + 1) #[.int .i64 0, .slice none 0 0] 26 by rw [hwA, ← hs0]; exact Blk.made _ _ _)
  have KR := Lib.hid (spec_l25Run (b := b) (hI.keep hbA) (hS.keep hbA) hn hm)
  have x0 := XA.out.cell 0
  have x1 := XA.out.cell 1
  have xl := XA.out.lt
  simp only [List.getElem?_toArray, List.getElem?_cons_zero, List.getElem?_cons_succ] at x0 x1
  clear hI hS hb0 hs0
  go_enter Tryz.func35, Tryz.ntmps35
  go_upto_region 1 with fail
  rw [← hwA]
  clear hwA
  go_wp2_with fail
  refine Calls.mono KR.out ?_
  rintro e w1 ⟨⟨b', a1, a2, n1, c1, n2, c2, f, k, rfl⟩, hb1⟩
  have R1 := Lib.hid (RA.out.keep hb1)
  have B1 := below_callS hbA hb1
  have hs1 := hb1.size
  clear hb1 XA RA x0 x1 xl hbA KR
  go_upto_region 2 with fail
  obtain ⟨wB, hwB⟩ : ∃ v, v = w1.alloc (.cells #[.int .i64 b', .slice a1 n1 c1] 26) := ⟨_, rfl⟩
  have hbB : Below w1.heap.size w1 wB := by rw [hwB]; exact below_alloc1 (Below.refl _ _) _
  have QB := Lib.hid (show Blk wB w1.heap.size #[.int .i64 b', .slice a1 n1 c1] 26 by rw [hwB]; exact Blk.made _ _ _)
  have RB := Lib.hid (R1.out.keep hbB)
  have BB := below_callS B1 hbB
  rw [← hwB]
  clear hwB R1 B1 hbB
  generalize w1.heap.size = q at *
  have q0 := QB.out.cell 0
  have q1 := QB.out.cell 1
  have ql := QB.out.lt
  have r0 := RB.out.cell 0
  have r1 := RB.out.cell 1
  have rl := RB.out.lt
  have rf := RB.out.free
  simp only [List.getElem?_toArray, List.getElem?_cons_zero, List.getElem?_cons_succ] at q0 q1 r0 r1
  have RF := Lib.hid ((RB.out.set 0 (.int .i64 b')).set 1 (.slice a1 n1 c1))
  have BF := Below.setCell (Below.setCell BB (show w.heap.size ≤ (⟨w.heap.size + 1, 0, none⟩ : Addr).block from Nat.le_succ _) (.int .i64 b')) (show w.heap.size ≤ (⟨w.heap.size + 1, 1, none⟩ : Addr).block from Nat.le_succ _) (.slice a1 n1 c1)
  clear QB RB BB
  go_wp2_with fail
  exact bodyPost_ret (v := .tuple #[.agg #[.int .i64 b', .slice a1 n1 c1], .slice a2 n2 c2, .int .i64 k]) (results_cell_tmp2 Tryz.results35 _ _ (w.heap.size + 1) 26 #[.int .i64 b', .slice a1 n1 c1] _ rfl (show Blk _ _ #[.int .i64 b', .slice a1 n1 c1] 26 from RF.out) _ _ rfl rfl Tryz.underlying26 rfl (by kernel_rfl)) rfl ⟨⟨_, _, _, _, _, _, _, _, rfl⟩, BF⟩
end Go.Proofs.YtipkncjjkkijfaaGreatDoor
