/- Draws of tokens, walked. -/
import Derived.Test.YtjneodmohkpckaaGreatDoorDa
import Derived.Test.YtjneodmohkpckaaGreatDoorEb
namespace Go.Proofs.YtjneodmohkpckaaGreatDoor
open Go.RowKit
set_option linter.unusedVariables false
set_option linter.unusedSimpArgs false
/-- the strings of a literal -/
def strsOf (cs : Array Value) : List ByteArray := cs.toList.filterMap fun v => match v with
  | .string t => some t
  | _ => none
theorem pick_str {cs : Array Value} (hc : cs = ((strsOf cs).map Value.string).toArray) {m : Nat} (hP : ((strsOf cs).all fun t => decide (t.size ≤ m)) = true) {w : World} {g : Nat} {T : TypeId} (hB : Blk w g cs T) {q : Nat} (hq : q < (strsOf cs).length) : ∃ t, w.cell? ⟨g, q, none⟩ = some (.string t) ∧ t.size ≤ m := by
  have h1 := hB.cell q
  refine ⟨(strsOf cs)[q], ?_, of_decide_eq_true (List.all_eq_true.1 hP _ (List.getElem_mem hq))⟩
  rw [h1]
  conv => lhs; rw [hc]
  simp [hq]
/-- an index is drawn behind a literal of strings -/
theorem dw_strs {b lo m k : Nat} {z : Int} {w : World} {T : TypeId} {cs : Array Value} (hS : Src 107 w lo b) (hc : cs = ((strsOf cs).map Value.string).toArray) (hP : ((strsOf cs).all fun t => decide (t.size ≤ k)) = true) (hlen : (strsOf cs).length = m) (h1 : 1 < m) (h2 : m ≤ 100) (hm : (m : Int) = z) :
    Calls Tryz.prog 49 #[.pointer (some ⟨b, 0, none⟩), .int .i64 z] (w.alloc (.cells cs T)) fun e w' => ∃ (q : Nat) (t : ByteArray), e = .returned (.int .i64 (q : Int)) ∧ q < m ∧ w'.cell? ⟨w.heap.size, q, none⟩ = some (.string t) ∧ t.size ≤ k ∧ w.heap.size < w'.heap.size ∧ Dw 107 lo b w w' := by
  subst hm
  have hlt := hS.lt
  refine (spec_l01Next (hS.alloc _) ⟨by omega, by omega⟩).mono ?_
  rintro e w' ⟨r, rfl, hr, ho, hS'⟩
  have hr0 := hr.1
  have hrn := hr.2.2 (by omega)
  obtain ⟨q, rfl⟩ := Int.eq_ofNat_of_zero_le hr0
  have hB : Blk w' w.heap.size cs T := (Blk.made w cs T).apart ho (by omega)
  obtain ⟨t, ht, hk⟩ := pick_str hc hP hB (q := q) (by omega)
  exact ⟨q, t, rfl, by omega, ht, hk, hB.lt, ((Only.refl _ _ w).alloc _).trans ho, hS', hlt.2⟩
set_option maxHeartbeats 1000000 in
theorem spec_l12DrawWord {b lo : Nat} {w : World} (hS : Src 107 w lo b) :
    Calls Tryz.prog 70 #[.pointer (some ⟨b, 0, none⟩)] w fun e w' => ∃ t, e = .returned (.string t) ∧ t.size ≤ 13 ∧ Dw 107 lo b w w' := by
  have HS := Lib.hid hS
  clear hS
  go_enter Tryz.func70, Tryz.ntmps70
  go_wp2_with fail
  refine Calls.mono (dw_strs (k := 13) (m := 12) HS.out rfl (by decide +kernel) rfl (by decide) (by decide) rfl) ?_
  rintro e w1 ⟨q, t, rfl, hq, hc, ht, hl, hd⟩
  have hq0 : (0 : Int) ≤ (q : Int) := by omega
  have hq1 : (q : Int) < 12 := by omega
  go_wp2
  go_ret
  exact ⟨t, rfl, ht, hd⟩
set_option maxHeartbeats 2000000 in
theorem spec_l12DrawToken {b lo : Nat} {w : World} (hS : Src 107 w lo b) :
    Calls Tryz.prog 119 #[.pointer (some ⟨b, 0, none⟩)] w fun e w' => ∃ (k : Int) (t : ByteArray), e = .returned (.agg #[.int .i64 k, .string t]) ∧ I64 k ∧ t.size ≤ 13 ∧ Dw 107 lo b w w' := by
  have HS := Lib.hid hS
  clear hS
  go_enter Tryz.func119, Tryz.ntmps119
  go_wp2_with fail
  obtain ⟨wA, hwA⟩ : ∃ v, v = w.alloc (.cells #[.int .i64 0, .string ⟨#[]⟩] 88) := ⟨_, rfl⟩
  have hbA : Below w.heap.size w wA := by rw [hwA]; exact below_alloc1 (Below.refl _ _) _
  have hsA : wA.heap.size = w.heap.size + 1 := by rw [hwA]; exact Array.size_push _
  have X0 := Lib.hid (show Blk wA w.heap.size #[.int .i64 0, .string ⟨#[]⟩] 88 by rw [hwA]; exact Blk.made w _ _)
  have D0 := Lib.hid ((Dw.of HS.out).below hbA)
  have hbl := HS.out.lt.2
  rw [← hwA]
  clear hwA hbA HS
  refine Calls.mono (dw_next D0.out.src (by decide)) ?_
  rintro e w1 ⟨y, rfl, hy0, hy1, hd⟩
  have D1 := Lib.hid (D0.out.trans hd)
  have X1 := Lib.hid (X0.out.dw hd (by omega))
  have hs1 := hd.size
  clear hd D0 X0
  by_cases e0 : y = 0
  · subst e0
    go_wp2_with fail
    refine Calls.mono (dw_pick2 D1.out.src rfl (by decide) (by decide)) ?_
    rintro e w2 ⟨r, rfl, hr, hri, hd⟩
    have D2 := Lib.hid (D1.out.trans hd)
    have X2 := Lib.hid (X1.out.dw hd (by omega))
    have hs2 := hd.size
    clear hd
    have q0 := X2.out.cell 0
    have q1 := X2.out.cell 1
    have xl := X2.out.lt
    have xf := X2.out.free
    simp only [List.getElem?_toArray, List.getElem?_cons_zero, List.getElem?_cons_succ] at q0 q1
    go_wp2
    exact bodyPost_ret (v := .agg #[.int .i64 r, .string ⟨#[97]⟩]) (results_cell_row Tryz.results119 _ _ w.heap.size 88 #[.int .i64 r, .string ⟨#[97]⟩] _ _ rfl (show Blk _ _ #[.int .i64 r, .string ⟨#[97]⟩] 88 from (X2.out.set 0 (.int .i64 r)).set 1 (.string ⟨#[97]⟩)) Tryz.underlying88 rfl (by kernel_rfl)) rfl ⟨r, ⟨#[97]⟩, rfl, hri, by decide, (D2.out.set (Nat.le_refl _) 0 _).set (Nat.le_refl _) 1 _⟩
  by_cases e1 : y = 1
  · subst e1
    go_wp2_with fail
    refine Calls.mono (dw_strs (k := 13) (m := 5) D1.out.src rfl (by decide +kernel) rfl (by decide) (by decide) rfl) ?_
    rintro e w2 ⟨q, t, rfl, hq, hc, ht, hl, hd⟩
    have D2 := Lib.hid (D1.out.trans hd)
    have X2 := Lib.hid (X1.out.dw hd (by omega))
    have hs2 := hd.size
    clear hd
    have q0 := X2.out.cell 0
    have q1 := X2.out.cell 1
    have xl := X2.out.lt
    have xf := X2.out.free
    simp only [List.getElem?_toArray, List.getElem?_cons_zero, List.getElem?_cons_succ] at q0 q1
    have hq0 : (0 : Int) ≤ (q : Int) := by omega
    have hq1 : (q : Int) < 5 := by omega
    go_wp2
    exact bodyPost_ret (v := .agg #[.int .i64 1, .string t]) (results_cell_row Tryz.results119 _ _ w.heap.size 88 #[.int .i64 1, .string t] _ _ rfl (show Blk _ _ #[.int .i64 1, .string t] 88 from (X2.out.set 0 (.int .i64 1)).set 1 (.string t)) Tryz.underlying88 rfl (by kernel_rfl)) rfl ⟨1, t, rfl, by decide, ht, (D2.out.set (Nat.le_refl _) 0 _).set (Nat.le_refl _) 1 _⟩
  by_cases e2 : y = 2
  · subst e2
    go_wp2_with fail
    refine Calls.mono (dw_strs (k := 13) (m := 4) D1.out.src rfl (by decide +kernel) rfl (by decide) (by decide) rfl) ?_
    rintro e w2 ⟨q, t, rfl, hq, hc, ht, hl, hd⟩
    have D2 := Lib.hid (D1.out.trans hd)
    have X2 := Lib.hid (X1.out.dw hd (by omega))
    have hs2 := hd.size
    clear hd
    have q0 := X2.out.cell 0
    have q1 := X2.out.cell 1
    have xl := X2.out.lt
    have xf := X2.out.free
    simp only [List.getElem?_toArray, List.getElem?_cons_zero, List.getElem?_cons_succ] at q0 q1
    have hq0 : (0 : Int) ≤ (q : Int) := by omega
    have hq1 : (q : Int) < 4 := by omega
    go_wp2
    exact bodyPost_ret (v := .agg #[.int .i64 2, .string t]) (results_cell_row Tryz.results119 _ _ w.heap.size 88 #[.int .i64 2, .string t] _ _ rfl (show Blk _ _ #[.int .i64 2, .string t] 88 from (X2.out.set 0 (.int .i64 2)).set 1 (.string t)) Tryz.underlying88 rfl (by kernel_rfl)) rfl ⟨2, t, rfl, by decide, ht, (D2.out.set (Nat.le_refl _) 0 _).set (Nat.le_refl _) 1 _⟩
  by_cases e3 : y = 3
  · subst e3
    go_wp2_with fail
    refine Calls.mono (dw_strs (k := 13) (m := 3) D1.out.src rfl (by decide +kernel) rfl (by decide) (by decide) rfl) ?_
    rintro e w2 ⟨q, t, rfl, hq, hc, ht, hl, hd⟩
    have D2 := Lib.hid (D1.out.trans hd)
    have X2 := Lib.hid (X1.out.dw hd (by omega))
    have hs2 := hd.size
    clear hd
    have q0 := X2.out.cell 0
    have q1 := X2.out.cell 1
    have xl := X2.out.lt
    have xf := X2.out.free
    simp only [List.getElem?_toArray, List.getElem?_cons_zero, List.getElem?_cons_succ] at q0 q1
    have hq0 : (0 : Int) ≤ (q : Int) := by omega
    have hq1 : (q : Int) < 3 := by omega
    go_wp2
    exact bodyPost_ret (v := .agg #[.int .i64 3, .string t]) (results_cell_row Tryz.results119 _ _ w.heap.size 88 #[.int .i64 3, .string t] _ _ rfl (show Blk _ _ #[.int .i64 3, .string t] 88 from (X2.out.set 0 (.int .i64 3)).set 1 (.string t)) Tryz.underlying88 rfl (by kernel_rfl)) rfl ⟨3, t, rfl, by decide, ht, (D2.out.set (Nat.le_refl _) 0 _).set (Nat.le_refl _) 1 _⟩
  go_wp2_with fail
  refine Calls.mono (dw_next D1.out.src (by decide)) ?_
  rintro e w2 ⟨z, rfl, hz0, hz1, hd⟩
  have D2 := Lib.hid (D1.out.trans hd)
  have X2 := Lib.hid (X1.out.dw hd (by omega))
  have hs2 := hd.size
  clear hd
  by_cases z0 : z = 0
  · subst z0
    go_wp2_with fail
    refine Calls.mono (dw_next D2.out.src (by decide)) ?_
    rintro e w3 ⟨u, rfl, hu0, hu1, hd⟩
    have D3 := Lib.hid (D2.out.trans hd)
    have X3 := Lib.hid (X2.out.dw hd (by omega))
    have hs3 := hd.size
    clear hd
    obtain ⟨n, rfl⟩ := Int.eq_ofNat_of_zero_le hu0
    go_wp2_with fail
    refine Calls.mono (spec_l01Dec (n := n) (by omega)) ?_
    rintro e w4 ⟨rfl, hb4⟩
    have D4 := Lib.hid (D3.out.below hb4)
    have X4 := Lib.hid (X3.out.keep hb4)
    clear hb4
    have hn13 : (decS n).size ≤ 13 := by have := decS_size (n := n) (by omega); omega
    have q0 := X4.out.cell 0
    have q1 := X4.out.cell 1
    have xl := X4.out.lt
    have xf := X4.out.free
    simp only [List.getElem?_toArray, List.getElem?_cons_zero, List.getElem?_cons_succ] at q0 q1
    go_wp2
    exact bodyPost_ret (v := .agg #[.int .i64 2, .string (decS n)]) (results_cell_row Tryz.results119 _ _ w.heap.size 88 #[.int .i64 2, .string (decS n)] _ _ rfl (show Blk _ _ #[.int .i64 2, .string (decS n)] 88 from (X4.out.set 0 (.int .i64 2)).set 1 (.string (decS n))) Tryz.underlying88 rfl (by kernel_rfl)) rfl ⟨2, (decS n), rfl, by decide, hn13, (D4.out.set (Nat.le_refl _) 0 _).set (Nat.le_refl _) 1 _⟩
  by_cases z1 : z = 1 ∨ z = 2
  · rcases z1 with rfl | rfl
    all_goals
      go_wp2_with fail
      refine Calls.mono (dw_strs (k := 13) (m := 5) D2.out.src rfl (by decide +kernel) rfl (by decide) (by decide) rfl) ?_
      rintro e w3 ⟨q, t, rfl, hq, hc, ht, hl, hd⟩
      have D3 := Lib.hid (D2.out.trans hd)
      have X3 := Lib.hid (X2.out.dw hd (by omega))
      have hs3 := hd.size
      clear hd
      have q0 := X3.out.cell 0
      have q1 := X3.out.cell 1
      have xl := X3.out.lt
      have xf := X3.out.free
      simp only [List.getElem?_toArray, List.getElem?_cons_zero, List.getElem?_cons_succ] at q0 q1
      have hq0 : (0 : Int) ≤ (q : Int) := by omega
      have hq1 : (q : Int) < 5 := by omega
      go_wp2
      exact bodyPost_ret (v := .agg #[.int .i64 3, .string t]) (results_cell_row Tryz.results119 _ _ w.heap.size 88 #[.int .i64 3, .string t] _ _ rfl (show Blk _ _ #[.int .i64 3, .string t] 88 from (X3.out.set 0 (.int .i64 3)).set 1 (.string t)) Tryz.underlying88 rfl (by kernel_rfl)) rfl ⟨3, t, rfl, by decide, ht, (D3.out.set (Nat.le_refl _) 0 _).set (Nat.le_refl _) 1 _⟩
  have z1' : ¬ z = 1 := fun h => z1 (.inl h)
  have z2' : ¬ z = 2 := fun h => z1 (.inr h)
  go_wp2_with fail
  refine Calls.mono (spec_l12DrawWord D2.out.src) ?_
  rintro e w3 ⟨t, rfl, ht, hd⟩
  have D3 := Lib.hid (D2.out.trans hd)
  have X3 := Lib.hid (X2.out.dw hd (by omega))
  have hs3 := hd.size
  clear hd
  have q0 := X3.out.cell 0
  have q1 := X3.out.cell 1
  have xl := X3.out.lt
  have xf := X3.out.free
  simp only [List.getElem?_toArray, List.getElem?_cons_zero, List.getElem?_cons_succ] at q0 q1
  go_wp2
  exact bodyPost_ret (v := .agg #[.int .i64 1, .string t]) (results_cell_row Tryz.results119 _ _ w.heap.size 88 #[.int .i64 1, .string t] _ _ rfl (show Blk _ _ #[.int .i64 1, .string t] 88 from (X3.out.set 0 (.int .i64 1)).set 1 (.string t)) Tryz.underlying88 rfl (by kernel_rfl)) rfl ⟨1, t, rfl, by decide, ht, (D3.out.set (Nat.le_refl _) 0 _).set (Nat.le_refl _) 1 _⟩
end Go.Proofs.YtjneodmohkpckaaGreatDoor
