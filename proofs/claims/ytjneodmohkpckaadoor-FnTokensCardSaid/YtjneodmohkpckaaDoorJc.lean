/- The draws of the law FnTokens, walked. -/
import Derived.Test.YtjneodmohkpckaaDoorEu
namespace Go.Proofs.YtjneodmohkpckaaDoor
open Go.RowKit
set_option linter.unusedVariables false
set_option linter.unusedSimpArgs false
theorem spec_DrawStandardText {a : Option Addr} {n c : Nat} {w : World} (hB : Byts w a n c) (hn : n ≤ 4096) :
    Calls Tryd.prog 6 #[.slice a n c] w fun e w' => ∃ (a : Option Addr) (n c : Nat) (l : List TR), e = .returned (.slice a n c) ∧ OwnTk w' w.heap.size a n c l ∧ n ≤ 801 ∧ (∀ x ∈ l, x.t.size ≤ 13) ∧ Below w.heap.size w w' := by
  have K := Lib.hid (spec_l01From hB hn hB.lo.2.2 (Nat.le_refl _))
  clear hB
  go_enter Tryd.func6, Tryd.ntmps6
  go_wp2_with fail
  refine Calls.mono K.out ?_
  rintro e w1 ⟨b, rfl, hb1, hb, hS⟩
  have KL := Lib.hid (spec_l12DrawList hS)
  have hs1 := hb1.size
  clear hS
  go_wp2_with fail
  refine Calls.mono KL.out ?_
  rintro e w2 ⟨a2, n2, c2, l, rfl, ho, hn2, hz, hd⟩
  have H := Lib.hid (show OwnTk w2 w.heap.size a2 n2 c2 l ∧ (∀ x ∈ l, x.t.size ≤ 13) ∧ Below w.heap.size w w2 from ⟨ho.le hs1, hz, hd.fin hb1 hb⟩)
  clear ho hz hd
  go_wp2
  go_ret
  exact ⟨a2, n2, c2, l, rfl, H.out.1, hn2, H.out.2.1, H.out.2.2⟩
theorem spec_DrawIsToken {a : Option Addr} {n c : Nat} {w : World} (hB : Byts w a n c) (hn : n ≤ 4096) :
    Calls Tryd.prog 12 #[.slice a n c] w fun e w' => ∃ (k : Int) (t : ByteArray), e = .returned (.agg #[.int .i64 k, .string t]) ∧ I64 k ∧ t.size ≤ 13 ∧ Below w.heap.size w w' := by
  obtain ⟨wA, hwA⟩ : ∃ v, v = w.alloc (.cells #[.int .i64 0, .string ⟨#[]⟩] 33) := ⟨_, rfl⟩
  have hbA : Below w.heap.size w wA := by rw [hwA]; exact below_alloc1 (Below.refl _ _) _
  have hsA : wA.heap.size = w.heap.size + 1 := by rw [hwA]; exact Array.size_push _
  have X0 := Lib.hid (show Blk wA w.heap.size #[.int .i64 0, .string ⟨#[]⟩] 33 by rw [hwA]; exact Blk.made w _ _)
  have K := Lib.hid (spec_l01From (hB.keep hbA) hn (hB.keep hbA).lo.2.2 (Nat.le_refl _))
  clear hB
  go_enter Tryd.func12, Tryd.ntmps12
  go_wp2_with fail
  rw [← hwA]
  clear hwA
  refine Calls.mono K.out ?_
  rintro e w1 ⟨b, rfl, hb1, hb, hS⟩
  have KL := Lib.hid (spec_l12DrawToken hS)
  have X1 := Lib.hid (X0.out.keep hb1)
  clear hS
  go_wp2_with fail
  refine Calls.mono KL.out ?_
  rintro e w2 ⟨k, t, rfl, hk, ht, hd⟩
  have HB := Lib.hid (hd.fin (below_callS hbA hb1) (show w.heap.size ≤ b by omega))
  have X2 := Lib.hid (X1.out.dw hd (by omega))
  have q0 := X2.out.cell 0
  have q1 := X2.out.cell 1
  have xl := X2.out.lt
  have xf := X2.out.free
  simp only [List.getElem?_toArray, List.getElem?_cons_zero, List.getElem?_cons_succ] at q0 q1
  clear hd hb1
  go_wp2
  exact bodyPost_ret (v := .agg #[.int .i64 k, .string t]) (results_cell_row Tryd.results12 _ _ w.heap.size 33 #[.int .i64 k, .string t] _ _ rfl (show Blk _ _ #[.int .i64 k, .string t] 33 from (X2.out.set 0 (.int .i64 k)).set 1 (.string t)) Tryd.underlying33 rfl (by kernel_rfl)) rfl ⟨k, t, rfl, hk, ht, Below.setCell (Below.setCell HB.out (show w.heap.size ≤ (⟨w.heap.size, 0, none⟩ : Addr).block from Nat.le_refl _) _) (show w.heap.size ≤ (⟨w.heap.size, 1, none⟩ : Addr).block from Nat.le_refl _) _⟩
set_option maxHeartbeats 1000000 in
theorem spec_DrawCountWords {a : Option Addr} {n c : Nat} {w : World} (hB : Byts w a n c) (hn : n ≤ 4096) :
    Calls Tryd.prog 9 #[.slice a n c] w fun e w' => ∃ (a : Option Addr) (n c : Nat) (l : List TR) (t : ByteArray), e = .returned (.tuple #[.slice a n c, .string t]) ∧ OwnTk w' w.heap.size a n c l ∧ n ≤ 801 ∧ (∀ x ∈ l, x.t.size ≤ 13) ∧ t.size ≤ 13 ∧ Below w.heap.size w w' := by
  have K := Lib.hid (spec_l01From hB hn hB.lo.2.2 (Nat.le_refl _))
  clear hB
  go_enter Tryd.func9, Tryd.ntmps9
  go_wp2_with fail
  refine Calls.mono K.out ?_
  rintro e w1 ⟨b, rfl, hb1, hb, hS⟩
  have KL := Lib.hid (spec_l12DrawList hS)
  have hs1 := hb1.size
  have hbl := hS.lt.2
  clear hS
  go_wp2_with fail
  refine Calls.mono KL.out ?_
  rintro e w2 ⟨a2, n2, c2, l, rfl, ho, hn2, hz, hd⟩
  have O2 := Lib.hid ho
  have Z := Lib.hid hz
  have D2 := Lib.hid hd
  clear ho hz hd
  go_wp2_with fail
  refine Calls.mono (dw_next D2.out.src (by decide)) ?_
  rintro e w3 ⟨y, rfl, hy0, hy1, hd⟩
  have D3 := Lib.hid (D2.out.trans hd)
  have O3 := Lib.hid (O2.out.dw hd hbl)
  clear hd
  by_cases y0 : y = 0
  · subst y0
    have H := Lib.hid (show OwnTk w3 w.heap.size a2 n2 c2 l ∧ Below w.heap.size w w3 from ⟨O3.out.le hs1, D3.out.fin hb1 hb⟩)
    go_wp2
    exact bodyPost_ret (v := .tuple #[.slice a2 n2 c2, .string ⟨#[66, 97, 100]⟩]) (by simp [results, Tryd.results9, go_sem]) rfl ⟨a2, n2, c2, l, _, rfl, H.out.1, hn2, Z.out, by decide, H.out.2⟩
  · have y0' : (y == 0) = false := by simpa using y0
    go_wp2_with fail
    refine Calls.mono (spec_l12DrawWord D3.out.src) ?_
    rintro e w4 ⟨t, rfl, ht, hd⟩
    have D4 := Lib.hid (D3.out.trans hd)
    have O4 := Lib.hid (O3.out.dw hd hbl)
    clear hd
    have H := Lib.hid (show OwnTk w4 w.heap.size a2 n2 c2 l ∧ Below w.heap.size w w4 from ⟨O4.out.le hs1, D4.out.fin hb1 hb⟩)
    go_wp2
    exact bodyPost_ret (v := .tuple #[.slice a2 n2 c2, .string t]) (by simp [results, Tryd.results9, go_sem]) rfl ⟨a2, n2, c2, l, t, rfl, H.out.1, hn2, Z.out, ht, H.out.2⟩
end Go.Proofs.YtjneodmohkpckaaDoor
