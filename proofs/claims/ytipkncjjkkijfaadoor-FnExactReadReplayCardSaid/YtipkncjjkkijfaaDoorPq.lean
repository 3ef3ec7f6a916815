/- The text of an event, read by the reference, walked. -/
import Derived.Test.YtipkncjjkkijfaaDoorPo
import Derived.Laws.ResultCell
namespace Go.Proofs.YtipkncjjkkijfaaDoor
open Go.RowKit
set_option linter.unusedVariables false
set_option linter.unusedSimpArgs false
theorem results_cell_tmp_row {P : Program} {fn : Func} {p u : Tmp} {ty : TypeId} (h : fn.results = #[.cell p ty, .tmp u]) (tmps : Array Value) (w : World) (g : Nat) (t : TypeId) (cs : Array Value) (d : TypeDesc)
    (hp : tmps.getD p undef = .pointer (some ⟨g, 0, none⟩)) (hg : Blk w g cs t) (v : Value) (hv : tmps.getD u undef = v)
    (hu : P.underlying ty = some d) (hd : (match d with | .struct _ | .array _ _ => true | _ => false) = true) (hi : (P.info? ty).map (·.size) = some cs.size) :
    (results fn tmps).run P w = .ok (.tuple #[.agg cs, v]) w := by
  rw [results_cell_tmp h, hp, hv]
  simp [asAddr, run_loadVar_row w g t ty cs (0, 0) d hg hu hd hi]
theorem ok3 {a b c : Int} (h0 : I64 a) (h1 : I64 b) (h2 : I64 c) : I3.ok ⟨a, b, c⟩ := ⟨h0, h1, h2⟩
theorem i64_valA {b : List UInt8} (h : v01B b = true) : I64 (valA 0 b : Nat) := by
  rw [v01B] at h
  simp only [Bool.and_eq_true, decide_eq_true_eq] at h
  have h1 := valA_lt b 0 h.2.1
  have h2 : 10 ^ b.length ≤ 10 ^ 12 := Nat.pow_le_pow_right (by decide) h.1.2
  have h3 : (10 : Nat) ^ 12 = 1000000000000 := by decide
  unfold I64; omega
theorem bs_eq {t : ByteArray} {l : List UInt8} (h : t.data.toList = l) : (t.toList == l) = true := by rw [ByteArray.toList_eq, h]; simp
theorem bs_ne {t : ByteArray} {l : List UInt8} (h : ¬ t.data.toList = l) : (t.toList == l) = false := by
  rw [ByteArray.toList_eq]; exact beq_eq_false_iff_ne.2 h
set_option maxHeartbeats 2000000 in
theorem spec_l25Read {s : ByteArray} {w : World} (hz : s.size ≤ 1048576) : Calls Tryd.prog 15 #[.string s] w fun e w' => ∃ x : I3, e = .returned (.tuple #[.agg #[.int .i64 x.a, .int .i64 x.b, .int .i64 x.c], .bool (rdE s.data.toList).isSome]) ∧ (∀ y, rdE s.data.toList = some y → y = x ∧ x.ok) ∧ Below w.heap.size w w' := by
  obtain ⟨wA, hwA⟩ : ∃ v, v = w.alloc (.cells #[.int .i64 0, .int .i64 0, .int .i64 0] 40) := ⟨_, rfl⟩
  have hbA : Below w.heap.size w wA := by rw [hwA]; exact below_alloc1 (Below.refl _ _) _
  have hsA : wA.heap.size = w.heap.size + 1 := by rw [hwA]; exact Array.size_push _
  have X0 := Lib.hid (show Blk wA w.heap.size #[.int .i64 0, .int .i64 0, .int .i64 0] 40 by rw [hwA]; exact Blk.made w _ _)
  have HP := Lib.hid (show rdE s.data.toList = match pcs 32 s.data.toList with
    | [a, b] => if v01B b = true then (if a = [109, 111, 118, 101] then some ⟨0, (valA 0 b : Nat), 0⟩ else if a = [99, 108, 101, 97, 114] then some ⟨1, (valA 0 b : Nat), 1⟩ else if a = [111, 99, 99, 117, 112, 105, 101, 100] then some ⟨1, (valA 0 b : Nat), 2⟩ else if a = [98, 108, 105, 110, 100] then some ⟨1, (valA 0 b : Nat), 3⟩ else none) else none
    | _ => none from rfl)
  have hpa := pcs_all 32 s.data.toList
  have KS := Lib.hid (spec_l01Split (s := s) (d := 32) (w := wA) hz)
  rw [str_len] at hpa
  generalize rdE s.data.toList = R at *
  generalize pcs 32 s.data.toList = L at *
  have HPA := Lib.hid hpa
  clear hpa
  go_enter Tryd.func15, Tryd.ntmps15
  go_wp2_with fail
  rw [← hwA]
  clear hwA
  refine Calls.mono KS.out ?_
  rintro e w1 ⟨a, n, c, rfl, ho, hb1⟩
  have X1 := Lib.hid (X0.out.keep hb1)
  have B1 := Lib.hid (below_callS hbA hb1)
  have hn := ho.len
  have O := Lib.hid ho
  have xl := X1.out.lt
  have xf := X1.out.free
  have q0 := X1.out.cell 0
  have q1 := X1.out.cell 1
  have q2 := X1.out.cell 2
  simp only [List.getElem?_toArray, List.getElem?_cons_zero, List.getElem?_cons_succ] at q0 q1 q2
  clear ho hb1 KS X0 hbA hsA
  by_cases hn2 : n = 2
  · subst hn2
    obtain ⟨p, q, rfl⟩ : ∃ p q, L = [p, q] := by
      rw [List.length_map] at hn
      match L, hn with
      | [p, q], _ => exact ⟨p, q, rfl⟩
    have hF := O.out.flats
    obtain ⟨g, off, x, ea, hg, hx, _, c0⟩ := hF.at (i := 0) (by decide)
    obtain ⟨g', off', y, ea', hg', hy, _, c1⟩ := hF.at (i := 1) (by decide)
    rw [ea] at ea'
    simp only [Option.some.injEq, Addr.mk.injEq, and_true] at ea'
    obtain ⟨rfl, rfl⟩ := ea'
    simp at hx hy
    subst hx hy ea
    have c0 := c0 0 _ rfl
    have c1 := c1 0 _ rfl
    simp only [Nat.zero_mul, Nat.add_zero, Nat.one_mul, Nat.mul_one] at c0 c1
    simp only at HP
    have hqs : (strL q).size ≤ 1048576 := by rw [strL_size]; have := HPA.out q (by simp); omega
    have KV := Lib.hid (fun (wx : World) => spec_l01Value (s := strL q) (w := wx) (by unfold maxLen; omega))
    have hvq : v01B (strL q).data.toList = v01B q := by rw [strL_list]
    have hvv : valA 0 (strL q).data.toList = valA 0 q := by rw [strL_list]
    go_wp2_with fail
    refine Calls.mono (KV.out _) ?_
    rintro e w2 ⟨v, rfl, hv, hb2⟩
    rw [hvq] at hv
    rw [hvv] at hv
    have HV := Lib.hid hv
    have X2 := Lib.hid (X1.out.keep hb2)
    have B2 := Lib.hid (below_callS B1.out hb2)
    have c0' := (hb2.cell (p := ⟨g, off, none⟩) hg).trans c0
    have hg2 : g < w2.heap.size := Nat.lt_of_lt_of_le hg hb2.size
    have xl := X2.out.lt
    have xf := X2.out.free
    have q0 := X2.out.cell 0
    have q1 := X2.out.cell 1
    have q2 := X2.out.cell 2
    simp only [List.getElem?_toArray, List.getElem?_cons_zero, List.getElem?_cons_succ] at q0 q1 q2
    rw [hvq]
    have hsp : (strL p).data.toList = p := strL_list p
    have HI := Lib.hid (fun h => i64_valA (b := q) h)
    generalize strL p = S at *
    clear hb2 KV c0 c1 O X1 B1 hv hg hg' hqs hn hvq hvv
    by_cases p0 : p = [109, 111, 118, 101]
    · have s0 := bs_eq (hsp.trans p0)
      cases hq : v01B q
      · have HR := Lib.hid (show R = none by rw [HP.out, hq]; rfl)
        clear HP HI HV
        go_wp2
        exact bodyPost_ret (v := .tuple #[.agg #[.int .i64 0, .int .i64 v, .int .i64 0], .bool false]) (results_cell_tmp_row Tryd.results15 _ _ w.heap.size 40 #[.int .i64 0, .int .i64 v, .int .i64 0] _ rfl (show Blk _ _ #[.int .i64 0, .int .i64 v, .int .i64 0] 40 from ((X2.out.set 0 (.int .i64 0)).set 1 (.int .i64 v)).set 2 (.int .i64 0)) _ rfl Tryd.underlying40 rfl (by kernel_rfl)) rfl ⟨⟨0, v, 0⟩, by rw [HR.out]; rfl, (fun y h => by rw [HR.out] at h; cases h), Below.setCell (Below.setCell (Below.setCell B2.out (show w.heap.size ≤ (⟨w.heap.size, 0, none⟩ : Addr).block from Nat.le_refl _) _) (show w.heap.size ≤ (⟨w.heap.size, 1, none⟩ : Addr).block from Nat.le_refl _) _) (show w.heap.size ≤ (⟨w.heap.size, 2, none⟩ : Addr).block from Nat.le_refl _) _⟩
      · have HR := Lib.hid (show R = some ⟨0, v, 0⟩ by rw [HP.out, hq, if_pos rfl, if_pos p0, HV.out hq])
        have hI := HI.out hq
        rw [← HV.out hq] at hI
        clear HP HI HV
        go_wp2
        exact bodyPost_ret (v := .tuple #[.agg #[.int .i64 0, .int .i64 v, .int .i64 0], .bool true]) (results_cell_tmp_row Tryd.results15 _ _ w.heap.size 40 #[.int .i64 0, .int .i64 v, .int .i64 0] _ rfl (show Blk _ _ #[.int .i64 0, .int .i64 v, .int .i64 0] 40 from ((X2.out.set 0 (.int .i64 0)).set 1 (.int .i64 v)).set 2 (.int .i64 0)) _ rfl Tryd.underlying40 rfl (by kernel_rfl)) rfl ⟨⟨0, v, 0⟩, by rw [HR.out]; rfl, (fun y h => by rw [HR.out] at h; cases h; exact ⟨rfl, ok3 (by decide) hI (by decide)⟩), Below.setCell (Below.setCell (Below.setCell B2.out (show w.heap.size ≤ (⟨w.heap.size, 0, none⟩ : Addr).block from Nat.le_refl _) _) (show w.heap.size ≤ (⟨w.heap.size, 1, none⟩ : Addr).block from Nat.le_refl _) _) (show w.heap.size ≤ (⟨w.heap.size, 2, none⟩ : Addr).block from Nat.le_refl _) _⟩
    have s0 := bs_ne (fun h => p0 (hsp.symm.trans h))
    by_cases p1 : p = [99, 108, 101, 97, 114]
    · have s1 := bs_eq (hsp.trans p1)
      cases hq : v01B q
      · have HR := Lib.hid (show R = none by rw [HP.out, hq]; rfl)
        clear HP HI HV
        go_wp2
        exact bodyPost_ret (v := .tuple #[.agg #[.int .i64 1, .int .i64 v, .int .i64 1], .bool false]) (results_cell_tmp_row Tryd.results15 _ _ w.heap.size 40 #[.int .i64 1, .int .i64 v, .int .i64 1] _ rfl (show Blk _ _ #[.int .i64 1, .int .i64 v, .int .i64 1] 40 from ((X2.out.set 0 (.int .i64 1)).set 1 (.int .i64 v)).set 2 (.int .i64 1)) _ rfl Tryd.underlying40 rfl (by kernel_rfl)) rfl ⟨⟨1, v, 1⟩, by rw [HR.out]; rfl, (fun y h => by rw [HR.out] at h; cases h), Below.setCell (Below.setCell (Below.setCell B2.out (show w.heap.size ≤ (⟨w.heap.size, 0, none⟩ : Addr).block from Nat.le_refl _) _) (show w.heap.size ≤ (⟨w.heap.size, 1, none⟩ : Addr).block from Nat.le_refl _) _) (show w.heap.size ≤ (⟨w.heap.size, 2, none⟩ : Addr).block from Nat.le_refl _) _⟩
      · have HR := Lib.hid (show R = some ⟨1, v, 1⟩ by rw [HP.out, hq, if_pos rfl, if_neg p0, if_pos p1, HV.out hq])
        have hI := HI.out hq
        rw [← HV.out hq] at hI
        clear HP HI HV
        go_wp2
        exact bodyPost_ret (v := .tuple #[.agg #[.int .i64 1, .int .i64 v, .int .i64 1], .bool true]) (results_cell_tmp_row Tryd.results15 _ _ w.heap.size 40 #[.int .i64 1, .int .i64 v, .int .i64 1] _ rfl (show Blk _ _ #[.int .i64 1, .int .i64 v, .int .i64 1] 40 from ((X2.out.set 0 (.int .i64 1)).set 1 (.int .i64 v)).set 2 (.int .i64 1)) _ rfl Tryd.underlying40 rfl (by kernel_rfl)) rfl ⟨⟨1, v, 1⟩, by rw [HR.out]; rfl, (fun y h => by rw [HR.out] at h; cases h; exact ⟨rfl, ok3 (by decide) hI (by decide)⟩), Below.setCell (Below.setCell (Below.setCell B2.out (show w.heap.size ≤ (⟨w.heap.size, 0, none⟩ : Addr).block from Nat.le_refl _) _) (show w.heap.size ≤ (⟨w.heap.size, 1, none⟩ : Addr).block from Nat.le_refl _) _) (show w.heap.size ≤ (⟨w.heap.size, 2, none⟩ : Addr).block from Nat.le_refl _) _⟩
    have s1 := bs_ne (fun h => p1 (hsp.symm.trans h))
    by_cases p2 : p = [111, 99, 99, 117, 112, 105, 101, 100]
    · have s2 := bs_eq (hsp.trans p2)
      cases hq : v01B q
      · have HR := Lib.hid (show R = none by rw [HP.out, hq]; rfl)
        clear HP HI HV
        go_wp2
        exact bodyPost_ret (v := .tuple #[.agg #[.int .i64 1, .int .i64 v, .int .i64 2], .bool false]) (results_cell_tmp_row Tryd.results15 _ _ w.heap.size 40 #[.int .i64 1, .int .i64 v, .int .i64 2] _ rfl (show Blk _ _ #[.int .i64 1, .int .i64 v, .int .i64 2] 40 from ((X2.out.set 0 (.int .i64 1)).set 1 (.int .i64 v)).set 2 (.int .i64 2)) _ rfl Tryd.underlying40 rfl (by kernel_rfl)) rfl ⟨⟨1, v, 2⟩, by rw [HR.out]; rfl, (fun y h => by rw [HR.out] at h; cases h), Below.setCell (Below.setCell (Below.setCell B2.out (show w.heap.size ≤ (⟨w.heap.size, 0, none⟩ : Addr).block from Nat.le_refl _) _) (show w.heap.size ≤ (⟨w.heap.size, 1, none⟩ : Addr).block from Nat.le_refl _) _) (show w.heap.size ≤ (⟨w.heap.size, 2, none⟩ : Addr).block from Nat.le_refl _) _⟩
      · have HR := Lib.hid (show R = some ⟨1, v, 2⟩ by rw [HP.out, hq, if_pos rfl, if_neg p0, if_neg p1, if_pos p2, HV.out hq])
        have hI := HI.out hq
        rw [← HV.out hq] at hI
        clear HP HI HV
        go_wp2
        exact bodyPost_ret (v := .tuple #[.agg #[.int .i64 1, .int .i64 v, .int .i64 2], .bool true]) (results_cell_tmp_row Tryd.results15 _ _ w.heap.size 40 #[.int .i64 1, .int .i64 v, .int .i64 2] _ rfl (show Blk _ _ #[.int .i64 1, .int .i64 v, .int .i64 2] 40 from ((X2.out.set 0 (.int .i64 1)).set 1 (.int .i64 v)).set 2 (.int .i64 2)) _ rfl Tryd.underlying40 rfl (by kernel_rfl)) rfl ⟨⟨1, v, 2⟩, by rw [HR.out]; rfl, (fun y h => by rw [HR.out] at h; cases h; exact ⟨rfl, ok3 (by decide) hI (by decide)⟩), Below.setCell (Below.setCell (Below.setCell B2.out (show w.heap.size ≤ (⟨w.heap.size, 0, none⟩ : Addr).block from Nat.le_refl _) _) (show w.heap.size ≤ (⟨w.heap.size, 1, none⟩ : Addr).block from Nat.le_refl _) _) (show w.heap.size ≤ (⟨w.heap.size, 2, none⟩ : Addr).block from Nat.le_refl _) _⟩
    have s2 := bs_ne (fun h => p2 (hsp.symm.trans h))
    by_cases p3 : p = [98, 108, 105, 110, 100]
    · have s3 := bs_eq (hsp.trans p3)
      cases hq : v01B q
      · have HR := Lib.hid (show R = none by rw [HP.out, hq]; rfl)
        clear HP HI HV
        go_wp2
        exact bodyPost_ret (v := .tuple #[.agg #[.int .i64 1, .int .i64 v, .int .i64 3], .bool false]) (results_cell_tmp_row Tryd.results15 _ _ w.heap.size 40 #[.int .i64 1, .int .i64 v, .int .i64 3] _ rfl (show Blk _ _ #[.int .i64 1, .int .i64 v, .int .i64 3] 40 from ((X2.out.set 0 (.int .i64 1)).set 1 (.int .i64 v)).set 2 (.int .i64 3)) _ rfl Tryd.underlying40 rfl (by kernel_rfl)) rfl ⟨⟨1, v, 3⟩, by rw [HR.out]; rfl, (fun y h => by rw [HR.out] at h; cases h), Below.setCell (Below.setCell (Below.setCell B2.out (show w.heap.size ≤ (⟨w.heap.size, 0, none⟩ : Addr).block from Nat.le_refl _) _) (show w.heap.size ≤ (⟨w.heap.size, 1, none⟩ : Addr).block from Nat.le_refl _) _) (show w.heap.size ≤ (⟨w.heap.size, 2, none⟩ : Addr).block from Nat.le_refl _) _⟩
      · have HR := Lib.hid (show R = some ⟨1, v, 3⟩ by rw [HP.out, hq, if_pos rfl, if_neg p0, if_neg p1, if_neg p2, if_pos p3, HV.out hq])
        have hI := HI.out hq
        rw [← HV.out hq] at hI
        clear HP HI HV
        go_wp2
        exact bodyPost_ret (v := .tuple #[.agg #[.int .i64 1, .int .i64 v, .int .i64 3], .bool true]) (results_cell_tmp_row Tryd.results15 _ _ w.heap.size 40 #[.int .i64 1, .int .i64 v, .int .i64 3] _ rfl (show Blk _ _ #[.int .i64 1, .int .i64 v, .int .i64 3] 40 from ((X2.out.set 0 (.int .i64 1)).set 1 (.int .i64 v)).set 2 (.int .i64 3)) _ rfl Tryd.underlying40 rfl (by kernel_rfl)) rfl ⟨⟨1, v, 3⟩, by rw [HR.out]; rfl, (fun y h => by rw [HR.out] at h; cases h; exact ⟨rfl, ok3 (by decide) hI (by decide)⟩), Below.setCell (Below.setCell (Below.setCell B2.out (show w.heap.size ≤ (⟨w.heap.size, 0, none⟩ : Addr).block from Nat.le_refl _) _) (show w.heap.size ≤ (⟨w.heap.size, 1, none⟩ : Addr).block from Nat.le_refl _) _) (show w.heap.size ≤ (⟨w.heap.size, 2, none⟩ : Addr).block from Nat.le_refl _) _⟩
    have s3 := bs_ne (fun h => p3 (hsp.symm.trans h))
    have HR := Lib.hid (show R = none by rw [HP.out, if_neg p0, if_neg p1, if_neg p2, if_neg p3]; split <;> rfl)
    clear HP HI HV
    go_wp2
    exact bodyPost_ret (v := .tuple #[.agg #[.int .i64 0, .int .i64 0, .int .i64 0], .bool false]) (results_cell_tmp_row Tryd.results15 _ _ w.heap.size 40 #[.int .i64 0, .int .i64 0, .int .i64 0] _ rfl (show Blk _ _ #[.int .i64 0, .int .i64 0, .int .i64 0] 40 from ((X2.out.set 0 (.int .i64 0)).set 1 (.int .i64 0)).set 2 (.int .i64 0)) _ rfl Tryd.underlying40 rfl (by kernel_rfl)) rfl ⟨⟨0, 0, 0⟩, by rw [HR.out]; rfl, (fun y h => by rw [HR.out] at h; cases h), Below.setCell (Below.setCell (Below.setCell B2.out (show w.heap.size ≤ (⟨w.heap.size, 0, none⟩ : Addr).block from Nat.le_refl _) _) (show w.heap.size ≤ (⟨w.heap.size, 1, none⟩ : Addr).block from Nat.le_refl _) _) (show w.heap.size ≤ (⟨w.heap.size, 2, none⟩ : Addr).block from Nat.le_refl _) _⟩
  · have hn2' : ((n : Int) != 2) = true := by simp; omega
    have HR := Lib.hid (show R = none by
      rw [HP.out]
      split
      · rename_i p q; simp at hn; omega
      · rfl)
    clear HP O
    go_wp2
    exact bodyPost_ret (v := .tuple #[.agg #[.int .i64 0, .int .i64 0, .int .i64 0], .bool false]) (results_cell_tmp_row Tryd.results15 _ _ w.heap.size 40 #[.int .i64 0, .int .i64 0, .int .i64 0] _ rfl (by first | exact X1.out | exact ((X1.out.set 0 (.int .i64 0)).set 1 (.int .i64 0)).set 2 (.int .i64 0)) _ rfl Tryd.underlying40 rfl (by kernel_rfl)) rfl ⟨⟨0, 0, 0⟩, by rw [HR.out]; rfl, (fun y h => by rw [HR.out] at h; cases h), (by first | exact B1.out | exact Below.setCell (Below.setCell (Below.setCell B1.out (show w.heap.size ≤ (⟨w.heap.size, 0, none⟩ : Addr).block from Nat.le_refl _) _) (show w.heap.size ≤ (⟨w.heap.size, 1, none⟩ : Addr).block from Nat.le_refl _) _) (show w.heap.size ≤ (⟨w.heap.size, 2, none⟩ : Addr).block from Nat.le_refl _) _)⟩
end Go.Proofs.YtipkncjjkkijfaaDoor
