/- The text of an event, read by the reference, walked.; Blocks of other types are as they were: what an append leaves.; ReadReplay of the reference, walked. -/
import Derived.Test.YtipkncjjkkijfaaGreatDoorPo
import Derived.Laws.ResultCell
import Derived.Test.YtipkncjjkkijfaaGreatDoorAt
namespace Go.Proofs.YtipkncjjkkijfaaGreatDoor
open Go.RowKit
set_option linter.unusedVariables false
set_option linter.unusedSimpArgs false
theorem results_cell_tmp_row {P : Program} {fn : Func} {p u : Tmp} {ty : TypeId} (h : fn.results = #[.cell p ty, .tmp u]) (tmps : Array Value) (w : World) (g : Nat) (t : TypeId) (cs : Array Value) (d : TypeDesc)
    (hp : tmps.getD p undef = .pointer (some ⟨g, 0, none⟩)) (hg : Blk w g cs t) (v : Value) (hv : tmps.getD u undef = v)
    (hu : P.underlying ty = some d) (hd : (match d with | .struct _ | .array _ _ => true | _ => false) = true) (hi : (P.info? ty).map (·.size) = some cs.size) :
    (results fn tmps).run P w = .ok (.tuple #[.agg cs, v]) w := by
  rw [results_cell_tmp h, hp, hv]
  simp [asAddr, run_loadVar_row w g t ty cs (0, 0) d hg hu hd hi]
theorem ok3 {a b c : Int} (h0 : I64 a) (h1 : I64 b) (h2 : I64 c) : I3.ok ⟨a, b, c⟩ := ⟨h0, h1, h2⟩
theorem i64_valA {b : List UInt8} (h : v01B b = true) : I64 (valA 0 b : Nat) := by
  rw [v01B] at h
  simp only [Bool.and_eq_true, decide_eq_true_eq] at h
  have h1 := valA_lt b 0 h.2.1
  have h2 : 10 ^ b.length ≤ 10 ^ 12 := Nat.pow_le_pow_right (by decide) h.1.2
  have h3 : (10 : Nat) ^ 12 = 1000000000000 := by decide
  unfold I64; omega
theorem bs_eq {t : ByteArray} {l : List UInt8} (h : t.data.toList = l) : (t.toList == l) = true := by rw [ByteArray.toList_eq, h]; simp
theorem bs_ne {t : ByteArray} {l : List UInt8} (h : ¬ t.data.toList = l) : (t.toList == l) = false := by
  rw [ByteArray.toList_eq]; exact beq_eq_false_iff_ne.2 h
set_option maxHeartbeats 2000000 in
theorem spec_l25Read {s : ByteArray} {w : World} (hz : s.size ≤ 1048576) : Calls Tryz.prog 26 #[.string s] w fun e w' => ∃ x : I3, e = .returned (.tuple #[.agg #[.int .i64 x.a, .int .i64 x.b, .int .i64 x.c], .bool (rdE s.data.toList).isSome]) ∧ (∀ y, rdE s.data.toList = some y → y = x ∧ x.ok) ∧ Below w.heap.size w w' := by
  obtain ⟨wA, hwA⟩ : ∃ v, v = w.alloc (.cells #[.int .i64 0, .int .i64 0, .int .i64 0] 38) := ⟨_, rfl⟩
  have hbA : Below w.heap.size w wA := by rw [hwA]; exact below_alloc1 (Below.refl _ _) _
  have hsA : wA.heap.size = w.heap.size + 1 := by rw [hwA]; exact Array.size_push _
  have X0 := Lib.hid (show Blk wA w.heap.size #[.int .i64 0, .int .i64 0, .int .i64 0] 38 by rw [hwA]; exact Blk.made w _ _)
  have HP := Lib.hid (show rdE s.data.toList = match pcs 32 s.data.toList with
    | [a, b] => if v01B b = true then (if a = [109, 111, 118, 101] then some ⟨0, (valA 0 b : Nat), 0⟩ else if a = [99, 108, 101, 97, 114] then some ⟨1, (valA 0 b : Nat), 1⟩ else if a = [111, 99, 99, 117, 112, 105, 101, 100] then some ⟨1, (valA 0 b : Nat), 2⟩ else if a = [98, 108, 105, 110, 100] then some ⟨1, (valA 0 b : Nat), 3⟩ else none) else none
    | _ => none from rfl)
  have hpa := pcs_all 32 s.data.toList
  have KS := Lib.hid (spec_l01Split (s := s) (d := 32) (w := wA) hz)
  rw [str_len] at hpa
  generalize rdE s.data.toList = R at *
  generalize pcs 32 s.data.toList = L at *
  have HPA := Lib.hid hpa
  clear hpa
  go_enter Tryz.func26, Tryz.ntmps26
  go_wp2_with fail
  rw [← hwA]
  clear hwA
  refine Calls.mono KS.out ?_
  rintro e w1 ⟨a, n, c, rfl, ho, hb1⟩
  have X1 := Lib.hid (X0.out.keep hb1)
  have B1 := Lib.hid (below_callS hbA hb1)
  have hn := ho.len
  have O := Lib.hid ho
  have xl := X1.out.lt
  have xf := X1.out.free
  have q0 := X1.out.cell 0
  have q1 := X1.out.cell 1
  have q2 := X1.out.cell 2
  simp only [List.getElem?_toArray, List.getElem?_cons_zero, List.getElem?_cons_succ] at q0 q1 q2
  clear ho hb1 KS X0 hbA hsA
  by_cases hn2 : n = 2
  · subst hn2
    obtain ⟨p, q, rfl⟩ : ∃ p q, L = [p, q] := by
      rw [List.length_map] at hn
      match L, hn with
      | [p, q], _ => exact ⟨p, q, rfl⟩
    have hF := O.out.flats
    obtain ⟨g, off, x, ea, hg, hx, _, c0⟩ := hF.at (i := 0) (by decide)
    obtain ⟨g', off', y, ea', hg', hy, _, c1⟩ := hF.at (i := 1) (by decide)
    rw [ea] at ea'
    simp only [Option.some.injEq, Addr.mk.injEq, and_true] at ea'
    obtain ⟨rfl, rfl⟩ := ea'
    simp at hx hy
    subst hx hy ea
    have c0 := c0 0 _ rfl
    have c1 := c1 0 _ rfl
    simp only [Nat.zero_mul, Nat.add_zero, Nat.one_mul, Nat.mul_one] at c0 c1
    simp only at HP
    have hqs : (strL q).size ≤ 1048576 := by rw [strL_size]; have := HPA.out q (by simp); omega
    have KV := Lib.hid (fun (wx : World) => spec_l01Value (s := strL q) (w := wx) (by unfold maxLen; omega))
    have hvq : v01B (strL q).data.toList = v01B q := by rw [strL_list]
    have hvv : valA 0 (strL q).data.toList = valA 0 q := by rw [strL_list]
    go_wp2_with fail
    refine Calls.mono (KV.out _) ?_
    rintro e w2 ⟨v, rfl, hv, hb2⟩
    rw [hvq] at hv
    rw [hvv] at hv
    have HV := Lib.hid hv
    have X2 := Lib.hid (X1.out.keep hb2)
    have B2 := Lib.hid (below_callS B1.out hb2)
    have c0' := (hb2.cell (p := ⟨g, off, none⟩) hg).trans c0
    have hg2 : g < w2.heap.size := Nat.lt_of_lt_of_le hg hb2.size
    have xl := X2.out.lt
    have xf := X2.out.free
    have q0 := X2.out.cell 0
    have q1 := X2.out.cell 1
    have q2 := X2.out.cell 2
    simp only [List.getElem?_toArray, List.getElem?_cons_zero, List.getElem?_cons_succ] at q0 q1 q2
    rw [hvq]
    have hsp : (strL p).data.toList = p := strL_list p
    have HI := Lib.hid (fun h => i64_valA (b := q) h)
    generalize strL p = S at *
    clear hb2 KV c0 c1 O X1 B1 hv hg hg' hqs hn hvq hvv
    by_cases p0 : p = [109, 111, 118, 101]
    · have s0 := bs_eq (hsp.trans p0)
      cases hq : v01B q
      · have HR := Lib.hid (show R = none by rw [HP.out, hq]; rfl)
        clear HP HI HV
        go_wp2
        exact bodyPost_ret (v := .tuple #[.agg #[.int .i64 0, .int .i64 v, .int .i64 0], .bool false]) (results_cell_tmp_row Tryz.results26 _ _ w.heap.size 38 #[.int .i64 0, .int .i64 v, .int .i64 0] _ rfl (show Blk _ _ #[.int .i64 0, .int .i64 v, .int .i64 0] 38 from ((X2.out.set 0 (.int .i64 0)).set 1 (.int .i64 v)).set 2 (.int .i64 0)) _ rfl Tryz.underlying38 rfl (by kernel_rfl)) rfl ⟨⟨0, v, 0⟩, by rw [HR.out]; rfl, (fun y h => by rw [HR.out] at h; cases h), Below.setCell (Below.setCell (Below.setCell B2.out (show w.heap.size ≤ (⟨w.heap.size, 0, none⟩ : Addr).block from Nat.le_refl _) _) (show w.heap.size ≤ (⟨w.heap.size, 1, none⟩ : Addr).block from Nat.le_refl _) _) (show w.heap.size ≤ (⟨w.heap.size, 2, none⟩ : Addr).block from Nat.le_refl _) _⟩
      · have HR := Lib.hid (show R = some ⟨0, v, 0⟩ by rw [HP.out, hq, if_pos rfl, if_pos p0, HV.out hq])
        have hI := HI.out hq
        rw [← HV.out hq] at hI
        clear HP HI HV
        go_wp2
        exact bodyPost_ret (v := .tuple #[.agg #[.int .i64 0, .int .i64 v, .int .i64 0], .bool true]) (results_cell_tmp_row Tryz.results26 _ _ w.heap.size 38 #[.int .i64 0, .int .i64 v, .int .i64 0] _ rfl (show Blk _ _ #[.int .i64 0, .int .i64 v, .int .i64 0] 38 from ((X2.out.set 0 (.int .i64 0)).set 1 (.int .i64 v)).set 2 (.int .i64 0)) _ rfl Tryz.underlying38 rfl (by kernel_rfl)) rfl ⟨⟨0, v, 0⟩, by rw [HR.out]; rfl, (fun y h => by rw [HR.out] at h; cases h; exact ⟨rfl, ok3 (by decide) hI (by decide)⟩), Below.setCell (Below.setCell (Below.setCell B2.out (show w.heap.size ≤ (⟨w.heap.size, 0, none⟩ : Addr).block from Nat.le_refl _) _) (show w.heap.size ≤ (⟨w.heap.size, 1, none⟩ : Addr).block from Nat.le_refl _) _) (show w.heap.size ≤ (⟨w.heap.size, 2, none⟩ : Addr).block from Nat.le_refl _) _⟩
    have s0 := bs_ne (fun h => p0 (hsp.symm.trans h))
    by_cases p1 : p = [99, 108, 101, 97, 114]
    · have s1 := bs_eq (hsp.trans p1)
      cases hq : v01B q
      · have HR := Lib.hid (show R = none by rw [HP.out, hq]; rfl)
        clear HP HI HV
        go_wp2
        exact bodyPost_ret (v := .tuple #[.agg #[.int .i64 1, .int .i64 v, .int .i64 1], .bool false]) (results_cell_tmp_row Tryz.results26 _ _ w.heap.size 38 #[.int .i64 1, .int .i64 v, .int .i64 1] _ rfl (show Blk _ _ #[.int .i64 1, .int .i64 v, .int .i64 1] 38 from ((X2.out.set 0 (.int .i64 1)).set 1 (.int .i64 v)).set 2 (.int .i64 1)) _ rfl Tryz.underlying38 rfl (by kernel_rfl)) rfl ⟨⟨1, v, 1⟩, by rw [HR.out]; rfl, (fun y h => by rw [HR.out] at h; cases h), Below.setCell (Below.setCell (Below.setCell B2.out (show w.heap.size ≤ (⟨w.heap.size, 0, none⟩ : Addr).block from Nat.le_refl _) _) (show w.heap.size ≤ (⟨w.heap.size, 1, none⟩ : Addr).block from Nat.le_refl _) _) (show w.heap.size ≤ (⟨w.heap.size, 2, none⟩ : Addr).block from Nat.le_refl _) _⟩
      · have HR := Lib.hid (show R = some ⟨1, v, 1⟩ by rw [HP.out, hq, if_pos rfl, if_neg p0, if_pos p1, HV.out hq])
        have hI := HI.out hq
        rw [← HV.out hq] at hI
        clear HP HI HV
        go_wp2
        exact bodyPost_ret (v := .tuple #[.agg #[.int .i64 1, .int .i64 v, .int .i64 1], .bool true]) (results_cell_tmp_row Tryz.results26 _ _ w.heap.size 38 #[.int .i64 1, .int .i64 v, .int .i64 1] _ rfl (show Blk _ _ #[.int .i64 1, .int .i64 v, .int .i64 1] 38 from ((X2.out.set 0 (.int .i64 1)).set 1 (.int .i64 v)).set 2 (.int .i64 1)) _ rfl Tryz.underlying38 rfl (by kernel_rfl)) rfl ⟨⟨1, v, 1⟩, by rw [HR.out]; rfl, (fun y h => by rw [HR.out] at h; cases h; exact ⟨rfl, ok3 (by decide) hI (by decide)⟩), Below.setCell (Below.setCell (Below.setCell B2.out (show w.heap.size ≤ (⟨w.heap.size, 0, none⟩ : Addr).block from Nat.le_refl _) _) (show w.heap.size ≤ (⟨w.heap.size, 1, none⟩ : Addr).block from Nat.le_refl _) _) (show w.heap.size ≤ (⟨w.heap.size, 2, none⟩ : Addr).block from Nat.le_refl _) _⟩
    have s1 := bs_ne (fun h => p1 (hsp.symm.trans h))
    by_cases p2 : p = [111, 99, 99, 117, 112, 105, 101, 100]
    · have s2 := bs_eq (hsp.trans p2)
      cases hq : v01B q
      · have HR := Lib.hid (show R = none by rw [HP.out, hq]; rfl)
        clear HP HI HV
        go_wp2
        exact bodyPost_ret (v := .tuple #[.agg #[.int .i64 1, .int .i64 v, .int .i64 2], .bool false]) (results_cell_tmp_row Tryz.results26 _ _ w.heap.size 38 #[.int .i64 1, .int .i64 v, .int .i64 2] _ rfl (show Blk _ _ #[.int .i64 1, .int .i64 v, .int .i64 2] 38 from ((X2.out.set 0 (.int .i64 1)).set 1 (.int .i64 v)).set 2 (.int .i64 2)) _ rfl Tryz.underlying38 rfl (by kernel_rfl)) rfl ⟨⟨1, v, 2⟩, by rw [HR.out]; rfl, (fun y h => by rw [HR.out] at h; cases h), Below.setCell (Below.setCell (Below.setCell B2.out (show w.heap.size ≤ (⟨w.heap.size, 0, none⟩ : Addr).block from Nat.le_refl _) _) (show w.heap.size ≤ (⟨w.heap.size, 1, none⟩ : Addr).block from Nat.le_refl _) _) (show w.heap.size ≤ (⟨w.heap.size, 2, none⟩ : Addr).block from Nat.le_refl _) _⟩
      · have HR := Lib.hid (show R = some ⟨1, v, 2⟩ by rw [HP.out, hq, if_pos rfl, if_neg p0, if_neg p1, if_pos p2, HV.out hq])
        have hI := HI.out hq
        rw [← HV.out hq] at hI
        clear HP HI HV
        go_wp2
        exact bodyPost_ret (v := .tuple #[.agg #[.int .i64 1, .int .i64 v, .int .i64 2], .bool true]) (results_cell_tmp_row Tryz.results26 _ _ w.heap.size 38 #[.int .i64 1, .int .i64 v, .int .i64 2] _ rfl (show Blk _ _ #[.int .i64 1, .int .i64 v, .int .i64 2] 38 from ((X2.out.set 0 (.int .i64 1)).set 1 (.int .i64 v)).set 2 (.int .i64 2)) _ rfl Tryz.underlying38 rfl (by kernel_rfl)) rfl ⟨⟨1, v, 2⟩, by rw [HR.out]; rfl, (fun y h => by rw [HR.out] at h; cases h; exact ⟨rfl, ok3 (by decide) hI (by decide)⟩), Below.setCell (Below.setCell (Below.setCell B2.out (show w.heap.size ≤ (⟨w.heap.size, 0, none⟩ : Addr).block from Nat.le_refl _) _) (show w.heap.size ≤ (⟨w.heap.size, 1, none⟩ : Addr).block from Nat.le_refl _) _) (show w.heap.size ≤ (⟨w.heap.size, 2, none⟩ : Addr).block from Nat.le_refl _) _⟩
    have s2 := bs_ne (fun h => p2 (hsp.symm.trans h))
    by_cases p3 : p = [98, 108, 105, 110, 100]
    · have s3 := bs_eq (hsp.trans p3)
      cases hq : v01B q
      · have HR := Lib.hid (show R = none by rw [HP.out, hq]; rfl)
        clear HP HI HV
        go_wp2
        exact bodyPost_ret (v := .tuple #[.agg #[.int .i64 1, .int .i64 v, .int .i64 3], .bool false]) (results_cell_tmp_row Tryz.results26 _ _ w.heap.size 38 #[.int .i64 1, .int .i64 v, .int .i64 3] _ rfl (show Blk _ _ #[.int .i64 1, .int .i64 v, .int .i64 3] 38 from ((X2.out.set 0 (.int .i64 1)).set 1 (.int .i64 v)).set 2 (.int .i64 3)) _ rfl Tryz.underlying38 rfl (by kernel_rfl)) rfl ⟨⟨1, v, 3⟩, by rw [HR.out]; rfl, (fun y h => by rw [HR.out] at h; cases h), Below.setCell (Below.setCell (Below.setCell B2.out (show w.heap.size ≤ (⟨w.heap.size, 0, none⟩ : Addr).block from Nat.le_refl _) _) (show w.heap.size ≤ (⟨w.heap.size, 1, none⟩ : Addr).block from Nat.le_refl _) _) (show w.heap.size ≤ (⟨w.heap.size, 2, none⟩ : Addr).block from Nat.le_refl _) _⟩
      · have HR := Lib.hid (show R = some ⟨1, v, 3⟩ by rw [HP.out, hq, if_pos rfl, if_neg p0, if_neg p1, if_neg p2, if_pos p3, HV.out hq])
        have hI := HI.out hq
        rw [← HV.out hq] at hI
        clear HP HI HV
        go_wp2
        exact bodyPost_ret (v := .tuple #[.agg #[.int .i64 1, .int .i64 v, .int .i64 3], .bool true]) (results_cell_tmp_row Tryz.results26 _ _ w.heap.size 38 #[.int .i64 1, .int .i64 v, .int .i64 3] _ rfl (show Blk _ _ #[.int .i64 1, .int .i64 v, .int .i64 3] 38 from ((X2.out.set 0 (.int .i64 1)).set 1 (.int .i64 v)).set 2 (.int .i64 3)) _ rfl Tryz.underlying38 rfl (by kernel_rfl)) rfl ⟨⟨1, v, 3⟩, by rw [HR.out]; rfl, (fun y h => by rw [HR.out] at h; cases h; exact ⟨rfl, ok3 (by decide) hI (by decide)⟩), Below.setCell (Below.setCell (Below.setCell B2.out (show w.heap.size ≤ (⟨w.heap.size, 0, none⟩ : Addr).block from Nat.le_refl _) _) (show w.heap.size ≤ (⟨w.heap.size, 1, none⟩ : Addr).block from Nat.le_refl _) _) (show w.heap.size ≤ (⟨w.heap.size, 2, none⟩ : Addr).block from Nat.le_refl _) _⟩
    have s3 := bs_ne (fun h => p3 (hsp.symm.trans h))
    have HR := Lib.hid (show R = none by rw [HP.out, if_neg p0, if_neg p1, if_neg p2, if_neg p3]; split <;> rfl)
    clear HP HI HV
    go_wp2
    exact bodyPost_ret (v := .tuple #[.agg #[.int .i64 0, .int .i64 0, .int .i64 0], .bool false]) (results_cell_tmp_row Tryz.results26 _ _ w.heap.size 38 #[.int .i64 0, .int .i64 0, .int .i64 0] _ rfl (show Blk _ _ #[.int .i64 0, .int .i64 0, .int .i64 0] 38 from ((X2.out.set 0 (.int .i64 0)).set 1 (.int .i64 0)).set 2 (.int .i64 0)) _ rfl Tryz.underlying38 rfl (by kernel_rfl)) rfl ⟨⟨0, 0, 0⟩, by rw [HR.out]; rfl, (fun y h => by rw [HR.out] at h; cases h), Below.setCell (Below.setCell (Below.setCell B2.out (show w.heap.size ≤ (⟨w.heap.size, 0, none⟩ : Addr).block from Nat.le_refl _) _) (show w.heap.size ≤ (⟨w.heap.size, 1, none⟩ : Addr).block from Nat.le_refl _) _) (show w.heap.size ≤ (⟨w.heap.size, 2, none⟩ : Addr).block from Nat.le_refl _) _⟩
  · have hn2' : ((n : Int) != 2) = true := by simp; omega
    have HR := Lib.hid (show R = none by
      rw [HP.out]
      split
      · rename_i p q; simp at hn; omega
      · rfl)
    clear HP O
    go_wp2
    exact bodyPost_ret (v := .tuple #[.agg #[.int .i64 0, .int .i64 0, .int .i64 0], .bool false]) (results_cell_tmp_row Tryz.results26 _ _ w.heap.size 38 #[.int .i64 0, .int .i64 0, .int .i64 0] _ rfl (by first | exact X1.out | exact ((X1.out.set 0 (.int .i64 0)).set 1 (.int .i64 0)).set 2 (.int .i64 0)) _ rfl Tryz.underlying38 rfl (by kernel_rfl)) rfl ⟨⟨0, 0, 0⟩, by rw [HR.out]; rfl, (fun y h => by rw [HR.out] at h; cases h), (by first | exact B1.out | exact Below.setCell (Below.setCell (Below.setCell B1.out (show w.heap.size ≤ (⟨w.heap.size, 0, none⟩ : Addr).block from Nat.le_refl _) _) (show w.heap.size ≤ (⟨w.heap.size, 1, none⟩ : Addr).block from Nat.le_refl _) _) (show w.heap.size ≤ (⟨w.heap.size, 2, none⟩ : Addr).block from Nat.le_refl _) _)⟩
theorem OwnF.ty9 {α : Type} {k : Nat} {enc : α → List Value} {ok : α → Prop} {E : TypeId} {w : World} {base g : Nat} {a : Option Addr} {n c : Nat} {l : List α} (h : OwnF k enc ok E w base a n c l) (e : a = some ⟨g, 0, none⟩) : ∃ cur, w.heap[g]? = some (.cells cur E (0, 0)) := by
  rcases h.1.2 with ⟨he, _⟩ | ⟨q, cap, cur, he, _, hg, _⟩
  · simp only [Value.slice.injEq] at he
    rw [he.1] at e; cases e
  · simp only [Value.slice.injEq] at he
    rw [he.1] at e
    simp only [Option.some.injEq, Addr.mk.injEq, and_true] at e
    exact ⟨cur, by rw [← e]; exact hg⟩
theorem OwnF.same {α : Type} {k : Nat} {enc : α → List Value} {ok : α → Prop} {E : TypeId} {w w' : World} {base : Nat} {a : Option Addr} {n c : Nat} {l : List α} (h : OwnF k enc ok E w base a n c l) (hs : ∀ g, a = some ⟨g, 0, none⟩ → w'.heap[g]? = w.heap[g]?) : OwnF k enc ok E w' base a n c l := by
  obtain ⟨⟨hl, h2⟩, hw⟩ := h
  refine ⟨⟨hl, ?_⟩, hw⟩
  rcases h2 with h2 | ⟨g, cap, cur, he, hbs, hg, r⟩
  · exact .inl h2
  · have he' := he
    simp only [Value.slice.injEq] at he'
    exact .inr ⟨g, cap, cur, he, hbs, by rw [hs g he'.1]; exact hg, r⟩
/-- blocks of other types are as they were -/
def OthT (e : TypeId) (w w' : World) : Prop := ∀ (g : Nat) (cur : Array Value) (T : TypeId), w.heap[g]? = some (.cells cur T (0, 0)) → T ≠ e → w'.heap[g]? = w.heap[g]?
theorem Blk.oth {w w' : World} {b : Nat} {cs : Array Value} {T e : TypeId} (h : Blk w b cs T) (ho : OthT e w w') (hT : T ≠ e) : Blk w' b cs T := (ho b cs T h hT).trans h
theorem OwnF.oth {α : Type} {k : Nat} {enc : α → List Value} {ok : α → Prop} {E e : TypeId} {w w' : World} {base : Nat} {a : Option Addr} {n c : Nat} {l : List α} (h : OwnF k enc ok E w base a n c l) (ho : OthT e w w') (hE : E ≠ e) : OwnF k enc ok E w' base a n c l :=
  h.same fun g eg => by obtain ⟨cur, hc⟩ := h.ty9 eg; exact ho g cur E hc hE
theorem appTy {α : Type} {k : Nat} {enc : α → List Value} {ok : α → Prop} {zv : Value} {by' : Nat} {P : Program} {w w0 : World} {ops : Array Oper} {rest : List Oper} {o : Oper} {act : Act} {Q : Exit → Act → World → Prop} {cs : Array Value} {t e : TypeId} (y : α) (hgd : o.guard = none) (s x : Operand)
    (ho : o.op = .call { callee := .builtin .append, args := #[s, x], argTypes := #[t, t] }) (ht : P.underlying t = some (.slice e)) (hinfo : (P.info? e).map (fun i => (i.zero, i.size, i.bytes)) = some (some zv, k, by'))
    (hzs : zv.cells.size = k) (hk : 0 < k) (hby : by' ≤ 128) (hone : ∀ y : α, ∀ u ∈ enc y, u.oneCell' = true)
    (a : Option Addr) (n c : Nat) (l : List α) (hown : OwnF k enc ok e w w0.heap.size a n c l) (hs : act.eval s = .slice a n c) (gx : Nat) (hx : act.eval x = .slice (some ⟨gx, 0, none⟩) 1 1) (hg : gx = w.heap.size) (hcs : cs = (enc y).toArray) (hok2 : ok y)
    (hn : n ≤ 4194303) (hbase : Below w0.heap.size w0 w)
    (K : ∀ a' c' w', OwnF k enc ok e w' w0.heap.size a' (n + 1) c' (l ++ [y]) → Below w0.heap.size w0 w' → OthT e w w' → wpList P ops Q rest (act.put o.dst (.slice a' (n + 1) c')) w') : wpList P ops Q (o :: rest) act (w.alloc (.cells cs e)) := by
  refine appAtL (m := 1) (l2 := [y]) hgd s x ho ht hinfo hzs hk hby hone w0.heap.size a n c l hown hs gx hx hg (by rw [hcs]; simp) rfl (fun z hz => by simp at hz; rw [hz]; exact hok2) (by decide) (by omega) (by decide) hbase.size ?_
  intro g' c' w' h1 h2 h3 _ _
  refine K _ c' w' h1 (hbase.trans h2) ?_
  intro g cur T hh hT
  have hlt : g < w.heap.size := Nat.lt_of_not_le fun h => by rw [Array.getElem?_eq_none h] at hh; cases hh
  refine h3.block g hlt ?_
  intro eo
  have ha : a = some ⟨g, 0, none⟩ := by
    rcases hown.1.2 with ⟨he, _⟩ | ⟨q, cap, cu, he, _⟩
    · simp only [Value.slice.injEq] at he
      rw [he.1] at eo; simp [Value.ownBlock] at eo
    · simp only [Value.slice.injEq] at he
      obtain ⟨rfl, _⟩ := he
      simp [Value.ownBlock] at eo; rw [eo]
  obtain ⟨cur2, hc2⟩ := hown.ty9 ha
  rw [hh] at hc2
  simp only [Option.some.injEq, Obj.cells.injEq] at hc2
  exact hT hc2.2.1
abbrev OwnE := OwnF 3 I3.enc I3.ok 38
theorem rd_take {f : List UInt8 → Option I3} {ps : List (List UInt8)} {L : List I3} {k : Nat} {p : List UInt8} {x : I3} (h : (ps.take k).map f = L.map some) (hp : ps[k]? = some p) (hx : f p = some x) : (ps.take (k + 1)).map f = (L ++ [x]).map some := by
  rw [take_at hp, List.map_append, h, List.map_append]
  simp [hx]
theorem rd_none {f : List UInt8 → Option I3} : ∀ {ps : List (List UInt8)} {p : List UInt8}, p ∈ ps → f p = none → rdAll f ps = none
  | [], p, h, _ => by cases h
  | q :: r, p, h, hn => by
    rw [rdAll]
    rcases List.mem_cons.1 h with rfl | h
    · rw [hn]
    · cases f q with
      | none => rfl
      | some e => simp only [rd_none h hn]
theorem rdE_ne {p : List UInt8} {x : I3} (h : rdE p = some x) : p ≠ [] := by
  rintro rfl
  cases h
theorem rd_short {ps : List (List UInt8)} {L : List I3} (h : ps.map rdE = L.map some) : ∀ p ∈ ps, p ≠ [] := by
  intro p hp
  have h1 : rdE p ∈ L.map some := by rw [← h]; exact List.mem_map_of_mem hp
  obtain ⟨x, _, hx⟩ := List.mem_map.1 h1
  exact rdE_ne hx.symm
theorem I3.one3 (y : I3) : ∀ u ∈ y.enc, u.oneCell' = true := fun u hu => by
  simp only [I3.enc, List.mem_cons, List.not_mem_nil, or_false] at hu
  rcases hu with rfl | rfl | rfl <;> rfl
theorem rrO_none {b : Int} {l : List Int} {s : List UInt8} (h : rdAll rdE (pcR s) = none) : rrO b l s = none := by rw [rrO, h]
theorem rrO_some {b : Int} {l : List Int} {s : List UInt8} {L : List I3} (h : rdAll rdE (pcR s) = some L) : rrO b l s = if rpC b l L = 0 then some L else none := by rw [rrO, h]
theorem OwnE.nil (w : World) (base : Nat) : OwnE w base none 0 0 [] := ⟨World.ownsRow_nil w _ _ _, (fun _ h => by cases h), rfl, fun _ => rfl⟩
set_option maxHeartbeats 4000000 in
theorem spec_ReadReplay {b : Int} {a : Option Addr} {n c : Nat} {l : List Int} {s : ByteArray} {w : World} (hI : Ints w a n c l) (hn : n ≤ 1048576) (hz : s.size ≤ 1048576) :
    Calls Tryz.prog 9 #[.agg #[.int .i64 b, .slice a n c], .string s] w fun e w' => ∃ a' n' c', e = .returned (.tuple #[.slice a' n' c', .bool (rrO b l s.data.toList).isSome]) ∧ OwnE w' w.heap.size a' n' c' ((rrO b l s.data.toList).getD []) ∧ Below w.heap.size w w' := by
  obtain ⟨wA, hwA⟩ : ∃ v, v = (w.alloc (.cells #[.int .i64 b, .slice a n c] 26)).alloc (.cells #[] 38) := ⟨_, rfl⟩
  have hb0 : Below w.heap.size w (w.alloc (.cells #[.int .i64 b, .slice a n c] 26)) := below_alloc1 (Below.refl _ _) _
  have hs0 : (w.alloc (.cells #[.int .i64 b, .slice a n c] 26)).heap.size = w.heap.size + 1 := Array.size_push _
  have hbA : Below w.heap.size w wA := by rw [hwA]; exact below_callS hb0 (below_alloc1 (Below.refl _ _) _)
  have hsA : wA.heap.size = w.heap.size + 2 := by rw [hwA]; show (Array.push _ _).size = _; rw [Array.size_push]; omega
  have X0 := Lib.hid (show Blk wA w.heap.size #[.int .i64 b, .slice a n c] 26 by rw [hwA]; exact (Blk.made w _ _).keep (below_alloc1 (Below.refl _ _) _))
  have O0 := Lib.hid (show OwnE wA w.heap.size (some ⟨w.heap.size + 1, 0, none⟩) 0 0 [] by
    rw [hwA, ← hs0]
    exact (OwnF.emp (w.alloc (.cells #[.int .i64 b, .slice a n c] 26)) (by omega) (fun _ => rfl)))
  have HI := Lib.hid hI
  clear hI hb0 hs0
  by_cases h0 : s.size = 0
  · have hs : s.data.toList = [] := by
      have := str_len s
      exact List.length_eq_zero_iff.1 (by omega)
    have hse : (s.toList != []) = false := by rw [ByteArray.toList_eq, hs]; rfl
    have hse2 : s.toList.isEmpty = true := by rw [ByteArray.toList_eq, hs]; rfl
    have HR := Lib.hid (show rdAll rdE (pcR s.data.toList) = some [] by rw [hs]; rfl)
    have HR2 := Lib.hid (rrO_some (b := b) (l := l) HR.out)
    clear HR hs
    generalize rrO b l s.data.toList = R at *
    go_enter Tryz.func9, Tryz.ntmps9
    go_upto_region 11 with fail
    rw [← hwA]
    have hbZ := hbA
    have OZ := O0
    have XZ := X0
    clear hwA O0 X0
    have x0 := XZ.out.cell 0
    have x1 := XZ.out.cell 1
    have xl := XZ.out.lt
    simp only [List.getElem?_toArray, List.getElem?_cons_zero, List.getElem?_cons_succ] at x0 x1
    go_wp2_with fail
    refine Calls.mono (spec_l25Code (HI.out.keep hbZ) OZ.out.flats hn (by omega)) ?_
    rintro e wY ⟨rfl, hbY⟩
    have OY := Lib.hid (OZ.out.keep hbY)
    have BY := Lib.hid (below_callS hbZ hbY)
    by_cases hC : rpC b l [] = 0
    · have HR := Lib.hid (show R = some [] by rw [HR2.out, if_pos hC])
      rw [hC]
      clear HR2 hbY hbZ OZ
      go_wp2
      exact bodyPost_ret (v := .tuple #[.slice (some ⟨w.heap.size + 1, 0, none⟩) 0 0, .bool true]) (by simp [results, Tryz.results9, go_sem]) rfl ⟨_, _, _, by rw [HR.out]; rfl, by rw [HR.out]; exact OY.out, BY.out⟩
    · have HR := Lib.hid (show R = none by rw [HR2.out, if_neg hC])
      have hC' : (rpC b l [] != 0) = true := by simpa using hC
      clear HR2 hbY hbZ OZ
      go_wp2
      exact bodyPost_ret (v := .tuple #[.slice none 0 0, .bool false]) (by simp [results, Tryz.results9, go_sem]) rfl ⟨_, _, _, by rw [HR.out]; rfl, by rw [HR.out]; exact OwnE.nil _ _, BY.out⟩
  · have hs : s.data.toList ≠ [] := by
      have := str_len s
      intro h; rw [h] at this; simp at this; omega
    have hse : (s.toList != []) = true := by rw [ByteArray.toList_eq]; simpa using hs
    have hse2 : s.toList.isEmpty = false := by rw [ByteArray.toList_eq]; simpa using hs
    have hpc : pcR s.data.toList = pcs 59 s.data.toList := by rw [pcR, if_neg hs]
    have HS1 := Lib.hid (fun (h : rdAll rdE (pcR s.data.toList) = none) => rrO_none (b := b) (l := l) h)
    have HS2 := Lib.hid (fun (L : List I3) (h : rdAll rdE (pcR s.data.toList) = some L) => rrO_some (b := b) (l := l) h)
    have KS := Lib.hid (spec_l01Split (s := s) (d := 59) (w := wA) hz)
    have hpa := pcs_all 59 s.data.toList
    have hpl := pcs_len 59 s.data.toList
    have hcl := List.count_le_length (l := s.data.toList) (a := (59 : UInt8))
    have hsh := fun h => @pcs_short 59 s.data.toList h
    rw [str_len] at hpa hcl hsh
    rw [hpc] at HS1 HS2
    generalize rrO b l s.data.toList = R at *
    generalize pcs 59 s.data.toList = ps at *
    have HPA := Lib.hid hpa
    have HSH := Lib.hid hsh
    have hps : ps.length ≤ s.size + 1 := by omega
    clear hpa hsh hpl hcl hpc hs
    go_enter Tryz.func9, Tryz.ntmps9
    go_wp2_with fail
    rw [← hwA]
    clear hwA
    refine Calls.mono KS.out ?_
    rintro e w1 ⟨a1, n1, c1, rfl, ho, hb1⟩
    have hn1 := ho.len
    rw [List.length_map] at hn1
    have S1 := Lib.hid ho
    have X1 := Lib.hid (X0.out.keep hb1)
    have O1 := Lib.hid (O0.out.keep hb1)
    have B1 := below_callS hbA hb1
    have HN := Lib.hid hn1
    have hn1b : n1 ≤ 1048577 := by omega
    clear ho hb1 hn1 O0 X0 KS hbA
    go_wp2_with fail
    go_loopw [6, 8] (fun s6 s8 wr => ∃ (k q cq : Nat) (aq : Option Addr) (L : List I3), s6 = .slice aq q cq ∧ s8 = .int .i64 (k : Int) ∧ k ≤ n1 ∧ q ≤ k ∧ Below w.heap.size w wr ∧ Hid (OwnS wr wA.heap.size a1 n1 c1 (ps.map strL)) ∧ Hid (Blk wr w.heap.size #[.int .i64 b, .slice a n c] 26) ∧ Hid (OwnE wr w.heap.size aq q cq L) ∧ Hid ((ps.take k).map rdE = L.map some)) (fun _ s8 _ => n1 - (intOf s8).toNat)
    case atStart => exact ⟨0, 0, 0, _, [], rfl, rfl, by omega, by omega, B1, S1, X1, O1, Lib.hid rfl⟩
    case round =>
      clear O1 B1 S1 X1
      obtain ⟨k, q, cq, aq, L, rfl, rfl, hk, hqk, hbl, S, X, O, E⟩ := hrel
      by_cases hlt : k < n1
      · have hk0 : (0 : Int) ≤ (k : Int) := by omega
        have hlt' : (k : Int) < (n1 : Int) := by omega
        obtain ⟨g, off, x, ea, hg, hx, _, c0⟩ := S.out.flats.at hlt
        subst ea
        have c0 := c0 0 _ rfl
        simp only [Nat.mul_one, Nat.add_zero] at c0
        rw [List.getElem?_map] at hx
        obtain ⟨p, hp, hpx⟩ : ∃ p, ps[k]? = some p ∧ strL p = x := by
          cases h : ps[k]? with
          | none => rw [h] at hx; cases hx
          | some p => rw [h] at hx; exact ⟨p, rfl, by simpa using hx⟩
        have hmem := List.mem_of_getElem? hp
        have hpz := HPA.out p hmem
        have hxl : x.data.toList = p := by rw [← hpx, strL_list]
        have hxz : x.size ≤ 1048576 := by rw [← hpx, strL_size]; omega
        have KR := spec_l25Read (s := x) (w := wr) hxz
        rw [hxl] at KR
        have KR := Lib.hid KR
        have HP := Lib.hid hp
        have HNO := Lib.hid (fun h : rdE p = none => HS1.out (rd_none hmem h))
        have HTK := Lib.hid (fun (y : I3) (h : rdE p = some y) => rd_take E.out HP.out h)
        clear hx hp hmem hpz hxl hxz hpx
        go_wp2_with fail
        refine Calls.mono KR.out ?_
        rintro e w2 ⟨y, rfl, hy, hb2⟩
        have HY := Lib.hid hy
        have O2 := Lib.hid (O.out.keep hb2)
        have B2 := below_callS hbl hb2
        have S2 := Lib.hid (S.out.keep hb2)
        have X2 := Lib.hid (X.out.keep hb2)
        clear hy hb2 KR O S X hbl c0 hg
        cases hr : rdE p with
        | none =>
          have HR := Lib.hid (HNO.out hr)
          have hrs : (rdE p).isSome = false := by rw [hr]; rfl
          have hbF := below_allocS B2 (.cells #[.int .i64 y.a, .int .i64 y.b, .int .i64 y.c] 38)
          clear HTK HNO HY HS1 HS2
          go_wp2_with fail
          exact bodyPost_ret (v := .tuple #[.slice none 0 0, .bool false]) (by simp [results, Tryz.results9, go_sem]) rfl ⟨_, _, _, by rw [HR.out]; rfl, by rw [HR.out]; exact OwnE.nil _ _, hbF⟩
        | some z =>
          have hrs : (rdE p).isSome = true := by rw [hr]; rfl
          obtain ⟨rfl, hok⟩ := HY.out z hr
          have HE := Lib.hid (HTK.out _ hr)
          have HOK := Lib.hid hok
          clear HTK HNO HY hok hr
          obtain ⟨wB, hwB⟩ : ∃ v, v = w2.alloc (.cells #[.int .i64 z.a, .int .i64 z.b, .int .i64 z.c] 38) := ⟨_, rfl⟩
          have hbB2 : Below w2.heap.size w2 wB := by rw [hwB]; exact below_alloc1 (Below.refl _ _) _
          have hBK : Blk wB w2.heap.size #[.int .i64 z.a, .int .i64 z.b, .int .i64 z.c] 38 := by rw [hwB]; exact Blk.made _ _ _
          have BB := below_callS B2 hbB2
          have OB := Lib.hid (O2.out.keep hbB2)
          have SB := Lib.hid (S2.out.keep hbB2)
          have XB := Lib.hid (X2.out.keep hbB2)
          have f0 := hBK.cell 0
          have f1 := hBK.cell 1
          have f2 := hBK.cell 2
          have hpl := hBK.lt
          simp only [List.getElem?_toArray, List.getElem?_cons_zero, List.getElem?_cons_succ] at f0 f1 f2
          go_upto_region 8 with fail
          rw [← hwB]
          clear hwB hBK hbB2 O2 S2 X2 B2
          go_wp2_with (at_builtin; refine appTy z rfl _ _ rfl Tryz.underlying27 Tryz.infoReplayEvent rfl (by decide) (by decide) I3.one3 _ _ _ _ OB.out rfl _ rfl rfl rfl HOK.out (by omega) BB ?_; intro aD cD wD hoD hbD htD; refine Hid.out ?_)
          have OD := Lib.hid hoD
          have SD := Lib.hid (SB.out.oth htD (by decide))
          have XD := Lib.hid (XB.out.oth htD (by decide))
          clear hoD htD OB SB XB BB
          refine Lib.hid ?_
          go_wp2_with fail
          go_roundw
          case rel => exact ⟨k + 1, q + 1, cD, aD, L ++ [z], rfl, by go_num, by omega, by omega, hbD, SD, XD, OD, HE⟩
          case measure => simp only [intOf]; omega
      · have hlt' : ¬ (k : Int) < (n1 : Int) := by omega
        obtain rfl : k = n1 := by omega
        have hE := E.out
        rw [take_len HN.out] at hE
        have hql : q ≤ 1048576 := by
          have h1 := HSH.out (rd_short hE)
          have h2 := O.out.len
          have h3 := congrArg List.length hE
          rw [List.length_map, List.length_map] at h3
          omega
        have HR2 := Lib.hid (HS2.out L (rdAll_some.2 hE))
        have OZ := O
        have XZ := X
        have hbZ := hbl
        clear hE E O X S hbl HS1 HS2 HSH HPA
        have x0 := XZ.out.cell 0
        have x1 := XZ.out.cell 1
        have xl := XZ.out.lt
        simp only [List.getElem?_toArray, List.getElem?_cons_zero, List.getElem?_cons_succ] at x0 x1
        go_wp2_with fail
        refine Calls.mono (spec_l25Code (HI.out.keep hbZ) OZ.out.flats hn (by omega)) ?_
        rintro e wY ⟨rfl, hbY⟩
        have OY := Lib.hid (OZ.out.keep hbY)
        have BY := Lib.hid (below_callS hbZ hbY)
        by_cases hC : rpC b l L = 0
        · have HR := Lib.hid (show R = some L by rw [HR2.out, if_pos hC])
          rw [hC]
          clear HR2 hbY hbZ OZ
          go_wp2
          exact bodyPost_ret (v := .tuple #[.slice aq q cq, .bool true]) (by simp [results, Tryz.results9, go_sem]) rfl ⟨_, _, _, by rw [HR.out]; rfl, by rw [HR.out]; exact OY.out, BY.out⟩
        · have HR := Lib.hid (show R = none by rw [HR2.out, if_neg hC])
          have hC' : (rpC b l L != 0) = true := by simpa using hC
          clear HR2 hbY hbZ OZ
          go_wp2
          exact bodyPost_ret (v := .tuple #[.slice none 0 0, .bool false]) (by simp [results, Tryz.results9, go_sem]) rfl ⟨_, _, _, by rw [HR.out]; rfl, by rw [HR.out]; exact OwnE.nil _ _, BY.out⟩
end Go.Proofs.YtipkncjjkkijfaaGreatDoor
