/- The search's steps in plain words, as its walk wants them.; The binary search in an ascending list of states, and what the reference's search keeps: plain laws.; The reference's comparison of states, its binary search and its insertion, walked.; The reference's insertion of a state into an ascending list, walked.; How many nodes a join makes: plain laws.; Maps to int64 that the call makes: keyed by int64, by a node, by a pair.; A region that draws its order and whose last operation is a call that changes what the loads before it read. -/
import Derived.Test.YtkaikbaagajckaaGreatK06
import Derived.Test.YtkaikbaagajckaaGreatK03
import Derived.BigRegion
import Derived.BigQuiet
import Derived.Test.YtkaikbaagajckaaGreatK02
import Derived.Test.YtkaikbaagajckaaGreatK01
import Derived.Maps.Own
import Derived.Maps.Views
import Derived.Maps.OwnOps
import Derived.DeepKeys4
import Derived.Test.YtkaikbaagajckaaGreatBase
import Derived.OrdersHeld
namespace Go.Proofs.YtkaikbaagajckaaGreat
open Go.RowKit
set_option linter.unusedVariables false
set_option linter.unusedSimpArgs false
theorem enabI_eq (rs : List RuD) (v : List Int) : enabI rs v rs.length = (enabP rs v).map fun (i : Nat) => (i : Int) := rfl
theorem enabI_at {rs : List RuD} {v : List Int} {j : Nat} {z : Int} (h : (enabI rs v rs.length)[j]? = some z) : ∃ (q : Nat) (r : RuD), z = (q : Int) ∧ q < rs.length ∧ rs[q]? = some r ∧ (enabP rs v)[j]? = some q ∧ (nextP rs v)[j]? = some (q, applyP v r.e) := by
  rw [enabI_eq, List.getElem?_map] at h
  cases hq : (enabP rs v)[j]? with
  | none => rw [hq] at h; cases h
  | some q =>
    rw [hq] at h
    simp only [Option.map_some, Option.some.injEq] at h
    have hm := List.mem_of_getElem? hq
    rw [enabP, List.mem_filter, List.mem_range] at hm
    have hr : rs[q]? = some rs[q] := List.getElem?_eq_getElem hm.1
    refine ⟨q, rs[q], h.symm, hm.1, hr, rfl, ?_⟩
    have e : rs.getD q zRu = rs[q] := by rw [List.getD_eq_getElem?_getD, hr]; rfl
    rw [nextP, List.getElem?_map, hq, Option.map_some, e]
theorem nextP_len (rs : List RuD) (v : List Int) : (nextP rs v).length = (enabI rs v rs.length).length := by rw [nextP, enabI_eq, List.length_map, List.length_map]
/-- the list after the first j enabled rules -/
def expT (rs : List RuD) (i : Nat) (x : SN) (L : List SN) (j : Nat) : List SN := ((nextP rs x.v).take j).foldl (addN i x) L
theorem expT_zero (rs : List RuD) (i : Nat) (x : SN) (L : List SN) : expT rs i x L 0 = L := rfl
theorem expT_step {rs : List RuD} {i : Nat} {x : SN} {L : List SN} {j : Nat} {q : Nat × List Int} (h : (nextP rs x.v)[j]? = some q) : expT rs i x L (j + 1) = addN i x (expT rs i x L j) q := by
  rw [expT, take_at h, List.foldl_append]; rfl
theorem expT_all {rs : List RuD} {i : Nat} {x : SN} {L : List SN} {j : Nat} (h : (nextP rs x.v).length ≤ j) : expT rs i x L j = expN rs i x L := by
  rw [expT, List.take_of_length_le h]; rfl
def hasL (L : List SN) (k : List UInt8) : Bool := L.any fun y => keyL y.v == k
theorem hasL_app (L : List SN) (y : SN) (k : List UInt8) : hasL (L ++ [y]) k = (decide (k = keyL y.v) || hasL L k) := by
  rw [hasL, List.any_append, Bool.or_comm]
  simp only [List.any_cons, List.any_nil, Bool.or_false, hasL]
  congr 1
  rw [Bool.eq_iff_iff, beq_iff_eq, decide_eq_true_iff]
  exact eq_comm
theorem hasL_any {sz : List Int} (hz : ∀ z ∈ sz, z ≤ 256) {L : List SN} (hL : ∀ y ∈ L, SV sz y.v) {v : List Int} (hv : SV sz v) : hasL L (keyL v) = L.any (fun y => y.v == v) := by
  rw [hasL, Bool.eq_iff_iff, List.any_eq_true, List.any_eq_true]
  constructor
  · rintro ⟨y, hy, h⟩
    exact ⟨y, hy, by simpa using keyL_inj hz (hL y hy) hv (by simpa using h)⟩
  · rintro ⟨y, hy, h⟩
    exact ⟨y, hy, by simp at h; simp [h]⟩
theorem addN_old {i : Nat} {x : SN} {L : List SN} {r : Nat × List Int} (h : L.any (fun y => y.v == r.2) = true) : addN i x L r = L := by rw [addN, if_pos h]
theorem addN_new {i : Nat} {x : SN} {L : List SN} {r : Nat × List Int} (h : L.any (fun y => y.v == r.2) = false) : addN i x L r = L ++ [⟨r.2, i, r.1, x.dp + 1, x.tr ++ [(r.1 : Int)]⟩] := by rw [addN, if_neg (by simp [h])]
/-- how deep a found state lies is bounded by its place -/
def DpB (L : List SN) : Prop := ∀ (j : Nat) (y : SN), L[j]? = some y → 0 ≤ y.dp ∧ y.dp ≤ j
theorem DpB.add {L : List SN} (h : DpB L) {i : Nat} {x : SN} (hx : L[i]? = some x) (r : Nat × List Int) : DpB (addN i x L r) := by
  have hi : i < L.length := (List.getElem?_eq_some_iff.1 hx).1
  have hxd := h i x hx
  cases ha : L.any (fun y => y.v == r.2) with
  | true => rw [addN_old ha]; exact h
  | false =>
    rw [addN_new ha]
    intro j y hy
    by_cases hj : j < L.length
    · rw [List.getElem?_append_left hj] at hy; exact h j y hy
    · rw [List.getElem?_append_right (by omega)] at hy
      have hj0 : j - L.length = 0 := by
        have := (List.getElem?_eq_some_iff.1 hy).1
        simp at this; omega
      rw [hj0] at hy
      simp at hy
      subst hy
      exact ⟨by simp only; omega, by simp only; omega⟩
end Go.Proofs.YtkaikbaagajckaaGreat
namespace Go.Proofs.YtkaikbaagajckaaGreat
open Go.RowKit
set_option linter.unusedVariables false
set_option linter.unusedSimpArgs false
theorem plc_up {m : Nat} {l : List (List Int)} {x a : List Int} {k : Nat} (h : AscS m l) (hx : x.length = m) (ha : l[k]? = some a) (hc : cmpL a x < 0) : ∀ (i : Nat) (b : List Int), l[i]? = some b → i < k + 1 → cmpL b x < 0 := by
  intro i b hb hi
  by_cases e : i = k
  · subst e; rw [ha] at hb; cases hb; exact hc
  · have l1 := h.1 b (List.mem_of_getElem? hb)
    have l2 := h.1 a (List.mem_of_getElem? ha)
    exact cmpL_trans (by rw [l1, l2]) (by rw [l2, hx]) (asc_lt h hb ha (by omega)) hc
theorem plc_dn {m : Nat} {l : List (List Int)} {x a : List Int} {k : Nat} (h : AscS m l) (hx : x.length = m) (ha : l[k]? = some a) (hc : ¬ cmpL a x < 0) : ∀ (i : Nat) (b : List Int), l[i]? = some b → k ≤ i → 0 ≤ cmpL b x := by
  intro i b hb hi
  by_cases e : k = i
  · subst e; rw [ha] at hb; cases hb; omega
  · refine Int.not_lt.1 fun hlt => hc ?_
    have l1 := h.1 b (List.mem_of_getElem? hb)
    have l2 := h.1 a (List.mem_of_getElem? ha)
    exact cmpL_trans (by rw [l1, l2]) (by rw [l1, hx]) (asc_lt h ha hb (by omega)) hlt
theorem cmpL_done {a b : List Int} {k : Nat} (h : a.take k = b.take k) (ha : a.length ≤ k) (hb : b.length ≤ k) : cmpL a b = 0 := by
  rw [List.take_of_length_le ha, List.take_of_length_le hb] at h
  rw [h, cmpL_self]
theorem take_eq_step {a b : List Int} {k : Nat} {x : Int} (h : a.take k = b.take k) (ha : a[k]? = some x) (hb : b[k]? = some x) : a.take (k + 1) = b.take (k + 1) := by rw [take_at ha, take_at hb, h]
theorem cmpL_lt {a b : List Int} {k : Nat} (h : a.take k = b.take k) {x y : Int} (ha : a[k]? = some x) (hb : b[k]? = some y) (hxy : x < y) : cmpL a b = -1 := by rw [cmpL_at h ha hb, if_pos hxy]
theorem cmpL_gt {a b : List Int} {k : Nat} (h : a.take k = b.take k) {x y : Int} (ha : a[k]? = some x) (hb : b[k]? = some y) (hxy : y < x) : cmpL a b = 1 := by rw [cmpL_at h ha hb, if_neg (by omega), if_pos hxy]
/-- a list that grows by one found state -/
theorem any_map {L : List SN} {v : List Int} : L.any (fun y => y.v == v) = decide (v ∈ L.map (·.v)) := by
  rw [Bool.eq_iff_iff, List.any_eq_true, decide_eq_true_iff, List.mem_map]
  constructor
  · rintro ⟨y, hy, h⟩; exact ⟨y, hy, by simpa using h⟩
  · rintro ⟨y, hy, h⟩; exact ⟨y, hy, by simpa using h⟩
theorem expN_len {rs : List RuD} {i : Nat} {x : SN} {L : List SN} {j : Nat} : (expT rs i x L j).length ≤ (expN rs i x L).length := by
  have h : expN rs i x L = ((nextP rs x.v).drop j).foldl (addN i x) (expT rs i x L j) := by
    rw [expT, expN, ← List.foldl_append, List.take_append_drop]
  rw [h]
  obtain ⟨t, ht, _⟩ := foldN_pre i x ((nextP rs x.v).drop j) (expT rs i x L j)
  rw [ht, List.length_append]; omega
theorem exp_over {rs : List RuD} {i : Nat} {x : SN} {L : List SN} {j : Nat} {q : Nat × List Int} (h : (nextP rs x.v)[j]? = some q) (hl : 4000 ≤ (expT rs i x L j).length) (hn : (expT rs i x L j).any (fun y => y.v == q.2) = false) : 4000 < (expN rs i x L).length := by
  have h1 := expN_len (rs := rs) (i := i) (x := x) (L := L) (j := j + 1)
  rw [expT_step h, addN_new hn, List.length_append] at h1
  simp at h1; omega
theorem expT_at {rs : List RuD} {i : Nat} {x : SN} {L : List SN} (hx : L[i]? = some x) (j : Nat) : (expT rs i x L j)[i]? = some x := by
  obtain ⟨t, ht, _⟩ := foldN_pre i x ((nextP rs x.v).take j) L
  rw [expT, ht, List.getElem?_append_left (List.getElem?_eq_some_iff.1 hx).1]; exact hx
theorem expT_pre {rs : List RuD} {i : Nat} {x : SN} {L : List SN} (j : Nat) : L.length ≤ (expT rs i x L j).length := by
  obtain ⟨t, ht, _⟩ := foldN_pre i x ((nextP rs x.v).take j) L
  rw [expT, ht, List.length_append]; omega
end Go.Proofs.YtkaikbaagajckaaGreat
namespace Go.Proofs.YtkaikbaagajckaaGreat
open Go.RowKit
set_option linter.unusedVariables false
set_option linter.unusedSimpArgs false
set_option maxHeartbeats 1000000 in
theorem spec_l20Compare {xa ya : Option Addr} {n xc yc : Nat} {x y : List Int} {w : World} (hX : Ints w xa n xc x) (hY : Ints w ya n yc y) (hn : n ≤ 1048576) :
    Calls Tryz.prog 193 #[.slice xa n xc, .slice ya n yc] w fun e w' => e = .returned (.int .i64 (cmpL x y)) ∧ Below w.heap.size w w' := by
  have HX := Lib.hid hX
  have HY := Lib.hid hY
  clear hX hY
  go_enter Tryz.func193, Tryz.ntmps193
  go_wp2_with fail
  go_loopw [5] (fun s5 wr => ∃ j : Nat, s5 = .int .i64 j ∧ j ≤ n ∧ Below w.heap.size w wr ∧ Hid (x.take j = y.take j)) (fun s5 _ => n - (intOf s5).toNat)
  case atStart => exact ⟨0, rfl, by omega, Below.refl _ _, Lib.hid rfl⟩
  case round =>
    obtain ⟨j, rfl, hj, hbl, A⟩ := hrel
    by_cases hlt : j < n
    · have hlt' : (j : Int) < (n : Int) := by omega
      have hj0 : (0 : Int) ≤ (j : Int) := by omega
      obtain ⟨b1, o1, u, rfl, hb1, hu, hc1, huw⟩ := (HX.out.keep hbl).at hlt
      obtain ⟨b2, o2, v, rfl, hb2, hv, hc2, hvw⟩ := (HY.out.keep hbl).at hlt
      have HU := Lib.hid hu
      have HV := Lib.hid hv
      clear hu hv
      by_cases h1 : u < v
      · have HQ := Lib.hid (cmpL_lt A.out HU.out HV.out h1)
        go_wp2
        go_quiet (fail)
        go_wp2
        go_ret
        exact ⟨ret_int HQ.out.symm, bel⟩
      · by_cases h2 : v < u
        · have HQ := Lib.hid (cmpL_gt A.out HU.out HV.out h2)
          go_wp2
          go_quiet (fail)
          go_wp2
          go_quiet (fail)
          go_wp2
          go_ret
          exact ⟨ret_int HQ.out.symm, bel⟩
        · have HQ := Lib.hid (take_eq_step A.out HU.out (show y[j]? = some u by rw [HV.out]; congr 1; omega))
          go_wp2
          go_quiet (fail)
          go_wp2
          go_quiet (fail)
          go_wp2
          go_roundw
          case rel => exact ⟨j + 1, by go_num, by omega, bel, HQ⟩
          case measure => simp [intOf]; omega
    · obtain rfl : n = j := by omega
      have hlt' : ¬ (n : Int) < (n : Int) := by omega
      have HQ := Lib.hid (cmpL_done A.out (by rw [HX.out.len]; exact Nat.le_refl _) (by rw [HY.out.len]; exact Nat.le_refl _))
      go_wp2
      go_ret
      exact ⟨ret_int HQ.out.symm, hbl⟩
set_option maxHeartbeats 1000000 in
theorem spec_l20Place {lo l2 n c m vn vc : Nat} {a va : Option Addr} {l : List (QM × List Int)} {v : List Int} {w : World} (hL : SRow w lo l2 a n c l) (hV : Ints w va vn vc v) (hA : AscS m (l.map (·.2))) (hvm : v.length = m) (hm : m ≤ 1048576) (hn : n ≤ 1048576) :
    Calls Tryz.prog 158 #[.slice a n c, .slice va vn vc] w fun e w' => ∃ p : Nat, e = .returned (.tuple #[.int .i64 (p : Int), .bool (decide (v ∈ l.map (·.2)))]) ∧ Plc (l.map (·.2)) v p ∧ Below w.heap.size w w' := by
  have hvn : vn = m := by rw [← hV.len, hvm]
  subst hvn
  have HL := Lib.hid hL
  have HV := Lib.hid hV
  have HA := Lib.hid hA
  have HVM := Lib.hid hvm
  have HLL := Lib.hid (show (l.map (·.2)).length = n by rw [List.length_map]; exact hL.len)
  clear hL hV hA hvm
  go_enter Tryz.func158, Tryz.ntmps158
  go_wp2_with fail
  go_loopw [6, 7] (fun s6 s7 wr => ∃ p q : Nat, s6 = .int .i64 p ∧ s7 = .int .i64 q ∧ p ≤ q ∧ q ≤ n ∧ Below w.heap.size w wr ∧ Hid ((∀ (i : Nat) (x : List Int), (l.map (·.2))[i]? = some x → i < p → cmpL x v < 0) ∧ ∀ (i : Nat) (x : List Int), (l.map (·.2))[i]? = some x → q ≤ i → 0 ≤ cmpL x v)) (fun s6 s7 _ => (intOf s7).toNat - (intOf s6).toNat)
  case atStart => exact ⟨0, n, rfl, rfl, by omega, by omega, Below.refl _ _, Lib.hid ⟨fun i x _ h => by omega, fun i x h1 h2 => by have := (List.getElem?_eq_some_iff.1 h1).1; rw [HLL.out] at this; omega⟩⟩
  case round =>
    obtain ⟨p, q, rfl, rfl, hpq, hqn, hbl, A⟩ := hrel
    by_cases hlt : p < q
    · have hlt' : (p : Int) < (q : Int) := by omega
      obtain ⟨k, hk⟩ : ∃ k : Nat, k = (p + q) / 2 := ⟨_, rfl⟩
      have hk1 : p ≤ k := by omega
      have hk2 : k < q := by omega
      have e1 : ((p : Int) + (q : Int)) / 2 = (k : Int) := by omega
      have e2 : ((p : Int) + (q : Int)).tdiv 2 = (k : Int) := by rw [Int.tdiv_eq_ediv_of_nonneg (by omega)]; exact e1
      clear hk
      have hk0 : (0 : Int) ≤ (k : Int) := by omega
      have hkn : (k : Int) < (n : Int) := by omega
      obtain ⟨b, off, R, x, rfl, hb, hx, hox, hc⟩ := (HL.out.keep hbl).get (show k < n by omega)
      have HX := Lib.hid (show (l.map (·.2))[k]? = some x by rw [List.getElem?_map, hx]; rfl)
      have hRn : R.n = vn := by rw [← hox.ints.len]; exact HA.out.1 x (List.mem_of_getElem? HX.out)
      have HO := Lib.hid hox
      clear hx hox
      go_wp2_with fail
      have K := spec_l20Compare (w := wr) HO.out.ints (by rw [hRn]; exact HV.out.keep hbl) (by omega)
      rw [hRn] at K
      refine Calls.mono K ?_
      rintro e w1 ⟨rfl, hb1⟩
      have hb2 : Below w.heap.size w w1 := below_callS hbl hb1
      clear K hb1
      by_cases hcmp : cmpL x v < 0
      · have HU := Lib.hid (plc_up HA.out HVM.out HX.out hcmp)
        go_wp2
        go_roundw
        case rel => exact ⟨k + 1, q, by go_num, rfl, by omega, hqn, hb2, Lib.hid ⟨HU.out, A.out.2⟩⟩
        case measure => simp [intOf]; omega
      · have HU := Lib.hid (plc_dn HA.out HVM.out HX.out hcmp)
        go_wp2
        go_roundw
        case rel => exact ⟨p, k, rfl, rfl, by omega, by omega, hb2, Lib.hid ⟨A.out.1, HU.out⟩⟩
        case measure => simp [intOf]; omega
    · obtain rfl : p = q := by omega
      have hlt' : ¬ (p : Int) < (p : Int) := by omega
      have HP := Lib.hid (show Plc (l.map (·.2)) v p from ⟨by rw [HLL.out]; exact hqn, A.out.1, A.out.2⟩)
      have HM := Lib.hid (plc_mem HA.out HVM.out HP.out)
      by_cases hpn : p < n
      · have hpn' : (p : Int) < (n : Int) := by omega
        have hp0 : (0 : Int) ≤ (p : Int) := by omega
        obtain ⟨b, off, R, x, rfl, hb, hx, hox, hc⟩ := (HL.out.keep hbl).get hpn
        have HX := Lib.hid (show (l.map (·.2))[p]? = some x by rw [List.getElem?_map, hx]; rfl)
        have hRn : R.n = vn := by rw [← hox.ints.len]; exact HA.out.1 x (List.mem_of_getElem? HX.out)
        have HO := Lib.hid hox
        clear hx hox
        have hD : decide (v ∈ l.map (·.2)) = decide (cmpL x v = 0) := by
          rw [Bool.eq_iff_iff, decide_eq_true_iff, decide_eq_true_iff, ← HM.out]
          constructor
          · rintro ⟨y, hy, h0⟩; rw [HX.out] at hy; cases hy; exact h0
          · intro h0; exact ⟨x, HX.out, h0⟩
        have HD := Lib.hid hD
        clear hD
        go_wp2_with fail
        have K := spec_l20Compare (w := wr) HO.out.ints (by rw [hRn]; exact HV.out.keep hbl) (by omega)
        rw [hRn] at K
        refine Calls.mono K ?_
        rintro e w1 ⟨rfl, hb1⟩
        have hb2 : Below w.heap.size w w1 := below_callS hbl hb1
        go_wp2
        go_ret2
        exact ⟨p, by rw [HD.out]; rfl, HP.out, hb2⟩
      · have hpn' : ¬ (p : Int) < (n : Int) := by omega
        have HD := Lib.hid (show decide (v ∈ l.map (·.2)) = false by
          rw [decide_eq_false_iff_not, ← HM.out]
          rintro ⟨y, hy, _⟩
          have := (List.getElem?_eq_some_iff.1 hy).1
          rw [HLL.out] at this; omega)
        go_wp2
        go_ret2
        exact ⟨p, by rw [HD.out]; rfl, HP.out, hbl⟩
end Go.Proofs.YtkaikbaagajckaaGreat
namespace Go.Proofs.YtkaikbaagajckaaGreat
open Go.RowKit
set_option linter.unusedVariables false
set_option linter.unusedSimpArgs false
/-- 'append(out, xs...)' of records to a row of the call's own, at a step of a region -/
theorem wp_appendL_F {α : Type} {k : Nat} {enc : α → List Value} {ok : α → Prop} {z : Value} {by' : Nat} {P : Program} {w : World} {o : Oper} {act : Act} {K : Act → World → Prop} {Q : Exit → Act → World → Prop} (s x : Operand) (t e : TypeId)
    (ho : o.op = .call { callee := .builtin .append, args := #[s, x], argTypes := #[t, t] }) (ht : P.underlying t = some (.slice e)) (hinfo : (P.info? e).map (fun i => (i.zero, i.size, i.bytes)) = some (some z, k, by'))
    (hzs : z.cells.size = k) (hk : 0 < k) (hby : by' ≤ 128) (hone : ∀ y : α, ∀ u ∈ enc y, u.oneCell' = true)
    (base : Nat) (a : Option Addr) (n c : Nat) (l : List α) (hown : OwnF k enc ok e w base a n c l) (hs : act.eval s = .slice a n c) (a2 : Option Addr) (m c2 : Nat) (l2 : List α) (hx : act.eval x = .slice a2 m c2) (hsrc : Flats k enc ok w a2 m c2 l2)
    (hn : n ≤ 4194304) (hm : m ≤ 4194304) (hbase : base ≤ w.heap.size)
    (K' : ∀ a' c' w', OwnF k enc ok e w' base a' (n + m) c' (l ++ l2) → Below base w w' → w.grownBy w' (Value.slice a n c).ownBlock → K (act.put o.dst (.slice a' (n + m) c')) w') : o.wp P act w K Q := by
  obtain ⟨i, hi, hz0, hz1, hz2⟩ := info_parts hinfo
  obtain ⟨hown1, hok, hlen, henc⟩ := hown
  have hmul : ∀ q : List α, (q.flatMap enc).length = q.length * k := fun q => by
    induction q with
    | nil => simp
    | cons y r ih => rw [List.flatMap_cons, List.length_append, ih, henc, List.length_cons, Nat.succ_mul, Nat.add_comm]
  cases a2 with
  | none =>
    obtain ⟨rfl, rfl⟩ := hsrc.nil rfl
    have hl2 : l2 = [] := List.length_eq_zero_iff.1 hsrc.len
    subst hl2
    have hrun := run_append_owned_none (P := P) (w := w) base t o.type e i k ht hi (.slice a n c) n _ hown1
    unfold Oper.wp
    simp [execOp, ho, resolve, invoke, builtin, hs, hx, hrun, Result.andThen]
    refine K' a c w ?_ (Below.refl _ _) (grownBy_refl _ _)
    rw [List.append_nil]; exact ⟨hown1, hok, hlen, henc⟩
  | some ad =>
    refine wp_append_own w s x t ho base e i z k by' ht hi hz0 hz1 hz2 hzs hk (.slice a n c) n _ hs hown1 ad m c2 (l2.flatMap enc) hx (by rw [hmul, hsrc.len]) ?_ ?_ (by unfold maxLen; omega) (Nat.le_trans (Nat.mul_le_mul_left (n + m) hby) (by omega)) hbase ?_
    · intro j u hj
      obtain ⟨x, h1, h2⟩ := flat_inv henc hk hj
      have hjm : j / k < m := by rw [← hsrc.len]; exact (List.getElem?_eq_some_iff.1 h1).1
      obtain ⟨b, off, he, _, hc⟩ := hsrc.pos.resolve_left (Nat.ne_of_gt (Nat.lt_of_le_of_lt (Nat.zero_le _) hjm))
      simp only [Option.some.injEq] at he
      subst he
      have e1 : (⟨b, off, none⟩ : Addr).add j = ⟨b, off + j, none⟩ := by by_cases h0 : j = 0 <;> simp [Addr.add, h0]
      have := hc _ x h1 _ u h2
      rw [Nat.add_assoc, Nat.mul_comm, Nat.div_add_mod] at this
      rw [e1]; exact this
    · intro u hu
      obtain ⟨y, _, hy⟩ := List.mem_flatMap.1 hu
      exact hone y u hy
    · intro v' w' hown' hg hnil
      have hform := Joins.ownsRow_forms hown'
      have hb : Below base w w' := (Below.refl _ _).grown hg hbase fun k hk => (hown1.lt k hk).1
      have hmap : l.flatMap enc ++ l2.flatMap enc = (l ++ l2).flatMap enc := (List.flatMap_append ..).symm
      have hw : ∀ y ∈ l ++ l2, ok y := fun y hy => by
        rcases List.mem_append.1 hy with h | h
        · exact hok y h
        · exact hsrc.wf y h
      have hll : (l ++ l2).length = n + m := by rw [List.length_append, hlen, hsrc.len]
      rw [hmap] at hown'
      rcases hform with ⟨hv, h0⟩ | ⟨g, cap, hv⟩
      · rw [hv] at hown' ⊢
        have h2 := K' none 0 w' (by rw [h0] at hown' hll ⊢; exact ⟨hown', hw, hll, henc⟩) hb hg
        rw [h0] at h2; exact h2
      · rw [hv] at hown' ⊢
        exact K' _ _ _ ⟨hown', hw, hll, henc⟩ hb hg
/-- append of states to a row, at a step of a region -/
theorem wp_appSL {w : World} {o : Oper} {act : Act} {K : Act → World → Prop} {Q : Exit → Act → World → Prop} (s x : Operand)
    (ho : o.op = .call { callee := .builtin .append, args := #[s, x], argTypes := #[31, 31] })
    (base b2 : Nat) (a : Option Addr) (n c : Nat) (l : List (QM × List Int)) (hown : SRow w base b2 a n c l) (hs : act.eval s = .slice a n c) (a2 : Option Addr) (m c2 : Nat) (l2 : List (QM × List Int)) (hx : act.eval x = .slice a2 m c2) (hsrc : Flats 1 encS (fun _ => True) w a2 m c2 l2) (hy : ∀ y ∈ l2, OwnI 2 w b2 y.1.a y.1.n y.1.c y.2)
    (hn : n ≤ 4194304) (hm : m ≤ 4194304) (hbase : base ≤ w.heap.size)
    (K' : ∀ a' c' w', SRow w' base b2 a' (n + m) c' (l ++ l2) → Below base w w' → Touch w w' 1 a → K (act.put o.dst (.slice a' (n + m) c')) w') : o.wp Tryz.prog act w K Q := by
  refine wp_appendL_F (k := 1) (enc := encS) (ok := fun _ => True) s x _ _ ho Tryz.underlying31 Tryz.infosl rfl (by decide) (by decide) encS_one base a n c l hown.row hs a2 m c2 l2 hx hsrc hn hm hbase ?_
  intro a' c' w' h1 h2 h3
  have ht : Touch w w' 1 a := ⟨_, h3, fun b e => ⟨by decide, own_block hown.row.1 b e⟩⟩
  refine K' a' c' w' ⟨h1, fun z hz => ?_⟩ h2 ht
  have hz' : OwnI 2 w b2 z.1.a z.1.n z.1.c z.2 := by
    rcases List.mem_append.1 hz with hz | hz
    · exact hown.each z hz
    · exact hy z hz
  exact hz'.keepT ht fun g e e' => typ_apart (fun {g} e => hz'.typ e) (fun {g} e => hown.row.typ e) (by decide) g e e'
/-- an empty row, laid first, before or behind a literal of one state -/
theorem SRow.e1 {w : World} {l2 : Nat} : SRow (w.alloc (.cells #[] 22)) w.heap.size l2 (some ⟨w.heap.size, 0, none⟩) 0 0 [] :=
  ⟨⟨World.ownsRow_lit w #[] 0 (Nat.le_refl _) (Nat.zero_le _) rfl, (fun _ h => by cases h), rfl, encS_len⟩, fun _ h => by cases h⟩
theorem SRow.e2 {w : World} {l2 : Nat} {o : Obj} : SRow ((w.alloc (.cells #[] 22)).alloc o) w.heap.size l2 (some ⟨w.heap.size, 0, none⟩) 0 0 [] :=
  SRow.e1.keep ((Below.refl _ _).alloc (Nat.le_refl _) _)
theorem SRow.e3 {w : World} {l2 : Nat} {o : Obj} : SRow ((w.alloc o).alloc (.cells #[] 22)) w.heap.size l2 (some ⟨w.heap.size + 1, 0, none⟩) 0 0 [] := by
  have h := (SRow.e1 (w := w.alloc o) (l2 := l2)).le (lo' := w.heap.size) (l2' := l2) (by simp) (Nat.le_refl _)
  simpa using h
theorem SRow.lit {w : World} {R : QM} {v : List Int} {l2 : Nat} (hy : OwnI 2 w l2 R.a R.n R.c v) : SRow (w.alloc (.cells #[.slice R.a R.n R.c] 22)) w.heap.size l2 (some ⟨w.heap.size, 0, none⟩) 1 1 [(R, v)] :=
  ⟨OwnF.lit w [(R, v)] (Nat.le_refl _) rfl (by decide) encS_len (fun _ _ => trivial) rfl, fun x hx => by
    simp at hx; rw [hx]; exact hy.keep ((Below.refl _ _).alloc (Nat.le_refl _) _)⟩
theorem SRow.tail {w : World} {lo l2 n c p : Nat} {a : Option Addr} {l : List (QM × List Int)} (h : SRow w lo l2 a n c l) (hp : p ≤ n) : Flats 1 encS (fun _ => True) w (if c = p then a else Option.map (fun x => x.add p) a) (n - p) (c - p) (l.drop p) := by
  have h1 := h.row.flats.part (lo := p) (hi := n) hp (Nat.le_refl _)
  rw [show (l.drop p).take (n - p) = l.drop p from List.take_of_length_le (by rw [List.length_drop, h.len]; exact Nat.le_refl _), Nat.mul_one] at h1
  exact h1
theorem Flats.lit1 {w : World} {a : Option Addr} {n c : Nat} {v : List Int} : Flats 1 encS (fun _ => True) (w.alloc (.cells #[.slice a n c] 22)) (some ⟨w.heap.size, 0, none⟩) 1 1 [(⟨a, n, c⟩, v)] :=
  lit_flats w 22 ([((⟨a, n, c⟩ : QM), v)] : List (QM × List Int)) #[.slice a n c] encS_len (by decide) rfl (fun _ _ => trivial)
theorem SRow.keepA {w w' : World} {lo l2 n' : Nat} {a a' : Option Addr} {n c : Nat} {l : List (QM × List Int)} (h : SRow w lo l2 a n c l) (ht : Touch w w' n' a') (ty : ∀ {g : Nat}, a' = some ⟨g, 0, none⟩ → ∃ cur, w.heap[g]? = some (.cells cur 22 (0, 0))) (hap : ∀ g, a = some ⟨g, 0, none⟩ → a' = some ⟨g, 0, none⟩ → False) : SRow w' lo l2 a n c l :=
  ⟨h.row.keepT ht hap, fun x hx => (h.each x hx).keepT ht fun g e e' => typ_apart (fun {g} e => (h.each x hx).typ e) ty (by decide) g e e'⟩
theorem Touch.undrew {w w' : World} {n : Nat} {a : Option Addr} (h : Touch w.drew w' n a) : Touch w w' n a := by
  obtain ⟨r, hg, hr⟩ := h
  exact ⟨r, ⟨hg.os, hg.tape, hg.output, hg.size, hg.block⟩, hr⟩
theorem lit_keepE {wE wn : World} {a : Option Addr} {n c : Nat} {v : List Int} {base l2 g i : Nat} (hi : i = wE.heap.size) (hE : SRow wE base l2 (some ⟨g, 0, none⟩) 0 0 []) (hy : OwnI 2 wE l2 a n c v) (ht : Touch (wE.alloc (.cells #[.slice a n c] 22)) wn 1 (some ⟨g, 0, none⟩)) : SRow wn i l2 (some ⟨i, 0, none⟩) 1 1 [(⟨a, n, c⟩, v)] := by
  subst hi
  have hE' := hE.keep ((Below.refl _ _).alloc (Nat.le_refl _) (.cells #[.slice a n c] 22))
  have hg := (hE.row.blk g rfl).2
  exact (SRow.lit (R := ⟨a, n, c⟩) hy).keepA ht (fun e => hE'.row.typ e) (fun g' e e' => by simp at e e'; omega)
theorem lit_keepF {w wn : World} {a : Option Addr} {n c : Nat} {v : List Int} {l2 : Nat} (hy : OwnI 2 w l2 a n c v) (ht : Touch ((w.alloc (.cells #[.slice a n c] 22)).alloc (.cells #[] 22)) wn 1 (some ⟨w.heap.size + 1, 0, none⟩)) : SRow wn w.heap.size l2 (some ⟨w.heap.size, 0, none⟩) 1 1 [(⟨a, n, c⟩, v)] := by
  have h := (SRow.lit (R := ⟨a, n, c⟩) hy).keep (w' := (w.alloc (.cells #[.slice a n c] 22)).alloc (.cells #[] 22)) ((Below.refl _ _).alloc (Nat.le_refl _) _)
  exact h.keepA ht (fun e => (SRow.e3 (l2 := l2)).row.typ e) (fun g e e' => by simp at e e'; omega)
set_option maxHeartbeats 4000000 in
theorem spec_l20Insert {lo l2 n c m vn vc : Nat} {a va : Option Addr} {l : List (QM × List Int)} {v : List Int} {w : World} (hL : SRow w lo l2 a n c l) (hV : OwnI 2 w l2 va vn vc v) (hA : AscS m (l.map (·.2))) (hvm : v.length = m) (hm : m ≤ 1048576) (hn : n ≤ 1048576) (hno : v ∉ l.map (·.2)) :
    Calls Tryz.prog 94 #[.slice a n c, .slice va vn vc] w fun e w' => ∃ (p : Nat) (a' : Option Addr) (c' : Nat), e = .returned (.slice a' (n + 1) c') ∧ Plc (l.map (·.2)) v p ∧ SRow w' w.heap.size l2 a' (n + 1) c' (l.take p ++ [(⟨va, vn, vc⟩, v)] ++ l.drop p) ∧ Below w.heap.size w w' := by
  have K1 := Lib.hid (spec_l20Place hL hV.ints hA hvm hm hn)
  have HL := Lib.hid hL
  have HV := Lib.hid hV
  have HNO := Lib.hid (show decide (v ∈ l.map (·.2)) = false from decide_eq_false hno)
  have hlen := hL.len
  have hcap := hL.row.flats.cap
  clear hL hV hA hvm hno
  go_enter Tryz.func94, Tryz.ntmps94
  go_wp2_with fail
  refine Calls.mono K1.out ?_
  rintro e w1 ⟨p, rfl, hp, hb1⟩
  rw [HNO.out]
  have hpn : p ≤ n := by have := hp.1; rw [List.length_map, hlen] at this; exact this
  have HP := Lib.hid hp
  have L1 := Lib.hid (HL.out.keep hb1)
  have V1 := Lib.hid (HV.out.keep hb1)
  have hs1 := hb1.size
  have HB1 := Lib.hid hb1
  have hp0 : (0 : Int) ≤ (p : Int) := by omega
  have hpn' : (p : Int) ≤ (n : Int) := by omega
  have hpc : (p : Int) ≤ (c : Int) := by omega
  have hnc : (n : Int) ≤ (c : Int) := by omega
  clear hp hb1 K1
  go_wp2_with fail
  go_region_held3 (fun wx => Below w1.heap.size w1 wx) (((try go_split_ands); exact bel)) (first
    | (have hq22 := S22; refine wp_appSL _ _ rfl w1.heap.size l2 _ _ _ _ ((S22.out _ (by omega)).keep bel) rfl _ _ _ (l.drop p) rfl ((L1.out.keep bel).tail hpn) (fun y hy => (L1.out.each y (List.mem_of_mem_drop hy)).keep bel) (by omega) (by omega) ((show Below w1.heap.size w1 _ from bel).size) ?_; intro a26 c26 w26 ho26 hb26 ht26; have S26 := Lib.hid (show SRow w26 w1.heap.size l2 a26 (n + 1) c26 (l.take p ++ [((⟨va, vn, vc⟩ : QM), v)] ++ l.drop p) from (by have e : p + 1 + (n - p) = n + 1 := (by omega); simpa [e] using ho26)); have hk26 : Below w1.heap.size w1 w26 := Below.trans bel hb26)
    | (have hq19 := S19; refine wp_appSL _ _ rfl w1.heap.size l2 _ _ _ _ ((S19.out _ (by omega)).keep bel) rfl _ _ _ [(⟨va, vn, vc⟩, v)] rfl (by first | exact HLIT.out.row.flats | (have hh := (HLIT.out.keep bel).row.flats; simpa using hh) | exact Flats.lit1) (fun y hy => by simp at hy; rw [hy]; exact V1.out.keep bel) (by omega) (by omega) ((show Below w1.heap.size w1 _ from bel).size) ?_; intro a22 c22 w22 ho22 hb22 ht22; have S22 := Lib.hid (show ∀ k, k = p + 1 → SRow w22 w1.heap.size l2 a22 k c22 (l.take p ++ [((⟨va, vn, vc⟩ : QM), v)]) from (by intro k hk; rw [hk]; simpa using ho22)); have hk22 : Below w1.heap.size w1 w22 := Below.trans bel hb22)
    | (refine wp_appSL _ _ rfl w1.heap.size l2 _ _ _ [] (SRow.e1.keep (w := w1.alloc (.cells #[] 22)) (by first | exact Below.refl _ _ | exact (Below.refl _ _).drew | exact (below_allocS (Below.refl _ _) _).drew | exact below_allocS ((Below.refl _ _).drew) _)) rfl _ _ _ (l.take p) rfl ((L1.out.row.flats.keep bel).take hpn) (fun y hy => (L1.out.each y (List.mem_of_mem_take hy)).keep bel) (by omega) (by omega) ((show Below w1.heap.size w1 _ from bel).size) ?_; intro a19 c19 w19 ho19 hb19 ht19; have S19 := Lib.hid (show ∀ k, k = p → SRow w19 w1.heap.size l2 a19 k c19 (l.take p) from (by intro k hk; rw [hk]; simpa using ho19)); (try (have HLIT := Lib.hid (lit_keepE (wE := w1.alloc (.cells #[] 22)) (i := w1.heap.size + 1) (by simp) (SRow.e1.keep (w := w1.alloc (.cells #[] 22)) (by first | exact Below.refl _ _ | exact (Below.refl _ _).drew | exact (below_allocS (Below.refl _ _) _).drew | exact below_allocS ((Below.refl _ _).drew) _)) (V1.out.keep bel) (Touch.undrew ht19)))); have hk19 : Below w1.heap.size w1 w19 := Below.trans bel hb19)
    | (refine wp_appSL _ _ rfl w1.heap.size l2 _ _ _ [] ((SRow.e3 (w := w1) (o := .cells #[.slice va vn vc] 22)).keep (by first | exact Below.refl _ _ | exact (Below.refl _ _).drew)) rfl _ _ _ (l.take p) rfl ((L1.out.row.flats.keep bel).take hpn) (fun y hy => (L1.out.each y (List.mem_of_mem_take hy)).keep bel) (by omega) (by omega) ((show Below w1.heap.size w1 _ from bel).size) ?_; intro a19 c19 w19 ho19 hb19 ht19; have S19 := Lib.hid (show ∀ k, k = p → SRow w19 w1.heap.size l2 a19 k c19 (l.take p) from (by intro k hk; rw [hk]; simpa using ho19)); have HLIT := Lib.hid (lit_keepF V1.out (Touch.undrew ht19)); have hk19 : Below w1.heap.size w1 w19 := Below.trans bel hb19))
  all_goals
    go_split_ands
    go_wp2
    all_goals
      have hS26 := S26.out.le hs1 (Nat.le_refl _)
      go_ret
      exact ⟨p, a26, c26, by show Ending.returned (.slice a26 (p + 1 + (n - p)) c26) = _; rw [show p + 1 + (n - p) = n + 1 from by omega], HP.out, by simpa using hS26, below_callS HB1.out (by assumption)⟩
end Go.Proofs.YtkaikbaagajckaaGreat
namespace Go.Proofs.YtkaikbaagajckaaGreat
open Go.RowKit
set_option linter.unusedVariables false
set_option linter.unusedSimpArgs false
theorem mkN_rf {L : List I3} {i lo hi : Int} (hl : RefB lo L.length) : RefB (mkN L i lo hi).2 (mkN L i lo hi).1.length := by
  unfold mkN
  split
  · exact hl
  · split
    · rename_i k hk
      have := (List.getElem?_eq_some_iff.1 (posN_some hk).1).1
      exact ⟨by simp only; omega, by simp only; omega⟩
    · exact ⟨by simp only; omega, by simp only [List.length_append, List.length_cons, List.length_nil]; omega⟩
/-- the number of a pair -/
def pcN (A B : List I3) (a b : Int) : Nat := a.toNat * (B.length + 2) + b.toNat
theorem pc_inj {A B : List I3} {a b c d : Int} (ha : RefB a A.length) (hb : RefB b B.length) (hc : RefB c A.length) (hd : RefB d B.length) (h : pcN A B a b = pcN A B c d) : a = c ∧ b = d := by
  have hb1 := hb.1
  have hb2 := hb.2
  have hd1 := hd.1
  have hd2 := hd.2
  have ha1 := ha.1
  have hc1 := hc.1
  have hbn : b.toNat < B.length + 2 := by omega
  have hdn : d.toNat < B.length + 2 := by omega
  unfold pcN at h
  have e1 : (a.toNat * (B.length + 2) + b.toNat) / (B.length + 2) = a.toNat := by rw [Nat.mul_comm, Nat.mul_add_div (by omega), Nat.div_eq_of_lt hbn]; omega
  have e2 : (c.toNat * (B.length + 2) + d.toNat) / (B.length + 2) = c.toNat := by rw [Nat.mul_comm, Nat.mul_add_div (by omega), Nat.div_eq_of_lt hdn]; omega
  rw [h, e2] at e1
  rw [e1] at h
  omega
theorem pc_lt {A B : List I3} {a b : Int} (ha : RefB a A.length) (hb : RefB b B.length) : pcN A B a b < (A.length + 2) * (B.length + 2) := by
  have hb1 := hb.1
  have hb2 := hb.2
  have ha1 := ha.1
  have ha2 := ha.2
  have h1 : (a.toNat + 1) * (B.length + 2) ≤ (A.length + 2) * (B.length + 2) := Nat.mul_le_mul_right _ (by omega)
  rw [Nat.add_mul] at h1
  unfold pcN
  omega
/-- the pairs that are known, counted -/
structure JnK (A B : List I3) (L : List I3) (M : Mem) (S : List Nat) : Prop where
  nodup : S.Nodup
  lt : ∀ s ∈ S, s < (A.length + 2) * (B.length + 2)
  cov : ∀ a b, RefB a A.length → RefB b B.length → M a b = none → pcN A B a b ∉ S
  few : L.length ≤ S.length
theorem JnK.start (A B : List I3) : JnK A B [] (fun _ _ => none) [] := ⟨List.nodup_nil, (fun s h => by cases h), (fun a b _ _ _ h => by cases h), Nat.le_refl _⟩
theorem JnK.len {A B : List I3} {L : List I3} {M : Mem} {S : List Nat} (h : JnK A B L M S) : S.length ≤ (A.length + 2) * (B.length + 2) := nodup_lt _ _ h.nodup h.lt
theorem JnK.most {A B : List I3} {L : List I3} {M : Mem} {S : List Nat} (h : JnK A B L M S) (hA : A.length ≤ 2000) (hB : B.length ≤ 2000) : S.length ≤ 4008004 ∧ L.length ≤ 4008004 := by
  have h1 := h.len
  have h2 : (A.length + 2) * (B.length + 2) ≤ 2002 * 2002 := Nat.mul_le_mul (by omega) (by omega)
  have h3 := h.few
  omega
theorem JnK.add {A B : List I3} {L : List I3} {M : Mem} {S : List Nat} (h : JnK A B L M S) {a b : Int} (ha : RefB a A.length) (hb : RefB b B.length) (hm : M a b = none) {i lo hi v : Int} : JnK A B (mkN L i lo hi).1 (fun x y => if x = a ∧ y = b then some v else M x y) (pcN A B a b :: S) := by
  obtain ⟨t, ht, ht1⟩ := mkN_pre L i lo hi
  refine ⟨List.nodup_cons.2 ⟨h.cov a b ha hb hm, h.nodup⟩, fun s hs => ?_, fun x y hx hy hn hin => ?_, ?_⟩
  · rcases List.mem_cons.1 hs with rfl | hs
    · exact pc_lt ha hb
    · exact h.lt s hs
  · split at hn
    · cases hn
    · rename_i hne
      rcases List.mem_cons.1 hin with e | hin
      · obtain ⟨e1, e2⟩ := pc_inj hx hy ha hb e
        exact hne ⟨e1, e2⟩
      · exact h.cov x y hx hy hn hin
  · rw [ht, List.length_append, List.length_cons]
    have := h.few
    omega
/-- what goes down goes down -/
theorem ch_down {n : Int} {A B : List I3} (hA : Frst A) (hB : Frst B) (oA : OrdN n A) (oB : OrdN n B) {a b : Int} (ha : RefB a A.length) (hb : RefB b B.length) (h : ¬ (a < 2 ∧ b < 2)) {i : Int} (hi : min (lvlN n A a) (lvlN n B b) = i) :
    RefB (chN n A a i).1 A.length ∧ RefB (chN n A a i).2 A.length ∧ RefB (chN n B b i).1 B.length ∧ RefB (chN n B b i).2 B.length ∧ (chN n A a i).1.toNat + (chN n B b i).1.toNat < a.toNat + b.toNat ∧ (chN n A a i).2.toNat + (chN n B b i).2.toNat < a.toNat + b.toNat ∧ i < n ∧ (0 ≤ n → 0 ≤ i) := by
  subst hi
  have hi := ch_less (n := n) (i := min (lvlN n A a) (lvlN n B b)) hA ha
  have hk := ch_less (n := n) (i := min (lvlN n A a) (lvlN n B b)) hB hb
  have ea := lvl_le oA ha
  have eb := lvl_le oB hb
  have hpos : ∀ {L : List I3} {r : Int}, OrdN n L → RefB r L.length → 0 ≤ n → 0 ≤ lvlN n L r := fun {L r} ho hr hn => by
    by_cases h2 : r < 2
    · rw [lvl_low h2]; exact hn
    · obtain ⟨k, rfl⟩ : ∃ k : Nat, r = (k : Int) + 2 := ⟨(r - 2).toNat, by omega⟩
      have hk : k < L.length := by have := hr.2; omega
      have hx := List.getElem?_eq_getElem hk
      rw [lvl_node hx]
      exact (ho _ _ hx).1
  have hlt : min (lvlN n A a) (lvlN n B b) < n := by
    by_cases h2 : a < 2
    · have hb2 : ¬ b < 2 := fun hb2 => h ⟨h2, hb2⟩
      obtain ⟨q, rfl⟩ : ∃ q : Nat, b = (q : Int) + 2 := ⟨(b - 2).toNat, by omega⟩
      have hq : q < B.length := by have := hb.2; omega
      have hx := List.getElem?_eq_getElem hq
      have := (oB _ _ hx).2.1
      rw [lvl_node hx]
      omega
    · obtain ⟨q, rfl⟩ : ∃ q : Nat, a = (q : Int) + 2 := ⟨(a - 2).toNat, by omega⟩
      have hq : q < A.length := by have := ha.2; omega
      have hx := List.getElem?_eq_getElem hq
      have := (oA _ _ hx).2.1
      rw [lvl_node hx]
      omega
  have h0 : 0 ≤ n → 0 ≤ min (lvlN n A a) (lvlN n B b) := fun hn => by
    have := hpos oA ha hn
    have := hpos oB hb hn
    omega
  have hd : (chN n A a (min (lvlN n A a) (lvlN n B b))).1.toNat + (chN n B b (min (lvlN n A a) (lvlN n B b))).1.toNat < a.toNat + b.toNat ∧ (chN n A a (min (lvlN n A a) (lvlN n B b))).2.toNat + (chN n B b (min (lvlN n A a) (lvlN n B b))).2.toNat < a.toNat + b.toNat := by
    rcases Int.le_total (lvlN n A a) (lvlN n B b) with e | e
    · rw [Int.min_eq_left e] at hi hk hlt ⊢
      by_cases h2 : a < 2
      · rw [lvl_low h2] at hlt; omega
      · have := hi.2.2.1 (by omega) rfl
        omega
    · rw [Int.min_eq_right e] at hi hk hlt ⊢
      by_cases h2 : b < 2
      · rw [lvl_low h2] at hlt; omega
      · have := hk.2.2.1 (by omega) rfl
        omega
  exact ⟨hi.2.2.2.1, hi.2.2.2.2, hk.2.2.2.1, hk.2.2.2.2, hd.1, hd.2, hlt, h0⟩
theorem jn_cnt {j n : Int} {A B : List I3} (hA : Frst A) (hB : Frst B) (oA : OrdN n A) (oB : OrdN n B) : ∀ (f : Nat) (L : List I3) (M : Mem) (S : List Nat) (a b : Int), RefB a A.length → RefB b B.length → a.toNat + b.toNat ≤ f → JnK A B L M S →
    (∃ S', JnK A B (jnF j n A B f (L, M) a b).1 (jnF j n A B f (L, M) a b).2.1 S') ∧ ∀ x y, a.toNat + b.toNat < x.toNat + y.toNat → (jnF j n A B f (L, M) a b).2.1 x y = M x y := by
  intro f
  induction f with
  | zero =>
    intro L M S a b ha hb hf h
    rw [jn_low _ _ (by omega)]
    exact ⟨⟨S, h⟩, fun _ _ _ => rfl⟩
  | succ f ih =>
    intro L M S a b ha hb hf h
    by_cases h0 : a < 2 ∧ b < 2
    · rw [jn_low _ _ h0]; exact ⟨⟨S, h⟩, fun _ _ _ => rfl⟩
    · cases hm : M a b with
      | some r => rw [jn_old _ _ h0 hm]; exact ⟨⟨S, h⟩, fun _ _ _ => rfl⟩
      | none =>
        obtain ⟨i, hi⟩ : ∃ i, min (lvlN n A a) (lvlN n B b) = i := ⟨_, rfl⟩
        obtain ⟨c1, c2, c3, c4, d1, d2, _, _⟩ := ch_down hA hB oA oB ha hb h0 hi
        obtain ⟨⟨S1, u1⟩, u2⟩ := ih L M S _ _ c1 c3 (by omega) h
        obtain ⟨u, hu⟩ : ∃ u, jnF j n A B f (L, M) (chN n A a i).1 (chN n B b i).1 = u := ⟨_, rfl⟩
        rw [hu] at u1 u2
        obtain ⟨⟨S2, v1⟩, v2⟩ := ih u.1 u.2.1 S1 _ _ c2 c4 (by omega) u1
        obtain ⟨v, hv⟩ : ∃ v, jnF j n A B f (u.1, u.2.1) (chN n A a i).2 (chN n B b i).2 = v := ⟨_, rfl⟩
        rw [hv] at v1 v2
        rw [jn_new f (L, M) h0 hm hi hu hv]
        have hn : v.2.1 a b = none := by rw [v2 a b (by omega), u2 a b (by omega), hm]
        refine ⟨⟨_, v1.add ha hb hn⟩, fun x y hxy => ?_⟩
        simp only
        rw [if_neg (fun e => by rw [e.1, e.2] at hxy; omega), v2 x y (by omega), u2 x y (by omega)]
end Go.Proofs.YtkaikbaagajckaaGreat
namespace Go.Proofs.YtkaikbaagajckaaGreat
open Go.RowKit
set_option linter.unusedVariables false
set_option linter.unusedSimpArgs false
/-- how keys of a kind stand for what they mean -/
structure KeyA {α : Type} (Kt : TypeId) (enc : α → Value) (ok : α → Prop) (lit : α → Lit) : Prop where
  keyed : Maps.Keyed Tryz.prog Kt
  key : ∀ x, ok x → keyOf Tryz.prog Kt (enc x) = some (lit x)
  inj : ∀ x y, enc x = enc y → x = y
/-- block b is a map of at most n entries that answers as f does -/
def MapA {α : Type} (Kt : TypeId) (ok : α → Prop) (lit : α → Lit) (w : World) (b n : Nat) (f : α → Option Int) : Prop :=
  ∃ D : DataW Unit, w.ownsMap Tryz.prog Kt (plainElem Tryz.prog 2) b n D ∧ Maps.IsMap D ∧ ∀ x, ok x → match f x with | some v => (∀ z, D.atKey (lit x) z = .lit (.int .i64 v)) | none => ∀ z, D.atKey (lit x) z = z
section
variable {α : Type} {Kt : TypeId} {enc : α → Value} {ok : α → Prop} {lit : α → Lit}
theorem MapA.lt {w : World} {b n : Nat} {f : α → Option Int} (h : MapA Kt ok lit w b n f) : b < w.heap.size := by
  obtain ⟨D, h1, _⟩ := h
  exact h1.lt
theorem MapA.made (w : World) : MapA Kt ok lit (w.alloc (.map #[] 0)) w.heap.size 0 (fun _ : α => none) :=
  ⟨.map [], World.ownsMap_made w _ _ _, ⟨_, rfl⟩, fun x _ z => rfl⟩
theorem MapA.keepG {w w' : World} {b n : Nat} {f : α → Option Int} {r : Option Nat} (h : MapA Kt ok lit w b n f) (hg : w.grownBy w' r) (hne : r ≠ some b) : MapA Kt ok lit w' b n f := by
  obtain ⟨D, h1, h2, h3⟩ := h
  exact ⟨D, h1.kept hg (fun e => hne e.symm), h2, h3⟩
theorem MapA.keep {w w' : World} {b n : Nat} {f : α → Option Int} (h : MapA Kt ok lit w b n f) (hb : Below w.heap.size w w') : MapA Kt ok lit w' b n f := h.keepG (grownBy_below hb none) (fun e => by cases e)
/-- only the block counts -/
theorem MapA.at {w w' : World} {b n : Nat} {f : α → Option Int} (h : MapA Kt ok lit w b n f) (hb : w'.heap[b]? = w.heap[b]?) : MapA Kt ok lit w' b n f := by
  obtain ⟨D, ⟨es, clock, h1, r⟩, h2, h3⟩ := h
  exact ⟨D, ⟨es, clock, hb.trans h1, r⟩, h2, h3⟩
theorem MapA.isMap {w : World} {b n : Nat} {f : α → Option Int} (h : MapA Kt ok lit w b n f) : ∃ es clock, w.heap[b]? = some (.map es clock) := by
  obtain ⟨D, ⟨es, clock, h1, r⟩, h2, h3⟩ := h
  exact ⟨es, clock, h1⟩
theorem MapA.congr {w : World} {b n : Nat} {f g : α → Option Int} (h : MapA Kt ok lit w b n f) (he : ∀ x, ok x → f x = g x) : MapA Kt ok lit w b n g := by
  obtain ⟨D, h1, h2, h3⟩ := h
  exact ⟨D, h1, h2, fun x hx => by have := h3 x hx; rw [he x hx] at this; exact this⟩
/-- 'v, ok := m[k]' and 'm[k]' -/
theorem MapA.look {w : World} {b n : Nat} {f : α → Option Int} (h : MapA Kt ok lit w b n f) (hK : KeyA Kt enc ok lit) {t : TypeId} (ht : Tryz.prog.underlying t = some (.map Kt 2)) {x : α} (hx : ok x) (c : Bool) :
    (Instr.lookup t (.map (some b)) (enc x) c).run Tryz.prog w = .ok (match f x with | some v => if c then .tuple #[.int .i64 v, .bool true] else .int .i64 v | none => if c then .tuple #[.int .i64 0, .bool false] else .int .i64 0) w := by
  obtain ⟨D, ⟨es, clock, hb, hF, _, rfl⟩, h2, h3⟩ := h
  have hat := h3 x hx
  have hz : (zeroValue 2).run Tryz.prog w = .ok (.int .i64 0) w := by kernel_rfl
  rcases Maps.fit_look c hK.keyed ht hz hb hF (hK.key x hx) with ⟨hrun, _, ha⟩ | ⟨e0, y, _, _, hrun, hRv, ha, _⟩
  · cases hf : f x with
    | none => exact hrun
    | some v =>
      rw [hf] at hat
      have := hat .nil
      rw [ha] at this
      cases this
  · obtain ⟨a, hv, hy, hwf⟩ := plainElem_int_inv Tryz.underlying2 hRv
    cases hf : f x with
    | none =>
      rw [hf] at hat
      have := hat .nil
      rw [ha, hy] at this
      cases this
    | some v =>
      rw [hf] at hat
      have := hat .nil
      rw [ha, hy] at this
      simp only [DataW.lit.injEq, Lit.int.injEq, true_and] at this
      rw [hrun, hv, this]
/-- 'm[k] = v' -/
theorem MapA.put [DecidableEq α] {w : World} {b n : Nat} {f : α → Option Int} (h : MapA Kt ok lit w b n f) (hK : KeyA Kt enc ok lit) {t : TypeId} (ht : Tryz.prog.underlying t = some (.map Kt 2)) (hn : n < maxLen) {x : α} (hx : ok x) {v : Int} (hv : I64 v) :
    ∃ w', (Instr.mapUpdate t (.map (some b)) (enc x) (.int .i64 v)).run Tryz.prog w = .ok () w' ∧ MapA Kt ok lit w' b (n + 1) (fun y => if y = x then some v else f y) ∧ w.grownBy w' (some b) := by
  obtain ⟨D, h1, h2, h3⟩ := h
  obtain ⟨w', hrun, hown, hg⟩ := h1.update hK.keyed ht hn (hK.key x hx) (plainElem_int Tryz.underlying2 hv.wf)
  refine ⟨w', hrun, ⟨_, hown, h2.put _ _, fun y hy => ?_⟩, hg⟩
  by_cases e : y = x
  · subst e
    have e9 : (if y = y then some v else f y) = some v := if_pos rfl
    simp only [e9]
    intro z
    exact Maps.atKey_put_same h2 (hK.keyed.key (hK.key y hx)) _ _
  · have e9 : (if y = x then some v else f y) = f y := if_neg e
    simp only [e9]
    have hne : lit y ≠ lit x := fun el => e (hK.inj y x (hK.keyed.inj (hK.key y hy) (by rw [el]; exact hK.key x hx)))
    have := h3 y hy
    cases hf : f y with
    | none => rw [hf] at this; intro z; rw [Maps.atKey_put_other hne]; exact this z
    | some u => rw [hf] at this; intro z; rw [Maps.atKey_put_other hne]; exact this z
/-- .. as an operation of a drawn region -/
theorem MapA.wp [DecidableEq α] {w : World} {b n : Nat} {f : α → Option Int} (h : MapA Kt ok lit w b n f) (hK : KeyA Kt enc ok lit) {t : TypeId} (ht : Tryz.prog.underlying t = some (.map Kt 2)) (hn : n < maxLen) {x : α} (hx : ok x) {v : Int} (hv : I64 v)
    {o : Oper} {act : Act} {K : Act → World → Prop} {Q : Exit → Act → World → Prop} (m y z : Operand) (hop : o.op = Op.mapUpdate t m y z) (hm : act.eval m = .map (some b)) (hy : act.eval y = enc x) (hz : act.eval z = .int .i64 v)
    (hk : ∀ w', MapA Kt ok lit w' b (n + 1) (fun y => if y = x then some v else f y) → w.grownBy w' (some b) → K (act.put o.dst undef) w') : o.wp Tryz.prog act w K Q := by
  obtain ⟨w', hrun, h1, h2⟩ := h.put hK ht hn hx hv
  unfold Oper.wp
  simp [execOp, hop, hm, hy, hz, hrun, Result.andThen]
  exact hk w' h1 h2
end
/-! ### the keys -/
def encK1 (x : Int) : Value := .int .i64 x
def litK1 (x : Int) : Lit := .int .i64 x
theorem keyI : KeyA 2 encK1 I64 litK1 := ⟨Maps.int_keyed Tryz.underlying2, fun x hx => Maps.keyOf_int_mk Tryz.underlying2 hx.wf, fun x y h => by simpa [encK1] using h⟩
def encK3 (x : I3) : Value := .agg #[.int .i64 x.a, .int .i64 x.b, .int .i64 x.c]
def litK3 (x : I3) : Lit := .string (keyBytes [.int .i64 x.a, .int .i64 x.b, .int .i64 x.c])
theorem key3_at {P : Program} {Kt I m : Nat} {fs : Array Field} (hu : P.underlying Kt = some (.struct fs)) (hI : P.underlying I = some (.int .i64)) (hk : P.keyType Kt = true) (hm : P.types.size = m + 1) (hc : P.cellsOf Kt = 3) (hcI : P.cellsOf I = 1)
    (hf : fs.toList.map (fun f => (f.type, f.offset)) = [(I, 0), (I, 1), (I, 2)]) (hn : ∀ f ∈ fs.toList, f.name ≠ "_") (x : I3) (h : x.ok) : keyOf P Kt (encK3 x) = some (litK3 x) := by
  have h1 := h.1.wf
  have h2 := h.2.1.wf
  have h3 := h.2.2.wf
  obtain ⟨l⟩ := fs
  rcases l with _ | ⟨f0, _ | ⟨f1, _ | ⟨f2, _ | ⟨f3, r⟩⟩⟩⟩
  · simp at hf
  · simp at hf
  · simp at hf
  · simp only [List.map_cons, List.map_nil, List.cons.injEq, Prod.mk.injEq, and_true] at hf
    obtain ⟨⟨t0, o0⟩, ⟨t1, o1⟩, ⟨t2, o2⟩⟩ := hf
    have n0 := hn f0 (by simp)
    have n1 := hn f1 (by simp)
    have n2 := hn f2 (by simp)
    simp [keyOf, hu, hk, encK3, Value.formed, hc, Program.keyLits, hm, n0, n1, n2, Value.cells, t0, t1, t2, o0, o1, o2, hcI, hI, h1, h2, h3, litK3]
  · simp at hf
theorem Tryz.laidV : laidOutB Tryz.prog = true := by kernel_rfl
theorem Tryz.rowNode : (117 : TypeId) < Tryz.prog.types.size := of_decide_eq_true (by kernel_rfl)
theorem Tryz.deepNode : Tryz.prog.keyTypeAt 3 117 = true := by kernel_rfl
theorem keyedN : Maps.Keyed Tryz.prog 117 := Maps.Keyed.of_law (deep_law_laid Tryz.laidV (m := 3) (by omega) Tryz.rowNode Tryz.deepNode (by rw [Tryz.underlying117]))
theorem Tryz.cellsNode : Tryz.prog.cellsOf 117 = 3 := by kernel_rfl
theorem Tryz.cellsI : Tryz.prog.cellsOf 2 = 1 := by kernel_rfl
theorem Tryz.keyNode : Tryz.prog.keyType 117 = true := by kernel_rfl
theorem Tryz.someTypes : 0 < Tryz.prog.types.size := of_decide_eq_true (by kernel_rfl)
theorem keyN_at (x : I3) (h : x.ok) : keyOf Tryz.prog 117 (encK3 x) = some (litK3 x) := by
  obtain ⟨m, hm⟩ : ∃ m, Tryz.prog.types.size = m + 1 := ⟨Tryz.prog.types.size - 1, by have := Tryz.someTypes; omega⟩
  exact key3_at Tryz.underlying117 Tryz.underlying2 Tryz.keyNode hm Tryz.cellsNode Tryz.cellsI rfl (fun f hf => by
    simp at hf
    rcases hf with rfl | rfl | rfl <;> decide) x h
theorem keyN : KeyA 117 encK3 I3.ok litK3 := ⟨keyedN, keyN_at, fun x y h => by
  simp [encK3] at h
  rw [I3.eta x, I3.eta y, h.1, h.2.1, h.2.2]⟩
end Go.Proofs.YtkaikbaagajckaaGreat
namespace Go.Proofs.YtkaikbaagajckaaGreat
open Go.RowKit
set_option linter.unusedVariables false
set_option linter.unusedSimpArgs false
section
variable {P : Program} {ops : Array Oper} {Q : Exit → Act → World → Prop} {md : Region.Mode} {S : World → Prop}
/-- what is listed has what it waits for listed -/
def dcL (md : Region.Mode) (ops : Array Oper) (listed : Array Bool) : Prop := ∀ (k : Nat) (o : Oper), ops[k]? = some o → listed.getD k true = true → ∀ e ∈ o.after, Region.binds md e = true → listed.getD e.on false = true
def dcB (md : Region.Mode) (ops : Array Oper) (listed : Array Bool) : Bool := (List.range ops.size).all fun k => match ops[k]? with
  | none => true
  | some o => !listed.getD k true || o.after.all fun e => !Region.binds md e || listed.getD e.on false
theorem dcB_spec {listed : Array Bool} (h : dcB md ops listed = true) : dcL md ops listed := by
  intro k o ho hk e he hb
  rw [dcB, List.all_eq_true] at h
  have h1 := h k (List.mem_range.2 (Array.getElem?_eq_some_iff.1 ho).1)
  rw [ho] at h1
  simp only [hk, Bool.not_true, Bool.false_or, Array.all_eq_true_iff_forall_mem, Bool.or_eq_true, Bool.not_eq_true'] at h1
  exact (h1 e he).resolve_left (by simp [hb])
theorem dcL_set {listed : Array Bool} {j : Nat} (h : dcL md ops listed) (hj : j ∈ Region.ready md ops listed) : dcL md ops (listed.setIfInBounds j true) := by
  intro k o ho hk e he hb
  by_cases hjk : j = k
  · subst hjk
    obtain ⟨_, o', ho', hall⟩ := mem_ready.1 hj
    rw [ho] at ho'
    cases ho'
    exact getD_set_true (hall e he hb)
  · rw [getD_set_ne true hjk] at hk
    exact getD_set_true (h k o ho hk e he hb)
/-- L waits for i -/
def rchL (md : Region.Mode) (ops : Array Oper) : Nat → Nat → Nat → Bool
  | 0, _, _ => false
  | f + 1, L, i => match ops[L]? with
    | none => false
    | some o => o.after.any fun e => Region.binds md e && (e.on == i || rchL md ops f e.on i)
theorem rchL_spec {listed : Array Bool} (hd : dcL md ops listed) : ∀ (f L i : Nat), (L ∈ Region.ready md ops listed ∨ listed.getD L false = true) → rchL md ops f L i = true → listed.getD i false = true
  | 0, _, _, _, h => by cases h
  | f + 1, L, i, hL, h => by
    rw [rchL] at h
    split at h
    · cases h
    · rename_i o ho
      obtain ⟨e, he, hh⟩ := Array.any_eq_true'.1 h
      simp only [Bool.and_eq_true, Bool.or_eq_true, beq_iff_eq] at hh
      have hon : listed.getD e.on false = true := by
        rcases hL with hL | hL
        · obtain ⟨_, o', ho', hall⟩ := mem_ready.1 hL
          rw [ho] at ho'
          cases ho'
          exact hall e he hh.1
        · refine hd L o ho ?_ e he hh.1
          rcases Nat.lt_or_ge L listed.size with h' | h'
          · simp [h'] at hL ⊢; exact hL
          · simp [Array.getElem?_eq_none h'] at hL
      rcases hh.2 with rfl | h2
      · exact hon
      · exact rchL_spec hd f e.on i (.inr hon) h2
/-- L comes last -/
def lastL (md : Region.Mode) (ops : Array Oper) (L : Nat) : Bool := (List.range ops.size).all fun i => i == L || rchL md ops ops.size L i
theorem lastL_spec {listed : Array Bool} {L i : Nat} (h : lastL md ops L = true) (hd : dcL md ops listed) (hL : L ∈ Region.ready md ops listed) (hi : i < ops.size) (hne : i ≠ L) : listed.getD i true = true := by
  rw [lastL, List.all_eq_true] at h
  have h1 := h i (List.mem_range.2 hi)
  simp only [Bool.or_eq_true, beq_iff_eq, hne, false_or] at h1
  have h2 := rchL_spec hd _ _ _ (.inl hL) h1
  rcases Nat.lt_or_ge i listed.size with h' | h'
  · simp [h'] at h2 ⊢; exact h2
  · simp [Array.getElem?_eq_none h'] at h2
/-- whatever order is picked from here on, and S holds behind every operation but L -/
def wpAnyL (P : Program) (md : Region.Mode) (ops : Array Oper) (Q : Exit → Act → World → Prop) (S : World → Prop) (L : Nat) : Nat → Array Bool → Act → World → Prop
  | 0, listed, a, w => Region.ready md ops listed = [] ∧ Q .normal a w
  | fuel + 1, listed, a, w =>
    (Region.ready md ops listed = [] → Q .normal a w) ∧
    ∀ i ∈ Region.ready md ops listed, wpOp P ops Q i (fun a' w' => (i ≠ L → S w') ∧ wpAnyL P md ops Q S L fuel (listed.setIfInBounds i true) a' w') a w
theorem wpAny_of_L {L : Nat} : ∀ (fuel : Nat) (listed : Array Bool) (a : Act) (w : World), wpAnyL P md ops Q S L fuel listed a w → wpAny P md ops Q fuel listed a w
  | 0, _, _, _, h => h
  | fuel + 1, _, _, _, h => ⟨h.1, fun i hi => wpOp_mono (fun a' w' h' => wpAny_of_L fuel _ a' w' h'.2) (h.2 i hi)⟩
theorem wpAnyL_first {i L : Nat} {oi : Oper} {v : Value} (hi : ops[i]? = some oi) (hsel : ∀ (j : Nat) (o : Oper) cs b, ops[j]? = some o → o.op ≠ .select cs b) (hlast : lastL md ops L = true) (hiL : i ≠ L)
    (hQ : ∀ c a w, Q (.panic c) (a.put oi.dst v) w → Q (.panic c) a w) :
    ∀ (fuel : Nat) (listed : Array Bool) (a : Act) (w : World), dcL md ops listed →
      (∀ j oj, ops[j]? = some oj → j ≠ i → listed.getD j true = false → (∀ e ∈ oj.after, Region.binds md e = true → e.on ≠ i) → oi.apart ops oj = true) →
      i ∈ Region.ready md ops listed → YieldsIf P ops S oi v a → S w →
      wpAnyL P md ops Q S L fuel (listed.setIfInBounds i true) (a.put oi.dst v) w → wpAnyL P md ops Q S L (fuel + 1) listed a w := by
  intro fuel
  induction fuel with
  | zero =>
    intro listed a w _ _ hr hy hS H
    refine ⟨fun h => (by rw [h] at hr; cases hr), fun j hj => ?_⟩
    by_cases hji : j = i
    · subst hji; exact hy.wpOp hi hS ⟨fun _ => hS, H⟩
    · have := ready_mono hj hji
      rw [H.1] at this
      cases this
  | succ fuel ih =>
    intro listed a w hdc hfree hr hy hS H
    refine ⟨fun h => (by rw [h] at hr; cases hr), fun j hj => ?_⟩
    by_cases hji : j = i
    · subst hji; exact hy.wpOp hi hS ⟨fun _ => hS, H⟩
    · have hjL : j ≠ L := fun e => by
        subst e
        have h1 := lastL_spec hlast hdc hj (Array.getElem?_eq_some_iff.1 hi).1 hiL
        have h2 := (mem_ready.1 hr).1
        rw [h1] at h2; cases h2
      have h1 := H.2 j (ready_mono hj hji)
      obtain ⟨hjun, oj, hoj, hall⟩ := mem_ready.1 hj
      have hnot : ∀ e ∈ oj.after, Region.binds md e = true → e.on ≠ i := fun e he hb heq => by
        have h1 := hall e he hb
        have h0 := (mem_ready.1 hr).1
        rw [heq] at h1
        rcases Nat.lt_or_ge i listed.size with h' | h'
        · simp [h'] at h0 h1; rw [h0] at h1; cases h1
        · simp [Array.getElem?_eq_none h'] at h1
      have h2 := wpOp_putIf hoj (hfree j oj hoj hji hjun hnot) (fun cs b => hsel i oi cs b hi) (fun cs b => hsel j oj cs b hoj) hQ hy h1
      have hfree' : ∀ k ok, ops[k]? = some ok → k ≠ i → (listed.setIfInBounds j true).getD k true = false →
          (∀ e ∈ ok.after, Region.binds md e = true → e.on ≠ i) → oi.apart ops ok = true := fun k ok hk hki hun hno => by
        refine hfree k ok hk hki ?_ hno
        by_cases hjk : j = k
        · subst hjk; exact hjun
        · rw [getD_set_ne true hjk] at hun; exact hun
      refine wpOp_mono (fun a' w' h3 => ⟨fun _ => h3.2.1 hjL, ih (listed.setIfInBounds j true) a' w' (dcL_set hdc hj) hfree' (ready_mono hr (Ne.symm hji)) h3.1 (h3.2.1 hjL) ?_⟩) h2
      rw [Array.setIfInBounds_comm _ _ hji]
      exact h3.2.2
theorem wpAnyL_take {i L : Nat} {oi : Oper} {v : Value} {fuel : Nat} {listed : Array Bool} {a : Act} {w : World} (hi : ops[i]? = some oi) (hlast : lastL md ops L = true) (hiL : i ≠ L) (hdc : dcB md ops listed = true)
    (hs : Region.noSelect ops = true) (hf : Region.free md ops listed i = true) (hr : (Region.ready md ops listed).contains i = true)
    (hQ : ∀ c a w, Q (.panic c) (a.put oi.dst v) w → Q (.panic c) a w) (hy : YieldsIf P ops S oi v a) (hS : S w)
    (h : wpAnyL P md ops Q S L fuel (listed.setIfInBounds i true) (a.put oi.dst v) w) : wpAnyL P md ops Q S L (fuel + 1) listed a w :=
  wpAnyL_first hi (Region.noSelect_spec hs) hlast hiL hQ fuel listed a w (dcB_spec hdc) (Region.free_spec hi hf) (by simpa using hr) hy hS h
def AllReadyL (P : Program) (md : Region.Mode) (ops : Array Oper) (Q : Exit → Act → World → Prop) (S : World → Prop) (L : Nat) (fuel : Nat) (listed : Array Bool) (a : Act) (w : World) (rs : List Nat) : Prop :=
  ∀ i ∈ rs, wpOp P ops Q i (fun a' w' => (i ≠ L → S w') ∧ wpAnyL P md ops Q S L fuel (listed.setIfInBounds i true) a' w') a w
theorem AllReadyL.nil {L fuel : Nat} {listed : Array Bool} {a : Act} {w : World} : AllReadyL P md ops Q S L fuel listed a w [] := fun _ h => by cases h
theorem AllReadyL.cons {L fuel : Nat} {listed : Array Bool} {a : Act} {w : World} {i : Nat} {o : Oper} {rs : List Nat} (ho : ops[i]? = some o)
    (h : ∀ K' : Act → World → Prop, Shut (∀ a w, S w → (S w → wpAnyL P md ops Q S L fuel (listed.setIfInBounds i true) a w) → K' a w) → if Region.wanted o (yielded ops a.tmps) = true then Oper.wp P o a w K' Q else K' (a.put o.dst undef) w)
    (hs : AllReadyL P md ops Q S L fuel listed a w rs) : AllReadyL P md ops Q S L fuel listed a w (i :: rs) := fun j hj => by
  rcases List.mem_cons.1 hj with rfl | hj
  · exact wpOp_step ho (fun K' hK => h K' (fun a w hS hW => hK a w ⟨fun _ => hS, hW hS⟩))
  · exact hs j hj
theorem AllReadyL.last {L fuel : Nat} {listed : Array Bool} {a : Act} {w : World} {o : Oper} (ho : ops[L]? = some o)
    (h : ∀ K' : Act → World → Prop, Shut (∀ a w, wpAnyL P md ops Q S L fuel (listed.setIfInBounds L true) a w → K' a w) → if Region.wanted o (yielded ops a.tmps) = true then Oper.wp P o a w K' Q else K' (a.put o.dst undef) w) :
    AllReadyL P md ops Q S L fuel listed a w [L] := fun j hj => by
  rcases List.mem_cons.1 hj with rfl | hj
  · exact wpOp_step ho (fun K' hK => h K' (fun a w hW => hK a w ⟨fun e => absurd rfl e, hW⟩))
  · cases hj
theorem wpAnyL_ready {L : Nat} {rs : List Nat} {fuel : Nat} {listed : Array Bool} {a : Act} {w : World} (hr : Region.ready md ops listed = rs) (hne : rs ≠ [])
    (h : AllReadyL P md ops Q S L fuel listed a w rs) : wpAnyL P md ops Q S L (fuel + 1) listed a w := ⟨fun h0 => absurd (hr ▸ h0) hne, hr ▸ h⟩
theorem wpAnyL_done {L : Nat} {listed : Array Bool} {a : Act} {w : World} (hr : Region.ready md ops listed = []) (h : Q .normal a w) :
    ∀ fuel, wpAnyL P md ops Q S L fuel listed a w
  | 0 => ⟨hr, h⟩
  | _ + 1 => ⟨fun _ => h, by rw [hr]; simp⟩
theorem wp_region_L {L id : Nat} {a : Act} {w : World} (hm : P.follows .mixedOrders = true) (hS : S w.drew)
    (h : S w.drew → wpAnyL P .any ops Q S L ops.size (Array.replicate ops.size false) a w.drew) : (Code.region id ops true).wp P Q a w :=
  wp_region_any hm (wpAny_of_L _ _ _ _ (h hS))
end
end Go.Proofs.YtkaikbaagajckaaGreat
