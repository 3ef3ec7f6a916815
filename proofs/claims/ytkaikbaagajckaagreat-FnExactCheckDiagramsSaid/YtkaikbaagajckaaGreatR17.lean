/- Sets of lists of bits as diagrams: the reference, walked.; Diagrams that are not too large: the reference, walked.; The search's steps in plain words, as its walk wants them.; The binary search in an ascending list of states, and what the reference's search keeps: plain laws.; The reference's comparison of states, its binary search and its insertion, walked.; The reference's insertion of a state into an ascending list, walked.; The reference's search: its state, and how one state is added, walked. -/
import Derived.Test.YtkaikbaagajckaaGreatR13
import Derived.Test.YtkaikbaagajckaaGreatR16
import Derived.Test.YtkaikbaagajckaaGreatR10
import Derived.Deep.DrawnRows
import Derived.Test.YtkaikbaagajckaaGreatR15
import Derived.BigRegion
import Derived.BigQuiet
namespace Go.Proofs.YtkaikbaagajckaaGreat
open Go.RowKit
set_option linter.unusedVariables false
set_option linter.unusedSimpArgs false
theorem cut_of {i : Nat} : ∀ {j : Nat} {ls : List (List Int)}, j ≤ ls.length → (∀ x ∈ ls.take j, (x.getD i 0 == 1) = false) → (∀ x, ls[j]? = some x → (x.getD i 0 == 1) = true) → cutN i ls = j
  | 0, [], _, _, _ => rfl
  | 0, x :: r, _, _, h => by
    rw [cutN, List.takeWhile_cons, h x rfl]; rfl
  | j + 1, [], hl, _, _ => by simp at hl
  | j + 1, x :: r, hl, ht, h => by
    have h1 := ht x (by simp)
    have h2 := cut_of (i := i) (j := j) (ls := r) (by simpa using hl) (fun y hy => ht y (by simp [hy])) (fun y hy => h y (by simpa using hy))
    rw [cutN] at h2 ⊢
    rw [List.takeWhile_cons, h1]
    simp only [Bool.not_false, if_true, List.length_cons, h2]
set_option maxRecDepth 100000 in
set_option maxHeartbeats 4000000 in
theorem spec_l23Set {lo p N : Nat} : ∀ (k i : Nat) (ls : List (QM × List Int)) (L : List I3) (a : Option Addr) (n c : Nat) (w : World), LsA w lo a n c ls → (∀ x ∈ ls, x.2.length = N ∧ ∀ z ∈ x.2, z = 0 ∨ z = 1) → (∃ na nc, BldA w lo p na nc L) → i + k = N → N ≤ 20 → n ≤ 1048576 → L.length + 2 ^ k ≤ 1048576 → lo ≤ w.heap.size →
    Calls Tryz.prog 122 #[.pointer (some ⟨p, 0, none⟩), .slice a n c, .int .i64 (i : Int), .int .i64 (N : Int)] w fun e w' => e = .returned (.int .i64 (stN k i (ls.map (·.2)) L).2) ∧ (∃ na nc, BldA w' lo p na nc (stN k i (ls.map (·.2)) L).1) ∧ FrF lo p p w w' := by
  intro k
  induction k with
  | zero =>
    intro i ls L a n c w hA hl hF hik hN hn hL hlo
    have hln := hA.len
    by_cases h0 : n = 0
    · subst h0
      obtain rfl : ls = [] := List.eq_nil_of_length_eq_zero hln
      have HFO := Lib.hid hF
      clear hA hF hl
      go_enter Tryz.func122, Tryz.ntmps122
      go_wp2
      go_ret
      refine ⟨ret_int (by simp only [List.map_nil, st_nil]), ?_, FrF.refl _ _ _ _⟩
      simp only [List.map_nil, st_nil]
      exact HFO.out
    · have e0 : ((n : Int) == 0) = false := by simpa using (show ¬ (n : Int) = 0 by omega)
      obtain rfl : i = N := by omega
      have hne : ls.map (·.2) ≠ [] := fun e => h0 (by rw [← hln, ← List.length_map (f := fun x : QM × List Int => x.2), e]; rfl)
      have HFO := Lib.hid hF
      have HS := Lib.hid (st_end (i := i) (L := L) hne)
      clear hA hF hl hne
      go_enter Tryz.func122, Tryz.ntmps122
      go_wp2
      go_ret
      refine ⟨ret_int (by rw [HS.out]), ?_, FrF.refl _ _ _ _⟩
      rw [HS.out]
      exact HFO.out
  | succ k ih =>
    intro i ls L a n c w hA hl hF hik hN hn hL hlo
    have hln := hA.len
    by_cases h0 : n = 0
    · subst h0
      obtain rfl : ls = [] := List.eq_nil_of_length_eq_zero hln
      have HFO := Lib.hid hF
      clear hA hF hl
      go_enter Tryz.func122, Tryz.ntmps122
      go_wp2
      go_ret
      refine ⟨ret_int (by simp only [List.map_nil, st_nil]), ?_, FrF.refl _ _ _ _⟩
      simp only [List.map_nil, st_nil]
      exact HFO.out
    · have e0 : ((n : Int) == 0) = false := by simpa using (show ¬ (n : Int) = 0 by omega)
      have ei : ((i : Int) == (N : Int)) = false := by simpa using (show ¬ (i : Int) = (N : Int) by omega)
      have hne : ls.map (·.2) ≠ [] := fun e => h0 (by rw [← hln, ← List.length_map (f := fun x : QM × List Int => x.2), e]; rfl)
      have hncap := hA.row.cap
      have HFO := Lib.hid hF
      have HA := Lib.hid hA
      have HL := Lib.hid hl
      obtain ⟨q1, q2, q3⟩ := st_ref k (i + 1) ((ls.map (·.2)).take (cutN i (ls.map (·.2)))) L
      obtain ⟨A, hAe⟩ : ∃ A, stN k (i + 1) ((ls.map (·.2)).take (cutN i (ls.map (·.2)))) L = A := ⟨_, rfl⟩
      rw [hAe] at q1 q2 q3
      obtain ⟨r1, r2, r3⟩ := st_ref k (i + 1) ((ls.map (·.2)).drop (cutN i (ls.map (·.2)))) A.1
      obtain ⟨C, hCe⟩ : ∃ C, stN k (i + 1) ((ls.map (·.2)).drop (cutN i (ls.map (·.2)))) A.1 = C := ⟨_, rfl⟩
      rw [hCe] at r1 r2 r3
      have HNW := Lib.hid (st_new hne hAe hCe)
      obtain ⟨A1', A2⟩ := A
      obtain ⟨C1, C2⟩ := C
      simp only at q1 q2 q3 r1 r2 r3
      have hpw : 2 ^ (k + 1) = 2 ^ k + 2 ^ k := by rw [Nat.pow_succ]; omega
      have hq2 : I64 A2 := by have h1 := q1.1; have h2 := q1.2; unfold I64; omega
      have hr2 : I64 C2 := by have h1 := r1.1; have h2 := r1.2; unfold I64; omega
      have K2 := Lib.hid (fun (m : Nat) (hm : cutN i (ls.map (·.2)) = m) (hmn : m ≤ n) (nn cc : Nat) (hn' : m = nn) (hc : c = cc) (wx : World) (hA' : LsA wx lo a n c ls) (hF' : ∃ na nc, BldA wx lo p na nc L) (hlx : lo ≤ wx.heap.size) => by
        have h := ih (i + 1) (ls.take m) L a m c wx (hA'.head (by omega)) (fun x hx => hl x (List.mem_of_mem_take hx)) hF' (by omega) hN (by omega) (by omega) hlx
        rw [List.map_take, ← hm, hAe, hm, hn', hc, show ((i + 1 : Nat) : Int) = (i : Int) + 1 from rfl] at h
        exact h)
      have K3 := Lib.hid (fun (m : Nat) (hm : cutN i (ls.map (·.2)) = m) (hmn : m ≤ n) (aa : Option Addr) (nn cc : Nat) (ha : (if c = m then a else Option.map (fun x => x.add m) a) = aa) (hn' : n - m = nn) (hc : c - m = cc) (wx : World) (hA' : LsA wx lo a n c ls) (hF' : ∃ na nc, BldA wx lo p na nc A1') (hlx : lo ≤ wx.heap.size) => by
        have h := ih (i + 1) (ls.drop m) A1' _ (n - m) (c - m) wx (hA'.tail (by omega)) (fun x hx => hl x (List.mem_of_mem_drop hx)) hF' (by omega) hN (by omega) (by omega) hlx
        rw [List.map_drop, ← hm, hCe, hm, ha, hn', hc, show ((i + 1 : Nat) : Int) = (i : Int) + 1 from rfl] at h
        exact h)
      have e1 : IntKind.i64.wrap ((i : Int) + 1) = (i : Int) + 1 := IntWalk.i64_in _ (by omega)
      have hi0 : (0 : Int) ≤ (i : Int) := by omega
      have hiN : (i : Int) < (N : Int) := by omega
      clear hA hF hl hne hAe hCe ih
      go_enter Tryz.func122, Tryz.ntmps122
      go_wp2_with fail
      go_loopw [9] (fun s9 wr => ∃ j : Nat, s9 = .int .i64 j ∧ j ≤ n ∧ wr = w ∧ Hid (∀ x ∈ (ls.map (·.2)).take j, (x.getD i 0 == 1) = false)) (fun s9 _ => n - (intOf s9).toNat)
      case atStart => exact ⟨0, rfl, by omega, rfl, Lib.hid (fun x hx => by simp at hx)⟩
      case round =>
        obtain ⟨j, rfl, hj, rfl, Z⟩ := hrel
        have hj0 : (0 : Int) ≤ (j : Int) := by omega
        have hjn : (j : Int) ≤ (n : Int) := by omega
        have hjc : (j : Int) ≤ (c : Int) := by omega
        have hcase : (∃ (b off : Nat) (R : QM) (v : List Int) (b' off' : Nat) (z : Int), j < n ∧ (j : Int) < (n : Int) ∧ a = some ⟨b, off, none⟩ ∧ b < wr.heap.size ∧ wr.cell? ⟨b, off + j, none⟩ = some (.slice R.a R.n R.c) ∧ R.n = N ∧ R.a = some ⟨b', off', none⟩ ∧ b' < wr.heap.size ∧ wr.cell? ⟨b', off' + i, none⟩ = some (.int .i64 z) ∧ Hid (ls[j]? = some (R, v) ∧ v.getD i 0 = z) ∧ z = 0) ∨
            ((∃ (b off : Nat) (R : QM) (v : List Int) (b' off' : Nat) (z : Int), j < n ∧ (j : Int) < (n : Int) ∧ a = some ⟨b, off, none⟩ ∧ b < wr.heap.size ∧ wr.cell? ⟨b, off + j, none⟩ = some (.slice R.a R.n R.c) ∧ R.n = N ∧ R.a = some ⟨b', off', none⟩ ∧ b' < wr.heap.size ∧ wr.cell? ⟨b', off' + i, none⟩ = some (.int .i64 z) ∧ z = 1) ∧ Hid (cutN i (ls.map (·.2)) = j)) ∨ (n = j ∧ ¬ (j : Int) < (n : Int) ∧ Hid (cutN i (ls.map (·.2)) = j)) := by
          by_cases hlt : j < n
          · obtain ⟨b, off, R, v, e1, hb, hx, hv, hc⟩ := HA.out.get hlt
            have h1 := HL.out (R, v) (List.mem_of_getElem? hx)
            simp only at h1
            have hvl := hv.len
            obtain ⟨b', off', z, e2, hb', hz, hzc, _⟩ := hv.at (show i < R.n by omega)
            have hzd : v.getD i 0 = z := by rw [List.getD_eq_getElem?_getD, hz]; rfl
            rcases h1.2 z (List.mem_of_getElem? hz) with h0 | h0
            · exact .inl ⟨b, off, R, v, b', off', z, hlt, by omega, e1, hb, hc, by omega, e2, hb', hzc, Lib.hid ⟨hx, hzd⟩, h0⟩
            · refine .inr (.inl ⟨⟨b, off, R, v, b', off', z, hlt, by omega, e1, hb, hc, by omega, e2, hb', hzc, h0⟩, Lib.hid (cut_of (by rw [List.length_map]; omega) Z.out fun x h => ?_)⟩)
              rw [List.getElem?_map, hx] at h
              simp at h
              rw [← h, hzd, h0]; rfl
          · refine .inr (.inr ⟨by omega, by omega, Lib.hid (cut_of (by rw [List.length_map]; omega) Z.out fun x h => ?_)⟩)
            rw [List.getElem?_eq_none (by rw [List.length_map]; omega)] at h
            cases h
        rcases hcase with ⟨b, off, R, v, b', off', z, hlt, hlt', rfl, hb, hc, hRn, hRa, hb', hzc, HX, rfl⟩ | hrest
        · have hRn' : (R.n : Int) = (N : Int) := by omega
          have HZ := Lib.hid (show ∀ x ∈ (ls.map (·.2)).take (j + 1), (x.getD i 0 == 1) = false from fun x hx => by
            have h1 : (ls.map (·.2))[j]? = some v := by rw [List.getElem?_map, HX.out.1]; rfl
            rw [take_at h1] at hx
            rcases List.mem_append.1 hx with h2 | h2
            · exact Z.out x h2
            · simp at h2; rw [h2, HX.out.2]; rfl)
          clear Z HX
          rw [hRa, hRn] at hc
          clear hRa hRn
          go_wp2
          go_roundw
          case rel => exact ⟨j + 1, by go_num, by omega, (by first | rfl | trivial), HZ⟩
          case measure => simp [intOf]; omega
        · rcases hrest with ⟨⟨b, off, R, v, b', off', z, hlt, hlt', rfl, hb, hc, hRn, hRa, hb', hzc, rfl⟩, HC⟩ | ⟨hnj, hlt', HC⟩
          case' inr.inr => (clear Z hnj; rcases Nat.eq_or_lt_of_le (show j ≤ c by omega) with hcj | hcj)
          case' inr.inr.inr => (have hcm : ¬ c = j := (by omega); clear hcj; go_wp2_with fail)
          case' inr.inr.inl => (have hcm : c = j := (by omega); clear hcj; go_wp2_with fail)
          case' inr.inl => (have hcm : ¬ c = j := (by omega); rw [hRa, hRn] at hc; clear hRa hRn Z; go_wp2_with fail)
          all_goals
            refine Calls.mono (K2.out j HC.out hj _ _ (by first | rfl | omega) (by first | rfl | omega) wr HA.out HFO.out hlo) ?_
            rintro e w1 ⟨rfl, hF1, hf1⟩
            obtain ⟨na, nc, hbl⟩ := HFO.out
            have hb1 := hf1.below (Below.refl lo wr) hlo (Nat.le_refl _) hbl.lop hbl.lop
            have Hf1 := Lib.hid hf1
            have HF1 := Lib.hid hF1
            have hs1 := hf1.size
            have HA1 := Lib.hid (HA.out.keep hb1)
            clear hF1 hf1 hb1 hbl
            go_wp2_with fail
            refine Calls.mono (K3.out j HC.out hj _ _ _ (by first | exact if_pos (by assumption) | exact if_neg (by assumption) | (rw [if_neg hcm, Option.map_some]; congr 1; by_cases hj9 : j = 0 <;> simp [Addr.add, hj9])) (by first | rfl | omega) (by first | rfl | omega) w1 HA1.out HF1.out (by omega)) ?_
            rintro e w2 ⟨rfl, hF2, hf2⟩
            obtain ⟨na2, nc2, hF2⟩ := hF2
            have Hf2 := Lib.hid (Hf1.out.trans hf2)
            have HF2 := Lib.hid hF2
            have hs2 := Hf2.out.size
            clear hF2 hf2
            go_wp2_with fail
            refine Calls.mono (spec_l22Node HF2.out (by omega) (by unfold I64; omega) hq2 hr2 (by omega)) ?_
            rintro e w3 ⟨rfl, hF3, hf3⟩
            have HF3 := Lib.hid hF3
            have Hf3 := Lib.hid (Hf2.out.trans hf3)
            clear hF3 hf3
            go_wp2
            go_ret
            refine ⟨ret_int (by rw [HNW.out]), ?_, Hf3.out⟩
            rw [HNW.out]
            exact HF3.out
end Go.Proofs.YtkaikbaagajckaaGreat
namespace Go.Proofs.YtkaikbaagajckaaGreat
open Go.RowKit
set_option linter.unusedVariables false
set_option linter.unusedSimpArgs false
attribute [local go_sem ↓] Go.wp_at_zero Go.wp_at_succ
/-- a diagram that is not too large, or a code -/
def lmC (n : Int) (L : List I3) (rt : Int) : Int × List I3 × Int × Int := if L.length ≤ 2000 then (n, L, rt, 0) else (0, [], 0, 3)
theorem lmC_yes {n : Int} {L : List I3} {rt : Int} (h : L.length ≤ 2000) : lmC n L rt = (n, L, rt, 0) := if_pos h
theorem lmC_no {n : Int} {L : List I3} {rt : Int} (h : ¬ L.length ≤ 2000) : lmC n L rt = (0, [], 0, 3) := if_neg h
set_option maxHeartbeats 2000000 in
theorem spec_l22Small {base n c : Nat} {a : Option Addr} {L : List I3} {inp rt : Int} {w : World} (hO : OwnF 3 I3.enc I3.ok 117 w base a n c L) (hn : n ≤ 1048576) (hbase : base ≤ w.heap.size) :
    Calls Tryz.prog 80 #[.agg #[.int .i64 inp, .slice a n c, .int .i64 rt]] w fun e w' => ∃ da dc, e = .returned (.tuple #[.agg #[.int .i64 (lmC inp L rt).1, .slice da (lmC inp L rt).2.1.length dc, .int .i64 (lmC inp L rt).2.2.1], .int .i64 (lmC inp L rt).2.2.2]) ∧ OwnF 3 I3.enc I3.ok 117 w' base da (lmC inp L rt).2.1.length dc (lmC inp L rt).2.1 ∧ Below w.heap.size w w' := by
  obtain rfl : L.length = n := hO.len
  have O := Lib.hid hO
  have hal : ∀ g, a = some ⟨g, 0, none⟩ → g < w.heap.size := fun g e => (hO.blk g e).2
  clear hO
  by_cases h2 : L.length ≤ 2000
  · have HC := Lib.hid (lmC_yes (n := inp) (rt := rt) h2)
    have h2' : ¬ (2000 : Int) < (L.length : Int) := by omega
    go_enter Tryz.func80, Tryz.ntmps80
    go_wp2
    have hne : ∀ y, a = some ⟨y, 0, none⟩ → (some (w.heap.size + 1) : Option Nat) ≠ some y := fun y e e' => by
      have := hal y e
      simp at e'
      omega
    refine bodyPost_ret (v := .tuple #[.agg #[.int .i64 inp, .slice a L.length c, .int .i64 rt], .int .i64 0]) (by simp [results, Tryz.results80, go_sem, *]) rfl ⟨a, c, by rw [HC.out], by rw [HC.out]; exact O.out.keep bel, bel⟩
  · have HC := Lib.hid (lmC_no (n := inp) (rt := rt) h2)
    have h2' : (2000 : Int) < (L.length : Int) := by omega
    go_enter Tryz.func80, Tryz.ntmps80
    go_wp2
    refine bodyPost_ret (v := .tuple #[.agg #[.int .i64 0, .slice none 0 0, .int .i64 0], .int .i64 3]) (by simp [results, Tryz.results80, go_sem, *]) rfl ⟨none, 0, by rw [HC.out]; rfl, by rw [HC.out]; exact ⟨World.ownsRow_nil _ _ _ 3, (fun _ h => by cases h), rfl, fun _ => rfl⟩, bel⟩
end Go.Proofs.YtkaikbaagajckaaGreat
namespace Go.Proofs.YtkaikbaagajckaaGreat
open Go.RowKit
set_option linter.unusedVariables false
set_option linter.unusedSimpArgs false
theorem enabI_eq (rs : List RuD) (v : List Int) : enabI rs v rs.length = (enabP rs v).map fun (i : Nat) => (i : Int) := rfl
theorem enabI_at {rs : List RuD} {v : List Int} {j : Nat} {z : Int} (h : (enabI rs v rs.length)[j]? = some z) : ∃ (q : Nat) (r : RuD), z = (q : Int) ∧ q < rs.length ∧ rs[q]? = some r ∧ (enabP rs v)[j]? = some q ∧ (nextP rs v)[j]? = some (q, applyP v r.e) := by
  rw [enabI_eq, List.getElem?_map] at h
  cases hq : (enabP rs v)[j]? with
  | none => rw [hq] at h; cases h
  | some q =>
    rw [hq] at h
    simp only [Option.map_some, Option.some.injEq] at h
    have hm := List.mem_of_getElem? hq
    rw [enabP, List.mem_filter, List.mem_range] at hm
    have hr : rs[q]? = some rs[q] := List.getElem?_eq_getElem hm.1
    refine ⟨q, rs[q], h.symm, hm.1, hr, rfl, ?_⟩
    have e : rs.getD q zRu = rs[q] := by rw [List.getD_eq_getElem?_getD, hr]; rfl
    rw [nextP, List.getElem?_map, hq, Option.map_some, e]
theorem nextP_len (rs : List RuD) (v : List Int) : (nextP rs v).length = (enabI rs v rs.length).length := by rw [nextP, enabI_eq, List.length_map, List.length_map]
/-- the list after the first j enabled rules -/
def expT (rs : List RuD) (i : Nat) (x : SN) (L : List SN) (j : Nat) : List SN := ((nextP rs x.v).take j).foldl (addN i x) L
theorem expT_step {rs : List RuD} {i : Nat} {x : SN} {L : List SN} {j : Nat} {q : Nat × List Int} (h : (nextP rs x.v)[j]? = some q) : expT rs i x L (j + 1) = addN i x (expT rs i x L j) q := by
  rw [expT, take_at h, List.foldl_append]; rfl
theorem expT_all {rs : List RuD} {i : Nat} {x : SN} {L : List SN} {j : Nat} (h : (nextP rs x.v).length ≤ j) : expT rs i x L j = expN rs i x L := by
  rw [expT, List.take_of_length_le h]; rfl
def hasL (L : List SN) (k : List UInt8) : Bool := L.any fun y => keyL y.v == k
theorem hasL_app (L : List SN) (y : SN) (k : List UInt8) : hasL (L ++ [y]) k = (decide (k = keyL y.v) || hasL L k) := by
  rw [hasL, List.any_append, Bool.or_comm]
  simp only [List.any_cons, List.any_nil, Bool.or_false, hasL]
  congr 1
  rw [Bool.eq_iff_iff, beq_iff_eq, decide_eq_true_iff]
  exact eq_comm
theorem hasL_any {sz : List Int} (hz : ∀ z ∈ sz, z ≤ 256) {L : List SN} (hL : ∀ y ∈ L, SV sz y.v) {v : List Int} (hv : SV sz v) : hasL L (keyL v) = L.any (fun y => y.v == v) := by
  rw [hasL, Bool.eq_iff_iff, List.any_eq_true, List.any_eq_true]
  constructor
  · rintro ⟨y, hy, h⟩
    exact ⟨y, hy, by simpa using keyL_inj hz (hL y hy) hv (by simpa using h)⟩
  · rintro ⟨y, hy, h⟩
    exact ⟨y, hy, by simp at h; simp [h]⟩
theorem addN_old {i : Nat} {x : SN} {L : List SN} {r : Nat × List Int} (h : L.any (fun y => y.v == r.2) = true) : addN i x L r = L := by rw [addN, if_pos h]
theorem addN_new {i : Nat} {x : SN} {L : List SN} {r : Nat × List Int} (h : L.any (fun y => y.v == r.2) = false) : addN i x L r = L ++ [⟨r.2, i, r.1, x.dp + 1, x.tr ++ [(r.1 : Int)]⟩] := by rw [addN, if_neg (by simp [h])]
/-- how deep a found state lies is bounded by its place -/
def DpB (L : List SN) : Prop := ∀ (j : Nat) (y : SN), L[j]? = some y → 0 ≤ y.dp ∧ y.dp ≤ j
theorem DpB.add {L : List SN} (h : DpB L) {i : Nat} {x : SN} (hx : L[i]? = some x) (r : Nat × List Int) : DpB (addN i x L r) := by
  have hi : i < L.length := (List.getElem?_eq_some_iff.1 hx).1
  have hxd := h i x hx
  cases ha : L.any (fun y => y.v == r.2) with
  | true => rw [addN_old ha]; exact h
  | false =>
    rw [addN_new ha]
    intro j y hy
    by_cases hj : j < L.length
    · rw [List.getElem?_append_left hj] at hy; exact h j y hy
    · rw [List.getElem?_append_right (by omega)] at hy
      have hj0 : j - L.length = 0 := by
        have := (List.getElem?_eq_some_iff.1 hy).1
        simp at this; omega
      rw [hj0] at hy
      simp at hy
      subst hy
      exact ⟨by simp only; omega, by simp only; omega⟩
theorem plc_up {m : Nat} {l : List (List Int)} {x a : List Int} {k : Nat} (h : AscS m l) (hx : x.length = m) (ha : l[k]? = some a) (hc : cmpL a x < 0) : ∀ (i : Nat) (b : List Int), l[i]? = some b → i < k + 1 → cmpL b x < 0 := by
  intro i b hb hi
  by_cases e : i = k
  · subst e; rw [ha] at hb; cases hb; exact hc
  · have l1 := h.1 b (List.mem_of_getElem? hb)
    have l2 := h.1 a (List.mem_of_getElem? ha)
    exact cmpL_trans (by rw [l1, l2]) (by rw [l2, hx]) (asc_lt h hb ha (by omega)) hc
theorem plc_dn {m : Nat} {l : List (List Int)} {x a : List Int} {k : Nat} (h : AscS m l) (hx : x.length = m) (ha : l[k]? = some a) (hc : ¬ cmpL a x < 0) : ∀ (i : Nat) (b : List Int), l[i]? = some b → k ≤ i → 0 ≤ cmpL b x := by
  intro i b hb hi
  by_cases e : k = i
  · subst e; rw [ha] at hb; cases hb; omega
  · refine Int.not_lt.1 fun hlt => hc ?_
    have l1 := h.1 b (List.mem_of_getElem? hb)
    have l2 := h.1 a (List.mem_of_getElem? ha)
    exact cmpL_trans (by rw [l1, l2]) (by rw [l1, hx]) (asc_lt h ha hb (by omega)) hlt
theorem cmpL_done {a b : List Int} {k : Nat} (h : a.take k = b.take k) (ha : a.length ≤ k) (hb : b.length ≤ k) : cmpL a b = 0 := by
  rw [List.take_of_length_le ha, List.take_of_length_le hb] at h
  rw [h, cmpL_self]
theorem take_eq_step {a b : List Int} {k : Nat} {x : Int} (h : a.take k = b.take k) (ha : a[k]? = some x) (hb : b[k]? = some x) : a.take (k + 1) = b.take (k + 1) := by rw [take_at ha, take_at hb, h]
theorem cmpL_lt {a b : List Int} {k : Nat} (h : a.take k = b.take k) {x y : Int} (ha : a[k]? = some x) (hb : b[k]? = some y) (hxy : x < y) : cmpL a b = -1 := by rw [cmpL_at h ha hb, if_pos hxy]
theorem cmpL_gt {a b : List Int} {k : Nat} (h : a.take k = b.take k) {x y : Int} (ha : a[k]? = some x) (hb : b[k]? = some y) (hxy : y < x) : cmpL a b = 1 := by rw [cmpL_at h ha hb, if_neg (by omega), if_pos hxy]
/-- a list that grows by one found state -/
theorem any_map {L : List SN} {v : List Int} : L.any (fun y => y.v == v) = decide (v ∈ L.map (·.v)) := by
  rw [Bool.eq_iff_iff, List.any_eq_true, decide_eq_true_iff, List.mem_map]
  constructor
  · rintro ⟨y, hy, h⟩; exact ⟨y, hy, by simpa using h⟩
  · rintro ⟨y, hy, h⟩; exact ⟨y, hy, by simpa using h⟩
theorem expN_len {rs : List RuD} {i : Nat} {x : SN} {L : List SN} {j : Nat} : (expT rs i x L j).length ≤ (expN rs i x L).length := by
  have h : expN rs i x L = ((nextP rs x.v).drop j).foldl (addN i x) (expT rs i x L j) := by
    rw [expT, expN, ← List.foldl_append, List.take_append_drop]
  rw [h]
  obtain ⟨t, ht, _⟩ := foldN_pre i x ((nextP rs x.v).drop j) (expT rs i x L j)
  rw [ht, List.length_append]; omega
theorem exp_over {rs : List RuD} {i : Nat} {x : SN} {L : List SN} {j : Nat} {q : Nat × List Int} (h : (nextP rs x.v)[j]? = some q) (hl : 4000 ≤ (expT rs i x L j).length) (hn : (expT rs i x L j).any (fun y => y.v == q.2) = false) : 4000 < (expN rs i x L).length := by
  have h1 := expN_len (rs := rs) (i := i) (x := x) (L := L) (j := j + 1)
  rw [expT_step h, addN_new hn, List.length_append] at h1
  simp at h1; omega
theorem expT_at {rs : List RuD} {i : Nat} {x : SN} {L : List SN} (hx : L[i]? = some x) (j : Nat) : (expT rs i x L j)[i]? = some x := by
  obtain ⟨t, ht, _⟩ := foldN_pre i x ((nextP rs x.v).take j) L
  rw [expT, ht, List.getElem?_append_left (List.getElem?_eq_some_iff.1 hx).1]; exact hx
theorem expT_pre {rs : List RuD} {i : Nat} {x : SN} {L : List SN} (j : Nat) : L.length ≤ (expT rs i x L j).length := by
  obtain ⟨t, ht, _⟩ := foldN_pre i x ((nextP rs x.v).take j) L
  rw [expT, ht, List.length_append]; omega
set_option maxHeartbeats 1000000 in
theorem spec_l20Compare {xa ya : Option Addr} {n xc yc : Nat} {x y : List Int} {w : World} (hX : Ints w xa n xc x) (hY : Ints w ya n yc y) (hn : n ≤ 1048576) :
    Calls Tryz.prog 193 #[.slice xa n xc, .slice ya n yc] w fun e w' => e = .returned (.int .i64 (cmpL x y)) ∧ Below w.heap.size w w' := by
  have HX := Lib.hid hX
  have HY := Lib.hid hY
  clear hX hY
  go_enter Tryz.func193, Tryz.ntmps193
  go_wp2_with fail
  go_loopw [5] (fun s5 wr => ∃ j : Nat, s5 = .int .i64 j ∧ j ≤ n ∧ Below w.heap.size w wr ∧ Hid (x.take j = y.take j)) (fun s5 _ => n - (intOf s5).toNat)
  case atStart => exact ⟨0, rfl, by omega, Below.refl _ _, Lib.hid rfl⟩
  case round =>
    obtain ⟨j, rfl, hj, hbl, A⟩ := hrel
    by_cases hlt : j < n
    · have hlt' : (j : Int) < (n : Int) := by omega
      have hj0 : (0 : Int) ≤ (j : Int) := by omega
      obtain ⟨b1, o1, u, rfl, hb1, hu, hc1, huw⟩ := (HX.out.keep hbl).at hlt
      obtain ⟨b2, o2, v, rfl, hb2, hv, hc2, hvw⟩ := (HY.out.keep hbl).at hlt
      have HU := Lib.hid hu
      have HV := Lib.hid hv
      clear hu hv
      by_cases h1 : u < v
      · have HQ := Lib.hid (cmpL_lt A.out HU.out HV.out h1)
        go_wp2
        go_quiet (fail)
        go_wp2
        go_ret
        exact ⟨ret_int HQ.out.symm, bel⟩
      · by_cases h2 : v < u
        · have HQ := Lib.hid (cmpL_gt A.out HU.out HV.out h2)
          go_wp2
          go_quiet (fail)
          go_wp2
          go_quiet (fail)
          go_wp2
          go_ret
          exact ⟨ret_int HQ.out.symm, bel⟩
        · have HQ := Lib.hid (take_eq_step A.out HU.out (show y[j]? = some u by rw [HV.out]; congr 1; omega))
          go_wp2
          go_quiet (fail)
          go_wp2
          go_quiet (fail)
          go_wp2
          go_roundw
          case rel => exact ⟨j + 1, by go_num, by omega, bel, HQ⟩
          case measure => simp [intOf]; omega
    · obtain rfl : n = j := by omega
      have hlt' : ¬ (n : Int) < (n : Int) := by omega
      have HQ := Lib.hid (cmpL_done A.out (by rw [HX.out.len]; exact Nat.le_refl _) (by rw [HY.out.len]; exact Nat.le_refl _))
      go_wp2
      go_ret
      exact ⟨ret_int HQ.out.symm, hbl⟩
set_option maxHeartbeats 1000000 in
theorem spec_l20Place {lo l2 n c m vn vc : Nat} {a va : Option Addr} {l : List (QM × List Int)} {v : List Int} {w : World} (hL : SRow w lo l2 a n c l) (hV : Ints w va vn vc v) (hA : AscS m (l.map (·.2))) (hvm : v.length = m) (hm : m ≤ 1048576) (hn : n ≤ 1048576) :
    Calls Tryz.prog 158 #[.slice a n c, .slice va vn vc] w fun e w' => ∃ p : Nat, e = .returned (.tuple #[.int .i64 (p : Int), .bool (decide (v ∈ l.map (·.2)))]) ∧ Plc (l.map (·.2)) v p ∧ Below w.heap.size w w' := by
  have hvn : vn = m := by rw [← hV.len, hvm]
  subst hvn
  have HL := Lib.hid hL
  have HV := Lib.hid hV
  have HA := Lib.hid hA
  have HVM := Lib.hid hvm
  have HLL := Lib.hid (show (l.map (·.2)).length = n by rw [List.length_map]; exact hL.len)
  clear hL hV hA hvm
  go_enter Tryz.func158, Tryz.ntmps158
  go_wp2_with fail
  go_loopw [6, 7] (fun s6 s7 wr => ∃ p q : Nat, s6 = .int .i64 p ∧ s7 = .int .i64 q ∧ p ≤ q ∧ q ≤ n ∧ Below w.heap.size w wr ∧ Hid ((∀ (i : Nat) (x : List Int), (l.map (·.2))[i]? = some x → i < p → cmpL x v < 0) ∧ ∀ (i : Nat) (x : List Int), (l.map (·.2))[i]? = some x → q ≤ i → 0 ≤ cmpL x v)) (fun s6 s7 _ => (intOf s7).toNat - (intOf s6).toNat)
  case atStart => exact ⟨0, n, rfl, rfl, by omega, by omega, Below.refl _ _, Lib.hid ⟨fun i x _ h => by omega, fun i x h1 h2 => by have := (List.getElem?_eq_some_iff.1 h1).1; rw [HLL.out] at this; omega⟩⟩
  case round =>
    obtain ⟨p, q, rfl, rfl, hpq, hqn, hbl, A⟩ := hrel
    by_cases hlt : p < q
    · have hlt' : (p : Int) < (q : Int) := by omega
      obtain ⟨k, hk⟩ : ∃ k : Nat, k = (p + q) / 2 := ⟨_, rfl⟩
      have hk1 : p ≤ k := by omega
      have hk2 : k < q := by omega
      have e1 : ((p : Int) + (q : Int)) / 2 = (k : Int) := by omega
      have e2 : ((p : Int) + (q : Int)).tdiv 2 = (k : Int) := by rw [Int.tdiv_eq_ediv_of_nonneg (by omega)]; exact e1
      clear hk
      have hk0 : (0 : Int) ≤ (k : Int) := by omega
      have hkn : (k : Int) < (n : Int) := by omega
      obtain ⟨b, off, R, x, rfl, hb, hx, hox, hc⟩ := (HL.out.keep hbl).get (show k < n by omega)
      have HX := Lib.hid (show (l.map (·.2))[k]? = some x by rw [List.getElem?_map, hx]; rfl)
      have hRn : R.n = vn := by rw [← hox.ints.len]; exact HA.out.1 x (List.mem_of_getElem? HX.out)
      have HO := Lib.hid hox
      clear hx hox
      go_wp2_with fail
      have K := spec_l20Compare (w := wr) HO.out.ints (by rw [hRn]; exact HV.out.keep hbl) (by omega)
      rw [hRn] at K
      refine Calls.mono K ?_
      rintro e w1 ⟨rfl, hb1⟩
      have hb2 : Below w.heap.size w w1 := below_callS hbl hb1
      clear K hb1
      by_cases hcmp : cmpL x v < 0
      · have HU := Lib.hid (plc_up HA.out HVM.out HX.out hcmp)
        go_wp2
        go_roundw
        case rel => exact ⟨k + 1, q, by go_num, rfl, by omega, hqn, hb2, Lib.hid ⟨HU.out, A.out.2⟩⟩
        case measure => simp [intOf]; omega
      · have HU := Lib.hid (plc_dn HA.out HVM.out HX.out hcmp)
        go_wp2
        go_roundw
        case rel => exact ⟨p, k, rfl, rfl, by omega, by omega, hb2, Lib.hid ⟨A.out.1, HU.out⟩⟩
        case measure => simp [intOf]; omega
    · obtain rfl : p = q := by omega
      have hlt' : ¬ (p : Int) < (p : Int) := by omega
      have HP := Lib.hid (show Plc (l.map (·.2)) v p from ⟨by rw [HLL.out]; exact hqn, A.out.1, A.out.2⟩)
      have HM := Lib.hid (plc_mem HA.out HVM.out HP.out)
      by_cases hpn : p < n
      · have hpn' : (p : Int) < (n : Int) := by omega
        have hp0 : (0 : Int) ≤ (p : Int) := by omega
        obtain ⟨b, off, R, x, rfl, hb, hx, hox, hc⟩ := (HL.out.keep hbl).get hpn
        have HX := Lib.hid (show (l.map (·.2))[p]? = some x by rw [List.getElem?_map, hx]; rfl)
        have hRn : R.n = vn := by rw [← hox.ints.len]; exact HA.out.1 x (List.mem_of_getElem? HX.out)
        have HO := Lib.hid hox
        clear hx hox
        have hD : decide (v ∈ l.map (·.2)) = decide (cmpL x v = 0) := by
          rw [Bool.eq_iff_iff, decide_eq_true_iff, decide_eq_true_iff, ← HM.out]
          constructor
          · rintro ⟨y, hy, h0⟩; rw [HX.out] at hy; cases hy; exact h0
          · intro h0; exact ⟨x, HX.out, h0⟩
        have HD := Lib.hid hD
        clear hD
        go_wp2_with fail
        have K := spec_l20Compare (w := wr) HO.out.ints (by rw [hRn]; exact HV.out.keep hbl) (by omega)
        rw [hRn] at K
        refine Calls.mono K ?_
        rintro e w1 ⟨rfl, hb1⟩
        have hb2 : Below w.heap.size w w1 := below_callS hbl hb1
        go_wp2
        go_ret2
        exact ⟨p, by rw [HD.out]; rfl, HP.out, hb2⟩
      · have hpn' : ¬ (p : Int) < (n : Int) := by omega
        have HD := Lib.hid (show decide (v ∈ l.map (·.2)) = false by
          rw [decide_eq_false_iff_not, ← HM.out]
          rintro ⟨y, hy, _⟩
          have := (List.getElem?_eq_some_iff.1 hy).1
          rw [HLL.out] at this; omega)
        go_wp2
        go_ret2
        exact ⟨p, by rw [HD.out]; rfl, HP.out, hbl⟩
/-- 'append(out, xs...)' of records to a row of the call's own, at a step of a region -/
theorem wp_appendL_F {α : Type} {k : Nat} {enc : α → List Value} {ok : α → Prop} {z : Value} {by' : Nat} {P : Program} {w : World} {o : Oper} {act : Act} {K : Act → World → Prop} {Q : Exit → Act → World → Prop} (s x : Operand) (t e : TypeId)
    (ho : o.op = .call { callee := .builtin .append, args := #[s, x], argTypes := #[t, t] }) (ht : P.underlying t = some (.slice e)) (hinfo : (P.info? e).map (fun i => (i.zero, i.size, i.bytes)) = some (some z, k, by'))
    (hzs : z.cells.size = k) (hk : 0 < k) (hby : by' ≤ 128) (hone : ∀ y : α, ∀ u ∈ enc y, u.oneCell' = true)
    (base : Nat) (a : Option Addr) (n c : Nat) (l : List α) (hown : OwnF k enc ok e w base a n c l) (hs : act.eval s = .slice a n c) (a2 : Option Addr) (m c2 : Nat) (l2 : List α) (hx : act.eval x = .slice a2 m c2) (hsrc : Flats k enc ok w a2 m c2 l2)
    (hn : n ≤ 4194304) (hm : m ≤ 4194304) (hbase : base ≤ w.heap.size)
    (K' : ∀ a' c' w', OwnF k enc ok e w' base a' (n + m) c' (l ++ l2) → Below base w w' → w.grownBy w' (Value.slice a n c).ownBlock → K (act.put o.dst (.slice a' (n + m) c')) w') : o.wp P act w K Q := by
  obtain ⟨i, hi, hz0, hz1, hz2⟩ := info_parts hinfo
  obtain ⟨hown1, hok, hlen, henc⟩ := hown
  have hmul : ∀ q : List α, (q.flatMap enc).length = q.length * k := fun q => by
    induction q with
    | nil => simp
    | cons y r ih => rw [List.flatMap_cons, List.length_append, ih, henc, List.length_cons, Nat.succ_mul, Nat.add_comm]
  cases a2 with
  | none =>
    obtain ⟨rfl, rfl⟩ := hsrc.nil rfl
    have hl2 : l2 = [] := List.length_eq_zero_iff.1 hsrc.len
    subst hl2
    have hrun := run_append_owned_none (P := P) (w := w) base t o.type e i k ht hi (.slice a n c) n _ hown1
    unfold Oper.wp
    simp [execOp, ho, resolve, invoke, builtin, hs, hx, hrun, Result.andThen]
    refine K' a c w ?_ (Below.refl _ _) (grownBy_refl _ _)
    rw [List.append_nil]; exact ⟨hown1, hok, hlen, henc⟩
  | some ad =>
    refine wp_append_own w s x t ho base e i z k by' ht hi hz0 hz1 hz2 hzs hk (.slice a n c) n _ hs hown1 ad m c2 (l2.flatMap enc) hx (by rw [hmul, hsrc.len]) ?_ ?_ (by unfold maxLen; omega) (Nat.le_trans (Nat.mul_le_mul_left (n + m) hby) (by omega)) hbase ?_
    · intro j u hj
      obtain ⟨x, h1, h2⟩ := flat_inv henc hk hj
      have hjm : j / k < m := by rw [← hsrc.len]; exact (List.getElem?_eq_some_iff.1 h1).1
      obtain ⟨b, off, he, _, hc⟩ := hsrc.pos.resolve_left (Nat.ne_of_gt (Nat.lt_of_le_of_lt (Nat.zero_le _) hjm))
      simp only [Option.some.injEq] at he
      subst he
      have e1 : (⟨b, off, none⟩ : Addr).add j = ⟨b, off + j, none⟩ := by by_cases h0 : j = 0 <;> simp [Addr.add, h0]
      have := hc _ x h1 _ u h2
      rw [Nat.add_assoc, Nat.mul_comm, Nat.div_add_mod] at this
      rw [e1]; exact this
    · intro u hu
      obtain ⟨y, _, hy⟩ := List.mem_flatMap.1 hu
      exact hone y u hy
    · intro v' w' hown' hg hnil
      have hform := Joins.ownsRow_forms hown'
      have hb : Below base w w' := (Below.refl _ _).grown hg hbase fun k hk => (hown1.lt k hk).1
      have hmap : l.flatMap enc ++ l2.flatMap enc = (l ++ l2).flatMap enc := (List.flatMap_append ..).symm
      have hw : ∀ y ∈ l ++ l2, ok y := fun y hy => by
        rcases List.mem_append.1 hy with h | h
        · exact hok y h
        · exact hsrc.wf y h
      have hll : (l ++ l2).length = n + m := by rw [List.length_append, hlen, hsrc.len]
      rw [hmap] at hown'
      rcases hform with ⟨hv, h0⟩ | ⟨g, cap, hv⟩
      · rw [hv] at hown' ⊢
        have h2 := K' none 0 w' (by rw [h0] at hown' hll ⊢; exact ⟨hown', hw, hll, henc⟩) hb hg
        rw [h0] at h2; exact h2
      · rw [hv] at hown' ⊢
        exact K' _ _ _ ⟨hown', hw, hll, henc⟩ hb hg
/-- append of states to a row, at a step of a region -/
theorem wp_appSL {w : World} {o : Oper} {act : Act} {K : Act → World → Prop} {Q : Exit → Act → World → Prop} (s x : Operand)
    (ho : o.op = .call { callee := .builtin .append, args := #[s, x], argTypes := #[31, 31] })
    (base b2 : Nat) (a : Option Addr) (n c : Nat) (l : List (QM × List Int)) (hown : SRow w base b2 a n c l) (hs : act.eval s = .slice a n c) (a2 : Option Addr) (m c2 : Nat) (l2 : List (QM × List Int)) (hx : act.eval x = .slice a2 m c2) (hsrc : Flats 1 encS (fun _ => True) w a2 m c2 l2) (hy : ∀ y ∈ l2, OwnI 2 w b2 y.1.a y.1.n y.1.c y.2)
    (hn : n ≤ 4194304) (hm : m ≤ 4194304) (hbase : base ≤ w.heap.size)
    (K' : ∀ a' c' w', SRow w' base b2 a' (n + m) c' (l ++ l2) → Below base w w' → Touch w w' 1 a → K (act.put o.dst (.slice a' (n + m) c')) w') : o.wp Tryz.prog act w K Q := by
  refine wp_appendL_F (k := 1) (enc := encS) (ok := fun _ => True) s x _ _ ho Tryz.underlying31 Tryz.infosl rfl (by decide) (by decide) encS_one base a n c l hown.row hs a2 m c2 l2 hx hsrc hn hm hbase ?_
  intro a' c' w' h1 h2 h3
  have ht : Touch w w' 1 a := ⟨_, h3, fun b e => ⟨by decide, own_block hown.row.1 b e⟩⟩
  refine K' a' c' w' ⟨h1, fun z hz => ?_⟩ h2 ht
  have hz' : OwnI 2 w b2 z.1.a z.1.n z.1.c z.2 := by
    rcases List.mem_append.1 hz with hz | hz
    · exact hown.each z hz
    · exact hy z hz
  exact hz'.keepT ht fun g e e' => typ_apart (fun {g} e => hz'.typ e) (fun {g} e => hown.row.typ e) (by decide) g e e'
/-- an empty row, laid first, before or behind a literal of one state -/
theorem SRow.e1 {w : World} {l2 : Nat} : SRow (w.alloc (.cells #[] 22)) w.heap.size l2 (some ⟨w.heap.size, 0, none⟩) 0 0 [] :=
  ⟨⟨World.ownsRow_lit w #[] 0 (Nat.le_refl _) (Nat.zero_le _) rfl, (fun _ h => by cases h), rfl, encS_len⟩, fun _ h => by cases h⟩
theorem SRow.e2 {w : World} {l2 : Nat} {o : Obj} : SRow ((w.alloc (.cells #[] 22)).alloc o) w.heap.size l2 (some ⟨w.heap.size, 0, none⟩) 0 0 [] :=
  SRow.e1.keep ((Below.refl _ _).alloc (Nat.le_refl _) _)
theorem SRow.e3 {w : World} {l2 : Nat} {o : Obj} : SRow ((w.alloc o).alloc (.cells #[] 22)) w.heap.size l2 (some ⟨w.heap.size + 1, 0, none⟩) 0 0 [] := by
  have h := (SRow.e1 (w := w.alloc o) (l2 := l2)).le (lo' := w.heap.size) (l2' := l2) (by simp) (Nat.le_refl _)
  simpa using h
theorem SRow.lit {w : World} {R : QM} {v : List Int} {l2 : Nat} (hy : OwnI 2 w l2 R.a R.n R.c v) : SRow (w.alloc (.cells #[.slice R.a R.n R.c] 22)) w.heap.size l2 (some ⟨w.heap.size, 0, none⟩) 1 1 [(R, v)] :=
  ⟨OwnF.lit w [(R, v)] (Nat.le_refl _) rfl (by decide) encS_len (fun _ _ => trivial) rfl, fun x hx => by
    simp at hx; rw [hx]; exact hy.keep ((Below.refl _ _).alloc (Nat.le_refl _) _)⟩
theorem SRow.tail {w : World} {lo l2 n c p : Nat} {a : Option Addr} {l : List (QM × List Int)} (h : SRow w lo l2 a n c l) (hp : p ≤ n) : Flats 1 encS (fun _ => True) w (if c = p then a else Option.map (fun x => x.add p) a) (n - p) (c - p) (l.drop p) := by
  have h1 := h.row.flats.part (lo := p) (hi := n) hp (Nat.le_refl _)
  rw [show (l.drop p).take (n - p) = l.drop p from List.take_of_length_le (by rw [List.length_drop, h.len]; exact Nat.le_refl _), Nat.mul_one] at h1
  exact h1
theorem Flats.lit1 {w : World} {a : Option Addr} {n c : Nat} {v : List Int} : Flats 1 encS (fun _ => True) (w.alloc (.cells #[.slice a n c] 22)) (some ⟨w.heap.size, 0, none⟩) 1 1 [(⟨a, n, c⟩, v)] :=
  lit_flats w 22 ([((⟨a, n, c⟩ : QM), v)] : List (QM × List Int)) #[.slice a n c] encS_len (by decide) rfl (fun _ _ => trivial)
theorem SRow.keepA {w w' : World} {lo l2 n' : Nat} {a a' : Option Addr} {n c : Nat} {l : List (QM × List Int)} (h : SRow w lo l2 a n c l) (ht : Touch w w' n' a') (ty : ∀ {g : Nat}, a' = some ⟨g, 0, none⟩ → ∃ cur, w.heap[g]? = some (.cells cur 22 (0, 0))) (hap : ∀ g, a = some ⟨g, 0, none⟩ → a' = some ⟨g, 0, none⟩ → False) : SRow w' lo l2 a n c l :=
  ⟨h.row.keepT ht hap, fun x hx => (h.each x hx).keepT ht fun g e e' => typ_apart (fun {g} e => (h.each x hx).typ e) ty (by decide) g e e'⟩
theorem Touch.undrew {w w' : World} {n : Nat} {a : Option Addr} (h : Touch w.drew w' n a) : Touch w w' n a := by
  obtain ⟨r, hg, hr⟩ := h
  exact ⟨r, ⟨hg.os, hg.tape, hg.output, hg.size, hg.block⟩, hr⟩
theorem lit_keepE {wE wn : World} {a : Option Addr} {n c : Nat} {v : List Int} {base l2 g i : Nat} (hi : i = wE.heap.size) (hE : SRow wE base l2 (some ⟨g, 0, none⟩) 0 0 []) (hy : OwnI 2 wE l2 a n c v) (ht : Touch (wE.alloc (.cells #[.slice a n c] 22)) wn 1 (some ⟨g, 0, none⟩)) : SRow wn i l2 (some ⟨i, 0, none⟩) 1 1 [(⟨a, n, c⟩, v)] := by
  subst hi
  have hE' := hE.keep ((Below.refl _ _).alloc (Nat.le_refl _) (.cells #[.slice a n c] 22))
  have hg := (hE.row.blk g rfl).2
  exact (SRow.lit (R := ⟨a, n, c⟩) hy).keepA ht (fun e => hE'.row.typ e) (fun g' e e' => by simp at e e'; omega)
theorem lit_keepF {w wn : World} {a : Option Addr} {n c : Nat} {v : List Int} {l2 : Nat} (hy : OwnI 2 w l2 a n c v) (ht : Touch ((w.alloc (.cells #[.slice a n c] 22)).alloc (.cells #[] 22)) wn 1 (some ⟨w.heap.size + 1, 0, none⟩)) : SRow wn w.heap.size l2 (some ⟨w.heap.size, 0, none⟩) 1 1 [(⟨a, n, c⟩, v)] := by
  have h := (SRow.lit (R := ⟨a, n, c⟩) hy).keep (w' := (w.alloc (.cells #[.slice a n c] 22)).alloc (.cells #[] 22)) ((Below.refl _ _).alloc (Nat.le_refl _) _)
  exact h.keepA ht (fun e => (SRow.e3 (l2 := l2)).row.typ e) (fun g e e' => by simp at e e'; omega)
set_option maxHeartbeats 4000000 in
theorem spec_l20Insert {lo l2 n c m vn vc : Nat} {a va : Option Addr} {l : List (QM × List Int)} {v : List Int} {w : World} (hL : SRow w lo l2 a n c l) (hV : OwnI 2 w l2 va vn vc v) (hA : AscS m (l.map (·.2))) (hvm : v.length = m) (hm : m ≤ 1048576) (hn : n ≤ 1048576) (hno : v ∉ l.map (·.2)) :
    Calls Tryz.prog 94 #[.slice a n c, .slice va vn vc] w fun e w' => ∃ (p : Nat) (a' : Option Addr) (c' : Nat), e = .returned (.slice a' (n + 1) c') ∧ Plc (l.map (·.2)) v p ∧ SRow w' w.heap.size l2 a' (n + 1) c' (l.take p ++ [(⟨va, vn, vc⟩, v)] ++ l.drop p) ∧ Below w.heap.size w w' := by
  have K1 := Lib.hid (spec_l20Place hL hV.ints hA hvm hm hn)
  have HL := Lib.hid hL
  have HV := Lib.hid hV
  have HNO := Lib.hid (show decide (v ∈ l.map (·.2)) = false from decide_eq_false hno)
  have hlen := hL.len
  have hcap := hL.row.flats.cap
  clear hL hV hA hvm hno
  go_enter Tryz.func94, Tryz.ntmps94
  go_wp2_with fail
  refine Calls.mono K1.out ?_
  rintro e w1 ⟨p, rfl, hp, hb1⟩
  rw [HNO.out]
  have hpn : p ≤ n := by have := hp.1; rw [List.length_map, hlen] at this; exact this
  have HP := Lib.hid hp
  have L1 := Lib.hid (HL.out.keep hb1)
  have V1 := Lib.hid (HV.out.keep hb1)
  have hs1 := hb1.size
  have HB1 := Lib.hid hb1
  have hp0 : (0 : Int) ≤ (p : Int) := by omega
  have hpn' : (p : Int) ≤ (n : Int) := by omega
  have hpc : (p : Int) ≤ (c : Int) := by omega
  have hnc : (n : Int) ≤ (c : Int) := by omega
  clear hp hb1 K1
  go_wp2_with fail
  go_region_held3 (fun wx => Below w1.heap.size w1 wx) (((try go_split_ands); exact bel)) (first
    | (have hq22 := S22; refine wp_appSL _ _ rfl w1.heap.size l2 _ _ _ _ ((S22.out _ (by omega)).keep bel) rfl _ _ _ (l.drop p) rfl ((L1.out.keep bel).tail hpn) (fun y hy => (L1.out.each y (List.mem_of_mem_drop hy)).keep bel) (by omega) (by omega) ((show Below w1.heap.size w1 _ from bel).size) ?_; intro a26 c26 w26 ho26 hb26 ht26; have S26 := Lib.hid (show SRow w26 w1.heap.size l2 a26 (n + 1) c26 (l.take p ++ [((⟨va, vn, vc⟩ : QM), v)] ++ l.drop p) from (by have e : p + 1 + (n - p) = n + 1 := (by omega); simpa [e] using ho26)); have hk26 : Below w1.heap.size w1 w26 := Below.trans bel hb26)
    | (have hq19 := S19; refine wp_appSL _ _ rfl w1.heap.size l2 _ _ _ _ ((S19.out _ (by omega)).keep bel) rfl _ _ _ [(⟨va, vn, vc⟩, v)] rfl (by first | exact HLIT.out.row.flats | (have hh := (HLIT.out.keep bel).row.flats; simpa using hh) | exact Flats.lit1) (fun y hy => by simp at hy; rw [hy]; exact V1.out.keep bel) (by omega) (by omega) ((show Below w1.heap.size w1 _ from bel).size) ?_; intro a22 c22 w22 ho22 hb22 ht22; have S22 := Lib.hid (show ∀ k, k = p + 1 → SRow w22 w1.heap.size l2 a22 k c22 (l.take p ++ [((⟨va, vn, vc⟩ : QM), v)]) from (by intro k hk; rw [hk]; simpa using ho22)); have hk22 : Below w1.heap.size w1 w22 := Below.trans bel hb22)
    | (refine wp_appSL _ _ rfl w1.heap.size l2 _ _ _ [] (SRow.e1.keep (w := w1.alloc (.cells #[] 22)) (by first | exact Below.refl _ _ | exact (Below.refl _ _).drew | exact (below_allocS (Below.refl _ _) _).drew | exact below_allocS ((Below.refl _ _).drew) _)) rfl _ _ _ (l.take p) rfl ((L1.out.row.flats.keep bel).take hpn) (fun y hy => (L1.out.each y (List.mem_of_mem_take hy)).keep bel) (by omega) (by omega) ((show Below w1.heap.size w1 _ from bel).size) ?_; intro a19 c19 w19 ho19 hb19 ht19; have S19 := Lib.hid (show ∀ k, k = p → SRow w19 w1.heap.size l2 a19 k c19 (l.take p) from (by intro k hk; rw [hk]; simpa using ho19)); (try (have HLIT := Lib.hid (lit_keepE (wE := w1.alloc (.cells #[] 22)) (i := w1.heap.size + 1) (by simp) (SRow.e1.keep (w := w1.alloc (.cells #[] 22)) (by first | exact Below.refl _ _ | exact (Below.refl _ _).drew | exact (below_allocS (Below.refl _ _) _).drew | exact below_allocS ((Below.refl _ _).drew) _)) (V1.out.keep bel) (Touch.undrew ht19)))); have hk19 : Below w1.heap.size w1 w19 := Below.trans bel hb19)
    | (refine wp_appSL _ _ rfl w1.heap.size l2 _ _ _ [] ((SRow.e3 (w := w1) (o := .cells #[.slice va vn vc] 22)).keep (by first | exact Below.refl _ _ | exact (Below.refl _ _).drew)) rfl _ _ _ (l.take p) rfl ((L1.out.row.flats.keep bel).take hpn) (fun y hy => (L1.out.each y (List.mem_of_mem_take hy)).keep bel) (by omega) (by omega) ((show Below w1.heap.size w1 _ from bel).size) ?_; intro a19 c19 w19 ho19 hb19 ht19; have S19 := Lib.hid (show ∀ k, k = p → SRow w19 w1.heap.size l2 a19 k c19 (l.take p) from (by intro k hk; rw [hk]; simpa using ho19)); have HLIT := Lib.hid (lit_keepF V1.out (Touch.undrew ht19)); have hk19 : Below w1.heap.size w1 w19 := Below.trans bel hb19))
  all_goals
    go_split_ands
    go_wp2
    all_goals
      have hS26 := S26.out.le hs1 (Nat.le_refl _)
      go_ret
      exact ⟨p, a26, c26, by show Ending.returned (.slice a26 (p + 1 + (n - p)) c26) = _; rw [show p + 1 + (n - p) = n + 1 from by omega], HP.out, by simpa using hS26, below_callS HB1.out (by assumption)⟩
/-- block b is a search that has found the states of L; m values each -/
def SpSt (w : World) (lo b m : Nat) (L : List SN) (ov : Bool) : Prop :=
  ∃ (oa : Option Addr) (oc : Nat) (ta : Option Addr) (tc : Nat) (ka : Option Addr) (kc : Nat) (lo' lt lk : List (QM × List Int)),
    Blk w b #[.slice oa L.length oc, .slice ta L.length tc, .slice ka L.length kc, .bool ov] 93 ∧ lo ≤ b ∧
    SRow w lo lo oa L.length oc lo' ∧ SRow w lo lo ta L.length tc lt ∧ SRow w lo lo ka L.length kc lk ∧ (Apart oa ta ∧ Apart oa ka ∧ Apart ta ka) ∧
    lo'.map (·.2) = L.map (·.v) ∧ lt.map (·.2) = L.map (·.tr) ∧ AscS m (lk.map (·.2)) ∧ ∀ y, y ∈ lk.map (·.2) ↔ y ∈ L.map (·.v)
theorem SpSt.keep {w w' : World} {lo b m : Nat} {L : List SN} {ov : Bool} (h : SpSt w lo b m L ov) (hb : Below w.heap.size w w') : SpSt w' lo b m L ov := by
  obtain ⟨oa, oc, ta, tc, ka, kc, l1, l2, l3, h1, h2, h3, h4, h5, h6, h7⟩ := h
  exact ⟨oa, oc, ta, tc, ka, kc, l1, l2, l3, h1.keep hb, h2, h3.keep hb, h4.keep hb, h5.keep hb, h6, h7⟩
/-- a row stays where another block than a row's is written -/
theorem SRow.setB {w : World} {lo l2 b : Nat} {a : Option Addr} {n c : Nat} {l : List (QM × List Int)} {cs : Array Value} (h : SRow w lo l2 a n c l) (hB : Blk w b cs 93) (j : Nat) (u : Value) : SRow (w.setCell ⟨b, j, none⟩ u) lo l2 a n c l :=
  h.keepG (set_grown b j u) fun cur E e => by
    rw [Blk] at hB
    rw [hB] at e
    simp only [Option.some.injEq, Obj.cells.injEq] at e
    rw [← e.2.1]
    exact ⟨by decide, by decide⟩
theorem SRow.typ {w : World} {lo l2 : Nat} {a : Option Addr} {n c : Nat} {l : List (QM × List Int)} (h : SRow w lo l2 a n c l) {g : Nat} (e : a = some ⟨g, 0, none⟩) : ∃ cur, w.heap[g]? = some (.cells cur 22 (0, 0)) := h.row.typ e
theorem own_setB {w : World} {lo b : Nat} {a : Option Addr} {n c : Nat} {l : List Int} {cs : Array Value} (h : OwnI 2 w lo a n c l) (hB : Blk w b cs 93) (j : Nat) (u : Value) : OwnI 2 (w.setCell ⟨b, j, none⟩ u) lo a n c l :=
  h.keepS hB (by decide) (StepW.set b w j u)
theorem own_touch {w w' : World} {lo n' : Nat} {a a' : Option Addr} {n c n2 c2 l2 l3 : Nat} {l : List Int} {r : List (QM × List Int)} (h : OwnI 2 w lo a n c l) (ht : Touch w w' n' a') (hr : SRow w l2 l3 a' n2 c2 r) : OwnI 2 w' lo a n c l :=
  h.keepT ht fun g e e' => typ_apart (fun {g} e => h.typ e) (fun {g} e => hr.row.typ e) (by decide) g e e'
theorem blk_touch {w w' : World} {b n' : Nat} {a' : Option Addr} {n2 c2 l2 l3 : Nat} {cs : Array Value} {r : List (QM × List Int)} (h : Blk w b cs 93) (ht : Touch w w' n' a') (hr : SRow w l2 l3 a' n2 c2 r) : Blk w' b cs 93 :=
  h.keepA ht (blk_ne h (fun {g} e => hr.row.typ e) (by decide))
theorem row_touch {w w' : World} {lo l2 n' : Nat} {a a' : Option Addr} {n c n2 c2 l3 l4 : Nat} {l r : List (QM × List Int)} (h : SRow w lo l2 a n c l) (ht : Touch w w' n' a') (hr : SRow w l3 l4 a' n2 c2 r) (hap : Apart a a') : SRow w' lo l2 a n c l :=
  h.keepA ht (fun {g} e => hr.row.typ e) hap
theorem Blk.put9 {w : World} {b : Nat} {cs : Array Value} {T : TypeId} (h : Blk w b cs T) (i : Nat) (v : Value) : Blk (w.setCell ⟨b, i, none⟩ v) b (cs.setIfInBounds i v) T := heap_setCell_same w b i cs T v h
/-- what adding a state leaves -/
def addS (L : List SN) (x : SN) : List SN := if L.any (fun y => y.v == x.v) then L else if L.length = 4000 then L else L ++ [x]
def addO (L : List SN) (x : SN) : Bool := !(L.any fun y => y.v == x.v) && decide (L.length = 4000)
theorem addS_old {L : List SN} {x : SN} (h : L.any (fun y => y.v == x.v) = true) : addS L x = L ∧ addO L x = false := by rw [addS, addO, h]; exact ⟨rfl, rfl⟩
theorem addS_full {L : List SN} {x : SN} (h : L.any (fun y => y.v == x.v) = false) (hl : L.length = 4000) : addS L x = L ∧ addO L x = true := by rw [addS, addO, h, hl]; exact ⟨rfl, rfl⟩
theorem addS_new {L : List SN} {x : SN} (h : L.any (fun y => y.v == x.v) = false) (hl : L.length ≠ 4000) : addS L x = L ++ [x] ∧ addO L x = false := by rw [addS, addO, h]; simp [hl]
set_option maxHeartbeats 4000000 in
theorem spec_l21Add {lo b m vn vc rn rc : Nat} {va ra : Option Addr} {L : List SN} {x : SN} {w : World} (hS : SpSt w lo b m L false) (hV : OwnI 2 w lo va vn vc x.v) (hR : OwnI 2 w lo ra rn rc x.tr) (hvm : x.v.length = m) (hm : m ≤ 1048576) (hL : L.length ≤ 4000) (hlo : lo ≤ w.heap.size) :
    Calls Tryz.prog 178 #[.pointer (some ⟨b, 0, none⟩), .slice va vn vc, .slice ra rn rc] w fun e w' => e = .returned (.tuple #[]) ∧ SpSt w' lo b m (addS L x) (addO L x) ∧ StepW b w w' ∧ Below lo w w' := by
  obtain ⟨oa, oc, ta, tc, ka, kc, l1, lt, lk, hB, hlb, hO, hT, hK, ⟨hp1, hp2, hp3⟩, he1, he2, hA, hM⟩ := hS
  have HOS := Lib.hid (fun (h : L.any (fun y => y.v == x.v) = true) => (show SpSt w lo b m (addS L x) (addO L x) by rw [(addS_old h).1, (addS_old h).2]; exact ⟨oa, oc, ta, tc, ka, kc, l1, lt, lk, hB, hlb, hO, hT, hK, ⟨hp1, hp2, hp3⟩, he1, he2, hA, hM⟩))
  have hany : L.any (fun y => y.v == x.v) = decide (x.v ∈ lk.map (·.2)) := by rw [any_map]; exact decide_eq_decide.2 (hM _).symm
  obtain ⟨n, hn⟩ : ∃ n : Nat, L.length = n := ⟨_, rfl⟩
  have HN := Lib.hid hn
  rw [hn] at hB hO hT hK hL
  clear hn
  have c0 := hB.cell 0
  have c1 := hB.cell 1
  have c2 := hB.cell 2
  have c3 := hB.cell 3
  have zl := hB.lt
  have zf := hB.free
  simp at c0 c1 c2 c3
  have K1 := Lib.hid (spec_l20Place hK hV.ints hA hvm hm (by omega))
  cases hin : L.any (fun y => y.v == x.v) with
  | true =>
    rw [← hany, hin] at K1
    have HS := Lib.hid (HOS.out hin)
    clear hB hO hT hK hV hR hp1 hp2 hp3 he1 he2 hA hM hin hany HOS
    go_enter Tryz.func178, Tryz.ntmps178
    go_wp2_with fail
    refine Calls.mono K1.out ?_
    rintro e w1 ⟨p, rfl, hp, hb1⟩
    clear hp
    go_wp2
    exact bodyPost_ret (v := .tuple #[]) (by simp [results, Tryz.results178, go_sem]) rfl ⟨rfl, HS.out.keep hb1, StepW.below hb1, hb1.mono hlo⟩
  | false =>
    have hno : x.v ∉ lk.map (·.2) := by rw [hany] at hin; exact of_decide_eq_false hin
    rw [← hany, hin] at K1
    have HNO := Lib.hid hno
    have HIN := Lib.hid hin
    have HA := Lib.hid hA
    have HM := Lib.hid hM
    have HP := Lib.hid (And.intro hp1 (And.intro hp2 hp3))
    have HE := Lib.hid (And.intro he1 he2)
    have HVM := Lib.hid hvm
    have B0 := Lib.hid hB
    have O0 := Lib.hid hO
    have T0 := Lib.hid hT
    have K0 := Lib.hid hK
    have V0 := Lib.hid hV
    have R0 := Lib.hid hR
    clear hB hO hT hK hV hR hp1 hp2 hp3 he1 he2 hA hM hin hany HOS hno
    by_cases hfull : n = 4000
    · subst hfull
      go_enter Tryz.func178, Tryz.ntmps178
      go_wp2_with fail
      refine Calls.mono K1.out ?_
      rintro e w1 ⟨p, rfl, hp, hb1⟩
      have B1 := Lib.hid (B0.out.keep hb1)
      have hs1 := hb1.size
      clear hp c0 c1 c2 c3 zl zf
      have c0 := B1.out.cell 0
      have c3 := B1.out.cell 3
      have zl := B1.out.lt
      have zf := B1.out.free
      simp at c0 c3
      go_wp2
      refine bodyPost_ret (v := .tuple #[]) (by simp [results, Tryz.results178, go_sem]) rfl ⟨rfl, ?_, (StepW.below hb1).trans (StepW.set b w1 3 _), (hb1.mono hlo).setCell (by simp; omega) _⟩
      rw [(addS_full HIN.out HN.out).1, (addS_full HIN.out HN.out).2]
      have hBn := B1.out.put9 3 (.bool true)
      simp at hBn
      refine ⟨oa, oc, ta, tc, ka, kc, l1, lt, lk, by rw [HN.out]; exact hBn, hlb, by rw [HN.out]; exact (O0.out.keep hb1).setB B1.out _ _, by rw [HN.out]; exact (T0.out.keep hb1).setB B1.out _ _, by rw [HN.out]; exact (K0.out.keep hb1).setB B1.out _ _, HP.out, HE.out.1, HE.out.2, HA.out, HM.out⟩
    · have hne : ¬ (n : Int) = 4000 := by omega
      go_enter Tryz.func178, Tryz.ntmps178
      go_wp2_with fail
      refine Calls.mono K1.out ?_
      rintro e w1 ⟨p0, rfl, hp0, hb1⟩
      have B1 := Lib.hid (B0.out.keep hb1)
      have O1 := Lib.hid (O0.out.keep hb1)
      have T1 := Lib.hid (T0.out.keep hb1)
      have K9 := Lib.hid (K0.out.keep hb1)
      have V1 := Lib.hid (V0.out.keep hb1)
      have R1 := Lib.hid (R0.out.keep hb1)
      have hs1 := hb1.size
      have ST1 := Lib.hid (And.intro (StepW.below (b := b) hb1) (hb1.mono hlo))
      clear hp0 c0 c1 c2 c3 zl zf hb1
      have c0 := B1.out.cell 0
      have zl := B1.out.lt
      have zf := B1.out.free
      simp at c0
      go_wp2_with (at_builtin; refine appS rfl _ _ rfl lo lo _ _ _ _ O1.out rfl _ rfl rfl (⟨va, vn, vc⟩, x.v) V1.out _ rfl (by omega) (by omega) ?_; intro g2 oc2 w2 ho2 hb2 ht2 hat2 hs2; refine Hid.out ?_)
      have B2 := Lib.hid (blk_touch B1.out ht2 O1.out)
      have O2 := Lib.hid ho2
      have T2 := Lib.hid (row_touch T1.out ht2 O1.out HP.out.1.symm)
      have K2 := Lib.hid (row_touch K9.out ht2 O1.out HP.out.2.1.symm)
      have V2 := Lib.hid (own_touch V1.out ht2 O1.out)
      have R2 := Lib.hid (own_touch R1.out ht2 O1.out)
      have ST2 := Lib.hid (And.intro (ST1.out.1.trans (StepW.touch (b := b) O1.out ht2)) (ST1.out.2.trans hb2))
      have hA1 : Apart (some ⟨g2, 0, none⟩) ta := by
        rcases hat2 with h | h
        · rw [← h]; exact HP.out.1
        · exact fun g e e' => by cases e; have := (T1.out.row.blk _ e').2; omega
      have hA2 : Apart (some ⟨g2, 0, none⟩) ka := by
        rcases hat2 with h | h
        · rw [← h]; exact HP.out.2.1
        · exact fun g e e' => by cases e; have := (K9.out.row.blk _ e').2; omega
      have HAP := Lib.hid (And.intro hA1 hA2)
      have hg2 := (O2.out.row.blk g2 rfl)
      clear c0 zl zf ho2 hb2 ht2 hat2 hA1 hA2
      have c0 := B2.out.cell 0
      have c1 := B2.out.cell 1
      have zl := B2.out.lt
      have zf := B2.out.free
      simp at c0 c1
      have B3 := Lib.hid (show Blk (w2.setCell ⟨b, 0, none⟩ (.slice (some ⟨g2, 0, none⟩) (n + 1) oc2)) b #[.slice (some ⟨g2, 0, none⟩) (n + 1) oc2, .slice ta n tc, .slice ka n kc, .bool false] 93 by have h := B2.out.put9 0 (.slice (some ⟨g2, 0, none⟩) (n + 1) oc2); simpa using h)
      have O3 := Lib.hid (show SRow (w2.setCell ⟨b, 0, none⟩ (.slice (some ⟨g2, 0, none⟩) (n + 1) oc2)) lo lo (some ⟨g2, 0, none⟩) (n + 1) oc2 _ from O2.out.setB B2.out _ _)
      have T3 := Lib.hid (show SRow (w2.setCell ⟨b, 0, none⟩ (.slice (some ⟨g2, 0, none⟩) (n + 1) oc2)) lo lo ta n tc _ from T2.out.setB B2.out _ _)
      have K3 := Lib.hid (show SRow (w2.setCell ⟨b, 0, none⟩ (.slice (some ⟨g2, 0, none⟩) (n + 1) oc2)) lo lo ka n kc _ from K2.out.setB B2.out _ _)
      have V3 := Lib.hid (show OwnI 2 (w2.setCell ⟨b, 0, none⟩ (.slice (some ⟨g2, 0, none⟩) (n + 1) oc2)) lo va vn vc x.v from own_setB V2.out B2.out _ _)
      have R3 := Lib.hid (show OwnI 2 (w2.setCell ⟨b, 0, none⟩ (.slice (some ⟨g2, 0, none⟩) (n + 1) oc2)) lo ra rn rc x.tr from own_setB R2.out B2.out _ _)
      have ST3 := Lib.hid (show StepW b w (w2.setCell ⟨b, 0, none⟩ (.slice (some ⟨g2, 0, none⟩) (n + 1) oc2)) ∧ Below lo w (w2.setCell ⟨b, 0, none⟩ (.slice (some ⟨g2, 0, none⟩) (n + 1) oc2)) from ⟨ST2.out.1.trans (StepW.set b w2 0 _), ST2.out.2.setCell hlb _⟩)
      have hs3 : (w2.setCell ⟨b, 0, none⟩ (.slice (some ⟨g2, 0, none⟩) (n + 1) oc2)).heap.size = w2.heap.size := by simp [World.setCell]
      have hlo3 : lo ≤ (w2.setCell ⟨b, 0, none⟩ (.slice (some ⟨g2, 0, none⟩) (n + 1) oc2)).heap.size := by omega
      refine Lib.hid ?_
      go_wp2_with (at_builtin; refine appS rfl _ _ rfl lo lo _ _ _ _ T3.out rfl w2.heap.size rfl hs3.symm (⟨ra, rn, rc⟩, x.tr) R3.out _ rfl (by omega) hlo3 ?_; intro g4 tc4 w4 ho4 hb4 ht4 hat4 hs4; refine Hid.out ?_)
      have B4 := Lib.hid (blk_touch B3.out ht4 T3.out)
      have T4 := Lib.hid ho4
      have O4 := Lib.hid (row_touch O3.out ht4 T3.out HAP.out.1)
      have K4 := Lib.hid (row_touch K3.out ht4 T3.out HP.out.2.2.symm)
      have V4 := Lib.hid (own_touch V3.out ht4 T3.out)
      have ST4 := Lib.hid (And.intro (ST3.out.1.trans (StepW.touch (b := b) T3.out ht4)) (ST3.out.2.trans hb4))
      have hA3 : Apart (some ⟨g2, 0, none⟩) (some ⟨g4, 0, none⟩) := by
        rcases hat4 with h | h
        · rw [← h]; exact HAP.out.1
        · exact fun g e e' => by cases e; cases e'; omega
      have HA3 := Lib.hid hA3
      have hg4 := (T4.out.row.blk g4 rfl)
      have hg24 := (O4.out.row.blk g2 rfl)
      clear c0 c1 zl zf ho4 hb4 ht4 hat4 hA3 hg2
      have c1 := B4.out.cell 1
      have c2 := B4.out.cell 2
      have zl := B4.out.lt
      have zf := B4.out.free
      simp at c1 c2
      have B5 := Lib.hid (show Blk (w4.setCell ⟨b, 1, none⟩ (.slice (some ⟨g4, 0, none⟩) (n + 1) tc4)) b #[.slice (some ⟨g2, 0, none⟩) (n + 1) oc2, .slice (some ⟨g4, 0, none⟩) (n + 1) tc4, .slice ka n kc, .bool false] 93 by have h := B4.out.put9 1 (.slice (some ⟨g4, 0, none⟩) (n + 1) tc4); simpa using h)
      have K5 := Lib.hid (show SRow (w4.setCell ⟨b, 1, none⟩ (.slice (some ⟨g4, 0, none⟩) (n + 1) tc4)) lo lo ka n kc _ from K4.out.setB B4.out _ _)
      have V5 := Lib.hid (show OwnI 2 (w4.setCell ⟨b, 1, none⟩ (.slice (some ⟨g4, 0, none⟩) (n + 1) tc4)) lo va vn vc x.v from own_setB V4.out B4.out _ _)
      have hs5 : (w4.setCell ⟨b, 1, none⟩ (.slice (some ⟨g4, 0, none⟩) (n + 1) tc4)).heap.size = w4.heap.size := by simp [World.setCell]
      refine Lib.hid ?_
      go_wp2_with fail
      refine Calls.mono (spec_l20Insert K5.out V5.out HA.out HVM.out hm (by omega) HNO.out) ?_
      rintro e w6 ⟨p, a6, c6, rfl, hp6, ho6, hb6⟩
      have B6 := Lib.hid (B5.out.keep hb6)
      have K6 := Lib.hid ho6
      have HP6 := Lib.hid hp6
      have HB6 := Lib.hid hb6
      have hs6 := hb6.size
      clear c1 c2 zl zf hp6 ho6 hb6
      have c2 := B6.out.cell 2
      simp at c2
      have zl := B6.out.lt
      have zf := B6.out.free
      go_wp2
      (try simp only [Exit.inBlock, Exit.then])
      refine bodyPost_end (results_none rfl _ _ _) rfl ⟨rfl, ?_, ?_, ?_⟩
      · have hn : L.length ≠ 4000 := by rw [HN.out]; exact hfull
        rw [(addS_new HIN.out hn).1, (addS_new HIN.out hn).2]
        have hL1 : (L ++ [x]).length = n + 1 := by rw [List.length_append, HN.out]; rfl
        obtain ⟨hI1, hI2⟩ := asc_insert HA.out HVM.out HP6.out HNO.out
        have hmap : (lk.take p ++ [((⟨va, vn, vc⟩ : QM), x.v)] ++ lk.drop p).map (·.2) = (lk.map (·.2)).take p ++ [x.v] ++ (lk.map (·.2)).drop p := by simp [List.map_take, List.map_drop]
        have hB7 := B6.out.put9 2 (.slice a6 (n + 1) c6)
        simp at hB7
        refine ⟨_, oc2, _, tc4, a6, c6, _, _, _, by rw [hL1]; exact hB7, hlb, by rw [hL1]; exact ((O4.out.setB B4.out 1 _).keep HB6.out).setB B6.out _ _, by rw [hL1]; exact ((T4.out.setB B4.out 1 _).keep HB6.out).setB B6.out _ _, by rw [hL1]; exact (K6.out.le (by omega) (Nat.le_refl _)).setB B6.out _ _, ⟨HA3.out, fun g e e' => by cases e; have := (K6.out.row.blk _ e').1; omega, fun g e e' => by cases e; have := (K6.out.row.blk _ e').1; omega⟩, by simp [HE.out.1], by simp [HE.out.2], by rw [hmap]; exact hI1, fun y => by rw [hmap, hI2, HM.out]; simp; exact or_comm⟩
      · exact ((ST4.out.1.trans (StepW.set b w4 1 _)).trans (StepW.below HB6.out)).trans (StepW.set b w6 2 _)
      · exact ((ST4.out.2.setCell hlb _).trans (HB6.out.mono (by omega))).setCell hlb _
end Go.Proofs.YtkaikbaagajckaaGreat
