/- Rules and models of the exact laws: sizes of lists of rules. -/
import Derived.Test.YtfhogleillgcgaaMc
import Derived.Test.YtfhogleillgcgaaL20h
namespace Go.Proofs.Ytfhogleillgcgaa
open Go.RowKit
set_option linter.unusedVariables false
set_option linter.unusedSimpArgs false
/-- a rule in memory reads as a rule, of any size -/
def RuX (w0 : World) (x : RM × RuD) : Prop := x.1.nm = x.2.nm ∧ x.2.nm.size ≤ maxLen ∧ F2b w0 x.1.ga x.1.gn x.1.gc x.2.g ∧ x.1.gn ≤ maxLen ∧ F2 w0 x.1.ea x.1.en x.1.ec x.2.e ∧ x.1.en ≤ maxLen
abbrev FX (w0 : World) := Flats 3 encR (RuX w0)
theorem FX.get {w0 w : World} {a : Option Addr} {n c : Nat} {l : List (RM × RuD)} (h : FX w0 w a n c l) {i : Nat} (hi : i < n) :
    ∃ b off R r, a = some ⟨b, off, none⟩ ∧ b < w.heap.size ∧ l[i]? = some (R, r) ∧ RuX w0 (R, r) ∧ w.cell? ⟨b, off + i * 3, none⟩ = some (.string R.nm) ∧ w.cell? ⟨b, off + i * 3 + 1, none⟩ = some (.slice R.ga R.gn R.gc) ∧ w.cell? ⟨b, off + i * 3 + 2, none⟩ = some (.slice R.ea R.en R.ec) := by
  obtain ⟨b, off, x, h1, h2, h3, h4, h5⟩ := h.at hi
  exact ⟨b, off, x.1, x.2, h1, h2, h3, h4, h5 0 _ rfl, h5 1 _ rfl, h5 2 _ rfl⟩
def need1 (x : RM × RuD) : Nat := x.1.nm.size + x.1.gn + x.1.en
def need (l : List (RM × RuD)) : Nat := (l.map need1).sum
theorem need_take {l : List (RM × RuD)} {k : Nat} {x : RM × RuD} (h : l[k]? = some x) : need (l.take (k + 1)) = need (l.take k) + need1 x := by
  rw [need, take_at h, List.map_append, List.sum_append]; simp [need]
theorem need_le {l : List (RM × RuD)} {k : Nat} {x : RM × RuD} (h : l[k]? = some x) : need (l.take k) + need1 x ≤ need l := by
  rw [← need_take h]
  have : need l = need (l.take (k + 1)) + need (l.drop (k + 1)) := by
    rw [need, need, need, ← List.sum_append, ← List.map_append, List.take_append_drop]
  omega
set_option maxHeartbeats 1000000 in
theorem laws_szRuleS {a : Option Addr} {n c : Nat} {l : List (RM × RuD)} {m : Int} {w : World} (hI : FX w w a n c l) (hn : (n : Int) ≤ 9223372036854775807) (hm : 0 ≤ m) (hm' : m ≤ 1048576) :
    Calls Try.prog 28 #[.slice a n c, .int .i64 m] w fun e w' => e = .returned (.int .i64 (szN m (n + need l))) ∧ Below w.heap.size w w' := by
  by_cases h1 : m < (n : Int)
  · have h1' : m - (n : Int) < 0 := by omega
    have HR := Lib.hid (szN_lt (m := m) (x := n + need l) (by omega))
    clear hI
    go_enter Try.func28, Try.ntmps28
    go_wp2
    go_ret
    exact ⟨ret_int HR.out.symm, by repeat (first | exact Below.refl _ _ | assumption | refine below_allocS ?_ _ | refine below_callS ?_ (by assumption) | (refine Below.alloc ?_ (by first | omega | (simp; done) | (simp; omega)) _) | (refine Below.setCell ?_ (by first | omega | (simp; done) | (simp; omega)) _) | refine Below.drew ?_ | refine below_drewN ?_ _ | (refine below_call ?_ (by assumption) (by first | omega | (simp; done) | (simp; omega))) | (refine Below.trans ?_ (by assumption)))⟩
  · have h1' : ¬ m - (n : Int) < 0 := by omega
    have HI := Lib.hid hI
    clear hI
    go_enter Try.func28, Try.ntmps28
    go_wp2_with fail
    go_loopw [1, 5] (fun s1 s5 wr => ∃ (k : Nat) (q : Int), k ≤ n ∧ s1 = .int .i64 q ∧ s5 = .int .i64 k ∧ 0 ≤ q ∧ q ≤ 1048576 ∧ Below w.heap.size w wr ∧ Hid (q = m - n - need (l.take k))) (fun _ s5 _ => n - (intOf s5).toNat)
    case atStart => exact ⟨0, m - n, Nat.zero_le _, rfl, rfl, by omega, by omega, Below.refl _ _, Lib.hid (by simp [need])⟩
    case round =>
      obtain ⟨k, q, hk, rfl, rfl, hq0, hq1, hbl, A⟩ := hrel
      by_cases hlt : k < n
      · have hlt' : (k : Int) < (n : Int) := by omega
        have hk0 : (0 : Int) ≤ (k : Int) := by omega
        obtain ⟨b, off, R, r, rfl, hb, hx, hwf, c0, c1, c2⟩ := FX.get (HI.out.keep hbl) hlt
        obtain ⟨e1, hs2, hg, hgn, he, hen⟩ := hwf
        simp only at e1 hs2 hgn hen
        have hcall := laws_szRule (nm := R.nm) (ga := R.ga) (gn := R.gn) (gc := R.gc) (ea := R.ea) (en := R.en) (ec := R.ec) (m := q) (w := wr) (by rw [e1]; exact hs2) (by have : R.gn ≤ 9223372036854775807 := hgn; omega) (by have : R.en ≤ 9223372036854775807 := hen; omega) hq0 hq1
        have Hn1 := Lib.hid (show need1 (R, r) = R.nm.size + R.gn + R.en from rfl)
        have Hle := Lib.hid (need_le hx)
        have Htk := Lib.hid (need_take hx)
        clear hx hg he e1 hs2 hgn hen
        by_cases h2 : q < ((R.nm.size + R.gn + R.en : Nat) : Int)
        · rw [szN_lt h2] at hcall
          have HC := Lib.hid hcall
          have HR := Lib.hid (szN_lt (m := m) (x := n + need l) (by have h3 := A.out; have h4 := Hle.out; rw [Hn1.out] at h4; omega))
          clear hcall h2
          go_wp2_with fail
          refine Calls.mono HC.out ?_
          rintro e w1 ⟨rfl, hb1⟩
          go_wp2
          go_ret
          exact ⟨ret_int HR.out.symm, below_callS hbl hb1⟩
        · rw [szN_ge h2] at hcall
          obtain ⟨q2, hq2⟩ : ∃ q2 : Int, q2 = q - ((R.nm.size + R.gn + R.en : Nat) : Int) := ⟨_, rfl⟩
          rw [← hq2] at hcall
          have HC := Lib.hid hcall
          have hq20 : 0 ≤ q2 := by omega
          have hq21 : q2 ≤ 1048576 := by omega
          have hq22 : ¬ q2 < 0 := by omega
          have Hq2 := Lib.hid hq2
          clear hcall h2 hq2
          go_wp2_with fail
          refine Calls.mono HC.out ?_
          rintro e w1 ⟨rfl, hb1⟩
          go_wp2_with fail
          go_roundw
          case rel => exact ⟨k + 1, q2, by omega, rfl, by go_num, hq20, hq21, below_callS hbl hb1, Lib.hid (by rw [Htk.out, Hq2.out, A.out, Hn1.out]; omega)⟩
          case measure => simp [intOf]; omega
      · obtain rfl : n = k := by omega
        have hlt' : ¬ (n : Int) < (n : Int) := by omega
        have HR := Lib.hid (show szN m (n + need l) = q by
          have h3 := A.out
          rw [take_len HI.out.len] at h3
          rw [szN_ge (by omega)]; omega)
        go_wp2
        go_ret
        exact ⟨ret_int HR.out.symm, hbl⟩
end Go.Proofs.Ytfhogleillgcgaa
