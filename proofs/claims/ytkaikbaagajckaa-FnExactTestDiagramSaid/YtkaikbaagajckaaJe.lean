/- The texts with which the exact laws mark strings, walked.; Rules and models of the exact laws: sizes.; Rules and models of the exact laws: sizes of lists of rules.; Rules and models of the exact laws: comparisons.; Rules and models of the exact laws: the size of a model.; Rules and models of the exact laws: copies. -/
import Derived.Test.YtkaikbaagajckaaL01
import Derived.Laws.BytesArg
import Derived.Test.YtkaikbaagajckaaFl
import Derived.Test.YtkaikbaagajckaaL20h
namespace Go.Proofs.Ytkaikbaagajckaa
open Go.RowKit
set_option linter.unusedVariables false
set_option linter.unusedSimpArgs false
/-- the digits of q ahead of t -/
def digT : Nat → Int → ByteArray → ByteArray
  | 0, _, t => t
  | f + 1, q, t => if 0 < q then digT f (q / 10) (strOfNums [48 + q % 10] ++ t) else t
def markT (k : Int) : ByteArray := if k ≤ 0 then ⟨#[109, 48]⟩ else ⟨#[109]⟩ ++ digT k.toNat k ⟨#[]⟩
theorem digT_size (f : Nat) (q : Int) (t : ByteArray) : (digT f q t).size ≤ f + t.size := by
  induction f generalizing q t with
  | zero => simp [digT]
  | succ f ih =>
    rw [digT]
    split
    · refine Nat.le_trans (ih _ _) ?_
      rw [ByteArray.size_append, show (strOfNums [48 + q % 10]).size = 1 from rfl]; omega
    · omega
theorem digT_done {f : Nat} {q : Int} {t : ByteArray} (h : q ≤ 0) : digT f q t = t := by
  cases f with
  | zero => rfl
  | succ f => rw [digT, if_neg (by omega)]
theorem digT_step {f : Nat} {q : Int} {t : ByteArray} (h : 0 < q) (hf : q ≤ f) : ∃ f' : Nat, q / 10 ≤ f' ∧ digT f q t = digT f' (q / 10) (strOfNums [48 + q % 10] ++ t) := by
  cases f with
  | zero => omega
  | succ f => exact ⟨f, by omega, by rw [digT, if_pos h]⟩
theorem markT_size {k : Int} (h0 : 0 ≤ k) : ((markT k).size : Int) ≤ k + 2 := by
  rw [markT]
  split
  · show (2 : Int) ≤ _; omega
  · rw [ByteArray.size_append]
    have := digT_size k.toNat k ⟨#[]⟩
    have e : (⟨#[]⟩ : ByteArray).size = 0 := rfl
    have e2 : (⟨#[109]⟩ : ByteArray).size = 1 := rfl
    omega
set_option maxHeartbeats 1000000 in
set_option maxRecDepth 20000 in
theorem laws_markText {k : Int} {w : World} (h0 : 0 ≤ k) (h1 : k ≤ 1099511627776) : Calls Try.prog 141 #[.int .i64 k] w fun e w' => e = .returned (.string (markT k)) ∧ Below w.heap.size w w' := by
  by_cases hk : k ≤ 0
  · have HT := Lib.hid (show markT k = ⟨#[109, 48]⟩ from if_pos hk)
    go_enter Try.func141, Try.ntmps141
    go_wp2
    go_ret
    exact ⟨by rw [HT.out]; rfl, Below.refl _ _⟩
  · have HT := Lib.hid (show markT k = ⟨#[109]⟩ ++ digT k.toNat k ⟨#[]⟩ from if_neg hk)
    go_enter Try.func141, Try.ntmps141
    go_wp2_with fail
    go_loopw [0, 3] (fun s0 s3 wr => ∃ (q : Int) (t : ByteArray) (f : Nat), s0 = .int .i64 q ∧ s3 = .string t ∧ 0 ≤ q ∧ (t.size : Int) + q ≤ 1099511627776 ∧ Below w.heap.size w wr ∧ Hid (q ≤ f ∧ digT f q t = digT k.toNat k ⟨#[]⟩)) (fun s0 _ _ => (intOf s0).toNat)
    case atStart => exact ⟨k, ⟨#[]⟩, k.toNat, rfl, rfl, h0, by show (0 : Int) + k ≤ _; omega, Below.refl _ _, by omega, rfl⟩
    case round =>
      obtain ⟨q, t, f, rfl, rfl, hq0, hq1, hbl, A⟩ := hrel
      have hsz := hbl.size
      by_cases hlt : 0 < q
      · have hd0 : 0 ≤ q % 10 := Int.emod_nonneg _ (by omega)
        have hd1 : q % 10 < 10 := Int.emod_lt_of_pos _ (by omega)
        have hcv := run_convert_bytes_arg (P := Try.prog) (wr.alloc (.cells #[.int .u8 (48 + q % 10)] 5)) 22 5 Try.underlying22 Try.underlying5 wr.heap.size 0 1 1 [48 + q % 10] rfl (by intro i hi; (obtain rfl : i = 0 := (by omega)); exact (Blk.made wr #[.int .u8 (48 + q % 10)] 5).cell 0) 9 Try.underlying9
        have hsz1 : (strOfNums [48 + q % 10]).size = 1 := rfl
        have HA := Lib.hid (digT_step (t := t) hlt A.out.1)
        have HA2 := Lib.hid A.out.2
        clear A
        generalize strOfNums [48 + q % 10] = S at hcv hsz1 HA
        have hts : t.size ≤ 1099511627776 := by omega
        go_wp2_with fail
        go_roundw
        case rel => 
          obtain ⟨f', h1, h2⟩ := HA.out
          exact ⟨q / 10, S ++ t, f', rfl, rfl, by omega, by rw [ByteArray.size_append, hsz1]; omega, by repeat (first | exact Below.refl _ _ | assumption | refine below_allocS ?_ _ | refine below_callS ?_ (by assumption) | (refine Below.alloc ?_ (by first | omega | (simp; done) | (simp; omega)) _) | (refine Below.setCell ?_ (by first | omega | (simp; done) | (simp; omega)) _) | refine Below.drew ?_ | refine below_drewN ?_ _ | (refine below_call ?_ (by assumption) (by first | omega | (simp; done) | (simp; omega))) | (refine Below.trans ?_ (by assumption))), h1, by rw [← h2]; exact HA2.out⟩
        case measure => simp [intOf]; omega
      · have hlt' : q ≤ 0 := by omega
        have hts : t.size ≤ 1099511627776 := by omega
        have HA := Lib.hid (by have h := A.out.2; rw [digT_done hlt'] at h; exact h)
        clear A
        go_wp2
        go_ret
        exact ⟨by rw [HT.out, ← HA.out]; rfl, hbl⟩
end Go.Proofs.Ytkaikbaagajckaa
namespace Go.Proofs.Ytkaikbaagajckaa
open Go.RowKit
set_option linter.unusedVariables false
set_option linter.unusedSimpArgs false
def szN (m : Int) (x : Nat) : Int := if m < (x : Int) then -1 else m - x
theorem szN_lt {m : Int} {x : Nat} (h : m < (x : Int)) : szN m x = -1 := if_pos h
theorem szN_ge {m : Int} {x : Nat} (h : ¬ m < (x : Int)) : szN m x = m - x := if_neg h
set_option maxHeartbeats 1000000 in
theorem laws_szRule {nm : ByteArray} {ga ea : Option Addr} {gn gc en ec : Nat} {m : Int} {w : World} (hs : nm.size ≤ maxLen) (hg : (gn : Int) ≤ 9223372036854775807) (he : (en : Int) ≤ 9223372036854775807) (hm : 0 ≤ m) (hm' : m ≤ 1048576) :
    Calls Try.prog 122 #[.agg #[.string nm, .slice ga gn gc, .slice ea en ec], .int .i64 m] w fun e w' => e = .returned (.int .i64 (szN m (nm.size + gn + en))) ∧ Below w.heap.size w w' := by
  have hs' : (nm.size : Int) ≤ 9223372036854775807 := by have : nm.size ≤ 9223372036854775807 := hs; omega
  by_cases h1 : m < (nm.size : Int)
  · have h1' : m - (nm.size : Int) < 0 := by omega
    have HR := Lib.hid (szN_lt (m := m) (x := nm.size + gn + en) (by omega))
    go_enter Try.func122, Try.ntmps122
    go_wp2
    go_ret
    exact ⟨ret_int HR.out.symm, by repeat (first | exact Below.refl _ _ | assumption | refine below_allocS ?_ _ | refine below_callS ?_ (by assumption) | (refine Below.alloc ?_ (by first | omega | (simp; done) | (simp; omega)) _) | (refine Below.setCell ?_ (by first | omega | (simp; done) | (simp; omega)) _) | refine Below.drew ?_ | refine below_drewN ?_ _ | (refine below_call ?_ (by assumption) (by first | omega | (simp; done) | (simp; omega))) | (refine Below.trans ?_ (by assumption)))⟩
  · have h1' : ¬ m - (nm.size : Int) < 0 := by omega
    have k1 := fun (wx : World) => laws_szTestS (a := ga) (n := gn) (c := gc) (m := m - nm.size) (w := wx) hg (by omega) (by omega)
    by_cases h2 : m - (nm.size : Int) < (gn : Int)
    · have HR := Lib.hid (szN_lt (m := m) (x := nm.size + gn + en) (by omega))
      simp only [if_pos h2] at k1
      have K1 := Lib.hid k1
      clear k1
      go_enter Try.func122, Try.ntmps122
      go_wp2_with fail
      go_wp2_with fail
      refine Calls.mono ((K1.out _)) ?_
      rintro e _ ⟨rfl, rfl⟩
      go_wp2
      go_ret
      exact ⟨ret_int HR.out.symm, by repeat (first | exact Below.refl _ _ | assumption | refine below_allocS ?_ _ | refine below_callS ?_ (by assumption) | (refine Below.alloc ?_ (by first | omega | (simp; done) | (simp; omega)) _) | (refine Below.setCell ?_ (by first | omega | (simp; done) | (simp; omega)) _) | refine Below.drew ?_ | refine below_drewN ?_ _ | (refine below_call ?_ (by assumption) (by first | omega | (simp; done) | (simp; omega))) | (refine Below.trans ?_ (by assumption)))⟩
    · simp only [if_neg h2] at k1
      have K1 := Lib.hid k1
      have h2' : ¬ m - (nm.size : Int) - (gn : Int) < 0 := by omega
      have k2 := fun (wx : World) => laws_szAssignS (a := ea) (n := en) (c := ec) (m := m - nm.size - gn) (w := wx) he (by omega) (by omega)
      clear k1
      by_cases h3 : m - (nm.size : Int) - (gn : Int) < (en : Int)
      · have HR := Lib.hid (szN_lt (m := m) (x := nm.size + gn + en) (by omega))
        simp only [if_pos h3] at k2
        have K2 := Lib.hid k2
        clear k2
        go_enter Try.func122, Try.ntmps122
        go_wp2_with fail
        go_wp2_with fail
        refine Calls.mono ((K1.out _)) ?_
        rintro e _ ⟨rfl, rfl⟩
        go_wp2_with fail
        go_wp2_with fail
        refine Calls.mono ((K2.out _)) ?_
        rintro e _ ⟨rfl, rfl⟩
        go_wp2
        go_ret
        exact ⟨ret_int HR.out.symm, by repeat (first | exact Below.refl _ _ | assumption | refine below_allocS ?_ _ | refine below_callS ?_ (by assumption) | (refine Below.alloc ?_ (by first | omega | (simp; done) | (simp; omega)) _) | (refine Below.setCell ?_ (by first | omega | (simp; done) | (simp; omega)) _) | refine Below.drew ?_ | refine below_drewN ?_ _ | (refine below_call ?_ (by assumption) (by first | omega | (simp; done) | (simp; omega))) | (refine Below.trans ?_ (by assumption)))⟩
      · have HR := Lib.hid ((szN_ge (m := m) (x := nm.size + gn + en) (by omega)).trans (show m - ((nm.size + gn + en : Nat) : Int) = m - nm.size - gn - en by omega))
        have h3' : ¬ m - (nm.size : Int) - (gn : Int) - (en : Int) < 0 := by omega
        simp only [if_neg h3] at k2
        have K2 := Lib.hid k2
        clear k2
        go_enter Try.func122, Try.ntmps122
        go_wp2_with fail
        go_wp2_with fail
        refine Calls.mono ((K1.out _)) ?_
        rintro e _ ⟨rfl, rfl⟩
        go_wp2_with fail
        go_wp2_with fail
        refine Calls.mono ((K2.out _)) ?_
        rintro e _ ⟨rfl, rfl⟩
        go_wp2
        go_ret
        exact ⟨ret_int HR.out.symm, by repeat (first | exact Below.refl _ _ | assumption | refine below_allocS ?_ _ | refine below_callS ?_ (by assumption) | (refine Below.alloc ?_ (by first | omega | (simp; done) | (simp; omega)) _) | (refine Below.setCell ?_ (by first | omega | (simp; done) | (simp; omega)) _) | refine Below.drew ?_ | refine below_drewN ?_ _ | (refine below_call ?_ (by assumption) (by first | omega | (simp; done) | (simp; omega))) | (refine Below.trans ?_ (by assumption)))⟩
end Go.Proofs.Ytkaikbaagajckaa
namespace Go.Proofs.Ytkaikbaagajckaa
open Go.RowKit
set_option linter.unusedVariables false
set_option linter.unusedSimpArgs false
/-- a rule in memory reads as a rule, of any size -/
def RuX (w0 : World) (x : RM × RuD) : Prop := x.1.nm = x.2.nm ∧ x.2.nm.size ≤ maxLen ∧ F2b w0 x.1.ga x.1.gn x.1.gc x.2.g ∧ x.1.gn ≤ maxLen ∧ F2 w0 x.1.ea x.1.en x.1.ec x.2.e ∧ x.1.en ≤ maxLen
abbrev FX (w0 : World) := Flats 3 encR (RuX w0)
theorem FX.get {w0 w : World} {a : Option Addr} {n c : Nat} {l : List (RM × RuD)} (h : FX w0 w a n c l) {i : Nat} (hi : i < n) :
    ∃ b off R r, a = some ⟨b, off, none⟩ ∧ b < w.heap.size ∧ l[i]? = some (R, r) ∧ RuX w0 (R, r) ∧ w.cell? ⟨b, off + i * 3, none⟩ = some (.string R.nm) ∧ w.cell? ⟨b, off + i * 3 + 1, none⟩ = some (.slice R.ga R.gn R.gc) ∧ w.cell? ⟨b, off + i * 3 + 2, none⟩ = some (.slice R.ea R.en R.ec) := by
  obtain ⟨b, off, x, h1, h2, h3, h4, h5⟩ := h.at hi
  exact ⟨b, off, x.1, x.2, h1, h2, h3, h4, h5 0 _ rfl, h5 1 _ rfl, h5 2 _ rfl⟩
def need1 (x : RM × RuD) : Nat := x.1.nm.size + x.1.gn + x.1.en
def need (l : List (RM × RuD)) : Nat := (l.map need1).sum
theorem need_take {l : List (RM × RuD)} {k : Nat} {x : RM × RuD} (h : l[k]? = some x) : need (l.take (k + 1)) = need (l.take k) + need1 x := by
  rw [need, take_at h, List.map_append, List.sum_append]; simp [need]
theorem need_le {l : List (RM × RuD)} {k : Nat} {x : RM × RuD} (h : l[k]? = some x) : need (l.take k) + need1 x ≤ need l := by
  rw [← need_take h]
  have : need l = need (l.take (k + 1)) + need (l.drop (k + 1)) := by
    rw [need, need, need, ← List.sum_append, ← List.map_append, List.take_append_drop]
  omega
set_option maxHeartbeats 1000000 in
theorem laws_szRuleS {a : Option Addr} {n c : Nat} {l : List (RM × RuD)} {m : Int} {w : World} (hI : FX w w a n c l) (hn : (n : Int) ≤ 9223372036854775807) (hm : 0 ≤ m) (hm' : m ≤ 1048576) :
    Calls Try.prog 79 #[.slice a n c, .int .i64 m] w fun e w' => e = .returned (.int .i64 (szN m (n + need l))) ∧ Below w.heap.size w w' := by
  by_cases h1 : m < (n : Int)
  · have h1' : m - (n : Int) < 0 := by omega
    have HR := Lib.hid (szN_lt (m := m) (x := n + need l) (by omega))
    clear hI
    go_enter Try.func79, Try.ntmps79
    go_wp2
    go_ret
    exact ⟨ret_int HR.out.symm, by repeat (first | exact Below.refl _ _ | assumption | refine below_allocS ?_ _ | refine below_callS ?_ (by assumption) | (refine Below.alloc ?_ (by first | omega | (simp; done) | (simp; omega)) _) | (refine Below.setCell ?_ (by first | omega | (simp; done) | (simp; omega)) _) | refine Below.drew ?_ | refine below_drewN ?_ _ | (refine below_call ?_ (by assumption) (by first | omega | (simp; done) | (simp; omega))) | (refine Below.trans ?_ (by assumption)))⟩
  · have h1' : ¬ m - (n : Int) < 0 := by omega
    have HI := Lib.hid hI
    clear hI
    go_enter Try.func79, Try.ntmps79
    go_wp2_with fail
    go_loopw [1, 5] (fun s1 s5 wr => ∃ (k : Nat) (q : Int), k ≤ n ∧ s1 = .int .i64 q ∧ s5 = .int .i64 k ∧ 0 ≤ q ∧ q ≤ 1048576 ∧ Below w.heap.size w wr ∧ Hid (q = m - n - need (l.take k))) (fun _ s5 _ => n - (intOf s5).toNat)
    case atStart => exact ⟨0, m - n, Nat.zero_le _, rfl, rfl, by omega, by omega, Below.refl _ _, Lib.hid (by simp [need])⟩
    case round =>
      obtain ⟨k, q, hk, rfl, rfl, hq0, hq1, hbl, A⟩ := hrel
      by_cases hlt : k < n
      · have hlt' : (k : Int) < (n : Int) := by omega
        have hk0 : (0 : Int) ≤ (k : Int) := by omega
        obtain ⟨b, off, R, r, rfl, hb, hx, hwf, c0, c1, c2⟩ := FX.get (HI.out.keep hbl) hlt
        obtain ⟨e1, hs2, hg, hgn, he, hen⟩ := hwf
        simp only at e1 hs2 hgn hen
        have hcall := laws_szRule (nm := R.nm) (ga := R.ga) (gn := R.gn) (gc := R.gc) (ea := R.ea) (en := R.en) (ec := R.ec) (m := q) (w := wr) (by rw [e1]; exact hs2) (by have : R.gn ≤ 9223372036854775807 := hgn; omega) (by have : R.en ≤ 9223372036854775807 := hen; omega) hq0 hq1
        have Hn1 := Lib.hid (show need1 (R, r) = R.nm.size + R.gn + R.en from rfl)
        have Hle := Lib.hid (need_le hx)
        have Htk := Lib.hid (need_take hx)
        clear hx hg he e1 hs2 hgn hen
        by_cases h2 : q < ((R.nm.size + R.gn + R.en : Nat) : Int)
        · rw [szN_lt h2] at hcall
          have HC := Lib.hid hcall
          have HR := Lib.hid (szN_lt (m := m) (x := n + need l) (by have h3 := A.out; have h4 := Hle.out; rw [Hn1.out] at h4; omega))
          clear hcall h2
          go_wp2_with fail
          refine Calls.mono HC.out ?_
          rintro e w1 ⟨rfl, hb1⟩
          go_wp2
          go_ret
          exact ⟨ret_int HR.out.symm, below_callS hbl hb1⟩
        · rw [szN_ge h2] at hcall
          obtain ⟨q2, hq2⟩ : ∃ q2 : Int, q2 = q - ((R.nm.size + R.gn + R.en : Nat) : Int) := ⟨_, rfl⟩
          rw [← hq2] at hcall
          have HC := Lib.hid hcall
          have hq20 : 0 ≤ q2 := by omega
          have hq21 : q2 ≤ 1048576 := by omega
          have hq22 : ¬ q2 < 0 := by omega
          have Hq2 := Lib.hid hq2
          clear hcall h2 hq2
          go_wp2_with fail
          refine Calls.mono HC.out ?_
          rintro e w1 ⟨rfl, hb1⟩
          go_wp2_with fail
          go_roundw
          case rel => exact ⟨k + 1, q2, by omega, rfl, by go_num, hq20, hq21, below_callS hbl hb1, Lib.hid (by rw [Htk.out, Hq2.out, A.out, Hn1.out]; omega)⟩
          case measure => simp [intOf]; omega
      · obtain rfl : n = k := by omega
        have hlt' : ¬ (n : Int) < (n : Int) := by omega
        have HR := Lib.hid (show szN m (n + need l) = q by
          have h3 := A.out
          rw [take_len HI.out.len] at h3
          rw [szN_ge (by omega)]; omega)
        go_wp2
        go_ret
        exact ⟨ret_int HR.out.symm, hbl⟩
end Go.Proofs.Ytkaikbaagajckaa
namespace Go.Proofs.Ytkaikbaagajckaa
open Go.RowKit
set_option linter.unusedVariables false
set_option linter.unusedSimpArgs false
set_option maxHeartbeats 1000000 in
theorem laws_eqRule {R R' : RM} {r : RuD} {w : World} (h : RuM w (R, r)) (h' : RuM w (R', r)) :
    Calls Try.prog 140 #[.agg #[.string R.nm, .slice R.ga R.gn R.gc, .slice R.ea R.en R.ec], .agg #[.string R'.nm, .slice R'.ga R'.gn R'.gc, .slice R'.ea R'.en R'.ec]] w fun e w' => e = .returned (.bool true) ∧ Below w.heap.size w w' := by
  obtain ⟨nm, ga, gn, gc, ea, en, ec⟩ := R
  obtain ⟨nm', ga', gn', gc', ea', en', ec'⟩ := R'
  obtain ⟨e1, h2, hg, hgn, he, hen⟩ := h
  obtain ⟨e1', _, hg', _, he', _⟩ := h'
  simp only at e1 h2 hg hgn he hen e1' hg' he' ⊢
  have e2 : nm' = nm := e1'.trans e1.symm
  have e3 : gn' = gn := hg'.len.symm.trans hg.len
  have e4 : en' = en := he'.len.symm.trans he.len
  subst e2 e3 e4
  have K1 := Lib.hid (fun (wx : World) (hb : Below w.heap.size w wx) => laws_eqTestS (hg.keep hb) (hg'.keep hb) hgn)
  have K2 := Lib.hid (fun (wx : World) (hb : Below w.heap.size w wx) => laws_eqAssignS (he.keep hb) (he'.keep hb) hen)
  have hq : (nm'.toList == nm'.toList) = true := by simp
  have hq2 : (nm'.toList != nm'.toList) = false := by simp
  clear e1 e1' h2 hg he hg' he'
  go_enter Try.func140, Try.ntmps140
  go_wp2_with fail
  refine Calls.mono (K1.out _ (by repeat (first | exact Below.refl _ _ | assumption | refine below_allocS ?_ _ | refine below_callS ?_ (by assumption) | (refine Below.alloc ?_ (by first | omega | (simp; done) | (simp; omega)) _) | (refine Below.setCell ?_ (by first | omega | (simp; done) | (simp; omega)) _) | refine Below.drew ?_ | refine below_drewN ?_ _ | (refine below_call ?_ (by assumption) (by first | omega | (simp; done) | (simp; omega))) | (refine Below.trans ?_ (by assumption))))) ?_
  rintro e w1 ⟨rfl, hb_w1⟩
  obtain ⟨hc_w1, hf_w1⟩ := bcell hb_w1
  have hs_w1 := hb_w1.size
  go_wp2_with fail
  refine Calls.mono (K2.out _ (by repeat (first | exact Below.refl _ _ | assumption | refine below_allocS ?_ _ | refine below_callS ?_ (by assumption) | (refine Below.alloc ?_ (by first | omega | (simp; done) | (simp; omega)) _) | (refine Below.setCell ?_ (by first | omega | (simp; done) | (simp; omega)) _) | refine Below.drew ?_ | refine below_drewN ?_ _ | (refine below_call ?_ (by assumption) (by first | omega | (simp; done) | (simp; omega))) | (refine Below.trans ?_ (by assumption))))) ?_
  rintro e w2 ⟨rfl, hb_w2⟩
  obtain ⟨hc_w2, hf_w2⟩ := bcell hb_w2
  have hs_w2 := hb_w2.size
  go_wp2
  go_ret
  exact ⟨rfl, by repeat (first | exact Below.refl _ _ | assumption | refine below_allocS ?_ _ | refine below_callS ?_ (by assumption) | (refine Below.alloc ?_ (by first | omega | (simp; done) | (simp; omega)) _) | (refine Below.setCell ?_ (by first | omega | (simp; done) | (simp; omega)) _) | refine Below.drew ?_ | refine below_drewN ?_ _ | (refine below_call ?_ (by assumption) (by first | omega | (simp; done) | (simp; omega))) | (refine Below.trans ?_ (by assumption)))⟩
theorem RuM.keep {w0 w : World} {x : RM × RuD} (h : RuM w0 x) (hb : Below w0.heap.size w0 w) : RuM w x := by
  obtain ⟨q1, q2, q3, q4, q5, q6⟩ := h
  exact ⟨q1, q2, q3.keep hb, q4, q5.keep hb, q6⟩
set_option maxHeartbeats 4000000 in
theorem laws_eqRuleS {a a' : Option Addr} {n c c' : Nat} {l l' : List (RM × RuD)} {w : World} (hI : FR w w a n c l) (hI' : FR w w a' n c' l') (hl : l.map (·.2) = l'.map (·.2)) (hn : n ≤ 1048576) :
    Calls Try.prog 96 #[.slice a n c, .slice a' n c'] w fun e w' => e = .returned (.bool true) ∧ Below w.heap.size w w' := by
  have HI := Lib.hid hI
  have HI' := Lib.hid hI'
  have HL := Lib.hid hl
  clear hI hI' hl
  have hq : ((n : Int) != (n : Int)) = false := by simp
  go_enter Try.func96, Try.ntmps96
  go_wp2
  go_loopw [5] (fun i wr => ∃ k : Nat, k ≤ n ∧ i = .int .i64 k ∧ Below w.heap.size w wr) (fun i _ => n - (intOf i).toNat)
  case atStart => exact ⟨0, Nat.zero_le _, rfl, Below.refl _ _⟩
  case round =>
    obtain ⟨k, hk, rfl, hbl⟩ := hrel
    by_cases hlt : k < n
    · obtain ⟨b, off, R, r, rfl, hb, hx, hwf, c0, c1, c2⟩ := FR.get (HI.out.keep hbl) hlt
      obtain ⟨b', off', R', r', rfl, hb', hx', hwf', d0, d1, d2⟩ := FR.get (HI'.out.keep hbl) hlt
      obtain rfl : r = r' := by
        have h1 := congrArg (fun z => z[k]?) HL.out
        simp [hx, hx'] at h1
        exact h1
      have HC := Lib.hid (fun (wx : World) (hb : Below w.heap.size w wx) => laws_eqRule (hwf.keep hb) (hwf'.keep hb))
      clear hx hx' hwf hwf'
      have hlt' : (k : Int) < (n : Int) := by omega
      have hpos : (0 : Int) ≤ (k : Int) := by omega
      go_wp2
      go_region_held3 (fun wx => wx.cell? ⟨b, off + k * 3, none⟩ = some (.string R.nm) ∧ wx.cell? ⟨b, off + k * 3 + 1, none⟩ = some (.slice R.ga R.gn R.gc) ∧ wx.cell? ⟨b, off + k * 3 + 2, none⟩ = some (.slice R.ea R.en R.ec) ∧ wx.cell? ⟨b', off' + k * 3, none⟩ = some (.string R'.nm) ∧ wx.cell? ⟨b', off' + k * 3 + 1, none⟩ = some (.slice R'.ga R'.gn R'.gc) ∧ wx.cell? ⟨b', off' + k * 3 + 2, none⟩ = some (.slice R'.ea R'.en R'.ec) ∧ b < wx.heap.size ∧ b' < wx.heap.size ∧ Below w.heap.size w wx) (((try go_split_ands); (repeat' apply And.intro) <;> first | assumption | exact Blk.keep (by assumption) hbx | exact Blk.drew (by assumption) | exact Blk.drew (Blk.made _ _ _) | exact Below.drew (by assumption) | exact Below.drew (below_allocS (by first | exact Below.refl _ _ | assumption) _) | exact below_callS (by assumption) hbx | exact below_call (by assumption) hbx (Below.size (by assumption)) | exact (hcx _ _ (by assumption)).trans (by assumption) | omega | (simp [*]; done) | (simp; omega))) (first | (go_at_call 140; refine Calls.mono (HC.out _ (by first | assumption | (go_split_ands; assumption))) ?_; rintro e wx2 ⟨rfl, hbx⟩; obtain ⟨hcx, hfx⟩ := bcell hbx; have hsx := hbx.size))
      go_split_ands
      go_wp2
      go_roundw
      case rel => exact ⟨k + 1, by omega, by go_num, by assumption⟩
      case measure => simp [intOf]; omega
    · go_wp2
      go_ret
      exact ⟨rfl, hbl⟩
end Go.Proofs.Ytkaikbaagajckaa
namespace Go.Proofs.Ytkaikbaagajckaa
open Go.RowKit
set_option linter.unusedVariables false
set_option linter.unusedSimpArgs false
theorem laws_szInt64S {a : Option Addr} {n c : Nat} {m : Int} {w : World} (hn : (n : Int) ≤ 9223372036854775807) (hm : 0 ≤ m) (hm' : m ≤ 1048576) : Calls Try.prog 78 #[.slice a n c, .int .i64 m] w fun e w' => e = .returned (.int .i64 (if m < n then -1 else m - n)) ∧ w = w' := by
  by_cases h : m < (n : Int)
  · rw [if_pos h]
    have h' : m - (n : Int) < 0 := by omega
    go_enter Try.func78, Try.ntmps78
    go_wp2
    go_ret
    exact ⟨rfl, rfl⟩
  · rw [if_neg h]
    have h' : ¬ m - (n : Int) < 0 := by omega
    go_enter Try.func78, Try.ntmps78
    go_wp2
    go_ret
    exact ⟨rfl, rfl⟩
set_option maxHeartbeats 1000000 in
theorem laws_szModel {sa ta ra : Option Addr} {sn sc tn tc rn rc : Nat} {l : List (RM × RuD)} {m : Int} {w : World} (hR : FX w w ra rn rc l) (hs : (sn : Int) ≤ 9223372036854775807) (ht : (tn : Int) ≤ 9223372036854775807) (hr : (rn : Int) ≤ 9223372036854775807) (hm : 0 ≤ m) (hm' : m ≤ 1048576) :
    Calls Try.prog 29 #[.agg #[.slice sa sn sc, .slice ta tn tc, .slice ra rn rc], .int .i64 m] w fun e w' => e = .returned (.int .i64 (szN m (sn + tn + (rn + need l)))) ∧ Below w.heap.size w w' := by
  have k1 := fun (wx : World) => laws_szInt64S (a := sa) (n := sn) (c := sc) (m := m) (w := wx) hs hm hm'
  by_cases h1 : m < (sn : Int)
  · have HR := Lib.hid (szN_lt (m := m) (x := sn + tn + (rn + need l)) (by omega))
    simp only [if_pos h1] at k1
    have K1 := Lib.hid k1
    clear k1 hR
    go_enter Try.func29, Try.ntmps29
    go_wp2_with fail
    go_wp2_with fail
    refine Calls.mono ((K1.out _)) ?_
    rintro e _ ⟨rfl, rfl⟩
    go_wp2
    go_ret
    exact ⟨ret_int HR.out.symm, by repeat (first | exact Below.refl _ _ | assumption | refine below_allocS ?_ _ | refine below_callS ?_ (by assumption) | (refine Below.alloc ?_ (by first | omega | (simp; done) | (simp; omega)) _) | (refine Below.setCell ?_ (by first | omega | (simp; done) | (simp; omega)) _) | refine Below.drew ?_ | refine below_drewN ?_ _ | (refine below_call ?_ (by assumption) (by first | omega | (simp; done) | (simp; omega))) | (refine Below.trans ?_ (by assumption)))⟩
  · simp only [if_neg h1] at k1
    have K1 := Lib.hid k1
    have h1' : ¬ m - (sn : Int) < 0 := by omega
    have k2 := fun (wx : World) => laws_szInt64S (a := ta) (n := tn) (c := tc) (m := m - sn) (w := wx) ht (by omega) (by omega)
    clear k1
    by_cases h2 : m - (sn : Int) < (tn : Int)
    · have HR := Lib.hid (szN_lt (m := m) (x := sn + tn + (rn + need l)) (by omega))
      simp only [if_pos h2] at k2
      have K2 := Lib.hid k2
      clear k2 hR
      go_enter Try.func29, Try.ntmps29
      go_wp2_with fail
      go_wp2_with fail
      refine Calls.mono ((K1.out _)) ?_
      rintro e _ ⟨rfl, rfl⟩
      go_wp2_with fail
      go_wp2_with fail
      refine Calls.mono ((K2.out _)) ?_
      rintro e _ ⟨rfl, rfl⟩
      go_wp2
      go_ret
      exact ⟨ret_int HR.out.symm, by repeat (first | exact Below.refl _ _ | assumption | refine below_allocS ?_ _ | refine below_callS ?_ (by assumption) | (refine Below.alloc ?_ (by first | omega | (simp; done) | (simp; omega)) _) | (refine Below.setCell ?_ (by first | omega | (simp; done) | (simp; omega)) _) | refine Below.drew ?_ | refine below_drewN ?_ _ | (refine below_call ?_ (by assumption) (by first | omega | (simp; done) | (simp; omega))) | (refine Below.trans ?_ (by assumption)))⟩
    · simp only [if_neg h2] at k2
      have K2 := Lib.hid k2
      have h2' : ¬ m - (sn : Int) - (tn : Int) < 0 := by omega
      have hFX := hR.keep ((Below.refl _ _).alloc (Nat.le_refl _) (.cells #[.slice sa sn sc, .slice ta tn tc, .slice ra rn rc] 52))
      have hFX2 : FX (w.alloc (.cells #[.slice sa sn sc, .slice ta tn tc, .slice ra rn rc] 52)) (w.alloc (.cells #[.slice sa sn sc, .slice ta tn tc, .slice ra rn rc] 52)) ra rn rc l := by
        refine ⟨hFX.len, hFX.cap, hFX.pos, fun x hx => ?_, hFX.nil⟩
        obtain ⟨q1, q2, q3, q4, q5, q6⟩ := hFX.wf x hx
        exact ⟨q1, q2, q3.keep ((Below.refl _ _).alloc (Nat.le_refl _) _), q4, q5.keep ((Below.refl _ _).alloc (Nat.le_refl _) _), q6⟩
      have k3 := laws_szRuleS (m := m - sn - tn) hFX2 hr (by omega) (by omega)
      have HR := Lib.hid (show szN m (sn + tn + (rn + need l)) = szN (m - sn - tn) (rn + need l) by unfold szN; split <;> split <;> omega)
      have hneg : szN (m - sn - tn) (rn + need l) < 0 ∨ ¬ szN (m - sn - tn) (rn + need l) < 0 := by omega
      have hneg2 : szN (m - sn - tn) (rn + need l) < 0 → szN (m - sn - tn) (rn + need l) = -1 := by unfold szN; split <;> omega
      generalize szN (m - sn - tn) (rn + need l) = q at *
      have K3 := Lib.hid k3
      clear k2 k3 hR hFX hFX2
      rcases hneg with hq | hq
      · obtain rfl := hneg2 hq
        clear hneg2 hq
        go_enter Try.func29, Try.ntmps29
        go_wp2_with fail
        go_wp2_with fail
        refine Calls.mono ((K1.out _)) ?_
        rintro e _ ⟨rfl, rfl⟩
        go_wp2_with fail
        go_wp2_with fail
        refine Calls.mono ((K2.out _)) ?_
        rintro e _ ⟨rfl, rfl⟩
        go_wp2_with fail
        refine Calls.mono K3.out ?_
        rintro e w1 ⟨rfl, hb1⟩
        go_wp2
        go_ret
        exact ⟨ret_int HR.out.symm, by repeat (first | exact Below.refl _ _ | assumption | refine below_allocS ?_ _ | refine below_callS ?_ (by assumption) | (refine Below.alloc ?_ (by first | omega | (simp; done) | (simp; omega)) _) | (refine Below.setCell ?_ (by first | omega | (simp; done) | (simp; omega)) _) | refine Below.drew ?_ | refine below_drewN ?_ _ | (refine below_call ?_ (by assumption) (by first | omega | (simp; done) | (simp; omega))) | (refine Below.trans ?_ (by assumption)))⟩
      · clear hneg2
        go_enter Try.func29, Try.ntmps29
        go_wp2_with fail
        go_wp2_with fail
        refine Calls.mono ((K1.out _)) ?_
        rintro e _ ⟨rfl, rfl⟩
        go_wp2_with fail
        go_wp2_with fail
        refine Calls.mono ((K2.out _)) ?_
        rintro e _ ⟨rfl, rfl⟩
        go_wp2_with fail
        refine Calls.mono K3.out ?_
        rintro e w1 ⟨rfl, hb1⟩
        go_wp2
        go_ret
        exact ⟨ret_int HR.out.symm, by repeat (first | exact Below.refl _ _ | assumption | refine below_allocS ?_ _ | refine below_callS ?_ (by assumption) | (refine Below.alloc ?_ (by first | omega | (simp; done) | (simp; omega)) _) | (refine Below.setCell ?_ (by first | omega | (simp; done) | (simp; omega)) _) | refine Below.drew ?_ | refine below_drewN ?_ _ | (refine below_call ?_ (by assumption) (by first | omega | (simp; done) | (simp; omega))) | (refine Below.trans ?_ (by assumption)))⟩
end Go.Proofs.Ytkaikbaagajckaa
namespace Go.Proofs.Ytkaikbaagajckaa
open Go.RowKit
set_option linter.unusedVariables false
set_option linter.unusedSimpArgs false
set_option maxHeartbeats 2000000 in
theorem laws_toRule {R : RM} {r : RuD} {w : World} (h : RuM w (R, r)) :
    Calls Try.prog 127 #[.agg #[.string R.nm, .slice R.ga R.gn R.gc, .slice R.ea R.en R.ec]] w fun e w' => ∃ R' : RM, e = .returned (.agg #[.string R'.nm, .slice R'.ga R'.gn R'.gc, .slice R'.ea R'.en R'.ec]) ∧ Below w.heap.size w w' ∧ R'.nm = r.nm ∧ OwnF 3 I2b.enc I2b.ok 115 w' w.heap.size R'.ga R'.gn R'.gc r.g ∧ OwnF 2 I2.enc I2.ok 173 w' w.heap.size R'.ea R'.en R'.ec r.e := by
  obtain ⟨nm, ga, gn, gc, ea, en, ec⟩ := R
  obtain ⟨e1, h2, hg, hgn, he, hen⟩ := h
  simp only at e1 h2 hg hgn he hen ⊢
  have HG := Lib.hid hg
  have HE := Lib.hid he
  have HN := Lib.hid e1
  clear hg he e1 h2
  go_enter Try.func127, Try.ntmps127
  go_wp2_with fail
  refine Calls.mono (laws_toTestS (HG.out.keep (by repeat (first | exact Below.refl _ _ | assumption | refine below_allocS ?_ _ | refine below_callS ?_ (by assumption) | (refine Below.alloc ?_ (by first | omega | (simp; done) | (simp; omega)) _) | (refine Below.setCell ?_ (by first | omega | (simp; done) | (simp; omega)) _) | refine Below.drew ?_ | refine below_drewN ?_ _ | (refine below_call ?_ (by assumption) (by first | omega | (simp; done) | (simp; omega))) | (refine Below.trans ?_ (by assumption))))) hgn) ?_
  rintro e w1 ⟨rfl, hb_w1, ho⟩
  obtain ⟨hc_w1, hf_w1⟩ := bcell hb_w1
  have hs_w1 := hb_w1.size
  simp at hs_w1
  have HO := Lib.hid ho
  clear ho
  have hz1 : w.heap.size < w1.heap.size := by omega
  have hz2 : w.heap.size + 1 < w1.heap.size := by omega
  have hz3 : w.heap.size + 1 + 1 < w1.heap.size := by omega
  go_wp2_with fail
  obtain ⟨wB, hwB⟩ : ∃ wB : World, wB = w1.setCell ⟨w.heap.size + 1 + 1, 1, none⟩ (.slice (some ⟨w.heap.size + 1 + 1 + 1, 0, none⟩) gn gn) := ⟨_, rfl⟩
  have hbB : Below w.heap.size w wB := by rw [hwB]; repeat (first | exact Below.refl _ _ | assumption | refine below_allocS ?_ _ | refine below_callS ?_ (by assumption) | (refine Below.alloc ?_ (by first | omega | (simp; done) | (simp; omega)) _) | (refine Below.setCell ?_ (by first | omega | (simp; done) | (simp; omega)) _) | refine Below.drew ?_ | refine below_drewN ?_ _ | (refine below_call ?_ (by assumption) (by first | omega | (simp; done) | (simp; omega))) | (refine Below.trans ?_ (by assumption)))
  have hsB : wB.heap.size = w1.heap.size := by rw [hwB]; simp
  have ho1 := HO.out
  simp at ho1
  refine Calls.mono (laws_toAssignS (HE.out.keep (by rw [hwB] at hbB; exact hbB)) hen) ?_
  rintro e w2 ⟨rfl, hb_w2, ho2⟩
  obtain ⟨hc_w2, hf_w2⟩ := bcell hb_w2
  have hs_w2 := hb_w2.size
  simp at hs_w2
  have HO2 := Lib.hid ho2
  clear ho2
  go_wp2
  have hz4 : w.heap.size + 1 < w2.heap.size := by omega
  have hz5 : w.heap.size + 1 + 1 < w2.heap.size := by omega
  have hz6 : w.heap.size < w2.heap.size := by omega
  refine bodyPost_ret (v := .agg #[.string nm, .slice (some ⟨w.heap.size + 1 + 1 + 1, 0, none⟩) gn gn, .slice (some ⟨w1.heap.size, 0, none⟩) en en]) (by simp [results, Try.results127, go_sem, hc_w1, hf_w1, hc_w2, hf_w2, hz1, hz2, hz3, hz4, hz5, hz6]) rfl ⟨⟨nm, some ⟨w.heap.size + 1 + 1 + 1, 0, none⟩, gn, gn, some ⟨w1.heap.size, 0, none⟩, en, en⟩, rfl, by repeat (first | exact Below.refl _ _ | assumption | refine below_allocS ?_ _ | refine below_callS ?_ (by assumption) | (refine Below.alloc ?_ (by first | omega | (simp; done) | (simp; omega)) _) | (refine Below.setCell ?_ (by first | omega | (simp; done) | (simp; omega)) _) | refine Below.drew ?_ | refine below_drewN ?_ _ | (refine below_call ?_ (by assumption) (by first | omega | (simp; done) | (simp; omega))) | (refine Below.trans ?_ (by assumption))), HN.out, ?_, ?_⟩
  · refine OwnF.le (base := w.heap.size + 1 + 1 + 1) ?_ (by omega)
    repeat (refine OwnF.keepG ?_ (set_grown _ _ _) (by intro g hg; simp at hg ⊢; omega))
    refine OwnF.keep ?_ hb_w2
    repeat (refine OwnF.keepG ?_ (set_grown _ _ _) (by intro g hg; simp at hg ⊢; omega))
    exact ho1
  · have h := HO2.out
    simp at h
    refine OwnF.le (base := w1.heap.size) ?_ (by omega)
    repeat (refine OwnF.keepG ?_ (set_grown _ _ _) (by intro g hg; simp at hg ⊢; omega))
    exact h
end Go.Proofs.Ytkaikbaagajckaa
