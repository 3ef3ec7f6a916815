/- Companions of layer 28, walked. -/
import Derived.Test.YtijdcacplibmhaaL26
import Derived.Test.YtijdcacplibmhaaEx
namespace Go.Proofs.Ytijdcacplibmhaa
open Go.RowKit
set_option linter.unusedVariables false
set_option linter.unusedSimpArgs false
theorem tdiv2_I64 {x : Int} (h : I64 x) : I64 (x.tdiv 2) := by
  unfold I64 at *
  rcases Int.le_total 0 x with h0 | h0
  · rw [Int.tdiv_eq_ediv_of_nonneg h0]; omega
  · have : x.tdiv 2 = -((-x) / 2) := by
      rw [← Int.tdiv_eq_ediv_of_nonneg (by omega), Int.neg_tdiv, Int.neg_neg]
    rw [this]; omega
theorem wrap_tdiv2 {x : Int} (h : I64 x) : IntKind.i64.wrap (x.tdiv 2) = x.tdiv 2 := IntWalk.i64_in _ (tdiv2_I64 h)
/-- is i another seat in the row of g, as asked -/
def compAt (l : List Int) (g : Nat) (p : Int → Bool) (i : Nat) : Bool := (((i : Int) != (g : Int)) && ((l[i]?.getD 0).tdiv 2 == (l[g]?.getD 0).tdiv 2)) && p i
def compF (l : List Int) (g : Nat) (p : Int → Bool) : Int := idxF (compAt l g p) (List.range l.length)
theorem range_at {n k : Nat} (h : k < n) : (List.range n)[k]? = some k := by simp [h]
theorem range_take {n k : Nat} (h : k ≤ n) : (List.range n).take k = List.range k := by rw [List.take_range, Nat.min_eq_left h]
theorem compF_hit {l : List Int} {g : Nat} {p : Int → Bool} {k : Nat} (hk : k < l.length) (hp : compAt l g p k = true) (hb : (List.range k).any (compAt l g p) = false) : compF l g p = k :=
  idxF_hit (range_at hk) hp (by rw [range_take (by omega)]; exact hb)
theorem compF_miss {l : List Int} {g : Nat} {p : Int → Bool} (hb : (List.range l.length).any (compAt l g p) = false) : compF l g p = -1 := idxF_miss hb
theorem rany_step {p : Nat → Bool} {k : Nat} (h : (List.range k).any p = false) (hk : p k = false) : (List.range (k + 1)).any p = false := by
  rw [List.range_succ, List.any_append, h]; simp [hk]
set_option maxHeartbeats 2000000 in
theorem impl_companion {gf : Nat} {lb : Array Value} {p : Int → Bool} {a : Option Addr} {n c g : Nat} {l : List Int} {w : World}
    (eg : ∀ args w, (callFunc gf args).run Try.prog w = .ok (.enter gf args) w) (hp : PredI Try.prog gf lb p w) (hI : Ints w a n c l) (hn : n ≤ 1048576) (hg : g < n) :
    Calls Try.prog 55 #[.slice a n c, .int .i64 (g : Int), .func (.func gf) #[] lb] w fun e w' => e = .returned (.int .i64 (compF l g p)) ∧ Below w.heap.size w w' := by
  have HP := Lib.hid hp
  have HI := Lib.hid hI
  clear hp hI
  go_enter Try.func55, Try.ntmps55
  go_wp2
  go_loopg [7, 8, 11] n (fun gg _ _ s11 wr => ∃ k : Nat, k ≤ n ∧ n - k ≤ gg ∧ s11 = .int .i64 k ∧ Below w.heap.size w wr ∧ Hid ((List.range k).any (compAt l g p) = false))
  case atStart => exact ⟨0, Nat.zero_le _, by omega, rfl, Below.refl _ _, rfl⟩
  case round =>
    obtain ⟨k, hk, hgg, rfl, hbl, A⟩ := hrel
    by_cases hlt : k < n
    · obtain ⟨b, off, x, rfl, hb, hx, hcell, hwf⟩ := (HI.out.keep hbl).at hlt
      obtain ⟨_, _, y, he, _, hy, hcell', hwf'⟩ := (HI.out.keep hbl).at hg
      simp only [Option.some.injEq, Addr.mk.injEq, and_true] at he
      obtain ⟨rfl, rfl⟩ := he
      have hci : compAt l g p k = ((((k : Int) != (g : Int)) && (x.tdiv 2 == y.tdiv 2)) && p k) := by rw [compAt, hx, hy]; rfl
      have Hci := Lib.hid hci
      have hk64 : I64 (k : Int) := ⟨by omega, by omega⟩
      have hcall := HP.out _ (k : Int) hk64 hbl
      have hx0 := hwf.1
      have hx1 := hwf.2
      have hy0 := hwf'.1
      have hy1 := hwf'.2
      have hg0 : (0 : Int) ≤ (g : Int) := by omega
      have hg1 : (g : Int) < (n : Int) := by omega
      clear hx hy hci hwf hwf' hk64
      cases h1 : ((k : Int) != (g : Int))
      · have H1 := Lib.hid h1
        go_wp2
        go_roundg (n - (k + 1))
        case measure => omega
        case rel => exact ⟨k + 1, by omega, by omega, by go_num, hbl, rany_step A.out (by rw [Hci.out, H1.out]; rfl)⟩
      · cases h2 : (x.tdiv 2 == y.tdiv 2)
        · have H1 := Lib.hid h1
          have H2 := Lib.hid h2
          go_wp2
          go_roundg (n - (k + 1))
          case measure => omega
          case rel => exact ⟨k + 1, by omega, by omega, by go_num, hbl, rany_step A.out (by rw [Hci.out, H1.out, H2.out]; rfl)⟩
        · have H1 := Lib.hid h1
          have H2 := Lib.hid h2
          cases hq : p (k : Int) with
          | true =>
            have Hq := Lib.hid hq
            rw [hq] at hcall
            clear hq
            go_wp2_with (go_at_fn gf; refine hcall.mono ?_; rintro e w1 ⟨rfl, hb1⟩)
            go_ret
            exact ⟨ret_int (by rw [compF_hit (by rw [HI.out.len]; exact hlt) (by rw [Hci.out, H1.out, H2.out, Hq.out]; rfl) A.out]), below_callS hbl hb1⟩
          | false =>
            have Hq := Lib.hid hq
            rw [hq] at hcall
            clear hq
            go_wp2_with (go_at_fn gf; refine hcall.mono ?_; rintro e w1 ⟨rfl, hb1⟩)
            go_roundg (n - (k + 1))
            case measure => omega
            case rel => exact ⟨k + 1, by omega, by omega, by go_num, below_callS hbl hb1, rany_step A.out (by rw [Hci.out, H1.out, H2.out, Hq.out]; rfl)⟩
    · go_wp2
      go_ret
      have e : k = n := by omega
      have h1 := A.out
      rw [e, ← HI.out.len] at h1
      exact ⟨ret_int (by rw [compF_miss h1]), hbl⟩
set_option maxHeartbeats 2000000 in
theorem spec_l28Companion {a : Option Addr} {n c g : Nat} {l : List Int} {w : World} (hI : Ints w a n c l) (hn : n ≤ 1048576) (hg : g < n) :
    Calls Try.prog 51 #[.slice a n c, .int .i64 (g : Int)] w fun e w' => e = .returned (.int .i64 (compF l g (fun _ => true))) ∧ Below w.heap.size w w' := by
  have HI := Lib.hid hI
  clear hI
  go_enter Try.func51, Try.ntmps51
  go_wp2
  go_loopw [5] (fun s5 wr => ∃ k : Nat, k ≤ n ∧ s5 = .int .i64 k ∧ Below w.heap.size w wr ∧ Hid ((List.range k).any (compAt l g (fun _ => true)) = false)) (fun i _ => n - (intOf i).toNat)
  case atStart => exact ⟨0, Nat.zero_le _, rfl, Below.refl _ _, rfl⟩
  case round =>
    obtain ⟨k, hk, rfl, hbl, A⟩ := hrel
    by_cases hlt : k < n
    · obtain ⟨b, off, x, rfl, hb, hx, hcell, hwf⟩ := (HI.out.keep hbl).at hlt
      obtain ⟨_, _, y, he, _, hy, hcell', hwf'⟩ := (HI.out.keep hbl).at hg
      simp only [Option.some.injEq, Addr.mk.injEq, and_true] at he
      obtain ⟨rfl, rfl⟩ := he
      have hci : compAt l g (fun _ => true) k = ((((k : Int) != (g : Int)) && (x.tdiv 2 == y.tdiv 2)) && true) := by rw [compAt, hx, hy]; rfl
      have Hci := Lib.hid hci
      have hwx := wrap_tdiv2 hwf
      have hwy := wrap_tdiv2 hwf'
      have hg0 : (0 : Int) ≤ (g : Int) := by omega
      have hg1 : (g : Int) < (n : Int) := by omega
      have hk0 : (0 : Int) ≤ (k : Int) := by omega
      have hk1 : (k : Int) < (n : Int) := by omega
      clear hx hy hci hwf hwf'
      cases h1 : ((k : Int) != (g : Int))
      · have H1 := Lib.hid h1
        go_wp2
        go_quiet (fail)
        go_wp2
        go_roundw
        case rel => exact ⟨k + 1, by omega, by go_num, by repeat (first | exact Below.refl _ _ | assumption | refine below_allocS ?_ _ | refine below_callS ?_ (by assumption) | (refine Below.alloc ?_ (by first | omega | (simp; done) | (simp; omega)) _) | (refine Below.setCell ?_ (by first | omega | (simp; done) | (simp; omega)) _) | refine Below.drew ?_ | refine below_drewN ?_ _ | (refine below_call ?_ (by assumption) (by first | omega | (simp; done) | (simp; omega))) | (refine Below.trans ?_ (by assumption))), rany_step A.out (by rw [Hci.out, H1.out]; rfl)⟩
        case measure => simp [intOf]; omega
      · cases h2 : (x.tdiv 2 == y.tdiv 2)
        · have H1 := Lib.hid h1
          have H2 := Lib.hid h2
          go_wp2
          go_quiet (fail)
          go_wp2
          go_roundw
          case rel => exact ⟨k + 1, by omega, by go_num, by repeat (first | exact Below.refl _ _ | assumption | refine below_allocS ?_ _ | refine below_callS ?_ (by assumption) | (refine Below.alloc ?_ (by first | omega | (simp; done) | (simp; omega)) _) | (refine Below.setCell ?_ (by first | omega | (simp; done) | (simp; omega)) _) | refine Below.drew ?_ | refine below_drewN ?_ _ | (refine below_call ?_ (by assumption) (by first | omega | (simp; done) | (simp; omega))) | (refine Below.trans ?_ (by assumption))), rany_step A.out (by rw [Hci.out, H1.out, H2.out]; rfl)⟩
          case measure => simp [intOf]; omega
        · have H1 := Lib.hid h1
          have H2 := Lib.hid h2
          go_wp2
          go_quiet (fail)
          go_wp2
          go_ret
          exact ⟨ret_int (by rw [compF_hit (by rw [HI.out.len]; exact hlt) (by rw [Hci.out, H1.out, H2.out]; rfl) A.out]), by repeat (first | exact Below.refl _ _ | assumption | refine below_allocS ?_ _ | refine below_callS ?_ (by assumption) | (refine Below.alloc ?_ (by first | omega | (simp; done) | (simp; omega)) _) | (refine Below.setCell ?_ (by first | omega | (simp; done) | (simp; omega)) _) | refine Below.drew ?_ | refine below_drewN ?_ _ | (refine below_call ?_ (by assumption) (by first | omega | (simp; done) | (simp; omega))) | (refine Below.trans ?_ (by assumption)))⟩
    · go_wp2
      go_ret
      have e : k = n := by omega
      have h1 := A.out
      rw [e, ← HI.out.len] at h1
      exact ⟨ret_int (by rw [compF_miss h1]), hbl⟩
theorem slices_Min_i64 {a : Option Addr} {n c : Nat} {x : Int} {l : List Int} {w : World} (hI : Ints w a n c (x :: l)) (hn : n ≤ 1048576) : Calls Try.prog 54 #[.slice a n c] w fun e w' => e = .returned (.int .i64 (minL x l)) ∧ w = w' := by
  have hl : l.length + 1 = n := by simpa using hI.len
  have h0 : 0 < n := by omega
  have h0' : ¬ (n : Int) < 1 := by omega
  obtain ⟨b, off, y, rfl, hb, hx, hcell, hwf⟩ := hI.at h0
  obtain rfl : x = y := by simpa using hx
  have hcell0 : w.cell? ⟨b, off, none⟩ = some (.int .i64 x) := by simpa using hcell
  have HI := Lib.hid hI
  have Hl := Lib.hid hl
  clear hx hcell hI hl
  go_enter Try.func54, Try.ntmps54
  go_wp2
  go_loop [3, 4] (fun m i => ∃ k : Nat, 1 ≤ k ∧ k ≤ n ∧ i = .int .i64 k ∧ m = .int .i64 (minL x (l.take (k - 1)))) (fun _ i => n - (intOf i).toNat)
  case atStart => exact ⟨1, Nat.le_refl _, by omega, rfl, by simp [minL]⟩
  case round =>
    obtain ⟨k, hk1, hk, rfl, rfl⟩ := hrel
    by_cases hlt : k < n
    · obtain ⟨_, _, y, h1, _, hy, hcell, hwfy⟩ := HI.out.at hlt
      simp only [Option.some.injEq, Addr.mk.injEq, and_true] at h1
      obtain ⟨rfl, rfl⟩ := h1
      have hs : minL x (l.take (k - 1 + 1)) = min (minL x (l.take (k - 1))) y := by
        rw [take_at (x := y) (by rw [← hy]; cases k with | zero => omega | succ k => simp), minL_snoc]
      rw [show k - 1 + 1 = k + 1 - 1 from by omega] at hs
      generalize minL x (l.take (k - 1)) = m at hs
      have Hs := Lib.hid hs
      clear hy hs
      go_wp2
      all_goals
        go_round
        case rel => exact ⟨k + 1, by omega, by omega, by go_num, by first | (rw [Hs.out]; done) | (rw [Hs.out]; congr 1; omega)⟩
        case measure => simp [intOf]; omega
    · go_wp2
      go_ret
      have e : l.take (k - 1) = l := List.take_of_length_le (by have := Hl.out; omega)
      exact ⟨ret_int (by rw [e]), rfl⟩
theorem impl_CompanionOf_1 {x : Int} {w : World} : Calls Try.prog 56 #[.int .i64 x] w fun e w' => e = .returned (.bool true) ∧ w = w' := by
  go_enter Try.func56, Try.ntmps56
  go_wp2
  go_ret
  exact ⟨rfl, rfl⟩
/-- the error of a companion asked for -/
def coCode (l : List Int) (g : Int) : Int := if 24 < l.length then 3 else if inB g 0 ((l.length : Int) - 1) = false then 2 else if (l.any fun x => decide (x < 0)) = true then 2 else 0
def coN (l : List Int) (g : Int) : Int := if coCode l g = 0 then compF l g.toNat (fun _ => true) else 0
theorem min_any {x : Int} {l : List Int} : decide (minL x l < 0) = ((x :: l).any fun y => decide (y < 0)) := by
  rw [Bool.eq_iff_iff, decide_eq_true_iff, List.any_eq_true]
  constructor
  · intro h
    apply Classical.byContradiction
    intro hn
    have hall : ∀ y ∈ x :: l, 0 ≤ y := fun y hy => by
      apply Classical.byContradiction
      intro hy0
      exact hn ⟨y, hy, by simp; omega⟩
    have := minL_ge (z := 0) (l := l) (hall x List.mem_cons_self) fun y hy => hall y (List.mem_cons_of_mem _ hy)
    omega
  · rintro ⟨y, hy, h⟩
    have hy0 : y < 0 := by simpa using h
    have : minL x l ≤ y := by
      rcases List.mem_cons.1 hy with rfl | h'
      · exact minL_le _ _
      · exact minL_mem_le h'
    omega
theorem ret_ii {a b c d : Int} (h : a = b) (h' : c = d) : Ending.returned (.tuple #[.int .i64 a, .int .i64 c]) = .returned (.tuple #[.int .i64 b, .int .i64 d]) := by rw [h, h']
set_option maxHeartbeats 2000000 in
theorem impl_CompanionOf {a : Option Addr} {n c : Nat} {l : List Int} {g : Int} {w : World} (hI : Ints w a n c l) (hn : n ≤ 1048576) :
    Calls Try.prog 15 #[.slice a n c, .int .i64 g] w fun e w' => e = .returned (.tuple #[.int .i64 (coN l g), .int .i64 (coCode l g)]) ∧ Below w.heap.size w w' := by
  have hl := hI.len
  by_cases h24 : 24 < n
  · have hcode : coCode l g = 3 := by rw [coCode, if_pos (by omega)]
    have HC := Lib.hid hcode
    have h24' : (24 : Int) < (n : Int) := by omega
    clear hI hl hcode
    go_enter Try.func15, Try.ntmps15
    go_wp2
    go_ret2
    exact ⟨ret_ii (by rw [coN, HC.out]; rfl) HC.out.symm, by repeat (first | exact Below.refl _ _ | assumption | refine below_allocS ?_ _ | refine below_callS ?_ (by assumption) | (refine Below.alloc ?_ (by first | omega | (simp; done) | (simp; omega)) _) | (refine Below.setCell ?_ (by first | omega | (simp; done) | (simp; omega)) _) | refine Below.drew ?_ | refine below_drewN ?_ _ | (refine below_call ?_ (by assumption) (by first | omega | (simp; done) | (simp; omega))) | (refine Below.trans ?_ (by assumption)))⟩
  · have h24' : ¬ (24 : Int) < (n : Int) := by omega
    cases hin : inB g 0 ((n : Int) - 1)
    · have hcode : coCode l g = 2 := by rw [coCode, if_neg (by omega), hl, if_pos hin]
      have HC := Lib.hid hcode
      have Hin := Lib.hid hin
      clear hI hl hcode hin
      go_enter Try.func15, Try.ntmps15
      go_wp2_with fail
      refine Calls.mono (impl_length_i64) ?_
      rintro e _ ⟨rfl, rfl⟩
      go_wp2_with fail
      refine Calls.mono (impl_within) ?_
      rintro e _ ⟨rfl, rfl⟩
      rw [Hin.out]
      go_wp2
      go_ret2
      exact ⟨ret_ii (by rw [coN, HC.out]; rfl) HC.out.symm, by repeat (first | exact Below.refl _ _ | assumption | refine below_allocS ?_ _ | refine below_callS ?_ (by assumption) | (refine Below.alloc ?_ (by first | omega | (simp; done) | (simp; omega)) _) | (refine Below.setCell ?_ (by first | omega | (simp; done) | (simp; omega)) _) | refine Below.drew ?_ | refine below_drewN ?_ _ | (refine below_call ?_ (by assumption) (by first | omega | (simp; done) | (simp; omega))) | (refine Below.trans ?_ (by assumption)))⟩
    · have hg : 0 ≤ g ∧ g ≤ (n : Int) - 1 := by simpa [inB] using hin
      obtain ⟨q, rfl⟩ := Int.eq_ofNat_of_zero_le hg.1
      obtain ⟨x, r, rfl⟩ : ∃ x r, l = x :: r := by
        cases l with
        | nil => simp at hl; omega
        | cons x r => exact ⟨x, r, rfl⟩
      have hma := min_any (x := x) (l := r)
      cases hneg : decide (minL x r < 0)
      · have hcode : coCode (x :: r) (q : Int) = 0 := by rw [coCode, if_neg (by omega), hl, if_neg (by rw [hin]; decide), ← hma, if_neg (by rw [hneg]; decide)]
        have HC := Lib.hid hcode
        have HI := Lib.hid hI
        have Hin := Lib.hid hin
        have hneg' := of_decide_eq_false hneg
        have hqn : q < n := by omega
        clear hI hl hcode hin hma hneg hg
        go_enter Try.func15, Try.ntmps15
        go_wp2_with fail
        refine Calls.mono (impl_length_i64) ?_
        rintro e _ ⟨rfl, rfl⟩
        go_wp2_with fail
        refine Calls.mono (impl_within) ?_
        rintro e _ ⟨rfl, rfl⟩
        rw [Hin.out]
        go_wp2_with fail
        refine Calls.mono (slices_Min_i64 HI.out hn) ?_
        rintro e _ ⟨rfl, rfl⟩
        generalize minL x r = m at *
        go_wp2_with fail
        refine Calls.mono (impl_companion (gf := 56) (lb := #[]) (p := fun _ => true) (enters_of Try.func56 (by kernel_rfl) rfl) (fun W x hx hb => Calls.mono (impl_CompanionOf_1 (x := x) (w := W)) (fun e w' h => ⟨h.1, h.2 ▸ Below.refl _ _⟩)) HI.out hn hqn) ?_
        rintro e w1 ⟨rfl, hb1⟩
        go_wp2
        go_ret2
        exact ⟨ret_ii (by rw [coN, if_pos HC.out]; rfl) HC.out.symm, by repeat (first | exact Below.refl _ _ | assumption | refine below_allocS ?_ _ | refine below_callS ?_ (by assumption) | (refine Below.alloc ?_ (by first | omega | (simp; done) | (simp; omega)) _) | (refine Below.setCell ?_ (by first | omega | (simp; done) | (simp; omega)) _) | refine Below.drew ?_ | refine below_drewN ?_ _ | (refine below_call ?_ (by assumption) (by first | omega | (simp; done) | (simp; omega))) | (refine Below.trans ?_ (by assumption)))⟩
      · have hcode : coCode (x :: r) (q : Int) = 2 := by rw [coCode, if_neg (by omega), hl, if_neg (by rw [hin]; decide), ← hma, if_pos hneg]
        have HC := Lib.hid hcode
        have HI := Lib.hid hI
        have Hin := Lib.hid hin
        have hneg' := of_decide_eq_true hneg
        clear hI hl hcode hin hma hneg hg
        go_enter Try.func15, Try.ntmps15
        go_wp2_with fail
        refine Calls.mono (impl_length_i64) ?_
        rintro e _ ⟨rfl, rfl⟩
        go_wp2_with fail
        refine Calls.mono (impl_within) ?_
        rintro e _ ⟨rfl, rfl⟩
        rw [Hin.out]
        go_wp2_with fail
        refine Calls.mono (slices_Min_i64 HI.out hn) ?_
        rintro e _ ⟨rfl, rfl⟩
        generalize minL x r = m at *
        go_wp2
        go_ret2
        exact ⟨ret_ii (by rw [coN, HC.out]; rfl) HC.out.symm, by repeat (first | exact Below.refl _ _ | assumption | refine below_allocS ?_ _ | refine below_callS ?_ (by assumption) | (refine Below.alloc ?_ (by first | omega | (simp; done) | (simp; omega)) _) | (refine Below.setCell ?_ (by first | omega | (simp; done) | (simp; omega)) _) | refine Below.drew ?_ | refine below_drewN ?_ _ | (refine below_call ?_ (by assumption) (by first | omega | (simp; done) | (simp; omega))) | (refine Below.trans ?_ (by assumption)))⟩
set_option maxHeartbeats 2000000 in
theorem spec_CompanionOf {a : Option Addr} {n c : Nat} {l : List Int} {g : Int} {w : World} (hI : Ints w a n c l) (hn : n ≤ 1048576) :
    Calls Try.prog 13 #[.slice a n c, .int .i64 g] w fun e w' => e = .returned (.tuple #[.int .i64 (coN l g), .int .i64 (coCode l g)]) ∧ Below w.heap.size w w' := by
  have hl := hI.len
  by_cases h24 : 24 < n
  · have hcode : coCode l g = 3 := by rw [coCode, if_pos (by omega)]
    have HC := Lib.hid hcode
    have h24' : (24 : Int) < (n : Int) := by omega
    clear hI hl hcode
    go_enter Try.func13, Try.ntmps13
    go_wp2
    go_ret2
    exact ⟨ret_ii (by rw [coN, HC.out]; rfl) HC.out.symm, by repeat (first | exact Below.refl _ _ | assumption | refine below_allocS ?_ _ | refine below_callS ?_ (by assumption) | (refine Below.alloc ?_ (by first | omega | (simp; done) | (simp; omega)) _) | (refine Below.setCell ?_ (by first | omega | (simp; done) | (simp; omega)) _) | refine Below.drew ?_ | refine below_drewN ?_ _ | (refine below_call ?_ (by assumption) (by first | omega | (simp; done) | (simp; omega))) | (refine Below.trans ?_ (by assumption)))⟩
  · have h24' : ¬ (24 : Int) < (n : Int) := by omega
    cases hin : inB g 0 ((n : Int) - 1)
    · have hcode : coCode l g = 2 := by rw [coCode, if_neg (by omega), hl, if_pos hin]
      have HC := Lib.hid hcode
      have Hin := Lib.hid hin
      clear hI hl hcode hin
      go_enter Try.func13, Try.ntmps13
      go_wp2_with fail
      refine Calls.mono (spec_l01In) ?_
      rintro e _ ⟨rfl, rfl⟩
      rw [Hin.out]
      go_wp2
      go_ret2
      exact ⟨ret_ii (by rw [coN, HC.out]; rfl) HC.out.symm, by repeat (first | exact Below.refl _ _ | assumption | refine below_allocS ?_ _ | refine below_callS ?_ (by assumption) | (refine Below.alloc ?_ (by first | omega | (simp; done) | (simp; omega)) _) | (refine Below.setCell ?_ (by first | omega | (simp; done) | (simp; omega)) _) | refine Below.drew ?_ | refine below_drewN ?_ _ | (refine below_call ?_ (by assumption) (by first | omega | (simp; done) | (simp; omega))) | (refine Below.trans ?_ (by assumption)))⟩
    · have hg : 0 ≤ g ∧ g ≤ (n : Int) - 1 := by simpa [inB] using hin
      obtain ⟨q, rfl⟩ := Int.eq_ofNat_of_zero_le hg.1
      have hqn : q < n := by omega
      have HC := Lib.hid (show coCode l (q : Int) = if (l.any fun x => decide (x < 0)) = true then 2 else 0 by rw [coCode, if_neg (by omega), hl, if_neg (by rw [hin]; decide)])
      have HI := Lib.hid hI
      have Hin := Lib.hid hin
      have Hl := Lib.hid hl
      clear hI hl hin hg
      go_enter Try.func13, Try.ntmps13
      go_wp2_with fail
      refine Calls.mono (spec_l01In) ?_
      rintro e _ ⟨rfl, rfl⟩
      rw [Hin.out]
      go_wp2
      go_loop [6] (fun i => ∃ k : Nat, k ≤ n ∧ i = .int .i64 k ∧ Hid ((l.take k).any (fun x => decide (x < 0)) = false)) (fun i => n - (intOf i).toNat)
      case atStart => exact ⟨0, Nat.zero_le _, rfl, rfl⟩
      case round =>
        obtain ⟨k, hk, rfl, A⟩ := hrel
        by_cases hlt : k < n
        · obtain ⟨b, off, x, rfl, hb, hx, hcell, hwf⟩ := HI.out.at hlt
          have Hx := Lib.hid hx
          clear hx
          by_cases hx0 : x < 0
          · have Hx0 := Lib.hid (decide_eq_true hx0)
            go_wp2
            go_ret2
            have hcode : coCode l (q : Int) = 2 := by rw [HC.out, if_pos (any_take_true Hx.out Hx0.out)]
            exact ⟨ret_ii (by rw [coN, hcode]; rfl) hcode.symm, by repeat (first | exact Below.refl _ _ | assumption | refine below_allocS ?_ _ | refine below_callS ?_ (by assumption) | (refine Below.alloc ?_ (by first | omega | (simp; done) | (simp; omega)) _) | (refine Below.setCell ?_ (by first | omega | (simp; done) | (simp; omega)) _) | refine Below.drew ?_ | refine below_drewN ?_ _ | (refine below_call ?_ (by assumption) (by first | omega | (simp; done) | (simp; omega))) | (refine Below.trans ?_ (by assumption)))⟩
          · have Hx0 := Lib.hid (decide_eq_false hx0)
            go_wp2
            go_round
            case rel => exact ⟨k + 1, by omega, by go_num, any_take_step Hx.out A.out Hx0.out⟩
            case measure => simp [intOf]; omega
        · go_wp2_with fail
          refine Calls.mono (spec_l28Companion HI.out hn hqn) ?_
          rintro e w1 ⟨rfl, hb1⟩
          go_wp2
          go_ret2
          have e : l.take k = l := take_len (by have := Hl.out; omega)
          have h1 := A.out
          rw [e] at h1
          have hcode : coCode l (q : Int) = 0 := by rw [HC.out, h1]; rfl
          exact ⟨ret_ii (by rw [coN, if_pos hcode]; rfl) hcode.symm, by repeat (first | exact Below.refl _ _ | assumption | refine below_allocS ?_ _ | refine below_callS ?_ (by assumption) | (refine Below.alloc ?_ (by first | omega | (simp; done) | (simp; omega)) _) | (refine Below.setCell ?_ (by first | omega | (simp; done) | (simp; omega)) _) | refine Below.drew ?_ | refine below_drewN ?_ _ | (refine below_call ?_ (by assumption) (by first | omega | (simp; done) | (simp; omega))) | (refine Below.trans ?_ (by assumption)))⟩
set_option maxHeartbeats 1000000 in
theorem law_CompanionOf {a : Option Addr} {n c : Nat} {l : List Int} {g : Int} {w : World} (hI : Ints w a n c l) (_ : n ≤ maxLen) (_ : I64 g) : Calls Try.prog 3 #[.slice a n c, .int .i64 g] w fun e w' => e = .returned (.bool true) ∧ Below w.heap.size w w' := by
  by_cases hn : n ≤ 1048576
  · have HI := Lib.hid hI
    clear hI
    go_enter Try.func3, Try.ntmps3
    go_wp2_with fail
    refine Calls.mono (laws_toInt64S HI.out hn) ?_
    rintro e w1 ⟨rfl, hb_w1, HO1⟩
    obtain ⟨hc_w1, hf_w1⟩ := bcell hb_w1
    have hs_w1 := hb_w1.size
    have HO1 := Lib.hid HO1
    go_wp2_with fail
    refine Calls.mono (spec_CompanionOf HO1.out.ints hn) ?_
    rintro e w2 ⟨rfl, hb_w2⟩
    obtain ⟨hc_w2, hf_w2⟩ := bcell hb_w2
    have hs_w2 := hb_w2.size
    go_wp2_with fail
    refine Calls.mono (laws_toInt64S (HI.out.keep (by repeat (first | exact Below.refl _ _ | assumption | refine below_allocS ?_ _ | refine below_callS ?_ (by assumption) | (refine Below.alloc ?_ (by first | omega | (simp; done) | (simp; omega)) _) | (refine Below.setCell ?_ (by first | omega | (simp; done) | (simp; omega)) _) | refine Below.drew ?_ | refine below_drewN ?_ _ | (refine below_call ?_ (by assumption) (by first | omega | (simp; done) | (simp; omega))) | (refine Below.trans ?_ (by assumption))))) hn) ?_
    rintro e w3 ⟨rfl, hb_w3, HO3⟩
    obtain ⟨hc_w3, hf_w3⟩ := bcell hb_w3
    have hs_w3 := hb_w3.size
    have HO3 := Lib.hid HO3
    go_wp2_with fail
    refine Calls.mono (impl_CompanionOf HO3.out.ints hn) ?_
    rintro e w4 ⟨rfl, hb_w4⟩
    obtain ⟨hc_w4, hf_w4⟩ := bcell hb_w4
    have hs_w4 := hb_w4.size
    go_wp2_with fail
    refine Calls.mono (laws_toInt64S (HI.out.keep (by repeat (first | exact Below.refl _ _ | assumption | refine below_allocS ?_ _ | refine below_callS ?_ (by assumption) | (refine Below.alloc ?_ (by first | omega | (simp; done) | (simp; omega)) _) | (refine Below.setCell ?_ (by first | omega | (simp; done) | (simp; omega)) _) | refine Below.drew ?_ | refine below_drewN ?_ _ | (refine below_call ?_ (by assumption) (by first | omega | (simp; done) | (simp; omega))) | (refine Below.trans ?_ (by assumption))))) hn) ?_
    rintro e w5 ⟨rfl, hb_w5, HO5⟩
    obtain ⟨hc_w5, hf_w5⟩ := bcell hb_w5
    have hs_w5 := hb_w5.size
    have HO5 := Lib.hid HO5
    go_wp2_with fail
    refine Calls.mono (laws_eqInt64S (HO3.out.ints.keep (by repeat (first | exact Below.refl _ _ | assumption | refine below_allocS ?_ _ | refine below_callS ?_ (by assumption) | (refine Below.alloc ?_ (by first | omega | (simp; done) | (simp; omega)) _) | (refine Below.setCell ?_ (by first | omega | (simp; done) | (simp; omega)) _) | refine Below.drew ?_ | refine below_drewN ?_ _ | (refine below_call ?_ (by assumption) (by first | omega | (simp; done) | (simp; omega))) | (refine Below.trans ?_ (by assumption))))) HO5.out.ints hn hn) ?_
    rintro e w6 ⟨rfl, hb_w6⟩
    obtain ⟨hc_w6, hf_w6⟩ := bcell hb_w6
    have hs_w6 := hb_w6.size
    go_wp2
    go_ret
    exact ⟨rfl, by repeat (first | exact Below.refl _ _ | assumption | refine below_allocS ?_ _ | refine below_callS ?_ (by assumption) | (refine Below.alloc ?_ (by first | omega | (simp; done) | (simp; omega)) _) | (refine Below.setCell ?_ (by first | omega | (simp; done) | (simp; omega)) _) | refine Below.drew ?_ | refine below_drewN ?_ _ | (refine below_call ?_ (by assumption) (by first | omega | (simp; done) | (simp; omega))) | (refine Below.trans ?_ (by assumption)))⟩
  · go_enter Try.func3, Try.ntmps3
    go_wp2
    go_ret
    exact ⟨rfl, by repeat (first | exact Below.refl _ _ | assumption | refine below_allocS ?_ _ | refine below_callS ?_ (by assumption) | (refine Below.alloc ?_ (by first | omega | (simp; done) | (simp; omega)) _) | (refine Below.setCell ?_ (by first | omega | (simp; done) | (simp; omega)) _) | refine Below.drew ?_ | refine below_drewN ?_ _ | (refine below_call ?_ (by assumption) (by first | omega | (simp; done) | (simp; omega))) | (refine Below.trans ?_ (by assumption)))⟩
end Go.Proofs.Ytijdcacplibmhaa
