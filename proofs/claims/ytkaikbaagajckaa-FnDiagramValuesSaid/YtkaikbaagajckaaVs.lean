/- Valid diagrams: levels and comparisons, walked. -/
import Derived.Test.YtkaikbaagajckaaVr
import Derived.Test.YtkaikbaagajckaaVq
namespace Go.Proofs.Ytkaikbaagajckaa
open Go.RowKit
set_option linter.unusedVariables false
set_option linter.unusedSimpArgs false
theorem cellR_drew {w : World} {a : Addr} {u : Value} (h : w.cell? a = some u) : w.drew.cell? a = some u := h
theorem ltR_drew {w : World} {g : Nat} (h : g < w.heap.size) : g < w.drew.heap.size := h
/-- a diagram's value -/
def dgV (inp : Int) (a : Option Addr) (n c : Nat) (root : Int) : Value := .agg #[.int .i64 inp, .slice a n c, .int .i64 root]
set_option maxHeartbeats 1000000 in
theorem spec_l22Level {a : Option Addr} {n c : Nat} {L : List I3} {inp root r : Int} {w : World} (hI : F3 w a n c L) (hn : n ≤ 1048576) (hr : RefB r L.length) :
    Calls Try.prog 113 #[.agg #[.int .i64 inp, .slice a n c, .int .i64 root], .int .i64 r] w fun e w' => e = .returned (.int .i64 (lvlN inp L r)) ∧ Below w.heap.size w w' := by
  by_cases h2 : r < 2
  · have HL := Lib.hid (lvl_low (n := inp) (L := L) h2)
    go_enter Try.func113, Try.ntmps113
    go_wp2
    go_ret
    exact ⟨by rw [HL.out]; rfl, by repeat (first | exact Below.refl _ _ | assumption | refine below_allocS ?_ _ | refine below_callS ?_ (by assumption) | (refine Below.alloc ?_ (by first | omega | (simp; done) | (simp; omega)) _) | (refine Below.setCell ?_ (by first | omega | (simp; done) | (simp; omega)) _) | refine Below.drew ?_ | refine below_drewN ?_ _ | (refine below_call ?_ (by assumption) (by first | omega | (simp; done) | (simp; omega))) | (refine Below.trans ?_ (by assumption)))⟩
  · obtain ⟨k, rfl⟩ : ∃ k : Nat, r = (k : Int) + 2 := ⟨(r - 2).toNat, by omega⟩
    have hkn : k < n := by rw [← hI.len]; have := hr.2; omega
    obtain ⟨b, off, x, rfl, hb, hx, hwf, hc0, hc1, hc2⟩ := F3.get hI hkn
    have HL := Lib.hid (lvl_node (n := inp) hx)
    have hk0 : (0 : Int) ≤ (k : Int) := by omega
    have hkn' : (k : Int) < (n : Int) := by omega
    have i1 : IntKind.i64.wrap ((k : Int) + 2 - 2) = (k : Int) := by rw [IntWalk.i64_in _ (by omega)]; omega
    have HI := Lib.hid hI
    clear hI hx
    go_enter Try.func113, Try.ntmps113
    go_wp2
    go_ret
    exact ⟨by rw [HL.out]; rfl, by repeat (first | exact Below.refl _ _ | assumption | refine below_allocS ?_ _ | refine below_callS ?_ (by assumption) | (refine Below.alloc ?_ (by first | omega | (simp; done) | (simp; omega)) _) | (refine Below.setCell ?_ (by first | omega | (simp; done) | (simp; omega)) _) | refine Below.drew ?_ | refine below_drewN ?_ _ | (refine below_call ?_ (by assumption) (by first | omega | (simp; done) | (simp; omega))) | (refine Below.trans ?_ (by assumption)))⟩
set_option maxHeartbeats 1000000 in
theorem impl_inputOf {a : Option Addr} {n c : Nat} {L : List I3} {inp root r : Int} {w : World} (hI : F3 w a n c L) (hn : n ≤ 1048576) (hr : RefB r L.length) :
    Calls Try.prog 65 #[.agg #[.int .i64 inp, .slice a n c, .int .i64 root], .int .i64 r] w fun e w' => e = .returned (.int .i64 (lvlN inp L r)) ∧ Below w.heap.size w w' := by
  by_cases h2 : r < 2
  · have HL := Lib.hid (lvl_low (n := inp) (L := L) h2)
    go_enter Try.func65, Try.ntmps65
    go_wp2
    go_ret
    exact ⟨by rw [HL.out]; rfl, by repeat (first | exact Below.refl _ _ | assumption | refine below_allocS ?_ _ | refine below_callS ?_ (by assumption) | (refine Below.alloc ?_ (by first | omega | (simp; done) | (simp; omega)) _) | (refine Below.setCell ?_ (by first | omega | (simp; done) | (simp; omega)) _) | refine Below.drew ?_ | refine below_drewN ?_ _ | (refine below_call ?_ (by assumption) (by first | omega | (simp; done) | (simp; omega))) | (refine Below.trans ?_ (by assumption)))⟩
  · obtain ⟨k, rfl⟩ : ∃ k : Nat, r = (k : Int) + 2 := ⟨(r - 2).toNat, by omega⟩
    have hkn : k < n := by rw [← hI.len]; have := hr.2; omega
    obtain ⟨b, off, x, rfl, hb, hx, hwf, hc0, hc1, hc2⟩ := F3.get hI hkn
    have HL := Lib.hid (lvl_node (n := inp) hx)
    have hk0 : (0 : Int) ≤ (k : Int) := by omega
    have hkn' : (k : Int) < (n : Int) := by omega
    have i1 : IntKind.i64.wrap ((k : Int) + 2 - 2) = (k : Int) := by rw [IntWalk.i64_in _ (by omega)]; omega
    have HI := Lib.hid hI
    clear hI hx
    go_enter Try.func65, Try.ntmps65
    go_wp2
    go_ret
    exact ⟨by rw [HL.out]; rfl, by repeat (first | exact Below.refl _ _ | assumption | refine below_allocS ?_ _ | refine below_callS ?_ (by assumption) | (refine Below.alloc ?_ (by first | omega | (simp; done) | (simp; omega)) _) | (refine Below.setCell ?_ (by first | omega | (simp; done) | (simp; omega)) _) | refine Below.drew ?_ | refine below_drewN ?_ _ | (refine below_call ?_ (by assumption) (by first | omega | (simp; done) | (simp; omega))) | (refine Below.trans ?_ (by assumption)))⟩
theorem neqNode (x y : I3) (wx : World) : (binOp .neq 76 (.agg #[.int .i64 x.a, .int .i64 x.b, .int .i64 x.c]) (.agg #[.int .i64 y.a, .int .i64 y.b, .int .i64 y.c])).run Try.prog wx = .ok (.bool (decide (x ≠ y))) wx := by
  rw [run_neq_struct, eqNode]
  by_cases h : x = y
  · rw [h]; simp [Result.andThen]
  · have : (x.a == y.a && (x.b == y.b && x.c == y.c)) = false := by
      rw [Bool.eq_false_iff]
      intro h1
      simp only [Bool.and_eq_true, beq_iff_eq] at h1
      exact h (by rw [I3.eta x, I3.eta y, h1.1, h1.2.1, h1.2.2])
    rw [this]; simp [Result.andThen, h]
set_option maxHeartbeats 1000000 in
theorem spec_l22Same {a b : Option Addr} {n c m d : Nat} {L M : List I3} {inp ra rb : Int} {w : World} (hI : F3 w a n c L) (hJ : F3 w b m d M) (hn : n ≤ 1048576) (hm : m ≤ 1048576) :
    Calls Try.prog 114 #[.agg #[.int .i64 inp, .slice a n c, .int .i64 ra], .agg #[.int .i64 inp, .slice b m d, .int .i64 rb]] w fun e w' => e = .returned (.bool (decide ((M, rb) = (L, ra)))) ∧ Below w.heap.size w w' := by
  have HI := Lib.hid hI
  have HJ := Lib.hid hJ
  have q1 := hI.len
  have q2 := hJ.len
  by_cases hr : ra = rb
  · subst hr
    by_cases hl : n = m
    · obtain rfl := hl
      have X := Lib.hid ((Blk.made w #[.int .i64 inp, .slice a n c, .int .i64 ra] 26).keep (below_alloc1 (Below.refl _ _) (.cells #[.int .i64 inp, .slice b n d, .int .i64 ra] 26)))
      have Y := Lib.hid (Blk.made1 w (.cells #[.int .i64 inp, .slice a n c, .int .i64 ra] 26) #[.int .i64 inp, .slice b n d, .int .i64 ra] 26)
      have hb0 : Below w.heap.size w ((w.alloc (.cells #[.int .i64 inp, .slice a n c, .int .i64 ra] 26)).alloc (.cells #[.int .i64 inp, .slice b n d, .int .i64 ra] 26)) := by repeat (first | exact Below.refl _ _ | assumption | refine below_allocS ?_ _ | refine below_callS ?_ (by assumption) | (refine Below.alloc ?_ (by first | omega | (simp; done) | (simp; omega)) _) | (refine Below.setCell ?_ (by first | omega | (simp; done) | (simp; omega)) _) | refine Below.drew ?_ | refine below_drewN ?_ _ | (refine below_call ?_ (by assumption) (by first | omega | (simp; done) | (simp; omega))) | (refine Below.trans ?_ (by assumption)))
      clear hI hJ
      go_enter Try.func114, Try.ntmps114
      go_wp2_with fail
      go_loopw [5] (fun s5 wr => ∃ j : Nat, s5 = .int .i64 j ∧ j ≤ n ∧ Hid (Below w.heap.size w wr) ∧ Hid (Blk wr w.heap.size #[.int .i64 inp, .slice a n c, .int .i64 ra] 26) ∧ Hid (Blk wr (w.heap.size + 1) #[.int .i64 inp, .slice b n d, .int .i64 ra] 26) ∧ Hid (∀ q, q < j → L[q]? = M[q]?)) (fun s5 _ => n - (intOf s5).toNat)
      case atStart => exact ⟨0, rfl, by omega, Lib.hid hb0, X, Y, Lib.hid fun q h => by omega⟩
      case round =>
        clear X Y hb0
        obtain ⟨j, rfl, hj, HB, X, Y, A⟩ := hrel
        have x1 := X.out.cell 1
        have xl := X.out.lt
        have y1 := Y.out.cell 1
        have yl := Y.out.lt
        simp at x1 y1
        by_cases hlt : j < n
        · have hlt' : (j : Int) < (n : Int) := by omega
          have hj0 : (0 : Int) ≤ (j : Int) := by omega
          obtain ⟨b1, o1, x, rfl, hb1, hx, _, c0, c1, c2⟩ := F3.get (HI.out.keep HB.out) hlt
          obtain ⟨b2, o2, y, rfl, hb2, hy, _, d0, d1, d2⟩ := F3.get (HJ.out.keep HB.out) hlt
          have HX := Lib.hid hx
          have HY := Lib.hid hy
          clear hx hy
          have hE := neqNode x y
          by_cases he : x = y
          · subst he
            simp only [ne_eq, not_true_eq_false, decide_false] at hE
            have A2 := Lib.hid (show ∀ q, q < j + 1 → L[q]? = M[q]? from fun q hq => by
              rcases (show q < j ∨ q = j by omega) with h | rfl
              · exact A.out q h
              · rw [HX.out, HY.out])
            go_wp2_with fail
            go_quiet (fail)
            go_wp2
            go_roundw
            case rel => exact ⟨j + 1, by go_num, by omega, Lib.hid (below_drewN HB.out _), Lib.hid (X.out.keep (below_drewN (Below.refl _ _) _)), Lib.hid (Y.out.keep (below_drewN (Below.refl _ _) _)), A2⟩
            case measure => simp [intOf]; omega
          · simp only [ne_eq, he, not_false_eq_true, decide_true] at hE
            have hne := Lib.hid (show ¬ ((M, ra) = (L, ra)) from fun e => by
              simp only [Prod.mk.injEq, and_true] at e
              have h1 := HX.out
              rw [← e, HY.out] at h1
              exact he (Option.some.inj h1).symm)
            go_wp2_with fail
            go_quiet (fail)
            go_wp2
            go_ret
            exact ⟨ret_bool (decide_eq_false hne.out).symm, below_drewN HB.out _⟩
        · have hjn : j = n := by omega
          subst hjn
          have hlt' : ¬ (j : Int) < (j : Int) := by omega
          have heq := Lib.hid (show (M, ra) = (L, ra) from by
            rw [show M = L from List.ext_getElem? fun q => by
              by_cases hq : q < j
              · exact (A.out q hq).symm
              · rw [List.getElem?_eq_none (by omega), List.getElem?_eq_none (by omega)]])
          go_wp2
          go_ret
          exact ⟨ret_bool (by have h := heq.out; simp only [Prod.mk.injEq, and_true] at h; simp [h]), HB.out⟩
    · have hl1 : ¬ (n : Int) = (m : Int) := by omega
      have hne := Lib.hid (show ¬ ((M, ra) = (L, ra)) from fun e => by
        simp only [Prod.mk.injEq, and_true] at e
        rw [e] at q2; omega)
      have e1 : ((n : Int) == (m : Int)) = false := by simpa using hl1
      have e2 : (n == m) = false := by simpa using hl
      clear hI hJ q1 q2
      go_enter Try.func114, Try.ntmps114
      go_wp2
      go_ret
      exact ⟨ret_bool (decide_eq_false hne.out).symm, by repeat (first | exact Below.refl _ _ | assumption | refine below_allocS ?_ _ | refine below_callS ?_ (by assumption) | (refine Below.alloc ?_ (by first | omega | (simp; done) | (simp; omega)) _) | (refine Below.setCell ?_ (by first | omega | (simp; done) | (simp; omega)) _) | refine Below.drew ?_ | refine below_drewN ?_ _ | (refine below_call ?_ (by assumption) (by first | omega | (simp; done) | (simp; omega))) | (refine Below.trans ?_ (by assumption)))⟩
  · have e1 : (ra == rb) = false := by simpa using hr
    have hne := Lib.hid (show ¬ ((M, rb) = (L, ra)) from fun e => by
      simp only [Prod.mk.injEq] at e
      exact hr e.2.symm)
    clear hI hJ q1 q2
    go_enter Try.func114, Try.ntmps114
    go_wp2
    go_ret
    exact ⟨ret_bool (decide_eq_false hne.out).symm, by repeat (first | exact Below.refl _ _ | assumption | refine below_allocS ?_ _ | refine below_callS ?_ (by assumption) | (refine Below.alloc ?_ (by first | omega | (simp; done) | (simp; omega)) _) | (refine Below.setCell ?_ (by first | omega | (simp; done) | (simp; omega)) _) | refine Below.drew ?_ | refine below_drewN ?_ _ | (refine below_call ?_ (by assumption) (by first | omega | (simp; done) | (simp; omega))) | (refine Below.trans ?_ (by assumption)))⟩
end Go.Proofs.Ytkaikbaagajckaa
