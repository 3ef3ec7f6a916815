/- Ride states of layer 24, walked. -/
import Derived.Test.YtoaccicfmfiemaaL10
import Derived.Test.YtoaccicfmfiemaaFl
namespace Go.Proofs.Ytoaccicfmfiemaa
open Go.RowKit
set_option linter.unusedVariables false
set_option linter.unusedSimpArgs false
def stAt (b : Int) (t i : Nat) (x : Int) : Bool := inB x 0 (if i < t then 3 * b - 1 else if (i : Int) = t + b then 2 else 3)
def stP (b : Int) (t : Nat) (st : List Int) (i : Nat) : Bool := match st[i]? with | some x => stAt b t i x | none => true
def rideB (b : Int) (t : Nat) (st : List Int) : Bool := ((st.length : Int) == t + b + 1) && upB (stP b t st) st.length
theorem stP_at {b : Int} {t i : Nat} {st : List Int} {x : Int} (h : st[i]? = some x) : stP b t st i = stAt b t i x := by rw [stP, h]
def rideCode (b : Int) (l st : List Int) : Int := if trafB b l = false then 1 else if rideB b l.length st = false then 2 else 0
set_option maxHeartbeats 1000000 in
theorem impl_isRideState {b : Int} {a s : Option Addr} {n c m d : Nat} {st : List Int} {w : World} (hS : Ints w s m d st) (hm : m ≤ 1048576) (hb0 : 2 ≤ b) (hb1 : b ≤ 8) (hn : n ≤ 4) :
    Calls Try.prog 141 #[.agg #[.int .i64 b, .slice a n c], .slice s m d] w fun e w' => e = .returned (.bool (rideB b n st)) ∧ Below w.heap.size w w' := by
  have HS := Lib.hid hS
  have HB := Lib.hid (show rideB b n st = (((st.length : Int) == n + b + 1) && upB (stP b n st) st.length) from rfl)
  rw [HS.out.len] at HB
  clear hS
  cases t1 : ((m : Int) != (n : Int) + b + 1)
  · have T1 := Lib.hid (show ((m : Int) == (n : Int) + b + 1) = true by simpa using t1)
    have e1 : IntKind.i64.wrap ((n : Int) + b) = (n : Int) + b := IntWalk.i64_in _ (by omega)
    have e2 : IntKind.i64.wrap ((n : Int) + b + 1) = (n : Int) + b + 1 := IntWalk.i64_in _ (by omega)
    go_enter Try.func141, Try.ntmps141
    go_wp2_with fail
    refine Calls.mono (impl_length_i64) ?_
    rintro e _ ⟨rfl, rfl⟩
    go_wp2_with fail
    go_quiet ((go_at_call 82; exact Calls.mono impl_length_i64 (fun _ _ h => ⟨h.1, _, h.2.symm⟩)))
    clear e1 e2
    have B0 := Lib.hid (show Blk ((w.alloc (.cells #[.int .i64 b, .slice a n c] 66)).drewN nq) w.heap.size #[.int .i64 b, .slice a n c] 66 from Blk.made _ _ _)
    go_wp2_with fail
    go_loopw [22] (fun s1 wr => ∃ k : Nat, k ≤ m ∧ s1 = .int .i64 k ∧ Below w.heap.size w wr ∧ Hid (Blk wr w.heap.size #[.int .i64 b, .slice a n c] 66) ∧ Hid (upB (stP b n st) k = true)) (fun i _ => m - (intOf i).toNat)
    case atStart => exact ⟨0, Nat.zero_le _, rfl, by repeat (first | exact Below.refl _ _ | assumption | refine below_allocS ?_ _ | refine below_callS ?_ (by assumption) | (refine Below.alloc ?_ (by first | omega | (simp; done) | (simp; omega)) _) | (refine Below.setCell ?_ (by first | omega | (simp; done) | (simp; omega)) _) | refine Below.drew ?_ | refine below_drewN ?_ _ | (refine below_call ?_ (by assumption) (by first | omega | (simp; done) | (simp; omega))) | (refine Below.trans ?_ (by assumption))), B0, rfl⟩
    case round =>
      obtain ⟨k, hk, rfl, hbl, B, A⟩ := hrel
      have c0 := B.out.cell 0
      have c1 := B.out.cell 1
      have z1 := B.out.lt
      simp at c0 c1
      by_cases hlt : k < m
      · obtain ⟨b', off, x, rfl, hb', hx, hcell, hwf⟩ := (HS.out.keep hbl).at hlt
        have Hx := Lib.hid hx
        have hk0 : (0 : Int) ≤ (k : Int) := by omega
        have hk1 : (k : Int) < (m : Int) := by omega
        clear hx hwf
        by_cases h1 : (k : Int) < (n : Int)
        · have HP := Lib.hid (show stP b n st k = inB x 0 (3 * b - 1) by rw [stP_at Hx.out, stAt, if_pos (by omega)])
          cases ht : inB x 0 (3 * b - 1)
          all_goals
            have Ht := Lib.hid ht
            rw [ht] at HP
            clear ht
            go_wp2_with fail
            refine Calls.mono (impl_within) ?_
            rintro e _ ⟨rfl, rfl⟩
            rw [Ht.out]
            go_wp2
          · go_ret
            exact ⟨ret_bool (by rw [HB.out, T1.out, upB_false hlt HP.out]; rfl), hbl⟩
          · go_roundw
            case rel => exact ⟨k + 1, by omega, by go_num, hbl, B, upB_step A.out HP.out⟩
            case measure => simp [intOf]; omega
        · by_cases h2 : (k : Int) = (n : Int) + b
          · have HP := Lib.hid (show stP b n st k = inB x 0 2 by rw [stP_at Hx.out, stAt, if_neg (by omega), if_pos h2])
            have hq : ((k : Int) == (n : Int) + b) = true := by simpa using h2
            clear h2
            cases ht : inB x 0 2
            all_goals
              have Ht := Lib.hid ht
              rw [ht] at HP
              clear ht
              go_wp2_with fail
              refine Calls.mono (impl_within) ?_
              rintro e _ ⟨rfl, rfl⟩
              rw [Ht.out]
              go_wp2
            · go_ret
              exact ⟨ret_bool (by rw [HB.out, T1.out, upB_false hlt HP.out]; rfl), hbl⟩
            · go_roundw
              case rel => exact ⟨k + 1, by omega, by go_num, hbl, B, upB_step A.out HP.out⟩
              case measure => simp [intOf]; omega
          · have HP := Lib.hid (show stP b n st k = inB x 0 3 by rw [stP_at Hx.out, stAt, if_neg (by omega), if_neg h2])
            have hq : ((k : Int) == (n : Int) + b) = false := by simpa using h2
            clear h2
            cases ht : inB x 0 3
            all_goals
              have Ht := Lib.hid ht
              rw [ht] at HP
              clear ht
              go_wp2_with fail
              refine Calls.mono (impl_within) ?_
              rintro e _ ⟨rfl, rfl⟩
              rw [Ht.out]
              go_wp2
            · go_ret
              exact ⟨ret_bool (by rw [HB.out, T1.out, upB_false hlt HP.out]; rfl), hbl⟩
            · go_roundw
              case rel => exact ⟨k + 1, by omega, by go_num, hbl, B, upB_step A.out HP.out⟩
              case measure => simp [intOf]; omega
      · go_wp2
        go_ret
        have e : k = m := by omega
        have h1 := A.out
        rw [e] at h1
        exact ⟨ret_bool (by rw [HB.out, T1.out, h1]; rfl), hbl⟩
  · have T1 := Lib.hid (show ((m : Int) == (n : Int) + b + 1) = false by simpa using t1)
    have e1 : IntKind.i64.wrap ((n : Int) + b) = (n : Int) + b := IntWalk.i64_in _ (by omega)
    have e2 : IntKind.i64.wrap ((n : Int) + b + 1) = (n : Int) + b + 1 := IntWalk.i64_in _ (by omega)
    go_enter Try.func141, Try.ntmps141
    go_wp2_with fail
    refine Calls.mono (impl_length_i64) ?_
    rintro e _ ⟨rfl, rfl⟩
    go_wp2_with fail
    go_quiet ((go_at_call 82; exact Calls.mono impl_length_i64 (fun _ _ h => ⟨h.1, _, h.2.symm⟩)))
    clear e1 e2
    go_wp2
    go_ret
    exact ⟨ret_bool (by rw [HB.out, T1.out]; rfl), by repeat (first | exact Below.refl _ _ | assumption | refine below_allocS ?_ _ | refine below_callS ?_ (by assumption) | (refine Below.alloc ?_ (by first | omega | (simp; done) | (simp; omega)) _) | (refine Below.setCell ?_ (by first | omega | (simp; done) | (simp; omega)) _) | refine Below.drew ?_ | refine below_drewN ?_ _ | (refine below_call ?_ (by assumption) (by first | omega | (simp; done) | (simp; omega))) | (refine Below.trans ?_ (by assumption)))⟩
set_option maxHeartbeats 1000000 in
theorem spec_l24State {b : Int} {a s : Option Addr} {n c m d : Nat} {l st : List Int} {w : World} (hI : Ints w a n c l) (hS : Ints w s m d st) (hn : n ≤ 1048576) (hm : m ≤ 1048576) :
    Calls Try.prog 109 #[.agg #[.int .i64 b, .slice a n c], .slice s m d] w fun e w' => e = .returned (.int .i64 (rideCode b l st)) ∧ Below w.heap.size w w' := by
  have HS := Lib.hid hS
  have HI := Lib.hid hI
  have HC := Lib.hid (show rideCode b l st = if trafB b l = false then 1 else if rideB b l.length st = false then 2 else 0 from rfl)
  have HB := Lib.hid (show rideB b l.length st = (((st.length : Int) == l.length + b + 1) && upB (stP b l.length st) st.length) from rfl)
  have hll := HI.out.len
  rw [HS.out.len, hll] at HB
  rw [hll] at HC
  clear hll
  clear hS hI
  cases t0 : trafB b l
  · have T0 := Lib.hid t0
    clear t0
    go_enter Try.func109, Try.ntmps109
    go_wp2_with fail
    refine Calls.mono (spec_IsTraffic (HI.out.keep (by repeat (first | exact Below.refl _ _ | assumption | refine below_allocS ?_ _ | refine below_callS ?_ (by assumption) | (refine Below.alloc ?_ (by first | omega | (simp; done) | (simp; omega)) _) | (refine Below.setCell ?_ (by first | omega | (simp; done) | (simp; omega)) _) | refine Below.drew ?_ | refine below_drewN ?_ _ | (refine below_call ?_ (by assumption) (by first | omega | (simp; done) | (simp; omega))) | (refine Below.trans ?_ (by assumption))))) hn) ?_
    rintro e w1 ⟨rfl, hb_w1⟩
    obtain ⟨hc_w1, hf_w1⟩ := bcell hb_w1
    have hs_w1 := hb_w1.size
    rw [T0.out]
    go_wp2
    go_ret
    exact ⟨ret_int (by rw [HC.out, T0.out]; rfl), by repeat (first | exact Below.refl _ _ | assumption | refine below_allocS ?_ _ | refine below_callS ?_ (by assumption) | (refine Below.alloc ?_ (by first | omega | (simp; done) | (simp; omega)) _) | (refine Below.setCell ?_ (by first | omega | (simp; done) | (simp; omega)) _) | refine Below.drew ?_ | refine below_drewN ?_ _ | (refine below_call ?_ (by assumption) (by first | omega | (simp; done) | (simp; omega))) | (refine Below.trans ?_ (by assumption)))⟩
  · have T0 := Lib.hid t0
    obtain ⟨hb0, hb1, hn1, hn4, _⟩ := trafB_split t0
    rw [HI.out.len] at hn4
    clear t0
    have B0 := Lib.hid (Blk.made w #[.int .i64 b, .slice a n c] 66)
    cases t1 : ((m : Int) != (n : Int) + b + 1)
    · have T1 := Lib.hid (show ((m : Int) == (n : Int) + b + 1) = true by simpa using t1)
      go_enter Try.func109, Try.ntmps109
      go_wp2_with fail
      refine Calls.mono (spec_IsTraffic (HI.out.keep (by repeat (first | exact Below.refl _ _ | assumption | refine below_allocS ?_ _ | refine below_callS ?_ (by assumption) | (refine Below.alloc ?_ (by first | omega | (simp; done) | (simp; omega)) _) | (refine Below.setCell ?_ (by first | omega | (simp; done) | (simp; omega)) _) | refine Below.drew ?_ | refine below_drewN ?_ _ | (refine below_call ?_ (by assumption) (by first | omega | (simp; done) | (simp; omega))) | (refine Below.trans ?_ (by assumption))))) hn) ?_
      rintro e w1 ⟨rfl, hb_w1⟩
      obtain ⟨hc_w1, hf_w1⟩ := bcell hb_w1
      have hs_w1 := hb_w1.size
      rw [T0.out]
      simp at hs_w1
      have B1 := Lib.hid (B0.out.keep hb_w1)
      have hbl1 : Below w.heap.size w w1 := by repeat (first | exact Below.refl _ _ | assumption | refine below_allocS ?_ _ | refine below_callS ?_ (by assumption) | (refine Below.alloc ?_ (by first | omega | (simp; done) | (simp; omega)) _) | (refine Below.setCell ?_ (by first | omega | (simp; done) | (simp; omega)) _) | refine Below.drew ?_ | refine below_drewN ?_ _ | (refine below_call ?_ (by assumption) (by first | omega | (simp; done) | (simp; omega))) | (refine Below.trans ?_ (by assumption)))
      go_wp2_with fail
      go_loopw [6] (fun s1 wr => ∃ k : Nat, k ≤ m ∧ s1 = .int .i64 k ∧ Below w.heap.size w wr ∧ Hid (Blk wr w.heap.size #[.int .i64 b, .slice a n c] 66) ∧ Hid (upB (stP b n st) k = true)) (fun i _ => m - (intOf i).toNat)
      case atStart => exact ⟨0, Nat.zero_le _, rfl, hbl1, B1, rfl⟩
      case round =>
        clear hbl1 B1 hs_w1 hb_w1 hc_w1 hf_w1
        obtain ⟨k, hk, rfl, hbl, B, A⟩ := hrel
        have c0 := B.out.cell 0
        have c1 := B.out.cell 1
        have z1 := B.out.lt
        simp at c0 c1
        by_cases hlt : k < m
        · obtain ⟨b', off, x, rfl, hb', hx, hcell, hwf⟩ := (HS.out.keep hbl).at hlt
          have Hx := Lib.hid hx
          have hk0 : (0 : Int) ≤ (k : Int) := by omega
          have hk1 : (k : Int) < (m : Int) := by omega
          clear hx hwf
          by_cases h1 : (k : Int) < (n : Int)
          · have HP := Lib.hid (show stP b n st k = inB x 0 (3 * b - 1) by rw [stP_at Hx.out, stAt, if_pos (by omega)])
            cases ht : inB x 0 (3 * b - 1)
            all_goals
              have Ht := Lib.hid ht
              rw [ht] at HP
              clear ht
              go_wp2_with fail
              refine Calls.mono (spec_l01In) ?_
              rintro e _ ⟨rfl, rfl⟩
              rw [Ht.out]
              go_wp2
            · go_ret
              exact ⟨ret_int (by rw [HC.out, T0.out, HB.out, T1.out, upB_false hlt HP.out]; rfl), hbl⟩
            · go_roundw
              case rel => exact ⟨k + 1, by omega, by go_num, hbl, B, upB_step A.out HP.out⟩
              case measure => simp [intOf]; omega
          · by_cases h2 : (k : Int) = (n : Int) + b
            · have HP := Lib.hid (show stP b n st k = inB x 0 2 by rw [stP_at Hx.out, stAt, if_neg (by omega), if_pos h2])
              have hq : ((k : Int) == (n : Int) + b) = true := by simpa using h2
              clear h2
              cases ht : inB x 0 2
              all_goals
                have Ht := Lib.hid ht
                rw [ht] at HP
                clear ht
                go_wp2_with fail
                refine Calls.mono (spec_l01In) ?_
                rintro e _ ⟨rfl, rfl⟩
                rw [Ht.out]
                go_wp2
              · go_ret
                exact ⟨ret_int (by rw [HC.out, T0.out, HB.out, T1.out, upB_false hlt HP.out]; rfl), hbl⟩
              · go_roundw
                case rel => exact ⟨k + 1, by omega, by go_num, hbl, B, upB_step A.out HP.out⟩
                case measure => simp [intOf]; omega
            · have HP := Lib.hid (show stP b n st k = inB x 0 3 by rw [stP_at Hx.out, stAt, if_neg (by omega), if_neg h2])
              have hq : ((k : Int) == (n : Int) + b) = false := by simpa using h2
              clear h2
              cases ht : inB x 0 3
              all_goals
                have Ht := Lib.hid ht
                rw [ht] at HP
                clear ht
                go_wp2_with fail
                refine Calls.mono (spec_l01In) ?_
                rintro e _ ⟨rfl, rfl⟩
                rw [Ht.out]
                go_wp2
              · go_ret
                exact ⟨ret_int (by rw [HC.out, T0.out, HB.out, T1.out, upB_false hlt HP.out]; rfl), hbl⟩
              · go_roundw
                case rel => exact ⟨k + 1, by omega, by go_num, hbl, B, upB_step A.out HP.out⟩
                case measure => simp [intOf]; omega
        · go_wp2
          go_ret
          have e : k = m := by omega
          have h1 := A.out
          rw [e] at h1
          exact ⟨ret_int (by rw [HC.out, T0.out, HB.out, T1.out, h1]; rfl), hbl⟩
    · have T1 := Lib.hid (show ((m : Int) == (n : Int) + b + 1) = false by simpa using t1)
      go_enter Try.func109, Try.ntmps109
      go_wp2_with fail
      refine Calls.mono (spec_IsTraffic (HI.out.keep (by repeat (first | exact Below.refl _ _ | assumption | refine below_allocS ?_ _ | refine below_callS ?_ (by assumption) | (refine Below.alloc ?_ (by first | omega | (simp; done) | (simp; omega)) _) | (refine Below.setCell ?_ (by first | omega | (simp; done) | (simp; omega)) _) | refine Below.drew ?_ | refine below_drewN ?_ _ | (refine below_call ?_ (by assumption) (by first | omega | (simp; done) | (simp; omega))) | (refine Below.trans ?_ (by assumption))))) hn) ?_
      rintro e w1 ⟨rfl, hb_w1⟩
      obtain ⟨hc_w1, hf_w1⟩ := bcell hb_w1
      have hs_w1 := hb_w1.size
      rw [T0.out]
      simp at hs_w1
      have B1 := Lib.hid (B0.out.keep hb_w1)
      go_wp2
      go_ret
      exact ⟨ret_int (by rw [HC.out, T0.out, HB.out, T1.out]; rfl), by repeat (first | exact Below.refl _ _ | assumption | refine below_allocS ?_ _ | refine below_callS ?_ (by assumption) | (refine Below.alloc ?_ (by first | omega | (simp; done) | (simp; omega)) _) | (refine Below.setCell ?_ (by first | omega | (simp; done) | (simp; omega)) _) | refine Below.drew ?_ | refine below_drewN ?_ _ | (refine below_call ?_ (by assumption) (by first | omega | (simp; done) | (simp; omega))) | (refine Below.trans ?_ (by assumption)))⟩
end Go.Proofs.Ytoaccicfmfiemaa
