/- The faults of locks of layer 26, walked. -/
import Derived.Test.YtoaccicfmfiemaaFl
import Derived.Test.YtoaccicfmfiemaaL26
namespace Go.Proofs.Ytoaccicfmfiemaa
open Go.RowKit
set_option linter.unusedVariables false
set_option linter.unusedSimpArgs false
def sameLock (f o : I3) : Bool := o.a == f.a && o.b == f.b
def lockAt (rows : Int) (l : List I3) (i : Nat) : Bool :=
  match l[i]? with
  | some x => (inB x.a 0 (wrap64 (rows - 1)) && (inB x.b 0 1 && inB x.c 0 1)) && !((l.take i).any (sameLock x))
  | none => true
def lockB (rows : Int) (l : List I3) : Bool := upB (lockAt rows l) l.length && (inB rows 1 12 && decide (l.length ≤ 8))
theorem lockAt_bad {rows : Int} {l : List I3} {i : Nat} {x : I3} (hx : l[i]? = some x) (h : (inB x.a 0 (wrap64 (rows - 1)) && (inB x.b 0 1 && inB x.c 0 1)) = false) : lockAt rows l i = false := by
  simp only [lockAt, hx, h, Bool.false_and]
theorem lockAt_eq {rows : Int} {l : List I3} {i : Nat} {x : I3} (hx : l[i]? = some x) (h : (inB x.a 0 (wrap64 (rows - 1)) && (inB x.b 0 1 && inB x.c 0 1)) = true) : lockAt rows l i = !((l.take i).any (sameLock x)) := by
  simp only [lockAt, hx, h, Bool.true_and]
theorem impl_AreLockFaults_1 {f o : I3} {g : Nat} {w : World} (h0 : w.cell? ⟨g, 0, none⟩ = some (.int .i64 f.a)) (h1 : w.cell? ⟨g, 1, none⟩ = some (.int .i64 f.b)) (hg : g < w.heap.size) :
    Calls Try.prog 87 #[.agg #[.int .i64 o.a, .int .i64 o.b, .int .i64 o.c], .pointer (some ⟨g, 0, none⟩)] w fun e w' => e = .returned (.bool (sameLock f o)) ∧ Below w.heap.size w w' := by
  cases ha : (o.a == f.a)
  all_goals cases hb : (o.b == f.b)
  all_goals
    have Ha := Lib.hid ha
    have Hb := Lib.hid hb
    go_enter Try.func87, Try.ntmps87
    go_wp2
    go_ret
    exact ⟨ret_bool (by rw [sameLock, Ha.out, Hb.out]; rfl), by repeat (first | exact Below.refl _ _ | assumption | refine below_allocS ?_ _ | refine below_callS ?_ (by assumption) | (refine Below.alloc ?_ (by first | omega | (simp; done) | (simp; omega)) _) | (refine Below.setCell ?_ (by first | omega | (simp; done) | (simp; omega)) _) | refine Below.drew ?_ | refine below_drewN ?_ _ | (refine below_call ?_ (by assumption) (by first | omega | (simp; done) | (simp; omega))) | (refine Below.trans ?_ (by assumption)))⟩
set_option maxHeartbeats 2000000 in
theorem impl_AreLockFaults {rows : Int} {a : Option Addr} {n c : Nat} {l : List I3} {w : World} (hI : F3 w a n c l) (hn : n ≤ 1048576) :
    Calls Try.prog 24 #[.int .i64 rows, .slice a n c] w fun e w' => e = .returned (.bool (lockB rows l)) ∧ Below w.heap.size w w' := by
  have HI := Lib.hid hI
  clear hI
  go_enter Try.func24, Try.ntmps24
  go_wp2
  go_loopw [5, 6, 9] (fun _ _ s9 wr => ∃ k : Nat, k ≤ n ∧ s9 = .int .i64 k ∧ Below w.heap.size w wr ∧ Hid (upB (lockAt rows l) k = true)) (fun _ _ i _ => n - (intOf i).toNat)
  case atStart => exact ⟨0, Nat.zero_le _, rfl, Below.refl _ _, upB_zero _⟩
  case round =>
    obtain ⟨k, hk, rfl, hbl, A⟩ := hrel
    have hsz := hbl.size
    by_cases hlt : k < n
    · obtain ⟨b, off, x, rfl, hb, hx, hwf, hc0, hc1, hc2⟩ := F3.get (HI.out.keep hbl) hlt
      have Hx := Lib.hid hx
      clear hx
      cases h1 : inB x.a 0 (wrap64 (rows - 1))
      · have H1 := Lib.hid h1
        clear h1
        go_wp2_with fail
        refine Calls.mono (impl_within) ?_
        rintro e _ ⟨rfl, rfl⟩
        rw [H1.out]
        go_wp2
        go_ret
        exact ⟨ret_bool (by rw [lockB, upB_false (k := k) (by rw [HI.out.len]; exact hlt) (lockAt_bad Hx.out (by rw [H1.out]; rfl))]; rfl), by repeat (first | exact Below.refl _ _ | assumption | refine below_allocS ?_ _ | refine below_callS ?_ (by assumption) | (refine Below.alloc ?_ (by first | omega | (simp; done) | (simp; omega)) _) | (refine Below.setCell ?_ (by first | omega | (simp; done) | (simp; omega)) _) | refine Below.drew ?_ | refine below_drewN ?_ _ | (refine below_call ?_ (by assumption) (by first | omega | (simp; done) | (simp; omega))) | (refine Below.trans ?_ (by assumption)))⟩
      · cases h2 : inB x.b 0 1
        · have H1 := Lib.hid h1
          have H2 := Lib.hid h2
          clear h1 h2
          go_wp2_with fail
          refine Calls.mono (impl_within) ?_
          rintro e _ ⟨rfl, rfl⟩
          rw [H1.out]
          go_wp2_with fail
          refine Calls.mono (impl_within) ?_
          rintro e _ ⟨rfl, rfl⟩
          rw [H2.out]
          go_wp2
          go_ret
          exact ⟨ret_bool (by rw [lockB, upB_false (k := k) (by rw [HI.out.len]; exact hlt) (lockAt_bad Hx.out (by rw [H1.out, H2.out]; rfl))]; rfl), by repeat (first | exact Below.refl _ _ | assumption | refine below_allocS ?_ _ | refine below_callS ?_ (by assumption) | (refine Below.alloc ?_ (by first | omega | (simp; done) | (simp; omega)) _) | (refine Below.setCell ?_ (by first | omega | (simp; done) | (simp; omega)) _) | refine Below.drew ?_ | refine below_drewN ?_ _ | (refine below_call ?_ (by assumption) (by first | omega | (simp; done) | (simp; omega))) | (refine Below.trans ?_ (by assumption)))⟩
        · cases h3 : inB x.c 0 1
          · have H1 := Lib.hid h1
            have H2 := Lib.hid h2
            have H3 := Lib.hid h3
            clear h1 h2 h3
            go_wp2_with fail
            refine Calls.mono (impl_within) ?_
            rintro e _ ⟨rfl, rfl⟩
            rw [H1.out]
            go_wp2_with fail
            refine Calls.mono (impl_within) ?_
            rintro e _ ⟨rfl, rfl⟩
            rw [H2.out]
            go_wp2_with fail
            refine Calls.mono (impl_within) ?_
            rintro e _ ⟨rfl, rfl⟩
            rw [H3.out]
            go_wp2
            go_ret
            exact ⟨ret_bool (by rw [lockB, upB_false (k := k) (by rw [HI.out.len]; exact hlt) (lockAt_bad Hx.out (by rw [H1.out, H2.out, H3.out]; rfl))]; rfl), by repeat (first | exact Below.refl _ _ | assumption | refine below_allocS ?_ _ | refine below_callS ?_ (by assumption) | (refine Below.alloc ?_ (by first | omega | (simp; done) | (simp; omega)) _) | (refine Below.setCell ?_ (by first | omega | (simp; done) | (simp; omega)) _) | refine Below.drew ?_ | refine below_drewN ?_ _ | (refine below_call ?_ (by assumption) (by first | omega | (simp; done) | (simp; omega))) | (refine Below.trans ?_ (by assumption)))⟩
          · have hgood : (inB x.a 0 (wrap64 (rows - 1)) && (inB x.b 0 1 && inB x.c 0 1)) = true := by rw [h1, h2, h3]; rfl
            have heq := lockAt_eq Hx.out hgood
            have Heq := Lib.hid heq
            have H1 := Lib.hid h1
            have H2 := Lib.hid h2
            have H3 := Lib.hid h3
            clear h1 h2 h3 hgood heq
            have hlk : (k : Int) ≤ (c : Int) := by have := HI.out.cap; omega
            go_wp2_with fail
            refine Calls.mono (impl_within) ?_
            rintro e _ ⟨rfl, rfl⟩
            rw [H1.out]
            go_wp2_with fail
            refine Calls.mono (impl_within) ?_
            rintro e _ ⟨rfl, rfl⟩
            rw [H2.out]
            go_wp2_with fail
            refine Calls.mono (impl_within) ?_
            rintro e _ ⟨rfl, rfl⟩
            rw [H3.out]
            go_wp2_with fail
            have hIt : F3 (wr.alloc (.cells #[.int .i64 x.a, .int .i64 x.b, .int .i64 x.c] 111)) (some ⟨b, off, none⟩) k c (l.take k) := (HI.out.keep (hbl.alloc hbl.size _)).take hk
            have hcf := slices_ContainsFunc_LockFault (g := 87) (lb := #[.pointer (some ⟨wr.heap.size, 0, none⟩)]) (p := sameLock x) (enters_of Try.func87 (by kernel_rfl) rfl)
              (fun W o _ hbW => impl_AreLockFaults_1 (f := x) (o := o) (g := wr.heap.size) (w := W) ((hbW.cell (p := ⟨wr.heap.size, 0, none⟩) (by simp)).trans (by simp)) ((hbW.cell (p := ⟨wr.heap.size, 1, none⟩) (by simp)).trans (by simp)) (by have := hbW.size; simp at this; omega)) hIt (by omega)
            cases hany : (l.take k).any (sameLock x)
            all_goals
              rw [hany] at hcf
              have Hany := Lib.hid hany
              clear hany hIt
              refine Calls.mono hcf ?_
              rintro e w1 ⟨rfl, hb1⟩
              have hs1 := hb1.size
              simp at hs1
              go_wp2
            · go_roundw
              case rel => exact ⟨k + 1, by omega, by go_num, by repeat (first | exact Below.refl _ _ | assumption | refine below_allocS ?_ _ | refine below_callS ?_ (by assumption) | (refine Below.alloc ?_ (by first | omega | (simp; done) | (simp; omega)) _) | (refine Below.setCell ?_ (by first | omega | (simp; done) | (simp; omega)) _) | refine Below.drew ?_ | refine below_drewN ?_ _ | (refine below_call ?_ (by assumption) (by first | omega | (simp; done) | (simp; omega))) | (refine Below.trans ?_ (by assumption))), upB_step A.out (by rw [Heq.out, Hany.out]; rfl)⟩
              case measure => simp [intOf]; omega
            · go_ret
              exact ⟨ret_bool (by rw [lockB, upB_false (k := k) (by rw [HI.out.len]; exact hlt) (by rw [Heq.out, Hany.out]; rfl)]; rfl), by repeat (first | exact Below.refl _ _ | assumption | refine below_allocS ?_ _ | refine below_callS ?_ (by assumption) | (refine Below.alloc ?_ (by first | omega | (simp; done) | (simp; omega)) _) | (refine Below.setCell ?_ (by first | omega | (simp; done) | (simp; omega)) _) | refine Below.drew ?_ | refine below_drewN ?_ _ | (refine below_call ?_ (by assumption) (by first | omega | (simp; done) | (simp; omega))) | (refine Below.trans ?_ (by assumption)))⟩
    · have e : k = n := by omega
      have h1 := A.out
      rw [e, ← HI.out.len] at h1
      have H1 := Lib.hid h1
      clear h1
      cases hr : inB rows 1 12
      · have Hr := Lib.hid hr
        clear hr
        go_wp2_with fail
        refine Calls.mono (impl_isRowCount) ?_
        rintro e _ ⟨rfl, rfl⟩
        rw [Hr.out]
        go_wp2
        go_ret
        exact ⟨ret_bool (by rw [lockB, H1.out, Hr.out]; rfl), by repeat (first | exact Below.refl _ _ | assumption | refine below_allocS ?_ _ | refine below_callS ?_ (by assumption) | (refine Below.alloc ?_ (by first | omega | (simp; done) | (simp; omega)) _) | (refine Below.setCell ?_ (by first | omega | (simp; done) | (simp; omega)) _) | refine Below.drew ?_ | refine below_drewN ?_ _ | (refine below_call ?_ (by assumption) (by first | omega | (simp; done) | (simp; omega))) | (refine Below.trans ?_ (by assumption)))⟩
      · have Hr := Lib.hid hr
        clear hr
        go_wp2_with fail
        refine Calls.mono (impl_isRowCount) ?_
        rintro e _ ⟨rfl, rfl⟩
        rw [Hr.out]
        go_wp2
        all_goals
          go_ret
          exact ⟨ret_bool (by rw [lockB, H1.out, Hr.out, HI.out.len]; simp; omega), by repeat (first | exact Below.refl _ _ | assumption | refine below_allocS ?_ _ | refine below_callS ?_ (by assumption) | (refine Below.alloc ?_ (by first | omega | (simp; done) | (simp; omega)) _) | (refine Below.setCell ?_ (by first | omega | (simp; done) | (simp; omega)) _) | refine Below.drew ?_ | refine below_drewN ?_ _ | (refine below_call ?_ (by assumption) (by first | omega | (simp; done) | (simp; omega))) | (refine Below.trans ?_ (by assumption)))⟩
set_option maxHeartbeats 2000000 in
theorem spec_AreLockFaults {rows : Int} {a : Option Addr} {n c : Nat} {l : List I3} {w : World} (hI : F3 w a n c l) (hn : n ≤ 1048576) :
    Calls Try.prog 25 #[.int .i64 rows, .slice a n c] w fun e w' => e = .returned (.bool (lockB rows l)) ∧ Below w.heap.size w w' := by
  have HI := Lib.hid hI
  clear hI
  go_enter Try.func25, Try.ntmps25
  go_wp2
  go_loopw [5, 6, 7] (fun s5 _ _ wr => ∃ k : Nat, k ≤ n ∧ s5 = .int .i64 k ∧ Below w.heap.size w wr ∧ Hid (upB (lockAt rows l) k = true)) (fun i _ _ _ => n - (intOf i).toNat)
  case atStart => exact ⟨0, Nat.zero_le _, rfl, Below.refl _ _, upB_zero _⟩
  case round =>
    obtain ⟨k, hk, rfl, hbl, A⟩ := hrel
    have hsz := hbl.size
    by_cases hlt : k < n
    · obtain ⟨b, off, x, rfl, hb, hx, hwf, hc0, hc1, hc2⟩ := F3.get (HI.out.keep hbl) hlt
      have Hx := Lib.hid hx
      clear hx
      cases h1 : inB x.a 0 (wrap64 (rows - 1))
      · have H1 := Lib.hid h1
        clear h1
        go_wp2_with fail
        refine Calls.mono (spec_l01In) ?_
        rintro e _ ⟨rfl, rfl⟩
        rw [H1.out]
        go_wp2
        go_ret
        exact ⟨ret_bool (by rw [lockB, upB_false (k := k) (by rw [HI.out.len]; exact hlt) (lockAt_bad Hx.out (by rw [H1.out]; rfl))]; rfl), by repeat (first | exact Below.refl _ _ | assumption | refine below_allocS ?_ _ | refine below_callS ?_ (by assumption) | (refine Below.alloc ?_ (by first | omega | (simp; done) | (simp; omega)) _) | (refine Below.setCell ?_ (by first | omega | (simp; done) | (simp; omega)) _) | refine Below.drew ?_ | refine below_drewN ?_ _ | (refine below_call ?_ (by assumption) (by first | omega | (simp; done) | (simp; omega))) | (refine Below.trans ?_ (by assumption)))⟩
      · cases h2 : inB x.b 0 1
        · have H1 := Lib.hid h1
          have H2 := Lib.hid h2
          clear h1 h2
          go_wp2_with fail
          refine Calls.mono (spec_l01In) ?_
          rintro e _ ⟨rfl, rfl⟩
          rw [H1.out]
          go_wp2_with fail
          refine Calls.mono (spec_l01In) ?_
          rintro e _ ⟨rfl, rfl⟩
          rw [H2.out]
          go_wp2
          go_ret
          exact ⟨ret_bool (by rw [lockB, upB_false (k := k) (by rw [HI.out.len]; exact hlt) (lockAt_bad Hx.out (by rw [H1.out, H2.out]; rfl))]; rfl), by repeat (first | exact Below.refl _ _ | assumption | refine below_allocS ?_ _ | refine below_callS ?_ (by assumption) | (refine Below.alloc ?_ (by first | omega | (simp; done) | (simp; omega)) _) | (refine Below.setCell ?_ (by first | omega | (simp; done) | (simp; omega)) _) | refine Below.drew ?_ | refine below_drewN ?_ _ | (refine below_call ?_ (by assumption) (by first | omega | (simp; done) | (simp; omega))) | (refine Below.trans ?_ (by assumption)))⟩
        · cases h3 : inB x.c 0 1
          · have H1 := Lib.hid h1
            have H2 := Lib.hid h2
            have H3 := Lib.hid h3
            clear h1 h2 h3
            go_wp2_with fail
            refine Calls.mono (spec_l01In) ?_
            rintro e _ ⟨rfl, rfl⟩
            rw [H1.out]
            go_wp2_with fail
            refine Calls.mono (spec_l01In) ?_
            rintro e _ ⟨rfl, rfl⟩
            rw [H2.out]
            go_wp2_with fail
            refine Calls.mono (spec_l01In) ?_
            rintro e _ ⟨rfl, rfl⟩
            rw [H3.out]
            go_wp2
            go_ret
            exact ⟨ret_bool (by rw [lockB, upB_false (k := k) (by rw [HI.out.len]; exact hlt) (lockAt_bad Hx.out (by rw [H1.out, H2.out, H3.out]; rfl))]; rfl), by repeat (first | exact Below.refl _ _ | assumption | refine below_allocS ?_ _ | refine below_callS ?_ (by assumption) | (refine Below.alloc ?_ (by first | omega | (simp; done) | (simp; omega)) _) | (refine Below.setCell ?_ (by first | omega | (simp; done) | (simp; omega)) _) | refine Below.drew ?_ | refine below_drewN ?_ _ | (refine below_call ?_ (by assumption) (by first | omega | (simp; done) | (simp; omega))) | (refine Below.trans ?_ (by assumption)))⟩
          · have hgood : (inB x.a 0 (wrap64 (rows - 1)) && (inB x.b 0 1 && inB x.c 0 1)) = true := by rw [h1, h2, h3]; rfl
            have heq := lockAt_eq Hx.out hgood
            have Heq := Lib.hid heq
            have H1 := Lib.hid h1
            have H2 := Lib.hid h2
            have H3 := Lib.hid h3
            clear h1 h2 h3 hgood heq
            go_wp2_with fail
            refine Calls.mono (spec_l01In) ?_
            rintro e _ ⟨rfl, rfl⟩
            rw [H1.out]
            go_wp2_with fail
            refine Calls.mono (spec_l01In) ?_
            rintro e _ ⟨rfl, rfl⟩
            rw [H2.out]
            go_wp2_with fail
            refine Calls.mono (spec_l01In) ?_
            rintro e _ ⟨rfl, rfl⟩
            rw [H3.out]
            go_wp2
            go_loopw [7] (fun s7 wi => ∃ m : Nat, m ≤ k ∧ s7 = .int .i64 m ∧ Below w.heap.size w wi ∧ wr.heap.size < wi.heap.size ∧ wi.cell? ⟨wr.heap.size, 0, none⟩ = some (.int .i64 x.a) ∧ wi.cell? ⟨wr.heap.size, 1, none⟩ = some (.int .i64 x.b) ∧ Hid ((l.take m).any (sameLock x) = false)) (fun i _ => k - (intOf i).toNat)
            case atStart => exact ⟨0, Nat.zero_le _, rfl, by repeat (first | exact Below.refl _ _ | assumption | refine below_allocS ?_ _ | refine below_callS ?_ (by assumption) | (refine Below.alloc ?_ (by first | omega | (simp; done) | (simp; omega)) _) | (refine Below.setCell ?_ (by first | omega | (simp; done) | (simp; omega)) _) | refine Below.drew ?_ | refine below_drewN ?_ _ | (refine below_call ?_ (by assumption) (by first | omega | (simp; done) | (simp; omega))) | (refine Below.trans ?_ (by assumption))), by simp, by simp, by simp, rfl⟩
            case round =>
              obtain ⟨m, hm, rfl, hbi, hzi, hf0, hf1, B⟩ := hrel
              by_cases hltm : m < k
              · obtain ⟨b', off', y, he, hb', hy, _, hd0, hd1, hd2⟩ := F3.get (HI.out.keep hbi) (i := m) (by omega)
                simp only [Option.some.injEq, Addr.mk.injEq, and_true] at he
                obtain ⟨rfl, rfl⟩ := he
                have Hy := Lib.hid hy
                clear hy hd2
                have hlt' : (m : Int) < (n : Int) := by omega
                have hltk : (m : Int) < (k : Int) := by omega
                have hpos : (0 : Int) ≤ (m : Int) := by omega
                cases hA : (y.a == x.a)
                · go_wp2
                  go_quiet (fail)
                  go_wp2
                  go_roundw
                  case rel => exact ⟨m + 1, by omega, by go_num, by repeat (first | exact Below.refl _ _ | assumption | refine below_allocS ?_ _ | refine below_callS ?_ (by assumption) | (refine Below.alloc ?_ (by first | omega | (simp; done) | (simp; omega)) _) | (refine Below.setCell ?_ (by first | omega | (simp; done) | (simp; omega)) _) | refine Below.drew ?_ | refine below_drewN ?_ _ | (refine below_call ?_ (by assumption) (by first | omega | (simp; done) | (simp; omega))) | (refine Below.trans ?_ (by assumption))), hzi, hf0, hf1, any_take_step Hy.out B.out (by rw [sameLock, hA]; rfl)⟩
                  case measure => simp [intOf]; omega
                · cases hB : (y.b == x.b)
                  · go_wp2
                    go_quiet (fail)
                    go_wp2
                    go_roundw
                    case rel => exact ⟨m + 1, by omega, by go_num, by repeat (first | exact Below.refl _ _ | assumption | refine below_allocS ?_ _ | refine below_callS ?_ (by assumption) | (refine Below.alloc ?_ (by first | omega | (simp; done) | (simp; omega)) _) | (refine Below.setCell ?_ (by first | omega | (simp; done) | (simp; omega)) _) | refine Below.drew ?_ | refine below_drewN ?_ _ | (refine below_call ?_ (by assumption) (by first | omega | (simp; done) | (simp; omega))) | (refine Below.trans ?_ (by assumption))), hzi, hf0, hf1, any_take_step Hy.out B.out (by rw [sameLock, hA, hB]; rfl)⟩
                    case measure => simp [intOf]; omega
                  · have Hhit := Lib.hid (show sameLock x y = true by rw [sameLock, hA, hB]; rfl)
                    go_wp2
                    go_quiet (fail)
                    go_wp2
                    go_ret
                    have h2 : (l.take k).any (sameLock x) = true := any_take_true (k := m) (by rw [List.getElem?_take, if_pos hltm]; exact Hy.out) Hhit.out
                    exact ⟨ret_bool (by rw [lockB, upB_false (k := k) (by rw [HI.out.len]; exact hlt) (by rw [Heq.out, h2]; rfl)]; rfl), by repeat (first | exact Below.refl _ _ | assumption | refine below_allocS ?_ _ | refine below_callS ?_ (by assumption) | (refine Below.alloc ?_ (by first | omega | (simp; done) | (simp; omega)) _) | (refine Below.setCell ?_ (by first | omega | (simp; done) | (simp; omega)) _) | refine Below.drew ?_ | refine below_drewN ?_ _ | (refine below_call ?_ (by assumption) (by first | omega | (simp; done) | (simp; omega))) | (refine Below.trans ?_ (by assumption)))⟩
              · go_wp2
                go_roundw
                case rel =>
                  have e : m = k := by omega
                  have h2 := B.out
                  rw [e] at h2
                  exact ⟨k + 1, by omega, by go_num, by repeat (first | exact Below.refl _ _ | assumption | refine below_allocS ?_ _ | refine below_callS ?_ (by assumption) | (refine Below.alloc ?_ (by first | omega | (simp; done) | (simp; omega)) _) | (refine Below.setCell ?_ (by first | omega | (simp; done) | (simp; omega)) _) | refine Below.drew ?_ | refine below_drewN ?_ _ | (refine below_call ?_ (by assumption) (by first | omega | (simp; done) | (simp; omega))) | (refine Below.trans ?_ (by assumption))), upB_step A.out (by rw [Heq.out, h2]; rfl)⟩
                case measure => simp [intOf]; omega
    · have e : k = n := by omega
      have h1 := A.out
      rw [e, ← HI.out.len] at h1
      have H1 := Lib.hid h1
      clear h1
      cases hr : inB rows 1 12
      · have Hr := Lib.hid hr
        clear hr
        go_wp2_with fail
        refine Calls.mono (spec_l01In) ?_
        rintro e _ ⟨rfl, rfl⟩
        rw [Hr.out]
        go_wp2
        go_ret
        exact ⟨ret_bool (by rw [lockB, H1.out, Hr.out]; rfl), by repeat (first | exact Below.refl _ _ | assumption | refine below_allocS ?_ _ | refine below_callS ?_ (by assumption) | (refine Below.alloc ?_ (by first | omega | (simp; done) | (simp; omega)) _) | (refine Below.setCell ?_ (by first | omega | (simp; done) | (simp; omega)) _) | refine Below.drew ?_ | refine below_drewN ?_ _ | (refine below_call ?_ (by assumption) (by first | omega | (simp; done) | (simp; omega))) | (refine Below.trans ?_ (by assumption)))⟩
      · have Hr := Lib.hid hr
        clear hr
        go_wp2_with fail
        refine Calls.mono (spec_l01In) ?_
        rintro e _ ⟨rfl, rfl⟩
        rw [Hr.out]
        go_wp2
        all_goals
          go_ret
          exact ⟨ret_bool (by rw [lockB, H1.out, Hr.out, HI.out.len]; simp; omega), by repeat (first | exact Below.refl _ _ | assumption | refine below_allocS ?_ _ | refine below_callS ?_ (by assumption) | (refine Below.alloc ?_ (by first | omega | (simp; done) | (simp; omega)) _) | (refine Below.setCell ?_ (by first | omega | (simp; done) | (simp; omega)) _) | refine Below.drew ?_ | refine below_drewN ?_ _ | (refine below_call ?_ (by assumption) (by first | omega | (simp; done) | (simp; omega))) | (refine Below.trans ?_ (by assumption)))⟩
/-- both faults lie on one row and report a lock -/
def tolHit (f o : I3) : Bool := o.a == f.a && (o.c == 1 && f.c == 1)
def tolAt (l : List I3) (i : Nat) : Bool :=
  match l[i]? with
  | some x => !((l.take i).any (tolHit x))
  | none => true
def tolB (l : List I3) : Bool := upB (tolAt l) l.length
theorem tolAt_eq {l : List I3} {i : Nat} {x : I3} (hx : l[i]? = some x) : tolAt l i = !((l.take i).any (tolHit x)) := by simp only [tolAt, hx]
def stuckOf (l : List I3) : List Int := (l.filter fun f => f.c == 1).map I3.a
theorem tol_stuck (l : List I3) (x : I3) : (l.any (tolHit x)) = (x.c == 1 && (stuckOf l).any fun y => x.a == y) := by
  induction l with
  | nil => simp [stuckOf]
  | cons y r ih =>
    have hs : stuckOf (y :: r) = if y.c == 1 then y.a :: stuckOf r else stuckOf r := by
      simp only [stuckOf, List.filter_cons]
      split <;> simp
    rw [List.any_cons, ih, hs]
    have he : (y.a == x.a) = (x.a == y.a) := Bool.eq_iff_iff.2 (by rw [beq_iff_eq, beq_iff_eq]; exact eq_comm)
    unfold tolHit
    rw [he]
    cases hy : (y.c == 1)
    · simp only [Bool.false_and, Bool.and_false, Bool.false_or, if_false, Bool.false_eq_true]
    · simp only [Bool.true_and, if_true, List.any_cons]
      cases (x.c == 1) <;> simp only [Bool.and_true, Bool.and_false, Bool.true_and, Bool.false_and, Bool.or_false]
set_option maxHeartbeats 2000000 in
theorem impl_lockTolerated {a : Option Addr} {n c : Nat} {l : List I3} {w : World} (hI : F3 w a n c l) (hn : n ≤ 1048576) :
    Calls Try.prog 89 #[.slice a n c] w fun e w' => e = .returned (.bool (tolB l)) ∧ Below w.heap.size w w' := by
  have HI := Lib.hid hI
  clear hI
  go_enter Try.func89, Try.ntmps89
  go_wp2
  go_loopw [3, 5, 8] (fun s3 _ s8 wr => ∃ (k : Nat) (a1 : Option Addr) (n1 c1 : Nat), k ≤ n ∧ n1 ≤ k ∧ s3 = .slice a1 n1 c1 ∧ s8 = .int .i64 k ∧ Below w.heap.size w wr ∧ Hid (upB (tolAt l) k = true) ∧ Hid (OwnI 2 wr w.heap.size a1 n1 c1 (stuckOf (l.take k)))) (fun _ _ i _ => n - (intOf i).toNat)
  case atStart => exact ⟨0, none, 0, 0, Nat.zero_le _, Nat.le_refl _, rfl, rfl, Below.refl _ _, upB_zero _, OwnI.nil _ _ _⟩
  case round =>
    obtain ⟨k, a1, n1, c1, hk, hn1, rfl, rfl, hbl, A, HO⟩ := hrel
    have hsz := hbl.size
    by_cases hlt : k < n
    · obtain ⟨b, off, x, rfl, hb, hx, hwf, hc0, hc1, hc2⟩ := F3.get (HI.out.keep hbl) hlt
      have Hx := Lib.hid hx
      clear hx
      have Htk := Lib.hid (take_at Hx.out)
      cases hc : (x.c == 1)
      · have Hs := Lib.hid (show tolAt l k = true by rw [tolAt_eq Hx.out, tol_stuck, hc]; rfl)
        have Hst := Lib.hid (show stuckOf (l.take (k + 1)) = stuckOf (l.take k) by rw [Htk.out, stuckOf, List.filter_append]; simp [hc, stuckOf])
        go_wp2
        go_roundw
        case rel => exact ⟨k + 1, a1, n1, c1, by omega, by omega, rfl, by go_num, by repeat (first | exact Below.refl _ _ | assumption | refine below_allocS ?_ _ | refine below_callS ?_ (by assumption) | (refine Below.alloc ?_ (by first | omega | (simp; done) | (simp; omega)) _) | (refine Below.setCell ?_ (by first | omega | (simp; done) | (simp; omega)) _) | refine Below.drew ?_ | refine below_drewN ?_ _ | (refine below_call ?_ (by assumption) (by first | omega | (simp; done) | (simp; omega))) | (refine Below.trans ?_ (by assumption))), upB_step A.out Hs.out, by rw [Hst.out]; exact HO.out.keep (by repeat (first | exact Below.refl _ _ | assumption | refine below_allocS ?_ _ | refine below_callS ?_ (by assumption) | (refine Below.alloc ?_ (by first | omega | (simp; done) | (simp; omega)) _) | (refine Below.setCell ?_ (by first | omega | (simp; done) | (simp; omega)) _) | refine Below.drew ?_ | refine below_drewN ?_ _ | (refine below_call ?_ (by assumption) (by first | omega | (simp; done) | (simp; omega))) | (refine Below.trans ?_ (by assumption))))⟩
        case measure => simp [intOf]; omega
      · have Hst := Lib.hid (show stuckOf (l.take (k + 1)) = stuckOf (l.take k) ++ [x.a] by rw [Htk.out, stuckOf, List.filter_append]; simp [hc, stuckOf])
        have Heq := Lib.hid (show tolAt l k = !((stuckOf (l.take k)).any fun y => x.a == y) by rw [tolAt_eq Hx.out, tol_stuck, hc]; rfl)
        have hcon := fun (wx : World) (hw : Below wr.heap.size wr wx) => slices_Contains_i64 (v := x.a) (w := wx) (HO.out.ints.keep hw) (by omega)
        cases hany : ((stuckOf (l.take k)).any fun y => x.a == y)
        all_goals
          rw [hany] at hcon
          have Hany := Lib.hid hany
          have Hcon := Lib.hid hcon
          clear hany hcon
          go_wp2_with fail
          refine Calls.mono (Hcon.out _ (by repeat (first | exact Below.refl _ _ | assumption | refine below_allocS ?_ _ | refine below_callS ?_ (by assumption) | (refine Below.alloc ?_ (by first | omega | (simp; done) | (simp; omega)) _) | (refine Below.setCell ?_ (by first | omega | (simp; done) | (simp; omega)) _) | refine Below.drew ?_ | refine below_drewN ?_ _ | (refine below_call ?_ (by assumption) (by first | omega | (simp; done) | (simp; omega))) | (refine Below.trans ?_ (by assumption))))) ?_
          rintro e _ ⟨rfl, rfl⟩
        · go_wp2_with (at_builtin; refine append1_i64 rfl _ _ 32 2 rfl Try.underlying32 Try.infoi64 w.heap.size _ _ _ _ (((HO.out.keep ((Below.refl _ _).alloc (Nat.le_refl _) (.cells #[.int .i64 x.a, .int .i64 x.b, .int .i64 x.c] 111)))).keep ((Below.refl _ _).alloc (Nat.le_refl _) (.cells #[.int .i64 x.a] 2))) rfl (wr.heap.size + 1) x.a rfl (by simp) hwf.1 (by omega) (by simp; omega) ?_; intro a2 c2 w2 hown2 hb2 hg2)
          have Hown2 := Lib.hid hown2
          clear hown2
          go_roundw
          case rel => exact ⟨k + 1, a2, n1 + 1, c2, by omega, by omega, rfl, by go_num, Below.trans (by repeat (first | exact Below.refl _ _ | assumption | refine below_allocS ?_ _ | refine below_callS ?_ (by assumption) | (refine Below.alloc ?_ (by first | omega | (simp; done) | (simp; omega)) _) | (refine Below.setCell ?_ (by first | omega | (simp; done) | (simp; omega)) _) | refine Below.drew ?_ | refine below_drewN ?_ _ | (refine below_call ?_ (by assumption) (by first | omega | (simp; done) | (simp; omega))) | (refine Below.trans ?_ (by assumption)))) hb2, upB_step A.out (by rw [Heq.out, Hany.out]; rfl), by rw [Hst.out]; exact Hown2.out⟩
          case measure => simp [intOf]; omega
        · go_wp2
          go_ret
          exact ⟨ret_bool (by rw [tolB, upB_false (k := k) (by rw [HI.out.len]; exact hlt) (by rw [Heq.out, Hany.out]; rfl)]), by repeat (first | exact Below.refl _ _ | assumption | refine below_allocS ?_ _ | refine below_callS ?_ (by assumption) | (refine Below.alloc ?_ (by first | omega | (simp; done) | (simp; omega)) _) | (refine Below.setCell ?_ (by first | omega | (simp; done) | (simp; omega)) _) | refine Below.drew ?_ | refine below_drewN ?_ _ | (refine below_call ?_ (by assumption) (by first | omega | (simp; done) | (simp; omega))) | (refine Below.trans ?_ (by assumption)))⟩
    · go_wp2
      go_ret
      have e : k = n := by omega
      have h1 := A.out
      rw [e, ← HI.out.len] at h1
      exact ⟨ret_bool (by rw [tolB, h1]), hbl⟩
theorem impl_AreLockFaultsTolerated {rows : Int} {a : Option Addr} {n c : Nat} {l : List I3} {w : World} (hI : F3 w a n c l) (hn : n ≤ 1048576) :
    Calls Try.prog 26 #[.int .i64 rows, .slice a n c] w fun e w' => e = .returned (.bool (lockB rows l && tolB l)) ∧ Below w.heap.size w w' := by
  have HI := Lib.hid hI
  clear hI
  cases hk : lockB rows l
  all_goals
    have Hk := Lib.hid hk
    clear hk
    go_enter Try.func26, Try.ntmps26
    go_wp2_with fail
    refine Calls.mono (impl_AreLockFaults HI.out hn) ?_
    rintro e w1 ⟨rfl, hb_w1⟩
    obtain ⟨hc_w1, hf_w1⟩ := bcell hb_w1
    have hs_w1 := hb_w1.size
    rw [Hk.out]
  · go_wp2
    go_ret
    exact ⟨rfl, by repeat (first | exact Below.refl _ _ | assumption | refine below_allocS ?_ _ | refine below_callS ?_ (by assumption) | (refine Below.alloc ?_ (by first | omega | (simp; done) | (simp; omega)) _) | (refine Below.setCell ?_ (by first | omega | (simp; done) | (simp; omega)) _) | refine Below.drew ?_ | refine below_drewN ?_ _ | (refine below_call ?_ (by assumption) (by first | omega | (simp; done) | (simp; omega))) | (refine Below.trans ?_ (by assumption)))⟩
  · go_wp2_with fail
    refine Calls.mono (impl_lockTolerated (HI.out.keep (by repeat (first | exact Below.refl _ _ | assumption | refine below_allocS ?_ _ | refine below_callS ?_ (by assumption) | (refine Below.alloc ?_ (by first | omega | (simp; done) | (simp; omega)) _) | (refine Below.setCell ?_ (by first | omega | (simp; done) | (simp; omega)) _) | refine Below.drew ?_ | refine below_drewN ?_ _ | (refine below_call ?_ (by assumption) (by first | omega | (simp; done) | (simp; omega))) | (refine Below.trans ?_ (by assumption))))) hn) ?_
    rintro e w2 ⟨rfl, hb_w2⟩
    obtain ⟨hc_w2, hf_w2⟩ := bcell hb_w2
    have hs_w2 := hb_w2.size
    go_wp2
    go_ret
    exact ⟨rfl, by repeat (first | exact Below.refl _ _ | assumption | refine below_allocS ?_ _ | refine below_callS ?_ (by assumption) | (refine Below.alloc ?_ (by first | omega | (simp; done) | (simp; omega)) _) | (refine Below.setCell ?_ (by first | omega | (simp; done) | (simp; omega)) _) | refine Below.drew ?_ | refine below_drewN ?_ _ | (refine below_call ?_ (by assumption) (by first | omega | (simp; done) | (simp; omega))) | (refine Below.trans ?_ (by assumption)))⟩
set_option maxHeartbeats 2000000 in
theorem spec_AreLockFaultsTolerated {rows : Int} {a : Option Addr} {n c : Nat} {l : List I3} {w : World} (hI : F3 w a n c l) (hn : n ≤ 1048576) :
    Calls Try.prog 27 #[.int .i64 rows, .slice a n c] w fun e w' => e = .returned (.bool (lockB rows l && tolB l)) ∧ Below w.heap.size w w' := by
  have HI := Lib.hid hI
  clear hI
  go_enter Try.func27, Try.ntmps27
  go_wp2
  go_loopw [5, 6] (fun s5 _ wr => ∃ k : Nat, k ≤ n ∧ s5 = .int .i64 k ∧ Below w.heap.size w wr ∧ Hid (upB (tolAt l) k = true)) (fun i _ _ => n - (intOf i).toNat)
  case atStart => exact ⟨0, Nat.zero_le _, rfl, Below.refl _ _, upB_zero _⟩
  case round =>
    obtain ⟨k, hk, rfl, hbl, A⟩ := hrel
    have hsz := hbl.size
    by_cases hlt : k < n
    · obtain ⟨b, off, x, rfl, _, hx, _⟩ := F3.get (HI.out.keep hbl) hlt
      have Hx := Lib.hid hx
      clear hx
      go_wp2
      go_loopw [6] (fun s6 wi => ∃ m : Nat, m ≤ k ∧ s6 = .int .i64 m ∧ Below w.heap.size w wi ∧ Hid ((l.take m).any (tolHit x) = false)) (fun i _ => k - (intOf i).toNat)
      case atStart => exact ⟨0, Nat.zero_le _, rfl, by repeat (first | exact Below.refl _ _ | assumption | refine below_allocS ?_ _ | refine below_callS ?_ (by assumption) | (refine Below.alloc ?_ (by first | omega | (simp; done) | (simp; omega)) _) | (refine Below.setCell ?_ (by first | omega | (simp; done) | (simp; omega)) _) | refine Below.drew ?_ | refine below_drewN ?_ _ | (refine below_call ?_ (by assumption) (by first | omega | (simp; done) | (simp; omega))) | (refine Below.trans ?_ (by assumption))), rfl⟩
      case round =>
        obtain ⟨m, hm, rfl, hbi, B⟩ := hrel
        by_cases hltm : m < k
        · obtain ⟨_, _, x', he, _, hx', _, hc0, hc1, hc2⟩ := F3.get (HI.out.keep hbi) (i := k) hlt
          simp only [Option.some.injEq, Addr.mk.injEq, and_true] at he
          obtain ⟨rfl, rfl⟩ := he
          obtain rfl : x = x' := by have := Hx.out; rw [this] at hx'; simpa using hx'
          obtain ⟨_, _, y, he, _, hy, _, hd0, hd1, hd2⟩ := F3.get (HI.out.keep hbi) (i := m) (by omega)
          simp only [Option.some.injEq, Addr.mk.injEq, and_true] at he
          obtain ⟨rfl, rfl⟩ := he
          have Hy := Lib.hid hy
          clear hy hx'
          have hlt' : (m : Int) < (n : Int) := by omega
          have hltn : (k : Int) < (n : Int) := by omega
          have hltk : (m : Int) < (k : Int) := by omega
          have hpos : (0 : Int) ≤ (m : Int) := by omega
          have hpos' : (0 : Int) ≤ (k : Int) := by omega
          cases hA : (y.a == x.a)
          · go_wp2
            go_quiet (fail)
            go_wp2
            go_roundw
            case rel => exact ⟨m + 1, by omega, by go_num, by repeat (first | exact Below.refl _ _ | assumption | refine below_allocS ?_ _ | refine below_callS ?_ (by assumption) | (refine Below.alloc ?_ (by first | omega | (simp; done) | (simp; omega)) _) | (refine Below.setCell ?_ (by first | omega | (simp; done) | (simp; omega)) _) | refine Below.drew ?_ | refine below_drewN ?_ _ | (refine below_call ?_ (by assumption) (by first | omega | (simp; done) | (simp; omega))) | (refine Below.trans ?_ (by assumption))), any_take_step Hy.out B.out (by rw [tolHit, hA]; rfl)⟩
            case measure => simp [intOf]; omega
          · cases hB : (y.c == 1)
            · go_wp2
              go_quiet (fail)
              go_wp2
              go_roundw
              case rel => exact ⟨m + 1, by omega, by go_num, by repeat (first | exact Below.refl _ _ | assumption | refine below_allocS ?_ _ | refine below_callS ?_ (by assumption) | (refine Below.alloc ?_ (by first | omega | (simp; done) | (simp; omega)) _) | (refine Below.setCell ?_ (by first | omega | (simp; done) | (simp; omega)) _) | refine Below.drew ?_ | refine below_drewN ?_ _ | (refine below_call ?_ (by assumption) (by first | omega | (simp; done) | (simp; omega))) | (refine Below.trans ?_ (by assumption))), any_take_step Hy.out B.out (by rw [tolHit, hA, hB]; rfl)⟩
              case measure => simp [intOf]; omega
            · cases hC : (x.c == 1)
              · go_wp2
                go_quiet (fail)
                go_wp2
                go_roundw
                case rel => exact ⟨m + 1, by omega, by go_num, by repeat (first | exact Below.refl _ _ | assumption | refine below_allocS ?_ _ | refine below_callS ?_ (by assumption) | (refine Below.alloc ?_ (by first | omega | (simp; done) | (simp; omega)) _) | (refine Below.setCell ?_ (by first | omega | (simp; done) | (simp; omega)) _) | refine Below.drew ?_ | refine below_drewN ?_ _ | (refine below_call ?_ (by assumption) (by first | omega | (simp; done) | (simp; omega))) | (refine Below.trans ?_ (by assumption))), any_take_step Hy.out B.out (by rw [tolHit, hA, hB, hC]; rfl)⟩
                case measure => simp [intOf]; omega
              · have Hhit := Lib.hid (show tolHit x y = true by rw [tolHit, hA, hB, hC]; rfl)
                go_wp2
                go_quiet (fail)
                go_wp2
                go_ret
                have h2 : (l.take k).any (tolHit x) = true := any_take_true (k := m) (by rw [List.getElem?_take, if_pos hltm]; exact Hy.out) Hhit.out
                exact ⟨ret_bool (by rw [tolB, upB_false (k := k) (by rw [HI.out.len]; exact hlt) (by rw [tolAt_eq Hx.out, h2]; rfl), Bool.and_false]), by repeat (first | exact Below.refl _ _ | assumption | refine below_allocS ?_ _ | refine below_callS ?_ (by assumption) | (refine Below.alloc ?_ (by first | omega | (simp; done) | (simp; omega)) _) | (refine Below.setCell ?_ (by first | omega | (simp; done) | (simp; omega)) _) | refine Below.drew ?_ | refine below_drewN ?_ _ | (refine below_call ?_ (by assumption) (by first | omega | (simp; done) | (simp; omega))) | (refine Below.trans ?_ (by assumption)))⟩
        · go_wp2
          go_roundw
          case rel =>
            have e : m = k := by omega
            have h2 := B.out
            rw [e] at h2
            exact ⟨k + 1, by omega, by go_num, by repeat (first | exact Below.refl _ _ | assumption | refine below_allocS ?_ _ | refine below_callS ?_ (by assumption) | (refine Below.alloc ?_ (by first | omega | (simp; done) | (simp; omega)) _) | (refine Below.setCell ?_ (by first | omega | (simp; done) | (simp; omega)) _) | refine Below.drew ?_ | refine below_drewN ?_ _ | (refine below_call ?_ (by assumption) (by first | omega | (simp; done) | (simp; omega))) | (refine Below.trans ?_ (by assumption))), upB_step A.out (by rw [tolAt_eq Hx.out, h2]; rfl)⟩
          case measure => simp [intOf]; omega
    · have e : k = n := by omega
      have h1 := A.out
      rw [e, ← HI.out.len] at h1
      have H1 := Lib.hid h1
      clear h1
      go_wp2_with fail
      refine Calls.mono (spec_AreLockFaults (HI.out.keep hbl) hn) ?_
      rintro e w2 ⟨rfl, hb_w2⟩
      obtain ⟨hc_w2, hf_w2⟩ := bcell hb_w2
      have hs_w2 := hb_w2.size
      go_wp2
      go_ret
      exact ⟨ret_bool (by rw [tolB, H1.out, Bool.and_true]), by repeat (first | exact Below.refl _ _ | assumption | refine below_allocS ?_ _ | refine below_callS ?_ (by assumption) | (refine Below.alloc ?_ (by first | omega | (simp; done) | (simp; omega)) _) | (refine Below.setCell ?_ (by first | omega | (simp; done) | (simp; omega)) _) | refine Below.drew ?_ | refine below_drewN ?_ _ | (refine below_call ?_ (by assumption) (by first | omega | (simp; done) | (simp; omega))) | (refine Below.trans ?_ (by assumption)))⟩
end Go.Proofs.Ytoaccicfmfiemaa
