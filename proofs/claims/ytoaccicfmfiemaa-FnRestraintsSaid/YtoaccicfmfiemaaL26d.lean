/- The steps of restraints of layer 26, walked. -/
import Derived.Test.YtoaccicfmfiemaaFl
import Derived.Test.YtoaccicfmfiemaaL26
import Derived.RegionTactic
import Derived.BigRegion
namespace Go.Proofs.Ytoaccicfmfiemaa
open Go.RowKit
set_option linter.unusedVariables false
set_option linter.unusedSimpArgs false
/-- a slice in memory of the call's own -/
def OwnRetD (E : TypeId) (w : World) (n : Nat) (l : List Int) (e : Ending) (w' : World) : Prop :=
  ∃ a1 c1, e = .returned (.slice a1 n c1) ∧ Below w.heap.size w w' ∧ OwnI E w' w.heap.size a1 n c1 l
def stepOk (n : Int) (x : I2) : Bool := if x.a = 0 then inB x.b 0 (n - 1) else if x.a = 1 then inB x.b 0 (n - 1) else if x.a = 2 then x.b == 0 else if x.a = 3 then x.b == 0 else false
def stepR (l : List Int) (x : I2) : Option (List Int) :=
  if x.a = 0 then (if l[x.b.toNat]? = some 0 then some (l.set x.b.toNat 1) else none)
  else if x.a = 1 then (if l[x.b.toNat]? = some 1 then some (l.set x.b.toNat 0) else none)
  else if x.a = 2 then (if (l.any fun y => 0 == y) = true then none else some (List.replicate l.length 2))
  else if allEq 2 l = true then some (List.replicate l.length 1) else none
theorem stepR_len {l l' : List Int} {x : I2} (h : stepR l x = some l') : l'.length = l.length := by
  unfold stepR at h
  repeat' split at h
  all_goals cases h
  all_goals simp
theorem stepR_in {l l' : List Int} {x : I2} (hl : allIn 0 2 l = true) (h : stepR l x = some l') : allIn 0 2 l' = true := by
  have hset : ∀ (i : Nat) (v : Int), 0 ≤ v → v ≤ 2 → allIn 0 2 (l.set i v) = true := by
    intro i v h0 h1
    rw [allIn, List.all_eq_true]
    intro y hy
    rcases List.mem_or_eq_of_mem_set hy with h | h
    · exact List.all_eq_true.1 hl y h
    · rw [h]; simp [inB, h0, h1]
  have hrep : ∀ (m : Nat) (v : Int), 0 ≤ v → v ≤ 2 → allIn 0 2 (List.replicate m v) = true := by
    intro m v h0 h1
    rw [allIn, List.all_eq_true]
    intro y hy
    rw [List.eq_of_mem_replicate hy]; simp [inB, h0, h1]
  unfold stepR at h
  repeat' split at h
  all_goals cases h
  all_goals first | exact hset _ _ (by decide) (by decide) | exact hrep _ _ (by decide) (by decide)
theorem impl_isRestraintStep {n : Nat} {x : I2} {w : World} (hn : n ≤ 1048576) : Calls Try.prog 99 #[.int .i64 (n : Int), .agg #[.int .i64 x.a, .int .i64 x.b]] w fun e w' => e = .returned (.bool (stepOk n x)) ∧ Below w.heap.size w w' := by
  obtain ⟨a, b⟩ := x
  show Calls _ _ #[.int .i64 (n : Int), .agg #[.int .i64 a, .int .i64 b]] w _
  by_cases h0 : a = 0
  · subst h0
    go_enter Try.func99, Try.ntmps99
    go_wp2_with fail
    refine Calls.mono (impl_within) ?_
    rintro e _ ⟨rfl, rfl⟩
    go_wp2
    go_ret
    exact ⟨ret_bool (by simp [stepOk]), by repeat (first | exact Below.refl _ _ | assumption | refine below_allocS ?_ _ | refine below_callS ?_ (by assumption) | (refine Below.alloc ?_ (by first | omega | (simp; done) | (simp; omega)) _) | (refine Below.setCell ?_ (by first | omega | (simp; done) | (simp; omega)) _) | refine Below.drew ?_ | refine below_drewN ?_ _ | (refine below_call ?_ (by assumption) (by first | omega | (simp; done) | (simp; omega))) | (refine Below.trans ?_ (by assumption)))⟩
  · by_cases h1 : a = 1
    · subst h1
      go_enter Try.func99, Try.ntmps99
      go_wp2_with fail
      refine Calls.mono (impl_within) ?_
      rintro e _ ⟨rfl, rfl⟩
      go_wp2
      go_ret
      exact ⟨ret_bool (by simp [stepOk]), by repeat (first | exact Below.refl _ _ | assumption | refine below_allocS ?_ _ | refine below_callS ?_ (by assumption) | (refine Below.alloc ?_ (by first | omega | (simp; done) | (simp; omega)) _) | (refine Below.setCell ?_ (by first | omega | (simp; done) | (simp; omega)) _) | refine Below.drew ?_ | refine below_drewN ?_ _ | (refine below_call ?_ (by assumption) (by first | omega | (simp; done) | (simp; omega))) | (refine Below.trans ?_ (by assumption)))⟩
    · by_cases h2 : a = 2
      · subst h2
        go_enter Try.func99, Try.ntmps99
        go_wp2
        go_ret
        exact ⟨ret_bool (by simp [stepOk]), by repeat (first | exact Below.refl _ _ | assumption | refine below_allocS ?_ _ | refine below_callS ?_ (by assumption) | (refine Below.alloc ?_ (by first | omega | (simp; done) | (simp; omega)) _) | (refine Below.setCell ?_ (by first | omega | (simp; done) | (simp; omega)) _) | refine Below.drew ?_ | refine below_drewN ?_ _ | (refine below_call ?_ (by assumption) (by first | omega | (simp; done) | (simp; omega))) | (refine Below.trans ?_ (by assumption)))⟩
      · by_cases h3 : a = 3
        · subst h3
          go_enter Try.func99, Try.ntmps99
          go_wp2
          go_ret
          exact ⟨ret_bool (by simp [stepOk]), by repeat (first | exact Below.refl _ _ | assumption | refine below_allocS ?_ _ | refine below_callS ?_ (by assumption) | (refine Below.alloc ?_ (by first | omega | (simp; done) | (simp; omega)) _) | (refine Below.setCell ?_ (by first | omega | (simp; done) | (simp; omega)) _) | refine Below.drew ?_ | refine below_drewN ?_ _ | (refine below_call ?_ (by assumption) (by first | omega | (simp; done) | (simp; omega))) | (refine Below.trans ?_ (by assumption)))⟩
        · have e0 : (a == 0) = false := by simp [h0]
          have e1 : (a == 1) = false := by simp [h1]
          have e2 : (a == 2) = false := by simp [h2]
          have e3 : (a == 3) = false := by simp [h3]
          have Hf := Lib.hid (show stepOk (n : Int) ⟨a, b⟩ = false by simp [stepOk, h0, h1, h2, h3])
          clear h0 h1 h2 h3
          go_enter Try.func99, Try.ntmps99
          go_wp2
          go_ret
          exact ⟨ret_bool Hf.out.symm, by repeat (first | exact Below.refl _ _ | assumption | refine below_allocS ?_ _ | refine below_callS ?_ (by assumption) | (refine Below.alloc ?_ (by first | omega | (simp; done) | (simp; omega)) _) | (refine Below.setCell ?_ (by first | omega | (simp; done) | (simp; omega)) _) | refine Below.drew ?_ | refine below_drewN ?_ _ | (refine below_call ?_ (by assumption) (by first | omega | (simp; done) | (simp; omega))) | (refine Below.trans ?_ (by assumption)))⟩
set_option maxHeartbeats 1000000 in
theorem spec_l26Step {n : Nat} {x : I2} {w : World} (hn : n ≤ 1048576) : Calls Try.prog 95 #[.int .i64 (n : Int), .agg #[.int .i64 x.a, .int .i64 x.b]] w fun e w' => e = .returned (.bool (stepOk n x)) ∧ Below w.heap.size w w' := by
  obtain ⟨a, b⟩ := x
  show Calls _ _ #[.int .i64 (n : Int), .agg #[.int .i64 a, .int .i64 b]] w _
  by_cases h0 : a = 0
  · subst h0
    go_enter Try.func95, Try.ntmps95
    go_wp2_with fail
    refine Calls.mono (spec_l01In) ?_
    rintro e _ ⟨rfl, rfl⟩
    go_wp2
    go_ret
    exact ⟨ret_bool (by simp [stepOk]), by repeat (first | exact Below.refl _ _ | assumption | refine below_allocS ?_ _ | refine below_callS ?_ (by assumption) | (refine Below.alloc ?_ (by first | omega | (simp; done) | (simp; omega)) _) | (refine Below.setCell ?_ (by first | omega | (simp; done) | (simp; omega)) _) | refine Below.drew ?_ | refine below_drewN ?_ _ | (refine below_call ?_ (by assumption) (by first | omega | (simp; done) | (simp; omega))) | (refine Below.trans ?_ (by assumption)))⟩
  · by_cases h1 : a = 1
    · subst h1
      go_enter Try.func95, Try.ntmps95
      go_wp2_with fail
      refine Calls.mono (spec_l01In) ?_
      rintro e _ ⟨rfl, rfl⟩
      go_wp2
      go_ret
      exact ⟨ret_bool (by simp [stepOk]), by repeat (first | exact Below.refl _ _ | assumption | refine below_allocS ?_ _ | refine below_callS ?_ (by assumption) | (refine Below.alloc ?_ (by first | omega | (simp; done) | (simp; omega)) _) | (refine Below.setCell ?_ (by first | omega | (simp; done) | (simp; omega)) _) | refine Below.drew ?_ | refine below_drewN ?_ _ | (refine below_call ?_ (by assumption) (by first | omega | (simp; done) | (simp; omega))) | (refine Below.trans ?_ (by assumption)))⟩
    · by_cases h2 : a = 2
      · subst h2
        go_enter Try.func95, Try.ntmps95
        go_wp2
        go_ret
        exact ⟨ret_bool (by simp [stepOk]), by repeat (first | exact Below.refl _ _ | assumption | refine below_allocS ?_ _ | refine below_callS ?_ (by assumption) | (refine Below.alloc ?_ (by first | omega | (simp; done) | (simp; omega)) _) | (refine Below.setCell ?_ (by first | omega | (simp; done) | (simp; omega)) _) | refine Below.drew ?_ | refine below_drewN ?_ _ | (refine below_call ?_ (by assumption) (by first | omega | (simp; done) | (simp; omega))) | (refine Below.trans ?_ (by assumption)))⟩
      · by_cases h3 : a = 3
        · subst h3
          go_enter Try.func95, Try.ntmps95
          go_wp2
          go_ret
          exact ⟨ret_bool (by simp [stepOk]), by repeat (first | exact Below.refl _ _ | assumption | refine below_allocS ?_ _ | refine below_callS ?_ (by assumption) | (refine Below.alloc ?_ (by first | omega | (simp; done) | (simp; omega)) _) | (refine Below.setCell ?_ (by first | omega | (simp; done) | (simp; omega)) _) | refine Below.drew ?_ | refine below_drewN ?_ _ | (refine below_call ?_ (by assumption) (by first | omega | (simp; done) | (simp; omega))) | (refine Below.trans ?_ (by assumption)))⟩
        · have e0 : (a == 0) = false := by simp [h0]
          have e1 : (a == 1) = false := by simp [h1]
          have e2 : (a == 2) = false := by simp [h2]
          have e3 : (a == 3) = false := by simp [h3]
          have Hf := Lib.hid (show stepOk (n : Int) ⟨a, b⟩ = false by simp [stepOk, h0, h1, h2, h3])
          clear h0 h1 h2 h3
          go_enter Try.func95, Try.ntmps95
          go_wp2
          go_ret
          exact ⟨ret_bool Hf.out.symm, by repeat (first | exact Below.refl _ _ | assumption | refine below_allocS ?_ _ | refine below_callS ?_ (by assumption) | (refine Below.alloc ?_ (by first | omega | (simp; done) | (simp; omega)) _) | (refine Below.setCell ?_ (by first | omega | (simp; done) | (simp; omega)) _) | refine Below.drew ?_ | refine below_drewN ?_ _ | (refine below_call ?_ (by assumption) (by first | omega | (simp; done) | (simp; omega))) | (refine Below.trans ?_ (by assumption)))⟩
set_option maxHeartbeats 1000000 in
theorem spec_l01Own {a : Option Addr} {n c : Nat} {l : List Int} {w : World} (hI : Ints w a n c l) (hn : n ≤ 1048576) :
    Calls Try.prog 102 #[.slice a n c] w (OwnRetD 2 w n l) := by
  have HI := Lib.hid hI
  clear hI
  go_enter Try.func102, Try.ntmps102
  go_wp2_with (at_builtin; refine appendL_i64 rfl _ _ 32 2 rfl Try.underlying32 Try.infoi64 w.heap.size _ _ _ _ (OwnI.empty w (Nat.le_refl _)) rfl _ _ _ _ rfl (HI.out.keep ((Below.refl _ _).alloc (Nat.le_refl _) _)) (by omega) (by omega) (by simp) ?_; intro a1 c1 w1 hown1 hb1 hg1 hnil1)
  have Hown := Lib.hid hown1
  clear hown1
  go_ret
  exact ⟨a1, c1, by simp, by repeat (first | exact Below.refl _ _ | assumption | refine below_allocS ?_ _ | refine below_callS ?_ (by assumption) | (refine Below.alloc ?_ (by first | omega | (simp; done) | (simp; omega)) _) | (refine Below.setCell ?_ (by first | omega | (simp; done) | (simp; omega)) _) | refine Below.drew ?_ | refine below_drewN ?_ _ | (refine below_call ?_ (by assumption) (by first | omega | (simp; done) | (simp; omega))) | (refine Below.trans ?_ (by assumption))), by simpa using Hown.out⟩
set_option maxHeartbeats 1000000 in
theorem spec_l26Fill {a : Option Addr} {n c : Nat} {l : List Int} {z : Int} {w : World} (hI : Ints w a n c l) (hn : n ≤ 1048576) (hz : I64 z) :
    Calls Try.prog 136 #[.slice a n c, .int .i64 z] w (OwnRetD 2 w n (List.replicate n z)) := by
  have HI := Lib.hid hI
  clear hI
  go_enter Try.func136, Try.ntmps136
  go_wp2
  go_loopw [5, 6] (fun s5 s6 wr => ∃ (k : Nat) (a1 : Option Addr) (c1 : Nat), k ≤ n ∧ s5 = .slice a1 k c1 ∧ s6 = .int .i64 k ∧ Below w.heap.size w wr ∧ Hid (OwnI 2 wr w.heap.size a1 k c1 (List.replicate k z))) (fun _ i _ => n - (intOf i).toNat)
  case atStart => exact ⟨0, _, 0, Nat.zero_le _, rfl, rfl, by repeat (first | exact Below.refl _ _ | assumption | refine below_allocS ?_ _ | refine below_callS ?_ (by assumption) | (refine Below.alloc ?_ (by first | omega | (simp; done) | (simp; omega)) _) | (refine Below.setCell ?_ (by first | omega | (simp; done) | (simp; omega)) _) | refine Below.drew ?_ | refine below_drewN ?_ _ | (refine below_call ?_ (by assumption) (by first | omega | (simp; done) | (simp; omega))) | (refine Below.trans ?_ (by assumption))), OwnI.empty w (Nat.le_refl _)⟩
  case round =>
    obtain ⟨k, a1, c1, hk, rfl, rfl, hbl, HO⟩ := hrel
    have hsz := hbl.size
    by_cases hlt : k < n
    · go_wp2_with (at_builtin; refine append1_i64 rfl _ _ 32 2 rfl Try.underlying32 Try.infoi64 w.heap.size _ _ _ _ (HO.out.keep ((Below.refl _ _).alloc (Nat.le_refl _) (.cells #[.int .i64 z] 2))) rfl wr.heap.size z rfl (by simp) hz (by omega) (by simp; omega) ?_; intro a2 c2 w2 hown2 hb2 hg2)
      have Hown2 := Lib.hid hown2
      clear hown2
      go_roundw
      case rel => exact ⟨k + 1, a2, c2, by omega, rfl, by go_num, Below.trans (by repeat (first | exact Below.refl _ _ | assumption | refine below_allocS ?_ _ | refine below_callS ?_ (by assumption) | (refine Below.alloc ?_ (by first | omega | (simp; done) | (simp; omega)) _) | (refine Below.setCell ?_ (by first | omega | (simp; done) | (simp; omega)) _) | refine Below.drew ?_ | refine below_drewN ?_ _ | (refine below_call ?_ (by assumption) (by first | omega | (simp; done) | (simp; omega))) | (refine Below.trans ?_ (by assumption)))) hb2, by rw [List.replicate_succ']; exact Hown2.out⟩
      case measure => simp [intOf]; omega
    · have e : k = n := by omega
      subst e
      go_wp2
      go_ret
      exact ⟨_, _, rfl, hbl, HO.out⟩
/-- what a step did to restraints of one's own -/
def StepDid (E : TypeId) (w : World) (base g n c : Nat) (l : List Int) (x : I2) (e : Ending) (w' : World) : Prop :=
  e = .returned (.bool (stepR l x).isSome) ∧ w.grownBy w' (some g) ∧ ∀ l', stepR l x = some l' → OwnI E w' base (some ⟨g, 0, none⟩) n c l'
theorem StepDid.no {E : TypeId} {w w' : World} {base g n c : Nat} {l : List Int} {x : I2} (h : stepR l x = none) (hg : w.grownBy w' (some g)) : StepDid E w base g n c l x (.returned (.bool false)) w' :=
  ⟨by rw [h]; rfl, hg, fun l' e => by rw [h] at e; cases e⟩
theorem StepDid.yes {E : TypeId} {w w' : World} {base g n c : Nat} {l l' : List Int} {x : I2} (h : stepR l x = some l') (hg : w.grownBy w' (some g)) (ho : OwnI E w' base (some ⟨g, 0, none⟩) n c l') : StepDid E w base g n c l x (.returned (.bool true)) w' :=
  ⟨by rw [h]; rfl, hg, fun l'' e => by rw [h] at e; cases e; exact ho⟩
set_option maxHeartbeats 4000000 in
theorem impl_stepRestraints {g n c base : Nat} {l : List Int} {x : I2} {w : World} (hO : OwnI 2 w base (some ⟨g, 0, none⟩) n c l) (hn : n ≤ 1048576) (hx : stepOk n x = true) :
    Calls Try.prog 101 #[.slice (some ⟨g, 0, none⟩) n c, .agg #[.int .i64 x.a, .int .i64 x.b]] w (StepDid 2 w base g n c l x) := by
  have HO := Lib.hid hO
  have hgl := hO.blk _ rfl
  have hlen := hO.len
  obtain ⟨a, b⟩ := x
  show Calls _ _ #[.slice (some ⟨g, 0, none⟩) n c, .agg #[.int .i64 a, .int .i64 b]] w _
  clear hO
  by_cases h01 : a = 0 ∨ a = 1
  · have hb : 0 ≤ b ∧ b ≤ (n : Int) - 1 := by
      rcases h01 with rfl | rfl <;> simpa [stepOk, inB] using hx
    obtain ⟨q, rfl⟩ := Int.eq_ofNat_of_zero_le hb.1
    have hqn : q < n := by omega
    obtain ⟨y, hy, hyw, hcy⟩ := HO.out.cell hqn
    have hfz := HO.out.free q
    have hq0 : (0 : Int) ≤ (q : Int) := by omega
    have hq1 : (q : Int) < (n : Int) := by omega
    have Hy := Lib.hid hy
    clear hy hx
    rcases h01 with rfl | rfl
    · by_cases hy0 : y = 0
      · subst hy0
        have Hr := Lib.hid (show stepR l ⟨0, (q : Int)⟩ = some (l.set q 1) by simp [stepR, Hy.out])
        go_enter Try.func101, Try.ntmps101
        go_wp2
        go_quiet (fail)
        go_wp2
        go_region
        go_wp2
        go_ret
        exact StepDid.yes Hr.out (by repeat (first | exact grownBy_refl _ _ | assumption | refine grownBy_set ?_ _ _ | refine grownBy_allocT ?_ _ | refine grownBy_drewT ?_ | refine grownBy_drewNT ?_ _ | refine grownBy_belowT ?_ (by assumption))) ((HO.out.keep (by repeat (first | exact Below.refl _ _ | assumption | refine below_allocS ?_ _ | refine below_callS ?_ (by assumption) | (refine Below.alloc ?_ (by first | omega | (simp; done) | (simp; omega)) _) | (refine Below.setCell ?_ (by first | omega | (simp; done) | (simp; omega)) _) | refine Below.drew ?_ | refine below_drewN ?_ _ | (refine below_call ?_ (by assumption) (by first | omega | (simp; done) | (simp; omega))) | (refine Below.trans ?_ (by assumption))))).set q (x := 1) ⟨by decide, by decide⟩)
      · have hq : (y != 0) = true := by simp [hy0]
        have Hr := Lib.hid (show stepR l ⟨0, (q : Int)⟩ = none by simp [stepR, Hy.out, hy0])
        clear hy0
        go_enter Try.func101, Try.ntmps101
        go_wp2
        go_quiet (fail)
        go_wp2
        go_ret
        exact StepDid.no Hr.out (by repeat (first | exact grownBy_refl _ _ | assumption | refine grownBy_set ?_ _ _ | refine grownBy_allocT ?_ _ | refine grownBy_drewT ?_ | refine grownBy_drewNT ?_ _ | refine grownBy_belowT ?_ (by assumption)))
    · by_cases hy0 : y = 1
      · subst hy0
        have Hr := Lib.hid (show stepR l ⟨1, (q : Int)⟩ = some (l.set q 0) by simp [stepR, Hy.out])
        go_enter Try.func101, Try.ntmps101
        go_wp2
        go_quiet (fail)
        go_wp2
        go_region
        go_wp2
        go_ret
        exact StepDid.yes Hr.out (by repeat (first | exact grownBy_refl _ _ | assumption | refine grownBy_set ?_ _ _ | refine grownBy_allocT ?_ _ | refine grownBy_drewT ?_ | refine grownBy_drewNT ?_ _ | refine grownBy_belowT ?_ (by assumption))) ((HO.out.keep (by repeat (first | exact Below.refl _ _ | assumption | refine below_allocS ?_ _ | refine below_callS ?_ (by assumption) | (refine Below.alloc ?_ (by first | omega | (simp; done) | (simp; omega)) _) | (refine Below.setCell ?_ (by first | omega | (simp; done) | (simp; omega)) _) | refine Below.drew ?_ | refine below_drewN ?_ _ | (refine below_call ?_ (by assumption) (by first | omega | (simp; done) | (simp; omega))) | (refine Below.trans ?_ (by assumption))))).set q (x := 0) ⟨by decide, by decide⟩)
      · have hq : (y != 1) = true := by simp [hy0]
        have Hr := Lib.hid (show stepR l ⟨1, (q : Int)⟩ = none by simp [stepR, Hy.out, hy0])
        clear hy0
        go_enter Try.func101, Try.ntmps101
        go_wp2
        go_quiet (fail)
        go_wp2
        go_ret
        exact StepDid.no Hr.out (by repeat (first | exact grownBy_refl _ _ | assumption | refine grownBy_set ?_ _ _ | refine grownBy_allocT ?_ _ | refine grownBy_drewT ?_ | refine grownBy_drewNT ?_ _ | refine grownBy_belowT ?_ (by assumption)))
  · have ha0 : ¬ a = 0 := fun h => h01 (.inl h)
    have ha1 : ¬ a = 1 := fun h => h01 (.inr h)
    by_cases ha2 : a = 2
    · subst ha2
      cases hany : (l.any fun y => 0 == y)
      · have Hr := Lib.hid (show stepR l ⟨2, b⟩ = some (List.replicate l.length 2) by simp [stepR, hany])
        have Hany := Lib.hid hany
        clear hany hx h01 ha0 ha1
        go_enter Try.func101, Try.ntmps101
        go_wp2_with fail
        refine Calls.mono (slices_Contains_i64 (HO.out.ints.keep (by repeat (first | exact Below.refl _ _ | assumption | refine below_allocS ?_ _ | refine below_callS ?_ (by assumption) | (refine Below.alloc ?_ (by first | omega | (simp; done) | (simp; omega)) _) | (refine Below.setCell ?_ (by first | omega | (simp; done) | (simp; omega)) _) | refine Below.drew ?_ | refine below_drewN ?_ _ | (refine below_call ?_ (by assumption) (by first | omega | (simp; done) | (simp; omega))) | (refine Below.trans ?_ (by assumption))))) hn) ?_
        rintro e _ ⟨rfl, rfl⟩
        rw [Hany.out]
        go_wp2
        go_loopw [6, 41] (fun _ s41 wr => ∃ k : Nat, k ≤ n ∧ s41 = .int .i64 k ∧ w.grownBy wr (some g) ∧ w.heap.size ≤ wr.heap.size ∧ Hid (OwnI 2 wr base (some ⟨g, 0, none⟩) n c (((List.range n).map fun _ => (2 : Int)).take k ++ l.drop k))) (fun _ i _ => n - (intOf i).toNat)
        case atStart => exact ⟨0, Nat.zero_le _, rfl, by repeat (first | exact grownBy_refl _ _ | assumption | refine grownBy_set ?_ _ _ | refine grownBy_allocT ?_ _ | refine grownBy_drewT ?_ | refine grownBy_drewNT ?_ _ | refine grownBy_belowT ?_ (by assumption)), by first | omega | (simp; done) | (simp; omega), by show OwnI _ _ _ _ _ _ _; simpa using HO.out.keep (by repeat (first | exact Below.refl _ _ | assumption | refine below_allocS ?_ _ | refine below_callS ?_ (by assumption) | (refine Below.alloc ?_ (by first | omega | (simp; done) | (simp; omega)) _) | (refine Below.setCell ?_ (by first | omega | (simp; done) | (simp; omega)) _) | refine Below.drew ?_ | refine below_drewN ?_ _ | (refine below_call ?_ (by assumption) (by first | omega | (simp; done) | (simp; omega))) | (refine Below.trans ?_ (by assumption))))⟩
        case round =>
          obtain ⟨k, hk, rfl, hgr, hsz, hO⟩ := hrel
          by_cases hlt : k < n
          · obtain ⟨y, _, _, hc0⟩ := hO.out.cell hlt
            have hfz := hO.out.free k
            go_wp2
            go_roundw
            case rel =>
              refine ⟨k + 1, by omega, by go_num, by repeat (first | exact grownBy_refl _ _ | assumption | refine grownBy_set ?_ _ _ | refine grownBy_allocT ?_ _ | refine grownBy_drewT ?_ | refine grownBy_drewNT ?_ _ | refine grownBy_belowT ?_ (by assumption)), by simp; omega, ?_⟩
              have := hO.out.set k (x := 2) ⟨by decide, by decide⟩
              rw [show (2 : Int) = (fun _ : Nat => (2 : Int)) k from rfl, mix_set hlt hlen] at this
              exact this
            case measure => simp [intOf]; omega
          · go_wp2
            go_ret
            have e : k = n := by omega
            have h1 := hO.out
            rw [e, List.drop_of_length_le (by omega), List.append_nil, List.take_of_length_le (by simp), List.map_const', List.length_range] at h1
            exact StepDid.yes (by rw [Hr.out, hlen]) hgr h1
      · have Hr := Lib.hid (show stepR l ⟨2, b⟩ = none by simp [stepR, hany])
        have Hany := Lib.hid hany
        clear hany hx h01 ha0 ha1
        go_enter Try.func101, Try.ntmps101
        go_wp2_with fail
        refine Calls.mono (slices_Contains_i64 (HO.out.ints.keep (by repeat (first | exact Below.refl _ _ | assumption | refine below_allocS ?_ _ | refine below_callS ?_ (by assumption) | (refine Below.alloc ?_ (by first | omega | (simp; done) | (simp; omega)) _) | (refine Below.setCell ?_ (by first | omega | (simp; done) | (simp; omega)) _) | refine Below.drew ?_ | refine below_drewN ?_ _ | (refine below_call ?_ (by assumption) (by first | omega | (simp; done) | (simp; omega))) | (refine Below.trans ?_ (by assumption))))) hn) ?_
        rintro e _ ⟨rfl, rfl⟩
        rw [Hany.out]
        go_wp2
        go_ret
        exact StepDid.no Hr.out (by repeat (first | exact grownBy_refl _ _ | assumption | refine grownBy_set ?_ _ _ | refine grownBy_allocT ?_ _ | refine grownBy_drewT ?_ | refine grownBy_drewNT ?_ _ | refine grownBy_belowT ?_ (by assumption)))
    · have e0 : (a == 0) = false := by simp [ha0]
      have e1 : (a == 1) = false := by simp [ha1]
      have e2 : (a == 2) = false := by simp [ha2]
      cases hall : allEq 2 l
      · have Hr := Lib.hid (show stepR l ⟨a, b⟩ = none by simp [stepR, ha0, ha1, ha2, hall])
        have Hall := Lib.hid hall
        clear hall hx h01 ha0 ha1 ha2
        go_enter Try.func101, Try.ntmps101
        go_wp2_with fail
        refine Calls.mono (impl_allLocked (HO.out.ints.keep (by repeat (first | exact Below.refl _ _ | assumption | refine below_allocS ?_ _ | refine below_callS ?_ (by assumption) | (refine Below.alloc ?_ (by first | omega | (simp; done) | (simp; omega)) _) | (refine Below.setCell ?_ (by first | omega | (simp; done) | (simp; omega)) _) | refine Below.drew ?_ | refine below_drewN ?_ _ | (refine below_call ?_ (by assumption) (by first | omega | (simp; done) | (simp; omega))) | (refine Below.trans ?_ (by assumption))))) hn) ?_
        rintro e w1 ⟨rfl, hb_w1⟩
        obtain ⟨hc_w1, hf_w1⟩ := bcell hb_w1
        have hs_w1 := hb_w1.size
        rw [Hall.out]
        go_wp2
        go_ret
        exact StepDid.no Hr.out (by repeat (first | exact grownBy_refl _ _ | assumption | refine grownBy_set ?_ _ _ | refine grownBy_allocT ?_ _ | refine grownBy_drewT ?_ | refine grownBy_drewNT ?_ _ | refine grownBy_belowT ?_ (by assumption)))
      · have Hr := Lib.hid (show stepR l ⟨a, b⟩ = some (List.replicate l.length 1) by simp [stepR, ha0, ha1, ha2, hall])
        have Hall := Lib.hid hall
        clear hall hx h01 ha0 ha1 ha2
        go_enter Try.func101, Try.ntmps101
        go_wp2_with fail
        refine Calls.mono (impl_allLocked (HO.out.ints.keep (by repeat (first | exact Below.refl _ _ | assumption | refine below_allocS ?_ _ | refine below_callS ?_ (by assumption) | (refine Below.alloc ?_ (by first | omega | (simp; done) | (simp; omega)) _) | (refine Below.setCell ?_ (by first | omega | (simp; done) | (simp; omega)) _) | refine Below.drew ?_ | refine below_drewN ?_ _ | (refine below_call ?_ (by assumption) (by first | omega | (simp; done) | (simp; omega))) | (refine Below.trans ?_ (by assumption))))) hn) ?_
        rintro e w1 ⟨rfl, hb_w1⟩
        obtain ⟨hc_w1, hf_w1⟩ := bcell hb_w1
        have hs_w1 := hb_w1.size
        simp at hs_w1
        rw [Hall.out]
        go_wp2
        go_loopw [6, 41] (fun _ s41 wr => ∃ k : Nat, k ≤ n ∧ s41 = .int .i64 k ∧ w.grownBy wr (some g) ∧ w.heap.size ≤ wr.heap.size ∧ Hid (OwnI 2 wr base (some ⟨g, 0, none⟩) n c (((List.range n).map fun _ => (1 : Int)).take k ++ l.drop k))) (fun _ i _ => n - (intOf i).toNat)
        case atStart => exact ⟨0, Nat.zero_le _, rfl, by repeat (first | exact grownBy_refl _ _ | assumption | refine grownBy_set ?_ _ _ | refine grownBy_allocT ?_ _ | refine grownBy_drewT ?_ | refine grownBy_drewNT ?_ _ | refine grownBy_belowT ?_ (by assumption)), by first | omega | (simp; done) | (simp; omega), by show OwnI _ _ _ _ _ _ _; simpa using HO.out.keep (by repeat (first | exact Below.refl _ _ | assumption | refine below_allocS ?_ _ | refine below_callS ?_ (by assumption) | (refine Below.alloc ?_ (by first | omega | (simp; done) | (simp; omega)) _) | (refine Below.setCell ?_ (by first | omega | (simp; done) | (simp; omega)) _) | refine Below.drew ?_ | refine below_drewN ?_ _ | (refine below_call ?_ (by assumption) (by first | omega | (simp; done) | (simp; omega))) | (refine Below.trans ?_ (by assumption))))⟩
        case round =>
          obtain ⟨k, hk, rfl, hgr, hsz, hO⟩ := hrel
          by_cases hlt : k < n
          · obtain ⟨y, _, _, hc0⟩ := hO.out.cell hlt
            have hfz := hO.out.free k
            go_wp2
            go_roundw
            case rel =>
              refine ⟨k + 1, by omega, by go_num, by repeat (first | exact grownBy_refl _ _ | assumption | refine grownBy_set ?_ _ _ | refine grownBy_allocT ?_ _ | refine grownBy_drewT ?_ | refine grownBy_drewNT ?_ _ | refine grownBy_belowT ?_ (by assumption)), by simp; omega, ?_⟩
              have := hO.out.set k (x := 1) ⟨by decide, by decide⟩
              rw [show (1 : Int) = (fun _ : Nat => (1 : Int)) k from rfl, mix_set hlt hlen] at this
              exact this
            case measure => simp [intOf]; omega
          · go_wp2
            go_ret
            have e : k = n := by omega
            have h1 := hO.out
            rw [e, List.drop_of_length_le (by omega), List.append_nil, List.take_of_length_le (by simp), List.map_const', List.length_range] at h1
            exact StepDid.yes (by rw [Hr.out, hlen]) hgr h1
/-- what a step of the reference returns -/
def ApplyDid (E : TypeId) (w : World) (n : Nat) (l : List Int) (x : I2) (e : Ending) (w' : World) : Prop :=
  ∃ n' a' c', e = .returned (.tuple #[.slice a' n' c', .bool (stepR l x).isSome]) ∧ Below w.heap.size w w' ∧ ∀ l', stepR l x = some l' → n' = n ∧ OwnI E w' w.heap.size a' n c' l'
theorem ApplyDid.mk {E : TypeId} {w w' : World} {n : Nat} {l : List Int} {x : I2} {a' : Option Addr} {c' : Nat} {b : Bool} (hb : b = (stepR l x).isSome) (hw : Below w.heap.size w w') (h : ∀ l', stepR l x = some l' → OwnI E w' w.heap.size a' n c' l') : ApplyDid E w n l x (.returned (.tuple #[.slice a' n c', .bool b])) w' :=
  ⟨n, a', c', by rw [hb], hw, fun l' e => ⟨rfl, h l' e⟩⟩
theorem least_pos {x : Int} {l : List Int} (h : allIn 0 2 (x :: l) = true) : decide (1 ≤ minL x l) = !((x :: l).any fun y => 0 == y) := by
  have hr : ∀ y ∈ x :: l, 0 ≤ y ∧ y ≤ 2 := fun y hy => by
    have := List.all_eq_true.1 h y hy
    simpa [inB] using this
  rw [Bool.eq_iff_iff, decide_eq_true_iff, Bool.not_eq_true', List.any_eq_false]
  constructor
  · intro hm y hy
    have h2 : minL x l ≤ y := by
      rcases List.mem_cons.1 hy with rfl | h'
      · exact minL_le _ _
      · exact minL_mem_le h'
    simp; omega
  · intro ha
    have hne : ∀ y ∈ x :: l, 1 ≤ y := fun y hy => by
      have := ha y hy
      have := hr y hy
      simp at *; omega
    exact minL_ge (hne x (by simp)) fun y hy => hne y (by simp [hy])
theorem least_two {x : Int} {l : List Int} (h : allIn 0 2 (x :: l) = true) : (minL x l == 2) = allEq 2 (x :: l) := by
  have hr : ∀ y ∈ x :: l, 0 ≤ y ∧ y ≤ 2 := fun y hy => by
    have := List.all_eq_true.1 h y hy
    simpa [inB] using this
  rw [Bool.eq_iff_iff, beq_iff_eq, allEq, List.all_eq_true]
  constructor
  · intro hm y hy
    have h1 := hr y hy
    have h2 : minL x l ≤ y := by
      rcases List.mem_cons.1 hy with rfl | h'
      · exact minL_le _ _
      · exact minL_mem_le h'
    simp; omega
  · intro ha
    have hx : x = 2 := by simpa using ha x (by simp)
    have h1 : 2 ≤ minL x l := minL_ge (by omega) fun y hy => Int.le_of_eq (Eq.symm (by simpa using ha y (by simp [hy])))
    have := minL_le x l
    omega
set_option maxHeartbeats 4000000 in
theorem spec_l26Apply {ad : Option Addr} {n c : Nat} {l : List Int} {x : I2} {w : World} (hI : Ints w ad n c l) (hn : n ≤ 1048576) (hn1 : 0 < n) (hin : allIn 0 2 l = true) (hx : stepOk n x = true) :
    Calls Try.prog 96 #[.slice ad n c, .agg #[.int .i64 x.a, .int .i64 x.b]] w (ApplyDid 2 w n l x) := by
  have HI := Lib.hid hI
  have hlen := hI.len
  obtain ⟨bs, off, hbs, hbl⟩ : ∃ b off, ad = some ⟨b, off, none⟩ ∧ b < w.heap.size := by
    obtain ⟨b, off, _, h1, h2, _⟩ := hI.at hn1
    exact ⟨b, off, h1, h2⟩
  obtain ⟨a, b⟩ := x
  show Calls _ _ #[.slice ad n c, .agg #[.int .i64 a, .int .i64 b]] w _
  clear hI
  by_cases h01 : a = 0 ∨ a = 1
  · have hb : 0 ≤ b ∧ b ≤ (n : Int) - 1 := by
      rcases h01 with rfl | rfl <;> simpa [stepOk, inB] using hx
    obtain ⟨q, rfl⟩ := Int.eq_ofNat_of_zero_le hb.1
    have hqn : q < n := by omega
    obtain ⟨_, _, y, he, _, hy, hcy, hyw⟩ := HI.out.at hqn
    rw [hbs] at he
    simp only [Option.some.injEq, Addr.mk.injEq, and_true] at he
    obtain ⟨rfl, rfl⟩ := he
    subst hbs
    have hbs := hbl
    have hq0 : (0 : Int) ≤ (q : Int) := by omega
    have hq1 : (q : Int) < (n : Int) := by omega
    have Hy := Lib.hid hy
    clear hy hx
    rcases h01 with rfl | rfl
    · have Hq := Lib.hid (show (stepR l ⟨0, (q : Int)⟩).isSome = (y == 0) by
        by_cases hy0 : y = 0 <;> simp [stepR, Hy.out, hy0])
      have Hr := Lib.hid (show ∀ l', stepR l ⟨0, (q : Int)⟩ = some l' → l' = l.set q 1 by
        intro l' h
        by_cases hy0 : y = 0
        · simp [stepR, Hy.out, hy0] at h; exact h.symm
        · simp [stepR, Hy.out, hy0] at h)
      go_enter Try.func96, Try.ntmps96
      go_wp2_with fail
      refine Calls.mono (spec_l01Own (HI.out.keep (by repeat (first | exact Below.refl _ _ | assumption | refine below_allocS ?_ _ | refine below_callS ?_ (by assumption) | (refine Below.alloc ?_ (by first | omega | (simp; done) | (simp; omega)) _) | (refine Below.setCell ?_ (by first | omega | (simp; done) | (simp; omega)) _) | refine Below.drew ?_ | refine below_drewN ?_ _ | (refine below_call ?_ (by assumption) (by first | omega | (simp; done) | (simp; omega))) | (refine Below.trans ?_ (by assumption))))) hn) ?_
      rintro e w1 ⟨a1, c1, rfl, hb1, ho1⟩
      obtain ⟨hc1, hf1⟩ := bcell hb1
      have hs1 := hb1.size
      simp at hs1
      have hz1 : w.heap.size < w1.heap.size := by omega
      obtain ⟨g1, rfl⟩ := ho1.shape hn1
      have hg1 := ho1.blk _ rfl
      simp at hg1
      have hne : bs ≠ g1 := by omega
      obtain ⟨_, _, _, hcq⟩ := ho1.cell hqn
      have hfq := ho1.free q
      have HO1 := Lib.hid ho1
      have hcs : w1.cell? ⟨bs, off + q, none⟩ = some (.int .i64 y) := (hc1 bs (off + q) (by simp; omega)).trans ((Below.cell (B := w.heap.size) (w := w) ((Below.refl _ _).alloc (Nat.le_refl _) _) (p := ⟨bs, off + q, none⟩) hbs).trans hcy)
      clear ho1
      go_wp2
      go_quiet (fail)
      go_wp2
      go_ret2
      exact ApplyDid.mk Hq.out.symm (by repeat (first | exact Below.refl _ _ | assumption | refine below_allocS ?_ _ | refine below_callS ?_ (by assumption) | (refine Below.alloc ?_ (by first | omega | (simp; done) | (simp; omega)) _) | (refine Below.setCell ?_ (by first | omega | (simp; done) | (simp; omega)) _) | refine Below.drew ?_ | refine below_drewN ?_ _ | (refine below_call ?_ (by assumption) (by first | omega | (simp; done) | (simp; omega))) | (refine Below.trans ?_ (by assumption)))) (fun l' h => by rw [Hr.out l' h]; exact ((HO1.out.le (by simp)).set q (x := 1) ⟨by decide, by decide⟩).keep (by repeat (first | exact Below.refl _ _ | assumption | refine below_allocS ?_ _ | refine below_callS ?_ (by assumption) | (refine Below.alloc ?_ (by first | omega | (simp; done) | (simp; omega)) _) | (refine Below.setCell ?_ (by first | omega | (simp; done) | (simp; omega)) _) | refine Below.drew ?_ | refine below_drewN ?_ _ | (refine below_call ?_ (by assumption) (by first | omega | (simp; done) | (simp; omega))) | (refine Below.trans ?_ (by assumption)))))
    · have Hq := Lib.hid (show (stepR l ⟨1, (q : Int)⟩).isSome = (y == 1) by
        by_cases hy0 : y = 1 <;> simp [stepR, Hy.out, hy0])
      have Hr := Lib.hid (show ∀ l', stepR l ⟨1, (q : Int)⟩ = some l' → l' = l.set q 0 by
        intro l' h
        by_cases hy0 : y = 1
        · simp [stepR, Hy.out, hy0] at h; exact h.symm
        · simp [stepR, Hy.out, hy0] at h)
      go_enter Try.func96, Try.ntmps96
      go_wp2_with fail
      refine Calls.mono (spec_l01Own (HI.out.keep (by repeat (first | exact Below.refl _ _ | assumption | refine below_allocS ?_ _ | refine below_callS ?_ (by assumption) | (refine Below.alloc ?_ (by first | omega | (simp; done) | (simp; omega)) _) | (refine Below.setCell ?_ (by first | omega | (simp; done) | (simp; omega)) _) | refine Below.drew ?_ | refine below_drewN ?_ _ | (refine below_call ?_ (by assumption) (by first | omega | (simp; done) | (simp; omega))) | (refine Below.trans ?_ (by assumption))))) hn) ?_
      rintro e w1 ⟨a1, c1, rfl, hb1, ho1⟩
      obtain ⟨hc1, hf1⟩ := bcell hb1
      have hs1 := hb1.size
      simp at hs1
      have hz1 : w.heap.size < w1.heap.size := by omega
      obtain ⟨g1, rfl⟩ := ho1.shape hn1
      have hg1 := ho1.blk _ rfl
      simp at hg1
      have hne : bs ≠ g1 := by omega
      obtain ⟨_, _, _, hcq⟩ := ho1.cell hqn
      have hfq := ho1.free q
      have HO1 := Lib.hid ho1
      have hcs : w1.cell? ⟨bs, off + q, none⟩ = some (.int .i64 y) := (hc1 bs (off + q) (by simp; omega)).trans ((Below.cell (B := w.heap.size) (w := w) ((Below.refl _ _).alloc (Nat.le_refl _) _) (p := ⟨bs, off + q, none⟩) hbs).trans hcy)
      clear ho1
      go_wp2
      go_quiet (fail)
      go_wp2
      go_ret2
      exact ApplyDid.mk Hq.out.symm (by repeat (first | exact Below.refl _ _ | assumption | refine below_allocS ?_ _ | refine below_callS ?_ (by assumption) | (refine Below.alloc ?_ (by first | omega | (simp; done) | (simp; omega)) _) | (refine Below.setCell ?_ (by first | omega | (simp; done) | (simp; omega)) _) | refine Below.drew ?_ | refine below_drewN ?_ _ | (refine below_call ?_ (by assumption) (by first | omega | (simp; done) | (simp; omega))) | (refine Below.trans ?_ (by assumption)))) (fun l' h => by rw [Hr.out l' h]; exact ((HO1.out.le (by simp)).set q (x := 0) ⟨by decide, by decide⟩).keep (by repeat (first | exact Below.refl _ _ | assumption | refine below_allocS ?_ _ | refine below_callS ?_ (by assumption) | (refine Below.alloc ?_ (by first | omega | (simp; done) | (simp; omega)) _) | (refine Below.setCell ?_ (by first | omega | (simp; done) | (simp; omega)) _) | refine Below.drew ?_ | refine below_drewN ?_ _ | (refine below_call ?_ (by assumption) (by first | omega | (simp; done) | (simp; omega))) | (refine Below.trans ?_ (by assumption)))))
  · have ha0 : ¬ a = 0 := fun h => h01 (.inl h)
    have ha1 : ¬ a = 1 := fun h => h01 (.inr h)
    obtain ⟨y, r, rfl⟩ : ∃ y r, l = y :: r := by
      cases l with
      | nil => simp at hlen; omega
      | cons y r => exact ⟨y, r, rfl⟩
    clear hbs hbl
    have hlp := least_pos hin
    have hlt := least_two hin
    by_cases ha2 : a = 2
    · subst ha2
      have Hq := Lib.hid (show (stepR (y :: r) ⟨2, b⟩).isSome = decide (1 ≤ minL y r) by rw [hlp]; cases h : ((y :: r).any fun z => 0 == z) <;> simp only [stepR] <;> simp [h])
      have Hr := Lib.hid (show ∀ l', stepR (y :: r) ⟨2, b⟩ = some l' → l' = List.replicate n 2 by
        intro l' h
        rw [← hlen]
        unfold stepR at h
        repeat' split at h
        all_goals first | (exfalso; simp_all; done) | (cases h; rfl) | cases h)
      clear hx h01 ha0 ha1 hin hlt hlp
      generalize hm : minL y r = m at *
      have Hm := Lib.hid hm
      clear hm
      go_enter Try.func96, Try.ntmps96
      go_wp2_with fail
      refine Calls.mono (spec_l01Own (HI.out.keep (by repeat (first | exact Below.refl _ _ | assumption | refine below_allocS ?_ _ | refine below_callS ?_ (by assumption) | (refine Below.alloc ?_ (by first | omega | (simp; done) | (simp; omega)) _) | (refine Below.setCell ?_ (by first | omega | (simp; done) | (simp; omega)) _) | refine Below.drew ?_ | refine below_drewN ?_ _ | (refine below_call ?_ (by assumption) (by first | omega | (simp; done) | (simp; omega))) | (refine Below.trans ?_ (by assumption))))) hn) ?_
      rintro e w1 ⟨a1, c1, rfl, hb1, ho1⟩
      obtain ⟨hc1, hf1⟩ := bcell hb1
      have hs1 := hb1.size
      simp at hs1
      have hz1 : w.heap.size < w1.heap.size := by omega
      clear ho1
      go_wp2_with fail
      refine Calls.mono (spec_l26Fill (HI.out.keep (by repeat (first | exact Below.refl _ _ | assumption | refine below_allocS ?_ _ | refine below_callS ?_ (by assumption) | (refine Below.alloc ?_ (by first | omega | (simp; done) | (simp; omega)) _) | (refine Below.setCell ?_ (by first | omega | (simp; done) | (simp; omega)) _) | refine Below.drew ?_ | refine below_drewN ?_ _ | (refine below_call ?_ (by assumption) (by first | omega | (simp; done) | (simp; omega))) | (refine Below.trans ?_ (by assumption))))) hn ⟨by decide, by decide⟩) ?_
      rintro e w2 ⟨a2, c2, rfl, hb2, ho2⟩
      have hs2 := hb2.size
      have HO2 := Lib.hid ho2
      clear ho2
      go_wp2_with fail
      refine Calls.mono (spec_l26Least (HI.out.keep (by repeat (first | exact Below.refl _ _ | assumption | refine below_allocS ?_ _ | refine below_callS ?_ (by assumption) | (refine Below.alloc ?_ (by first | omega | (simp; done) | (simp; omega)) _) | (refine Below.setCell ?_ (by first | omega | (simp; done) | (simp; omega)) _) | refine Below.drew ?_ | refine below_drewN ?_ _ | (refine below_call ?_ (by assumption) (by first | omega | (simp; done) | (simp; omega))) | (refine Below.trans ?_ (by assumption))))) hn) ?_
      rintro e _ ⟨rfl, rfl⟩
      rw [Hm.out]
      go_wp2
      go_ret2
      exact ApplyDid.mk Hq.out.symm (by repeat (first | exact Below.refl _ _ | assumption | refine below_allocS ?_ _ | refine below_callS ?_ (by assumption) | (refine Below.alloc ?_ (by first | omega | (simp; done) | (simp; omega)) _) | (refine Below.setCell ?_ (by first | omega | (simp; done) | (simp; omega)) _) | refine Below.drew ?_ | refine below_drewN ?_ _ | (refine below_call ?_ (by assumption) (by first | omega | (simp; done) | (simp; omega))) | (refine Below.trans ?_ (by assumption)))) (fun l' h => by rw [Hr.out l' h]; exact (HO2.out.le (by omega)))
    · have e0 : (a == 0) = false := by simp [ha0]
      have e1 : (a == 1) = false := by simp [ha1]
      have e2 : (a == 2) = false := by simp [ha2]
      have Hq := Lib.hid (show (stepR (y :: r) ⟨a, b⟩).isSome = (minL y r == 2) by rw [hlt]; cases h : allEq 2 (y :: r) <;> simp only [stepR] <;> simp [ha0, ha1, ha2, h])
      have Hr := Lib.hid (show ∀ l', stepR (y :: r) ⟨a, b⟩ = some l' → l' = List.replicate n 1 by
        intro l' h
        rw [← hlen]
        unfold stepR at h
        repeat' split at h
        all_goals first | (exfalso; simp_all; done) | (cases h; rfl) | cases h)
      clear hx h01 ha0 ha1 ha2 hin hlp hlt
      generalize hm : minL y r = m at *
      have Hm := Lib.hid hm
      clear hm
      go_enter Try.func96, Try.ntmps96
      go_wp2_with fail
      refine Calls.mono (spec_l01Own (HI.out.keep (by repeat (first | exact Below.refl _ _ | assumption | refine below_allocS ?_ _ | refine below_callS ?_ (by assumption) | (refine Below.alloc ?_ (by first | omega | (simp; done) | (simp; omega)) _) | (refine Below.setCell ?_ (by first | omega | (simp; done) | (simp; omega)) _) | refine Below.drew ?_ | refine below_drewN ?_ _ | (refine below_call ?_ (by assumption) (by first | omega | (simp; done) | (simp; omega))) | (refine Below.trans ?_ (by assumption))))) hn) ?_
      rintro e w1 ⟨a1, c1, rfl, hb1, ho1⟩
      obtain ⟨hc1, hf1⟩ := bcell hb1
      have hs1 := hb1.size
      simp at hs1
      have hz1 : w.heap.size < w1.heap.size := by omega
      clear ho1
      go_wp2_with fail
      refine Calls.mono (spec_l26Fill (HI.out.keep (by repeat (first | exact Below.refl _ _ | assumption | refine below_allocS ?_ _ | refine below_callS ?_ (by assumption) | (refine Below.alloc ?_ (by first | omega | (simp; done) | (simp; omega)) _) | (refine Below.setCell ?_ (by first | omega | (simp; done) | (simp; omega)) _) | refine Below.drew ?_ | refine below_drewN ?_ _ | (refine below_call ?_ (by assumption) (by first | omega | (simp; done) | (simp; omega))) | (refine Below.trans ?_ (by assumption))))) hn ⟨by decide, by decide⟩) ?_
      rintro e w2 ⟨a2, c2, rfl, hb2, ho2⟩
      have hs2 := hb2.size
      have HO2 := Lib.hid ho2
      clear ho2
      go_wp2_with fail
      refine Calls.mono (spec_l26Least (HI.out.keep (by repeat (first | exact Below.refl _ _ | assumption | refine below_allocS ?_ _ | refine below_callS ?_ (by assumption) | (refine Below.alloc ?_ (by first | omega | (simp; done) | (simp; omega)) _) | (refine Below.setCell ?_ (by first | omega | (simp; done) | (simp; omega)) _) | refine Below.drew ?_ | refine below_drewN ?_ _ | (refine below_call ?_ (by assumption) (by first | omega | (simp; done) | (simp; omega))) | (refine Below.trans ?_ (by assumption))))) hn) ?_
      rintro e _ ⟨rfl, rfl⟩
      rw [Hm.out]
      go_wp2
      go_ret2
      exact ApplyDid.mk Hq.out.symm (by repeat (first | exact Below.refl _ _ | assumption | refine below_allocS ?_ _ | refine below_callS ?_ (by assumption) | (refine Below.alloc ?_ (by first | omega | (simp; done) | (simp; omega)) _) | (refine Below.setCell ?_ (by first | omega | (simp; done) | (simp; omega)) _) | refine Below.drew ?_ | refine below_drewN ?_ _ | (refine below_call ?_ (by assumption) (by first | omega | (simp; done) | (simp; omega))) | (refine Below.trans ?_ (by assumption)))) (fun l' h => by rw [Hr.out l' h]; exact (HO2.out.le (by omega)))
def runL (l : List Int) (st : List I2) : Option (List Int) := st.foldlM (m := Option) stepR l
theorem runL_step {l : List Int} {st : List I2} {k : Nat} {x : I2} (hx : st[k]? = some x) : runL l (st.take (k + 1)) = (runL l (st.take k)).bind (fun l' => stepR l' x) := by
  unfold runL
  rw [take_at hx, List.foldlM_append]
  simp only [List.foldlM_cons, List.foldlM_nil, bind_pure]
  rfl
theorem runL_none {l l' : List Int} {st : List I2} {k : Nat} {x : I2} (hx : st[k]? = some x) (h : runL l (st.take k) = some l') (h' : stepR l' x = none) : runL l st = none := by
  have h1 : runL l (st.take (k + 1)) = none := by rw [runL_step hx, h]; exact h'
  have h2 : st = st.take (k + 1) ++ st.drop (k + 1) := (List.take_append_drop _ _).symm
  rw [h2]
  unfold runL at h1 ⊢
  rw [List.foldlM_append, h1]; rfl
theorem runL_len {l l' : List Int} {st : List I2} (h : runL l st = some l') : l'.length = l.length := by
  unfold runL at h
  induction st generalizing l with
  | nil => simp at h; rw [h]
  | cons x r ih =>
    rw [List.foldlM_cons] at h
    cases hs : stepR l x with
    | none => rw [hs] at h; cases h
    | some l1 => rw [hs] at h; rw [ih h, stepR_len hs]
def runCode (l : List Int) (st : List I2) : Int :=
  if areRes l = false then 1 else if 200 < st.length then 3 else if (st.any fun x => !stepOk l.length x) = true then 2 else if runL l st = none then 5 else 0
def runRes (l : List Int) (st : List I2) : List Int := if runCode l st = 0 then (runL l st).getD [] else []
theorem runRes_len {l : List Int} {st : List I2} : (runRes l st).length ≤ l.length := by
  unfold runRes
  split
  · cases h : runL l st with
    | none => simp
    | some l' => simp [runL_len h]
  · simp
/-- a slice in memory of the call's own, and an error -/
def OwnRetC (E : TypeId) (w : World) (l : List Int) (code : Int) (e : Ending) (w' : World) : Prop :=
  ∃ n a1 c1, e = .returned (.tuple #[.slice a1 n c1, .int .i64 code]) ∧ Below w.heap.size w w' ∧ OwnI E w' w.heap.size a1 n c1 l
theorem OwnRetC.err {E : TypeId} {w w' : World} {l : List Int} {code k : Int} (h : code = k) (hl : l = []) (hb : Below w.heap.size w w') : OwnRetC E w l code (.returned (.tuple #[.slice none 0 0, .int .i64 k])) w' :=
  ⟨0, none, 0, by rw [h], hb, by rw [hl]; exact OwnI.nil _ _ _⟩
theorem runRes_err {l : List Int} {st : List I2} {k : Int} (h : runCode l st = k) (hk : k ≠ 0) : runRes l st = [] := by rw [runRes, if_neg (by rw [h]; exact hk)]
set_option maxHeartbeats 1000000 in
theorem impl_RunRestraints_1 {a : Option Addr} {n c g : Nat} {x : I2} {w : World} (h0 : w.cell? ⟨g, 0, none⟩ = some (.slice a n c)) (hg : g < w.heap.size) (hn : n ≤ 1048576) :
    Calls Try.prog 98 #[.agg #[.int .i64 x.a, .int .i64 x.b], .pointer (some ⟨g, 0, none⟩)] w fun e w' => e = .returned (.bool (!stepOk n x)) ∧ Below w.heap.size w w' := by
  have hg1 : (w.alloc (.cells #[.int .i64 x.a, .int .i64 x.b] 51)).cell? ⟨g, 0, none⟩ = some (.slice a n c) := by rw [World.cell?_alloc_past _ _ _ hg]; exact h0
  have hg2 : g < (w.alloc (.cells #[.int .i64 x.a, .int .i64 x.b] 51)).heap.size := by simp; omega
  go_enter Try.func98, Try.ntmps98
  go_wp2
  go_region_held3 (fun wx => wx.cell? ⟨w.heap.size, 0, none⟩ = some (.int .i64 x.a) ∧ wx.cell? ⟨w.heap.size, 1, none⟩ = some (.int .i64 x.b) ∧ wx.cell? ⟨g, 0, none⟩ = some (.slice a n c) ∧ w.heap.size < wx.heap.size ∧ g < wx.heap.size ∧ Below w.heap.size w wx) (((try go_split_ands); (repeat' apply And.intro) <;> first | assumption | exact Blk.keep (by assumption) hbx | exact Blk.drew (by assumption) | exact Blk.drew (Blk.made _ _ _) | exact Below.drew (by assumption) | exact Below.drew (below_allocS (by first | exact Below.refl _ _ | assumption) _) | exact below_callS (by assumption) hbx | exact below_call (by assumption) hbx (Below.size (by assumption)) | exact (hcx _ _ (by assumption)).trans (by assumption) | omega | (simp [*]; done) | (simp; omega))) (first | (go_at_call 82; refine Calls.mono impl_length_i64 ?_; rintro e _ ⟨rfl, rfl⟩) | (go_at_call 99; refine Calls.mono (impl_isRestraintStep (x := x) hn) ?_; rintro e wx2 ⟨rfl, hbx⟩; obtain ⟨hcx, hfx⟩ := bcell hbx; have hsx := hbx.size))
  go_split_ands
  go_wp2
  go_ret
  exact ⟨rfl, by assumption⟩
set_option maxHeartbeats 4000000 in
theorem impl_RunRestraints {a ad : Option Addr} {n c ns cs : Nat} {l : List Int} {st : List I2} {w : World} (hI : Ints w a n c l) (hS : F2 w ad ns cs st) (hn : n ≤ 1048576) (hns : ns ≤ 1048576) :
    Calls Try.prog 31 #[.slice a n c, .slice ad ns cs] w (OwnRetC 2 w (runRes l st) (runCode l st)) := by
  have hl := hI.len
  have hls := hS.len
  have HI := Lib.hid hI
  have HS := Lib.hid hS
  clear hI hS
  cases hr : areRes l
  · have HC := Lib.hid (show runCode l st = 1 by rw [runCode, if_pos hr])
    have Hr := Lib.hid hr
    clear hr hl hls
    go_enter Try.func31, Try.ntmps31
    go_wp2_with fail
    refine Calls.mono (impl_AreRestraints (HI.out.keep (by repeat (first | exact Below.refl _ _ | assumption | refine below_allocS ?_ _ | refine below_callS ?_ (by assumption) | (refine Below.alloc ?_ (by first | omega | (simp; done) | (simp; omega)) _) | (refine Below.setCell ?_ (by first | omega | (simp; done) | (simp; omega)) _) | refine Below.drew ?_ | refine below_drewN ?_ _ | (refine below_call ?_ (by assumption) (by first | omega | (simp; done) | (simp; omega))) | (refine Below.trans ?_ (by assumption))))) hn) ?_
    rintro e w1 ⟨rfl, hb_w1⟩
    obtain ⟨hc_w1, hf_w1⟩ := bcell hb_w1
    have hs_w1 := hb_w1.size
    rw [Hr.out]
    go_wp2
    go_ret2
    exact OwnRetC.err HC.out (runRes_err HC.out (by decide)) (by repeat (first | exact Below.refl _ _ | assumption | refine below_allocS ?_ _ | refine below_callS ?_ (by assumption) | (refine Below.alloc ?_ (by first | omega | (simp; done) | (simp; omega)) _) | (refine Below.setCell ?_ (by first | omega | (simp; done) | (simp; omega)) _) | refine Below.drew ?_ | refine below_drewN ?_ _ | (refine below_call ?_ (by assumption) (by first | omega | (simp; done) | (simp; omega))) | (refine Below.trans ?_ (by assumption))))
  · have hn1 : 0 < n := by
      simp only [areRes, Bool.and_eq_true] at hr
      have : 1 ≤ (l.length : Int) ∧ (l.length : Int) ≤ 12 := by simpa [inB] using hr.2
      omega
    by_cases h200 : 200 < ns
    · have HC := Lib.hid (show runCode l st = 3 by rw [runCode, if_neg (by rw [hr]; decide), if_pos (by omega)])
      have Hr := Lib.hid hr
      have h200' : (200 : Int) < (ns : Int) := by omega
      clear hr hl hls
      go_enter Try.func31, Try.ntmps31
      go_wp2_with fail
      refine Calls.mono (impl_AreRestraints (HI.out.keep (by repeat (first | exact Below.refl _ _ | assumption | refine below_allocS ?_ _ | refine below_callS ?_ (by assumption) | (refine Below.alloc ?_ (by first | omega | (simp; done) | (simp; omega)) _) | (refine Below.setCell ?_ (by first | omega | (simp; done) | (simp; omega)) _) | refine Below.drew ?_ | refine below_drewN ?_ _ | (refine below_call ?_ (by assumption) (by first | omega | (simp; done) | (simp; omega))) | (refine Below.trans ?_ (by assumption))))) hn) ?_
      rintro e w1 ⟨rfl, hb_w1⟩
      obtain ⟨hc_w1, hf_w1⟩ := bcell hb_w1
      have hs_w1 := hb_w1.size
      rw [Hr.out]
      go_wp2
      go_ret2
      exact OwnRetC.err HC.out (runRes_err HC.out (by decide)) (by repeat (first | exact Below.refl _ _ | assumption | refine below_allocS ?_ _ | refine below_callS ?_ (by assumption) | (refine Below.alloc ?_ (by first | omega | (simp; done) | (simp; omega)) _) | (refine Below.setCell ?_ (by first | omega | (simp; done) | (simp; omega)) _) | refine Below.drew ?_ | refine below_drewN ?_ _ | (refine below_call ?_ (by assumption) (by first | omega | (simp; done) | (simp; omega))) | (refine Below.trans ?_ (by assumption))))
    · have h200' : ¬ (200 : Int) < (ns : Int) := by omega
      have hcf := fun (wx : World) (hb : Below (w.alloc (.cells #[.slice a n c] 32)).heap.size (w.alloc (.cells #[.slice a n c] 32)) wx) => slices_ContainsFunc_RestraintStep (g := 98) (lb := #[.pointer (some ⟨w.heap.size, 0, none⟩)]) (p := fun x => !stepOk n x) (w := wx) (enters_of Try.func98 (by kernel_rfl) rfl)
        (fun W o _ hbW => impl_RunRestraints_1 (a := a) (n := n) (c := c) (x := o) (g := w.heap.size) (w := W) (((hbW.cell (p := ⟨w.heap.size, 0, none⟩) (by show w.heap.size < wx.heap.size; have := hb.size; simp at this; omega)).trans (hb.cell (p := ⟨w.heap.size, 0, none⟩) (by simp))).trans (by simp)) (by have h1 := hbW.size; have h2 := hb.size; simp at h2; omega) hn) (HS.out.keep (((Below.refl _ _).alloc (Nat.le_refl _) _).trans (hb.mono (by simp)))) hns
      have Hcf := Lib.hid hcf
      clear hcf
      have Hl := Lib.hid hl
      have Hls := Lib.hid hls
      have Hr := Lib.hid hr
      clear hl hls hr
      go_enter Try.func31, Try.ntmps31
      go_wp2_with fail
      refine Calls.mono (impl_AreRestraints (HI.out.keep (by repeat (first | exact Below.refl _ _ | assumption | refine below_allocS ?_ _ | refine below_callS ?_ (by assumption) | (refine Below.alloc ?_ (by first | omega | (simp; done) | (simp; omega)) _) | (refine Below.setCell ?_ (by first | omega | (simp; done) | (simp; omega)) _) | refine Below.drew ?_ | refine below_drewN ?_ _ | (refine below_call ?_ (by assumption) (by first | omega | (simp; done) | (simp; omega))) | (refine Below.trans ?_ (by assumption))))) hn) ?_
      rintro e w1 ⟨rfl, hb_w1⟩
      obtain ⟨hc_w1, hf_w1⟩ := bcell hb_w1
      have hs_w1 := hb_w1.size
      have hs1 := hs_w1
      simp at hs1
      have hz1 : w.heap.size < w1.heap.size := by omega
      have hbW : Below w.heap.size w w1 := by repeat (first | exact Below.refl _ _ | assumption | refine below_allocS ?_ _ | refine below_callS ?_ (by assumption) | (refine Below.alloc ?_ (by first | omega | (simp; done) | (simp; omega)) _) | (refine Below.setCell ?_ (by first | omega | (simp; done) | (simp; omega)) _) | refine Below.drew ?_ | refine below_drewN ?_ _ | (refine below_call ?_ (by assumption) (by first | omega | (simp; done) | (simp; omega))) | (refine Below.trans ?_ (by assumption)))
      rw [Hr.out]
      go_wp2_with fail
      refine Calls.mono (Hcf.out _ hb_w1) ?_
      rintro e w2 ⟨rfl, hb2⟩
      obtain ⟨hc2, hf2⟩ := bcell hb2
      have hs2 := hb2.size
      have hz2 : w.heap.size < w2.heap.size := by omega
      cases hany : (st.any fun x => !stepOk (n : Int) x)
      · have Hany := Lib.hid hany
        clear hany
        have hbW2 : Below w.heap.size w w2 := by repeat (first | exact Below.refl _ _ | assumption | refine below_allocS ?_ _ | refine below_callS ?_ (by assumption) | (refine Below.alloc ?_ (by first | omega | (simp; done) | (simp; omega)) _) | (refine Below.setCell ?_ (by first | omega | (simp; done) | (simp; omega)) _) | refine Below.drew ?_ | refine below_drewN ?_ _ | (refine below_call ?_ (by assumption) (by first | omega | (simp; done) | (simp; omega))) | (refine Below.trans ?_ (by assumption)))
        go_wp2_with fail
        refine Calls.mono (slices_Clone_i64 (HI.out.keep hbW2) hn) ?_
        rintro e w3 ⟨a3, c3, rfl, hb3, ho3, _⟩
        obtain ⟨g3, rfl⟩ := ho3.shape hn1
        have HO3 := Lib.hid ho3
        have hs3 := hb3.size
        have hbW3 : Below w.heap.size w w3 := by repeat (first | exact Below.refl _ _ | assumption | refine below_allocS ?_ _ | refine below_callS ?_ (by assumption) | (refine Below.alloc ?_ (by first | omega | (simp; done) | (simp; omega)) _) | (refine Below.setCell ?_ (by first | omega | (simp; done) | (simp; omega)) _) | refine Below.drew ?_ | refine below_drewN ?_ _ | (refine below_call ?_ (by assumption) (by first | omega | (simp; done) | (simp; omega))) | (refine Below.trans ?_ (by assumption)))
        clear ho3
        go_wp2
        go_loopw [8, 25] (fun _ s25 wr => ∃ (k : Nat) (l' : List Int), k ≤ ns ∧ s25 = .int .i64 k ∧ Below w.heap.size w wr ∧ w2.heap.size ≤ wr.heap.size ∧ Hid (runL l (st.take k) = some l') ∧ Hid (OwnI 2 wr w2.heap.size (some ⟨g3, 0, none⟩) n c3 l')) (fun _ i _ => ns - (intOf i).toNat)
        case atStart => exact ⟨0, l, Nat.zero_le _, rfl, hbW3, hs3, rfl, HO3.out⟩
        case round =>
          obtain ⟨k, l', hk, rfl, hbr, hzr, A, hO⟩ := hrel
          have hsr := hbr.size
          by_cases hlt : k < ns
          · obtain ⟨b, off, x, rfl, hb, hx, hwf, hc0, hc1⟩ := F2.get (HS.out.keep hbr) hlt
            have Hx := Lib.hid hx
            have hok : stepOk (n : Int) x = true := by
              have h1 := Hany.out
              rw [List.any_eq_false] at h1
              have := h1 x (List.mem_of_getElem? hx)
              simpa using this
            have hg3 := hO.out.blk _ rfl
            clear hx
            go_wp2_with fail
            refine Calls.mono (impl_stepRestraints (x := x) (base := w2.heap.size) (hO.out.keep (by repeat (first | exact Below.refl _ _ | assumption | refine below_allocS ?_ _ | refine below_callS ?_ (by assumption) | (refine Below.alloc ?_ (by first | omega | (simp; done) | (simp; omega)) _) | (refine Below.setCell ?_ (by first | omega | (simp; done) | (simp; omega)) _) | refine Below.drew ?_ | refine below_drewN ?_ _ | (refine below_call ?_ (by assumption) (by first | omega | (simp; done) | (simp; omega))) | (refine Below.trans ?_ (by assumption))))) hn hok) ?_
            rintro e w4 ⟨rfl, hgr4, hown4⟩
            have hs4 := hgr4.size
            simp at hs4
            have hb4 : Below w.heap.size w w4 := Below.grown (by repeat (first | exact Below.refl _ _ | assumption | refine below_allocS ?_ _ | refine below_callS ?_ (by assumption) | (refine Below.alloc ?_ (by first | omega | (simp; done) | (simp; omega)) _) | (refine Below.setCell ?_ (by first | omega | (simp; done) | (simp; omega)) _) | refine Below.drew ?_ | refine below_drewN ?_ _ | (refine below_call ?_ (by assumption) (by first | omega | (simp; done) | (simp; omega))) | (refine Below.trans ?_ (by assumption)))) hgr4 (by simp; omega) (fun k h => by cases h; omega)
            cases hst : stepR l' x with
            | none =>
              have Hst := Lib.hid hst
              clear hst
              go_wp2
              go_ret2
              have hrl := runL_none Hx.out A.out Hst.out
              have hcode : runCode l st = 5 := by rw [runCode, if_neg (by rw [Hr.out]; decide), if_neg (by rw [Hls.out]; omega), if_neg (by rw [Hl.out, Hany.out]; decide), if_pos hrl]
              exact OwnRetC.err hcode (runRes_err hcode (by decide)) hb4
            | some l'' =>
              have HO4 := Lib.hid (hown4 l'' hst)
              have Hst := Lib.hid hst
              clear hst hown4
              go_wp2
              go_roundw
              case rel => exact ⟨k + 1, l'', by omega, by go_num, hb4, by omega, by show _ = _; rw [runL_step Hx.out, A.out]; exact Hst.out, HO4.out⟩
              case measure => simp [intOf]; omega
          · go_wp2
            go_ret2
            have e : st.take k = st := take_len (by have := Hls.out; omega)
            have h1 := A.out
            rw [e] at h1
            have hcode : runCode l st = 0 := by rw [runCode, if_neg (by rw [Hr.out]; decide), if_neg (by rw [Hls.out]; omega), if_neg (by rw [Hl.out, Hany.out]; decide), if_neg (by rw [h1]; simp)]
            exact ⟨n, some ⟨g3, 0, none⟩, c3, by rw [hcode]; rfl, hbr, by rw [runRes, if_pos hcode, h1]; exact hO.out.le (by omega)⟩
      · have Hany := Lib.hid hany
        clear hany
        go_wp2
        go_ret2
        have hcode : runCode l st = 2 := by rw [runCode, if_neg (by rw [Hr.out]; decide), if_neg (by rw [Hls.out]; omega), if_pos (by rw [Hl.out]; exact Hany.out)]
        exact OwnRetC.err hcode (runRes_err hcode (by decide)) (by repeat (first | exact Below.refl _ _ | assumption | refine below_allocS ?_ _ | refine below_callS ?_ (by assumption) | (refine Below.alloc ?_ (by first | omega | (simp; done) | (simp; omega)) _) | (refine Below.setCell ?_ (by first | omega | (simp; done) | (simp; omega)) _) | refine Below.drew ?_ | refine below_drewN ?_ _ | (refine below_call ?_ (by assumption) (by first | omega | (simp; done) | (simp; omega))) | (refine Below.trans ?_ (by assumption))))
set_option maxHeartbeats 4000000 in
theorem spec_RunRestraints {a ad : Option Addr} {n c ns cs : Nat} {l : List Int} {st : List I2} {w : World} (hI : Ints w a n c l) (hS : F2 w ad ns cs st) (hn : n ≤ 1048576) (hns : ns ≤ 1048576) :
    Calls Try.prog 32 #[.slice a n c, .slice ad ns cs] w (OwnRetC 2 w (runRes l st) (runCode l st)) := by
  have hl := hI.len
  have hls := hS.len
  have HI := Lib.hid hI
  have HS := Lib.hid hS
  clear hI hS
  cases hr : areRes l
  · have HC := Lib.hid (show runCode l st = 1 by rw [runCode, if_pos hr])
    have Hr := Lib.hid hr
    clear hr hl hls
    go_enter Try.func32, Try.ntmps32
    go_wp2_with fail
    refine Calls.mono (spec_AreRestraints HI.out hn) ?_
    rintro e _ ⟨rfl, rfl⟩
    rw [Hr.out]
    go_wp2
    go_ret2
    exact OwnRetC.err HC.out (runRes_err HC.out (by decide)) (by repeat (first | exact Below.refl _ _ | assumption | refine below_allocS ?_ _ | refine below_callS ?_ (by assumption) | (refine Below.alloc ?_ (by first | omega | (simp; done) | (simp; omega)) _) | (refine Below.setCell ?_ (by first | omega | (simp; done) | (simp; omega)) _) | refine Below.drew ?_ | refine below_drewN ?_ _ | (refine below_call ?_ (by assumption) (by first | omega | (simp; done) | (simp; omega))) | (refine Below.trans ?_ (by assumption))))
  · have hn1 : 0 < n := by
      simp only [areRes, Bool.and_eq_true] at hr
      have : 1 ≤ (l.length : Int) ∧ (l.length : Int) ≤ 12 := by simpa [inB] using hr.2
      omega
    by_cases h200 : 200 < ns
    · have HC := Lib.hid (show runCode l st = 3 by rw [runCode, if_neg (by rw [hr]; decide), if_pos (by omega)])
      have Hr := Lib.hid hr
      have h200' : (200 : Int) < (ns : Int) := by omega
      clear hr hl hls
      go_enter Try.func32, Try.ntmps32
      go_wp2_with fail
      refine Calls.mono (spec_AreRestraints HI.out hn) ?_
      rintro e _ ⟨rfl, rfl⟩
      rw [Hr.out]
      go_wp2
      go_ret2
      exact OwnRetC.err HC.out (runRes_err HC.out (by decide)) (by repeat (first | exact Below.refl _ _ | assumption | refine below_allocS ?_ _ | refine below_callS ?_ (by assumption) | (refine Below.alloc ?_ (by first | omega | (simp; done) | (simp; omega)) _) | (refine Below.setCell ?_ (by first | omega | (simp; done) | (simp; omega)) _) | refine Below.drew ?_ | refine below_drewN ?_ _ | (refine below_call ?_ (by assumption) (by first | omega | (simp; done) | (simp; omega))) | (refine Below.trans ?_ (by assumption))))
    · have h200' : ¬ (200 : Int) < (ns : Int) := by omega
      have Hin := Lib.hid (show allIn 0 2 l = true by simp only [areRes, Bool.and_eq_true] at hr; exact hr.1)
      have Hl := Lib.hid hl
      have Hls := Lib.hid hls
      have Hr := Lib.hid hr
      clear hl hls hr
      go_enter Try.func32, Try.ntmps32
      go_wp2_with fail
      refine Calls.mono (spec_AreRestraints HI.out hn) ?_
      rintro e _ ⟨rfl, rfl⟩
      rw [Hr.out]
      go_wp2
      go_loopw [6] (fun s6 wr => ∃ k : Nat, k ≤ ns ∧ s6 = .int .i64 k ∧ Below w.heap.size w wr ∧ Hid ((st.take k).any (fun x => !stepOk (n : Int) x) = false)) (fun i _ => ns - (intOf i).toNat)
      case atStart => exact ⟨0, Nat.zero_le _, rfl, Below.refl _ _, rfl⟩
      case round =>
        obtain ⟨k, hk, rfl, hbr, A⟩ := hrel
        have hsr := hbr.size
        by_cases hlt : k < ns
        · obtain ⟨b, off, x, rfl, hb, hx, hwf, hc0, hc1⟩ := F2.get (HS.out.keep hbr) hlt
          have Hx := Lib.hid hx
          clear hx
          cases hok : stepOk (n : Int) x
          all_goals
            have Hok := Lib.hid hok
            clear hok
            go_wp2_with fail
            refine Calls.mono (spec_l26Step (x := x) hn) ?_
            rintro e w2 ⟨rfl, hb_w2⟩
            obtain ⟨hc_w2, hf_w2⟩ := bcell hb_w2
            have hs_w2 := hb_w2.size
            rw [Hok.out]
            go_wp2
          · go_ret2
            have hany : (st.any fun x => !stepOk (l.length : Int) x) = true := by rw [Hl.out]; exact any_take_true Hx.out (by rw [Hok.out]; rfl)
            have hcode : runCode l st = 2 := by rw [runCode, if_neg (by rw [Hr.out]; decide), if_neg (by rw [Hls.out]; omega), if_pos hany]
            exact OwnRetC.err hcode (runRes_err hcode (by decide)) (by repeat (first | exact Below.refl _ _ | assumption | refine below_allocS ?_ _ | refine below_callS ?_ (by assumption) | (refine Below.alloc ?_ (by first | omega | (simp; done) | (simp; omega)) _) | (refine Below.setCell ?_ (by first | omega | (simp; done) | (simp; omega)) _) | refine Below.drew ?_ | refine below_drewN ?_ _ | (refine below_call ?_ (by assumption) (by first | omega | (simp; done) | (simp; omega))) | (refine Below.trans ?_ (by assumption))))
          · go_roundw
            case rel => exact ⟨k + 1, by omega, by go_num, by repeat (first | exact Below.refl _ _ | assumption | refine below_allocS ?_ _ | refine below_callS ?_ (by assumption) | (refine Below.alloc ?_ (by first | omega | (simp; done) | (simp; omega)) _) | (refine Below.setCell ?_ (by first | omega | (simp; done) | (simp; omega)) _) | refine Below.drew ?_ | refine below_drewN ?_ _ | (refine below_call ?_ (by assumption) (by first | omega | (simp; done) | (simp; omega))) | (refine Below.trans ?_ (by assumption))), any_take_step Hx.out A.out (by rw [Hok.out]; rfl)⟩
            case measure => simp [intOf]; omega
        · have e : st.take k = st := take_len (by have := Hls.out; omega)
          have hA := A.out
          rw [e] at hA
          have Hany := Lib.hid hA
          clear hA e
          go_wp2_with fail
          refine Calls.mono (spec_l01Own (HI.out.keep hbr) hn) ?_
          rintro e w3 ⟨a3, c3, rfl, hb3, ho3⟩
          have HO3 := Lib.hid ho3
          have hs3 := hb3.size
          have hbW3 : Below w.heap.size w w3 := by repeat (first | exact Below.refl _ _ | assumption | refine below_allocS ?_ _ | refine below_callS ?_ (by assumption) | (refine Below.alloc ?_ (by first | omega | (simp; done) | (simp; omega)) _) | (refine Below.setCell ?_ (by first | omega | (simp; done) | (simp; omega)) _) | refine Below.drew ?_ | refine below_drewN ?_ _ | (refine below_call ?_ (by assumption) (by first | omega | (simp; done) | (simp; omega))) | (refine Below.trans ?_ (by assumption)))
          clear ho3
          go_wp2
          go_loopw [7, 8, 9, 10] (fun s7 s8 _ _ wi => ∃ (m : Nat) (l' : List Int) (a4 : Option Addr) (c4 : Nat), m ≤ ns ∧ s7 = .slice a4 n c4 ∧ s8 = .int .i64 m ∧ Below w.heap.size w wi ∧ Hid (allIn 0 2 l' = true) ∧ Hid (runL l (st.take m) = some l') ∧ Hid (OwnI 2 wi w.heap.size a4 n c4 l')) (fun _ i _ _ _ => ns - (intOf i).toNat)
          case atStart => exact ⟨0, l, _, _, Nat.zero_le _, rfl, rfl, hbW3, Hin.out, rfl, HO3.out.le hsr⟩
          case round =>
            obtain ⟨m, l', a4, c4, hm, rfl, rfl, hbi, HA, B, hO⟩ := hrel
            have hsi := hbi.size
            by_cases hltm : m < ns
            · obtain ⟨b, off, x, rfl, hb, hx, hwf, hc0, hc1⟩ := F2.get (HS.out.keep hbi) hltm
              have Hx := Lib.hid hx
              have hok : stepOk (n : Int) x = true := by
                have h1 := Hany.out
                rw [List.any_eq_false] at h1
                have := h1 x (List.mem_of_getElem? hx)
                simpa using this
              have Hok := Lib.hid hok
              clear hx hok
              go_wp2_with fail
              refine Calls.mono (spec_l26Apply (x := x) hO.out.ints hn hn1 HA.out Hok.out) ?_
              rintro e w4 ⟨n5, a5, c5, rfl, hb4, hown4⟩
              have hs4 := hb4.size
              have hbW4 : Below w.heap.size w w4 := by repeat (first | exact Below.refl _ _ | assumption | refine below_allocS ?_ _ | refine below_callS ?_ (by assumption) | (refine Below.alloc ?_ (by first | omega | (simp; done) | (simp; omega)) _) | (refine Below.setCell ?_ (by first | omega | (simp; done) | (simp; omega)) _) | refine Below.drew ?_ | refine below_drewN ?_ _ | (refine below_call ?_ (by assumption) (by first | omega | (simp; done) | (simp; omega))) | (refine Below.trans ?_ (by assumption)))
              cases hst : stepR l' x with
              | none =>
                have Hst := Lib.hid hst
                clear hst hown4
                go_wp2
                go_ret2
                have hrl := runL_none Hx.out B.out Hst.out
                have hcode : runCode l st = 5 := by rw [runCode, if_neg (by rw [Hr.out]; decide), if_neg (by rw [Hls.out]; omega), if_neg (by rw [Hl.out, Hany.out]; decide), if_pos hrl]
                exact OwnRetC.err hcode (runRes_err hcode (by decide)) hbW4
              | some l'' =>
                obtain ⟨hn5, ho4⟩ := hown4 l'' hst
                subst hn5
                have HO4 := Lib.hid ho4
                have HA' := Lib.hid (stepR_in HA.out hst)
                have Hst := Lib.hid hst
                clear hst hown4 ho4
                go_wp2
                go_roundw
                case rel => exact ⟨m + 1, l'', a5, c5, by omega, rfl, by go_num, hbW4, HA'.out, by show _ = _; rw [runL_step Hx.out, B.out]; exact Hst.out, HO4.out.le hsi⟩
                case measure => simp [intOf]; omega
            · go_wp2
              go_ret2
              have e : st.take m = st := take_len (by have := Hls.out; omega)
              have h1 := B.out
              rw [e] at h1
              have hcode : runCode l st = 0 := by rw [runCode, if_neg (by rw [Hr.out]; decide), if_neg (by rw [Hls.out]; omega), if_neg (by rw [Hl.out, Hany.out]; decide), if_neg (by rw [h1]; simp)]
              exact ⟨n, a4, c4, by rw [hcode]; rfl, hbi, by rw [runRes, if_pos hcode, h1]; exact hO.out⟩
theorem F2.one {w : World} {E : TypeId} {x : I2} (hw : x.ok) {g : Nat} (hg : g = w.heap.size) : F2 (w.alloc (.cells #[.int .i64 x.a, .int .i64 x.b] E)) (some ⟨g, 0, none⟩) 1 1 [x] := by
  subst hg
  refine ⟨rfl, Nat.le_refl _, .inr ⟨_, 0, rfl, by simp, fun i y hy j v hv => ?_⟩, fun y hy => ?_, fun h => by cases h⟩
  · cases i with
    | zero =>
      simp at hy; subst hy
      rw [show 0 + 0 * 2 + j = j from by omega, World.cell?_alloc_at _ _ _ _ rfl]
      simpa [I2.enc] using hv
    | succ i => simp at hy
  · simp at hy; subst hy; exact hw
theorem impl_StepRestraints {a : Option Addr} {n c : Nat} {l : List Int} {x : I2} {w : World} (hI : Ints w a n c l) (hn : n ≤ 1048576) (hx : x.ok) :
    Calls Try.prog 34 #[.slice a n c, .agg #[.int .i64 x.a, .int .i64 x.b]] w (OwnRetC 2 w (runRes l [x]) (runCode l [x])) := by
  have HI := Lib.hid hI
  clear hI
  go_enter Try.func34, Try.ntmps34
  go_wp2_with fail
  refine Calls.mono (impl_RunRestraints (HI.out.keep (by repeat (first | exact Below.refl _ _ | assumption | refine below_allocS ?_ _ | refine below_callS ?_ (by assumption) | (refine Below.alloc ?_ (by first | omega | (simp; done) | (simp; omega)) _) | (refine Below.setCell ?_ (by first | omega | (simp; done) | (simp; omega)) _) | refine Below.drew ?_ | refine below_drewN ?_ _ | (refine below_call ?_ (by assumption) (by first | omega | (simp; done) | (simp; omega))) | (refine Below.trans ?_ (by assumption))))) (F2.one hx (by simp)) hn (by omega)) ?_
  rintro e w1 ⟨n1, a1, c1, rfl, hb1, ho1⟩
  have HO1 := Lib.hid ho1
  clear ho1
  go_wp2
  go_ret2
  exact ⟨n1, a1, c1, rfl, by repeat (first | exact Below.refl _ _ | assumption | refine below_allocS ?_ _ | refine below_callS ?_ (by assumption) | (refine Below.alloc ?_ (by first | omega | (simp; done) | (simp; omega)) _) | (refine Below.setCell ?_ (by first | omega | (simp; done) | (simp; omega)) _) | refine Below.drew ?_ | refine below_drewN ?_ _ | (refine below_call ?_ (by assumption) (by first | omega | (simp; done) | (simp; omega))) | (refine Below.trans ?_ (by assumption))), HO1.out.le (by simp; try omega)⟩
theorem spec_StepRestraints {a : Option Addr} {n c : Nat} {l : List Int} {x : I2} {w : World} (hI : Ints w a n c l) (hn : n ≤ 1048576) (hx : x.ok) :
    Calls Try.prog 35 #[.slice a n c, .agg #[.int .i64 x.a, .int .i64 x.b]] w (OwnRetC 2 w (runRes l [x]) (runCode l [x])) := by
  have HI := Lib.hid hI
  clear hI
  go_enter Try.func35, Try.ntmps35
  go_wp2_with fail
  refine Calls.mono (spec_RunRestraints (HI.out.keep (by repeat (first | exact Below.refl _ _ | assumption | refine below_allocS ?_ _ | refine below_callS ?_ (by assumption) | (refine Below.alloc ?_ (by first | omega | (simp; done) | (simp; omega)) _) | (refine Below.setCell ?_ (by first | omega | (simp; done) | (simp; omega)) _) | refine Below.drew ?_ | refine below_drewN ?_ _ | (refine below_call ?_ (by assumption) (by first | omega | (simp; done) | (simp; omega))) | (refine Below.trans ?_ (by assumption))))) (F2.one hx (by simp)) hn (by omega)) ?_
  rintro e w1 ⟨n1, a1, c1, rfl, hb1, ho1⟩
  have HO1 := Lib.hid ho1
  clear ho1
  go_wp2
  go_ret2
  exact ⟨n1, a1, c1, rfl, by repeat (first | exact Below.refl _ _ | assumption | refine below_allocS ?_ _ | refine below_callS ?_ (by assumption) | (refine Below.alloc ?_ (by first | omega | (simp; done) | (simp; omega)) _) | (refine Below.setCell ?_ (by first | omega | (simp; done) | (simp; omega)) _) | refine Below.drew ?_ | refine below_drewN ?_ _ | (refine below_call ?_ (by assumption) (by first | omega | (simp; done) | (simp; omega))) | (refine Below.trans ?_ (by assumption))), HO1.out.le (by simp; try omega)⟩
end Go.Proofs.Ytoaccicfmfiemaa
