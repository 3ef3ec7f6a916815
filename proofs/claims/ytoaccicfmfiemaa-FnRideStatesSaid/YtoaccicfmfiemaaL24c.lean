/- The faults in a ride state, walked. -/
import Derived.Test.YtoaccicfmfiemaaL24b
import Derived.Test.YtoaccicfmfiemaaAp
namespace Go.Proofs.Ytoaccicfmfiemaa
open Go.RowKit
set_option linter.unusedVariables false
set_option linter.unusedSimpArgs false
/-- the faults that a status x of block i stands for -/
def flAt (i : Nat) (x : Int) : List I3 := if x = 1 then [⟨i, 0, 0⟩] else if x = 2 then [⟨i, 1, 1⟩] else if x = 3 then [⟨i, 0, 0⟩, ⟨i, 1, 0⟩] else []
def flsOf (l : List Int) : List I3 := l.zipIdx.flatMap fun p => flAt p.2 p.1
theorem f3_lit (w : World) (T : TypeId) (l : List I3) (hw : ∀ x ∈ l, x.ok) : F3 (w.alloc (.cells (l.flatMap I3.enc).toArray T)) (some ⟨w.heap.size, 0, none⟩) l.length l.length l := by
  refine ⟨rfl, Nat.le_refl _, .inr ⟨w.heap.size, 0, rfl, by simp, fun i x hx j v hv => ?_⟩, hw, fun h => by cases h⟩
  have := (Blk.made w (l.flatMap I3.enc).toArray T).cell (i * 3 + j)
  rw [Nat.zero_add, this]
  have h2 := flat_get (k := 3) (enc := I3.enc) (fun _ => rfl) hx hv
  simpa using h2
def F3Ret (w : World) (l : List I3) (e : Ending) (w' : World) : Prop := ∃ n a c, e = .returned (.slice a n c) ∧ Below w.heap.size w w' ∧ F3 w' a n c l
theorem flAt_ok {i : Nat} (hi : i ≤ 1048576) (x : Int) : ∀ y ∈ flAt i x, y.ok := by
  intro y hy
  unfold flAt at hy
  have h0 : I64 (i : Int) := ⟨by omega, by omega⟩
  have h1 : I64 0 := ⟨by omega, by omega⟩
  have h2 : I64 1 := ⟨by omega, by omega⟩
  split at hy
  · simp at hy; subst hy; exact ⟨h0, h1, h1⟩
  · split at hy
    · simp at hy; subst hy; exact ⟨h0, h2, h2⟩
    · split at hy
      · simp at hy
        rcases hy with rfl | rfl
        · exact ⟨h0, h1, h1⟩
        · exact ⟨h0, h2, h1⟩
      · simp at hy
theorem flsOf_step {l : List Int} {k : Nat} {x : Int} (h : l[k]? = some x) : flsOf (l.take (k + 1)) = flsOf (l.take k) ++ flAt k x := by
  have hk : k < l.length := (List.getElem?_eq_some_iff.1 h).1
  rw [take_at h, flsOf, flsOf, List.zipIdx_append, List.flatMap_append]
  simp [Nat.min_eq_left (Nat.le_of_lt hk)]
theorem flAt_len (i : Nat) (x : Int) : (flAt i x).length ≤ 2 := by
  unfold flAt; split
  · simp
  · split
    · simp
    · split <;> simp
set_option maxHeartbeats 1000000 in
theorem impl_faultsOf {s : Option Addr} {m d : Nat} {st : List Int} {w : World} (hS : Ints w s m d st) (hm : m ≤ 1048576) :
    Calls Try.prog 114 #[.slice s m d] w fun e w' => ∃ n a c, e = .returned (.slice a n c) ∧ Below w.heap.size w w' ∧ OwnF 3 I3.enc I3.ok 138 w' w.heap.size a n c (flsOf st) := by
  have HS := Lib.hid hS
  clear hS
  have hone : ∀ y : I3, ∀ u ∈ y.enc, u.oneCell' = true := fun y u hu => by
    simp [I3.enc] at hu
    rcases hu with rfl | rfl | rfl <;> rfl
  have Hone := Lib.hid hone
  clear hone
  go_enter Try.func114, Try.ntmps114
  go_wp2
  go_loopw [3, 8] (fun s3 s8 wr => ∃ k n a c, k ≤ m ∧ s8 = .int .i64 (k : Nat) ∧ s3 = .slice a n c ∧ n ≤ 2 * k ∧ Below w.heap.size w wr ∧ Hid (OwnF 3 I3.enc I3.ok 138 wr w.heap.size a n c (flsOf (st.take k)))) (fun _ s8 _ => m - (intOf s8).toNat)
  case atStart => exact ⟨0, 0, none, 0, Nat.zero_le _, rfl, rfl, Nat.le_refl _, Below.refl _ _, ⟨World.ownsRow_nil _ _ _ _, (fun _ h => by cases h), rfl, fun _ => rfl⟩⟩
  case round =>
    obtain ⟨k, n, a, c, hk, rfl, rfl, hn, hbl, O⟩ := hrel
    by_cases hlt : k < m
    · obtain ⟨b, off, x, rfl, hb, hx, hcell, hwf⟩ := (HS.out.keep hbl).at hlt
      have Hst := Lib.hid (flsOf_step hx)
      have Hfo := Lib.hid (flAt_ok (show k ≤ 1048576 by omega) x)
      have hk0 : (0 : Int) ≤ (k : Int) := by omega
      have hk1 : (k : Int) < (m : Int) := by omega
      clear hx hwf
      have hbs := hbl.size
      by_cases h1 : x = 1
      · subst h1
        go_wp2_with (at_builtin; refine appendL_F rfl _ _ 78 138 rfl Try.underlying78 Try.infoSensorFault rfl (by decide) (by decide) Hone.out w.heap.size _ _ _ _ (O.out.keep (by repeat (first | exact Below.refl _ _ | assumption | refine below_allocS ?_ _ | refine below_callS ?_ (by assumption) | (refine Below.alloc ?_ (by first | omega | (simp; done) | (simp; omega)) _) | (refine Below.setCell ?_ (by first | omega | (simp; done) | (simp; omega)) _) | refine Below.drew ?_ | refine below_drewN ?_ _ | (refine below_call ?_ (by assumption) (by first | omega | (simp; done) | (simp; omega))) | (refine Below.trans ?_ (by assumption))))) rfl _ 1 1 [⟨k, 0, 0⟩] rfl (f3_lit _ 138 [⟨k, 0, 0⟩] Hfo.out) (by omega) (by omega) (by simp; omega) ?_; intro a1 c1 w1 hown1 hb1 hg1 hnil1)
        go_roundw
        case rel => exact ⟨k + 1, n + 1, a1, c1, by omega, by go_num, rfl, by omega, by repeat (first | exact Below.refl _ _ | assumption | refine below_allocS ?_ _ | refine below_callS ?_ (by assumption) | (refine Below.alloc ?_ (by first | omega | (simp; done) | (simp; omega)) _) | (refine Below.setCell ?_ (by first | omega | (simp; done) | (simp; omega)) _) | refine Below.drew ?_ | refine below_drewN ?_ _ | (refine below_call ?_ (by assumption) (by first | omega | (simp; done) | (simp; omega))) | (refine Below.trans ?_ (by assumption))), by show OwnF _ _ _ _ _ _ _ _ _ _; rw [Hst.out]; exact hown1⟩
        case measure => simp [intOf]; omega
      · by_cases h2 : x = 2
        · subst h2
          go_wp2_with (at_builtin; refine appendL_F rfl _ _ 78 138 rfl Try.underlying78 Try.infoSensorFault rfl (by decide) (by decide) Hone.out w.heap.size _ _ _ _ (O.out.keep (by repeat (first | exact Below.refl _ _ | assumption | refine below_allocS ?_ _ | refine below_callS ?_ (by assumption) | (refine Below.alloc ?_ (by first | omega | (simp; done) | (simp; omega)) _) | (refine Below.setCell ?_ (by first | omega | (simp; done) | (simp; omega)) _) | refine Below.drew ?_ | refine below_drewN ?_ _ | (refine below_call ?_ (by assumption) (by first | omega | (simp; done) | (simp; omega))) | (refine Below.trans ?_ (by assumption))))) rfl _ 1 1 [⟨k, 1, 1⟩] rfl (f3_lit _ 138 [⟨k, 1, 1⟩] Hfo.out) (by omega) (by omega) (by simp; omega) ?_; intro a1 c1 w1 hown1 hb1 hg1 hnil1)
          go_roundw
          case rel => exact ⟨k + 1, n + 1, a1, c1, by omega, by go_num, rfl, by omega, by repeat (first | exact Below.refl _ _ | assumption | refine below_allocS ?_ _ | refine below_callS ?_ (by assumption) | (refine Below.alloc ?_ (by first | omega | (simp; done) | (simp; omega)) _) | (refine Below.setCell ?_ (by first | omega | (simp; done) | (simp; omega)) _) | refine Below.drew ?_ | refine below_drewN ?_ _ | (refine below_call ?_ (by assumption) (by first | omega | (simp; done) | (simp; omega))) | (refine Below.trans ?_ (by assumption))), by show OwnF _ _ _ _ _ _ _ _ _ _; rw [Hst.out]; exact hown1⟩
          case measure => simp [intOf]; omega
        · by_cases h3 : x = 3
          · subst h3
            have Hf1 := Lib.hid (show ∀ y ∈ [(⟨k, 0, 0⟩ : I3)], y.ok from fun y hy => Hfo.out y (by simp [flAt] at hy ⊢; simp [hy]))
            have Hf2 := Lib.hid (show ∀ y ∈ [(⟨k, 1, 0⟩ : I3)], y.ok from fun y hy => Hfo.out y (by simp [flAt] at hy ⊢; simp [hy]))
            go_wp2_with (first | (at_builtin; refine appendL_F rfl _ _ 78 138 rfl Try.underlying78 Try.infoSensorFault rfl (by decide) (by decide) Hone.out w.heap.size _ _ _ _ (O.out.keep (by repeat (first | exact Below.refl _ _ | assumption | refine below_allocS ?_ _ | refine below_callS ?_ (by assumption) | (refine Below.alloc ?_ (by first | omega | (simp; done) | (simp; omega)) _) | (refine Below.setCell ?_ (by first | omega | (simp; done) | (simp; omega)) _) | refine Below.drew ?_ | refine below_drewN ?_ _ | (refine below_call ?_ (by assumption) (by first | omega | (simp; done) | (simp; omega))) | (refine Below.trans ?_ (by assumption))))) rfl _ 1 1 [⟨k, 0, 0⟩] rfl (f3_lit _ 138 [⟨k, 0, 0⟩] Hf1.out) (by omega) (by omega) (by simp; omega) ?_; intro a1 c1 w1 hown1 hb1 hg1 hnil1; have O1 := Lib.hid hown1; have hs1 := hb1.size; simp at hs1; clear hown1) | (at_builtin; refine appendL_F rfl _ _ 78 138 rfl Try.underlying78 Try.infoSensorFault rfl (by decide) (by decide) Hone.out w.heap.size _ _ _ _ (O1.out.keep (by repeat (first | exact Below.refl _ _ | assumption | refine below_allocS ?_ _ | refine below_callS ?_ (by assumption) | (refine Below.alloc ?_ (by first | omega | (simp; done) | (simp; omega)) _) | (refine Below.setCell ?_ (by first | omega | (simp; done) | (simp; omega)) _) | refine Below.drew ?_ | refine below_drewN ?_ _ | (refine below_call ?_ (by assumption) (by first | omega | (simp; done) | (simp; omega))) | (refine Below.trans ?_ (by assumption))))) rfl _ 1 1 [⟨k, 1, 0⟩] rfl (f3_lit _ 138 [⟨k, 1, 0⟩] Hf2.out) (by omega) (by omega) (by simp; omega) ?_; intro a2 c2 w2 hown2 hb2 hg2 hnil2))
            go_roundw
            case rel => exact ⟨k + 1, n + 2, a2, c2, by omega, by go_num, rfl, by omega, by repeat (first | exact Below.refl _ _ | assumption | refine below_allocS ?_ _ | refine below_callS ?_ (by assumption) | (refine Below.alloc ?_ (by first | omega | (simp; done) | (simp; omega)) _) | (refine Below.setCell ?_ (by first | omega | (simp; done) | (simp; omega)) _) | refine Below.drew ?_ | refine below_drewN ?_ _ | (refine below_call ?_ (by assumption) (by first | omega | (simp; done) | (simp; omega))) | (refine Below.trans ?_ (by assumption))), by show OwnF _ _ _ _ _ _ _ _ _ _; rw [Hst.out]; rw [show flAt k 3 = [⟨k, 0, 0⟩] ++ [⟨k, 1, 0⟩] from rfl, ← List.append_assoc]; exact hown2⟩
            case measure => simp [intOf]; omega
          · have HF := Lib.hid (show flAt k x = [] by rw [flAt, if_neg h1, if_neg h2, if_neg h3])
            have t1 : (x == 1) = false := by simpa using h1
            have t2 : (x == 2) = false := by simpa using h2
            have t3 : (x == 3) = false := by simpa using h3
            clear h1 h2 h3
            go_wp2
            go_roundw
            case rel => exact ⟨k + 1, n, a, c, by omega, by go_num, rfl, by omega, hbl, by show OwnF _ _ _ _ _ _ _ _ _ _; rw [Hst.out, HF.out, List.append_nil]; exact O.out⟩
            case measure => simp [intOf]; omega
    · go_wp2
      go_ret
      have e : st.take k = st := take_len (by have := HS.out.len; omega)
      have h1 := O.out
      rw [e] at h1
      exact ⟨n, a, c, rfl, hbl, h1⟩
theorem spec_l24Faults {i : Nat} {x : Int} {w : World} (hi : i ≤ 1048576) :
    Calls Try.prog 113 #[.int .i64 i, .int .i64 x] w (F3Ret w (flAt i x)) := by
  have Hok := Lib.hid (flAt_ok hi x)
  by_cases h1 : x = 1
  · subst h1
    go_enter Try.func113, Try.ntmps113
    go_wp2
    go_ret
    exact ⟨1, _, 1, rfl, by repeat (first | exact Below.refl _ _ | assumption | refine below_allocS ?_ _ | refine below_callS ?_ (by assumption) | (refine Below.alloc ?_ (by first | omega | (simp; done) | (simp; omega)) _) | (refine Below.setCell ?_ (by first | omega | (simp; done) | (simp; omega)) _) | refine Below.drew ?_ | refine below_drewN ?_ _ | (refine below_call ?_ (by assumption) (by first | omega | (simp; done) | (simp; omega))) | (refine Below.trans ?_ (by assumption))), f3_lit w 138 [⟨i, 0, 0⟩] Hok.out⟩
  · by_cases h2 : x = 2
    · subst h2
      go_enter Try.func113, Try.ntmps113
      go_wp2
      go_ret
      exact ⟨1, _, 1, rfl, by repeat (first | exact Below.refl _ _ | assumption | refine below_allocS ?_ _ | refine below_callS ?_ (by assumption) | (refine Below.alloc ?_ (by first | omega | (simp; done) | (simp; omega)) _) | (refine Below.setCell ?_ (by first | omega | (simp; done) | (simp; omega)) _) | refine Below.drew ?_ | refine below_drewN ?_ _ | (refine below_call ?_ (by assumption) (by first | omega | (simp; done) | (simp; omega))) | (refine Below.trans ?_ (by assumption))), f3_lit w 138 [⟨i, 1, 1⟩] Hok.out⟩
    · by_cases h3 : x = 3
      · subst h3
        go_enter Try.func113, Try.ntmps113
        go_wp2
        go_ret
        exact ⟨2, _, 2, rfl, by repeat (first | exact Below.refl _ _ | assumption | refine below_allocS ?_ _ | refine below_callS ?_ (by assumption) | (refine Below.alloc ?_ (by first | omega | (simp; done) | (simp; omega)) _) | (refine Below.setCell ?_ (by first | omega | (simp; done) | (simp; omega)) _) | refine Below.drew ?_ | refine below_drewN ?_ _ | (refine below_call ?_ (by assumption) (by first | omega | (simp; done) | (simp; omega))) | (refine Below.trans ?_ (by assumption))), f3_lit w 138 [⟨i, 0, 0⟩, ⟨i, 1, 0⟩] Hok.out⟩
      · have HF := Lib.hid (show flAt i x = [] by rw [flAt, if_neg h1, if_neg h2, if_neg h3])
        have t1 : (x == 1) = false := by simpa using h1
        have t2 : (x == 2) = false := by simpa using h2
        have t3 : (x == 3) = false := by simpa using h3
        clear h1 h2 h3
        go_enter Try.func113, Try.ntmps113
        go_wp2
        go_ret
        exact ⟨0, none, 0, rfl, by repeat (first | exact Below.refl _ _ | assumption | refine below_allocS ?_ _ | refine below_callS ?_ (by assumption) | (refine Below.alloc ?_ (by first | omega | (simp; done) | (simp; omega)) _) | (refine Below.setCell ?_ (by first | omega | (simp; done) | (simp; omega)) _) | refine Below.drew ?_ | refine below_drewN ?_ _ | (refine below_call ?_ (by assumption) (by first | omega | (simp; done) | (simp; omega))) | (refine Below.trans ?_ (by assumption))), by rw [HF.out]; exact ⟨rfl, Nat.le_refl _, .inl rfl, (fun _ h => by cases h), fun _ => ⟨rfl, rfl⟩⟩⟩
end Go.Proofs.Ytoaccicfmfiemaa
