/- Ride states of layer 24, walked.; The traffic in a ride state, walked.; The faults in a ride state, walked. -/
import Derived.Test.YtipkncjjkkijfaaGreatDoorL10
import Derived.Test.YtipkncjjkkijfaaGreatDoorFl
import Derived.Test.YtipkncjjkkijfaaGreatDoorAp
namespace Go.Proofs.YtipkncjjkkijfaaGreatDoor
open Go.RowKit
set_option linter.unusedVariables false
set_option linter.unusedSimpArgs false
def stAt (b : Int) (t i : Nat) (x : Int) : Bool := inB x 0 (if i < t then 3 * b - 1 else if (i : Int) = t + b then 2 else 3)
def stP (b : Int) (t : Nat) (st : List Int) (i : Nat) : Bool := match st[i]? with | some x => stAt b t i x | none => true
def rideB (b : Int) (t : Nat) (st : List Int) : Bool := ((st.length : Int) == t + b + 1) && upB (stP b t st) st.length
theorem stP_at {b : Int} {t i : Nat} {st : List Int} {x : Int} (h : st[i]? = some x) : stP b t st i = stAt b t i x := by rw [stP, h]
def rideCode (b : Int) (l st : List Int) : Int := if trafB b l = false then 1 else if rideB b l.length st = false then 2 else 0
def OwnRet0 (E : TypeId) (w : World) (n : Nat) (l : List Int) (e : Ending) (w' : World) : Prop :=
  ∃ a c, e = .returned (.slice a n c) ∧ Below w.heap.size w w' ∧ OwnI E w' w.heap.size a n c l
def TrafRet (E : TypeId) (w : World) (b : Int) (l : List Int) (e : Ending) (w' : World) : Prop :=
  ∃ n a c, e = .returned (.agg #[.int .i64 b, .slice a n c]) ∧ Below w.heap.size w w' ∧ OwnI E w' w.heap.size a n c l
def TrafRetC (E : TypeId) (w : World) (b : Int) (l : List Int) (code : Int) (e : Ending) (w' : World) : Prop :=
  ∃ n a c, e = .returned (.tuple #[.agg #[.int .i64 b, .slice a n c], .int .i64 code]) ∧ Below w.heap.size w w' ∧ OwnI E w' w.heap.size a n c l
def trB (b : Int) (l st : List Int) : Int := if rideCode b l st = 0 then b else 0
def trL (b : Int) (l st : List Int) : List Int := if rideCode b l st = 0 then st.take l.length else []
theorem rideCode_ok {b : Int} {l st : List Int} (h : rideCode b l st = 0) : trafB b l = true ∧ rideB b l.length st = true := by
  unfold rideCode at h
  split at h
  · cases h
  · split at h
    · cases h
    · simp_all
theorem rideB_len {b : Int} {t : Nat} {st : List Int} (h : rideB b t st = true) : (st.length : Int) = t + b + 1 := by
  simp only [rideB, Bool.and_eq_true, beq_iff_eq] at h
  exact h.1
set_option maxHeartbeats 1000000 in
theorem spec_l01Own0 {a : Option Addr} {n c : Nat} {l : List Int} {w : World} (hI : Ints w a n c l) (hn : n ≤ 1048576) :
    Calls Tryz.prog 64 #[.slice a n c] w (OwnRet0 2 w n l) := by
  have HI := Lib.hid hI
  clear hI
  go_enter Tryz.func64, Tryz.ntmps64
  go_wp2_with (at_builtin; refine appendL_i64 rfl _ _ 24 2 rfl Tryz.underlying24 Tryz.infoi64 w.heap.size _ _ _ _ (OwnI.empty w (Nat.le_refl _)) rfl _ _ _ _ rfl (HI.out.keep ((Below.refl _ _).alloc (Nat.le_refl _) _)) (by omega) (by omega) (by simp) ?_; intro a1 c1 w1 hown1 hb1 hg1 hnil1)
  have Hown := Lib.hid hown1
  clear hown1
  go_ret
  exact ⟨a1, c1, by simp, bel, by simpa using Hown.out⟩
/-- the faults that a status x of block i stands for -/
def flAt (i : Nat) (x : Int) : List I3 := if x = 1 then [⟨i, 0, 0⟩] else if x = 2 then [⟨i, 1, 1⟩] else if x = 3 then [⟨i, 0, 0⟩, ⟨i, 1, 0⟩] else []
def flsOf (l : List Int) : List I3 := l.zipIdx.flatMap fun p => flAt p.2 p.1
theorem f3_lit (w : World) (T : TypeId) (l : List I3) (hw : ∀ x ∈ l, x.ok) : F3 (w.alloc (.cells (l.flatMap I3.enc).toArray T)) (some ⟨w.heap.size, 0, none⟩) l.length l.length l := by
  refine ⟨rfl, Nat.le_refl _, .inr ⟨w.heap.size, 0, rfl, by simp, fun i x hx j v hv => ?_⟩, hw, fun h => by cases h⟩
  have := (Blk.made w (l.flatMap I3.enc).toArray T).cell (i * 3 + j)
  rw [Nat.zero_add, this]
  have h2 := flat_get (k := 3) (enc := I3.enc) (fun _ => rfl) hx hv
  simpa using h2
def F3Ret (w : World) (l : List I3) (e : Ending) (w' : World) : Prop := ∃ n a c, e = .returned (.slice a n c) ∧ Below w.heap.size w w' ∧ F3 w' a n c l
theorem flAt_ok {i : Nat} (hi : i ≤ 1048576) (x : Int) : ∀ y ∈ flAt i x, y.ok := by
  intro y hy
  unfold flAt at hy
  have h0 : I64 (i : Int) := ⟨by omega, by omega⟩
  have h1 : I64 0 := ⟨by omega, by omega⟩
  have h2 : I64 1 := ⟨by omega, by omega⟩
  split at hy
  · simp at hy; subst hy; exact ⟨h0, h1, h1⟩
  · split at hy
    · simp at hy; subst hy; exact ⟨h0, h2, h2⟩
    · split at hy
      · simp at hy
        rcases hy with rfl | rfl
        · exact ⟨h0, h1, h1⟩
        · exact ⟨h0, h2, h1⟩
      · simp at hy
theorem flsOf_step {l : List Int} {k : Nat} {x : Int} (h : l[k]? = some x) : flsOf (l.take (k + 1)) = flsOf (l.take k) ++ flAt k x := by
  have hk : k < l.length := (List.getElem?_eq_some_iff.1 h).1
  rw [take_at h, flsOf, flsOf, List.zipIdx_append, List.flatMap_append]
  simp [Nat.min_eq_left (Nat.le_of_lt hk)]
theorem flAt_len (i : Nat) (x : Int) : (flAt i x).length ≤ 2 := by
  unfold flAt; split
  · simp
  · split
    · simp
    · split <;> simp
theorem spec_l24Faults {i : Nat} {x : Int} {w : World} (hi : i ≤ 1048576) :
    Calls Tryz.prog 84 #[.int .i64 i, .int .i64 x] w (F3Ret w (flAt i x)) := by
  have Hok := Lib.hid (flAt_ok hi x)
  by_cases h1 : x = 1
  · subst h1
    go_enter Tryz.func84, Tryz.ntmps84
    go_wp2
    go_ret
    exact ⟨1, _, 1, rfl, bel, f3_lit w 136 [⟨i, 0, 0⟩] Hok.out⟩
  · by_cases h2 : x = 2
    · subst h2
      go_enter Tryz.func84, Tryz.ntmps84
      go_wp2
      go_ret
      exact ⟨1, _, 1, rfl, bel, f3_lit w 136 [⟨i, 1, 1⟩] Hok.out⟩
    · by_cases h3 : x = 3
      · subst h3
        go_enter Tryz.func84, Tryz.ntmps84
        go_wp2
        go_ret
        exact ⟨2, _, 2, rfl, bel, f3_lit w 136 [⟨i, 0, 0⟩, ⟨i, 1, 0⟩] Hok.out⟩
      · have HF := Lib.hid (show flAt i x = [] by rw [flAt, if_neg h1, if_neg h2, if_neg h3])
        have t1 : (x == 1) = false := by simpa using h1
        have t2 : (x == 2) = false := by simpa using h2
        have t3 : (x == 3) = false := by simpa using h3
        clear h1 h2 h3
        go_enter Tryz.func84, Tryz.ntmps84
        go_wp2
        go_ret
        exact ⟨0, none, 0, rfl, bel, by rw [HF.out]; exact ⟨rfl, Nat.le_refl _, .inl rfl, (fun _ h => by cases h), fun _ => ⟨rfl, rfl⟩⟩⟩
end Go.Proofs.YtipkncjjkkijfaaGreatDoor
