/- Generic functions of Go's package slices, walked over int64. -/
import Derived.Test.YtjneodmohkpckaaGreatDoorL01
import Derived.Test.YtjneodmohkpckaaGreatDoorEx
import Derived.Lib.SliceRun
namespace Go.Proofs.YtjneodmohkpckaaGreatDoor
open Go.RowKit
set_option linter.unusedVariables false
set_option linter.unusedSimpArgs false

/-- what a function value g bound to lb answers at an int64 -/
def PredI (P : Program) (g : Nat) (lb : Array Value) (p : Int → Bool) (w : World) : Prop :=
  ∀ (W : World) (x : Int), I64 x → Below w.heap.size w W → Calls P g (#[.int .i64 x] ++ lb) W fun e w' => e = .returned (.bool (p x)) ∧ Below W.heap.size W w'
theorem PredI.later {P : Program} {g : Nat} {lb : Array Value} {p : Int → Bool} {w w' : World} (h : PredI P g lb p w) (hb : Below w.heap.size w w') : PredI P g lb p w' :=
  fun W x hx h' => h W x hx (below_call hb h' hb.size)
/-- the place of the first element at which p holds, or -1 -/
def idxF {α : Type} (p : α → Bool) : List α → Int
  | [] => -1
  | x :: r => if p x then 0 else (if idxF p r < 0 then -1 else idxF p r + 1)
theorem idxF_nonneg {α : Type} (p : α → Bool) (l : List α) : decide (0 ≤ idxF p l) = l.any p := by
  induction l with
  | nil => simp [idxF]
  | cons x r ih =>
    rw [List.any_cons, ← ih, idxF]
    by_cases h : p x = true
    · simp [h]
    · by_cases h' : idxF p r < 0
      · simp [h, h']
      · simp [h, h']; omega
theorem idxF_ge {α : Type} (p : α → Bool) (l : List α) : -1 ≤ idxF p l := by
  induction l with
  | nil => simp [idxF]
  | cons x r ih => rw [idxF]; split <;> (try split) <;> omega
theorem idxF_lt {α : Type} (p : α → Bool) (l : List α) : idxF p l < l.length := by
  induction l with
  | nil => simp [idxF]
  | cons x r ih => rw [idxF, List.length_cons]; split <;> (try split) <;> omega
theorem idxF_hit {α : Type} {p : α → Bool} {l : List α} {k : Nat} {x : α} (hk : l[k]? = some x) (hp : p x = true) (hb : (l.take k).any p = false) : idxF p l = k := by
  induction l generalizing k with
  | nil => simp at hk
  | cons y r ih =>
    cases k with
    | zero => simp at hk; subst hk; simp [idxF, hp]
    | succ k =>
      simp only [List.take_succ_cons, List.any_cons, Bool.or_eq_false_iff] at hb
      have := ih (k := k) (by simpa using hk) hb.2
      rw [idxF, this]; simp [hb.1]; omega
theorem idxF_miss {α : Type} {p : α → Bool} {l : List α} (hb : l.any p = false) : idxF p l = -1 := by
  have h := idxF_nonneg p l
  have h' := idxF_ge p l
  rw [hb] at h
  have := of_decide_eq_false h
  omega
set_option maxHeartbeats 1000000 in
theorem slices_Index_i64 {v : Int} {a : Option Addr} {n c : Nat} {l : List Int} {w : World} (hI : Ints w a n c l) (hn : n ≤ 1048576) :
    Calls Tryz.prog 184 #[.slice a n c, .int .i64 v] w fun e w' => e = .returned (.int .i64 (idxF (fun y => v == y) l)) ∧ w = w' := by
  have HI := Lib.hid hI
  clear hI
  go_enter Tryz.func184, Tryz.ntmps184
  go_wp2
  go_loop [5, 8] (fun _ s8 => ∃ kk : Nat, kk ≤ n ∧ s8 = .int .i64 kk ∧ Hid ((l.take kk).any (fun y => v == y) = false)) (fun _ i => n - (intOf i).toNat)
  case atStart => exact ⟨0, Nat.zero_le _, rfl, rfl⟩
  case round =>
    obtain ⟨kk, hkk, rfl, A⟩ := hrel
    by_cases hlt : kk < n
    · obtain ⟨b, off, x, rfl, hb, hx, hcell, hwf⟩ := HI.out.at hlt
      have Hx := Lib.hid hx
      clear hx
      cases hq : (v == x)
      · have Hq := Lib.hid hq
        go_wp2
        go_round
        case rel => exact ⟨kk + 1, by omega, by go_num, any_take_step Hx.out A.out Hq.out⟩
        case measure => simp [intOf]; omega
      · have Hq := Lib.hid hq
        go_wp2
        go_ret
        exact ⟨ret_int (by rw [idxF_hit Hx.out Hq.out A.out]), rfl⟩
    · go_wp2
      go_ret
      have e : l.take kk = l := take_len (by have := HI.out.len; omega)
      have h1 := A.out
      rw [e] at h1
      exact ⟨ret_int (by rw [idxF_miss h1]), rfl⟩
theorem slices_Contains_i64 {v : Int} {a : Option Addr} {n c : Nat} {l : List Int} {w : World} (hI : Ints w a n c l) (hn : n ≤ 1048576) :
    Calls Tryz.prog 176 #[.slice a n c, .int .i64 v] w fun e w' => e = .returned (.bool (l.any fun y => v == y)) ∧ w = w' := by
  have h := idxF_nonneg (fun y => v == y) l
  have hc := slices_Index_i64 (v := v) hI hn
  generalize idxF (fun y => v == y) l = r at h hc
  have H := Lib.hid h
  have HI := Lib.hid hI
  clear h hI
  go_enter Tryz.func176, Tryz.ntmps176
  go_wp2_with fail
  refine Calls.mono hc ?_
  rintro e _ ⟨rfl, rfl⟩
  go_wp2
  go_ret
  exact ⟨ret_bool H.out, rfl⟩
end Go.Proofs.YtjneodmohkpckaaGreatDoor
