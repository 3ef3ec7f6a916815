/- Generic functions of Go's package slices, walked over int64. -/
import Derived.Test.YtipkncjjkkijfaaGreatDoorL01
import Derived.Test.YtipkncjjkkijfaaGreatDoorEx
import Derived.Lib.SliceRun
namespace Go.Proofs.YtipkncjjkkijfaaGreatDoor
open Go.RowKit
set_option linter.unusedVariables false
set_option linter.unusedSimpArgs false

/-- what a function value g bound to lb answers at an int64 -/
def PredI (P : Program) (g : Nat) (lb : Array Value) (p : Int → Bool) (w : World) : Prop :=
  ∀ (W : World) (x : Int), I64 x → Below w.heap.size w W → Calls P g (#[.int .i64 x] ++ lb) W fun e w' => e = .returned (.bool (p x)) ∧ Below W.heap.size W w'
theorem PredI.later {P : Program} {g : Nat} {lb : Array Value} {p : Int → Bool} {w w' : World} (h : PredI P g lb p w) (hb : Below w.heap.size w w') : PredI P g lb p w' :=
  fun W x hx h' => h W x hx (below_call hb h' hb.size)
/-- the place of the first element at which p holds, or -1 -/
def idxF {α : Type} (p : α → Bool) : List α → Int
  | [] => -1
  | x :: r => if p x then 0 else (if idxF p r < 0 then -1 else idxF p r + 1)
theorem idxF_nonneg {α : Type} (p : α → Bool) (l : List α) : decide (0 ≤ idxF p l) = l.any p := by
  induction l with
  | nil => simp [idxF]
  | cons x r ih =>
    rw [List.any_cons, ← ih, idxF]
    by_cases h : p x = true
    · simp [h]
    · by_cases h' : idxF p r < 0
      · simp [h, h']
      · simp [h, h']; omega
theorem idxF_ge {α : Type} (p : α → Bool) (l : List α) : -1 ≤ idxF p l := by
  induction l with
  | nil => simp [idxF]
  | cons x r ih => rw [idxF]; split <;> (try split) <;> omega
theorem idxF_lt {α : Type} (p : α → Bool) (l : List α) : idxF p l < l.length := by
  induction l with
  | nil => simp [idxF]
  | cons x r ih => rw [idxF, List.length_cons]; split <;> (try split) <;> omega
theorem idxF_hit {α : Type} {p : α → Bool} {l : List α} {k : Nat} {x : α} (hk : l[k]? = some x) (hp : p x = true) (hb : (l.take k).any p = false) : idxF p l = k := by
  induction l generalizing k with
  | nil => simp at hk
  | cons y r ih =>
    cases k with
    | zero => simp at hk; subst hk; simp [idxF, hp]
    | succ k =>
      simp only [List.take_succ_cons, List.any_cons, Bool.or_eq_false_iff] at hb
      have := ih (k := k) (by simpa using hk) hb.2
      rw [idxF, this]; simp [hb.1]; omega
theorem idxF_miss {α : Type} {p : α → Bool} {l : List α} (hb : l.any p = false) : idxF p l = -1 := by
  have h := idxF_nonneg p l
  have h' := idxF_ge p l
  rw [hb] at h
  have := of_decide_eq_false h
  omega
set_option maxHeartbeats 1000000 in
theorem slices_IndexFunc_i64 {g : Nat} {lb : Array Value} {p : Int → Bool} {a : Option Addr} {n c : Nat} {l : List Int} {w : World}
    (eg : ∀ args w, (callFunc g args).run Tryz.prog w = .ok (.enter g args) w) (hp : PredI Tryz.prog g lb p w) (hI : Ints w a n c l) (hn : n ≤ 1048576) :
    Calls Tryz.prog 58 #[.slice a n c, .func (.func g) #[] lb] w fun e w' => e = .returned (.int .i64 (idxF p l)) ∧ Below w.heap.size w w' := by
  have HP := Lib.hid hp
  clear hp
  go_enter Tryz.func58, Tryz.ntmps58
  go_wp2
  go_loopg [5, 8] n (fun gg _ s8 wr => ∃ kk : Nat, kk ≤ n ∧ n - kk ≤ gg ∧ s8 = .int .i64 kk ∧ Below w.heap.size w wr ∧ Hid ((l.take kk).any p = false))
  case atStart => exact ⟨0, Nat.zero_le _, by omega, rfl, Below.refl _ _, rfl⟩
  case round =>
    obtain ⟨kk, hkk, hg, rfl, hbl, A⟩ := hrel
    have HI := Lib.hid hI
    by_cases hlt : kk < n
    · obtain ⟨b, off, x, rfl, hb, hx, hcell, hwf⟩ := (hI.keep hbl).at hlt
      have Hx := Lib.hid hx
      have hcall := HP.out _ x hwf hbl
      clear hx hI
      cases hq : p x with
      | true =>
        have Hq := Lib.hid hq
        rw [hq] at hcall
        clear hq
        go_wp2_with (go_at_fn g; refine hcall.mono ?_; rintro e w1 ⟨rfl, hb1⟩)
        go_ret
        exact ⟨ret_int (by rw [idxF_hit Hx.out Hq.out A.out]), below_call hbl hb1 hbl.size⟩
      | false =>
        have Hq := Lib.hid hq
        rw [hq] at hcall
        clear hq
        go_wp2_with (go_at_fn g; refine hcall.mono ?_; rintro e w1 ⟨rfl, hb1⟩)
        go_roundg (n - (kk + 1))
        case measure => omega
        case rel => exact ⟨kk + 1, by omega, by omega, by go_num, below_call hbl hb1 hbl.size, any_take_step Hx.out A.out Hq.out⟩
    · clear hI
      go_wp2
      go_ret
      have e : l.take kk = l := take_len (by have := HI.out.len; omega)
      have h1 := A.out
      rw [e] at h1
      exact ⟨ret_int (by rw [idxF_miss h1]), hbl⟩
theorem slices_ContainsFunc_i64 {g : Nat} {lb : Array Value} {p : Int → Bool} {a : Option Addr} {n c : Nat} {l : List Int} {w : World}
    (eg : ∀ args w, (callFunc g args).run Tryz.prog w = .ok (.enter g args) w) (hp : PredI Tryz.prog g lb p w) (hI : Ints w a n c l) (hn : n ≤ 1048576) :
    Calls Tryz.prog 45 #[.slice a n c, .func (.func g) #[] lb] w fun e w' => e = .returned (.bool (l.any p)) ∧ Below w.heap.size w w' := by
  have h := idxF_nonneg p l
  have hc := slices_IndexFunc_i64 eg hp hI hn
  generalize idxF p l = r at h hc
  have H := Lib.hid h
  have HI := Lib.hid hI
  have HP := Lib.hid hp
  clear h hI hp
  go_enter Tryz.func45, Tryz.ntmps45
  go_wp2_with fail
  refine Calls.mono hc ?_
  rintro e w1 ⟨rfl, hb1⟩
  go_wp2
  go_ret
  exact ⟨ret_bool H.out, hb1⟩
end Go.Proofs.YtipkncjjkkijfaaGreatDoor
