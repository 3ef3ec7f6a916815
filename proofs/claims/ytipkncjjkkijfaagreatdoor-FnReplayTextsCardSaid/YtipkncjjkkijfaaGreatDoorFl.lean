/- Slices of records: the copies, comparisons and marks of the exact laws, and Go's generic functions, walked. -/
import Derived.Test.YtipkncjjkkijfaaGreatDoorSl
import Derived.Test.YtipkncjjkkijfaaGreatDoorEx
namespace Go.Proofs.YtipkncjjkkijfaaGreatDoor
open Go.RowKit
set_option linter.unusedVariables false
set_option linter.unusedSimpArgs false
/-- what a function value g bound to lb answers at a record -/
def PredF {α : Type} (P : Program) (g : Nat) (lb : Array Value) (enc : α → List Value) (ok : α → Prop) (p : α → Bool) (w : World) : Prop :=
  ∀ (W : World) (x : α), ok x → Below w.heap.size w W → Calls P g (#[.agg (enc x).toArray] ++ lb) W fun e w' => e = .returned (.bool (p x)) ∧ Below W.heap.size W w'
theorem flat_replicate {α : Type} {enc : α → List Value} {z : α} {zc : Array Value} (h : enc z = zc.toList) (hk : 0 < zc.size) (n : Nat) : (madeCells zc (n * zc.size)).toList = (List.replicate n z).flatMap enc := by
  apply List.ext_getElem?
  intro j
  have hflat : ∀ m, (List.replicate m z).flatMap enc = (List.range (m * zc.size)).map (zc[· % zc.size]!) := by
    intro m
    induction m with
    | zero => simp
    | succ m ih =>
      rw [List.replicate_succ', List.flatMap_append, ih, Nat.add_mul, Nat.one_mul, List.range_add, List.map_append, List.map_map]
      congr 1
      rw [List.flatMap_singleton, h]
      apply List.ext_getElem?
      intro i
      by_cases hi : i < zc.size
      · simp [hi, Function.comp, Nat.mul_add_mod_of_lt, Nat.mod_eq_of_lt]
      · simp [hi]
  rw [hflat]
  simp [madeCells]
theorem Tryz.infoSensorFault : (Tryz.prog.info? 136).map (fun i => (i.zero, i.size, i.bytes)) = some (some (.agg #[.int .i64 0, .int .i64 0, .int .i64 0]), 3, 24) := by kernel_rfl
theorem Tryz.infoReplayEvent : (Tryz.prog.info? 38).map (fun i => (i.zero, i.size, i.bytes)) = some (some (.agg #[.int .i64 0, .int .i64 0, .int .i64 0]), 3, 24) := by kernel_rfl
set_option maxHeartbeats 1000000 in
theorem slices_IndexFunc_ReplayEvent {g : Nat} {lb : Array Value} {p : I3 → Bool} {a : Option Addr} {n c : Nat} {l : List I3} {w : World}
    (eg : ∀ args w, (callFunc g args).run Tryz.prog w = .ok (.enter g args) w) (hp : PredF Tryz.prog g lb I3.enc I3.ok p w) (hI : F3 w a n c l) (hn : n ≤ 1048576) :
    Calls Tryz.prog 54 #[.slice a n c, .func (.func g) #[] lb] w fun e w' => e = .returned (.int .i64 (idxF p l)) ∧ Below w.heap.size w w' := by
  have HP := Lib.hid hp
  clear hp
  go_enter Tryz.func54, Tryz.ntmps54
  go_wp2
  go_loopg [5, 8] n (fun gg _ s8 wr => ∃ kk : Nat, kk ≤ n ∧ n - kk ≤ gg ∧ s8 = .int .i64 kk ∧ Below w.heap.size w wr ∧ Hid ((l.take kk).any p = false))
  case atStart => exact ⟨0, Nat.zero_le _, by omega, rfl, Below.refl _ _, rfl⟩
  case round =>
    obtain ⟨kk, hkk, hg, rfl, hbl, A⟩ := hrel
    have HI := Lib.hid hI
    by_cases hlt : kk < n
    · obtain ⟨b, off, x, rfl, hb, hx, hwf, hc0, hc1, hc2⟩ := F3.get (hI.keep hbl) hlt
      have Hx := Lib.hid hx
      have hcall := HP.out _ x hwf hbl
      clear hx hI
      cases hq : p x with
      | true =>
        have Hq := Lib.hid hq
        rw [hq] at hcall
        clear hq
        go_wp2_with (go_at_fn g; refine hcall.mono ?_; rintro e w1 ⟨rfl, hb1⟩)
        go_ret
        exact ⟨ret_int (by rw [idxF_hit Hx.out Hq.out A.out]), below_call hbl hb1 hbl.size⟩
      | false =>
        have Hq := Lib.hid hq
        rw [hq] at hcall
        clear hq
        go_wp2_with (go_at_fn g; refine hcall.mono ?_; rintro e w1 ⟨rfl, hb1⟩)
        go_roundg (n - (kk + 1))
        case measure => omega
        case rel => exact ⟨kk + 1, by omega, by omega, by go_num, below_call hbl hb1 hbl.size, any_take_step Hx.out A.out Hq.out⟩
    · clear hI
      go_wp2
      go_ret
      have e : l.take kk = l := take_len (by have := HI.out.len; omega)
      have h1 := A.out
      rw [e] at h1
      exact ⟨ret_int (by rw [idxF_miss h1]), hbl⟩
theorem slices_ContainsFunc_ReplayEvent {g : Nat} {lb : Array Value} {p : I3 → Bool} {a : Option Addr} {n c : Nat} {l : List I3} {w : World}
    (eg : ∀ args w, (callFunc g args).run Tryz.prog w = .ok (.enter g args) w) (hp : PredF Tryz.prog g lb I3.enc I3.ok p w) (hI : F3 w a n c l) (hn : n ≤ 1048576) :
    Calls Tryz.prog 36 #[.slice a n c, .func (.func g) #[] lb] w fun e w' => e = .returned (.bool (l.any p)) ∧ Below w.heap.size w w' := by
  have h := idxF_nonneg p l
  have hc := slices_IndexFunc_ReplayEvent eg hp hI hn
  generalize idxF p l = r at h hc
  have H := Lib.hid h
  have HI := Lib.hid hI
  have HP := Lib.hid hp
  clear h hI hp
  go_enter Tryz.func36, Tryz.ntmps36
  go_wp2_with fail
  refine Calls.mono hc ?_
  rintro e w1 ⟨rfl, hb1⟩
  go_wp2
  go_ret
  exact ⟨ret_bool H.out, hb1⟩
end Go.Proofs.YtipkncjjkkijfaaGreatDoor
