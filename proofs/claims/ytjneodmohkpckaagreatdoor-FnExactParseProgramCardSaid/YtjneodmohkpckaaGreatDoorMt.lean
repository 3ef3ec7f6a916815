/- The texts with which the exact laws mark strings, walked. -/
import Derived.Test.YtjneodmohkpckaaGreatDoorL01
import Derived.Laws.BytesArg
namespace Go.Proofs.YtjneodmohkpckaaGreatDoor
open Go.RowKit
set_option linter.unusedVariables false
set_option linter.unusedSimpArgs false
/-- the digits of q ahead of t -/
def digT : Nat → Int → ByteArray → ByteArray
  | 0, _, t => t
  | f + 1, q, t => if 0 < q then digT f (q / 10) (strOfNums [48 + q % 10] ++ t) else t
def markT (k : Int) : ByteArray := if k ≤ 0 then ⟨#[109, 48]⟩ else ⟨#[109]⟩ ++ digT k.toNat k ⟨#[]⟩
theorem digT_size (f : Nat) (q : Int) (t : ByteArray) : (digT f q t).size ≤ f + t.size := by
  induction f generalizing q t with
  | zero => simp [digT]
  | succ f ih =>
    rw [digT]
    split
    · refine Nat.le_trans (ih _ _) ?_
      rw [ByteArray.size_append, show (strOfNums [48 + q % 10]).size = 1 from rfl]; omega
    · omega
theorem digT_done {f : Nat} {q : Int} {t : ByteArray} (h : q ≤ 0) : digT f q t = t := by
  cases f with
  | zero => rfl
  | succ f => rw [digT, if_neg (by omega)]
theorem digT_step {f : Nat} {q : Int} {t : ByteArray} (h : 0 < q) (hf : q ≤ f) : ∃ f' : Nat, q / 10 ≤ f' ∧ digT f q t = digT f' (q / 10) (strOfNums [48 + q % 10] ++ t) := by
  cases f with
  | zero => omega
  | succ f => exact ⟨f, by omega, by rw [digT, if_pos h]⟩
theorem markT_size {k : Int} (h0 : 0 ≤ k) : ((markT k).size : Int) ≤ k + 2 := by
  rw [markT]
  split
  · show (2 : Int) ≤ _; omega
  · rw [ByteArray.size_append]
    have := digT_size k.toNat k ⟨#[]⟩
    have e : (⟨#[]⟩ : ByteArray).size = 0 := rfl
    have e2 : (⟨#[109]⟩ : ByteArray).size = 1 := rfl
    omega
set_option maxHeartbeats 1000000 in
set_option maxRecDepth 20000 in
theorem laws_markText {k : Int} {w : World} (h0 : 0 ≤ k) (h1 : k ≤ 1099511627776) : Calls Tryz.prog 127 #[.int .i64 k] w fun e w' => e = .returned (.string (markT k)) ∧ Below w.heap.size w w' := by
  by_cases hk : k ≤ 0
  · have HT := Lib.hid (show markT k = ⟨#[109, 48]⟩ from if_pos hk)
    go_enter Tryz.func127, Tryz.ntmps127
    go_wp2
    go_ret
    exact ⟨by rw [HT.out]; rfl, Below.refl _ _⟩
  · have HT := Lib.hid (show markT k = ⟨#[109]⟩ ++ digT k.toNat k ⟨#[]⟩ from if_neg hk)
    go_enter Tryz.func127, Tryz.ntmps127
    go_wp2_with fail
    go_loopw [0, 3] (fun s0 s3 wr => ∃ (q : Int) (t : ByteArray) (f : Nat), s0 = .int .i64 q ∧ s3 = .string t ∧ 0 ≤ q ∧ (t.size : Int) + q ≤ 1099511627776 ∧ Below w.heap.size w wr ∧ Hid (q ≤ f ∧ digT f q t = digT k.toNat k ⟨#[]⟩)) (fun s0 _ _ => (intOf s0).toNat)
    case atStart => exact ⟨k, ⟨#[]⟩, k.toNat, rfl, rfl, h0, by show (0 : Int) + k ≤ _; omega, Below.refl _ _, by omega, rfl⟩
    case round =>
      obtain ⟨q, t, f, rfl, rfl, hq0, hq1, hbl, A⟩ := hrel
      have hsz := hbl.size
      by_cases hlt : 0 < q
      · have hd0 : 0 ≤ q % 10 := Int.emod_nonneg _ (by omega)
        have hd1 : q % 10 < 10 := Int.emod_lt_of_pos _ (by omega)
        have hcv := run_convert_bytes_arg (P := Tryz.prog) (wr.alloc (.cells #[.int .u8 (48 + q % 10)] 5)) 22 5 Tryz.underlying22 Tryz.underlying5 wr.heap.size 0 1 1 [48 + q % 10] rfl (by intro i hi; (obtain rfl : i = 0 := (by omega)); exact (Blk.made wr #[.int .u8 (48 + q % 10)] 5).cell 0) 9 Tryz.underlying9
        have hsz1 : (strOfNums [48 + q % 10]).size = 1 := rfl
        have HA := Lib.hid (digT_step (t := t) hlt A.out.1)
        have HA2 := Lib.hid A.out.2
        clear A
        generalize strOfNums [48 + q % 10] = S at hcv hsz1 HA
        have hts : t.size ≤ 1099511627776 := by omega
        go_wp2_with fail
        go_roundw
        case rel => 
          obtain ⟨f', h1, h2⟩ := HA.out
          exact ⟨q / 10, S ++ t, f', rfl, rfl, by omega, by rw [ByteArray.size_append, hsz1]; omega, bel, h1, by rw [← h2]; exact HA2.out⟩
        case measure => simp [intOf]; omega
      · have hlt' : q ≤ 0 := by omega
        have hts : t.size ≤ 1099511627776 := by omega
        have HA := Lib.hid (by have h := A.out.2; rw [digT_done hlt'] at h; exact h)
        clear A
        go_wp2
        go_ret
        exact ⟨by rw [HT.out, ← HA.out]; rfl, hbl⟩
end Go.Proofs.YtjneodmohkpckaaGreatDoor
