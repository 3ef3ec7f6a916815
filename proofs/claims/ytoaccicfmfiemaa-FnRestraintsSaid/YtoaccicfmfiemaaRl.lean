/- The dice of the laws, walked. -/
import Derived.Test.YtoaccicfmfiemaaDr
import Derived.Laws.Bits64b
namespace Go.Proofs.Ytoaccicfmfiemaa
open Go.RowKit
set_option linter.unusedVariables false
set_option linter.unusedSimpArgs false
def U64 (x : Int) : Prop := 0 ≤ x ∧ x ≤ 18446744073709551615
theorem u64_wrap (x : Int) : U64 (IntKind.u64.wrap x) := by
  simp [U64, IntKind.wrap, IntKind.signed, IntKind.bits]
  omega
theorem and24 {u : Int} (h : U64 u) : 0 ≤ bits BinOp.and IntKind.u64 (u / 8589934592) 16777215 ∧ bits BinOp.and IntKind.u64 (u / 8589934592) 16777215 ≤ 16777215 := by
  obtain ⟨h0, h1⟩ := h
  obtain ⟨q, hq⟩ := Int.eq_ofNat_of_zero_le (a := u / 8589934592) (by omega)
  rw [hq, show (16777215 : Int) = ((16777215 : Nat) : Int) from rfl, bits_and_u64_nat q 16777215 (by omega) (by omega)]
  have := Nat.and_le_right (n := q) (m := 16777215)
  omega
def Dice (T : TypeId) (w : World) (g : Nat) (a : Option Addr) (n c : Nat) : Prop := ∃ h, U64 h ∧ Blk w g #[.slice a n c, .int .i64 0, .int .u64 h] T
set_option maxHeartbeats 1000000 in
theorem laws_roll {a : Option Addr} {n c : Nat} {sd : Int} {w : World} (hB : Byts w a n c) (hn : n ≤ 4096) :
    Calls Try.prog 39 #[.slice a n c, .int .u64 sd] w fun e w' => ∃ g, e = .returned (.pointer (some ⟨g, 0, none⟩)) ∧ Below w.heap.size w w' ∧ w.heap.size ≤ g ∧ Dice 127 w' g a n c := by
  have HB := Lib.hid hB
  clear hB
  go_enter Try.func39, Try.ntmps39
  go_wp2_with fail
  go_loopw [6] (fun s6 wr => ∃ k : Nat, k ≤ n ∧ s6 = .int .i64 k ∧ Below w.heap.size w wr ∧ Hid (Dice 127 wr w.heap.size a n c)) (fun s6 _ => n - (intOf s6).toNat)
  case atStart => exact ⟨0, Nat.zero_le _, rfl, by repeat (first | exact Below.refl _ _ | assumption | refine below_allocS ?_ _ | refine below_callS ?_ (by assumption) | (refine Below.alloc ?_ (by first | omega | (simp; done) | (simp; omega)) _) | (refine Below.setCell ?_ (by first | omega | (simp; done) | (simp; omega)) _) | refine Below.drew ?_ | refine below_drewN ?_ _ | (refine below_call ?_ (by assumption) (by first | omega | (simp; done) | (simp; omega))) | (refine Below.trans ?_ (by assumption))), _, u64_wrap _, Blk.made _ _ _⟩
  case round =>
    obtain ⟨k, hk, rfl, hbl, D⟩ := hrel
    obtain ⟨h, hh, hb⟩ := D.out
    have B := Lib.hid hb
    have c0 := hb.cell 0
    have c1 := hb.cell 1
    have c2 := hb.cell 2
    have z1 := hb.lt
    have hfz := hb.free
    simp at c0 c1 c2
    have HH := Lib.hid hh
    clear D hb hh
    have hk0 : (0 : Int) ≤ (k : Int) := by omega
    by_cases hlt : k < n
    · obtain ⟨b, off, x, rfl, hb, hx0, hx1, hcell⟩ := (HB.out.keep hbl).at hlt
      have hk1 : (k : Int) < (n : Int) := by omega
      go_wp2
      go_region
      go_wp2
      go_roundw
      case rel => exact ⟨k + 1, by omega, by go_num, by repeat (first | exact Below.refl _ _ | assumption | refine below_allocS ?_ _ | refine below_callS ?_ (by assumption) | (refine Below.alloc ?_ (by first | omega | (simp; done) | (simp; omega)) _) | (refine Below.setCell ?_ (by first | omega | (simp; done) | (simp; omega)) _) | refine Below.drew ?_ | refine below_drewN ?_ _ | (refine below_call ?_ (by assumption) (by first | omega | (simp; done) | (simp; omega))) | (refine Below.trans ?_ (by assumption))), _, u64_wrap _, Blk.drew (B.out.set 2 _)⟩
      case measure => simp [intOf]; omega
    · have hk1 : ¬ (k : Int) < (n : Int) := by omega
      go_wp2
      go_ret
      exact ⟨w.heap.size, rfl, hbl, Nat.le_refl _, h, HH.out, B.out⟩
set_option maxHeartbeats 1000000 in
theorem laws_below {a : Option Addr} {g n c : Nat} {m : Int} {w : World} (hB : Byts w a n c) (hD : Dice 127 w g a n c) (hne : 0 < n → ∀ q off, a = some ⟨q, off, none⟩ → q ≠ g) (h1 : 1 ≤ m) (h2 : m ≤ 1000000) (hn : n ≤ 4096) :
    Calls Try.prog 40 #[.pointer (some ⟨g, 0, none⟩), .int .i64 m] w fun e w' => ∃ r, e = .returned (.int .i64 r) ∧ 0 ≤ r ∧ r < m ∧ Only g (g + 1) w w' := by
  have HB := Lib.hid hB
  obtain ⟨h, hh, hb⟩ := hD
  have B := Lib.hid hb
  have c0 := hb.cell 0
  have c1 := hb.cell 1
  have c2 := hb.cell 2
  have z1 := hb.lt
  have hfz := hb.free
  simp at c0 c1 c2
  clear hb hB
  by_cases hlt : 0 < n
  · obtain ⟨b, off, x, rfl, hb, hx0, hx1, hcell⟩ := HB.out.at hlt
    have hbg := hne hlt b off rfl
    have hgb : g ≠ b := fun e => hbg e.symm
    simp only [Nat.add_zero] at hcell
    clear hne
    have hk1 : (0 : Int) < (n : Int) := by omega
    go_enter Try.func40, Try.ntmps40
    go_wp2
    have hX := and24 (u64_wrap (IntKind.u64.wrap (h * 6364136223846793005) + 1442695040888963407))
    generalize bits BinOp.and IntKind.u64 (IntKind.u64.wrap (IntKind.u64.wrap (h * 6364136223846793005) + 1442695040888963407) / 8589934592) 16777215 = X at *
    obtain ⟨x0, x1⟩ := hX
    rw [show wrap64 X = X from (by unfold wrap64; omega)]
    have e2 : IntKind.i64.wrap x = x := IntWalk.i64_in _ (by omega)
    have e3 : IntKind.i64.wrap (X + x) = X + x := IntWalk.i64_in _ (by omega)
    have hm0 : ¬ m = 0 := by omega
    go_quiet (fail)
    go_wp2
    go_quiet (fail)
    go_wp2
    go_ret
    exact ⟨_, rfl, Int.emod_nonneg _ (by omega), Int.emod_lt_of_pos _ (by omega), by repeat (first | with_reducible exact Only.refl _ _ _ | with_reducible assumption | with_reducible refine Only.set ?_ (by first | omega | (simp; omega)) _ _ | with_reducible refine Only.setN ?_ (by first | omega | (simp; omega)) _ _ | with_reducible refine Only.alloc ?_ _ | with_reducible refine Only.drew ?_ | with_reducible refine Only.drewN ?_ _ | with_reducible refine Only.then ?_ (by assumption) | with_reducible refine Only.trans ?_ (by assumption))⟩
  · have hk1 : ¬ (0 : Int) < (n : Int) := by omega
    go_enter Try.func40, Try.ntmps40
    go_wp2
    have hX := and24 (u64_wrap (IntKind.u64.wrap (h * 6364136223846793005) + 1442695040888963407))
    generalize bits BinOp.and IntKind.u64 (IntKind.u64.wrap (IntKind.u64.wrap (h * 6364136223846793005) + 1442695040888963407) / 8589934592) 16777215 = X at *
    obtain ⟨x0, x1⟩ := hX
    rw [show wrap64 X = X from (by unfold wrap64; omega)]
    have hm0 : ¬ m = 0 := by omega
    go_quiet (fail)
    go_wp2
    go_ret
    exact ⟨_, rfl, Int.emod_nonneg _ (by omega), Int.emod_lt_of_pos _ (by omega), by repeat (first | with_reducible exact Only.refl _ _ _ | with_reducible assumption | with_reducible refine Only.set ?_ (by first | omega | (simp; omega)) _ _ | with_reducible refine Only.setN ?_ (by first | omega | (simp; omega)) _ _ | with_reducible refine Only.alloc ?_ _ | with_reducible refine Only.drew ?_ | with_reducible refine Only.drewN ?_ _ | with_reducible refine Only.then ?_ (by assumption) | with_reducible refine Only.trans ?_ (by assumption))⟩
end Go.Proofs.Ytoaccicfmfiemaa
