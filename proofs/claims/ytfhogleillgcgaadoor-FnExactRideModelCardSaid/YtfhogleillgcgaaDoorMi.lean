/- Rules of the exact laws: the copy of a list of rules. -/
import Derived.Test.YtfhogleillgcgaaDoorMg
import Derived.Test.YtfhogleillgcgaaDoorMh
namespace Go.Proofs.YtfhogleillgcgaaDoor
open Go.RowKit
set_option linter.unusedVariables false
set_option linter.unusedSimpArgs false
theorem Tryd.infoRule : (Tryd.prog.info? 85).map (fun i => (i.zero, i.size, i.bytes)) = some (some (.agg #[.string ⟨#[]⟩, .slice none 0 0, .slice none 0 0]), 3, 64) := by kernel_rfl
def zR : RM × RuD := (⟨⟨#[]⟩, none, 0, 0, none, 0, 0⟩, ⟨⟨#[]⟩, [], []⟩)
theorem OwnF.nil {α : Type} {k : Nat} {enc : α → List Value} {ok : α → Prop} (hk : ∀ x, (enc x).length = k) (E : TypeId) (w : World) (base : Nat) : OwnF k enc ok E w base none 0 0 [] := ⟨World.ownsRow_nil w base E k, (fun _ h => by cases h), rfl, hk⟩
theorem RO.zero (w : World) (lo : Nat) : RO w lo zR := ⟨rfl, Nat.zero_le _, OwnF.nil (enc := I2b.enc) (fun _ => rfl) _ _ _, Nat.zero_le _, OwnF.nil (enc := I2.enc) (fun _ => rfl) _ _ _, Nat.zero_le _⟩
theorem fill_set {α : Type} {l' : List α} {k n : Nat} {x z : α} (hl : l'.length = k) (hk : k < n) : (l' ++ List.replicate (n - k) z).set k x = (l' ++ [x]) ++ List.replicate (n - (k + 1)) z := by
  rw [List.set_append_right _ _ (by omega), hl, Nat.sub_self, show n - k = (n - (k + 1)) + 1 from by omega, List.replicate_succ]
  simp
set_option maxHeartbeats 1000000 in
theorem laws_markTestS {a : Option Addr} {n c base : Nat} {l : List I2b} {q : Int} {w : World} (hI : OwnT w base a n c l) (hn : n ≤ 1048576) (hq0 : 0 ≤ q) (hq1 : q ≤ 1099511627776) :
    Calls Tryd.prog 98 #[.slice a n c, .int .i64 q] w fun e w' => e = .returned (.int .i64 (q + 3 * n)) ∧ Touch w w' n a ∧ OwnT w' base a n c (marks2b q n) := by
  by_cases hn0 : n = 0
  · subst hn0
    have HI := Lib.hid hI
    have hl : l = marks2b q 0 := by have := hI.len; cases l with | nil => rfl | cons => simp at this
    subst hl
    clear hI
    go_enter Tryd.func98, Tryd.ntmps98
    go_wp2
    go_loopw [1, 5] (fun s1 s5 wr => s1 = .int .i64 q ∧ s5 = .int .i64 0 ∧ wr = w) (fun _ _ _ => 0)
    case atStart => exact ⟨rfl, rfl, rfl⟩
    case round =>
      obtain ⟨rfl, rfl, rfl⟩ := hrel
      go_wp2
      go_ret
      exact ⟨ret_int (by omega), ⟨none, grownBy_refl _ _, fun _ h => by cases h⟩, HI.out⟩
  · obtain ⟨g, rfl⟩ := hI.shape (by omega)
    have HI := Lib.hid (show OwnT w base (some ⟨g, 0, none⟩) n c ((marks2b q n).take 0 ++ l.drop 0) by simpa using hI)
    have hlen := hI.len
    have Hlen := Lib.hid hlen
    clear hI hlen
    go_enter Tryd.func98, Tryd.ntmps98
    go_wp2
    go_loopw [1, 5] (fun s1 s5 wr => ∃ j : Nat, j ≤ n ∧ s1 = .int .i64 (q + 3 * j) ∧ s5 = .int .i64 j ∧ w.grownBy wr (some g) ∧ Hid (OwnT wr base (some ⟨g, 0, none⟩) n c ((marks2b q n).take j ++ l.drop j))) (fun _ s5 _ => n - (intOf s5).toNat)
    case atStart => exact ⟨0, Nat.zero_le _, by simp, rfl, grownBy_refl _ _, HI.out⟩
    case round =>
      obtain ⟨j, hj, rfl, rfl, hg, hO⟩ := hrel
      by_cases hlt : j < n
      · obtain ⟨_, _, y, h1, _, _, _, hc0, hc1, hc2⟩ := F2b.get hO.out.flats hlt
        simp only [Option.some.injEq, Addr.mk.injEq, and_true] at h1
        obtain ⟨rfl, rfl⟩ := h1
        simp only [Nat.zero_add] at hc0 hc1 hc2
        have hfz := hO.out.free
        go_wp2
        go_roundw
        case rel =>
          refine ⟨j + 1, by omega, by go_num, by go_num, ?_, ?_⟩
          · repeat (first | exact hg | refine grownBy_set ?_ _ _)
          · have := OwnF.set3 hO.out hlt (x := ⟨q + 3 * (j : Int), q + 3 * (j : Int) + 1, (q + 3 * (j : Int) + 1 + 1) % 3 == 0⟩) (by simp only [I2b.ok, I64]; omega) rfl
            rw [show (⟨q + 3 * (j : Int), q + 3 * (j : Int) + 1, (q + 3 * (j : Int) + 1 + 1) % 3 == 0⟩ : I2b) = (fun i : Nat => (⟨q + 3 * (i : Int), q + 3 * (i : Int) + 1, (q + 3 * (i : Int) + 1 + 1) % 3 == 0⟩ : I2b)) j from rfl, marks2b, mix_set hlt Hlen.out] at this
            exact this
        case measure => simp [intOf]; omega
      · go_wp2
        go_ret
        have e : j = n := by omega
        have h1 := hO.out
        rw [e, List.drop_of_length_le (by have := Hlen.out; omega), List.append_nil, List.take_of_length_le (by simp [marks2b])] at h1
        exact ⟨ret_int (by rw [e]), ⟨_, hg, fun b hb => by cases hb; exact ⟨by omega, rfl⟩⟩, h1⟩
set_option maxHeartbeats 1000000 in
theorem laws_heldTestS {a : Option Addr} {n c : Nat} {q : Int} {w : World} (hI : F2b w a n c (marks2b q n)) (hn : n ≤ 1048576) (hq0 : 0 ≤ q) (hq1 : q ≤ 1099511627776) :
    Calls Tryd.prog 100 #[.slice a n c, .int .i64 q] w fun e w' => e = .returned (.int .i64 (q + 3 * n)) ∧ w = w' := by
  have HI := Lib.hid hI
  clear hI
  go_enter Tryd.func100, Tryd.ntmps100
  go_wp2
  go_loop [1, 5] (fun s1 s5 => ∃ j : Nat, j ≤ n ∧ s1 = .int .i64 (q + 3 * j) ∧ s5 = .int .i64 j) (fun _ s5 => n - (intOf s5).toNat)
  case atStart => exact ⟨0, Nat.zero_le _, by simp, rfl⟩
  case round =>
    obtain ⟨j, hj, rfl, rfl⟩ := hrel
    by_cases hlt : j < n
    · obtain ⟨b, off, x, rfl, hb, hx, hwf, hc0, hc1, hc2⟩ := F2b.get HI.out hlt
      rw [marks2b, range_get hlt] at hx
      simp only [Option.some.injEq] at hx
      subst hx
      go_wp2
      go_round
      case rel => exact ⟨j + 1, by omega, by go_num, by go_num⟩
      case measure => simp [intOf]; omega
    · go_wp2
      go_ret
      have e : j = n := by omega
      exact ⟨ret_int (by rw [e]), rfl⟩
end Go.Proofs.YtfhogleillgcgaaDoor
