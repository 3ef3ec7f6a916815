/- Slices of strings. -/
import Derived.Test.YtjneodmohkpckaaGreatDoorL01
import Derived.Test.YtjneodmohkpckaaGreatDoorSl
namespace Go.Proofs.YtjneodmohkpckaaGreatDoor
open Go.RowKit
set_option linter.unusedVariables false
set_option linter.unusedSimpArgs false
/-- slices of strings -/
abbrev FS := Flats 1 (fun s : ByteArray => [Value.string s]) (fun s => s.size ≤ maxLen)
theorem FS.get {w : World} {a : Option Addr} {n c : Nat} {l : List ByteArray} (h : FS w a n c l) {i : Nat} (hi : i < n) :
    ∃ b off x, a = some ⟨b, off, none⟩ ∧ b < w.heap.size ∧ l[i]? = some x ∧ x.size ≤ maxLen ∧ w.cell? ⟨b, off + i, none⟩ = some (.string x) := by
  obtain ⟨b, off, x, h1, h2, h3, h4, h5⟩ := h.at hi
  exact ⟨b, off, x, h1, h2, h3, h4, by have := h5 0 _ rfl; simpa using this⟩
set_option maxHeartbeats 1000000 in
theorem slices_Index_str {v : ByteArray} {a : Option Addr} {n c : Nat} {l : List ByteArray} {w : World} (hI : FS w a n c l) (hn : n ≤ 1048576) :
    Calls Tryz.prog 125 #[.slice a n c, .string v] w fun e w' => e = .returned (.int .i64 (idxF (fun y => v.toList == y.toList) l)) ∧ w = w' := by
  have HI := Lib.hid hI
  clear hI
  go_enter Tryz.func125, Tryz.ntmps125
  go_wp2
  go_loop [5, 8] (fun _ s8 => ∃ kk : Nat, kk ≤ n ∧ s8 = .int .i64 kk ∧ Hid ((l.take kk).any (fun y => v.toList == y.toList) = false)) (fun _ i => n - (intOf i).toNat)
  case atStart => exact ⟨0, Nat.zero_le _, rfl, rfl⟩
  case round =>
    obtain ⟨kk, hkk, rfl, A⟩ := hrel
    by_cases hlt : kk < n
    · obtain ⟨b, off, x, rfl, hb, hx, hwf, hcell⟩ := FS.get HI.out hlt
      have Hx := Lib.hid hx
      clear hx
      cases hq : (v.toList == x.toList)
      · have Hq := Lib.hid hq
        go_wp2
        go_round
        case rel => exact ⟨kk + 1, by omega, by go_num, any_take_step Hx.out A.out Hq.out⟩
        case measure => simp [intOf]; omega
      · have Hq := Lib.hid hq
        go_wp2
        go_ret
        exact ⟨ret_int (by rw [idxF_hit Hx.out Hq.out A.out]), rfl⟩
    · go_wp2
      go_ret
      have e : l.take kk = l := take_len (by have := HI.out.len; omega)
      have h1 := A.out
      rw [e] at h1
      exact ⟨ret_int (by rw [idxF_miss h1]), rfl⟩
end Go.Proofs.YtjneodmohkpckaaGreatDoor
