/- likeEvents9 of equal lists, walked.; A replay and its text, back and forth: plain laws. -/
import Derived.Test.YtipkncjjkkijfaaGreatDoorFl
import Derived.Test.YtipkncjjkkijfaaGreatDoorPn
namespace Go.Proofs.YtipkncjjkkijfaaGreatDoor
open Go.RowKit
set_option linter.unusedVariables false
set_option linter.unusedSimpArgs false
set_option maxHeartbeats 1000000 in
theorem laws_likeEvents9 {a a' : Option Addr} {n c n' c' : Nat} {l : List I3} {w : World} (hI : F3 w a n c l) (hI' : F3 w a' n' c' l) (hn : n ≤ 1048576) :
    Calls Tryz.prog 11 #[.slice a n c, .slice a' n' c'] w fun e w' => e = .returned (.bool true) ∧ Below w.heap.size w w' := by
  obtain rfl : n = n' := by have := hI.len; have := hI'.len; omega
  have HI := Lib.hid hI
  have HI' := Lib.hid hI'
  clear hI hI'
  go_enter Tryz.func11, Tryz.ntmps11
  go_wp2_with fail
  go_loopw [5] (fun s3 wr => ∃ k : Nat, s3 = .int .i64 (k : Int) ∧ k ≤ n ∧ Below w.heap.size w wr) (fun s3 _ => n - (intOf s3).toNat)
  case atStart => exact ⟨0, rfl, by omega, Below.refl _ _⟩
  case round =>
    obtain ⟨k, rfl, hk, hbl⟩ := hrel
    by_cases hlt : k < n
    · obtain ⟨b, off, x, rfl, hb, hx, hwf, hc0, hc1, hc2⟩ := F3.get (HI.out.keep hbl) hlt
      obtain ⟨b', off', x', rfl, hb', hx', _, hc0', hc1', hc2'⟩ := F3.get (HI'.out.keep hbl) hlt
      obtain rfl : x = x' := by rw [hx] at hx'; simpa using hx'
      clear hx hx' hwf
      have hlt' : (k : Int) < (n : Int) := by omega
      have hpos : (0 : Int) ≤ (k : Int) := by omega
      go_wp2_with fail
      go_quiet (fail)
      go_wp2_with fail
      go_roundw
      case rel => exact ⟨k + 1, by go_num, by omega, by first | exact hbl | exact below_drewN hbl _⟩
      case measure => simp only [intOf]; omega
    · have hlt' : ¬ (k : Int) < (n : Int) := by omega
      go_wp2
      go_ret
      exact ⟨rfl, hbl⟩
/-- what is read has that text -/
theorem rr_text {b : Int} {l : List Int} {s : List UInt8} {L : List I3} (h : rrO b l s = some L) : rpC b l L = 0 ∧ txL L = s := by
  rw [← rr_same, rrI] at h
  split at h
  · cases h
  · rename_i M hM
    split at h
    · rename_i hc
      cases h
      exact hc
    · cases h
/-- the text of a valid replay is read back -/
theorem rr_back {b : Int} {l : List Int} {L : List I3} (hC : rpC b l L = 0) : rrO b l (txL L) = some L := by
  obtain ⟨h1, h2, h3, h4, h5⟩ := rpC_ok hC
  have hp : pcR (txL L) = L.map evW := by
    cases L with
    | nil => rfl
    | cons x r =>
      have ht := txL_join (x :: r)
      have hne : txL (x :: r) ≠ [] := by
        rw [ht]
        have hx : (evW x) ≠ [] := by simp [evW]
        cases r with
        | nil => exact hx
        | cons y q => rw [List.map_cons, joinP_cons _ _ (by simp)]; simp
      rw [pcR, if_neg hne, ht]
      refine pcs_join (by simp) ?_
      intro p hp
      obtain ⟨y, hy, rfl⟩ := List.mem_map.1 hp
      exact (ev_all (h5 y hy) h2 h3).2.2
  have hr : rdAll rdE (pcR (txL L)) = some L := by
    rw [hp]
    refine rdAll_some.2 ?_
    rw [List.map_map]
    exact List.map_congr_left fun x hx => (ev_all (h5 x hx) h2 h3).1
  rw [rrO, hr]
  simp only [if_pos hC]
end Go.Proofs.YtipkncjjkkijfaaGreatDoor
