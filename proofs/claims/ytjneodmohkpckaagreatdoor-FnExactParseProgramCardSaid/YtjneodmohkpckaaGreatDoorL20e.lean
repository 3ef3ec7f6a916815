/- Names of rules, walked. -/
import Derived.Test.YtjneodmohkpckaaGreatDoorL01
import Derived.Test.YtjneodmohkpckaaGreatDoorSh
import Derived.Lib.IndexAny
namespace Go.Proofs.YtjneodmohkpckaaGreatDoor
open Go.RowKit
set_option linter.unusedVariables false
set_option linter.unusedSimpArgs false
def wordP (x : Int) : Bool := (decide (97 ≤ x) && decide (x ≤ 122)) || (decide (48 ≤ x) && decide (x ≤ 57)) || decide (x = 95)
def wordBs : List UInt8 := [97, 98, 99, 100, 101, 102, 103, 104, 105, 106, 107, 108, 109, 110, 111, 112, 113, 114, 115, 116, 117, 118, 119, 120, 121, 122, 48, 49, 50, 51, 52, 53, 54, 55, 56, 57, 95]
def nameB (s : ByteArray) : Bool := inB (s.size : Int) 1 16 && s.data.toList.all fun c => wordP (c.toNat : Int)
def runN (p : UInt8 → Bool) (l : List UInt8) : Nat := (l.takeWhile p).length
theorem wordBs_has (c : UInt8) : wordBs.contains c = wordP (c.toNat : Int) := by
  have h : ∀ n : Fin 256, wordBs.contains (UInt8.ofNat n.val) = wordP ((UInt8.ofNat n.val).toNat : Int) := by decide +kernel
  have := h ⟨c.toNat, c.toNat_lt⟩
  simpa using this
theorem runN_stop {p : UInt8 → Bool} {l : List UInt8} {k : Nat} (hk : k ≤ l.length) (h : (l.take k).all p = true) (hs : ∀ c, l[k]? = some c → p c = false) : runN p l = k := by
  induction l generalizing k with
  | nil => simp at hk; subst hk; rfl
  | cons x r ih =>
    cases k with
    | zero =>
      have := hs x rfl
      simp [runN, this]
    | succ k =>
      simp at h hk
      have h2 := ih hk (by simpa using h.2) (fun c hc => hs c (by simpa using hc))
      simp [runN, h.1] at h2 ⊢
      exact h2
theorem runN_all {p : UInt8 → Bool} {l : List UInt8} : (runN p l = l.length) ↔ l.all p = true := by
  constructor
  · intro h
    induction l with
    | nil => rfl
    | cons x r ih =>
      cases hp : p x
      · simp [runN, hp] at h
      · simp [runN, hp] at h
        simpa [hp] using ih h
  · intro h
    exact runN_stop (Nat.le_refl _) (by rw [List.take_length]; exact h) (fun c hc => by simp at hc)
def inSet (bs : ByteArray) (c : UInt8) : Bool := bs.data.toList.contains c
theorem str_at {s : ByteArray} {k : Nat} (h : k < s.size) : s.data.toList[k]? = some s[k] := by
  rw [List.getElem?_eq_getElem (by simpa using h)]; rfl
theorem lib_IndexByte {bs : ByteArray} {c : UInt8} {w : World} : Calls Tryz.prog 145 #[.string bs, .int .u8 (c.toNat : Int)] w fun e w' => e = .returned (.int .i64 (Lib.indexByte bs.data.toList c)) ∧ w = w' := by
  refine Calls.mono (Tryz.strings_IndexByte bs (c.toNat : Int) w) ?_
  rintro e w' ⟨rfl, rfl⟩
  exact ⟨by simp, rfl⟩
set_option maxHeartbeats 1000000 in
theorem impl_run {s bs : ByteArray} {a : Nat} {ai : Int} {w : World} (ha : ai = (a : Int)) (has : a ≤ s.size) (hz : s.size ≤ 1048576) :
    Calls Tryz.prog 146 #[.string s, .int .i64 ai, .string bs] w fun e w' => e = .returned (.int .i64 (runN (inSet bs) (s.data.toList.drop a) : Nat)) ∧ w = w' := by
  subst ha
  have HL := Lib.hid (show (s.data.toList.drop a).length = s.size - a by simp)
  go_enter Tryz.func146, Tryz.ntmps146
  go_wp2_with fail
  go_loop [7] (fun s7 => ∃ k : Nat, s7 = .int .i64 k ∧ a + k ≤ s.size ∧ Hid (((s.data.toList.drop a).take k).all (inSet bs) = true)) (fun s7 => s.size - (intOf s7).toNat)
  case atStart => exact ⟨0, rfl, by omega, Lib.hid rfl⟩
  case round =>
    obtain ⟨k, rfl, hk, A⟩ := hrel
    by_cases hlt : a + k < s.size
    · have hlt' : (a : Int) + (k : Int) < (s.size : Int) := by omega
      have Hc := Lib.hid (show (s.data.toList.drop a)[k]? = some s[a + k] by rw [List.getElem?_drop]; exact str_at hlt)
      have hct := Lib.contains_iff_indexByte bs.data.toList s[a + k]
      cases hp : bs.data.toList.contains s[a + k]
      · have hi : decide (0 ≤ Lib.indexByte bs.data.toList s[a + k]) = false := by rw [hp] at hct; exact hct.symm
        have HP := Lib.hid (show inSet bs s[a + k] = false from hp)
        clear hct hp
        go_wp2_with fail
        go_wp2_with fail
        refine Calls.mono (lib_IndexByte) ?_
        rintro e _ ⟨rfl, rfl⟩
        go_wp2
        go_ret
        exact ⟨ret_int (by rw [runN_stop (by rw [HL.out]; omega) A.out (fun c' h' => by rw [Hc.out] at h'; cases h'; exact HP.out)]), rfl⟩
      · have hi : decide (0 ≤ Lib.indexByte bs.data.toList s[a + k]) = true := by rw [hp] at hct; exact hct.symm
        have HP := Lib.hid (show inSet bs s[a + k] = true from hp)
        clear hct hp
        go_wp2_with fail
        go_wp2_with fail
        refine Calls.mono (lib_IndexByte) ?_
        rintro e _ ⟨rfl, rfl⟩
        go_wp2_with fail
        go_round
        case rel => exact ⟨k + 1, by go_num, by omega, Lib.hid (all_take_step Hc.out A.out HP.out)⟩
        case measure => simp [intOf]; omega
    · have hlt' : ¬ (a : Int) + (k : Int) < (s.size : Int) := by omega
      go_wp2
      go_ret
      exact ⟨ret_int (by rw [runN_stop (by rw [HL.out]; omega) A.out (fun c' h' => by have := (List.getElem?_eq_some_iff.1 h').1; rw [HL.out] at this; omega)]), rfl⟩
def wordN (s : ByteArray) : Nat := runN (inSet ⟨wordBs.toArray⟩) s.data.toList
theorem wordN_all {s : ByteArray} : wordN s = s.size ↔ (s.data.toList.all fun c => wordP (c.toNat : Int)) = true := by
  have h : (s.data.toList.all fun c => wordP (c.toNat : Int)) = s.data.toList.all (inSet ⟨wordBs.toArray⟩) := by
    congr 1
    funext c
    rw [← wordBs_has]
    simp [inSet]
  have e : s.data.toList.length = s.size := by simp
  rw [h, ← runN_all, e]
  exact Iff.rfl
theorem impl_run_word {s : ByteArray} {w : World} (hz : s.size ≤ 1048576) : Calls Tryz.prog 146 #[.string s, .int .i64 0, .string ⟨#[97, 98, 99, 100, 101, 102, 103, 104, 105, 106, 107, 108, 109, 110, 111, 112, 113, 114, 115, 116, 117, 118, 119, 120, 121, 122, 48, 49, 50, 51, 52, 53, 54, 55, 56, 57, 95]⟩] w fun e w' => e = .returned (.int .i64 (wordN s : Nat)) ∧ w = w' := by
  have := impl_run (s := s) (bs := ⟨#[97, 98, 99, 100, 101, 102, 103, 104, 105, 106, 107, 108, 109, 110, 111, 112, 113, 114, 115, 116, 117, 118, 119, 120, 121, 122, 48, 49, 50, 51, 52, 53, 54, 55, 56, 57, 95]⟩) (a := 0) (ai := 0) (w := w) rfl (Nat.zero_le _) hz
  rw [List.drop_zero] at this
  exact this
end Go.Proofs.YtjneodmohkpckaaGreatDoor
