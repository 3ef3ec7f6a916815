/- StripComments of the reference, walked. -/
import Derived.Test.YtjneodmohkpckaaGreatDoorPb
import Derived.Test.YtjneodmohkpckaaGreatDoorPd
namespace Go.Proofs.YtjneodmohkpckaaGreatDoor
open Go.RowKit
set_option linter.unusedVariables false
set_option linter.unusedSimpArgs false
/-- a text without its comments, and the code -/
def scS (s : ByteArray) : ByteArray := if 6000 < s.size then ⟨#[]⟩ else ⟨(stF false s.data.toList).toArray⟩
def scC (s : ByteArray) : Int := if 6000 < s.size then 3 else 0
set_option maxHeartbeats 2000000 in
theorem spec_StripComments {s : ByteArray} {w : World} (hz : s.size ≤ 1048576) : Calls Tryz.prog 22 #[.string s] w fun e w' => e = .returned (.tuple #[.string (scS s), .int .i64 (scC s)]) ∧ Below w.heap.size w w' := by
  by_cases h6 : 6000 < s.size
  · have H := Lib.hid (show scS s = ⟨#[]⟩ ∧ scC s = 3 from ⟨if_pos h6, if_pos h6⟩)
    have h6' : 6000 < (s.size : Int) := by omega
    go_enter Tryz.func22, Tryz.ntmps22
    go_wp2
    exact bodyPost_ret (v := .tuple #[.string ⟨#[]⟩, .int .i64 3]) (by simp [results, Tryz.results22, go_sem]) rfl ⟨by rw [H.out.1, H.out.2], Below.refl _ _⟩
  · have H := Lib.hid (show scS s = ⟨(stF false s.data.toList).toArray⟩ ∧ scC s = 0 from ⟨if_neg h6, if_neg h6⟩)
    have h6' : ¬ 6000 < (s.size : Int) := by omega
    go_enter Tryz.func22, Tryz.ntmps22
    go_wp2_with fail
    obtain ⟨wA, hwA⟩ : ∃ v, v = w.alloc (.cells #[] 5) := ⟨_, rfl⟩
    have hbA : Below w.heap.size w wA := by rw [hwA]; exact below_alloc1 (Below.refl _ _) _
    have O0 := Lib.hid (show OwnBt wA w.heap.size (some ⟨w.heap.size, 0, none⟩) 0 0 [] by rw [hwA]; exact OwnF.emp w (Nat.le_refl _) encB_1)
    rw [← hwA]
    clear hwA
    go_loopw [4, 5, 6] (fun s4 s5 s6 wr => ∃ (k : Nat) (cm : Bool) (o : List UInt8) (a : Option Addr) (q c : Nat), s4 = .slice a q c ∧ s5 = .bool cm ∧ s6 = .int .i64 (k : Int) ∧ k ≤ s.size ∧ q ≤ k ∧ Below w.heap.size w wr ∧ Hid (OwnBt wr w.heap.size a q c o) ∧ Hid (o ++ stF cm (s.data.toList.drop k) = stF false s.data.toList)) (fun _ _ s6 _ => s.size - (intOf s6).toNat)
    case atStart => exact ⟨0, false, [], _, 0, 0, rfl, rfl, rfl, by omega, by omega, hbA, O0, Lib.hid rfl⟩
    case round =>
      clear O0 hbA
      obtain ⟨k, cm, o, a1, q1, c1, rfl, rfl, rfl, hk, hqk, hbl, O, E⟩ := hrel
      by_cases hlt : k < s.size
      · have hk0 : (0 : Int) ≤ (k : Int) := by omega
        have hlt' : (k : Int) < (s.size : Int) := by omega
        have hc := str_get hlt
        have hlt2 : k < s.data.toList.length := by rw [str_len]; exact hlt
        have hdr : s.data.toList.drop k = s[k] :: s.data.toList.drop (k + 1) := by
          rw [List.drop_eq_getElem_cons hlt2]
          rw [List.getElem?_eq_getElem hlt2] at hc
          simp only [Option.some.injEq] at hc
          rw [hc]
        have HE := Lib.hid (show o ++ stF cm (s[k] :: s.data.toList.drop (k + 1)) = stF false s.data.toList by rw [← hdr]; exact E.out)
        clear hdr hc E
        by_cases h35 : s[k].toNat = 35
        · have d1 : ((s[k].toNat : Int) == 35) = true := by simp [h35]
          have d2 : ((s[k].toNat : Int) == 10) = false := by simp [h35]
          have HE2 := Lib.hid (show o ++ stF true (s.data.toList.drop (k + 1)) = stF false s.data.toList by have h := HE.out; rw [stF, if_neg (by omega), if_pos (Or.inl h35)] at h; exact h)
          clear HE
          go_wp2_with fail
          go_roundw
          case rel => exact ⟨k + 1, true, o, a1, q1, c1, rfl, rfl, by go_num, by omega, by omega, hbl, O, HE2⟩
          case measure => simp only [intOf]; omega
        · have d1 : ((s[k].toNat : Int) == 35) = false := by simp; omega
          by_cases h10 : s[k].toNat = 10
          · have d2 : ((s[k].toNat : Int) == 10) = true := by simp [h10]
            have HE2 := Lib.hid (show (o ++ [s[k]]) ++ stF false (s.data.toList.drop (k + 1)) = stF false s.data.toList by have h := HE.out; rw [stF, if_pos h10] at h; simpa using h)
            clear HE
            go_wp2_with (at_builtin; refine appB1 s[k] rfl _ _ rfl _ _ _ _ O.out rfl _ rfl rfl (by first | rfl | (rw [h10]; rfl)) (by omega) hbl ?_; intro aD cD wD hoD hbD; refine Hid.out ?_)
            have OD := Lib.hid hoD
            clear hoD O hbl
            refine Lib.hid ?_
            go_wp2_with fail
            go_roundw
            case rel => exact ⟨k + 1, false, _, aD, _, cD, rfl, rfl, by go_num, by omega, by omega, hbD, OD, HE2⟩
            case measure => simp only [intOf]; omega
          · have d2 : ((s[k].toNat : Int) == 10) = false := by simp; omega
            cases cm
            · have HE2 := Lib.hid (show (o ++ [s[k]]) ++ stF false (s.data.toList.drop (k + 1)) = stF false s.data.toList by have h := HE.out; rw [stF_plain h35] at h; simpa using h)
              clear HE
              go_wp2_with (at_builtin; refine appB1 s[k] rfl _ _ rfl _ _ _ _ O.out rfl _ rfl rfl (by first | rfl | (rw [h10]; rfl)) (by omega) hbl ?_; intro aD cD wD hoD hbD; refine Hid.out ?_)
              have OD := Lib.hid hoD
              clear hoD O hbl
              refine Lib.hid ?_
              go_wp2_with fail
              go_roundw
              case rel => exact ⟨k + 1, false, _, aD, _, cD, rfl, rfl, by go_num, by omega, by omega, hbD, OD, HE2⟩
              case measure => simp only [intOf]; omega
            · have HE2 := Lib.hid (show o ++ stF true (s.data.toList.drop (k + 1)) = stF false s.data.toList by have h := HE.out; rw [stF, if_neg h10, if_pos (Or.inr rfl)] at h; exact h)
              clear HE
              go_wp2_with fail
              go_roundw
              case rel => exact ⟨k + 1, true, o, a1, q1, c1, rfl, rfl, by go_num, by omega, by omega, hbl, O, HE2⟩
              case measure => simp only [intOf]; omega
      · have hlt' : ¬ (k : Int) < (s.size : Int) := by omega
        obtain rfl : k = s.size := by omega
        have hcv := O.out.string
        have HE := Lib.hid (show o = stF false s.data.toList by have h := E.out; rw [List.drop_of_length_le (by rw [str_len]; exact Nat.le_refl _), stF, List.append_nil] at h; exact h)
        go_wp2
        exact bodyPost_ret (v := .tuple #[.string ⟨o.toArray⟩, .int .i64 0]) (by simp [results, Tryz.results22, go_sem]) rfl ⟨by rw [H.out.1, H.out.2, HE.out], hbl⟩
end Go.Proofs.YtjneodmohkpckaaGreatDoor
