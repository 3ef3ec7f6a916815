/- The laws on the names of modes. -/
import Derived.Test.YtoaccicfmfiemaaDoorL27
import Derived.Test.YtoaccicfmfiemaaDoorSt
namespace Go.Proofs.YtoaccicfmfiemaaDoor
open Go.RowKit
set_option linter.unusedVariables false
set_option linter.unusedSimpArgs false
def modeBs : List ByteArray := modeNm.map fun z => ⟨z.toArray⟩
def namedI (s : ByteArray) : Int := max (idxF (fun y => s.toList == y.toList) modeBs) 0
def namedB (s : ByteArray) : Bool := decide (0 ≤ idxF (fun y => s.toList == y.toList) modeBs)
theorem strs_map (l : List (List UInt8)) : strsCells l = l.map fun z => .string ⟨z.toArray⟩ := by
  induction l with
  | nil => rfl
  | cons z r ih => rw [strsCells, List.flatMap_cons, List.map_cons, ← ih]; rfl
theorem tab_FS {w : World} (hT : Tab w 0 (strsCells modeNm)) : FS w (some ⟨0, 0, none⟩) 6 6 modeBs := by
  refine ⟨rfl, Nat.le_refl _, .inr ⟨0, 0, rfl, hT.1, fun i x hx j v hv => ?_⟩, fun x hx => ?_, fun h => by cases h⟩
  · obtain ⟨rfl⟩ : j = 0 := by
      cases j with
      | zero => rfl
      | succ j => simp at hv
    simp only [List.getElem?_cons_zero, Option.some.injEq] at hv
    subst hv
    have := hT.2 i (.string x) ?_
    · simpa using this
    · rw [strs_map, List.getElem?_map]
      rw [modeBs, List.getElem?_map] at hx
      cases h : modeNm[i]? with
      | none => rw [h] at hx; cases hx
      | some z => rw [h] at hx; simp at hx; simp [hx]
  · have : ∀ z ∈ modeBs, z.size ≤ 100 := by decide
    have := this x hx
    unfold maxLen; omega
set_option maxHeartbeats 1000000 in
theorem impl_ModeNamed {s : ByteArray} {w : World} (hT : Tab w 0 (strsCells modeNm)) : Calls Tryd.prog 10 #[.string s] w fun e w' => e = .returned (.tuple #[.int .i64 (namedI s), .bool (namedB s)]) ∧ w = w' := by
  have HF := Lib.hid (tab_FS hT)
  have HI := Lib.hid (show namedI s = max (idxF (fun y => s.toList == y.toList) modeBs) 0 from rfl)
  have HB := Lib.hid (show namedB s = decide (0 ≤ idxF (fun y => s.toList == y.toList) modeBs) from rfl)
  have hc := slices_Index_str (v := s) (tab_FS hT) (by omega)
  have hge := idxF_ge (fun y => s.toList == y.toList) modeBs
  have hlt := idxF_lt (fun y => s.toList == y.toList) modeBs
  have h6 : modeBs.length = 6 := rfl
  rw [h6] at hlt
  clear h6 hT
  generalize idxF (fun y => s.toList == y.toList) modeBs = q at *
  go_enter Tryd.func10, Tryd.ntmps10
  go_wp2_with fail
  refine Calls.mono hc ?_
  rintro e _ ⟨rfl, rfl⟩
  go_wp2
  go_ret2
  exact ⟨by rw [HI.out, HB.out]; rfl, rfl⟩
def NamesRet (w : World) (e : Ending) (w' : World) : Prop := ∃ g, e = .returned (.slice (some ⟨g, 0, none⟩) 6 6) ∧ Below w.heap.size w w' ∧ FS w' (some ⟨g, 0, none⟩) 6 6 modeBs
theorem names_FS (w : World) (T : TypeId) : FS (w.alloc (.cells (strsCells modeNm).toArray T)) (some ⟨w.heap.size, 0, none⟩) 6 6 modeBs := by
  refine ⟨rfl, Nat.le_refl _, .inr ⟨w.heap.size, 0, rfl, by simp, fun i x hx j v hv => ?_⟩, fun x hx => ?_, fun h => by cases h⟩
  · obtain ⟨rfl⟩ : j = 0 := by
      cases j with
      | zero => rfl
      | succ j => simp at hv
    simp only [List.getElem?_cons_zero, Option.some.injEq] at hv
    subst hv
    have hb : Blk (w.alloc (.cells (strsCells modeNm).toArray T)) w.heap.size (strsCells modeNm).toArray T := Blk.made _ _ _
    have := hb.cell i
    simp only [Nat.zero_add, Nat.mul_one, Nat.add_zero]
    rw [this, strs_map]
    rw [modeBs, List.getElem?_map] at hx
    cases h : modeNm[i]? with
    | none => rw [h] at hx; cases hx
    | some z => rw [h] at hx; simp at hx; simp [h, hx]
  · have : ∀ z ∈ modeBs, z.size ≤ 100 := by decide
    have := this x hx
    unfold maxLen; omega
theorem spec_l27Names {w : World} : Calls Tryd.prog 36 #[] w (NamesRet w) := by
  go_enter Tryd.func36, Tryd.ntmps36
  go_wp2
  go_ret
  exact ⟨_, rfl, by repeat (first | exact Below.refl _ _ | assumption | refine below_allocS ?_ _ | refine below_callS ?_ (by assumption) | (refine Below.alloc ?_ (by first | omega | (simp; done) | (simp; omega)) _) | (refine Below.setCell ?_ (by first | omega | (simp; done) | (simp; omega)) _) | refine Below.drew ?_ | refine below_drewN ?_ _ | (refine below_call ?_ (by assumption) (by first | omega | (simp; done) | (simp; omega))) | (refine Below.trans ?_ (by assumption))), names_FS w _⟩
set_option maxHeartbeats 1000000 in
theorem spec_ModeNamed {s : ByteArray} {w : World} : Calls Tryd.prog 12 #[.string s] w fun e w' => e = .returned (.tuple #[.int .i64 (namedI s), .bool (namedB s)]) ∧ Below w.heap.size w w' := by
  have HI := Lib.hid (show namedI s = max (idxF (fun y => s.toList == y.toList) modeBs) 0 from rfl)
  have HB := Lib.hid (show namedB s = decide (0 ≤ idxF (fun y => s.toList == y.toList) modeBs) from rfl)
  go_enter Tryd.func12, Tryd.ntmps12
  go_wp2
  go_loopw [4] (fun s4 wr => ∃ k : Nat, k ≤ 6 ∧ s4 = .int .i64 k ∧ Below w.heap.size w wr ∧ Hid ((modeBs.take k).any (fun y => s.toList == y.toList) = false)) (fun s4 _ => 6 - (intOf s4).toNat)
  case atStart => exact ⟨0, Nat.zero_le _, rfl, Below.refl _ _, rfl⟩
  case round =>
    obtain ⟨k, hk, rfl, hbl, A⟩ := hrel
    by_cases hlt : k < 6
    · go_wp2_with fail
      refine Calls.mono spec_l27Names ?_
      rintro e w1 ⟨g, rfl, hb1, hF⟩
      obtain ⟨b, off, x, he, hb, hx, hwf, hcell⟩ := FS.get hF hlt
      simp only [Option.some.injEq, Addr.mk.injEq, and_true] at he
      obtain ⟨rfl, rfl⟩ := he
      simp only [Nat.zero_add] at hcell
      have hbl1 : Below w.heap.size w w1 := below_callS hbl hb1
      have Hx := Lib.hid hx
      clear hx hF hb1
      have hk0 : (0 : Int) ≤ (k : Int) := by omega
      have hk6 : (k : Int) < 6 := by omega
      cases hq : (x.toList == s.toList)
      all_goals
        have Hq := Lib.hid (show (s.toList == x.toList) = _ from (Bool.beq_comm.trans hq))
        go_wp2
      · go_roundw
        case rel => exact ⟨k + 1, by omega, by go_num, hbl1, any_take_step Hx.out A.out Hq.out⟩
        case measure => simp [intOf]; omega
      · go_ret2
        have h := idxF_hit (p := fun y => s.toList == y.toList) Hx.out Hq.out A.out
        refine ⟨?_, hbl1⟩
        rw [HI.out, HB.out, h]
        have h1 : max (k : Int) 0 = k := by omega
        have h2 : decide (0 ≤ (k : Int)) = true := by simp
        rw [h1, h2]
        rfl
    · go_wp2
      go_ret2
      have e : modeBs.take k = modeBs := take_len (by show 6 = k; omega)
      have h1 := A.out
      rw [e] at h1
      refine ⟨?_, hbl⟩
      rw [HI.out, HB.out, idxF_miss h1]
      rfl
end Go.Proofs.YtoaccicfmfiemaaDoor
