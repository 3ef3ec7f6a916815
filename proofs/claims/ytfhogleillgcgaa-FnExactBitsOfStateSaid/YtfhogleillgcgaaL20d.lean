/- Models: tests of the reference, walked. -/
import Derived.Test.YtfhogleillgcgaaL20c
namespace Go.Proofs.Ytfhogleillgcgaa
open Go.RowKit
set_option linter.unusedVariables false
set_option linter.unusedSimpArgs false
theorem testsB_any {sz : List Int} {g : List I2b} : testsB sz g = (decide (g.length ≤ 24) && !(g.any fun x => !hasB sz x.a x.b)) := by
  rw [testsB, List.not_any_eq_all_not]; simp
set_option maxHeartbeats 2000000 in
theorem spec_l20Tests {sa ta ra ga : Option Addr} {sn sc tn tc rn rc gn gc : Nat} {sz : List Int} {g : List I2b} {w : World} (hI : Ints w sa sn sc sz) (hn : sn ≤ 1048576) (hs : allIn 1 32 sz = true) (hG : F2b w ga gn gc g) (hg : gn ≤ 1048576) :
    Calls Try.prog 78 #[.agg #[.slice sa sn sc, .slice ta tn tc, .slice ra rn rc], .slice ga gn gc] w fun e w' => e = .returned (.bool (testsB sz g)) ∧ Below w.heap.size w w' := by
  have hgl := hG.len
  have HTT := Lib.hid (show testsB sz g = (decide (gn ≤ 24) && !(g.any fun x => !hasB sz x.a x.b)) by rw [testsB_any, hgl])
  have K3 := Lib.hid (fun (x : I2b) (wx : World) (hb : Below w.heap.size w wx) => spec_l20Has (v := x.a) (x := x.b) (ta := ta) (tn := tn) (tc := tc) (ra := ra) (rn := rn) (rc := rc) (hI.keep hb) hn hs)
  have HG := Lib.hid hG
  have HL := Lib.hid hgl
  clear hI hG hs hgl
  have X := Lib.hid (Blk.made w #[.slice sa sn sc, .slice ta tn tc, .slice ra rn rc] 31)
  obtain ⟨wA, hwA⟩ : ∃ wA : World, wA = w.alloc (.cells #[.slice sa sn sc, .slice ta tn tc, .slice ra rn rc] 31) := ⟨_, rfl⟩
  have hbA : Below w.heap.size w wA := by rw [hwA]; repeat (first | exact Below.refl _ _ | assumption | refine below_allocS ?_ _ | refine below_callS ?_ (by assumption) | (refine Below.alloc ?_ (by first | omega | (simp; done) | (simp; omega)) _) | (refine Below.setCell ?_ (by first | omega | (simp; done) | (simp; omega)) _) | refine Below.drew ?_ | refine below_drewN ?_ _ | (refine below_call ?_ (by assumption) (by first | omega | (simp; done) | (simp; omega))) | (refine Below.trans ?_ (by assumption)))
  rw [← hwA] at X
  have HwA := Lib.hid hwA
  clear hwA
  go_enter Try.func78, Try.ntmps78
  go_wp2_with fail
  rw [← HwA.out]
  clear HwA
  go_loopw [5] (fun s5 wr => ∃ i : Nat, s5 = .int .i64 i ∧ i ≤ gn ∧ Below w.heap.size w wr ∧ Hid (((g.take i).any fun x => !hasB sz x.a x.b) = false) ∧ Hid (Blk wr w.heap.size #[.slice sa sn sc, .slice ta tn tc, .slice ra rn rc] 31)) (fun s5 _ => gn - (intOf s5).toNat)
  case atStart => exact ⟨0, rfl, by omega, hbA, Lib.hid rfl, X⟩
  case round =>
    clear X hbA
    obtain ⟨i, rfl, hi, hbl, A, X⟩ := hrel
    by_cases hlt : i < gn
    · have hlt' : (i : Int) < (gn : Int) := by omega
      have hi0 : (0 : Int) ≤ (i : Int) := by omega
      obtain ⟨b', off, x, rfl, hb', hx, hwf, c0, c1, c2⟩ := F2b.get (HG.out.keep hbl) hlt
      have Hx := Lib.hid hx
      clear hx
      have x0 := X.out.cell 0
      have x1 := X.out.cell 1
      have x2 := X.out.cell 2
      have xl := X.out.lt
      simp at x0 x1 x2
      have hcall := K3.out x
      cases hv : hasB sz x.a x.b
      all_goals
        rw [hv] at hcall
        have HV := Lib.hid hv
        have HCl := Lib.hid hcall
        clear hv hcall
        go_wp2_with fail
        go_region_held3 (fun wx => wx.cell? ⟨b', off + i * 3, none⟩ = some (.int .i64 x.a) ∧ wx.cell? ⟨b', off + i * 3 + 1, none⟩ = some (.int .i64 x.b) ∧ wx.cell? ⟨w.heap.size, 0, none⟩ = some (.slice sa sn sc) ∧ wx.cell? ⟨w.heap.size, 1, none⟩ = some (.slice ta tn tc) ∧ wx.cell? ⟨w.heap.size, 2, none⟩ = some (.slice ra rn rc) ∧ b' < wx.heap.size ∧ w.heap.size < wx.heap.size ∧ Blk wx w.heap.size #[.slice sa sn sc, .slice ta tn tc, .slice ra rn rc] 31 ∧ Below w.heap.size w wx) (((try go_split_ands); (repeat' apply And.intro) <;> first | assumption | exact Blk.keep (by assumption) hbx | exact Blk.drew (by assumption) | exact Blk.drew (Blk.made _ _ _) | exact Below.drew (by assumption) | exact Below.drew (below_allocS (by first | exact Below.refl _ _ | assumption) _) | exact below_callS (by assumption) hbx | exact below_call (by assumption) hbx (Below.size (by assumption)) | exact (hcx _ _ (by assumption)).trans (by assumption) | omega | (simp [*]; done) | (simp; omega))) (first | (go_at_call 76; refine Calls.mono (HCl.out _ (by first | assumption | (go_split_ands; assumption))) ?_; rintro e wx2 ⟨rfl, hbx⟩; obtain ⟨hcx, hfx⟩ := bcell hbx; have hsx := hbx.size))
        go_split_ands
      · go_wp2
        go_ret
        exact ⟨ret_bool (by rw [HTT.out, show (g.any fun x => !hasB sz x.a x.b) = true from any_take_true (p := fun x => !hasB sz x.a x.b) Hx.out (by simp [HV.out])]; simp), by assumption⟩
      · go_wp2_with fail
        go_roundw
        case rel => exact ⟨i + 1, by go_num, by omega, by assumption, Lib.hid (any_take_step (p := fun x => !hasB sz x.a x.b) Hx.out A.out (by simp [HV.out])), Lib.hid (by assumption)⟩
        case measure => simp [intOf]; omega
    · obtain rfl : gn = i := by omega
      have hlt' : ¬ (gn : Int) < (gn : Int) := by omega
      have hA := A.out
      rw [take_len HL.out] at hA
      have HA := Lib.hid hA
      clear hA
      by_cases h24 : gn ≤ 24
      · have h24' : (gn : Int) ≤ 24 := by omega
        have HT := Lib.hid (show testsB sz g = true by rw [HTT.out, HA.out, decide_eq_true h24]; rfl)
        go_wp2
        go_ret
        exact ⟨ret_bool HT.out.symm, hbl⟩
      · have h24' : ¬ (gn : Int) ≤ 24 := by omega
        have HT := Lib.hid (show testsB sz g = false by rw [HTT.out, HA.out, decide_eq_false h24]; rfl)
        go_wp2
        go_ret
        exact ⟨ret_bool HT.out.symm, hbl⟩
end Go.Proofs.Ytfhogleillgcgaa
