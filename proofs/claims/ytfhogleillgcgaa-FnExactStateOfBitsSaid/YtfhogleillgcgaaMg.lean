/- Rules and models of the exact laws: copies. -/
import Derived.Test.YtfhogleillgcgaaMf
namespace Go.Proofs.Ytfhogleillgcgaa
open Go.RowKit
set_option linter.unusedVariables false
set_option linter.unusedSimpArgs false
set_option maxHeartbeats 2000000 in
theorem laws_toRule {R : RM} {r : RuD} {w : World} (h : RuM w (R, r)) :
    Calls Try.prog 56 #[.agg #[.string R.nm, .slice R.ga R.gn R.gc, .slice R.ea R.en R.ec]] w fun e w' => ∃ R' : RM, e = .returned (.agg #[.string R'.nm, .slice R'.ga R'.gn R'.gc, .slice R'.ea R'.en R'.ec]) ∧ Below w.heap.size w w' ∧ R'.nm = r.nm ∧ OwnF 3 I2b.enc I2b.ok 111 w' w.heap.size R'.ga R'.gn R'.gc r.g ∧ OwnF 2 I2.enc I2.ok 100 w' w.heap.size R'.ea R'.en R'.ec r.e := by
  obtain ⟨nm, ga, gn, gc, ea, en, ec⟩ := R
  obtain ⟨e1, h2, hg, hgn, he, hen⟩ := h
  simp only at e1 h2 hg hgn he hen ⊢
  have HG := Lib.hid hg
  have HE := Lib.hid he
  have HN := Lib.hid e1
  clear hg he e1 h2
  go_enter Try.func56, Try.ntmps56
  go_wp2_with fail
  refine Calls.mono (laws_toTestS (HG.out.keep (by repeat (first | exact Below.refl _ _ | assumption | refine below_allocS ?_ _ | refine below_callS ?_ (by assumption) | (refine Below.alloc ?_ (by first | omega | (simp; done) | (simp; omega)) _) | (refine Below.setCell ?_ (by first | omega | (simp; done) | (simp; omega)) _) | refine Below.drew ?_ | refine below_drewN ?_ _ | (refine below_call ?_ (by assumption) (by first | omega | (simp; done) | (simp; omega))) | (refine Below.trans ?_ (by assumption))))) hgn) ?_
  rintro e w1 ⟨rfl, hb_w1, ho⟩
  obtain ⟨hc_w1, hf_w1⟩ := bcell hb_w1
  have hs_w1 := hb_w1.size
  simp at hs_w1
  have HO := Lib.hid ho
  clear ho
  have hz1 : w.heap.size < w1.heap.size := by omega
  have hz2 : w.heap.size + 1 < w1.heap.size := by omega
  have hz3 : w.heap.size + 1 + 1 < w1.heap.size := by omega
  go_wp2_with fail
  obtain ⟨wB, hwB⟩ : ∃ wB : World, wB = w1.setCell ⟨w.heap.size + 1 + 1, 1, none⟩ (.slice (some ⟨w.heap.size + 1 + 1 + 1, 0, none⟩) gn gn) := ⟨_, rfl⟩
  have hbB : Below w.heap.size w wB := by rw [hwB]; repeat (first | exact Below.refl _ _ | assumption | refine below_allocS ?_ _ | refine below_callS ?_ (by assumption) | (refine Below.alloc ?_ (by first | omega | (simp; done) | (simp; omega)) _) | (refine Below.setCell ?_ (by first | omega | (simp; done) | (simp; omega)) _) | refine Below.drew ?_ | refine below_drewN ?_ _ | (refine below_call ?_ (by assumption) (by first | omega | (simp; done) | (simp; omega))) | (refine Below.trans ?_ (by assumption)))
  have hsB : wB.heap.size = w1.heap.size := by rw [hwB]; simp
  have ho1 := HO.out
  simp at ho1
  refine Calls.mono (laws_toAssignS (HE.out.keep (by rw [hwB] at hbB; exact hbB)) hen) ?_
  rintro e w2 ⟨rfl, hb_w2, ho2⟩
  obtain ⟨hc_w2, hf_w2⟩ := bcell hb_w2
  have hs_w2 := hb_w2.size
  simp at hs_w2
  have HO2 := Lib.hid ho2
  clear ho2
  go_wp2
  have hz4 : w.heap.size + 1 < w2.heap.size := by omega
  have hz5 : w.heap.size + 1 + 1 < w2.heap.size := by omega
  have hz6 : w.heap.size < w2.heap.size := by omega
  refine bodyPost_ret (v := .agg #[.string nm, .slice (some ⟨w.heap.size + 1 + 1 + 1, 0, none⟩) gn gn, .slice (some ⟨w1.heap.size, 0, none⟩) en en]) (by simp [results, Try.results56, go_sem, hc_w1, hf_w1, hc_w2, hf_w2, hz1, hz2, hz3, hz4, hz5, hz6]) rfl ⟨⟨nm, some ⟨w.heap.size + 1 + 1 + 1, 0, none⟩, gn, gn, some ⟨w1.heap.size, 0, none⟩, en, en⟩, rfl, by repeat (first | exact Below.refl _ _ | assumption | refine below_allocS ?_ _ | refine below_callS ?_ (by assumption) | (refine Below.alloc ?_ (by first | omega | (simp; done) | (simp; omega)) _) | (refine Below.setCell ?_ (by first | omega | (simp; done) | (simp; omega)) _) | refine Below.drew ?_ | refine below_drewN ?_ _ | (refine below_call ?_ (by assumption) (by first | omega | (simp; done) | (simp; omega))) | (refine Below.trans ?_ (by assumption))), HN.out, ?_, ?_⟩
  · refine OwnF.le (base := w.heap.size + 1 + 1 + 1) ?_ (by omega)
    repeat (refine OwnF.keepG ?_ (set_grown _ _ _) (by intro g hg; simp at hg ⊢; omega))
    refine OwnF.keep ?_ hb_w2
    repeat (refine OwnF.keepG ?_ (set_grown _ _ _) (by intro g hg; simp at hg ⊢; omega))
    exact ho1
  · have h := HO2.out
    simp at h
    refine OwnF.le (base := w1.heap.size) ?_ (by omega)
    repeat (refine OwnF.keepG ?_ (set_grown _ _ _) (by intro g hg; simp at hg ⊢; omega))
    exact h
end Go.Proofs.Ytfhogleillgcgaa
