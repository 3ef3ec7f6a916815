/- Rules of the exact laws: marks that are held. -/
import Derived.Test.YtfhogleillgcgaaDoorMj
import Derived.Test.YtfhogleillgcgaaDoorMf
namespace Go.Proofs.YtfhogleillgcgaaDoor
open Go.RowKit
set_option linter.unusedVariables false
set_option linter.unusedSimpArgs false
set_option maxHeartbeats 2000000 in
theorem laws_heldRuleS {a : Option Addr} {n c lo hi N : Nat} {rs : List RuD} {q : Int} {w : World} (hR : MR w lo hi a n c (marksR q rs)) (hN : cntR rs = N) (hn : n ≤ 1048576) (hq0 : 0 ≤ q) (hq1 : q + N ≤ 1099511627776) :
    Calls Tryd.prog 74 #[.slice a n c, .int .i64 q] w fun e w' => e = .returned (.int .i64 (q + N)) ∧ Below w.heap.size w w' := by
  have HR := Lib.hid hR
  have HL := Lib.hid (show rs.length = n by rw [← hR.len, marksR_len])
  have HN := Lib.hid hN
  clear hR hN
  go_enter Tryd.func74, Tryd.ntmps74
  go_wp2_with fail
  go_loopw [1, 5] (fun s1 s5 wr => ∃ (k : Nat) (q2 : Int), k ≤ n ∧ s1 = .int .i64 q2 ∧ s5 = .int .i64 k ∧ 0 ≤ q2 ∧ q2 ≤ q + N ∧ Hid (q2 = q + (cntR (rs.take k) : Nat)) ∧ Below w.heap.size w wr) (fun _ s5 _ => n - (intOf s5).toNat)
  case atStart => exact ⟨0, q, Nat.zero_le _, rfl, rfl, hq0, by omega, by simp [Lib.hid, cntR], Below.refl _ _⟩
  case round =>
    obtain ⟨k, q2, hk, rfl, rfl, hq20, hq21, HQ, hbl⟩ := hrel
    by_cases hlt : k < n
    · have hlt' : (k : Int) < (n : Int) := by omega
      have hk0 : (0 : Int) ≤ (k : Int) := by omega
      have hk9 : k < rs.length := by have := HL.out; omega
      have hr9 : rs[k]? = some rs[k] := List.getElem?_eq_getElem hk9
      obtain ⟨r0, hr0⟩ : ∃ r0, rs[k]? = some r0 := ⟨_, hr9⟩
      obtain ⟨g, R, r, l, rfl, hr, hl, hown, hbd, hmap, hro, hg, hg0, hg1, c0, c1, c2⟩ := (HR.out.keep hbl).at hlt
      have hr2 : r = mark1 q2 r0 := by rw [marksR_get hr0, ← HQ.out] at hr; simpa using hr.symm
      have hcle := cntR_le hr0
      have hcN := HN.out
      have hq2v := HQ.out
      have hc1 : cnt1 r0 = 1 + 3 * r0.g.length + 2 * r0.e.length := rfl
      subst hr2
      have hnm : R.nm = markT q2 := hro.nm
      have hgl := hro.g.len
      have hel := hro.e.len
      simp [mark1, marks2b, marks2] at hgl hel
      have hq22 : q2 + (1 + 3 * R.gn + 2 * R.en) ≤ q + N := by omega
      have hgn := hro.gn
      have hen := hro.en
      simp only at hgn hen
      have hfg := hro.g.flats
      have hfe := hro.e.flats
      simp only [mark1, hgl, hel] at hfg hfe
      have HFG := Lib.hid hfg
      have HFE := Lib.hid hfe
      have HX := Lib.hid (show rs[k]? = some r0 ∧ r0.g.length = R.gn ∧ r0.e.length = R.en from ⟨hr0, hgl, hel⟩)
      obtain ⟨S, hS⟩ : ∃ S, S = markT q2 := ⟨_, rfl⟩
      have hT := fun wx => laws_markText (k := q2) (w := wx) hq20 (by omega)
      simp only [← hS] at hT hnm
      have HTX := Lib.hid hT
      rw [hnm] at c0
      have hss : (S.toList != S.toList) = false := by simp
      clear hr hl hown hbd hmap hro hr9 hr0 hcle hcN hq2v hc1 hgl hel hS hT hfg hfe hnm
      go_wp2_with fail
      go_region_held3 (fun wx => wx.cell? ⟨g, k * 3, none⟩ = some (.string S) ∧ wx.cell? ⟨g, k * 3 + 1, none⟩ = some (.slice R.ga R.gn R.gc) ∧ wx.cell? ⟨g, k * 3 + 2, none⟩ = some (.slice R.ea R.en R.ec) ∧ g < wx.heap.size ∧ Below w.heap.size w wx ∧ Below wr.heap.size wr wx) (((try go_split_ands); (repeat' apply And.intro) <;> first | assumption | exact Below.drew (Below.refl _ _) | exact Blk.keep (by assumption) hbx | exact Blk.drew (by assumption) | exact Blk.drew (Blk.made _ _ _) | exact Below.drew (by assumption) | exact Below.drew (below_allocS (by first | exact Below.refl _ _ | assumption) _) | exact below_callS (by assumption) hbx | exact below_call (by assumption) hbx (Below.size (by assumption)) | exact (hcx _ _ (by assumption)).trans (by assumption) | omega | (simp [*]; done) | (simp; omega))) (first | (go_at_call 69; refine Calls.mono (HTX.out _) ?_; rintro e wx2 ⟨rfl, hbx⟩; obtain ⟨hcx, hfx⟩ := bcell hbx; have hsx := hbx.size))
      go_split_ands
      rename_i wy _ _ _ _ hbw hbr
      go_wp2_with fail
      go_wp2_with fail
      refine Calls.mono ((laws_heldTestS (HFG.out.keep hbr) hgn (by omega) (by omega))) ?_
      rintro e _ ⟨rfl, rfl⟩
      go_wp2_with fail
      go_wp2_with fail
      refine Calls.mono ((laws_heldAssignS (HFE.out.keep hbr) hen (by omega) (by omega))) ?_
      rintro e _ ⟨rfl, rfl⟩
      go_wp2_with fail
      go_roundw
      case rel =>
        refine ⟨k + 1, q2 + 1 + 3 * R.gn + 2 * R.en, by omega, rfl, by go_num, by omega, by omega, ?_, hbw⟩
        obtain ⟨h5, h6, h7⟩ := HX.out
        refine Lib.hid ?_
        rw [cntR_take h5, HQ.out, cnt1, h6, h7]; omega
      case measure => simp [intOf]; omega
    · obtain rfl : n = k := by omega
      have hlt' : ¬ (n : Int) < (n : Int) := by omega
      have hv : q2 = q + N := by have h1 := HQ.out; have h2 := HN.out; rw [take_len HL.out, h2] at h1; exact h1
      subst hv
      go_wp2
      go_ret
      exact ⟨rfl, hbl⟩
end Go.Proofs.YtfhogleillgcgaaDoor
