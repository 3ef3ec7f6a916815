/- Rules and models of the exact laws: comparisons. -/
import Derived.Test.YtfhogleillgcgaaDoorMd
namespace Go.Proofs.YtfhogleillgcgaaDoor
open Go.RowKit
set_option linter.unusedVariables false
set_option linter.unusedSimpArgs false
set_option maxHeartbeats 1000000 in
theorem laws_eqRule {R R' : RM} {r : RuD} {w : World} (h : RuM w (R, r)) (h' : RuM w (R', r)) :
    Calls Tryd.prog 97 #[.agg #[.string R.nm, .slice R.ga R.gn R.gc, .slice R.ea R.en R.ec], .agg #[.string R'.nm, .slice R'.ga R'.gn R'.gc, .slice R'.ea R'.en R'.ec]] w fun e w' => e = .returned (.bool true) ∧ Below w.heap.size w w' := by
  obtain ⟨nm, ga, gn, gc, ea, en, ec⟩ := R
  obtain ⟨nm', ga', gn', gc', ea', en', ec'⟩ := R'
  obtain ⟨e1, h2, hg, hgn, he, hen⟩ := h
  obtain ⟨e1', _, hg', _, he', _⟩ := h'
  simp only at e1 h2 hg hgn he hen e1' hg' he' ⊢
  have e2 : nm' = nm := e1'.trans e1.symm
  have e3 : gn' = gn := hg'.len.symm.trans hg.len
  have e4 : en' = en := he'.len.symm.trans he.len
  subst e2 e3 e4
  have K1 := Lib.hid (fun (wx : World) (hb : Below w.heap.size w wx) => laws_eqTestS (hg.keep hb) (hg'.keep hb) hgn)
  have K2 := Lib.hid (fun (wx : World) (hb : Below w.heap.size w wx) => laws_eqAssignS (he.keep hb) (he'.keep hb) hen)
  have hq : (nm'.toList == nm'.toList) = true := by simp
  have hq2 : (nm'.toList != nm'.toList) = false := by simp
  clear e1 e1' h2 hg he hg' he'
  go_enter Tryd.func97, Tryd.ntmps97
  go_wp2_with fail
  refine Calls.mono (K1.out _ (by repeat (first | exact Below.refl _ _ | assumption | refine below_allocS ?_ _ | refine below_callS ?_ (by assumption) | (refine Below.alloc ?_ (by first | omega | (simp; done) | (simp; omega)) _) | (refine Below.setCell ?_ (by first | omega | (simp; done) | (simp; omega)) _) | refine Below.drew ?_ | refine below_drewN ?_ _ | (refine below_call ?_ (by assumption) (by first | omega | (simp; done) | (simp; omega))) | (refine Below.trans ?_ (by assumption))))) ?_
  rintro e w1 ⟨rfl, hb_w1⟩
  obtain ⟨hc_w1, hf_w1⟩ := bcell hb_w1
  have hs_w1 := hb_w1.size
  go_wp2_with fail
  refine Calls.mono (K2.out _ (by repeat (first | exact Below.refl _ _ | assumption | refine below_allocS ?_ _ | refine below_callS ?_ (by assumption) | (refine Below.alloc ?_ (by first | omega | (simp; done) | (simp; omega)) _) | (refine Below.setCell ?_ (by first | omega | (simp; done) | (simp; omega)) _) | refine Below.drew ?_ | refine below_drewN ?_ _ | (refine below_call ?_ (by assumption) (by first | omega | (simp; done) | (simp; omega))) | (refine Below.trans ?_ (by assumption))))) ?_
  rintro e w2 ⟨rfl, hb_w2⟩
  obtain ⟨hc_w2, hf_w2⟩ := bcell hb_w2
  have hs_w2 := hb_w2.size
  go_wp2
  go_ret
  exact ⟨rfl, by repeat (first | exact Below.refl _ _ | assumption | refine below_allocS ?_ _ | refine below_callS ?_ (by assumption) | (refine Below.alloc ?_ (by first | omega | (simp; done) | (simp; omega)) _) | (refine Below.setCell ?_ (by first | omega | (simp; done) | (simp; omega)) _) | refine Below.drew ?_ | refine below_drewN ?_ _ | (refine below_call ?_ (by assumption) (by first | omega | (simp; done) | (simp; omega))) | (refine Below.trans ?_ (by assumption)))⟩
theorem RuM.keep {w0 w : World} {x : RM × RuD} (h : RuM w0 x) (hb : Below w0.heap.size w0 w) : RuM w x := by
  obtain ⟨q1, q2, q3, q4, q5, q6⟩ := h
  exact ⟨q1, q2, q3.keep hb, q4, q5.keep hb, q6⟩
set_option maxHeartbeats 4000000 in
theorem laws_eqRuleS {a a' : Option Addr} {n c c' : Nat} {l l' : List (RM × RuD)} {w : World} (hI : FR w w a n c l) (hI' : FR w w a' n c' l') (hl : l.map (·.2) = l'.map (·.2)) (hn : n ≤ 1048576) :
    Calls Tryd.prog 72 #[.slice a n c, .slice a' n c'] w fun e w' => e = .returned (.bool true) ∧ Below w.heap.size w w' := by
  have HI := Lib.hid hI
  have HI' := Lib.hid hI'
  have HL := Lib.hid hl
  clear hI hI' hl
  have hq : ((n : Int) != (n : Int)) = false := by simp
  go_enter Tryd.func72, Tryd.ntmps72
  go_wp2
  go_loopw [5] (fun i wr => ∃ k : Nat, k ≤ n ∧ i = .int .i64 k ∧ Below w.heap.size w wr) (fun i _ => n - (intOf i).toNat)
  case atStart => exact ⟨0, Nat.zero_le _, rfl, Below.refl _ _⟩
  case round =>
    obtain ⟨k, hk, rfl, hbl⟩ := hrel
    by_cases hlt : k < n
    · obtain ⟨b, off, R, r, rfl, hb, hx, hwf, c0, c1, c2⟩ := FR.get (HI.out.keep hbl) hlt
      obtain ⟨b', off', R', r', rfl, hb', hx', hwf', d0, d1, d2⟩ := FR.get (HI'.out.keep hbl) hlt
      obtain rfl : r = r' := by
        have h1 := congrArg (fun z => z[k]?) HL.out
        simp [hx, hx'] at h1
        exact h1
      have HC := Lib.hid (fun (wx : World) (hb : Below w.heap.size w wx) => laws_eqRule (hwf.keep hb) (hwf'.keep hb))
      clear hx hx' hwf hwf'
      have hlt' : (k : Int) < (n : Int) := by omega
      have hpos : (0 : Int) ≤ (k : Int) := by omega
      go_wp2
      go_region_held3 (fun wx => wx.cell? ⟨b, off + k * 3, none⟩ = some (.string R.nm) ∧ wx.cell? ⟨b, off + k * 3 + 1, none⟩ = some (.slice R.ga R.gn R.gc) ∧ wx.cell? ⟨b, off + k * 3 + 2, none⟩ = some (.slice R.ea R.en R.ec) ∧ wx.cell? ⟨b', off' + k * 3, none⟩ = some (.string R'.nm) ∧ wx.cell? ⟨b', off' + k * 3 + 1, none⟩ = some (.slice R'.ga R'.gn R'.gc) ∧ wx.cell? ⟨b', off' + k * 3 + 2, none⟩ = some (.slice R'.ea R'.en R'.ec) ∧ b < wx.heap.size ∧ b' < wx.heap.size ∧ Below w.heap.size w wx) (((try go_split_ands); (repeat' apply And.intro) <;> first | assumption | exact Blk.keep (by assumption) hbx | exact Blk.drew (by assumption) | exact Blk.drew (Blk.made _ _ _) | exact Below.drew (by assumption) | exact Below.drew (below_allocS (by first | exact Below.refl _ _ | assumption) _) | exact below_callS (by assumption) hbx | exact below_call (by assumption) hbx (Below.size (by assumption)) | exact (hcx _ _ (by assumption)).trans (by assumption) | omega | (simp [*]; done) | (simp; omega))) (first | (go_at_call 97; refine Calls.mono (HC.out _ (by first | assumption | (go_split_ands; assumption))) ?_; rintro e wx2 ⟨rfl, hbx⟩; obtain ⟨hcx, hfx⟩ := bcell hbx; have hsx := hbx.size))
      go_split_ands
      go_wp2
      go_roundw
      case rel => exact ⟨k + 1, by omega, by go_num, by assumption⟩
      case measure => simp [intOf]; omega
    · go_wp2
      go_ret
      exact ⟨rfl, hbl⟩
end Go.Proofs.YtfhogleillgcgaaDoor
