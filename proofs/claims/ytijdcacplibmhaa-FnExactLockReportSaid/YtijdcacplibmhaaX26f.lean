/- The exact law of the report of locks, walked. -/
import Derived.Test.YtijdcacplibmhaaL26c
namespace Go.Proofs.Ytijdcacplibmhaa
open Go.RowKit
set_option linter.unusedVariables false
set_option linter.unusedSimpArgs false
theorem apart_ltc {E E' : TypeId} {w w' : World} {b b' : Nat} {a a' : Option Addr} {n n' c c' : Nat} {l l' : List Int} (h : OwnI E w b a n c l) (h' : OwnI E' w' b' a' n' c' l') (hb : w.heap.size ≤ b') : Apart a a' :=
  Apart.of (fun g e => (h.blk g e).2) (fun g e => Nat.le_trans hb (h'.blk g e).1)
set_option maxHeartbeats 1000000 in
theorem laws_eqReport {a1 a2 b1 b2 : Option Addr} {n m c1 c2 d1 d2 : Nat} {l1 l2 : List Int} {w : World} (h1 : Ints w a1 n c1 l1) (h2 : Ints w a2 m c2 l2) (k1 : Ints w b1 n d1 l1) (k2 : Ints w b2 m d2 l2) (hn : n ≤ 1048576) (hm : m ≤ 1048576) :
    Calls Try.prog 40 #[.agg #[.slice a1 n c1, .slice a2 m c2], .agg #[.slice b1 n d1, .slice b2 m d2]] w fun e w' => e = .returned (.bool true) ∧ Below w.heap.size w w' := by
  have H1 := Lib.hid h1
  have H2 := Lib.hid h2
  have K1 := Lib.hid k1
  have K2 := Lib.hid k2
  clear h1 h2 k1 k2
  go_enter Try.func40, Try.ntmps40
  go_wp2_with fail
  refine Calls.mono (laws_eqInt64S (H1.out.keep (by repeat (first | exact Below.refl _ _ | assumption | refine below_allocS ?_ _ | refine below_callS ?_ (by assumption) | (refine Below.alloc ?_ (by first | omega | (simp; done) | (simp; omega)) _) | (refine Below.setCell ?_ (by first | omega | (simp; done) | (simp; omega)) _) | refine Below.drew ?_ | refine below_drewN ?_ _ | (refine below_call ?_ (by assumption) (by first | omega | (simp; done) | (simp; omega))) | (refine Below.trans ?_ (by assumption))))) (K1.out.keep (by repeat (first | exact Below.refl _ _ | assumption | refine below_allocS ?_ _ | refine below_callS ?_ (by assumption) | (refine Below.alloc ?_ (by first | omega | (simp; done) | (simp; omega)) _) | (refine Below.setCell ?_ (by first | omega | (simp; done) | (simp; omega)) _) | refine Below.drew ?_ | refine below_drewN ?_ _ | (refine below_call ?_ (by assumption) (by first | omega | (simp; done) | (simp; omega))) | (refine Below.trans ?_ (by assumption))))) hn hn) ?_
  rintro e w1 ⟨rfl, hb_w1⟩
  obtain ⟨hc_w1, hf_w1⟩ := bcell hb_w1
  have hs_w1 := hb_w1.size
  simp at hs_w1
  have hz0 : w.heap.size < w1.heap.size := by omega
  have hz1 : w.heap.size + 1 < w1.heap.size := by omega
  have hz2 : w.heap.size < w.heap.size + 1 + 1 := by omega
  have hz3 : w.heap.size + 1 < w.heap.size + 1 + 1 := by omega
  go_wp2_with fail
  refine Calls.mono (laws_eqInt64S (H2.out.keep (by repeat (first | exact Below.refl _ _ | assumption | refine below_allocS ?_ _ | refine below_callS ?_ (by assumption) | (refine Below.alloc ?_ (by first | omega | (simp; done) | (simp; omega)) _) | (refine Below.setCell ?_ (by first | omega | (simp; done) | (simp; omega)) _) | refine Below.drew ?_ | refine below_drewN ?_ _ | (refine below_call ?_ (by assumption) (by first | omega | (simp; done) | (simp; omega))) | (refine Below.trans ?_ (by assumption))))) (K2.out.keep (by repeat (first | exact Below.refl _ _ | assumption | refine below_allocS ?_ _ | refine below_callS ?_ (by assumption) | (refine Below.alloc ?_ (by first | omega | (simp; done) | (simp; omega)) _) | (refine Below.setCell ?_ (by first | omega | (simp; done) | (simp; omega)) _) | refine Below.drew ?_ | refine below_drewN ?_ _ | (refine below_call ?_ (by assumption) (by first | omega | (simp; done) | (simp; omega))) | (refine Below.trans ?_ (by assumption))))) hm hm) ?_
  rintro e w2 ⟨rfl, hb_w2⟩
  obtain ⟨hc_w2, hf_w2⟩ := bcell hb_w2
  have hs_w2 := hb_w2.size
  go_wp2
  go_ret
  exact ⟨rfl, by repeat (first | exact Below.refl _ _ | assumption | refine below_allocS ?_ _ | refine below_callS ?_ (by assumption) | (refine Below.alloc ?_ (by first | omega | (simp; done) | (simp; omega)) _) | (refine Below.setCell ?_ (by first | omega | (simp; done) | (simp; omega)) _) | refine Below.drew ?_ | refine below_drewN ?_ _ | (refine below_call ?_ (by assumption) (by first | omega | (simp; done) | (simp; omega))) | (refine Below.trans ?_ (by assumption)))⟩
/-- what marking a report does -/
def MarkRep (E : TypeId) (w : World) (base : Nat) (a1 a2 : Option Addr) (n m c1 c2 : Nat) (q : Int) (e : Ending) (w' : World) : Prop :=
  ∃ w1 w2, e = .returned (.int .i64 (q + n + m)) ∧ Below w.heap.size w w1 ∧ Touch w1 w2 n a1 ∧ Touch w2 w' m a2 ∧ OwnI E w' base a1 n c1 (marksI q n) ∧ OwnI E w' base a2 m c2 (marksI (q + n) m)
set_option maxHeartbeats 1000000 in
theorem laws_markReport {a1 a2 : Option Addr} {n m c1 c2 base : Nat} {l1 l2 : List Int} {q : Int} {w : World} (h1 : OwnI 2 w base a1 n c1 l1) (h2 : OwnI 2 w base a2 m c2 l2) (hap : Apart a1 a2) (hn : n ≤ 1048576) (hm : m ≤ 1048576) (hq0 : 0 ≤ q) (hq1 : q ≤ 1048576) :
    Calls Try.prog 42 #[.agg #[.slice a1 n c1, .slice a2 m c2], .int .i64 q] w (MarkRep 2 w base a1 a2 n m c1 c2 q) := by
  have hb1 := h1.blk
  have hb2 := h2.blk
  have H1 := Lib.hid h1
  have H2 := Lib.hid h2
  have HA := Lib.hid hap
  have hB := Blk.made w #[.slice a1 n c1, .slice a2 m c2] 57
  clear h1 h2 hap
  have hW : Below w.heap.size w (w.alloc (.cells #[.slice a1 n c1, .slice a2 m c2] 57)) := by repeat (first | exact Below.refl _ _ | assumption | refine below_allocS ?_ _ | refine below_callS ?_ (by assumption) | (refine Below.alloc ?_ (by first | omega | (simp; done) | (simp; omega)) _) | (refine Below.setCell ?_ (by first | omega | (simp; done) | (simp; omega)) _) | refine Below.drew ?_ | refine below_drewN ?_ _ | (refine below_call ?_ (by assumption) (by first | omega | (simp; done) | (simp; omega))) | (refine Below.trans ?_ (by assumption)))
  have HB := Lib.hid hB
  clear hB
  go_enter Try.func42, Try.ntmps42
  go_wp2_with fail
  refine Calls.mono (laws_markInt64S (H1.out.keep hW) hn hq0 (by omega)) ?_
  rintro e w1 ⟨rfl, ht1, ho1⟩
  have HO1 := Lib.hid ho1
  have HO2 := Lib.hid ((H2.out.keep hW).keepT ht1 HA.out.symm)
  have hBB : Blk w1 w.heap.size #[.slice a1 n c1, .slice a2 m c2] 57 := by
    obtain ⟨r, hg, hr⟩ := ht1
    exact HB.out.keepG hg (fun e => by have := hb1 _ (hr _ e).2; omega)
  have e0 := hBB.cell 0
  have e1 := hBB.cell 1
  simp at e0 e1
  have HT1 := Lib.hid ht1
  clear ho1 hBB ht1
  go_wp2_with fail
  refine Calls.mono (laws_markInt64S HO2.out hm (by omega) (by omega)) ?_
  rintro e w2 ⟨rfl, ht2, ho2⟩
  have HO1' := Lib.hid (HO1.out.keepT ht2 HA.out)
  have HO2' := Lib.hid ho2
  have HT2 := Lib.hid ht2
  clear ho2 ht2
  go_wp2
  go_ret
  exact ⟨_, _, rfl, hW, HT1.out, HT2.out, HO1'.out, HO2'.out⟩
set_option maxHeartbeats 1000000 in
theorem laws_heldReport {a1 a2 : Option Addr} {n m c1 c2 : Nat} {q : Int} {w : World} (h1 : Ints w a1 n c1 (marksI q n)) (h2 : Ints w a2 m c2 (marksI (q + n) m)) (hn : n ≤ 1048576) (hm : m ≤ 1048576) (hq0 : 0 ≤ q) (hq1 : q ≤ 1048576) :
    Calls Try.prog 43 #[.agg #[.slice a1 n c1, .slice a2 m c2], .int .i64 q] w fun e w' => e = .returned (.int .i64 (q + n + m)) ∧ Below w.heap.size w w' := by
  have H1 := Lib.hid h1
  have H2 := Lib.hid h2
  clear h1 h2
  have hneg : ¬ (q + (n : Int)) < 0 := by omega
  have hneg' : ¬ (q + (n : Int) + (m : Int)) < 0 := by omega
  go_enter Try.func43, Try.ntmps43
  go_wp2_with fail
  refine Calls.mono (laws_heldInt64S (H1.out.keep (by repeat (first | exact Below.refl _ _ | assumption | refine below_allocS ?_ _ | refine below_callS ?_ (by assumption) | (refine Below.alloc ?_ (by first | omega | (simp; done) | (simp; omega)) _) | (refine Below.setCell ?_ (by first | omega | (simp; done) | (simp; omega)) _) | refine Below.drew ?_ | refine below_drewN ?_ _ | (refine below_call ?_ (by assumption) (by first | omega | (simp; done) | (simp; omega))) | (refine Below.trans ?_ (by assumption))))) hn hq0 (by omega)) ?_
  rintro e _ ⟨rfl, rfl⟩
  go_wp2_with fail
  refine Calls.mono (laws_heldInt64S (H2.out.keep (by repeat (first | exact Below.refl _ _ | assumption | refine below_allocS ?_ _ | refine below_callS ?_ (by assumption) | (refine Below.alloc ?_ (by first | omega | (simp; done) | (simp; omega)) _) | (refine Below.setCell ?_ (by first | omega | (simp; done) | (simp; omega)) _) | refine Below.drew ?_ | refine below_drewN ?_ _ | (refine below_call ?_ (by assumption) (by first | omega | (simp; done) | (simp; omega))) | (refine Below.trans ?_ (by assumption))))) hm (by omega) (by omega)) ?_
  rintro e _ ⟨rfl, rfl⟩
  go_wp2
  go_ret
  exact ⟨rfl, by repeat (first | exact Below.refl _ _ | assumption | refine below_allocS ?_ _ | refine below_callS ?_ (by assumption) | (refine Below.alloc ?_ (by first | omega | (simp; done) | (simp; omega)) _) | (refine Below.setCell ?_ (by first | omega | (simp; done) | (simp; omega)) _) | refine Below.drew ?_ | refine below_drewN ?_ _ | (refine below_call ?_ (by assumption) (by first | omega | (simp; done) | (simp; omega))) | (refine Below.trans ?_ (by assumption)))⟩
theorem repL_len {l : List Int} {fs : List I3} (ch : Int) : (repL ch l fs).length ≤ l.length := by
  unfold repL
  split
  · rw [applyC_len, baseL_len]; exact Nat.le_refl _
  · simp
theorem repL_len2 {l : List Int} {fs : List I3} : (repL 0 l fs).length = (repL 1 l fs).length := by
  unfold repL
  split
  · rw [applyC_len, applyC_len]
  · rfl
theorem Blk.keepT {w w' : World} {b : Nat} {cs : Array Value} {T : TypeId} {n : Nat} {a : Option Addr} (h : Blk w b cs T) (ht : Touch w w' n a) (hne : a = some ⟨b, 0, none⟩ → False) : Blk w' b cs T := by
  obtain ⟨r, hg, hr⟩ := ht
  exact h.keepG hg fun e => hne (hr b e).2
set_option maxHeartbeats 8000000 in
theorem law_LockReport {a ad : Option Addr} {n c ns cs : Nat} {l : List Int} {fs : List I3} {w : World} (hI : Ints w a n c l) (_ : n ≤ maxLen) (hS : F3 w ad ns cs fs) (hmax : ns ≤ maxLen) : Calls Try.prog 11 #[.slice a n c, .slice ad ns cs] w fun e w' => e = .returned (.bool true) ∧ Below w.heap.size w w' := by
  have hmax' : (ns : Int) ≤ 9223372036854775807 := by unfold maxLen at hmax; omega
  have HI := Lib.hid hI
  have HS := Lib.hid hS
  clear hI hS hmax
  by_cases hn : n ≤ 1048576
  · by_cases hns : ns ≤ 1048576
    · have hsz : (if (1048576 : Int) < (ns : Int) then -1 else 1048576 - (ns : Int)) = 1048576 - (ns : Int) := if_neg (by omega)
      go_enter Try.func11, Try.ntmps11
      go_wp2_with fail
      refine Calls.mono (laws_szLockFaultS hmax' (by omega) (by omega)) ?_
      rintro e _ ⟨rfl, rfl⟩
      rw [hsz]
      clear hsz
      go_wp2_with fail
      refine Calls.mono (laws_toInt64S HI.out hn) ?_
      rintro e w1 ⟨rfl, hb_w1, HO1⟩
      obtain ⟨hc_w1, hf_w1⟩ := bcell hb_w1
      have hs_w1 := hb_w1.size
      have HO1 := Lib.hid HO1
      go_wp2_with fail
      refine Calls.mono (laws_toLockFaultS (HS.out.keep (by repeat (first | exact Below.refl _ _ | assumption | refine below_allocS ?_ _ | refine below_callS ?_ (by assumption) | (refine Below.alloc ?_ (by first | omega | (simp; done) | (simp; omega)) _) | (refine Below.setCell ?_ (by first | omega | (simp; done) | (simp; omega)) _) | refine Below.drew ?_ | refine below_drewN ?_ _ | (refine below_call ?_ (by assumption) (by first | omega | (simp; done) | (simp; omega))) | (refine Below.trans ?_ (by assumption))))) hns) ?_
      rintro e w2 ⟨rfl, hb_w2, HO2⟩
      obtain ⟨hc_w2, hf_w2⟩ := bcell hb_w2
      have hs_w2 := hb_w2.size
      have HO2 := Lib.hid HO2
      go_wp2_with fail
      refine Calls.mono (spec_LockReport (HO1.out.ints.keep (by repeat (first | exact Below.refl _ _ | assumption | refine below_allocS ?_ _ | refine below_callS ?_ (by assumption) | (refine Below.alloc ?_ (by first | omega | (simp; done) | (simp; omega)) _) | (refine Below.setCell ?_ (by first | omega | (simp; done) | (simp; omega)) _) | refine Below.drew ?_ | refine below_drewN ?_ _ | (refine below_call ?_ (by assumption) (by first | omega | (simp; done) | (simp; omega))) | (refine Below.trans ?_ (by assumption))))) HO2.out.flats hn hns) ?_
      rintro e w3 ⟨n3, a31, c31, a32, c32, rfl, hb_w3, ho31, ho32, hap3⟩
      have hs_w3 := hb_w3.size
      have HOw1 := Lib.hid ho31
      have HOw2 := Lib.hid ho32
      have HBw := Lib.hid (Blk.made w3 #[.slice a31 n3 c31, .slice a32 n3 c32] 57)
      clear ho31 ho32 hap3
      go_wp2_with fail
      refine Calls.mono (laws_toInt64S_g (HI.out.keep (by repeat (first | exact Below.refl _ _ | assumption | refine below_allocS ?_ _ | refine below_callS ?_ (by assumption) | (refine Below.alloc ?_ (by first | omega | (simp; done) | (simp; omega)) _) | (refine Below.setCell ?_ (by first | omega | (simp; done) | (simp; omega)) _) | refine Below.drew ?_ | refine below_drewN ?_ _ | (refine below_call ?_ (by assumption) (by first | omega | (simp; done) | (simp; omega))) | (refine Below.trans ?_ (by assumption))))) hn) ?_
      rintro e w4 ⟨g4, rfl, hb_w4, ho4⟩
      have hs_w4 := hb_w4.size
      simp at hs_w4
      have HOx := Lib.hid ho4
      clear ho4
      go_wp2_with fail
      refine Calls.mono (laws_toLockFaultS_g (HS.out.keep (by repeat (first | exact Below.refl _ _ | assumption | refine below_allocS ?_ _ | refine below_callS ?_ (by assumption) | (refine Below.alloc ?_ (by first | omega | (simp; done) | (simp; omega)) _) | (refine Below.setCell ?_ (by first | omega | (simp; done) | (simp; omega)) _) | refine Below.drew ?_ | refine below_drewN ?_ _ | (refine below_call ?_ (by assumption) (by first | omega | (simp; done) | (simp; omega))) | (refine Below.trans ?_ (by assumption))))) hns) ?_
      rintro e w5 ⟨g5, rfl, hb_w5, ho5⟩
      have hs_w5 := hb_w5.size
      have HOy := Lib.hid ho5
      clear ho5
      have h33 : ∀ (wx : World) (g g' : Nat), Ints wx (some ⟨g, 0, none⟩) n n l → F3 wx (some ⟨g', 0, none⟩) ns ns fs → Calls Try.prog 39 #[.slice (some ⟨g, 0, none⟩) n n, .slice (some ⟨g', 0, none⟩) ns ns] wx (fun e w' => ∃ n a1 c1 a2 c2, e = .returned (.tuple #[.agg #[.slice a1 n c1, .slice a2 n c2], .int .i64 (repCode l fs)]) ∧ Below wx.heap.size wx w' ∧ OwnI 2 w' wx.heap.size a1 n c1 (repL 0 l fs) ∧ OwnI 2 w' wx.heap.size a2 n c2 (repL 1 l fs) ∧ Apart a1 a2) := fun wx g g' h h' => impl_LockReport (w := wx) h h' hn hns
      go_wp2_with fail
      refine Calls.mono (h33 _ _ _ (HOx.out.ints.keep (by repeat (first | exact Below.refl _ _ | assumption | refine below_allocS ?_ _ | refine below_callS ?_ (by assumption) | (refine Below.alloc ?_ (by first | omega | (simp; done) | (simp; omega)) _) | (refine Below.setCell ?_ (by first | omega | (simp; done) | (simp; omega)) _) | refine Below.drew ?_ | refine below_drewN ?_ _ | (refine below_call ?_ (by assumption) (by first | omega | (simp; done) | (simp; omega))) | (refine Below.trans ?_ (by assumption))))) HOy.out.flats) ?_
      rintro e w6 ⟨n6, a61, c61, a62, c62, rfl, hb_w6, ho61, ho62, hap6⟩
      have hs_w6 := hb_w6.size
      have HOg1 := Lib.hid ho61
      have HOg2 := Lib.hid ho62
      have HAg := Lib.hid hap6
      have hn6 : n6 = n3 := by rw [← ho61.len, HOw1.out.len]
      subst hn6
      have hres : n6 ≤ 1048576 := by
        have h1 := ho61.len
        have h2 := repL_len (l := l) (fs := fs) 0
        have h3 := HI.out.len
        omega
      clear ho61 ho62 hap6
      have HL := Lib.hid (show (repL 0 l fs).length = n6 from HOg1.out.len)
      generalize repL 0 l fs = R1 at *
      generalize repL 1 l fs = R2 at *
      generalize repCode l fs = code at *
      have hcc : (code != code) = false := by simp
      have H33 := Lib.hid h33
      clear h33
      have HBg := Lib.hid (Blk.made w6 #[.slice a61 n6 c61, .slice a62 n6 c62] 57)
      have HB3 := Lib.hid (HBw.out.keep (show Below (w3.alloc (.cells #[.slice a31 n6 c31, .slice a32 n6 c32] 57)).heap.size _ w6 by repeat (first | exact Below.refl _ _ | assumption | refine below_allocS ?_ _ | refine below_callS ?_ (by assumption) | (refine Below.alloc ?_ (by first | omega | (simp; done) | (simp; omega)) _) | (refine Below.setCell ?_ (by first | omega | (simp; done) | (simp; omega)) _) | refine Below.drew ?_ | refine below_drewN ?_ _ | (refine below_call ?_ (by assumption) (by first | omega | (simp; done) | (simp; omega))) | (refine Below.trans ?_ (by assumption)))))
      have HOy6 := Lib.hid (HOy.out.keep (show Below w5.heap.size w5 w6 by repeat (first | exact Below.refl _ _ | assumption | refine below_allocS ?_ _ | refine below_callS ?_ (by assumption) | (refine Below.alloc ?_ (by first | omega | (simp; done) | (simp; omega)) _) | (refine Below.setCell ?_ (by first | omega | (simp; done) | (simp; omega)) _) | refine Below.drew ?_ | refine below_drewN ?_ _ | (refine below_call ?_ (by assumption) (by first | omega | (simp; done) | (simp; omega))) | (refine Below.trans ?_ (by assumption)))))
      have HOx6 := Lib.hid (HOx.out.keep (show Below w4.heap.size w4 w6 by repeat (first | exact Below.refl _ _ | assumption | refine below_allocS ?_ _ | refine below_callS ?_ (by assumption) | (refine Below.alloc ?_ (by first | omega | (simp; done) | (simp; omega)) _) | (refine Below.setCell ?_ (by first | omega | (simp; done) | (simp; omega)) _) | refine Below.drew ?_ | refine below_drewN ?_ _ | (refine below_call ?_ (by assumption) (by first | omega | (simp; done) | (simp; omega))) | (refine Below.trans ?_ (by assumption)))))
      have HOw16 := Lib.hid (HOw1.out.keep (show Below w3.heap.size w3 w6 by repeat (first | exact Below.refl _ _ | assumption | refine below_allocS ?_ _ | refine below_callS ?_ (by assumption) | (refine Below.alloc ?_ (by first | omega | (simp; done) | (simp; omega)) _) | (refine Below.setCell ?_ (by first | omega | (simp; done) | (simp; omega)) _) | refine Below.drew ?_ | refine below_drewN ?_ _ | (refine below_call ?_ (by assumption) (by first | omega | (simp; done) | (simp; omega))) | (refine Below.trans ?_ (by assumption)))))
      have HOw26 := Lib.hid (HOw2.out.keep (show Below w3.heap.size w3 w6 by repeat (first | exact Below.refl _ _ | assumption | refine below_allocS ?_ _ | refine below_callS ?_ (by assumption) | (refine Below.alloc ?_ (by first | omega | (simp; done) | (simp; omega)) _) | (refine Below.setCell ?_ (by first | omega | (simp; done) | (simp; omega)) _) | refine Below.drew ?_ | refine below_drewN ?_ _ | (refine below_call ?_ (by assumption) (by first | omega | (simp; done) | (simp; omega))) | (refine Below.trans ?_ (by assumption)))))
      have hB6 : Below w.heap.size w w6 := by repeat (first | exact Below.refl _ _ | assumption | refine below_allocS ?_ _ | refine below_callS ?_ (by assumption) | (refine Below.alloc ?_ (by first | omega | (simp; done) | (simp; omega)) _) | (refine Below.setCell ?_ (by first | omega | (simp; done) | (simp; omega)) _) | refine Below.drew ?_ | refine below_drewN ?_ _ | (refine below_call ?_ (by assumption) (by first | omega | (simp; done) | (simp; omega))) | (refine Below.trans ?_ (by assumption)))
      have hxb := HOx.out.blk
      have hyb := HOy.out.blk
      have hg1b := HOg1.out.blk
      have hg2b := HOg2.out.blk
      have hw1b := HOw1.out.blk
      have hw2b := HOw2.out.blk
      simp at hxb
      clear hc_w1 hf_w1 hc_w2 hf_w2 hb_w1 hb_w2 hb_w3 hb_w4 hb_w5 hb_w6
      have b0 := HB3.out.cell 0
      have b1 := HB3.out.cell 1
      have b2 := HB3.out.lt
      simp at b0 b1
      go_wp2_with fail
      refine Calls.mono (laws_eqReport (HOg1.out.ints.keep (by repeat (first | exact Below.refl _ _ | assumption | refine below_allocS ?_ _ | refine below_callS ?_ (by assumption) | (refine Below.alloc ?_ (by first | omega | (simp; done) | (simp; omega)) _) | (refine Below.setCell ?_ (by first | omega | (simp; done) | (simp; omega)) _) | refine Below.drew ?_ | refine below_drewN ?_ _ | (refine below_call ?_ (by assumption) (by first | omega | (simp; done) | (simp; omega))) | (refine Below.trans ?_ (by assumption))))) (HOg2.out.ints.keep (by repeat (first | exact Below.refl _ _ | assumption | refine below_allocS ?_ _ | refine below_callS ?_ (by assumption) | (refine Below.alloc ?_ (by first | omega | (simp; done) | (simp; omega)) _) | (refine Below.setCell ?_ (by first | omega | (simp; done) | (simp; omega)) _) | refine Below.drew ?_ | refine below_drewN ?_ _ | (refine below_call ?_ (by assumption) (by first | omega | (simp; done) | (simp; omega))) | (refine Below.trans ?_ (by assumption))))) (HOw16.out.ints.keep (by repeat (first | exact Below.refl _ _ | assumption | refine below_allocS ?_ _ | refine below_callS ?_ (by assumption) | (refine Below.alloc ?_ (by first | omega | (simp; done) | (simp; omega)) _) | (refine Below.setCell ?_ (by first | omega | (simp; done) | (simp; omega)) _) | refine Below.drew ?_ | refine below_drewN ?_ _ | (refine below_call ?_ (by assumption) (by first | omega | (simp; done) | (simp; omega))) | (refine Below.trans ?_ (by assumption))))) (HOw26.out.ints.keep (by repeat (first | exact Below.refl _ _ | assumption | refine below_allocS ?_ _ | refine below_callS ?_ (by assumption) | (refine Below.alloc ?_ (by first | omega | (simp; done) | (simp; omega)) _) | (refine Below.setCell ?_ (by first | omega | (simp; done) | (simp; omega)) _) | refine Below.drew ?_ | refine below_drewN ?_ _ | (refine below_call ?_ (by assumption) (by first | omega | (simp; done) | (simp; omega))) | (refine Below.trans ?_ (by assumption))))) hres hres) ?_
      rintro e w7 ⟨rfl, hb_w7⟩
      obtain ⟨hc_w7, hf_w7⟩ := bcell hb_w7
      have hs_w7 := hb_w7.size
      clear b0 b1 b2
      have hB7' : Below w6.heap.size w6 w7 := by repeat (first | exact Below.refl _ _ | assumption | refine below_allocS ?_ _ | refine below_callS ?_ (by assumption) | (refine Below.alloc ?_ (by first | omega | (simp; done) | (simp; omega)) _) | (refine Below.setCell ?_ (by first | omega | (simp; done) | (simp; omega)) _) | refine Below.drew ?_ | refine below_drewN ?_ _ | (refine below_call ?_ (by assumption) (by first | omega | (simp; done) | (simp; omega))) | (refine Below.trans ?_ (by assumption)))
      have HBg7 := Lib.hid (HBg.out.keep (show Below (w6.alloc (.cells #[.slice a61 n6 c61, .slice a62 n6 c62] 57)).heap.size _ w7 by repeat (first | exact Below.refl _ _ | assumption | refine below_allocS ?_ _ | refine below_callS ?_ (by assumption) | (refine Below.alloc ?_ (by first | omega | (simp; done) | (simp; omega)) _) | (refine Below.setCell ?_ (by first | omega | (simp; done) | (simp; omega)) _) | refine Below.drew ?_ | refine below_drewN ?_ _ | (refine below_call ?_ (by assumption) (by first | omega | (simp; done) | (simp; omega))) | (refine Below.trans ?_ (by assumption)))))
      clear hc_w7 hf_w7
      go_wp2_with fail
      refine Calls.mono (laws_toInt64S (HI.out.keep (by repeat (first | exact Below.refl _ _ | assumption | refine below_allocS ?_ _ | refine below_callS ?_ (by assumption) | (refine Below.alloc ?_ (by first | omega | (simp; done) | (simp; omega)) _) | (refine Below.setCell ?_ (by first | omega | (simp; done) | (simp; omega)) _) | refine Below.drew ?_ | refine below_drewN ?_ _ | (refine below_call ?_ (by assumption) (by first | omega | (simp; done) | (simp; omega))) | (refine Below.trans ?_ (by assumption))))) hn) ?_
      rintro e w8 ⟨rfl, hb_w8, HO8⟩
      obtain ⟨hc_w8, hf_w8⟩ := bcell hb_w8
      have hs_w8 := hb_w8.size
      have HO8 := Lib.hid HO8
      go_wp2_with fail
      refine Calls.mono (laws_eqInt64S (HOx6.out.ints.keep (by repeat (first | exact Below.refl _ _ | assumption | refine below_allocS ?_ _ | refine below_callS ?_ (by assumption) | (refine Below.alloc ?_ (by first | omega | (simp; done) | (simp; omega)) _) | (refine Below.setCell ?_ (by first | omega | (simp; done) | (simp; omega)) _) | refine Below.drew ?_ | refine below_drewN ?_ _ | (refine below_call ?_ (by assumption) (by first | omega | (simp; done) | (simp; omega))) | (refine Below.trans ?_ (by assumption))))) HO8.out.ints hn hn) ?_
      rintro e w9 ⟨rfl, hb_w9⟩
      obtain ⟨hc_w9, hf_w9⟩ := bcell hb_w9
      have hs_w9 := hb_w9.size
      go_wp2_with fail
      refine Calls.mono (laws_toLockFaultS (HS.out.keep (by repeat (first | exact Below.refl _ _ | assumption | refine below_allocS ?_ _ | refine below_callS ?_ (by assumption) | (refine Below.alloc ?_ (by first | omega | (simp; done) | (simp; omega)) _) | (refine Below.setCell ?_ (by first | omega | (simp; done) | (simp; omega)) _) | refine Below.drew ?_ | refine below_drewN ?_ _ | (refine below_call ?_ (by assumption) (by first | omega | (simp; done) | (simp; omega))) | (refine Below.trans ?_ (by assumption))))) hns) ?_
      rintro e w10 ⟨rfl, hb_w10, HO10⟩
      obtain ⟨hc_w10, hf_w10⟩ := bcell hb_w10
      have hs_w10 := hb_w10.size
      have HO10 := Lib.hid HO10
      go_wp2_with fail
      refine Calls.mono (laws_eqLockFaultS (HOy6.out.flats.keep (by repeat (first | exact Below.refl _ _ | assumption | refine below_allocS ?_ _ | refine below_callS ?_ (by assumption) | (refine Below.alloc ?_ (by first | omega | (simp; done) | (simp; omega)) _) | (refine Below.setCell ?_ (by first | omega | (simp; done) | (simp; omega)) _) | refine Below.drew ?_ | refine below_drewN ?_ _ | (refine below_call ?_ (by assumption) (by first | omega | (simp; done) | (simp; omega))) | (refine Below.trans ?_ (by assumption))))) HO10.out.flats hns) ?_
      rintro e w11 ⟨rfl, hb_w11⟩
      obtain ⟨hc_w11, hf_w11⟩ := bcell hb_w11
      have hs_w11 := hb_w11.size
      have hB11g : Below w7.heap.size w7 w11 := by repeat (first | exact Below.refl _ _ | assumption | refine below_allocS ?_ _ | refine below_callS ?_ (by assumption) | (refine Below.alloc ?_ (by first | omega | (simp; done) | (simp; omega)) _) | (refine Below.setCell ?_ (by first | omega | (simp; done) | (simp; omega)) _) | refine Below.drew ?_ | refine below_drewN ?_ _ | (refine below_call ?_ (by assumption) (by first | omega | (simp; done) | (simp; omega))) | (refine Below.trans ?_ (by assumption)))
      have hB11' : Below w6.heap.size w6 w11 := by repeat (first | exact Below.refl _ _ | assumption | refine below_allocS ?_ _ | refine below_callS ?_ (by assumption) | (refine Below.alloc ?_ (by first | omega | (simp; done) | (simp; omega)) _) | (refine Below.setCell ?_ (by first | omega | (simp; done) | (simp; omega)) _) | refine Below.drew ?_ | refine below_drewN ?_ _ | (refine below_call ?_ (by assumption) (by first | omega | (simp; done) | (simp; omega))) | (refine Below.trans ?_ (by assumption)))
      have hB11 : Below w.heap.size w w11 := by repeat (first | exact Below.refl _ _ | assumption | refine below_allocS ?_ _ | refine below_callS ?_ (by assumption) | (refine Below.alloc ?_ (by first | omega | (simp; done) | (simp; omega)) _) | (refine Below.setCell ?_ (by first | omega | (simp; done) | (simp; omega)) _) | refine Below.drew ?_ | refine below_drewN ?_ _ | (refine below_call ?_ (by assumption) (by first | omega | (simp; done) | (simp; omega))) | (refine Below.trans ?_ (by assumption)))
      simp at hs_w7
      have hs11 : w6.heap.size + 1 ≤ w11.heap.size := by omega
      have HBg11 := Lib.hid (HBg7.out.keep hB11g)
      have HBw11 := Lib.hid (HB3.out.keep hB11')
      have h3lt := HB3.out.lt
      clear hc_w8 hf_w8 hc_w9 hf_w9 hc_w10 hf_w10 hc_w11 hf_w11 hb_w7 hb_w8 hb_w9 hb_w10 hb_w11
      go_wp2_with fail
      refine Calls.mono (laws_markInt64S (HOx6.out.keep hB11') hn (by decide) (by decide)) ?_
      rintro e w12 ⟨rfl, ht12, _⟩
      have hs_w12 := ht12.size
      have hB12 : Below w.heap.size w w12 := ht12.below hB11 (by omega) (fun b e => by cases e; omega)
      have HOg12 := Lib.hid ((HOg1.out.keep hB11').keepT ht12 (fun g e e' => by have := hg1b g e; cases e'; omega))
      have HOh12 := Lib.hid ((HOg2.out.keep hB11').keepT ht12 (fun g e e' => by have := hg2b g e; cases e'; omega))
      have HOw12 := Lib.hid ((HOw16.out.keep hB11').keepT ht12 (fun g e e' => by have := hw1b g e; cases e'; omega))
      have HOv12 := Lib.hid ((HOw26.out.keep hB11').keepT ht12 (fun g e e' => by have := hw2b g e; cases e'; omega))
      have HOy12 := Lib.hid ((HOy6.out.keep hB11').keepT ht12 (fun g e e' => by have := hyb g e; cases e'; omega))
      have HBg12 := Lib.hid (HBg11.out.keepT ht12 (fun e => by cases e; omega))
      have HBw12 := Lib.hid (HBw11.out.keepT ht12 (fun e => by cases e; omega))
      clear ht12
      go_wp2_with fail
      refine Calls.mono (laws_markLockFaultS HOy12.out hns (by omega) (by omega)) ?_
      rintro e w13 ⟨rfl, ht13, _⟩
      have hs_w13 := ht13.size
      have hyb' := hyb g5 rfl
      have hB13 : Below w.heap.size w w13 := ht13.below hB12 (by omega) (fun b e => by cases e; omega)
      have HOg13 := Lib.hid (HOg12.out.keepT ht13 (fun g e e' => by have := hg1b g e; cases e'; omega))
      have HOh13 := Lib.hid (HOh12.out.keepT ht13 (fun g e e' => by have := hg2b g e; cases e'; omega))
      have HOw13 := Lib.hid (HOw12.out.keepT ht13 (fun g e e' => by have := hw1b g e; cases e'; omega))
      have HOv13 := Lib.hid (HOv12.out.keepT ht13 (fun g e e' => by have := hw2b g e; cases e'; omega))
      have HBg13 := Lib.hid (HBg12.out.keepT ht13 (fun e => by cases e; omega))
      have HBw13 := Lib.hid (HBw12.out.keepT ht13 (fun e => by cases e; omega))
      clear ht13
      have hk0 : ¬ ((1 : Int) + (n : Int) + (ns : Int) * 3) < 0 := by omega
      have c0 := HBg13.out.cell 0
      have c1 := HBg13.out.cell 1
      have c2 := HBg13.out.lt
      have d0 := HBw13.out.cell 0
      have d1 := HBw13.out.cell 1
      have d2 := HBw13.out.lt
      simp at c0 c1 d0 d1
      go_wp2_with fail
      refine Calls.mono (laws_eqReport (HOg13.out.ints.keep (by repeat (first | exact Below.refl _ _ | assumption | refine below_allocS ?_ _ | refine below_callS ?_ (by assumption) | (refine Below.alloc ?_ (by first | omega | (simp; done) | (simp; omega)) _) | (refine Below.setCell ?_ (by first | omega | (simp; done) | (simp; omega)) _) | refine Below.drew ?_ | refine below_drewN ?_ _ | (refine below_call ?_ (by assumption) (by first | omega | (simp; done) | (simp; omega))) | (refine Below.trans ?_ (by assumption))))) (HOh13.out.ints.keep (by repeat (first | exact Below.refl _ _ | assumption | refine below_allocS ?_ _ | refine below_callS ?_ (by assumption) | (refine Below.alloc ?_ (by first | omega | (simp; done) | (simp; omega)) _) | (refine Below.setCell ?_ (by first | omega | (simp; done) | (simp; omega)) _) | refine Below.drew ?_ | refine below_drewN ?_ _ | (refine below_call ?_ (by assumption) (by first | omega | (simp; done) | (simp; omega))) | (refine Below.trans ?_ (by assumption))))) (HOw13.out.ints.keep (by repeat (first | exact Below.refl _ _ | assumption | refine below_allocS ?_ _ | refine below_callS ?_ (by assumption) | (refine Below.alloc ?_ (by first | omega | (simp; done) | (simp; omega)) _) | (refine Below.setCell ?_ (by first | omega | (simp; done) | (simp; omega)) _) | refine Below.drew ?_ | refine below_drewN ?_ _ | (refine below_call ?_ (by assumption) (by first | omega | (simp; done) | (simp; omega))) | (refine Below.trans ?_ (by assumption))))) (HOv13.out.ints.keep (by repeat (first | exact Below.refl _ _ | assumption | refine below_allocS ?_ _ | refine below_callS ?_ (by assumption) | (refine Below.alloc ?_ (by first | omega | (simp; done) | (simp; omega)) _) | (refine Below.setCell ?_ (by first | omega | (simp; done) | (simp; omega)) _) | refine Below.drew ?_ | refine below_drewN ?_ _ | (refine below_call ?_ (by assumption) (by first | omega | (simp; done) | (simp; omega))) | (refine Below.trans ?_ (by assumption))))) hres hres) ?_
      rintro e w14 ⟨rfl, hb_w14⟩
      have hs_w14 := hb_w14.size
      have hB14' : Below w13.heap.size w13 w14 := by repeat (first | exact Below.refl _ _ | assumption | refine below_allocS ?_ _ | refine below_callS ?_ (by assumption) | (refine Below.alloc ?_ (by first | omega | (simp; done) | (simp; omega)) _) | (refine Below.setCell ?_ (by first | omega | (simp; done) | (simp; omega)) _) | refine Below.drew ?_ | refine below_drewN ?_ _ | (refine below_call ?_ (by assumption) (by first | omega | (simp; done) | (simp; omega))) | (refine Below.trans ?_ (by assumption)))
      have hB14 : Below w.heap.size w w14 := by repeat (first | exact Below.refl _ _ | assumption | refine below_allocS ?_ _ | refine below_callS ?_ (by assumption) | (refine Below.alloc ?_ (by first | omega | (simp; done) | (simp; omega)) _) | (refine Below.setCell ?_ (by first | omega | (simp; done) | (simp; omega)) _) | refine Below.drew ?_ | refine below_drewN ?_ _ | (refine below_call ?_ (by assumption) (by first | omega | (simp; done) | (simp; omega))) | (refine Below.trans ?_ (by assumption)))
      have HBg14 := Lib.hid (HBg13.out.keep hB14')
      have HBw14 := Lib.hid (HBw13.out.keep hB14')
      clear c0 c1 c2 d0 d1 d2
      have c0 := HBg14.out.cell 0
      have c1 := HBg14.out.cell 1
      have c2 := HBg14.out.lt
      simp at c0 c1
      go_wp2_with fail
      refine Calls.mono (laws_markReport (HOg13.out.keep hB14') (HOh13.out.keep hB14') HAg.out hres hres (by decide) (by decide)) ?_
      rintro e w15 ⟨w15a, w15b, rfl, hb15a, ht15a, ht15b, hog15, hoh15⟩
      have hs_w15a := hb15a.size
      have hs_w15b := ht15a.size
      have hs_w15 := ht15b.size
      have HOg15 := Lib.hid hog15
      have HOh15 := Lib.hid hoh15
      clear hog15 hoh15
      have hB15a : Below w.heap.size w w15a := by repeat (first | exact Below.refl _ _ | assumption | refine below_allocS ?_ _ | refine below_callS ?_ (by assumption) | (refine Below.alloc ?_ (by first | omega | (simp; done) | (simp; omega)) _) | (refine Below.setCell ?_ (by first | omega | (simp; done) | (simp; omega)) _) | refine Below.drew ?_ | refine below_drewN ?_ _ | (refine below_call ?_ (by assumption) (by first | omega | (simp; done) | (simp; omega))) | (refine Below.trans ?_ (by assumption)))
      have hB15b : Below w.heap.size w w15b := ht15a.below hB15a (by omega) (fun b e => by have := hg1b b e; omega)
      have hB15 : Below w.heap.size w w15 := ht15b.below hB15b (by omega) (fun b e => by have := hg2b b e; omega)
      have HBg15 := Lib.hid (((HBg14.out.keep hb15a).keepT ht15a (fun e => by have := hg1b _ e; omega)).keepT ht15b (fun e => by have := hg2b _ e; omega))
      have HBw15 := Lib.hid (((HBw14.out.keep hb15a).keepT ht15a (fun e => by have := hg1b _ e; omega)).keepT ht15b (fun e => by have := hg2b _ e; omega))
      have HOw15 := Lib.hid ((((HOw13.out.keep hB14').keep hb15a).keepT ht15a (fun g e e' => by have := hw1b g e; have := hg1b g e'; omega)).keepT ht15b (fun g e e' => by have := hw1b g e; have := hg2b g e'; omega))
      have HOv15 := Lib.hid ((((HOv13.out.keep hB14').keep hb15a).keepT ht15a (fun g e e' => by have := hw2b g e; have := hg1b g e'; omega)).keepT ht15b (fun g e e' => by have := hw2b g e; have := hg2b g e'; omega))
      clear ht15a ht15b c0 c1 c2
      have c0 := HBg15.out.cell 0
      have c1 := HBg15.out.cell 1
      have c2 := HBg15.out.lt
      simp at c0 c1
      go_wp2_with fail
      refine Calls.mono (laws_heldReport HOg15.out.ints HOh15.out.ints hres hres (by decide) (by decide)) ?_
      rintro e w16 ⟨rfl, hb_w16⟩
      have hs_w16 := hb_w16.size
      have hq0 : ¬ ((1 : Int) + (n6 : Int) + (n6 : Int)) < 0 := by omega
      have hB16 : Below w.heap.size w w16 := by repeat (first | exact Below.refl _ _ | assumption | refine below_allocS ?_ _ | refine below_callS ?_ (by assumption) | (refine Below.alloc ?_ (by first | omega | (simp; done) | (simp; omega)) _) | (refine Below.setCell ?_ (by first | omega | (simp; done) | (simp; omega)) _) | refine Below.drew ?_ | refine below_drewN ?_ _ | (refine below_call ?_ (by assumption) (by first | omega | (simp; done) | (simp; omega))) | (refine Below.trans ?_ (by assumption)))
      clear c0 c1 c2
      go_wp2_with fail
      refine Calls.mono (laws_toInt64S (HI.out.keep (by repeat (first | exact Below.refl _ _ | assumption | refine below_allocS ?_ _ | refine below_callS ?_ (by assumption) | (refine Below.alloc ?_ (by first | omega | (simp; done) | (simp; omega)) _) | (refine Below.setCell ?_ (by first | omega | (simp; done) | (simp; omega)) _) | refine Below.drew ?_ | refine below_drewN ?_ _ | (refine below_call ?_ (by assumption) (by first | omega | (simp; done) | (simp; omega))) | (refine Below.trans ?_ (by assumption))))) hn) ?_
      rintro e w17 ⟨rfl, hb_w17, HO17⟩
      obtain ⟨hc_w17, hf_w17⟩ := bcell hb_w17
      have hs_w17 := hb_w17.size
      have HO17 := Lib.hid HO17
      go_wp2_with fail
      refine Calls.mono (laws_toLockFaultS (HS.out.keep (by repeat (first | exact Below.refl _ _ | assumption | refine below_allocS ?_ _ | refine below_callS ?_ (by assumption) | (refine Below.alloc ?_ (by first | omega | (simp; done) | (simp; omega)) _) | (refine Below.setCell ?_ (by first | omega | (simp; done) | (simp; omega)) _) | refine Below.drew ?_ | refine below_drewN ?_ _ | (refine below_call ?_ (by assumption) (by first | omega | (simp; done) | (simp; omega))) | (refine Below.trans ?_ (by assumption))))) hns) ?_
      rintro e w18 ⟨rfl, hb_w18, HO18⟩
      obtain ⟨hc_w18, hf_w18⟩ := bcell hb_w18
      have hs_w18 := hb_w18.size
      have HO18 := Lib.hid HO18
      go_wp2_with fail
      refine Calls.mono (H33.out _ _ _ (HO17.out.ints.keep (by repeat (first | exact Below.refl _ _ | assumption | refine below_allocS ?_ _ | refine below_callS ?_ (by assumption) | (refine Below.alloc ?_ (by first | omega | (simp; done) | (simp; omega)) _) | (refine Below.setCell ?_ (by first | omega | (simp; done) | (simp; omega)) _) | refine Below.drew ?_ | refine below_drewN ?_ _ | (refine below_call ?_ (by assumption) (by first | omega | (simp; done) | (simp; omega))) | (refine Below.trans ?_ (by assumption))))) HO18.out.flats) ?_
      rintro e w19 ⟨n19, a191, c191, a192, c192, rfl, hb_w19, ho191, ho192, _⟩
      have hs_w19 := hb_w19.size
      have HOh1 := Lib.hid ho191
      have HOh2 := Lib.hid ho192
      have hn19 : n19 = n6 := by rw [← ho191.len, HL.out]
      subst hn19
      clear ho191 ho192 hc_w17 hf_w17 hc_w18 hf_w18
      have hB19' : Below w15.heap.size w15 w19 := by repeat (first | exact Below.refl _ _ | assumption | refine below_allocS ?_ _ | refine below_callS ?_ (by assumption) | (refine Below.alloc ?_ (by first | omega | (simp; done) | (simp; omega)) _) | (refine Below.setCell ?_ (by first | omega | (simp; done) | (simp; omega)) _) | refine Below.drew ?_ | refine below_drewN ?_ _ | (refine below_call ?_ (by assumption) (by first | omega | (simp; done) | (simp; omega))) | (refine Below.trans ?_ (by assumption)))
      have hB19 : Below w.heap.size w w19 := by repeat (first | exact Below.refl _ _ | assumption | refine below_allocS ?_ _ | refine below_callS ?_ (by assumption) | (refine Below.alloc ?_ (by first | omega | (simp; done) | (simp; omega)) _) | (refine Below.setCell ?_ (by first | omega | (simp; done) | (simp; omega)) _) | refine Below.drew ?_ | refine below_drewN ?_ _ | (refine below_call ?_ (by assumption) (by first | omega | (simp; done) | (simp; omega))) | (refine Below.trans ?_ (by assumption)))
      have HBg19 := Lib.hid (HBg15.out.keep hB19')
      have HBw19 := Lib.hid (HBw15.out.keep hB19')
      clear hb_w17 hb_w18 hb_w19
      have d0 := HBw19.out.cell 0
      have d1 := HBw19.out.cell 1
      have d2 := HBw19.out.lt
      simp at d0 d1
      go_wp2_with fail
      refine Calls.mono (laws_eqReport (HOh1.out.ints.keep (by repeat (first | exact Below.refl _ _ | assumption | refine below_allocS ?_ _ | refine below_callS ?_ (by assumption) | (refine Below.alloc ?_ (by first | omega | (simp; done) | (simp; omega)) _) | (refine Below.setCell ?_ (by first | omega | (simp; done) | (simp; omega)) _) | refine Below.drew ?_ | refine below_drewN ?_ _ | (refine below_call ?_ (by assumption) (by first | omega | (simp; done) | (simp; omega))) | (refine Below.trans ?_ (by assumption))))) (HOh2.out.ints.keep (by repeat (first | exact Below.refl _ _ | assumption | refine below_allocS ?_ _ | refine below_callS ?_ (by assumption) | (refine Below.alloc ?_ (by first | omega | (simp; done) | (simp; omega)) _) | (refine Below.setCell ?_ (by first | omega | (simp; done) | (simp; omega)) _) | refine Below.drew ?_ | refine below_drewN ?_ _ | (refine below_call ?_ (by assumption) (by first | omega | (simp; done) | (simp; omega))) | (refine Below.trans ?_ (by assumption))))) ((HOw15.out.ints.keep hB19').keep (by repeat (first | exact Below.refl _ _ | assumption | refine below_allocS ?_ _ | refine below_callS ?_ (by assumption) | (refine Below.alloc ?_ (by first | omega | (simp; done) | (simp; omega)) _) | (refine Below.setCell ?_ (by first | omega | (simp; done) | (simp; omega)) _) | refine Below.drew ?_ | refine below_drewN ?_ _ | (refine below_call ?_ (by assumption) (by first | omega | (simp; done) | (simp; omega))) | (refine Below.trans ?_ (by assumption))))) ((HOv15.out.ints.keep hB19').keep (by repeat (first | exact Below.refl _ _ | assumption | refine below_allocS ?_ _ | refine below_callS ?_ (by assumption) | (refine Below.alloc ?_ (by first | omega | (simp; done) | (simp; omega)) _) | (refine Below.setCell ?_ (by first | omega | (simp; done) | (simp; omega)) _) | refine Below.drew ?_ | refine below_drewN ?_ _ | (refine below_call ?_ (by assumption) (by first | omega | (simp; done) | (simp; omega))) | (refine Below.trans ?_ (by assumption))))) hres hres) ?_
      rintro e w20 ⟨rfl, hb_w20⟩
      have hs_w20 := hb_w20.size
      have hB20' : Below w19.heap.size w19 w20 := by repeat (first | exact Below.refl _ _ | assumption | refine below_allocS ?_ _ | refine below_callS ?_ (by assumption) | (refine Below.alloc ?_ (by first | omega | (simp; done) | (simp; omega)) _) | (refine Below.setCell ?_ (by first | omega | (simp; done) | (simp; omega)) _) | refine Below.drew ?_ | refine below_drewN ?_ _ | (refine below_call ?_ (by assumption) (by first | omega | (simp; done) | (simp; omega))) | (refine Below.trans ?_ (by assumption)))
      have HBg20 := Lib.hid (HBg19.out.keep hB20')
      clear d0 d1 d2
      have c0 := HBg20.out.cell 0
      have c1 := HBg20.out.cell 1
      have c2 := HBg20.out.lt
      simp at c0 c1
      go_wp2_with fail
      refine Calls.mono (laws_heldReport ((HOg15.out.ints.keep hB19').keep hB20') ((HOh15.out.ints.keep hB19').keep hB20') hres hres (by decide) (by decide)) ?_
      rintro e w21 ⟨rfl, hb_w21⟩
      go_wp2
      go_ret
      exact ⟨rfl, by repeat (first | exact Below.refl _ _ | assumption | refine below_allocS ?_ _ | refine below_callS ?_ (by assumption) | (refine Below.alloc ?_ (by first | omega | (simp; done) | (simp; omega)) _) | (refine Below.setCell ?_ (by first | omega | (simp; done) | (simp; omega)) _) | refine Below.drew ?_ | refine below_drewN ?_ _ | (refine below_call ?_ (by assumption) (by first | omega | (simp; done) | (simp; omega))) | (refine Below.trans ?_ (by assumption)))⟩
    · have hsz : (if (1048576 : Int) < (ns : Int) then -1 else 1048576 - (ns : Int)) = -1 := if_pos (by omega)
      go_enter Try.func11, Try.ntmps11
      go_wp2_with fail
      refine Calls.mono (laws_szLockFaultS hmax' (by omega) (by omega)) ?_
      rintro e _ ⟨rfl, rfl⟩
      rw [hsz]
      go_wp2
      go_ret
      exact ⟨rfl, by repeat (first | exact Below.refl _ _ | assumption | refine below_allocS ?_ _ | refine below_callS ?_ (by assumption) | (refine Below.alloc ?_ (by first | omega | (simp; done) | (simp; omega)) _) | (refine Below.setCell ?_ (by first | omega | (simp; done) | (simp; omega)) _) | refine Below.drew ?_ | refine below_drewN ?_ _ | (refine below_call ?_ (by assumption) (by first | omega | (simp; done) | (simp; omega))) | (refine Below.trans ?_ (by assumption)))⟩
  · go_enter Try.func11, Try.ntmps11
    go_wp2
    go_ret
    exact ⟨rfl, by repeat (first | exact Below.refl _ _ | assumption | refine below_allocS ?_ _ | refine below_callS ?_ (by assumption) | (refine Below.alloc ?_ (by first | omega | (simp; done) | (simp; omega)) _) | (refine Below.setCell ?_ (by first | omega | (simp; done) | (simp; omega)) _) | refine Below.drew ?_ | refine below_drewN ?_ _ | (refine below_call ?_ (by assumption) (by first | omega | (simp; done) | (simp; omega))) | (refine Below.trans ?_ (by assumption)))⟩
end Go.Proofs.Ytijdcacplibmhaa
