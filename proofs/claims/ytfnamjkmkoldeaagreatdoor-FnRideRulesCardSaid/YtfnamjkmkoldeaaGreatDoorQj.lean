/- Valid models, walked: IsModel of the program.; The kinds of the rules of a ride model: the reference's list, walked.; A number of one digit in decimal, walked: some text of one byte.; What the listed package-level variables hold, cell by cell.; A rule of a ride with its kind, made: walked.; Tests and rules of a ride: small parts, walked.; Tables of names: rules of a ride, words of a replay. -/
import Derived.Test.YtfnamjkmkoldeaaGreatDoorQe
import Derived.Test.YtfnamjkmkoldeaaGreatDoorQa
import Derived.Test.YtfnamjkmkoldeaaGreatDoorQc
import Derived.Test.YtfnamjkmkoldeaaGreatDoorBase
import Derived.Lib.LaidTab
import Derived.Deep.Strs
import Derived.Lib.SmallJoins
namespace Go.Proofs.YtfnamjkmkoldeaaGreatDoor
open Go.RowKit
set_option linter.unusedVariables false
set_option linter.unusedSimpArgs false
set_option maxHeartbeats 2000000 in
theorem impl_IsModel {sa ta ra : Option Addr} {sn sc tn tc rn rc : Nat} {sz st : List Int} {l : List (RM × RuD)} {w : World} (hI : Ints w sa sn sc sz) (hn : sn ≤ 1048576) (hT : Ints w ta tn tc st) (ht : tn ≤ 1048576) (hR : FR w w ra rn rc l) (hr : rn ≤ 1048576) :
    Calls Tryz.prog 38 #[.agg #[.slice sa sn sc, .slice ta tn tc, .slice ra rn rc]] w fun e w' => e = .returned (.bool (modelB sz st l)) ∧ Below w.heap.size w w' := by
  have hil := hI.len
  have hrl := hR.len
  have HM := Lib.hid (show modelB sz st l = (inB (sn : Int) 1 16 && (allIn 1 32 sz && (stateB sz st && (decide (rn ≤ 200) && rulesB sz l)))) by rw [modelB, hil, hrl])
  have hB := Blk.made w #[.slice sa sn sc, .slice ta tn tc, .slice ra rn rc] 44
  have hbA : Below w.heap.size w (w.alloc (.cells #[.slice sa sn sc, .slice ta tn tc, .slice ra rn rc] 44)) := (Below.refl _ _).alloc (Nat.le_refl _) _
  obtain ⟨wA, hwA⟩ : ∃ wA : World, wA = w.alloc (.cells #[.slice sa sn sc, .slice ta tn tc, .slice ra rn rc] 44) := ⟨_, rfl⟩
  rw [← hwA] at hB hbA
  have HwA := Lib.hid hwA
  have X := Lib.hid hB
  clear hwA hB hil hrl
  have x0 := X.out.cell 0
  have x1 := X.out.cell 1
  have x2 := X.out.cell 2
  have xl := X.out.lt
  simp at x0 x1 x2
  cases h1 : inB (sn : Int) 1 16
  · have H1 := Lib.hid h1
    clear h1 hI hT hR
    go_enter Tryz.func38, Tryz.ntmps38
    go_wp2_with fail
    rw [← HwA.out]
    go_wp2_with fail
    refine Calls.mono (impl_length_i64) ?_
    rintro e _ ⟨rfl, rfl⟩
    go_wp2_with fail
    refine Calls.mono (impl_within) ?_
    rintro e _ ⟨rfl, rfl⟩
    rw [H1.out]
    go_wp2
    go_ret
    exact ⟨ret_bool (by rw [HM.out, H1.out]; rfl), hbA⟩
  · have H1 := Lib.hid h1
    clear h1
    have hcf := slices_ContainsFunc_i64 (g := 91) (lb := #[]) (p := fun x => !inB x 1 32) (w := wA) (enters_of Tryz.func91 (by kernel_rfl) rfl) (fun W x hx hb => Calls.mono (impl_IsModel_1 (x := x) (w := W)) (fun e w' h => ⟨h.1, h.2 ▸ Below.refl _ _⟩)) (hI.keep hbA) hn
    rw [allIn_any] at hcf
    cases h2 : allIn 1 32 sz
    · rw [h2] at hcf
      have H2 := Lib.hid h2
      have HCF := Lib.hid hcf
      clear h2 hI hT hR hcf
      go_enter Tryz.func38, Tryz.ntmps38
      go_wp2_with fail
      rw [← HwA.out]
      go_wp2_with fail
      refine Calls.mono (impl_length_i64) ?_
      rintro e _ ⟨rfl, rfl⟩
      go_wp2_with fail
      refine Calls.mono (impl_within) ?_
      rintro e _ ⟨rfl, rfl⟩
      rw [H1.out]
      go_wp2_with fail
      refine Calls.mono HCF.out ?_
      rintro e w1 ⟨rfl, hb1⟩
      go_wp2
      go_ret
      exact ⟨ret_bool (by rw [HM.out, H1.out, H2.out]; rfl), below_call hbA hb1 hbA.size⟩
    · rw [h2] at hcf
      have HS := Lib.hid (fun (wx : World) (hb : Below w.heap.size w wx) => impl_isState (ta := ta) (tn := tn) (tc := tc) (ra := ra) (rn := rn) (rc := rc) (hI.keep hb) (hT.keep hb) hn ht h2)
      have HP := Lib.hid (fun (wx : World) (hb : Below w.heap.size w wx) (hB : Blk wx w.heap.size #[.slice sa sn sc, .slice ta tn tc, .slice ra rn rc] 44) => slices_ContainsFunc_Rule (g := 94) (lb := #[.pointer (some ⟨w.heap.size, 0, none⟩)]) (p := fun x => !ruleB sz x.2) (w := wx) (w0 := w) (enters_of Tryz.func94 (by kernel_rfl) rfl) (fun W x hx hb' => impl_IsModel_2 (hB.keep hb') (hI.keep (below_callS hb hb')) hn h2 hx (below_callS hb hb')) (hR.keep hb) hr)
      have H2 := Lib.hid h2
      have HCF := Lib.hid hcf
      clear h2 hI hT hR hcf
      have hst := HS.out
      cases h3 : stateB sz st
      · rw [h3] at hst
        have H3 := Lib.hid h3
        have HST := Lib.hid hst
        clear h3 hst
        go_enter Tryz.func38, Tryz.ntmps38
        go_wp2_with fail
        rw [← HwA.out]
        go_wp2_with fail
        refine Calls.mono (impl_length_i64) ?_
        rintro e _ ⟨rfl, rfl⟩
        go_wp2_with fail
        refine Calls.mono (impl_within) ?_
        rintro e _ ⟨rfl, rfl⟩
        rw [H1.out]
        go_wp2_with fail
        refine Calls.mono HCF.out ?_
        rintro e w1 ⟨rfl, hb1⟩
        have hbl1 : Below w.heap.size w w1 := below_call hbA hb1 hbA.size
        have X1 := Lib.hid (X.out.keep hb1)
        clear x0 x1 x2 xl hb1
        have x0 := X1.out.cell 0
        have x1 := X1.out.cell 1
        have x2 := X1.out.cell 2
        have xl := X1.out.lt
        simp at x0 x1 x2
        go_wp2_with fail
        refine Calls.mono (HST.out _ hbl1) ?_
        rintro e w2 ⟨rfl, hb2⟩
        go_wp2
        go_ret
        exact ⟨ret_bool (by rw [HM.out, H1.out, H2.out, H3.out]; rfl), below_callS hbl1 hb2⟩
      · rw [h3] at hst
        have H3 := Lib.hid h3
        have HST := Lib.hid hst
        clear h3 hst
        by_cases h4 : rn ≤ 200
        · have h4' : (rn : Int) ≤ 200 := by omega
          have H4 := Lib.hid (decide_eq_true h4)
          have hp := HP.out
          rw [show (l.any fun x => !ruleB sz x.2) = !rulesB sz l by rw [rulesB_any, Bool.not_not]] at hp
          cases h5 : rulesB sz l
          all_goals
            rw [h5] at hp
            have H5 := Lib.hid h5
            have HPP := Lib.hid hp
            clear h5 hp
            go_enter Tryz.func38, Tryz.ntmps38
            go_wp2_with fail
            rw [← HwA.out]
            go_wp2_with fail
            refine Calls.mono (impl_length_i64) ?_
            rintro e _ ⟨rfl, rfl⟩
            go_wp2_with fail
            refine Calls.mono (impl_within) ?_
            rintro e _ ⟨rfl, rfl⟩
            rw [H1.out]
            go_wp2_with fail
            refine Calls.mono HCF.out ?_
            rintro e w1 ⟨rfl, hb1⟩
            have hbl1 : Below w.heap.size w w1 := below_call hbA hb1 hbA.size
            have X1 := Lib.hid (X.out.keep hb1)
            clear x0 x1 x2 xl hb1
            have x0 := X1.out.cell 0
            have x1 := X1.out.cell 1
            have x2 := X1.out.cell 2
            have xl := X1.out.lt
            simp at x0 x1 x2
            go_wp2_with fail
            refine Calls.mono (HST.out _ hbl1) ?_
            rintro e w2 ⟨rfl, hb2⟩
            have hbl2 : Below w.heap.size w w2 := below_callS hbl1 hb2
            have X2 := Lib.hid (X1.out.keep hb2)
            clear x0 x1 x2 xl hb2 hbl1
            have x0 := X2.out.cell 0
            have x1 := X2.out.cell 1
            have x2 := X2.out.cell 2
            have xl := X2.out.lt
            simp at x0 x1 x2
            go_wp2_with fail
            refine Calls.mono (HPP.out _ hbl2 X2.out) ?_
            rintro e w3 ⟨rfl, hb3⟩
            go_wp2
            go_ret
            exact ⟨ret_bool (by rw [HM.out, H1.out, H2.out, H3.out, H4.out, H5.out]; rfl), below_callS hbl2 hb3⟩
        · have h4' : ¬ (rn : Int) ≤ 200 := by omega
          have H4 := Lib.hid (decide_eq_false h4)
          clear HP
          go_enter Tryz.func38, Tryz.ntmps38
          go_wp2_with fail
          rw [← HwA.out]
          go_wp2_with fail
          refine Calls.mono (impl_length_i64) ?_
          rintro e _ ⟨rfl, rfl⟩
          go_wp2_with fail
          refine Calls.mono (impl_within) ?_
          rintro e _ ⟨rfl, rfl⟩
          rw [H1.out]
          go_wp2_with fail
          refine Calls.mono HCF.out ?_
          rintro e w1 ⟨rfl, hb1⟩
          have hbl1 : Below w.heap.size w w1 := below_call hbA hb1 hbA.size
          have X1 := Lib.hid (X.out.keep hb1)
          clear x0 x1 x2 xl hb1
          have x0 := X1.out.cell 0
          have x1 := X1.out.cell 1
          have x2 := X1.out.cell 2
          have xl := X1.out.lt
          simp at x0 x1 x2
          go_wp2_with fail
          refine Calls.mono (HST.out _ hbl1) ?_
          rintro e w2 ⟨rfl, hb2⟩
          have hbl2 : Below w.heap.size w w2 := below_callS hbl1 hb2
          have X2 := Lib.hid (X1.out.keep hb2)
          clear x0 x1 x2 xl hb2 hbl1
          have x2 := X2.out.cell 2
          have xl := X2.out.lt
          simp at x2
          go_wp2
          go_ret
          exact ⟨ret_bool (by rw [HM.out, H1.out, H2.out, H3.out, H4.out]; rfl), hbl2⟩
end Go.Proofs.YtfnamjkmkoldeaaGreatDoor
namespace Go.Proofs.YtfnamjkmkoldeaaGreatDoor
open Go.RowKit
set_option linter.unusedVariables false
set_option linter.unusedSimpArgs false
/-- 'append(out, x)' of a record of three numbers, the literal laid just before; no draw in sight -/
theorem appK3 {zv : Value} {by' : Nat} {P : Program} {w : World} {ops : Array Oper} {rest : List Oper} {o : Oper} {act : Act} {Q : Exit → Act → World → Prop} {x0 x1 x2 : Int} {t e : TypeId} (hgd : o.guard = none) (s x : Operand)
    (ho : o.op = .call { callee := .builtin .append, args := #[s, x], argTypes := #[t, t] }) (ht : P.underlying t = some (.slice e)) (hinfo : (P.info? e).map (fun i => (i.zero, i.size, i.bytes)) = some (some zv, 3, by'))
    (hzs : zv.cells.size = 3) (hby : by' ≤ 128) (base : Nat) (a : Option Addr) (n c : Nat) (l : List I3) (hown : OwnF 3 I3.enc I3.ok e w base a n c l) (hs : act.eval s = .slice a n c) (gx : Nat) (hx : act.eval x = .slice (some ⟨gx, 0, none⟩) 1 1) (hg : gx = w.heap.size) (h0 : I64 x0) (h1 : I64 x1) (h2 : I64 x2)
    (hn : n ≤ 4194304) (hbase : base ≤ w.heap.size)
    (K : ∀ a' c' w', OwnF 3 I3.enc I3.ok e w' base a' (n + 1) c' (l ++ [⟨x0, x1, x2⟩]) → Below base w w' → wpList P ops Q rest (act.put o.dst (.slice a' (n + 1) c')) w') : wpList P ops Q (o :: rest) act (w.alloc (.cells #[.int .i64 x0, .int .i64 x1, .int .i64 x2] e)) := by
  subst hg
  have hb0 : Below w.heap.size w (w.alloc (.cells #[.int .i64 x0, .int .i64 x1, .int .i64 x2] e)) := (Below.refl _ _).alloc (Nat.le_refl _) _
  refine appendL_F hgd s x t e ho ht hinfo hzs (by decide) hby I3.one base a n c l (hown.keep hb0) hs _ _ _ [⟨x0, x1, x2⟩] hx (lit_flats (k := 3) (enc := I3.enc) (ok := I3.ok) w e [⟨x0, x1, x2⟩] _ (fun _ => rfl) (by decide) rfl (by intro y hy; simp at hy; subst hy; exact ⟨h0, h1, h2⟩)) hn (by simp) (by simp; omega) ?_
  intro a' c' w' h1 h2 h3 _
  exact K a' c' w' h1 ((hb0.mono hbase).trans h2)
def trK (i b : Nat) (sec : Bool) (q : Nat) : List I3 := ((List.range q).filter fun j => j != 2 || sec).map fun (j : Nat) => (⟨(j : Int), (i : Int), (b : Int)⟩ : I3)
def trB' (i : Nat) (sec : Bool) (q : Nat) : List I3 := (List.range q).flatMap fun b => trK i b sec 4
def trI (B : Nat) (sec : Bool) (q : Nat) : List I3 := (List.range q).flatMap fun i => trB' i sec B
def faK (b k : Nat) (sec : Bool) (q : Nat) : List I3 := ((List.range q).filter fun j => j != 2 || sec).map fun (j : Nat) => (⟨4 + (j : Int), (b : Int), (k : Int)⟩ : I3)
def faB (b bud : Nat) (sec : Bool) (q : Nat) : List I3 := (List.range q).flatMap fun j => faK b (bud - j) sec 3
def faI (bud : Nat) (sec : Bool) (q : Nat) : List I3 := (List.range q).flatMap fun b => faB b bud sec bud
def kindsL (n B bud : Nat) (sec : Bool) : List I3 := trI B sec n ++ faI bud sec B
theorem flat_snoc {α : Type} (f : Nat → List α) (q : Nat) : (List.range (q + 1)).flatMap f = (List.range q).flatMap f ++ f q := by
  rw [List.range_succ, List.flatMap_append]; simp
theorem trK_yes {i b q : Nat} {sec : Bool} (h : (q != 2 || sec) = true) : trK i b sec (q + 1) = trK i b sec q ++ [⟨q, i, b⟩] := by
  rw [trK, List.range_succ, List.filter_append, List.map_append]; simp [trK, h]
theorem trK_no {i b q : Nat} {sec : Bool} (h : (q != 2 || sec) = false) : trK i b sec (q + 1) = trK i b sec q := by
  rw [trK, List.range_succ, List.filter_append, List.map_append]; simp [trK, h]
theorem faK_yes {b k q : Nat} {sec : Bool} (h : (q != 2 || sec) = true) : faK b k sec (q + 1) = faK b k sec q ++ [⟨4 + q, b, k⟩] := by
  rw [faK, List.range_succ, List.filter_append, List.map_append]; simp [faK, h]
theorem faK_no {b k q : Nat} {sec : Bool} (h : (q != 2 || sec) = false) : faK b k sec (q + 1) = faK b k sec q := by
  rw [faK, List.range_succ, List.filter_append, List.map_append]; simp [faK, h]
theorem Tryz.infoKind : (Tryz.prog.info? 148).map (fun i => (i.zero, i.size, i.bytes)) = some (some (.agg #[.int .i64 0, .int .i64 0, .int .i64 0]), 3, 24) := by kernel_rfl
set_option maxRecDepth 100000 in
set_option maxHeartbeats 2000000 in
theorem spec_l24Kinds {B bud n c : Nat} {a : Option Addr} {sec : Bool} {w : World} (hn : n ≤ 4) (hB : B ≤ 8) (hbud : bud ≤ 2) :
    Calls Tryz.prog 114 #[.agg #[.int .i64 (B : Int), .slice a n c], .int .i64 (bud : Int), .bool sec] w fun e w' => ∃ a' n' c', e = .returned (.slice a' n' c') ∧ OwnF 3 I3.enc I3.ok 148 w' w.heap.size a' n' c' (kindsL n B bud sec) ∧ n' ≤ 400 ∧ Below w.heap.size w w' := by
  have X := Lib.hid (Blk.made w #[.int .i64 (B : Int), .slice a n c] 28)
  obtain ⟨wA, hwA⟩ : ∃ wA : World, wA = w.alloc (.cells #[.int .i64 (B : Int), .slice a n c] 28) := ⟨_, rfl⟩
  have hsA : w.heap.size + 1 = wA.heap.size := by rw [hwA]; simp
  have hbA : Below w.heap.size w wA := by rw [hwA]; repeat (first | exact Below.refl _ _ | assumption | refine below_allocS ?_ _ | refine below_callS ?_ (by assumption) | (refine Below.alloc ?_ (by first | omega | (simp; done) | (simp; omega)) _) | (refine Below.setCell ?_ (by first | omega | (simp; done) | (simp; omega)) _) | refine Below.drew ?_ | refine below_drewN ?_ _ | (refine below_call ?_ (by assumption) (by first | omega | (simp; done) | (simp; omega))) | (refine Below.trans ?_ (by assumption)))
  rw [← hwA] at X
  have O := Lib.hid (OwnF.emp (k := 3) (E := 148) (enc := I3.enc) (ok := I3.ok) (base := w.heap.size + 1) wA (by omega) (fun _ => rfl))
  have HwA := Lib.hid hwA
  clear hwA
  go_enter Tryz.func114, Tryz.ntmps114
  go_wp2_with fail
  rw [← HwA.out]
  clear HwA
  go_loopw [7, 8] (fun s7 s8 wr => ∃ (a' : Option Addr) (m c' i : Nat), s7 = .slice a' m c' ∧ s8 = .int .i64 i ∧ i ≤ n ∧ m ≤ 32 * i ∧ w.heap.size + 1 ≤ wr.heap.size ∧ Below w.heap.size w wr ∧ Hid (OwnF 3 I3.enc I3.ok 148 wr (w.heap.size + 1) a' m c' (trI B sec i)) ∧ Hid (Blk wr w.heap.size #[.int .i64 (B : Int), .slice a n c] 28)) (fun _ s8 _ => n - (intOf s8).toNat)
  case atStart => exact ⟨_, 0, 0, 0, rfl, rfl, by omega, by omega, by (try simp); omega, by repeat (first | exact Below.refl _ _ | assumption | refine below_allocS ?_ _ | refine below_callS ?_ (by assumption) | (refine Below.alloc ?_ (by first | omega | (simp; done) | (simp; omega)) _) | (refine Below.setCell ?_ (by first | omega | (simp; done) | (simp; omega)) _) | refine Below.drew ?_ | refine below_drewN ?_ _ | (refine below_call ?_ (by assumption) (by first | omega | (simp; done) | (simp; omega))) | (refine Below.trans ?_ (by assumption))), O, Lib.hid (X.out.keep (by repeat (first | exact Below.refl _ _ | assumption | refine below_allocS ?_ _ | refine below_callS ?_ (by assumption) | (refine Below.alloc ?_ (by first | omega | (simp; done) | (simp; omega)) _) | (refine Below.setCell ?_ (by first | omega | (simp; done) | (simp; omega)) _) | refine Below.drew ?_ | refine below_drewN ?_ _ | (refine below_call ?_ (by assumption) (by first | omega | (simp; done) | (simp; omega))) | (refine Below.trans ?_ (by assumption)))))⟩
  case round =>
    clear O X hbA
    obtain ⟨a', m, c', i, rfl, rfl, hi, hm, hsr, hbl, O, X⟩ := hrel
    have x0 := X.out.cell 0
    have x1 := X.out.cell 1
    have xl := X.out.lt
    simp at x0 x1
    by_cases hlt : i < n
    · have hlt' : (i : Int) < (n : Int) := by omega
      go_wp2_with fail
      clear x0 x1 xl
      obtain ⟨wo, rfl⟩ : ∃ wo : World, wo = wr := ⟨_, rfl⟩
      go_loopw [7, 9] (fun s7 s9 wr => ∃ (a' : Option Addr) (m c' j : Nat), s7 = .slice a' m c' ∧ s9 = .int .i64 j ∧ j ≤ B ∧ m ≤ 32 * i + 4 * j ∧ w.heap.size + 1 ≤ wr.heap.size ∧ Below w.heap.size w wr ∧ Hid (OwnF 3 I3.enc I3.ok 148 wr (w.heap.size + 1) a' m c' (trI B sec i ++ trB' i sec j)) ∧ Hid (Blk wr w.heap.size #[.int .i64 (B : Int), .slice a n c] 28)) (fun _ s9 _ => B - (intOf s9).toNat)
      case atStart => exact ⟨_, m, _, 0, rfl, rfl, by omega, by omega, by omega, hbl, by show _; rw [show trI B sec i ++ trB' i sec 0 = trI B sec i by simp [trB']]; exact O, X⟩
      case round =>
        clear O X hbl
        obtain ⟨a', m, c', j, rfl, rfl, hj, hm2, hsr, hbl, O, X⟩ := hrel
        have x0 := X.out.cell 0
        have x1 := X.out.cell 1
        have xl := X.out.lt
        simp at x0 x1
        by_cases hjB : j < B
        · have hjB' : (j : Int) < (B : Int) := by omega
          go_wp2_with fail
          clear x0 x1 xl
          obtain ⟨wp, rfl⟩ : ∃ wp : World, wp = wr := ⟨_, rfl⟩
          go_loopw [7, 10] (fun s7 s10 wr => ∃ (a' : Option Addr) (m c' q : Nat), s7 = .slice a' m c' ∧ s10 = .int .i64 q ∧ q ≤ 4 ∧ m ≤ 32 * i + 4 * j + q ∧ w.heap.size + 1 ≤ wr.heap.size ∧ Below w.heap.size w wr ∧ Hid (OwnF 3 I3.enc I3.ok 148 wr (w.heap.size + 1) a' m c' (trI B sec i ++ trB' i sec j ++ trK i j sec q)) ∧ Hid (Blk wr w.heap.size #[.int .i64 (B : Int), .slice a n c] 28)) (fun _ s10 _ => 4 - (intOf s10).toNat)
          case atStart => exact ⟨_, m, _, 0, rfl, rfl, by omega, by omega, by omega, hbl, by show _; rw [show trI B sec i ++ trB' i sec j ++ trK i j sec 0 = trI B sec i ++ trB' i sec j by simp [trK]]; exact O, X⟩
          case round =>
            clear O X hbl
            obtain ⟨a', m, c', q, rfl, rfl, hq, hm3, hsr, hbl, O, X⟩ := hrel
            by_cases hq4 : q < 4
            · have hq3 : (q : Int) ≤ 3 := by omega
              by_cases hq2 : q = 2
              · subst hq2
                cases sec
                · go_wp2_with fail
                  go_roundw
                  case rel => exact ⟨_, m, _, 3, rfl, rfl, by omega, by omega, hsr, hbl, by show _; rw [trK_no (by rfl)]; exact O, X⟩
                  case measure => simp [intOf]
                · go_wp2_with (at_builtin; refine appK3 rfl _ _ rfl Tryz.underlying145 Tryz.infoKind rfl (by decide) (w.heap.size + 1) _ _ _ _ (O.out.keep (by repeat (first | exact Below.refl _ _ | assumption | refine below_allocS ?_ _ | refine below_callS ?_ (by assumption) | (refine Below.alloc ?_ (by first | omega | (simp; done) | (simp; omega)) _) | (refine Below.setCell ?_ (by first | omega | (simp; done) | (simp; omega)) _) | refine Below.drew ?_ | refine below_drewN ?_ _ | (refine below_call ?_ (by assumption) (by first | omega | (simp; done) | (simp; omega))) | (refine Below.trans ?_ (by assumption))))) rfl _ rfl (by first | rfl | (simp; done)) (by first | assumption | decide | (unfold I64; omega)) (by first | assumption | decide | (unfold I64; omega)) (by first | assumption | decide | (unfold I64; omega)) (by omega) (by (try simp); omega) ?_; intro a2 c2 wn ho hb; have O := Lib.hid ho; have X := Lib.hid (X.out.keepB hb (by omega)); have hbl := Below.trans hbl (hb.mono (by omega)); have hsn := hb.size; clear ho hb)
                  go_roundw
                  case rel => exact ⟨_, m + 1, _, 3, rfl, rfl, by omega, by omega, by (try simp at hsn); omega, hbl, by show _; rw [trK_yes (by rfl), ← List.append_assoc]; exact O, X⟩
                  case measure => simp [intOf]
              · have hq2' : ((q : Int) != 2) = true := by rw [bne_iff_ne]; omega
                have hqq : (q != 2 || sec) = true := by simp [hq2]
                have HQ := Lib.hid hqq
                clear hqq hq2
                go_wp2_with (at_builtin; refine appK3 rfl _ _ rfl Tryz.underlying145 Tryz.infoKind rfl (by decide) (w.heap.size + 1) _ _ _ _ (O.out.keep (by repeat (first | exact Below.refl _ _ | assumption | refine below_allocS ?_ _ | refine below_callS ?_ (by assumption) | (refine Below.alloc ?_ (by first | omega | (simp; done) | (simp; omega)) _) | (refine Below.setCell ?_ (by first | omega | (simp; done) | (simp; omega)) _) | refine Below.drew ?_ | refine below_drewN ?_ _ | (refine below_call ?_ (by assumption) (by first | omega | (simp; done) | (simp; omega))) | (refine Below.trans ?_ (by assumption))))) rfl _ rfl (by first | rfl | (simp; done)) (by first | assumption | decide | (unfold I64; omega)) (by first | assumption | decide | (unfold I64; omega)) (by first | assumption | decide | (unfold I64; omega)) (by omega) (by (try simp); omega) ?_; intro a2 c2 wn ho hb; have O := Lib.hid ho; have X := Lib.hid (X.out.keepB hb (by omega)); have hbl := Below.trans hbl (hb.mono (by omega)); have hsn := hb.size; clear ho hb)
                go_roundw
                case rel => exact ⟨_, m + 1, _, q + 1, rfl, by go_num, by omega, by omega, by (try simp at hsn); omega, hbl, by show _; rw [trK_yes HQ.out, ← List.append_assoc]; exact O, X⟩
                case measure => simp [intOf]; omega
            · obtain rfl : q = 4 := by omega
              go_wp2_with fail
              go_roundw
              case rel => exact ⟨_, m, _, j + 1, rfl, by go_num, by omega, by omega, hsr, hbl, by show _; rw [show trB' i sec (j + 1) = trB' i sec j ++ trK i j sec 4 from flat_snoc _ _, ← List.append_assoc]; exact O, X⟩
              case measure => simp [intOf]; omega
        · obtain rfl : B = j := by omega
          have hjB' : ¬ (B : Int) < (B : Int) := by omega
          go_wp2_with fail
          go_roundw
          case rel => exact ⟨_, m, _, i + 1, rfl, by go_num, by omega, by omega, hsr, hbl, by show _; rw [show trI B sec (i + 1) = trI B sec i ++ trB' i sec B from flat_snoc _ _]; exact O, X⟩
          case measure => simp [intOf]; omega
    · obtain rfl : n = i := by omega
      have hlt' : ¬ (n : Int) < (n : Int) := by omega
      go_wp2_with fail
      clear x0 x1 xl
      obtain ⟨wo, rfl⟩ : ∃ wo : World, wo = wr := ⟨_, rfl⟩
      go_loopw [7, 11] (fun s7 s11 wr => ∃ (a' : Option Addr) (m c' i : Nat), s7 = .slice a' m c' ∧ s11 = .int .i64 i ∧ i ≤ B ∧ m ≤ 128 + 6 * i ∧ w.heap.size + 1 ≤ wr.heap.size ∧ Below w.heap.size w wr ∧ Hid (OwnF 3 I3.enc I3.ok 148 wr (w.heap.size + 1) a' m c' (trI B sec n ++ faI bud sec i)) ∧ Hid (Blk wr w.heap.size #[.int .i64 (B : Int), .slice a n c] 28)) (fun _ s11 _ => B - (intOf s11).toNat)
      case atStart => exact ⟨_, m, _, 0, rfl, rfl, by omega, by omega, by omega, hbl, by show _; rw [show trI B sec n ++ faI bud sec 0 = trI B sec n by simp [faI]]; exact O, X⟩
      case round =>
        clear O X hbl
        obtain ⟨a', m, c', i, rfl, rfl, hi, hm, hsr, hbl, O, X⟩ := hrel
        have x0 := X.out.cell 0
        have x1 := X.out.cell 1
        have xl := X.out.lt
        simp at x0 x1
        by_cases hlt : i < B
        · have hlt' : (i : Int) < (B : Int) := by omega
          go_wp2_with fail
          clear x0 x1 xl
          obtain ⟨wp, rfl⟩ : ∃ wp : World, wp = wr := ⟨_, rfl⟩
          go_loopw [7, 12] (fun s7 s12 wr => ∃ (a' : Option Addr) (m c' j : Nat), s7 = .slice a' m c' ∧ s12 = .int .i64 ((bud - j : Nat) : Int) ∧ j ≤ bud ∧ m ≤ 128 + 6 * i + 3 * j ∧ w.heap.size + 1 ≤ wr.heap.size ∧ Below w.heap.size w wr ∧ Hid (OwnF 3 I3.enc I3.ok 148 wr (w.heap.size + 1) a' m c' (trI B sec n ++ faI bud sec i ++ faB i bud sec j)) ∧ Hid (Blk wr w.heap.size #[.int .i64 (B : Int), .slice a n c] 28)) (fun _ s12 _ => (intOf s12).toNat)
          case atStart => exact ⟨_, m, _, 0, rfl, rfl, by omega, by omega, by omega, hbl, by show _; rw [show trI B sec n ++ faI bud sec i ++ faB i bud sec 0 = trI B sec n ++ faI bud sec i by simp [faB]]; exact O, X⟩
          case round =>
            clear O X hbl
            obtain ⟨a', m, c', j, rfl, rfl, hj, hm2, hsr, hbl, O, X⟩ := hrel
            by_cases hjB : j < bud
            · obtain ⟨k, hk⟩ : ∃ k : Nat, k = bud - j := ⟨_, rfl⟩
              rw [← hk]
              have hk0 : (0 : Int) < (k : Int) := by omega
              have hkn : 0 < k := by omega
              have Hk := Lib.hid hk
              clear hk
              go_wp2_with fail
              obtain ⟨wq, rfl⟩ : ∃ wq : World, wq = wr := ⟨_, rfl⟩
              go_loopw [7, 13] (fun s7 s13 wr => ∃ (a' : Option Addr) (m c' q : Nat), s7 = .slice a' m c' ∧ s13 = .int .i64 (4 + (q : Int)) ∧ q ≤ 3 ∧ m ≤ 128 + 6 * i + 3 * j + q ∧ w.heap.size + 1 ≤ wr.heap.size ∧ Below w.heap.size w wr ∧ Hid (OwnF 3 I3.enc I3.ok 148 wr (w.heap.size + 1) a' m c' (trI B sec n ++ faI bud sec i ++ faB i bud sec j ++ faK i k sec q)) ∧ Hid (Blk wr w.heap.size #[.int .i64 (B : Int), .slice a n c] 28)) (fun _ s13 _ => 7 - (intOf s13).toNat)
              case atStart => exact ⟨_, m, _, 0, rfl, rfl, by omega, by omega, by omega, hbl, by show _; rw [show trI B sec n ++ faI bud sec i ++ faB i bud sec j ++ faK i k sec 0 = trI B sec n ++ faI bud sec i ++ faB i bud sec j by simp [faK]]; exact O, X⟩
              case round =>
                clear O X hbl
                obtain ⟨a', m, c', q, rfl, rfl, hq, hm3, hsr, hbl, O, X⟩ := hrel
                have hk2 : k ≤ 2 := by have := Hk.out; omega
                by_cases hq4 : q < 3
                · have hq3 : 4 + (q : Int) ≤ 6 := by omega
                  by_cases hq2 : q = 2
                  · subst hq2
                    cases sec
                    · go_wp2_with fail
                      go_roundw
                      case rel => exact ⟨_, m, _, 3, rfl, rfl, by omega, by omega, hsr, hbl, by show _; rw [faK_no (by rfl)]; exact O, X⟩
                      case measure => simp [intOf]
                    · go_wp2_with (at_builtin; refine appK3 rfl _ _ rfl Tryz.underlying145 Tryz.infoKind rfl (by decide) (w.heap.size + 1) _ _ _ _ (O.out.keep (by repeat (first | exact Below.refl _ _ | assumption | refine below_allocS ?_ _ | refine below_callS ?_ (by assumption) | (refine Below.alloc ?_ (by first | omega | (simp; done) | (simp; omega)) _) | (refine Below.setCell ?_ (by first | omega | (simp; done) | (simp; omega)) _) | refine Below.drew ?_ | refine below_drewN ?_ _ | (refine below_call ?_ (by assumption) (by first | omega | (simp; done) | (simp; omega))) | (refine Below.trans ?_ (by assumption))))) rfl _ rfl (by first | rfl | (simp; done)) (by first | assumption | decide | (unfold I64; omega)) (by first | assumption | decide | (unfold I64; omega)) (by first | assumption | decide | (unfold I64; omega)) (by omega) (by (try simp); omega) ?_; intro a2 c2 wn ho hb; have O := Lib.hid ho; have X := Lib.hid (X.out.keepB hb (by omega)); have hbl := Below.trans hbl (hb.mono (by omega)); have hsn := hb.size; clear ho hb)
                      go_roundw
                      case rel => exact ⟨_, m + 1, _, 3, rfl, rfl, by omega, by omega, by (try simp at hsn); omega, hbl, by show _; rw [faK_yes (by rfl), ← List.append_assoc]; exact O, X⟩
                      case measure => simp [intOf]
                  · have hq2' : (4 + (q : Int) != 6) = true := by rw [bne_iff_ne]; omega
                    have hqq : (q != 2 || sec) = true := by simp [hq2]
                    have HQ := Lib.hid hqq
                    clear hqq hq2
                    go_wp2_with (at_builtin; refine appK3 rfl _ _ rfl Tryz.underlying145 Tryz.infoKind rfl (by decide) (w.heap.size + 1) _ _ _ _ (O.out.keep (by repeat (first | exact Below.refl _ _ | assumption | refine below_allocS ?_ _ | refine below_callS ?_ (by assumption) | (refine Below.alloc ?_ (by first | omega | (simp; done) | (simp; omega)) _) | (refine Below.setCell ?_ (by first | omega | (simp; done) | (simp; omega)) _) | refine Below.drew ?_ | refine below_drewN ?_ _ | (refine below_call ?_ (by assumption) (by first | omega | (simp; done) | (simp; omega))) | (refine Below.trans ?_ (by assumption))))) rfl _ rfl (by first | rfl | (simp; done)) (by first | assumption | decide | (unfold I64; omega)) (by first | assumption | decide | (unfold I64; omega)) (by first | assumption | decide | (unfold I64; omega)) (by omega) (by (try simp); omega) ?_; intro a2 c2 wn ho hb; have O := Lib.hid ho; have X := Lib.hid (X.out.keepB hb (by omega)); have hbl := Below.trans hbl (hb.mono (by omega)); have hsn := hb.size; clear ho hb)
                    go_roundw
                    case rel => exact ⟨_, m + 1, _, q + 1, rfl, by rw [show 4 + ((q + 1 : Nat) : Int) = 4 + (q : Int) + 1 from by omega], by omega, by omega, by (try simp at hsn); omega, hbl, by show _; rw [faK_yes HQ.out, ← List.append_assoc]; exact O, X⟩
                    case measure => simp [intOf]; omega
                · obtain rfl : q = 3 := by omega
                  go_wp2_with fail
                  go_roundw
                  case rel => exact ⟨_, m, _, j + 1, rfl, by rw [show ((bud - (j + 1) : Nat) : Int) = (k : Int) - 1 from by have := Hk.out; omega], by omega, by omega, hsr, hbl, by show _; rw [show faB i bud sec (j + 1) = faB i bud sec j ++ faK i (bud - j) sec 3 from flat_snoc _ _, ← Hk.out, ← List.append_assoc]; exact O, X⟩
                  case measure => simp [intOf]; have := Hk.out; omega
            · obtain rfl : bud = j := by omega
              have hz : ((bud - bud : Nat) : Int) = 0 := by omega
              rw [hz]
              clear hz
              go_wp2_with fail
              go_roundw
              case rel => exact ⟨_, m, _, i + 1, rfl, by go_num, by omega, by omega, hsr, hbl, by show _; rw [show faI bud sec (i + 1) = faI bud sec i ++ faB i bud sec bud from flat_snoc _ _, ← List.append_assoc]; exact O, X⟩
              case measure => simp [intOf]; omega
        · obtain rfl : B = i := by omega
          have hlt' : ¬ (B : Int) < (B : Int) := by omega
          go_wp2_with fail
          go_ret
          exact ⟨_, m, _, rfl, O.out.le (by omega), by omega, hbl⟩
end Go.Proofs.YtfnamjkmkoldeaaGreatDoor
namespace Go.Proofs.YtfnamjkmkoldeaaGreatDoor
open Go.RowKit
set_option linter.unusedVariables false
set_option linter.unusedSimpArgs false
def digStr (n : Nat) : ByteArray := ⟨#[UInt8.ofNat (48 + n)]⟩
theorem lt10 {n : Nat} (h : n < 10) : n = 0 ∨ n = 1 ∨ n = 2 ∨ n = 3 ∨ n = 4 ∨ n = 5 ∨ n = 6 ∨ n = 7 ∨ n = 8 ∨ n = 9 := by omega
set_option maxRecDepth 100000 in
set_option maxHeartbeats 2000000 in
theorem impl_decimal {n : Nat} {w : World} (hn : n < 10) : Calls Tryz.prog 151 #[.int .i64 (n : Int)] w fun e w' => e = .returned (.string (digStr n)) ∧ w = w' := by
  rcases lt10 hn with rfl | rfl | rfl | rfl | rfl | rfl | rfl | rfl | rfl | rfl
  all_goals
    clear hn
    go_enter Tryz.func151, Tryz.ntmps151
    go_wp2
    go_ret
    exact ⟨by kernel_rfl, rfl⟩
end Go.Proofs.YtfnamjkmkoldeaaGreatDoor
namespace Go.Proofs.YtfnamjkmkoldeaaGreatDoor
open Go.RowKit Go.ChangeShapes Go.Joins
set_option linter.unusedVariables false
set_option linter.unusedSimpArgs false
/-- block g holds these cells -/
def Tab (w : World) (g : Nat) (cs : List Value) : Prop := g < w.heap.size ∧ ∀ i v, cs[i]? = some v → w.cell? ⟨g, i, none⟩ = some v
theorem Tab.keep {w w' : World} {g : Nat} {cs : List Value} (h : Tab w g cs) (hb : Below w.heap.size w w') : Tab w' g cs :=
  ⟨Nat.lt_of_lt_of_le h.1 hb.size, fun i v hv => (hb.cell (p := ⟨g, i, none⟩) h.1).trans (h.2 i v hv)⟩
theorem Tab.of_var {P : Program} {w : World} {n : String} {g : Nat} {cs : Array Value} (hg : P.globalNamed n = some g) (h : w.var? P n = some cs) : Tab w g cs.toList := by
  refine ⟨?_, fun i v hv => ?_⟩
  · unfold World.var? at h
    rw [hg] at h
    simp only [Option.bind_some] at h
    exact Nat.lt_of_not_le fun hle => by rw [Array.getElem?_eq_none hle] at h; cases h
  · rw [World.var?_cell hg h i]; simpa using hv
theorem laidVars_mem {P : Program} {w : World} : ∀ {l : List (String × DataW Unit)} {ps : List MemPlace}, DataW.LaidVars P w l ps → ∀ {n : String} {d : DataW Unit}, (n, d) ∈ l →
    ∃ g t cs fuel p, P.globalNamed n = some g ∧ (P.globals[g]?).map (·.type) = some t ∧ w.var? P n = some cs ∧ DataW.trod (fun _ => ()) P w 0 (fun _ => true) false fuel t cs.toList = some (d, p)
  | (n', d') :: r, ps, h, n, d, hm => by
    obtain ⟨g, t, cs, fuel, p, q, h1, h2, h3, h4, h5, _⟩ := h
    rcases List.mem_cons.1 hm with e | hm
    · cases e; exact ⟨g, t, cs, fuel, p, h1, h2, h3, h4⟩
    · exact laidVars_mem h5 hm
  | [], _, _, _, _, hm => by cases hm
theorem chunks_eq {α β : Type} {f : α → List β} {k : Nat} : ∀ {zs : List α} {cs : List β}, cs.length = zs.length * k → (∀ i z, zs[i]? = some z → (cs.drop (i * k)).take k = f z) → cs = zs.flatMap f
  | [], cs, hl, _ => by
    simp at hl; simp [hl]
  | z :: zs, cs, hl, h => by
    have h0 := h 0 z rfl
    simp only [Nat.zero_mul, List.drop_zero] at h0
    have h1 : cs.drop k = zs.flatMap f := chunks_eq (k := k) (by simp [List.length_drop, hl, Nat.succ_mul]) fun i y hy => by
      have := h (i + 1) y (by simpa using hy)
      rw [List.drop_drop, show k + i * k = (i + 1) * k from by rw [Nat.succ_mul, Nat.add_comm]]
      exact this
    rw [List.flatMap_cons, ← h0, ← h1, List.take_append_drop]
section
variable {H : Type} {enc : TypeId × Value → H} {P : Program} {w : World} {base : Nat} {sp : Nat → Bool} {held : Bool}
theorem cells_of_arr {α : Type} {encf : α → List Value} {encd : α → DataW H} {fuel : Nat} {t e : TypeId} {n k : Nat} {cs : List Value} {zs : List α} {p : List MemPlace}
    (ht : P.underlying t = some (.array n e)) (hce : P.cellsOf e = k) (hct : P.cellsOf t = n * k)
    (hel : ∀ m cs z p, cs.length = k → DataW.trod enc P w base sp held m e cs = some (encd z, p) → cs = encf z)
    (h : DataW.trod enc P w base sp held fuel t cs = some (.agg (zs.map encd), p)) : cs = zs.flatMap encf := by
  cases fuel with
  | zero => simp [DataW.trod] at h
  | succ fuel =>
    simp only [DataW.trod, ht, hce, hct] at h
    split at h
    · rename_i hl
      obtain ⟨xs, hm, hx⟩ := Option.map_eq_some_iff.1 h
      have hxs : xs.map (·.1) = zs.map encd := by
        have := congrArg Prod.fst hx
        simpa using this
      have hxl : xs.length = n := by simpa using Lib.mapM_length hm
      have hzl : zs.length = n := by
        have := congrArg List.length hxs
        simp at this
        omega
      refine chunks_eq (k := k) (by rw [hl, hzl]) fun i z hz => ?_
      have hi : i < n := by rw [← hzl]; exact (List.getElem?_eq_some_iff.1 hz).1
      obtain ⟨b, hb, hf⟩ := Lib.mapM_at hm i i (by simp [hi])
      have h2 : (xs.map (·.1))[i]? = some (encd z) := by rw [hxs, List.getElem?_map, hz]; rfl
      rw [List.getElem?_map, hb] at h2
      simp only [Option.map_some, Option.some.injEq] at h2
      obtain ⟨b1, b2⟩ := b
      subst h2
      refine hel _ _ z _ ?_ hf
      have : i * k + k ≤ n * k := by rw [← Nat.succ_mul]; exact Nat.mul_le_mul_right _ hi
      simp [List.length_take, List.length_drop, hl]; omega
    · cases h
theorem str_cell {m : Nat} {e : TypeId} {cs : List Value} {z : List UInt8} {p : List MemPlace} (he : P.underlying e = some .string) (hl : cs.length = 1)
    (h : DataW.trod enc P w base sp held m e cs = some (.lit (.string z), p)) : cs = [.string ⟨z.toArray⟩] := by
  cases m with
  | zero => simp [DataW.trod] at h
  | succ m =>
    match cs, hl with
    | [v], _ =>
      cases v with
      | string s =>
        simp only [DataW.trod, he] at h
        split at h
        · simp only [Option.some.injEq, Prod.mk.injEq, DataW.lit.injEq, Lit.string.injEq] at h
          obtain ⟨rfl, _⟩ := h
          rfl
        · cases h
      | _ => simp [DataW.trod, he] at h
/-- a value that is a part of a struct and whose type is a slice type -/
theorem slice_part {m : Nat} {t e : TypeId} {v : Value} {y : DataW H × List MemPlace} (ht : P.underlying t = some (.slice e)) (h : DataW.trod enc P w base sp held m t [v] = some y) :
    ∃ a n c, v = .slice a n c ∧ DataW.Trod enc P w base sp held t (.slice a n c) y.1 y.2 := by
  rcases Deep.open_slice ht h with ⟨hcs, _⟩ | ⟨x, len, cap, m, nn, D, Pl, hcs, _⟩
  · simp only [List.cons.injEq, and_true] at hcs
    exact ⟨_, _, _, hcs, _, by rw [hcs] at h; exact h⟩
  · simp only [List.cons.injEq, and_true] at hcs
    exact ⟨_, _, _, hcs, _, by rw [hcs] at h; exact h⟩
end
theorem trodVars_len {H : Type} {enc : TypeId × Value → H} {P : Program} {w : World} {sp : Nat → Bool} : ∀ {ns : List String} {gs : List (DataW H)} {ps : List MemPlace}, DataW.TrodVars enc P w sp ns gs ps → gs.length = ns.length
  | [], [], _, _ => rfl
  | [], _ :: _, _, h => h.elim
  | _ :: _, [], _, h => h.elim
  | n :: ns, d :: ds, ps, h => by
    obtain ⟨g, t, cs, fuel, p, q, h1, h2, h3, h4, hs, e⟩ := h
    have := trodVars_len hs
    simp [this]
/-- lays cells in a block -/
def lay (cs : List Value) : Obj → Obj
  | .cells _ t frozen => .cells cs.toArray t frozen
  | o => o
/-- a row of the table of commands -/
structure CRow where
  from' : Int
  to' : Int
  role : Int
  key : Bool
def CRow.enc (x : CRow) : List Value := [.int .i64 x.from', .int .i64 x.to', .int .i64 x.role, .bool x.key]
def CRow.encd {H : Type} (x : CRow) : DataW H := .agg [.lit (.int .i64 x.from'), .lit (.int .i64 x.to'), .lit (.int .i64 x.role), .lit (.bool x.key)]
theorem int_cell {H : Type} {enc : TypeId × Value → H} {P : Program} {w : World} {base : Nat} {sp : Nat → Bool} {held : Bool} {m : Nat} {e : TypeId} {cs : List Value} {z : Int} {p : List MemPlace} (he : P.underlying e = some (.int .i64))
    (h : DataW.trod enc P w base sp held m e cs = some (.lit (.int .i64 z), p)) : cs = [.int .i64 z] := by
  obtain ⟨a, e0, d0, w0⟩ := DataW.trod_int he h
  simp at d0
  rw [e0, d0.1]
theorem bool_cell {H : Type} {enc : TypeId × Value → H} {P : Program} {w : World} {base : Nat} {sp : Nat → Bool} {held : Bool} {m : Nat} {e : TypeId} {cs : List Value} {z : Bool} {p : List MemPlace} (he : P.underlying e = some .bool)
    (h : DataW.trod enc P w base sp held m e cs = some (.lit (.bool z), p)) : cs = [.bool z] := by
  obtain ⟨a, e0, d0⟩ := DataW.trod_bool he h
  simp at d0
  rw [e0, d0.1]
theorem crow_cells {H : Type} {enc : TypeId × Value → H} {P : Program} {w : World} {base : Nat} {sp : Nat → Bool} {held : Bool} {m : Nat} {e : TypeId} {f0 f1 f2 f3 : Field} {cs : List Value} {z : CRow} {p : List MemPlace} (he : P.underlying e = some (.struct #[f0, f1, f2, f3]))
    (o0 : f0.offset = 0) (o1 : f1.offset = 1) (o2 : f2.offset = 2) (o3 : f3.offset = 3) (c0 : P.cellsOf f0.type = 1) (c1 : P.cellsOf f1.type = 1) (c2 : P.cellsOf f2.type = 1) (c3 : P.cellsOf f3.type = 1)
    (t0 : P.underlying f0.type = some (.int .i64)) (t1 : P.underlying f1.type = some (.int .i64)) (t2 : P.underlying f2.type = some (.int .i64)) (t3 : P.underlying f3.type = some .bool) (hl : cs.length = 4)
    (h : DataW.trod enc P w base sp held m e cs = some (z.encd, p)) : cs = z.enc := by
  obtain ⟨y0, y1, y2, y3, n, hx, _, h0, h1, h2, h3⟩ := Joins.trod_struct4 he h
  simp only [CRow.encd, Prod.mk.injEq, DataW.agg.injEq, List.cons.injEq, and_true] at hx
  obtain ⟨⟨e0, e1, e2, e3⟩, _⟩ := hx
  obtain ⟨y0, q0⟩ := y0; obtain ⟨y1, q1⟩ := y1; obtain ⟨y2, q2⟩ := y2; obtain ⟨y3, q3⟩ := y3
  simp only at e0 e1 e2 e3
  subst e0 e1 e2 e3
  match cs, hl with
  | [v0, v1, v2, v3], _ =>
    rw [o0, c0] at h0; rw [o1, c1] at h1; rw [o2, c2] at h2; rw [o3, c3] at h3
    have k0 := int_cell t0 h0
    have k1 := int_cell t1 h1
    have k2 := int_cell t2 h2
    have k3 := bool_cell t3 h3
    simp at k0 k1 k2 k3
    simp [CRow.enc, k0, k1, k2, k3]
def strsCells (l : List (List UInt8)) : List Value := l.flatMap fun z => [.string ⟨z.toArray⟩]
def modeNm : List (List UInt8) := [[111, 102, 102], [109, 97, 105, 110, 116, 101, 110, 97, 110, 99, 101], [114, 101, 97, 100, 121], [114, 117, 110, 110, 105, 110, 103], [115, 116, 111, 112, 112, 101, 100], [101, 118, 97, 99, 117, 97, 116, 105, 111, 110]]
def cmdRows : List CRow := [⟨1, 2, 1, true⟩, ⟨4, 3, 1, false⟩, ⟨8, 2, 1, false⟩, ⟨62, 4, 0, false⟩, ⟨16, 2, 2, true⟩, ⟨16, 5, 3, false⟩, ⟨32, 4, 3, false⟩, ⟨5, 1, 2, true⟩, ⟨2, 2, 2, true⟩, ⟨4, 0, 1, false⟩]
end Go.Proofs.YtfnamjkmkoldeaaGreatDoor
namespace Go.Proofs.YtfnamjkmkoldeaaGreatDoor
open Go.RowKit
set_option linter.unusedVariables false
set_option linter.unusedSimpArgs false
/-- the name of a rule: the kind's name and two digits -/
def ruleNameS (s : ByteArray) (i b : Nat) : ByteArray := s ++ ⟨#[95]⟩ ++ digStr i ++ ⟨#[95]⟩ ++ digStr b
theorem digStr_size (n : Nat) : (digStr n).size = 1 := rfl
set_option maxRecDepth 100000 in
set_option maxHeartbeats 1000000 in
theorem impl_newRideRule {k i b : Nat} {s : ByteArray} {a1 a2 : Option Addr} {n1 n2 c1 c2 : Nat} {w : World} (hT : w.cell? ⟨0, k, none⟩ = some (.string s)) (hg : 0 < w.heap.size) (hs : s.size ≤ 100) (hk : k < 7) (hi : i < 10) (hb : b < 10) :
    Calls Tryz.prog 149 #[.int .i64 (k : Int), .int .i64 (i : Int), .int .i64 (b : Int), .slice a1 n1 c1, .slice a2 n2 c2] w fun e w' => e = .returned (.agg #[.string (ruleNameS s i b), .slice a1 n1 c1, .slice a2 n2 c2, .int .i64 (k : Int), .int .i64 (i : Int), .int .i64 (b : Int)]) ∧ Below w.heap.size w w' := by
  have hk0 : (0 : Int) ≤ (k : Int) := by omega
  have hk7 : (k : Int) < 7 := by omega
  have z1 := digStr_size i
  have z2 := digStr_size b
  go_enter Tryz.func149, Tryz.ntmps149
  go_wp2_with fail
  have f1 : ¬ 9223372036854775807 < s.size + 1 := by omega
  have f2 : ¬ 9223372036854775807 < s.size + 1 + 1 := by omega
  have f3 : ¬ 9223372036854775807 < s.size + 1 + 1 + 1 := by omega
  have f4 : ¬ 9223372036854775807 < s.size + 1 + 1 + 1 + 1 := by omega
  have hTA : (w.alloc (.cells #[.string ⟨#[]⟩, .slice none 0 0, .slice none 0 0, .int .i64 0, .int .i64 0, .int .i64 0] 117)).cell? ⟨0, k, none⟩ = some (.string s) := cell_alloc hT
  refine wp_region_noPanic ?_
  refine wp_region_held_drew (S := fun wx => wx.cell? ⟨0, k, none⟩ = some (.string s)) (by kernel_rfl) ?_ (fun hHeld => ?_)
  · exact cell_drew hTA
  refine wpAnyH_take (i := 0) (v := ?_) (by simp only [List.getElem?_toArray, List.getElem?_cons_succ, List.getElem?_cons_zero] <;> rfl) (by kernel_rfl) (by kernel_rfl) (by kernel_rfl) (fun _ _ _ h => h) (Or.inl ⟨by rfl, ?_⟩) (by assumption) ?_
  rotate_left
  · (intro wq hSw; (try dsimp only at hSw); go_simp; try with_reducible rfl)
  try simp only [Act.put, List.setIfInBounds_toArray, List.set_cons_zero, List.set_cons_succ]
  refine wpAnyH_take (i := 1) (v := ?_) (by simp only [List.getElem?_toArray, List.getElem?_cons_succ, List.getElem?_cons_zero] <;> rfl) (by kernel_rfl) (by kernel_rfl) (by kernel_rfl) (fun _ _ _ h => h) (Or.inl ⟨by rfl, ?_⟩) (by assumption) ?_
  rotate_left
  · (intro wq hSw; (try dsimp only at hSw); go_simp; try with_reducible rfl)
  try simp only [Act.put, List.setIfInBounds_toArray, List.set_cons_zero, List.set_cons_succ]
  refine wpAnyH_take (i := 2) (v := ?_) (by simp only [List.getElem?_toArray, List.getElem?_cons_succ, List.getElem?_cons_zero] <;> rfl) (by kernel_rfl) (by kernel_rfl) (by kernel_rfl) (fun _ _ _ h => h) (Or.inl ⟨by rfl, ?_⟩) (by assumption) ?_
  rotate_left
  · intro wq hSw
    have hq0 : wq.cell? ⟨0, k, none⟩ = some (.string s) := hSw
    go_simp
    try with_reducible rfl
  try simp only [Act.put, List.setIfInBounds_toArray, List.set_cons_zero, List.set_cons_succ]
  refine wpAnyH_take (i := 3) (v := ?_) (by simp only [List.getElem?_toArray, List.getElem?_cons_succ, List.getElem?_cons_zero] <;> rfl) (by kernel_rfl) (by kernel_rfl) (by kernel_rfl) (fun _ _ _ h => h) (Or.inl ⟨by rfl, ?_⟩) (by assumption) ?_
  rotate_left
  · (intro wq hSw; (try dsimp only at hSw); go_simp; try with_reducible rfl)
  try simp only [Act.put, List.setIfInBounds_toArray, List.set_cons_zero, List.set_cons_succ]
  refine wpAnyH_take (i := 4) (v := ?_) (by simp only [List.getElem?_toArray, List.getElem?_cons_succ, List.getElem?_cons_zero] <;> rfl) (by kernel_rfl) (by kernel_rfl) (by kernel_rfl) (fun _ _ _ h => h) (Or.inl ⟨by rfl, ?_⟩) (by assumption) ?_
  rotate_left
  · (intro wq hSw; (try dsimp only at hSw); go_simp; try with_reducible rfl)
  try simp only [Act.put, List.setIfInBounds_toArray, List.set_cons_zero, List.set_cons_succ]
  refine wpAnyH_take (i := 8) (v := ?_) (by simp only [List.getElem?_toArray, List.getElem?_cons_succ, List.getElem?_cons_zero] <;> rfl) (by kernel_rfl) (by kernel_rfl) (by kernel_rfl) (fun _ _ _ h => h) (Or.inl ⟨by rfl, ?_⟩) (by assumption) ?_
  rotate_left
  · (intro wq hSw; (try dsimp only at hSw); go_simp; try with_reducible rfl)
  try simp only [Act.put, List.setIfInBounds_toArray, List.set_cons_zero, List.set_cons_succ]
  refine wpAnyH_take (i := 11) (v := ?_) (by simp only [List.getElem?_toArray, List.getElem?_cons_succ, List.getElem?_cons_zero] <;> rfl) (by kernel_rfl) (by kernel_rfl) (by kernel_rfl) (fun _ _ _ h => h) (Or.inl ⟨by rfl, ?_⟩) (by assumption) ?_
  rotate_left
  · (intro wq hSw; (try dsimp only at hSw); go_simp; try with_reducible rfl)
  try simp only [Act.put, List.setIfInBounds_toArray, List.set_cons_zero, List.set_cons_succ]
  refine wpAnyH_take (i := 12) (v := ?_) (by simp only [List.getElem?_toArray, List.getElem?_cons_succ, List.getElem?_cons_zero] <;> rfl) (by kernel_rfl) (by kernel_rfl) (by kernel_rfl) (fun _ _ _ h => h) (Or.inl ⟨by rfl, ?_⟩) (by assumption) ?_
  rotate_left
  · (intro wq hSw; (try dsimp only at hSw); go_simp; try with_reducible rfl)
  try simp only [Act.put, List.setIfInBounds_toArray, List.set_cons_zero, List.set_cons_succ]
  refine wpAnyH_take (i := 14) (v := ?_) (by simp only [List.getElem?_toArray, List.getElem?_cons_succ, List.getElem?_cons_zero] <;> rfl) (by kernel_rfl) (by kernel_rfl) (by kernel_rfl) (fun _ _ _ h => h) (Or.inl ⟨by rfl, ?_⟩) (by assumption) ?_
  rotate_left
  · (intro wq hSw; (try dsimp only at hSw); go_simp; try with_reducible rfl)
  try simp only [Act.put, List.setIfInBounds_toArray, List.set_cons_zero, List.set_cons_succ]
  refine wpAnyH_take (i := 15) (v := ?_) (by simp only [List.getElem?_toArray, List.getElem?_cons_succ, List.getElem?_cons_zero] <;> rfl) (by kernel_rfl) (by kernel_rfl) (by kernel_rfl) (fun _ _ _ h => h) (Or.inl ⟨by rfl, ?_⟩) (by assumption) ?_
  rotate_left
  · (intro wq hSw; (try dsimp only at hSw); go_simp; try with_reducible rfl)
  try simp only [Act.put, List.setIfInBounds_toArray, List.set_cons_zero, List.set_cons_succ]
  refine wpAnyH_take (i := 16) (v := ?_) (by simp only [List.getElem?_toArray, List.getElem?_cons_succ, List.getElem?_cons_zero] <;> rfl) (by kernel_rfl) (by kernel_rfl) (by kernel_rfl) (fun _ _ _ h => h) (Or.inl ⟨by rfl, ?_⟩) (by assumption) ?_
  rotate_left
  · (intro wq hSw; (try dsimp only at hSw); go_simp; try with_reducible rfl)
  try simp only [Act.put, List.setIfInBounds_toArray, List.set_cons_zero, List.set_cons_succ]
  refine wpAnyH_ready (rs := [5]) (by kernel_rfl) (by simp) ?_
  refine AllReadyH.cons rfl (fun K hK => ?_) AllReadyH.nil
  go_simp
  refine Calls.mono (impl_decimal hi) ?_
  rintro e _ ⟨rfl, rfl⟩
  go_wp2_with fail
  refine hK.out _ _ hHeld (fun hHeld => ?_)
  clear hK K
  try simp only [Act.put, List.setIfInBounds_toArray, List.set_cons_zero, List.set_cons_succ]
  refine wpAnyH_take (i := 6) (v := ?_) (by simp only [List.getElem?_toArray, List.getElem?_cons_succ, List.getElem?_cons_zero] <;> rfl) (by kernel_rfl) (by kernel_rfl) (by kernel_rfl) (fun _ _ _ h => h) (Or.inl ⟨by rfl, ?_⟩) (by assumption) ?_
  rotate_left
  · (intro wq hSw; (try dsimp only at hSw); go_simp; try with_reducible rfl)
  try simp only [Act.put, List.setIfInBounds_toArray, List.set_cons_zero, List.set_cons_succ]
  refine wpAnyH_take (i := 7) (v := ?_) (by simp only [List.getElem?_toArray, List.getElem?_cons_succ, List.getElem?_cons_zero] <;> rfl) (by kernel_rfl) (by kernel_rfl) (by kernel_rfl) (fun _ _ _ h => h) (Or.inl ⟨by rfl, ?_⟩) (by assumption) ?_
  rotate_left
  · (intro wq hSw; (try dsimp only at hSw); go_simp; try with_reducible rfl)
  try simp only [Act.put, List.setIfInBounds_toArray, List.set_cons_zero, List.set_cons_succ]
  refine wpAnyH_ready (rs := [9]) (by kernel_rfl) (by simp) ?_
  refine AllReadyH.cons rfl (fun K hK => ?_) AllReadyH.nil
  go_simp
  refine Calls.mono (impl_decimal hb) ?_
  rintro e _ ⟨rfl, rfl⟩
  go_wp2_with fail
  refine hK.out _ _ hHeld (fun hHeld => ?_)
  clear hK K
  try simp only [Act.put, List.setIfInBounds_toArray, List.set_cons_zero, List.set_cons_succ]
  refine wpAnyH_take (i := 10) (v := ?_) (by simp only [List.getElem?_toArray, List.getElem?_cons_succ, List.getElem?_cons_zero] <;> rfl) (by kernel_rfl) (by kernel_rfl) (by kernel_rfl) (fun _ _ _ h => h) (Or.inl ⟨by rfl, ?_⟩) (by assumption) ?_
  rotate_left
  · (intro wq hSw; (try dsimp only at hSw); go_simp; try with_reducible rfl)
  try simp only [Act.put, List.setIfInBounds_toArray, List.set_cons_zero, List.set_cons_succ]
  refine wpAnyH_take (i := 13) (v := ?_) (by simp only [List.getElem?_toArray, List.getElem?_cons_succ, List.getElem?_cons_zero] <;> rfl) (by kernel_rfl) (by kernel_rfl) (by kernel_rfl) (fun _ _ _ h => h) (Or.inl ⟨by rfl, ?_⟩) (by assumption) ?_
  rotate_left
  · (intro wq hSw; (try dsimp only at hSw); go_simp; try with_reducible rfl)
  try simp only [Act.put, List.setIfInBounds_toArray, List.set_cons_zero, List.set_cons_succ]
  refine wpAnyH_take (i := 17) (v := ?_) (by simp only [List.getElem?_toArray, List.getElem?_cons_succ, List.getElem?_cons_zero] <;> rfl) (by kernel_rfl) (by kernel_rfl) (by kernel_rfl) (fun _ _ _ h => h) (Or.inl ⟨by rfl, ?_⟩) (by assumption) ?_
  rotate_left
  · (intro wq hSw; (try dsimp only at hSw); go_simp; try with_reducible rfl)
  try simp only [Act.put, List.setIfInBounds_toArray, List.set_cons_zero, List.set_cons_succ]
  refine wpAnyH_ready (rs := [18]) (by kernel_rfl) (by simp) ?_
  refine AllReadyH.cons rfl (fun K hK => ?_) AllReadyH.nil
  go_simp
  refine hK.out _ _ (cell_drew (cell_alloc hT)) (fun hHeld => ?_)
  clear hK K
  try simp only [Act.put, List.setIfInBounds_toArray, List.set_cons_zero, List.set_cons_succ]
  refine wpAnyH_done (by kernel_rfl) ?_ _
  refine NoPanic.normal ?_
  go_wp2_with fail
  exact bodyPost_ret (v := .agg #[.string (ruleNameS s i b), .slice a1 n1 c1, .slice a2 n2 c2, .int .i64 (k : Int), .int .i64 (i : Int), .int .i64 (b : Int)]) (by simp [results, Tryz.results149, go_sem, ruleNameS]) rfl ⟨rfl, Below.drew ((Below.refl _ _).alloc (Nat.le_refl _) _)⟩
end Go.Proofs.YtfnamjkmkoldeaaGreatDoor
namespace Go.Proofs.YtfnamjkmkoldeaaGreatDoor
open Go.RowKit
set_option linter.unusedVariables false
set_option linter.unusedSimpArgs false
/-- a rule of a ride as it lies in memory: its name, its guard's and its effect's slice, its kind and two numbers -/
structure RR where
  nm : ByteArray
  ga : Option Addr
  gn : Nat
  gc : Nat
  ea : Option Addr
  en : Nat
  ec : Nat
  x : I3
def RR.enc (r : RR) : List Value := [.string r.nm, .slice r.ga r.gn r.gc, .slice r.ea r.en r.ec, .int .i64 r.x.a, .int .i64 r.x.b, .int .i64 r.x.c]
theorem RR.one (y : RR) : ∀ u ∈ y.enc, u.oneCell' = true := fun u hu => by
  simp only [RR.enc, List.mem_cons, List.not_mem_nil, or_false] at hu
  rcases hu with rfl | rfl | rfl | rfl | rfl | rfl <;> rfl
theorem impl_is {x y : Int} {w : World} : Calls Tryz.prog 147 #[.int .i64 x, .int .i64 y] w fun e w' => e = .returned (.agg #[.int .i64 x, .int .i64 y, .bool true]) ∧ Below w.heap.size w w' := by
  go_enter Tryz.func147, Tryz.ntmps147
  go_wp2
  exact bodyPost_ret (v := .agg #[.int .i64 x, .int .i64 y, .bool true]) (by simp [results, Tryz.results147, go_sem]) rfl ⟨rfl, by repeat (first | exact Below.refl _ _ | assumption | refine below_allocS ?_ _ | refine below_callS ?_ (by assumption) | (refine Below.alloc ?_ (by first | omega | (simp; done) | (simp; omega)) _) | (refine Below.setCell ?_ (by first | omega | (simp; done) | (simp; omega)) _) | refine Below.drew ?_ | refine below_drewN ?_ _ | (refine below_call ?_ (by assumption) (by first | omega | (simp; done) | (simp; omega))) | (refine Below.trans ?_ (by assumption)))⟩
theorem impl_isNot {x y : Int} {w : World} : Calls Tryz.prog 148 #[.int .i64 x, .int .i64 y] w fun e w' => e = .returned (.agg #[.int .i64 x, .int .i64 y, .bool false]) ∧ Below w.heap.size w w' := by
  go_enter Tryz.func148, Tryz.ntmps148
  go_wp2
  exact bodyPost_ret (v := .agg #[.int .i64 x, .int .i64 y, .bool false]) (by simp [results, Tryz.results148, go_sem]) rfl ⟨rfl, by repeat (first | exact Below.refl _ _ | assumption | refine below_allocS ?_ _ | refine below_callS ?_ (by assumption) | (refine Below.alloc ?_ (by first | omega | (simp; done) | (simp; omega)) _) | (refine Below.setCell ?_ (by first | omega | (simp; done) | (simp; omega)) _) | refine Below.drew ?_ | refine below_drewN ?_ _ | (refine below_call ?_ (by assumption) (by first | omega | (simp; done) | (simp; omega))) | (refine Below.trans ?_ (by assumption)))⟩
theorem impl_length_rr {a : Option Addr} {n c : Nat} {w : World} : Calls Tryz.prog 84 #[.slice a n c] w fun e w' => e = .returned (.int .i64 n) ∧ w = w' := by
  go_enter Tryz.func84, Tryz.ntmps84
  go_wp2
  go_ret
  exact ⟨rfl, rfl⟩
end Go.Proofs.YtfnamjkmkoldeaaGreatDoor
namespace Go.Proofs.YtfnamjkmkoldeaaGreatDoor
open Go.RowKit
set_option linter.unusedVariables false
set_option linter.unusedSimpArgs false
def ruleNm : List (List UInt8) := [[97, 114, 114, 105, 118, 101], [114, 101, 108, 101, 97, 115, 101], [98, 108, 105, 110, 100], [101, 110, 116, 101, 114], [99, 108, 101, 97, 114], [111, 99, 99, 117, 112, 105, 101, 100], [115, 101, 99, 111, 110, 100]]
def statusNm : List (List UInt8) := [[109, 111, 118, 101], [99, 108, 101, 97, 114], [111, 99, 99, 117, 112, 105, 101, 100], [98, 108, 105, 110, 100]]
theorem strs_eq (l : List (List UInt8)) : strsCells l = l.map fun z => .string ⟨z.toArray⟩ := by
  unfold strsCells
  induction l with
  | nil => rfl
  | cons y r ih => rw [List.flatMap_cons, List.map_cons, ih]; rfl
theorem strs_at {l : List (List UInt8)} {k : Nat} {z : List UInt8} (h : l[k]? = some z) : (strsCells l)[k]? = some (.string ⟨z.toArray⟩) := by
  rw [strs_eq, List.getElem?_map, h]; rfl
theorem tab_ruleNames {l : List (String × DataW Unit)} {W : World} (h : laidMet Tryz.prog l W) (hm : ("loop.example/g00916/impl.ruleNames", Rows.laid_loop_example_g00916_impl_ruleNames) ∈ l) : Tab W 0 (strsCells ruleNm) := by
  obtain ⟨ps, hv, _⟩ := h
  obtain ⟨g, t, cs, fuel, p, h1, h2, h3, h4⟩ := laidVars_mem hv hm
  obtain rfl := Option.some.inj ((show Tryz.prog.globalNamed "loop.example/g00916/impl.ruleNames" = some 0 by kernel_rfl).symm.trans h1)
  obtain rfl := Option.some.inj ((show (Tryz.prog.globals[0]?).map (·.type) = some 191 by kernel_rfl).symm.trans h2)
  have h5 := cells_of_arr (zs := ruleNm) (encd := fun z => .lit (.string z)) (encf := fun z => [.string ⟨z.toArray⟩]) Tryz.underlying191 (show Tryz.prog.cellsOf 9 = 1 by kernel_rfl) (by kernel_rfl) (fun m cs z p hl h => str_cell Tryz.underlying9 hl h) h4
  have h6 := Tab.of_var h1 h3
  rw [h5] at h6
  exact h6
end Go.Proofs.YtfnamjkmkoldeaaGreatDoor
