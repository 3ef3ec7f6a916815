/- The kinds of the rules of a ride model: the reference's list, walked. -/
import Derived.Test.YtfhogleillgcgaaDoorL01
import Derived.Test.YtfhogleillgcgaaDoorEx
import Derived.Test.YtfhogleillgcgaaDoorDa
namespace Go.Proofs.YtfhogleillgcgaaDoor
open Go.RowKit
set_option linter.unusedVariables false
set_option linter.unusedSimpArgs false
/-- 'append(out, x)' of a record of three numbers, the literal laid just before; no draw in sight -/
theorem appK3 {zv : Value} {by' : Nat} {P : Program} {w : World} {ops : Array Oper} {rest : List Oper} {o : Oper} {act : Act} {Q : Exit → Act → World → Prop} {x0 x1 x2 : Int} {t e : TypeId} (hgd : o.guard = none) (s x : Operand)
    (ho : o.op = .call { callee := .builtin .append, args := #[s, x], argTypes := #[t, t] }) (ht : P.underlying t = some (.slice e)) (hinfo : (P.info? e).map (fun i => (i.zero, i.size, i.bytes)) = some (some zv, 3, by'))
    (hzs : zv.cells.size = 3) (hby : by' ≤ 128) (base : Nat) (a : Option Addr) (n c : Nat) (l : List I3) (hown : OwnF 3 I3.enc I3.ok e w base a n c l) (hs : act.eval s = .slice a n c) (gx : Nat) (hx : act.eval x = .slice (some ⟨gx, 0, none⟩) 1 1) (hg : gx = w.heap.size) (h0 : I64 x0) (h1 : I64 x1) (h2 : I64 x2)
    (hn : n ≤ 4194304) (hbase : base ≤ w.heap.size)
    (K : ∀ a' c' w', OwnF 3 I3.enc I3.ok e w' base a' (n + 1) c' (l ++ [⟨x0, x1, x2⟩]) → Below base w w' → wpList P ops Q rest (act.put o.dst (.slice a' (n + 1) c')) w') : wpList P ops Q (o :: rest) act (w.alloc (.cells #[.int .i64 x0, .int .i64 x1, .int .i64 x2] e)) := by
  subst hg
  have hb0 : Below w.heap.size w (w.alloc (.cells #[.int .i64 x0, .int .i64 x1, .int .i64 x2] e)) := (Below.refl _ _).alloc (Nat.le_refl _) _
  refine appendL_F hgd s x t e ho ht hinfo hzs (by decide) hby I3.one base a n c l (hown.keep hb0) hs _ _ _ [⟨x0, x1, x2⟩] hx (lit_flats (k := 3) (enc := I3.enc) (ok := I3.ok) w e [⟨x0, x1, x2⟩] _ (fun _ => rfl) (by decide) rfl (by intro y hy; simp at hy; subst hy; exact ⟨h0, h1, h2⟩)) hn (by simp) (by simp; omega) ?_
  intro a' c' w' h1 h2 h3 _
  exact K a' c' w' h1 ((hb0.mono hbase).trans h2)
def trK (i b : Nat) (sec : Bool) (q : Nat) : List I3 := ((List.range q).filter fun j => j != 2 || sec).map fun (j : Nat) => (⟨(j : Int), (i : Int), (b : Int)⟩ : I3)
def trB' (i : Nat) (sec : Bool) (q : Nat) : List I3 := (List.range q).flatMap fun b => trK i b sec 4
def trI (B : Nat) (sec : Bool) (q : Nat) : List I3 := (List.range q).flatMap fun i => trB' i sec B
def faK (b k : Nat) (sec : Bool) (q : Nat) : List I3 := ((List.range q).filter fun j => j != 2 || sec).map fun (j : Nat) => (⟨4 + (j : Int), (b : Int), (k : Int)⟩ : I3)
def faB (b bud : Nat) (sec : Bool) (q : Nat) : List I3 := (List.range q).flatMap fun j => faK b (bud - j) sec 3
def faI (bud : Nat) (sec : Bool) (q : Nat) : List I3 := (List.range q).flatMap fun b => faB b bud sec bud
def kindsL (n B bud : Nat) (sec : Bool) : List I3 := trI B sec n ++ faI bud sec B
theorem flat_snoc {α : Type} (f : Nat → List α) (q : Nat) : (List.range (q + 1)).flatMap f = (List.range q).flatMap f ++ f q := by
  rw [List.range_succ, List.flatMap_append]; simp
theorem trK_yes {i b q : Nat} {sec : Bool} (h : (q != 2 || sec) = true) : trK i b sec (q + 1) = trK i b sec q ++ [⟨q, i, b⟩] := by
  rw [trK, List.range_succ, List.filter_append, List.map_append]; simp [trK, h]
theorem trK_no {i b q : Nat} {sec : Bool} (h : (q != 2 || sec) = false) : trK i b sec (q + 1) = trK i b sec q := by
  rw [trK, List.range_succ, List.filter_append, List.map_append]; simp [trK, h]
theorem faK_yes {b k q : Nat} {sec : Bool} (h : (q != 2 || sec) = true) : faK b k sec (q + 1) = faK b k sec q ++ [⟨4 + q, b, k⟩] := by
  rw [faK, List.range_succ, List.filter_append, List.map_append]; simp [faK, h]
theorem faK_no {b k q : Nat} {sec : Bool} (h : (q != 2 || sec) = false) : faK b k sec (q + 1) = faK b k sec q := by
  rw [faK, List.range_succ, List.filter_append, List.map_append]; simp [faK, h]
theorem Tryd.infoKind : (Tryd.prog.info? 76).map (fun i => (i.zero, i.size, i.bytes)) = some (some (.agg #[.int .i64 0, .int .i64 0, .int .i64 0]), 3, 24) := by kernel_rfl
set_option maxRecDepth 100000 in
set_option maxHeartbeats 2000000 in
theorem spec_l24Kinds {B bud n c : Nat} {a : Option Addr} {sec : Bool} {w : World} (hn : n ≤ 4) (hB : B ≤ 8) (hbud : bud ≤ 2) :
    Calls Tryd.prog 51 #[.agg #[.int .i64 (B : Int), .slice a n c], .int .i64 (bud : Int), .bool sec] w fun e w' => ∃ a' n' c', e = .returned (.slice a' n' c') ∧ OwnF 3 I3.enc I3.ok 76 w' w.heap.size a' n' c' (kindsL n B bud sec) ∧ n' ≤ 400 ∧ Below w.heap.size w w' := by
  have X := Lib.hid (Blk.made w #[.int .i64 (B : Int), .slice a n c] 33)
  obtain ⟨wA, hwA⟩ : ∃ wA : World, wA = w.alloc (.cells #[.int .i64 (B : Int), .slice a n c] 33) := ⟨_, rfl⟩
  have hsA : w.heap.size + 1 = wA.heap.size := by rw [hwA]; simp
  have hbA : Below w.heap.size w wA := by rw [hwA]; repeat (first | exact Below.refl _ _ | assumption | refine below_allocS ?_ _ | refine below_callS ?_ (by assumption) | (refine Below.alloc ?_ (by first | omega | (simp; done) | (simp; omega)) _) | (refine Below.setCell ?_ (by first | omega | (simp; done) | (simp; omega)) _) | refine Below.drew ?_ | refine below_drewN ?_ _ | (refine below_call ?_ (by assumption) (by first | omega | (simp; done) | (simp; omega))) | (refine Below.trans ?_ (by assumption)))
  rw [← hwA] at X
  have O := Lib.hid (OwnF.emp (k := 3) (E := 76) (enc := I3.enc) (ok := I3.ok) (base := w.heap.size + 1) wA (by omega) (fun _ => rfl))
  have HwA := Lib.hid hwA
  clear hwA
  go_enter Tryd.func51, Tryd.ntmps51
  go_wp2_with fail
  rw [← HwA.out]
  clear HwA
  go_loopw [7, 8] (fun s7 s8 wr => ∃ (a' : Option Addr) (m c' i : Nat), s7 = .slice a' m c' ∧ s8 = .int .i64 i ∧ i ≤ n ∧ m ≤ 32 * i ∧ w.heap.size + 1 ≤ wr.heap.size ∧ Below w.heap.size w wr ∧ Hid (OwnF 3 I3.enc I3.ok 76 wr (w.heap.size + 1) a' m c' (trI B sec i)) ∧ Hid (Blk wr w.heap.size #[.int .i64 (B : Int), .slice a n c] 33)) (fun _ s8 _ => n - (intOf s8).toNat)
  case atStart => exact ⟨_, 0, 0, 0, rfl, rfl, by omega, by omega, by (try simp); omega, by repeat (first | exact Below.refl _ _ | assumption | refine below_allocS ?_ _ | refine below_callS ?_ (by assumption) | (refine Below.alloc ?_ (by first | omega | (simp; done) | (simp; omega)) _) | (refine Below.setCell ?_ (by first | omega | (simp; done) | (simp; omega)) _) | refine Below.drew ?_ | refine below_drewN ?_ _ | (refine below_call ?_ (by assumption) (by first | omega | (simp; done) | (simp; omega))) | (refine Below.trans ?_ (by assumption))), O, Lib.hid (X.out.keep (by repeat (first | exact Below.refl _ _ | assumption | refine below_allocS ?_ _ | refine below_callS ?_ (by assumption) | (refine Below.alloc ?_ (by first | omega | (simp; done) | (simp; omega)) _) | (refine Below.setCell ?_ (by first | omega | (simp; done) | (simp; omega)) _) | refine Below.drew ?_ | refine below_drewN ?_ _ | (refine below_call ?_ (by assumption) (by first | omega | (simp; done) | (simp; omega))) | (refine Below.trans ?_ (by assumption)))))⟩
  case round =>
    clear O X hbA
    obtain ⟨a', m, c', i, rfl, rfl, hi, hm, hsr, hbl, O, X⟩ := hrel
    have x0 := X.out.cell 0
    have x1 := X.out.cell 1
    have xl := X.out.lt
    simp at x0 x1
    by_cases hlt : i < n
    · have hlt' : (i : Int) < (n : Int) := by omega
      go_wp2_with fail
      clear x0 x1 xl
      obtain ⟨wo, rfl⟩ : ∃ wo : World, wo = wr := ⟨_, rfl⟩
      go_loopw [7, 9] (fun s7 s9 wr => ∃ (a' : Option Addr) (m c' j : Nat), s7 = .slice a' m c' ∧ s9 = .int .i64 j ∧ j ≤ B ∧ m ≤ 32 * i + 4 * j ∧ w.heap.size + 1 ≤ wr.heap.size ∧ Below w.heap.size w wr ∧ Hid (OwnF 3 I3.enc I3.ok 76 wr (w.heap.size + 1) a' m c' (trI B sec i ++ trB' i sec j)) ∧ Hid (Blk wr w.heap.size #[.int .i64 (B : Int), .slice a n c] 33)) (fun _ s9 _ => B - (intOf s9).toNat)
      case atStart => exact ⟨_, m, _, 0, rfl, rfl, by omega, by omega, by omega, hbl, by show _; rw [show trI B sec i ++ trB' i sec 0 = trI B sec i by simp [trB']]; exact O, X⟩
      case round =>
        clear O X hbl
        obtain ⟨a', m, c', j, rfl, rfl, hj, hm2, hsr, hbl, O, X⟩ := hrel
        have x0 := X.out.cell 0
        have x1 := X.out.cell 1
        have xl := X.out.lt
        simp at x0 x1
        by_cases hjB : j < B
        · have hjB' : (j : Int) < (B : Int) := by omega
          go_wp2_with fail
          clear x0 x1 xl
          obtain ⟨wp, rfl⟩ : ∃ wp : World, wp = wr := ⟨_, rfl⟩
          go_loopw [7, 10] (fun s7 s10 wr => ∃ (a' : Option Addr) (m c' q : Nat), s7 = .slice a' m c' ∧ s10 = .int .i64 q ∧ q ≤ 4 ∧ m ≤ 32 * i + 4 * j + q ∧ w.heap.size + 1 ≤ wr.heap.size ∧ Below w.heap.size w wr ∧ Hid (OwnF 3 I3.enc I3.ok 76 wr (w.heap.size + 1) a' m c' (trI B sec i ++ trB' i sec j ++ trK i j sec q)) ∧ Hid (Blk wr w.heap.size #[.int .i64 (B : Int), .slice a n c] 33)) (fun _ s10 _ => 4 - (intOf s10).toNat)
          case atStart => exact ⟨_, m, _, 0, rfl, rfl, by omega, by omega, by omega, hbl, by show _; rw [show trI B sec i ++ trB' i sec j ++ trK i j sec 0 = trI B sec i ++ trB' i sec j by simp [trK]]; exact O, X⟩
          case round =>
            clear O X hbl
            obtain ⟨a', m, c', q, rfl, rfl, hq, hm3, hsr, hbl, O, X⟩ := hrel
            by_cases hq4 : q < 4
            · have hq3 : (q : Int) ≤ 3 := by omega
              by_cases hq2 : q = 2
              · subst hq2
                cases sec
                · go_wp2_with fail
                  go_roundw
                  case rel => exact ⟨_, m, _, 3, rfl, rfl, by omega, by omega, hsr, hbl, by show _; rw [trK_no (by rfl)]; exact O, X⟩
                  case measure => simp [intOf]
                · go_wp2_with (at_builtin; refine appK3 rfl _ _ rfl Tryd.underlying72 Tryd.infoKind rfl (by decide) (w.heap.size + 1) _ _ _ _ (O.out.keep (by repeat (first | exact Below.refl _ _ | assumption | refine below_allocS ?_ _ | refine below_callS ?_ (by assumption) | (refine Below.alloc ?_ (by first | omega | (simp; done) | (simp; omega)) _) | (refine Below.setCell ?_ (by first | omega | (simp; done) | (simp; omega)) _) | refine Below.drew ?_ | refine below_drewN ?_ _ | (refine below_call ?_ (by assumption) (by first | omega | (simp; done) | (simp; omega))) | (refine Below.trans ?_ (by assumption))))) rfl _ rfl (by first | rfl | (simp; done)) (by first | assumption | decide | (unfold I64; omega)) (by first | assumption | decide | (unfold I64; omega)) (by first | assumption | decide | (unfold I64; omega)) (by omega) (by (try simp); omega) ?_; intro a2 c2 wn ho hb; have O := Lib.hid ho; have X := Lib.hid (X.out.keepB hb (by omega)); have hbl := Below.trans hbl (hb.mono (by omega)); have hsn := hb.size; clear ho hb)
                  go_roundw
                  case rel => exact ⟨_, m + 1, _, 3, rfl, rfl, by omega, by omega, by (try simp at hsn); omega, hbl, by show _; rw [trK_yes (by rfl), ← List.append_assoc]; exact O, X⟩
                  case measure => simp [intOf]
              · have hq2' : ((q : Int) != 2) = true := by rw [bne_iff_ne]; omega
                have hqq : (q != 2 || sec) = true := by simp [hq2]
                have HQ := Lib.hid hqq
                clear hqq hq2
                go_wp2_with (at_builtin; refine appK3 rfl _ _ rfl Tryd.underlying72 Tryd.infoKind rfl (by decide) (w.heap.size + 1) _ _ _ _ (O.out.keep (by repeat (first | exact Below.refl _ _ | assumption | refine below_allocS ?_ _ | refine below_callS ?_ (by assumption) | (refine Below.alloc ?_ (by first | omega | (simp; done) | (simp; omega)) _) | (refine Below.setCell ?_ (by first | omega | (simp; done) | (simp; omega)) _) | refine Below.drew ?_ | refine below_drewN ?_ _ | (refine below_call ?_ (by assumption) (by first | omega | (simp; done) | (simp; omega))) | (refine Below.trans ?_ (by assumption))))) rfl _ rfl (by first | rfl | (simp; done)) (by first | assumption | decide | (unfold I64; omega)) (by first | assumption | decide | (unfold I64; omega)) (by first | assumption | decide | (unfold I64; omega)) (by omega) (by (try simp); omega) ?_; intro a2 c2 wn ho hb; have O := Lib.hid ho; have X := Lib.hid (X.out.keepB hb (by omega)); have hbl := Below.trans hbl (hb.mono (by omega)); have hsn := hb.size; clear ho hb)
                go_roundw
                case rel => exact ⟨_, m + 1, _, q + 1, rfl, by go_num, by omega, by omega, by (try simp at hsn); omega, hbl, by show _; rw [trK_yes HQ.out, ← List.append_assoc]; exact O, X⟩
                case measure => simp [intOf]; omega
            · obtain rfl : q = 4 := by omega
              go_wp2_with fail
              go_roundw
              case rel => exact ⟨_, m, _, j + 1, rfl, by go_num, by omega, by omega, hsr, hbl, by show _; rw [show trB' i sec (j + 1) = trB' i sec j ++ trK i j sec 4 from flat_snoc _ _, ← List.append_assoc]; exact O, X⟩
              case measure => simp [intOf]; omega
        · obtain rfl : B = j := by omega
          have hjB' : ¬ (B : Int) < (B : Int) := by omega
          go_wp2_with fail
          go_roundw
          case rel => exact ⟨_, m, _, i + 1, rfl, by go_num, by omega, by omega, hsr, hbl, by show _; rw [show trI B sec (i + 1) = trI B sec i ++ trB' i sec B from flat_snoc _ _]; exact O, X⟩
          case measure => simp [intOf]; omega
    · obtain rfl : n = i := by omega
      have hlt' : ¬ (n : Int) < (n : Int) := by omega
      go_wp2_with fail
      clear x0 x1 xl
      obtain ⟨wo, rfl⟩ : ∃ wo : World, wo = wr := ⟨_, rfl⟩
      go_loopw [7, 11] (fun s7 s11 wr => ∃ (a' : Option Addr) (m c' i : Nat), s7 = .slice a' m c' ∧ s11 = .int .i64 i ∧ i ≤ B ∧ m ≤ 128 + 6 * i ∧ w.heap.size + 1 ≤ wr.heap.size ∧ Below w.heap.size w wr ∧ Hid (OwnF 3 I3.enc I3.ok 76 wr (w.heap.size + 1) a' m c' (trI B sec n ++ faI bud sec i)) ∧ Hid (Blk wr w.heap.size #[.int .i64 (B : Int), .slice a n c] 33)) (fun _ s11 _ => B - (intOf s11).toNat)
      case atStart => exact ⟨_, m, _, 0, rfl, rfl, by omega, by omega, by omega, hbl, by show _; rw [show trI B sec n ++ faI bud sec 0 = trI B sec n by simp [faI]]; exact O, X⟩
      case round =>
        clear O X hbl
        obtain ⟨a', m, c', i, rfl, rfl, hi, hm, hsr, hbl, O, X⟩ := hrel
        have x0 := X.out.cell 0
        have x1 := X.out.cell 1
        have xl := X.out.lt
        simp at x0 x1
        by_cases hlt : i < B
        · have hlt' : (i : Int) < (B : Int) := by omega
          go_wp2_with fail
          clear x0 x1 xl
          obtain ⟨wp, rfl⟩ : ∃ wp : World, wp = wr := ⟨_, rfl⟩
          go_loopw [7, 12] (fun s7 s12 wr => ∃ (a' : Option Addr) (m c' j : Nat), s7 = .slice a' m c' ∧ s12 = .int .i64 ((bud - j : Nat) : Int) ∧ j ≤ bud ∧ m ≤ 128 + 6 * i + 3 * j ∧ w.heap.size + 1 ≤ wr.heap.size ∧ Below w.heap.size w wr ∧ Hid (OwnF 3 I3.enc I3.ok 76 wr (w.heap.size + 1) a' m c' (trI B sec n ++ faI bud sec i ++ faB i bud sec j)) ∧ Hid (Blk wr w.heap.size #[.int .i64 (B : Int), .slice a n c] 33)) (fun _ s12 _ => (intOf s12).toNat)
          case atStart => exact ⟨_, m, _, 0, rfl, rfl, by omega, by omega, by omega, hbl, by show _; rw [show trI B sec n ++ faI bud sec i ++ faB i bud sec 0 = trI B sec n ++ faI bud sec i by simp [faB]]; exact O, X⟩
          case round =>
            clear O X hbl
            obtain ⟨a', m, c', j, rfl, rfl, hj, hm2, hsr, hbl, O, X⟩ := hrel
            by_cases hjB : j < bud
            · obtain ⟨k, hk⟩ : ∃ k : Nat, k = bud - j := ⟨_, rfl⟩
              rw [← hk]
              have hk0 : (0 : Int) < (k : Int) := by omega
              have hkn : 0 < k := by omega
              have Hk := Lib.hid hk
              clear hk
              go_wp2_with fail
              obtain ⟨wq, rfl⟩ : ∃ wq : World, wq = wr := ⟨_, rfl⟩
              go_loopw [7, 13] (fun s7 s13 wr => ∃ (a' : Option Addr) (m c' q : Nat), s7 = .slice a' m c' ∧ s13 = .int .i64 (4 + (q : Int)) ∧ q ≤ 3 ∧ m ≤ 128 + 6 * i + 3 * j + q ∧ w.heap.size + 1 ≤ wr.heap.size ∧ Below w.heap.size w wr ∧ Hid (OwnF 3 I3.enc I3.ok 76 wr (w.heap.size + 1) a' m c' (trI B sec n ++ faI bud sec i ++ faB i bud sec j ++ faK i k sec q)) ∧ Hid (Blk wr w.heap.size #[.int .i64 (B : Int), .slice a n c] 33)) (fun _ s13 _ => 7 - (intOf s13).toNat)
              case atStart => exact ⟨_, m, _, 0, rfl, rfl, by omega, by omega, by omega, hbl, by show _; rw [show trI B sec n ++ faI bud sec i ++ faB i bud sec j ++ faK i k sec 0 = trI B sec n ++ faI bud sec i ++ faB i bud sec j by simp [faK]]; exact O, X⟩
              case round =>
                clear O X hbl
                obtain ⟨a', m, c', q, rfl, rfl, hq, hm3, hsr, hbl, O, X⟩ := hrel
                have hk2 : k ≤ 2 := by have := Hk.out; omega
                by_cases hq4 : q < 3
                · have hq3 : 4 + (q : Int) ≤ 6 := by omega
                  by_cases hq2 : q = 2
                  · subst hq2
                    cases sec
                    · go_wp2_with fail
                      go_roundw
                      case rel => exact ⟨_, m, _, 3, rfl, rfl, by omega, by omega, hsr, hbl, by show _; rw [faK_no (by rfl)]; exact O, X⟩
                      case measure => simp [intOf]
                    · go_wp2_with (at_builtin; refine appK3 rfl _ _ rfl Tryd.underlying72 Tryd.infoKind rfl (by decide) (w.heap.size + 1) _ _ _ _ (O.out.keep (by repeat (first | exact Below.refl _ _ | assumption | refine below_allocS ?_ _ | refine below_callS ?_ (by assumption) | (refine Below.alloc ?_ (by first | omega | (simp; done) | (simp; omega)) _) | (refine Below.setCell ?_ (by first | omega | (simp; done) | (simp; omega)) _) | refine Below.drew ?_ | refine below_drewN ?_ _ | (refine below_call ?_ (by assumption) (by first | omega | (simp; done) | (simp; omega))) | (refine Below.trans ?_ (by assumption))))) rfl _ rfl (by first | rfl | (simp; done)) (by first | assumption | decide | (unfold I64; omega)) (by first | assumption | decide | (unfold I64; omega)) (by first | assumption | decide | (unfold I64; omega)) (by omega) (by (try simp); omega) ?_; intro a2 c2 wn ho hb; have O := Lib.hid ho; have X := Lib.hid (X.out.keepB hb (by omega)); have hbl := Below.trans hbl (hb.mono (by omega)); have hsn := hb.size; clear ho hb)
                      go_roundw
                      case rel => exact ⟨_, m + 1, _, 3, rfl, rfl, by omega, by omega, by (try simp at hsn); omega, hbl, by show _; rw [faK_yes (by rfl), ← List.append_assoc]; exact O, X⟩
                      case measure => simp [intOf]
                  · have hq2' : (4 + (q : Int) != 6) = true := by rw [bne_iff_ne]; omega
                    have hqq : (q != 2 || sec) = true := by simp [hq2]
                    have HQ := Lib.hid hqq
                    clear hqq hq2
                    go_wp2_with (at_builtin; refine appK3 rfl _ _ rfl Tryd.underlying72 Tryd.infoKind rfl (by decide) (w.heap.size + 1) _ _ _ _ (O.out.keep (by repeat (first | exact Below.refl _ _ | assumption | refine below_allocS ?_ _ | refine below_callS ?_ (by assumption) | (refine Below.alloc ?_ (by first | omega | (simp; done) | (simp; omega)) _) | (refine Below.setCell ?_ (by first | omega | (simp; done) | (simp; omega)) _) | refine Below.drew ?_ | refine below_drewN ?_ _ | (refine below_call ?_ (by assumption) (by first | omega | (simp; done) | (simp; omega))) | (refine Below.trans ?_ (by assumption))))) rfl _ rfl (by first | rfl | (simp; done)) (by first | assumption | decide | (unfold I64; omega)) (by first | assumption | decide | (unfold I64; omega)) (by first | assumption | decide | (unfold I64; omega)) (by omega) (by (try simp); omega) ?_; intro a2 c2 wn ho hb; have O := Lib.hid ho; have X := Lib.hid (X.out.keepB hb (by omega)); have hbl := Below.trans hbl (hb.mono (by omega)); have hsn := hb.size; clear ho hb)
                    go_roundw
                    case rel => exact ⟨_, m + 1, _, q + 1, rfl, by rw [show 4 + ((q + 1 : Nat) : Int) = 4 + (q : Int) + 1 from by omega], by omega, by omega, by (try simp at hsn); omega, hbl, by show _; rw [faK_yes HQ.out, ← List.append_assoc]; exact O, X⟩
                    case measure => simp [intOf]; omega
                · obtain rfl : q = 3 := by omega
                  go_wp2_with fail
                  go_roundw
                  case rel => exact ⟨_, m, _, j + 1, rfl, by rw [show ((bud - (j + 1) : Nat) : Int) = (k : Int) - 1 from by have := Hk.out; omega], by omega, by omega, hsr, hbl, by show _; rw [show faB i bud sec (j + 1) = faB i bud sec j ++ faK i (bud - j) sec 3 from flat_snoc _ _, ← Hk.out, ← List.append_assoc]; exact O, X⟩
                  case measure => simp [intOf]; have := Hk.out; omega
            · obtain rfl : bud = j := by omega
              have hz : ((bud - bud : Nat) : Int) = 0 := by omega
              rw [hz]
              clear hz
              go_wp2_with fail
              go_roundw
              case rel => exact ⟨_, m, _, i + 1, rfl, by go_num, by omega, by omega, hsr, hbl, by show _; rw [show faI bud sec (i + 1) = faI bud sec i ++ faB i bud sec bud from flat_snoc _ _, ← List.append_assoc]; exact O, X⟩
              case measure => simp [intOf]; omega
        · obtain rfl : B = i := by omega
          have hlt' : ¬ (B : Int) < (B : Int) := by omega
          go_wp2_with fail
          go_ret
          exact ⟨_, m, _, rfl, O.out.le (by omega), by omega, hbl⟩
end Go.Proofs.YtfhogleillgcgaaDoor
