/- Small functions of the library over int64: greatest number, turning a slice round, sorting two.; How many trains use each block: the program, walked. -/
import Derived.Test.YtfnamjkmkoldeaaGreatDoorQa
import Derived.Test.YtfnamjkmkoldeaaGreatDoorQc
import Derived.BigRegion
import Derived.BigQuiet
import Derived.Test.YtfnamjkmkoldeaaGreatDoorYb
import Derived.Test.YtfnamjkmkoldeaaGreatDoorQg
import Derived.Test.YtfnamjkmkoldeaaGreatDoorL24b
import Derived.Test.YtfnamjkmkoldeaaGreatDoorSl9
namespace Go.Proofs.YtfnamjkmkoldeaaGreatDoor
open Go.RowKit
set_option linter.unusedVariables false
set_option linter.unusedSimpArgs false
/-- j steps of turning round: the outer j pairs are swapped -/
def RevAt (l m : List Int) (j : Nat) : Prop := m.length = l.length ∧ ∀ i, i < l.length → m[i]? = if i < j ∨ l.length ≤ i + j then l[l.length - 1 - i]? else l[i]?
theorem RevAt.start (l : List Int) : RevAt l l 0 := ⟨rfl, fun i hi => by rw [if_neg (by omega)]⟩
theorem RevAt.done {l m : List Int} {j : Nat} (h : RevAt l m j) (hj : l.length ≤ 2 * j + 1) : m = l.reverse := by
  apply List.ext_getElem?
  intro i
  by_cases hi : i < l.length
  · rw [List.getElem?_reverse hi, h.2 i hi]
    split
    · rfl
    · have : i = l.length - 1 - i := by omega
      rw [← this]
  · rw [List.getElem?_eq_none (by rw [h.1]; omega), List.getElem?_eq_none (by rw [List.length_reverse]; omega)]
theorem RevAt.step {l m : List Int} {j : Nat} {x y : Int} (h : RevAt l m j) (hj : 2 * j + 1 < l.length) (hx : m[j]? = some x) (hy : m[l.length - 1 - j]? = some y) : RevAt l ((m.set j y).set (l.length - 1 - j) x) (j + 1) := by
  have hx' : l[j]? = some x := by rw [h.2 j (by omega), if_neg (by omega)] at hx; exact hx
  have hy' : l[l.length - 1 - j]? = some y := by rw [h.2 _ (by omega), if_neg (by omega)] at hy; exact hy
  refine ⟨by rw [List.length_set, List.length_set]; exact h.1, fun i hi => ?_⟩
  rw [List.getElem?_set, List.getElem?_set, List.length_set, h.1]
  by_cases e1 : l.length - 1 - j = i
  · rw [if_pos e1, if_pos (by omega), if_pos (by omega), ← e1, show l.length - 1 - (l.length - 1 - j) = j by omega, hx']
  · rw [if_neg e1]
    by_cases e2 : j = i
    · subst e2
      rw [if_pos rfl, if_pos hi, if_pos (by omega), hy']
    · rw [if_neg e2, h.2 i hi]
      by_cases e3 : i < j ∨ l.length ≤ i + j
      · rw [if_pos e3, if_pos (by omega)]
      · rw [if_neg e3, if_neg (by omega)]
set_option maxHeartbeats 1000000 in
theorem slices_Max_i64 {a : Option Addr} {n c : Nat} {l : List Int} {w : World} (hI : Ints w a n c l) (h0 : 0 < n) (hn : n ≤ 1048576) :
    Calls Tryz.prog 104 #[.slice a n c] w fun e w' => ∃ m, e = .returned (.int .i64 m) ∧ m ∈ l ∧ (∀ x ∈ l, x ≤ m) ∧ w = w' := by
  obtain ⟨b, off, x0, rfl, hb, hx0, hc0, _⟩ := hI.at h0
  have HI := Lib.hid hI
  have HX0 := Lib.hid hx0
  have HL := Lib.hid hI.len
  have hn1 : ¬ (n : Int) < 1 := by omega
  have hn0 : (0 : Int) < (n : Int) := by omega
  rw [Nat.add_zero] at hc0
  clear hI hx0
  go_enter Tryz.func104, Tryz.ntmps104
  go_wp2_with fail
  go_loop [3, 4] (fun s3 s4 => ∃ (j : Nat) (m : Int), s3 = .int .i64 m ∧ s4 = .int .i64 j ∧ j ≤ n ∧ 1 ≤ j ∧ Hid (m ∈ l ∧ ∀ i x, l[i]? = some x → i < j → x ≤ m)) (fun _ i => n - (intOf i).toNat)
  case atStart => exact ⟨1, x0, rfl, rfl, by omega, by omega, Lib.hid ⟨List.mem_of_getElem? HX0.out, fun i x hi hlt => by
    have : i = 0 := by omega
    subst this
    have h := HX0.out
    rw [hi] at h
    cases h
    exact Int.le_refl _⟩⟩
  case round =>
    obtain ⟨j, m, rfl, rfl, hj, hj1, A⟩ := hrel
    by_cases hlt : j < n
    · have hlt' : (j : Int) < (n : Int) := by omega
      obtain ⟨b', off', x, he, hb', hx, hcell, hwf⟩ := HI.out.at hlt
      simp only [Option.some.injEq, Addr.mk.injEq, and_true] at he
      obtain ⟨rfl, rfl⟩ := he
      have Hx := Lib.hid hx
      clear hx
      have HM := Lib.hid (show max m x ∈ l ∧ ∀ i z, l[i]? = some z → i < j + 1 → z ≤ max m x from ⟨by
        rcases Int.le_total m x with h | h
        · rw [Int.max_eq_right h]; exact List.mem_of_getElem? Hx.out
        · rw [Int.max_eq_left h]; exact A.out.1, fun i z hz hlt => by
        by_cases e : i = j
        · subst e; rw [Hx.out] at hz; cases hz; omega
        · have := A.out.2 i z hz (by omega); omega⟩)
      go_wp2
      go_round
      case rel => exact ⟨j + 1, max m x, rfl, by go_num, by omega, by omega, HM⟩
      case measure => simp [intOf]; omega
    · obtain rfl : n = j := by omega
      have hlt' : ¬ (n : Int) < (n : Int) := by omega
      go_wp2
      go_ret
      refine ⟨m, rfl, A.out.1, fun x hx => ?_, rfl⟩
      obtain ⟨i, hi⟩ := List.getElem?_of_mem hx
      exact A.out.2 i x hi (by rw [← HL.out]; exact (List.getElem?_eq_some_iff.1 hi).1)
theorem Touch.then2 {w w1 w2 : World} {n g : Nat} (h : Touch w w1 n (some ⟨g, 0, none⟩)) (h0 : 0 < n) (h2 : w1.grownBy w2 (some g)) : Touch w w2 n (some ⟨g, 0, none⟩) := by
  obtain ⟨r, hg, hr⟩ := h
  refine ⟨some g, ⟨h2.os.trans hg.os, h2.tape.trans hg.tape, h2.output.trans hg.output, Nat.le_trans hg.size h2.size, fun k hk hne => (h2.block k (Nat.lt_of_lt_of_le hk hg.size) hne).trans (hg.block k hk fun e => ?_)⟩, fun b e => by cases e; exact ⟨h0, rfl⟩⟩
  have h3 := (hr k e.symm).2
  simp at h3
  exact hne (by rw [h3])
set_option maxHeartbeats 2000000 in
theorem slices_Reverse_i64 {a : Option Addr} {base n c : Nat} {l : List Int} {w : World} (hI : OwnI 2 w base a n c l) (hn : n ≤ 1048576) :
    Calls Tryz.prog 108 #[.slice a n c] w fun e w' => e = .returned (.tuple #[]) ∧ Touch w w' n a ∧ OwnI 2 w' base a n c l.reverse := by
  have HI := Lib.hid hI
  have HL := Lib.hid hI.len
  have HB := Lib.hid hI.blk
  clear hI
  go_enter Tryz.func108, Tryz.ntmps108
  go_wp2_with fail
  go_loopw [2, 3] (fun s2 s3 wr => ∃ (j : Nat) (m : List Int), s2 = .int .i64 j ∧ s3 = .int .i64 ((n : Int) - 1 - j) ∧ 2 * j ≤ n + 1 ∧ Hid (Touch w wr n a) ∧ Hid (OwnI 2 wr base a n c m) ∧ Hid (RevAt l m j)) (fun s2 _ _ => n + 2 - (intOf s2).toNat)
  case atStart => exact ⟨0, l, rfl, by go_num, by omega, Lib.hid ⟨none, grownBy_refl _ _, fun b e => by cases e⟩, HI, Lib.hid (RevAt.start l)⟩
  case round =>
    obtain ⟨j, m, rfl, rfl, hj, HT, HM, HR⟩ := hrel
    have hj0 : (0 : Int) ≤ (j : Int) := by omega
    by_cases hlt : 2 * j + 1 < n
    · have hlt' : (j : Int) < (n : Int) - 1 - (j : Int) := by omega
      obtain ⟨q, hq⟩ : ∃ q : Nat, q = n - 1 - j := ⟨_, rfl⟩
      have hqe : (n : Int) - 1 - (j : Int) = (q : Int) := by omega
      have hqn : q < n := by omega
      have hjq : j < q := by omega
      have hjn : (j : Int) < (n : Int) := by omega
      have hqn' : (q : Int) < (n : Int) := by omega
      have hq0 : (0 : Int) ≤ (q : Int) := by omega
      have hjq' : (j : Int) < (q : Int) := by omega
      obtain ⟨g, rfl⟩ := HM.out.shape (by omega)
      obtain ⟨x, hx, hxo, hcx⟩ := HM.out.cell (show j < n by omega)
      obtain ⟨y, hy, hyo, hcy⟩ := HM.out.cell hqn
      have hfz := HM.out.free
      have hgl := (HM.out.lt).2
      have HS := Lib.hid (HR.out.step (by rw [HL.out]; omega) hx (by rw [HL.out, ← hq]; exact hy))
      rw [HL.out, ← hq] at HS
      have HQ := Lib.hid hq
      have hne : ¬ j = q := by omega
      clear hx hy hq
      rw [hqe]
      go_wp2
      go_region
      go_wp2
      go_roundw
      case rel =>
        refine ⟨j + 1, (m.set j y).set q x, by go_num, by rw [show (q : Int) - 1 = (n : Int) - 1 - ((j + 1 : Nat) : Int) by omega], by omega, Lib.hid ?_, Lib.hid ?_, HS⟩
        · exact HT.out.then2 (by omega) (grownBy_drewT (grownBy_set (set_grown g _ _) _ _))
        · exact ((HM.out.set j hyo).set q hxo).keep (Below.refl _ _).drew
      case measure => simp [intOf]; omega
    · have hlt' : ¬ (j : Int) < (n : Int) - 1 - (j : Int) := by omega
      have hRD := HR.out.done (by rw [HL.out]; omega)
      have HRD := Lib.hid hRD
      clear hRD
      go_wp2
      (try simp only [Exit.inBlock, Exit.then])
      refine bodyPost_end (results_none rfl _ _ _) rfl ⟨rfl, HT.out, by rw [← HRD.out]; exact HM.out⟩
end Go.Proofs.YtfnamjkmkoldeaaGreatDoor
namespace Go.Proofs.YtfnamjkmkoldeaaGreatDoor
open Go.RowKit
set_option linter.unusedVariables false
set_option linter.unusedSimpArgs false
/-- the blocks that a train uses, ascending -/
def usedL (B p : Nat) : List Int := if p % 3 = 2 then (if p / 3 < (p / 3 + 1) % B then [((p / 3 : Nat) : Int), (((p / 3 + 1) % B : Nat) : Int)] else [(((p / 3 + 1) % B : Nat) : Int), ((p / 3 : Nat) : Int)]) else [((p / 3 : Nat) : Int)]
def srt2 (x y : Int) : List Int := if x < y then [x, y] else [y, x]
theorem srt2_lt {x y : Int} (h : x < y) : srt2 x y = [x, y] := if_pos h
theorem srt2_ge {x y : Int} (h : ¬ x < y) : srt2 x y = [y, x] := if_neg h
theorem Touch.more {w w1 w2 : World} {n : Nat} {a : Option Addr} (h : Touch w w1 n a) (hb : Below w1.heap.size w1 w2) : Touch w w2 n a := by
  obtain ⟨r, hg, hr⟩ := h
  exact ⟨r, grownBy_belowT hg hb, hr⟩
theorem own_lit1u {w : World} {T : TypeId} {z : Int} (hz : I64 z) : OwnI T (w.alloc (.cells #[.int .i64 z] T)) w.heap.size (some ⟨w.heap.size, 0, none⟩) 1 1 [z] :=
  OwnF.i1 (OwnF.lit w [z] (Nat.le_refl _) rfl (by decide) (fun _ => rfl) (fun y hy => by simp at hy; rw [hy]; exact hz) rfl)
theorem own_lit2u {w : World} {T : TypeId} {y z : Int} (hy : I64 y) (hz : I64 z) : OwnI T (w.alloc (.cells #[.int .i64 y, .int .i64 z] T)) w.heap.size (some ⟨w.heap.size, 0, none⟩) 2 2 [y, z] :=
  OwnF.i1 (OwnF.lit w [y, z] (Nat.le_refl _) rfl (by decide) (fun _ => rfl) (fun x hx => by simp at hx; rcases hx with rfl | rfl <;> assumption) rfl)
def bump (m : List Int) (u : Int) : List Int := m.set u.toNat (m.getD u.toNat 0 + 1)
theorem bump_len (m : List Int) (u : Int) : (bump m u).length = m.length := List.length_set
theorem bump_le {m : List Int} {u k : Int} (h : ∀ z ∈ m, 0 ≤ z ∧ z ≤ k) (hk : 0 ≤ k) : ∀ z ∈ bump m u, 0 ≤ z ∧ z ≤ k + 1 := by
  intro z hz
  rcases List.mem_or_eq_of_mem_set hz with h1 | h1
  · have := h z h1; omega
  · rw [h1, List.getD_eq_getElem?_getD]
    cases hg : m[u.toNat]? with
    | none => simp; omega
    | some x => have := h x (List.mem_of_getElem? hg); simp; omega
theorem used_bump {B p : Nat} {ps : List Int} (hB : 2 ≤ B) (hp : p / 3 < B) : (usedL B p).foldl bump (cntL B ps) = cntL B (ps ++ [(p : Int)]) := by
  have hg : ∀ b, b < B → (cntL B ps).getD b 0 = (cntN B ps b : Int) := fun b hb => by rw [List.getD_eq_getElem?_getD, cntL_at hb]; rfl
  rw [usedL]
  split
  · rename_i h2
    have hC : (p / 3 + 1) % B < B := Nat.mod_lt _ (by omega)
    split
    · obtain ⟨h3, h4⟩ := cntL_cross (ps := ps) hB hp h2 (a := p / 3) (b := (p / 3 + 1) % B) (.inl ⟨rfl, rfl⟩)
      simp only [List.foldl_cons, List.foldl_nil, bump, Int.toNat_natCast, hg _ hp]
      rw [List.getD_eq_getElem?_getD, h4]
      exact h3
    · obtain ⟨h3, h4⟩ := cntL_cross (ps := ps) hB hp h2 (a := (p / 3 + 1) % B) (b := p / 3) (.inr ⟨rfl, rfl⟩)
      simp only [List.foldl_cons, List.foldl_nil, bump, Int.toNat_natCast, hg _ hC]
      rw [List.getD_eq_getElem?_getD, h4]
      exact h3
  · rename_i h2
    simp only [List.foldl_cons, List.foldl_nil, bump, Int.toNat_natCast, hg _ hp]
    exact cntL_run h2
theorem used_len (B p : Nat) : (usedL B p).length ≤ 2 := by
  rw [usedL]; split
  · split <;> simp
  · simp
theorem used_at {B p : Nat} (hB : 0 < B) (hp : p / 3 < B) : ∀ u ∈ usedL B p, 0 ≤ u ∧ u < (B : Int) := by
  have hC : (p / 3 + 1) % B < B := Nat.mod_lt _ hB
  intro u hu
  rw [usedL] at hu
  generalize (p / 3 + 1) % B = v at hC hu
  generalize p / 3 = t at hp hu
  split at hu
  · split at hu <;> simp at hu <;> rcases hu with rfl | rfl <;> omega
  · simp at hu; omega
def UsedRet (E : TypeId) (w : World) (l : List Int) (e : Ending) (w' : World) : Prop := ∃ a n c, e = .returned (.slice a n c) ∧ Below w.heap.size w w' ∧ OwnI E w' w.heap.size a n c l
theorem isNaN_i64 {x : Int} {w : World} : Calls Tryz.prog 179 #[.int .i64 x] w fun e w' => e = .returned (.bool false) ∧ w = w' := by
  have hx : (x != x) = false := by simp
  go_enter Tryz.func179, Tryz.ntmps179
  go_wp2
  go_ret
  exact ⟨by first | rfl | simp, rfl⟩
theorem cmp_Less_i64 {x y : Int} {w : World} : Calls Tryz.prog 196 #[.int .i64 x, .int .i64 y] w fun e w' => e = .returned (.bool (decide (x < y))) ∧ w = w' := by
  go_enter Tryz.func196, Tryz.ntmps196
  go_wp2_with fail
  refine Calls.mono (isNaN_i64) ?_
  rintro e _ ⟨rfl, rfl⟩
  go_wp2
  go_ret
  exact ⟨by first | rfl | simp, rfl⟩
set_option maxHeartbeats 2000000 in
theorem insertionSort_2 {g base c : Nat} {x y : Int} {w : World} (hI : OwnI 2 w base (some ⟨g, 0, none⟩) 2 c [x, y]) (hne : x ≠ y) :
    Calls Tryz.prog 190 #[.slice (some ⟨g, 0, none⟩) 2 c, .int .i64 0, .int .i64 2] w fun e w' => e = .returned (.tuple #[]) ∧ Touch w w' 2 (some ⟨g, 0, none⟩) ∧ OwnI 2 w' base (some ⟨g, 0, none⟩) 2 c (srt2 x y) := by
  have HI := Lib.hid hI
  clear hI
  have T0 := Lib.hid (show Touch w w 2 (some ⟨g, 0, none⟩) from ⟨none, grownBy_refl _ _, fun b e => by cases e⟩)
  go_enter Tryz.func190, Tryz.ntmps190
  go_wp2_with fail
  go_loopw [6] (fun s6 wr => ∃ m : List Int, ((s6 = .int .i64 1 ∧ m = [x, y]) ∨ (s6 = .int .i64 2 ∧ m = (srt2 x y))) ∧ Hid (Touch w wr 2 (some ⟨g, 0, none⟩)) ∧ Hid (OwnI 2 wr base (some ⟨g, 0, none⟩) 2 c m)) (fun s6 _ => 2 - (intOf s6).toNat)
  case atStart => exact ⟨[x, y], .inl ⟨rfl, rfl⟩, T0, HI⟩
  case round =>
    clear T0 HI
    obtain ⟨m, hm, T, O⟩ := hrel
    rcases hm with ⟨rfl, rfl⟩ | ⟨rfl, rfl⟩
    · go_wp2_with fail
      go_loopw [7] (fun s7 wq => ∃ m : List Int, ((s7 = .int .i64 1 ∧ m = [x, y]) ∨ (s7 = .int .i64 0 ∧ y < x ∧ m = [y, x])) ∧ Hid (Touch w wq 2 (some ⟨g, 0, none⟩)) ∧ Hid (OwnI 2 wq base (some ⟨g, 0, none⟩) 2 c m)) (fun s7 _ => (intOf s7).toNat)
      case atStart => exact ⟨[x, y], .inl ⟨rfl, rfl⟩, T, O⟩
      case round =>
        clear T O
        obtain ⟨m, hm, T, O⟩ := hrel
        rcases hm with ⟨rfl, rfl⟩ | ⟨rfl, hyx, rfl⟩
        · obtain ⟨x', hx, hxo, hcx⟩ := O.out.cell (k := 0) (by decide)
          obtain ⟨y', hy, hyo, hcy⟩ := O.out.cell (k := 1) (by decide)
          simp at hx hy
          subst hx hy
          have hfz := O.out.free
          have hgl := (O.out.lt).2
          have KL := Lib.hid (fun (wx : World) => cmp_Less_i64 (x := y) (y := x) (w := wx))
          have hw1 : IntKind.i64.wrap (0 : Int) = 0 := by decide
          by_cases hyx : y < x
          · have HXY := Lib.hid (show ¬ x < y by omega)
            have KT := Lib.hid (fun (wx : World) => (show Calls Tryz.prog 196 #[.int .i64 y, .int .i64 x] wx (fun e w' => e = .returned (.bool true) ∧ wx = w') by have h := KL.out wx; rw [decide_eq_true hyx] at h; exact h))
            clear KL
            go_wp2_with fail
            go_region_held3 (fun wx => wx.cell? ⟨g, 0, none⟩ = some (.int .i64 x) ∧ wx.cell? ⟨g, 1, none⟩ = some (.int .i64 y) ∧ g < wx.heap.size) (((try go_split_ands); (repeat' apply And.intro) <;> first | (with_reducible assumption) | (with_reducible exact cell_drew (by with_reducible assumption)) | (with_reducible exact lt_drew (by with_reducible assumption)))) (first | (go_at_call 196; go_split_ands; refine Calls.mono (KT.out _) ?_; rintro e _ ⟨rfl, rfl⟩))
            go_split_ands
            go_wp2
            go_region
            go_wp2
            go_roundw
            case rel =>
              refine ⟨[y, x], .inr ⟨rfl, hyx, rfl⟩, Lib.hid ?_, Lib.hid ?_⟩
              · exact T.out.then2 (by decide) (by repeat (first | exact grownBy_refl _ _ | assumption | refine grownBy_set ?_ _ _ | refine grownBy_allocT ?_ _ | refine grownBy_drewT ?_ | refine grownBy_drewNT ?_ _ | refine grownBy_belowT ?_ (by assumption)))
              · exact ((O.out.set 1 hxo).set 0 hyo).keep (by repeat (first | exact Below.refl _ _ | assumption | refine below_allocS ?_ _ | refine below_callS ?_ (by assumption) | (refine Below.alloc ?_ (by first | omega | (simp; done) | (simp; omega)) _) | (refine Below.setCell ?_ (by first | omega | (simp; done) | (simp; omega)) _) | refine Below.drew ?_ | refine below_drewN ?_ _ | (refine below_call ?_ (by assumption) (by first | omega | (simp; done) | (simp; omega))) | (refine Below.trans ?_ (by assumption))))
            case measure => decide
          · have KF := Lib.hid (fun (wx : World) => (show Calls Tryz.prog 196 #[.int .i64 y, .int .i64 x] wx (fun e w' => e = .returned (.bool false) ∧ wx = w') by have h := KL.out wx; rw [decide_eq_false hyx] at h; exact h))
            clear KL
            go_wp2_with fail
            go_region_held3 (fun wx => wx.cell? ⟨g, 0, none⟩ = some (.int .i64 x) ∧ wx.cell? ⟨g, 1, none⟩ = some (.int .i64 y) ∧ g < wx.heap.size) (((try go_split_ands); (repeat' apply And.intro) <;> first | (with_reducible assumption) | (with_reducible exact cell_drew (by with_reducible assumption)) | (with_reducible exact lt_drew (by with_reducible assumption)))) (first | (go_at_call 196; go_split_ands; refine Calls.mono (KF.out _) ?_; rintro e _ ⟨rfl, rfl⟩))
            go_split_ands
            have HS := Lib.hid (srt2_lt (show x < y by omega)).symm
            go_wp2
            go_roundw
            case rel => exact ⟨[x, y], .inr ⟨rfl, HS.out⟩, Lib.hid (T.out.more (by repeat (first | exact Below.refl _ _ | assumption | refine below_allocS ?_ _ | refine below_callS ?_ (by assumption) | (refine Below.alloc ?_ (by first | omega | (simp; done) | (simp; omega)) _) | (refine Below.setCell ?_ (by first | omega | (simp; done) | (simp; omega)) _) | refine Below.drew ?_ | refine below_drewN ?_ _ | (refine below_call ?_ (by assumption) (by first | omega | (simp; done) | (simp; omega))) | (refine Below.trans ?_ (by assumption))))), Lib.hid (O.out.keep (by repeat (first | exact Below.refl _ _ | assumption | refine below_allocS ?_ _ | refine below_callS ?_ (by assumption) | (refine Below.alloc ?_ (by first | omega | (simp; done) | (simp; omega)) _) | (refine Below.setCell ?_ (by first | omega | (simp; done) | (simp; omega)) _) | refine Below.drew ?_ | refine below_drewN ?_ _ | (refine below_call ?_ (by assumption) (by first | omega | (simp; done) | (simp; omega))) | (refine Below.trans ?_ (by assumption)))))⟩
            case measure => decide
        · have HS := Lib.hid (srt2_ge (show ¬ x < y by omega)).symm
          go_wp2
          go_quiet (fail)
          go_wp2
          go_roundw
          case rel => exact ⟨[y, x], .inr ⟨rfl, HS.out⟩, Lib.hid (T.out.more (by repeat (first | exact Below.refl _ _ | assumption | refine below_allocS ?_ _ | refine below_callS ?_ (by assumption) | (refine Below.alloc ?_ (by first | omega | (simp; done) | (simp; omega)) _) | (refine Below.setCell ?_ (by first | omega | (simp; done) | (simp; omega)) _) | refine Below.drew ?_ | refine below_drewN ?_ _ | (refine below_call ?_ (by assumption) (by first | omega | (simp; done) | (simp; omega))) | (refine Below.trans ?_ (by assumption))))), Lib.hid (O.out.keep (by repeat (first | exact Below.refl _ _ | assumption | refine below_allocS ?_ _ | refine below_callS ?_ (by assumption) | (refine Below.alloc ?_ (by first | omega | (simp; done) | (simp; omega)) _) | (refine Below.setCell ?_ (by first | omega | (simp; done) | (simp; omega)) _) | refine Below.drew ?_ | refine below_drewN ?_ _ | (refine below_call ?_ (by assumption) (by first | omega | (simp; done) | (simp; omega))) | (refine Below.trans ?_ (by assumption)))))⟩
          case measure => decide
    · go_wp2
      (try simp only [Exit.inBlock, Exit.then])
      refine bodyPost_end (results_none rfl _ _ _) rfl ⟨rfl, T.out, O.out⟩
set_option maxHeartbeats 2000000 in
theorem slices_Sort_2 {g base c : Nat} {x y : Int} {w : World} (hI : OwnI 2 w base (some ⟨g, 0, none⟩) 2 c [x, y]) (hne : x ≠ y) :
    Calls Tryz.prog 162 #[.slice (some ⟨g, 0, none⟩) 2 c] w fun e w' => e = .returned (.tuple #[]) ∧ Touch w w' 2 (some ⟨g, 0, none⟩) ∧ OwnI 2 w' base (some ⟨g, 0, none⟩) 2 c (srt2 x y) := by
  have K1 := Lib.hid (insertionSort_2 hI hne)
  have KH := Lib.hid (show Calls Tryz.prog 160 #[.int .u64 2] w (fun e w' => e = .returned (.int .i64 2) ∧ w = w') from Calls.mono (Tryz.bits_Len 2 w (by decide) (by decide)) fun e w' ⟨h1, h2⟩ => ⟨by rw [h1]; rfl, h2.symm⟩)
  clear hI
  go_enter Tryz.func162, Tryz.ntmps162
  go_wp2_with fail
  refine Calls.mono KH.out ?_
  rintro e _ ⟨rfl, rfl⟩
  go_wp2_with fail
  refine Calls.mono (show Calls Tryz.prog 180 #[.slice (some ⟨g, 0, none⟩) 2 c, .int .i64 0, .int .i64 2, .int .i64 2] w (fun e w' => e = .returned (.tuple #[]) ∧ Touch w w' 2 (some ⟨g, 0, none⟩) ∧ OwnI 2 w' base (some ⟨g, 0, none⟩) 2 c (srt2 x y)) from ?_) ?_
  · go_enter Tryz.func180, Tryz.ntmps180
    go_wp2_with fail
    go_loop [1, 2, 10] (fun s1 s2 _ => s1 = .int .i64 0 ∧ s2 = .int .i64 2) (fun _ _ _ => 0)
    case atStart => exact ⟨rfl, rfl⟩
    case round =>
      obtain ⟨rfl, rfl⟩ := hrel
      go_wp2_with fail
      refine Calls.mono K1.out ?_
      rintro e w2 ⟨rfl, ht, ho⟩
      have HT := Lib.hid ht
      have HO := Lib.hid ho
      clear ht ho
      go_wp2
      exact bodyPost_ret (v := .tuple #[]) (by simp [results, Tryz.results180, go_sem]) rfl ⟨rfl, HT.out, HO.out⟩
  · rintro e w2 ⟨rfl, ht, ho⟩
    have HT := Lib.hid ht
    have HO := Lib.hid ho
    clear ht ho
    go_wp2
    (try simp only [Exit.inBlock, Exit.then])
    refine bodyPost_end (results_none rfl _ _ _) rfl ⟨rfl, HT.out, HO.out⟩
set_option maxHeartbeats 2000000 in
theorem impl_used {B p i n c : Nat} {a : Option Addr} {l : List Int} {w : World} (hI : Ints w a n c l) (hp : l[i]? = some (p : Int)) (hn : n ≤ 1000) (hB : 2 ≤ B) (hB8 : B ≤ 8) (hpB : p < 3 * B) :
    Calls Tryz.prog 139 #[.agg #[.int .i64 (B : Int), .slice a n c], .int .i64 (i : Int)] w (UsedRet 2 w (usedL B p)) := by
  have hin : i < n := by rw [← hI.len]; exact (List.getElem?_eq_some_iff.1 hp).1
  have hin' : (i : Int) < (n : Int) := by omega
  have hi0 : (0 : Int) ≤ (i : Int) := by omega
  obtain ⟨b, off, x, rfl, hb, hx, hcell, _⟩ := hI.at hin
  rw [hp] at hx
  cases hx
  have hB0 : ¬ (B : Int) = 0 := by omega
  clear hI hp
  by_cases h2 : p % 3 = 2
  · have h2' : (p : Int) % 3 = 2 := by omega
    have hlt : p / 3 < B := by omega
    have hne := next_ne hB hlt
    have e1 : ((p : Int) / 3 + 1) % (B : Int) = (((p / 3 + 1) % B : Nat) : Int) := by push_cast; rfl
    have e2 : (p : Int) / 3 = ((p / 3 : Nat) : Int) := by push_cast; rfl
    have HU := Lib.hid (show usedL B p = srt2 ((p / 3 : Nat) : Int) (((p / 3 + 1) % B : Nat) : Int) by
      rw [usedL, if_pos h2, srt2]
      by_cases h : p / 3 < (p / 3 + 1) % B
      · rw [if_pos h, if_pos (by omega)]
      · rw [if_neg h, if_neg (by omega)])
    obtain ⟨u, hu⟩ : ∃ u : Nat, u = p / 3 := ⟨_, rfl⟩
    obtain ⟨v, hv⟩ : ∃ v : Nat, v = (p / 3 + 1) % B := ⟨_, rfl⟩
    rw [← hv, ← hu] at HU hne
    rw [← hu] at e2
    rw [e2, ← hv] at e1
    have hu8 : u ≤ 8 := by omega
    have hv8 : v ≤ 8 := by have := Nat.mod_lt (p / 3 + 1) (show 0 < B by omega); omega
    clear hu hv
    go_enter Tryz.func139, Tryz.ntmps139
    go_wp2
    go_quiet (fail)
    go_wp2_with fail
    have hO := own_lit2u (w := (w.alloc (.cells #[.int .i64 (B : Int), .slice (some ⟨b, off, none⟩) n c] 28)).drewN nq) (T := 2) (y := (u : Int)) (z := (v : Int)) (by unfold I64; omega) (by unfold I64; omega)
    have hO1 : OwnI 2 (((w.alloc (.cells #[.int .i64 (B : Int), .slice (some ⟨b, off, none⟩) n c] 28)).drewN nq).alloc (.cells #[.int .i64 (u : Int), .int .i64 (v : Int)] 2)) w.heap.size (some ⟨w.heap.size + 1, 0, none⟩) 2 2 [(u : Int), (v : Int)] := by
      have hh := hO.le (base' := w.heap.size) (by simp [World.drewN])
      simpa [World.drewN] using hh
    have hbL : Below w.heap.size w (((w.alloc (.cells #[.int .i64 (B : Int), .slice (some ⟨b, off, none⟩) n c] 28)).drewN nq).alloc (.cells #[.int .i64 (u : Int), .int .i64 (v : Int)] 2)) := by repeat (first | exact Below.refl _ _ | assumption | refine below_allocS ?_ _ | refine below_callS ?_ (by assumption) | (refine Below.alloc ?_ (by first | omega | (simp; done) | (simp; omega)) _) | (refine Below.setCell ?_ (by first | omega | (simp; done) | (simp; omega)) _) | refine Below.drew ?_ | refine below_drewN ?_ _ | (refine below_call ?_ (by assumption) (by first | omega | (simp; done) | (simp; omega))) | (refine Below.trans ?_ (by assumption)))
    refine Calls.mono (slices_Sort_2 hO1 (by omega)) ?_
    rintro e w2 ⟨rfl, ht, ho⟩
    have HT := Lib.hid ht
    have HO := Lib.hid ho
    have HBL := Lib.hid hbL
    clear ht ho hO hO1 hbL
    go_wp2
    go_ret
    exact ⟨_, 2, 2, rfl, HT.out.below HBL.out HBL.out.size (fun g e => by simp at e; omega), by rw [HU.out]; exact HO.out⟩
  · have h2' : ¬ (p : Int) % 3 = 2 := by omega
    have e2 : (p : Int) / 3 = ((p / 3 : Nat) : Int) := by push_cast; rfl
    have HU := Lib.hid (show usedL B p = [(p : Int) / 3] by rw [usedL, if_neg h2, e2])
    clear e2
    go_enter Tryz.func139, Tryz.ntmps139
    go_wp2
    go_quiet (fail)
    go_wp2
    go_ret
    refine ⟨_, 1, 1, rfl, by repeat (first | exact Below.refl _ _ | assumption | refine below_allocS ?_ _ | refine below_callS ?_ (by assumption) | (refine Below.alloc ?_ (by first | omega | (simp; done) | (simp; omega)) _) | (refine Below.setCell ?_ (by first | omega | (simp; done) | (simp; omega)) _) | refine Below.drew ?_ | refine below_drewN ?_ _ | (refine below_call ?_ (by assumption) (by first | omega | (simp; done) | (simp; omega))) | (refine Below.trans ?_ (by assumption))), ?_⟩
    rw [HU.out]
    have hO := own_lit1u (w := (w.alloc (.cells #[.int .i64 (B : Int), .slice (some ⟨b, off, none⟩) n c] 28)).drewN nq) (T := 2) (z := (p : Int) / 3) (by unfold I64; omega)
    have hh := hO.le (base' := w.heap.size) (by simp [World.drewN])
    simpa [World.drewN] using hh
set_option maxHeartbeats 4000000 in
theorem impl_uses {B n c : Nat} {a : Option Addr} {l : List Int} {w : World} (hI : Ints w a n c l) (hn : n ≤ 4) (hB : 2 ≤ B) (hB8 : B ≤ 8) (hp : ∀ x ∈ l, 0 ≤ x ∧ x < 3 * (B : Int)) :
    Calls Tryz.prog 105 #[.agg #[.int .i64 (B : Int), .slice a n c]] w (UsedRet 2 w (cntL B l)) := by
  obtain ⟨wA, hwA⟩ : ∃ wA : World, wA = w.alloc (.cells #[.int .i64 (B : Int), .slice a n c] 28) := ⟨_, rfl⟩
  have hsA : wA.heap.size = w.heap.size + 1 := by rw [hwA]; simp
  have hbA : Below w.heap.size w wA := by rw [hwA]; repeat (first | exact Below.refl _ _ | assumption | refine below_allocS ?_ _ | refine below_callS ?_ (by assumption) | (refine Below.alloc ?_ (by first | omega | (simp; done) | (simp; omega)) _) | (refine Below.setCell ?_ (by first | omega | (simp; done) | (simp; omega)) _) | refine Below.drew ?_ | refine below_drewN ?_ _ | (refine below_call ?_ (by assumption) (by first | omega | (simp; done) | (simp; omega))) | (refine Below.trans ?_ (by assumption)))
  have X0 : Blk wA w.heap.size #[.int .i64 (B : Int), .slice a n c] 28 := by rw [hwA]; exact Blk.made _ _ _
  obtain ⟨i0, hi, hz0, hz1, hz2⟩ := info_parts Tryz.infoi64
  obtain ⟨w1, hmk, hown, hgr⟩ := run_make_full (P := Tryz.prog) wA wA.heap.size 22 2 i0 (.int .i64 0) 1 Tryz.underlying22 hi hz0 hz1 .i64 .i64 B (by rw [hz2]; omega) (by unfold maxLen; omega) (Nat.le_refl _)
  have hb1 : Below wA.heap.size wA w1 := (Below.refl _ _).grown hgr (Nat.le_refl _) (fun k h => by cases h)
  have ho : OwnI 2 w1 wA.heap.size (some ⟨wA.heap.size, 0, none⟩) B B (List.replicate B 0) := by
    refine ⟨?_, fun x hx => ?_⟩
    · have : (madeCells (Value.cells (.int .i64 0)) (B * 1)).toList = (List.replicate B 0).map (Value.int .i64) := by
        rw [Nat.mul_one, show Value.cells (.int .i64 0) = #[.int .i64 0] from rfl, toList_madeCells_one]; simp
      rw [this] at hown; exact hown
    · simp at hx; rw [hx.2]; exact ⟨by omega, by omega⟩
  rw [hsA] at ho hmk
  have HI := Lib.hid hI
  have HPL := Lib.hid hp
  have HL := Lib.hid hI.len
  have O := Lib.hid (show OwnI 2 w1 (w.heap.size + 1) (some ⟨w.heap.size + 1, 0, none⟩) B B (cntL B (l.take 0)) by rw [List.take_zero, cntL_nil]; exact ho)
  have X := Lib.hid (X0.keep hb1)
  have HB1 := Lib.hid (below_callS hbA hb1)
  rw [hwA] at hmk
  clear hI hp ho hown hgr hi hz0 hz1 hz2 X0 hb1 hbA hwA hsA
  have m1 := X.out.cell 1
  have ml := X.out.lt
  simp at m1
  go_enter Tryz.func105, Tryz.ntmps105
  go_wp2_with fail
  clear hmk m1 ml
  refine Calls.mono impl_length_i64 ?_
  rintro e _ ⟨rfl, rfl⟩
  go_wp2_with fail
  go_loopw [13] (fun s13 wr => ∃ j : Nat, s13 = .int .i64 j ∧ j ≤ n ∧ w.heap.size + 2 ≤ wr.heap.size ∧ Hid (Below w.heap.size w wr) ∧ Hid (Blk wr w.heap.size #[.int .i64 (B : Int), .slice a n c] 28) ∧ Hid (OwnI 2 wr (w.heap.size + 1) (some ⟨w.heap.size + 1, 0, none⟩) B B (cntL B (l.take j)))) (fun s13 _ => n - (intOf s13).toNat)
  case atStart => exact ⟨0, rfl, by omega, by have := (O.out.lt).2; omega, HB1, X, O⟩
  case round =>
    clear HB1 X O
    obtain ⟨j, rfl, hj, hsr, HB, X, O⟩ := hrel
    by_cases hlt : j < n
    · have hlt' : (j : Int) < (n : Int) := by omega
      obtain ⟨x, hx⟩ : ∃ x, l[j]? = some x := ⟨_, List.getElem?_eq_getElem (by rw [HL.out]; exact hlt)⟩
      have hxp := HPL.out x (List.mem_of_getElem? hx)
      obtain ⟨q, rfl⟩ := Int.eq_ofNat_of_zero_le hxp.1
      have hq3 : q / 3 < B := by omega
      have m0 := X.out.cell 0
      have m1 := X.out.cell 1
      have ml := X.out.lt
      simp at m0 m1
      have K := impl_used (w := wr) (HI.out.keep HB.out) hx (by omega) hB hB8 (by omega)
      have hstep : (usedL B q).foldl bump (cntL B (l.take j)) = cntL B (l.take (j + 1)) := by rw [take_at hx]; exact used_bump hB hq3
      have HSTEP := Lib.hid hstep
      have HU2 := Lib.hid (used_len B q)
      have HUA := Lib.hid (used_at (by omega) hq3)
      have HCB := Lib.hid (show ∀ z ∈ cntL B (l.take j), 0 ≤ z ∧ z ≤ 4 from fun z hz => by
        rw [cntL] at hz
        obtain ⟨b, _, rfl⟩ := List.mem_map.1 hz
        have := cntN_le B (l.take j) b
        rw [List.length_take] at this
        omega)
      clear hx hxp hstep
      go_wp2_with fail
      refine Calls.mono K ?_
      rintro e w2 ⟨a2, n2, c2, rfl, hb2, hu2⟩
      have U := Lib.hid hu2
      have hs2 := hb2.size
      have hn2 : n2 ≤ 2 := by rw [← hu2.len]; exact HU2.out
      have X2 := Lib.hid (X.out.keep hb2)
      have O2 := Lib.hid (O.out.keep hb2)
      have HB2 := Lib.hid (below_call HB.out hb2 HB.out.size)
      clear hu2 hb2 m0 m1 ml K X O HB
      go_wp2_with fail
      go_loopw [20] (fun s20 wq => ∃ (i : Nat) (m : List Int), s20 = .int .i64 i ∧ i ≤ n2 ∧ w.heap.size + 2 ≤ wq.heap.size ∧ Hid (m = ((usedL B q).take i).foldl bump (cntL B (l.take j))) ∧ Hid (∀ z ∈ m, 0 ≤ z ∧ z ≤ 4 + (i : Int)) ∧ Hid (Below w.heap.size w wq) ∧ Hid (Blk wq w.heap.size #[.int .i64 (B : Int), .slice a n c] 28) ∧ Hid (OwnI 2 wq wr.heap.size a2 n2 c2 (usedL B q)) ∧ Hid (OwnI 2 wq (w.heap.size + 1) (some ⟨w.heap.size + 1, 0, none⟩) B B m)) (fun s20 _ => n2 - (intOf s20).toNat)
      case atStart => exact ⟨0, _, rfl, by omega, by omega, Lib.hid rfl, Lib.hid (by simpa using HCB.out), HB2, X2, U, O2⟩
      case round =>
        clear HB2 X2 U O2
        obtain ⟨i, m, rfl, hi, hsq, HM, HZ, HB, X, U, O⟩ := hrel
        by_cases hin : i < n2
        · have hin' : (i : Int) < (n2 : Int) := by omega
          have hi0 : (0 : Int) ≤ (i : Int) := by omega
          obtain ⟨bu, ou, u, rfl, hbu, hu, hcu, _⟩ := U.out.ints.at hin
          have hur := HUA.out u (List.mem_of_getElem? hu)
          obtain ⟨v, rfl⟩ := Int.eq_ofNat_of_zero_le hur.1
          have hv : v < B := by omega
          have hv' : (v : Int) < (B : Int) := by omega
          have hv0 : (0 : Int) ≤ (v : Int) := by omega
          obtain ⟨z, hz, hzo, hcz⟩ := O.out.cell hv
          have hzb := HZ.out z (List.mem_of_getElem? hz)
          have hgl := (O.out.lt).2
          have hfz := O.out.free
          have HN := Lib.hid (show bump m (v : Int) = ((usedL B q).take (i + 1)).foldl bump (cntL B (l.take j)) by rw [take_at hu, List.foldl_append, ← HM.out]; rfl)
          have HS := Lib.hid (show m.set v (z + 1) = bump m (v : Int) by rw [bump, Int.toNat_natCast, List.getD_eq_getElem?_getD, hz]; rfl)
          have HZ2 := Lib.hid (bump_le (u := (v : Int)) HZ.out (by omega))
          have hub : bu ≠ w.heap.size + 1 := fun e => by
            have h := U.out.ints
            obtain ⟨hq0, _⟩ := h
            rcases U.out.form with ⟨e1, _⟩ | ⟨g', e1⟩
            · cases e1
            · have h2 := (U.out.blk g' e1).1
              cases e1
              omega
          clear hu hz
          go_wp2
          go_roundw
          case rel =>
            refine ⟨i + 1, bump m (v : Int), by go_num, by omega, by simp [World.setCell]; omega, HN, Lib.hid (by have h := HZ2.out; intro z hz; have := h z hz; push_cast; omega), Lib.hid (HB.out.setCell (by simp) _), Lib.hid ?_, Lib.hid ?_, Lib.hid ?_⟩
            · exact X.out.keepG (set_grown _ _ _) (by simp)
            · exact U.out.keepG (set_grown _ _ _) (fun g e e' => by simp at e e'; exact hub (by omega))
            · rw [← HS.out]; exact O.out.set v ⟨by omega, by omega⟩
          case measure => simp [intOf]; omega
        · obtain rfl : n2 = i := by omega
          have hin' : ¬ (n2 : Int) < (n2 : Int) := by omega
          have HE := Lib.hid (show m = cntL B (l.take (j + 1)) by have h := HM.out; rw [show (usedL B q).take n2 = usedL B q from List.take_of_length_le (by rw [U.out.len]; exact Nat.le_refl _)] at h; exact h.trans HSTEP.out)
          go_wp2
          go_roundw
          case rel => exact ⟨j + 1, by go_num, by omega, hsq, HB, X, Lib.hid (by rw [← HE.out]; exact O.out)⟩
          case measure => simp [intOf]; omega
    · obtain rfl : n = j := by omega
      have hlt' : ¬ (n : Int) < (n : Int) := by omega
      have HE := Lib.hid (show l.take n = l from take_len HL.out)
      go_wp2
      go_ret
      exact ⟨_, _, _, rfl, HB.out, by have h := O.out.le (base' := w.heap.size) (by omega); rw [HE.out] at h; exact h⟩
set_option maxHeartbeats 1000000 in
theorem impl_isSafe {B n c : Nat} {a : Option Addr} {l : List Int} {w : World} (hI : Ints w a n c l) (hn : n ≤ 4) (hB : 2 ≤ B) (hB8 : B ≤ 8) (hp : ∀ x ∈ l, 0 ≤ x ∧ x < 3 * (B : Int)) :
    Calls Tryz.prog 53 #[.agg #[.int .i64 (B : Int), .slice a n c]] w fun e w' => e = .returned (.bool (safeN B l)) ∧ Below w.heap.size w w' := by
  have hbA : Below w.heap.size w (w.alloc (.cells #[.int .i64 (B : Int), .slice a n c] 28)) := by repeat (first | exact Below.refl _ _ | assumption | refine below_allocS ?_ _ | refine below_callS ?_ (by assumption) | (refine Below.alloc ?_ (by first | omega | (simp; done) | (simp; omega)) _) | (refine Below.setCell ?_ (by first | omega | (simp; done) | (simp; omega)) _) | refine Below.drew ?_ | refine below_drewN ?_ _ | (refine below_call ?_ (by assumption) (by first | omega | (simp; done) | (simp; omega))) | (refine Below.trans ?_ (by assumption)))
  have K1 := Lib.hid (impl_uses (hI.keep hbA) hn hB hB8 hp)
  clear hI hp
  go_enter Tryz.func53, Tryz.ntmps53
  go_wp2_with fail
  refine Calls.mono K1.out ?_
  rintro e w1 ⟨a1, n1, c1, rfl, hb1, ho1⟩
  have hn1 : n1 = B := by rw [← ho1.len, cntL_len]
  subst hn1
  have O := Lib.hid ho1
  have hbl : Below w.heap.size w w1 := by repeat (first | exact Below.refl _ _ | assumption | refine below_allocS ?_ _ | refine below_callS ?_ (by assumption) | (refine Below.alloc ?_ (by first | omega | (simp; done) | (simp; omega)) _) | (refine Below.setCell ?_ (by first | omega | (simp; done) | (simp; omega)) _) | refine Below.drew ?_ | refine below_drewN ?_ _ | (refine below_call ?_ (by assumption) (by first | omega | (simp; done) | (simp; omega))) | (refine Below.trans ?_ (by assumption)))
  clear ho1 hb1 hbA
  go_wp2_with fail
  refine Calls.mono (slices_Max_i64 O.out.ints (by omega) (by omega)) ?_
  rintro e _ ⟨m, rfl, hm, hx, rfl⟩
  have HS := Lib.hid (safe_max hm hx)
  clear hm hx
  go_wp2
  go_ret
  exact ⟨ret_bool (by rw [← HS.out]), hbl⟩
end Go.Proofs.YtfnamjkmkoldeaaGreatDoor
