/- Comparing and sorting states: the library's functions, walked.; Different states, sorted and made compact: the same number of them. -/
import Derived.Test.YtfnamjkmkoldeaaGreatDoorQb
import Derived.Test.YtfnamjkmkoldeaaGreatDoorQf
import Derived.Test.YtfnamjkmkoldeaaGreatDoorQc
import Derived.BigQuiet
import Derived.Test.YtfnamjkmkoldeaaGreatDoorSs
namespace Go.Proofs.YtfnamjkmkoldeaaGreatDoor
open Go.RowKit
set_option linter.unusedVariables false
set_option linter.unusedSimpArgs false
theorem isNaN_i64c {x : Int} {w : World} : Calls Tryz.prog 179 #[.int .i64 x] w fun e w' => e = .returned (.bool false) ∧ w = w' := by
  have hx : (x != x) = false := by simp
  go_enter Tryz.func179, Tryz.ntmps179
  go_wp2
  go_ret
  exact ⟨by first | rfl | simp, rfl⟩
theorem cmp_Compare_i64 {x y : Int} {w : World} : Calls Tryz.prog 161 #[.int .i64 x, .int .i64 y] w fun e w' => e = .returned (.int .i64 (if x < y then -1 else if y < x then 1 else 0)) ∧ w = w' := by
  by_cases h1 : x < y
  · rw [if_pos h1]
    go_enter Tryz.func161, Tryz.ntmps161
    go_wp2_with fail
    refine Calls.mono (isNaN_i64c) ?_
    rintro e _ ⟨rfl, rfl⟩
    go_wp2_with fail
    refine Calls.mono (isNaN_i64c) ?_
    rintro e _ ⟨rfl, rfl⟩
    go_wp2
    go_ret
    exact ⟨rfl, rfl⟩
  · rw [if_neg h1]
    by_cases h2 : y < x
    · rw [if_pos h2]
      go_enter Tryz.func161, Tryz.ntmps161
      go_wp2_with fail
      refine Calls.mono (isNaN_i64c) ?_
      rintro e _ ⟨rfl, rfl⟩
      go_wp2_with fail
      refine Calls.mono (isNaN_i64c) ?_
      rintro e _ ⟨rfl, rfl⟩
      go_wp2
      go_ret
      exact ⟨rfl, rfl⟩
    · rw [if_neg h2]
      go_enter Tryz.func161, Tryz.ntmps161
      go_wp2_with fail
      refine Calls.mono (isNaN_i64c) ?_
      rintro e _ ⟨rfl, rfl⟩
      go_wp2_with fail
      refine Calls.mono (isNaN_i64c) ?_
      rintro e _ ⟨rfl, rfl⟩
      go_wp2
      go_ret
      exact ⟨rfl, rfl⟩
set_option maxHeartbeats 1000000 in
theorem slices_Compare_i64 {xa ya : Option Addr} {n xc yc : Nat} {x y : List Int} {w : World} (hX : Ints w xa n xc x) (hY : Ints w ya n yc y) (hn : n ≤ 1048576) :
    Calls Tryz.prog 136 #[.slice xa n xc, .slice ya n yc] w fun e w' => e = .returned (.int .i64 (cmpL x y)) ∧ w = w' := by
  have HX := Lib.hid hX
  have HY := Lib.hid hY
  clear hX hY
  go_enter Tryz.func136, Tryz.ntmps136
  go_wp2_with fail
  go_loop [11] (fun s11 => ∃ j : Nat, s11 = .int .i64 j ∧ j ≤ n ∧ Hid (x.take j = y.take j)) (fun s11 => n - (intOf s11).toNat)
  case atStart => exact ⟨0, rfl, by omega, Lib.hid rfl⟩
  case round =>
    obtain ⟨j, rfl, hj, A⟩ := hrel
    by_cases hlt : j < n
    · have hlt' : (j : Int) < (n : Int) := by omega
      have hge : ¬ (n : Int) ≤ (j : Int) := by omega
      have hj0 : (0 : Int) ≤ (j : Int) := by omega
      obtain ⟨b1, o1, u, rfl, hb1, hu, hc1, huw⟩ := HX.out.at hlt
      obtain ⟨b2, o2, v, rfl, hb2, hv, hc2, hvw⟩ := HY.out.at hlt
      have HU := Lib.hid hu
      have HV := Lib.hid hv
      have KC := cmp_Compare_i64 (x := u) (y := v) (w := w)
      clear hu hv
      by_cases h1 : u < v
      · have HQ := Lib.hid (cmpL_lt A.out HU.out HV.out h1)
        rw [if_pos h1] at KC
        go_wp2_with fail
        refine Calls.mono KC ?_
        rintro e _ ⟨rfl, rfl⟩
        go_wp2
        go_ret
        exact ⟨ret_int HQ.out.symm, rfl⟩
      · rw [if_neg h1] at KC
        by_cases h2 : v < u
        · have HQ := Lib.hid (cmpL_gt A.out HU.out HV.out h2)
          rw [if_pos h2] at KC
          go_wp2_with fail
          refine Calls.mono KC ?_
          rintro e _ ⟨rfl, rfl⟩
          go_wp2
          go_ret
          exact ⟨ret_int HQ.out.symm, rfl⟩
        · have HQ := Lib.hid (take_eq_step A.out HU.out (show y[j]? = some u by rw [HV.out]; congr 1; omega))
          rw [if_neg h2] at KC
          go_wp2_with fail
          refine Calls.mono KC ?_
          rintro e _ ⟨rfl, rfl⟩
          go_wp2
          go_round
          case rel => exact ⟨j + 1, by go_num, by omega, HQ⟩
          case measure => simp [intOf]; omega
    · obtain rfl : n = j := by omega
      have hlt' : ¬ (n : Int) < (n : Int) := by omega
      have HQ := Lib.hid (cmpL_done A.out (by rw [HX.out.len]; exact Nat.le_refl _) (by rw [HY.out.len]; exact Nat.le_refl _))
      go_wp2
      go_ret
      exact ⟨ret_int HQ.out.symm, rfl⟩
set_option maxHeartbeats 1000000 in
theorem slices_Equal_i64 {xa ya : Option Addr} {n xc yc : Nat} {x y : List Int} {w : World} (hX : Ints w xa n xc x) (hY : Ints w ya n yc y) (hn : n ≤ 1048576) :
    Calls Tryz.prog 138 #[.slice xa n xc, .slice ya n yc] w fun e w' => e = .returned (.bool (x == y)) ∧ Below w.heap.size w w' := by
  have HX := Lib.hid hX
  have HY := Lib.hid hY
  have hd : ((n : Int) != (n : Int)) = false := by simp
  clear hX hY
  go_enter Tryz.func138, Tryz.ntmps138
  go_wp2_with fail
  go_loopw [13] (fun s13 wr => ∃ j : Nat, s13 = .int .i64 j ∧ j ≤ n ∧ Below w.heap.size w wr ∧ Hid (x.take j = y.take j)) (fun s13 _ => n - (intOf s13).toNat)
  case atStart => exact ⟨0, rfl, by omega, Below.refl _ _, Lib.hid rfl⟩
  case round =>
    obtain ⟨j, rfl, hj, hbl, A⟩ := hrel
    by_cases hlt : j < n
    · have hlt' : (j : Int) < (n : Int) := by omega
      have hj0 : (0 : Int) ≤ (j : Int) := by omega
      obtain ⟨b1, o1, u, rfl, hb1, hu, hc1, huw⟩ := (HX.out.keep hbl).at hlt
      obtain ⟨b2, o2, v, rfl, hb2, hv, hc2, hvw⟩ := (HY.out.keep hbl).at hlt
      have HU := Lib.hid hu
      have HV := Lib.hid hv
      clear hu hv
      by_cases h1 : u = v
      · subst h1
        have hd2 : (u != u) = false := by simp
        have HQ := Lib.hid (take_eq_step A.out HU.out HV.out)
        go_wp2
        go_quiet (fail)
        go_wp2
        go_roundw
        case rel => exact ⟨j + 1, by go_num, by omega, by repeat (first | exact Below.refl _ _ | assumption | refine below_allocS ?_ _ | refine below_callS ?_ (by assumption) | (refine Below.alloc ?_ (by first | omega | (simp; done) | (simp; omega)) _) | (refine Below.setCell ?_ (by first | omega | (simp; done) | (simp; omega)) _) | refine Below.drew ?_ | refine below_drewN ?_ _ | (refine below_call ?_ (by assumption) (by first | omega | (simp; done) | (simp; omega))) | (refine Below.trans ?_ (by assumption))), HQ⟩
        case measure => simp [intOf]; omega
      · have hd2 : (u != v) = true := by simpa using h1
        have HQ := Lib.hid (show (x == y) = false by
          rw [beq_eq_false_iff_ne]
          rintro rfl
          have := HU.out
          rw [HV.out] at this
          exact h1 (by simpa using this.symm))
        go_wp2
        go_quiet (fail)
        go_wp2
        go_ret
        exact ⟨ret_bool HQ.out.symm, by repeat (first | exact Below.refl _ _ | assumption | refine below_allocS ?_ _ | refine below_callS ?_ (by assumption) | (refine Below.alloc ?_ (by first | omega | (simp; done) | (simp; omega)) _) | (refine Below.setCell ?_ (by first | omega | (simp; done) | (simp; omega)) _) | refine Below.drew ?_ | refine below_drewN ?_ _ | (refine below_call ?_ (by assumption) (by first | omega | (simp; done) | (simp; omega))) | (refine Below.trans ?_ (by assumption)))⟩
    · obtain rfl : n = j := by omega
      have hlt' : ¬ (n : Int) < (n : Int) := by omega
      have HQ := Lib.hid (show (x == y) = true by
        have h := A.out
        rw [List.take_of_length_le (by rw [HX.out.len]; exact Nat.le_refl _), List.take_of_length_le (by rw [HY.out.len]; exact Nat.le_refl _)] at h
        simpa using h)
      go_wp2
      go_ret
      exact ⟨ret_bool HQ.out.symm, hbl⟩
end Go.Proofs.YtfnamjkmkoldeaaGreatDoor
namespace Go.Proofs.YtfnamjkmkoldeaaGreatDoor
open Go.RowKit
set_option linter.unusedVariables false
set_option linter.unusedSimpArgs false
open Go.Shelf Go.Lib Go.Sort in
theorem grownBy_sortWorld {α : Type} [Inhabited α] (enc : α → Value) (w : World) (blk off n : Nat) (d : Array α) (os : Array Obj) : w.grownBy (sortWorld enc w blk off n d os) (some blk) := by
  refine ⟨rfl, rfl, rfl, ?_, fun k hk hne => ?_⟩
  · simp [sortWorld, grow, putRow, mapBlock, ahead]
  · have hkb : blk ≠ k := fun e => hne (by rw [e])
    simp only [sortWorld, grow, putRow, mapBlock, ahead]
    rw [Array.getElem?_append_left (by simpa using hk), Array.getElem?_modify, if_neg hkb]
    rfl
/-- a state that lies in another block than the row -/
abbrev Item (w : World) (blk m : Nat) : Type := {x : QM × List Int // Ints w x.1.a m x.1.c x.2 ∧ x.2.length = m ∧ ∀ g off, x.1.a = some ⟨g, off, none⟩ → g ≠ blk}
def encI9 {w : World} {blk m : Nat} (x : Item w blk m) : Value := .slice x.1.1.a m x.1.1.c
def cmpI9 {w : World} {blk m : Nat} (x y : Item w blk m) : Int := cmpL x.1.2 y.1.2
open Go.Shelf Go.Lib Go.Sort in
theorem swo9 {w : World} {blk m : Nat} : SWO (ltOf (cmpI9 (w := w) (blk := blk) (m := m))) := by
  refine ⟨fun x => ?_, fun x y z h1 h2 => ?_, fun x y z h1 h2 => ?_⟩
  · exact decide_eq_false (by rw [cmpI9, cmpL_self]; omega)
  · have h1 := of_decide_eq_true h1
    have h2 := of_decide_eq_true h2
    exact decide_eq_true (cmpL_trans (by rw [x.2.2.1, y.2.2.1]) (by rw [y.2.2.1, z.2.2.1]) h1 h2)
  · have h1 := of_decide_eq_false h1
    have h2 := of_decide_eq_false h2
    rw [cmpI9] at h1 h2
    refine decide_eq_false fun h3 => ?_
    rw [cmpI9] at h3
    have a1 := cmpL_anti x.1.2 y.1.2
    rcases cmpL_range y.1.2 x.1.2 with h | h | h
    · have := cmpL_trans (by rw [y.2.2.1, x.2.2.1]) (by rw [x.2.2.1, z.2.2.1]) (show cmpL y.1.2 x.1.2 < 0 by omega) h3
      omega
    · have e := cmpL_eq (by rw [y.2.2.1, x.2.2.1]) h
      rw [← e] at h3; omega
    · omega
theorem Ints.keepG {w w' : World} {blk : Nat} {a : Option Addr} {n c : Nat} {l : List Int} (h : Ints w a n c l) (hg : w.grownBy w' (some blk)) (hb : ∀ g off, a = some ⟨g, off, none⟩ → g ≠ blk) : Ints w' a n c l := by
  refine ⟨h.len, h.cap, ?_, h.wf, h.nil⟩
  rcases h.pos with h0 | ⟨b, off, ha, hlt, hc⟩
  · exact .inl h0
  · refine .inr ⟨b, off, ha, Nat.lt_of_lt_of_le hlt hg.size, fun i x hx => ?_⟩
    rw [World.cell?_of_block (a := ⟨b, off + i, none⟩) (hg.block b hlt (fun e => hb b off ha (by cases e; rfl)))]
    exact hc i x hx
open Go.Shelf Go.Lib Go.Sort in
theorem cmpReads9 {w : World} {blk off m size : Nat} [Inhabited (Item w blk m)] (hm : m ≤ 1048576) : CmpReads Tryz.prog 136 #[] (encI9 (w := w) (blk := blk) (m := m)) cmpI9 blk off size w := fun k os dk hs x y => by
  have hg := grownBy_sortWorld encI9 w blk off k dk os
  have h := slices_Compare_i64 (x.2.1.keepG hg x.2.2.2) (y.2.1.keepG hg y.2.2.2) hm
  rw [Array.append_empty]
  exact Calls.mono h fun e w' ⟨h1, h2⟩ => ⟨h1, 0, h2.symm⟩
set_option maxHeartbeats 2000000 in
theorem slices_CompactFunc_S {m n c : Nat} {a : Option Addr} {l : List (QM × List Int)} {w : World} (hF : Flats 1 encS (fun x => Ints w x.1.a m x.1.c x.2 ∧ x.1.n = m) w a n c l) (hn : n ≤ 1048576) (hm : m ≤ 1048576) (hd : ∀ (i : Nat) (x y : QM × List Int), l[i]? = some x → l[i + 1]? = some y → x.2 ≠ y.2) :
    Calls Tryz.prog 137 #[.slice a n c, .func (.func 138) #[] #[]] w fun e w' => e = .returned (.slice a n c) ∧ Below w.heap.size w w' := by
  have HF := Lib.hid hF
  have HD := Lib.hid hd
  clear hF hd
  by_cases h2 : n < 2
  · have h2' : (n : Int) < 2 := by omega
    go_enter Tryz.func137, Tryz.ntmps137
    go_wp2
    go_ret
    exact ⟨rfl, Below.refl _ _⟩
  · have h2' : ¬ (n : Int) < 2 := by omega
    go_enter Tryz.func137, Tryz.ntmps137
    go_wp2_with fail
    go_loopw [5] (fun s5 wr => ∃ j : Nat, s5 = .int .i64 j ∧ 1 ≤ j ∧ j ≤ n ∧ Hid (Below w.heap.size w wr)) (fun s5 _ => n - (intOf s5).toNat)
    case atStart => exact ⟨1, rfl, by omega, by omega, Lib.hid (Below.refl _ _)⟩
    case round =>
      obtain ⟨j, rfl, hj1, hj, HB⟩ := hrel
      by_cases hlt : j < n
      · obtain ⟨k, rfl⟩ : ∃ k, j = k + 1 := ⟨j - 1, by omega⟩
        have hlt' : ((k : Int) + 1) < (n : Int) := by omega
        have hk0 : (0 : Int) ≤ (k : Int) := by omega
        have hk1 : (0 : Int) ≤ (k : Int) + 1 := by omega
        have hkn : (k : Int) < (n : Int) := by omega
        have hw1 : IntKind.i64.wrap (k : Int) = (k : Int) := IntWalk.i64_in _ (by omega)
        obtain ⟨b, off, x, rfl, hb, hx, hxo, hxc⟩ := (HF.out.keep HB.out).at hlt
        obtain ⟨b', off', y, he, _, hy, hyo, hyc⟩ := (HF.out.keep HB.out).at (show k < n by omega)
        simp only [Option.some.injEq, Addr.mk.injEq, and_true] at he
        obtain ⟨rfl, rfl⟩ := he
        have c1 := hxc 0 _ rfl
        have c0 := hyc 0 _ rfl
        obtain ⟨⟨xa, xn, xc⟩, xv⟩ := x
        obtain ⟨⟨ya, yn, yc⟩, yv⟩ := y
        obtain ⟨hxi, hxn⟩ := hxo
        obtain ⟨hyi, hyn⟩ := hyo
        simp only at hxi hxn hyi hyn
        subst hxn hyn
        have hne := HD.out k _ _ hy hx
        simp only at hne
        have hb0 := HB.out
        have HXI := Lib.hid (hxi.keep hb0)
        have HYI := Lib.hid (hyi.keep hb0)
        have KE := Lib.hid (fun (wx : World) (hb : Below wr.heap.size wr wx) => (show Calls Tryz.prog 138 #[.slice xa yn xc, .slice ya yn yc] wx (fun e w' => e = .returned (.bool false) ∧ Below wx.heap.size wx w') by
          have h := slices_Equal_i64 (HXI.out.keep hb) (HYI.out.keep hb) hm
          rw [show (xv == yv) = false by rw [beq_eq_false_iff_ne]; exact fun e => hne e.symm] at h
          exact h))
        have hbr : Below wr.heap.size wr wr := Below.refl _ _
        simp only [Nat.mul_one, Nat.add_zero] at c0 c1
        clear hx hy hxc hyc hxi hyi hne hb0
        go_wp2_with fail
        go_region_held3 (fun wx => wx.cell? ⟨b, off + (k + 1), none⟩ = some (.slice xa yn xc) ∧ wx.cell? ⟨b, off + k, none⟩ = some (.slice ya yn yc) ∧ b < wx.heap.size ∧ Below wr.heap.size wr wx) (((try go_split_ands); (repeat' apply And.intro) <;> first | (with_reducible assumption) | (with_reducible exact cell_drew (by with_reducible assumption)) | (with_reducible exact lt_drew (by with_reducible assumption)) | (with_reducible exact Below.drew (by with_reducible assumption)) | (with_reducible exact (hcx _ _ (by with_reducible assumption)).trans (by with_reducible assumption)) | (with_reducible exact Nat.lt_of_lt_of_le (by with_reducible assumption) hsx) | (with_reducible exact below_callS (by with_reducible assumption) hbx) | omega)) (first | (go_at_call 138; go_split_ands; refine Calls.mono (KE.out _ (by assumption)) ?_; rintro e w6 ⟨rfl, hbx⟩; obtain ⟨hcx, hfx⟩ := bcell hbx; have hsx := hbx.size))
        have hb7 : Below wr.heap.size wr w6 := by go_split_ands; assumption
        have HB7 := Lib.hid (below_call HB.out hb7 HB.out.size)
        clear hb7 hbx hcx hfx hsx hbr KE c0 c1
        go_split_ands
        go_wp2_with fail
        go_roundw
        case rel => exact ⟨k + 2, by go_num, by omega, by omega, HB7⟩
        case measure => simp [intOf]; omega
      · obtain rfl : n = j := by omega
        have hlt' : ¬ (n : Int) < (n : Int) := by omega
        go_wp2
        go_ret
        exact ⟨rfl, HB.out⟩
end Go.Proofs.YtfnamjkmkoldeaaGreatDoor
