/- Slices of terms: comparisons and marks of the exact laws, walked. -/
import Derived.Test.YtjneodmohkpckaaGreatDoorTk
import Derived.Test.YtjneodmohkpckaaGreatDoorEc
namespace Go.Proofs.YtjneodmohkpckaaGreatDoor
open Go.RowKit
set_option linter.unusedVariables false
set_option linter.unusedSimpArgs false
abbrev FM := Flats 3 TM.enc TM.ok
abbrev OwnTmK := OwnF 3 TM.enc TM.ok 55
theorem FM.get {w : World} {a : Option Addr} {n c : Nat} {l : List TM} (h : FM w a n c l) {i : Nat} (hi : i < n) :
    ∃ b off x, a = some ⟨b, off, none⟩ ∧ b < w.heap.size ∧ l[i]? = some x ∧ x.ok ∧ w.cell? ⟨b, off + i * 3, none⟩ = some (.int .i64 x.k) ∧ w.cell? ⟨b, off + i * 3 + 1, none⟩ = some (.string x.nm) ∧ w.cell? ⟨b, off + i * 3 + 2, none⟩ = some (.int .i64 x.n) := by
  obtain ⟨b, off, x, h1, h2, h3, h4, h5⟩ := h.at hi
  exact ⟨b, off, x, h1, h2, h3, h4, h5 0 _ rfl, h5 1 _ rfl, h5 2 _ rfl⟩
/-- the marks that the exact laws write into terms -/
def marksM (q : Int) (n : Nat) : List TM := (List.range n).map fun (i : Nat) => ⟨q + 3 * (i : Int), markT (q + 3 * (i : Int) + 1), q + 3 * (i : Int) + 2⟩
theorem marksM_get {q : Int} {n k : Nat} (h : k < n) : (marksM q n)[k]? = some ⟨q + 3 * (k : Int), markT (q + 3 * (k : Int) + 1), q + 3 * (k : Int) + 2⟩ := by
  rw [marksM, List.getElem?_map, List.getElem?_range h]; rfl
theorem marksM_mix {q : Int} {n j : Nat} {l : List TM} (h : j < n) (hl : l.length = n) (y : TM) : (((marksM q n).take j ++ l.drop j).set j y).set j ⟨q + 3 * (j : Int), markT (q + 3 * (j : Int) + 1), q + 3 * (j : Int) + 2⟩ = (marksM q n).take (j + 1) ++ l.drop (j + 1) := by
  have h1 : ((marksM q n).take j).length = j := by simp [marksM]; omega
  rw [List.set_set, take_at (marksM_get h), List.set_append_right _ _ (by omega), h1, Nat.sub_self, List.drop_eq_getElem_cons (by omega : j < l.length), List.set_cons_zero, List.append_assoc]
  rfl
theorem laws_eqTerm {x : TM} {w : World} : Calls Tryz.prog 175 #[.agg #[.int .i64 x.k, .string x.nm, .int .i64 x.n], .agg #[.int .i64 x.k, .string x.nm, .int .i64 x.n]] w fun e w' => e = .returned (.bool true) ∧ Below w.heap.size w w' := by
  have hq : (x.nm.toList != x.nm.toList) = false := by simp
  have hq2 : (x.k != x.k) = false := by simp
  have hq3 : (x.n != x.n) = false := by simp
  go_enter Tryz.func175, Tryz.ntmps175
  go_wp2
  go_ret
  exact ⟨rfl, bel⟩
set_option maxHeartbeats 2000000 in
theorem laws_eqTermS {a a' : Option Addr} {n c n' c' : Nat} {l : List TM} {w : World} (hI : FM w a n c l) (hI' : FM w a' n' c' l) (hn : n ≤ 1048576) :
    Calls Tryz.prog 158 #[.slice a n c, .slice a' n' c'] w fun e w' => e = .returned (.bool true) ∧ Below w.heap.size w w' := by
  obtain rfl : n = n' := by have := hI.len; have := hI'.len; omega
  have HI := Lib.hid hI
  have HI' := Lib.hid hI'
  clear hI hI'
  go_enter Tryz.func158, Tryz.ntmps158
  go_wp2
  go_loopw [5] (fun i wr => ∃ k : Nat, k ≤ n ∧ i = .int .i64 k ∧ Below w.heap.size w wr) (fun i _ => n - (intOf i).toNat)
  case atStart => exact ⟨0, Nat.zero_le _, rfl, Below.refl _ _⟩
  case round =>
    obtain ⟨k, hk, rfl, hbl⟩ := hrel
    by_cases hlt : k < n
    · obtain ⟨b, off, x, rfl, hb, hx, hwf, hc0, hc1, hc2⟩ := FM.get (HI.out.keep hbl) hlt
      obtain ⟨b', off', x', rfl, hb', hx', _, hc0', hc1', hc2'⟩ := FM.get (HI'.out.keep hbl) hlt
      obtain rfl : x = x' := by rw [hx] at hx'; simpa using hx'
      clear hx hx'
      have hlt' : (k : Int) < (n : Int) := by omega
      have hpos : (0 : Int) ≤ (k : Int) := by omega
      go_wp2
      go_region_held3 (fun wx => (wx.cell? ⟨b, off + k * 3, none⟩ = some (.int .i64 x.k) ∧ wx.cell? ⟨b, off + k * 3 + 1, none⟩ = some (.string x.nm) ∧ wx.cell? ⟨b, off + k * 3 + 2, none⟩ = some (.int .i64 x.n)) ∧ (wx.cell? ⟨b', off' + k * 3, none⟩ = some (.int .i64 x.k) ∧ wx.cell? ⟨b', off' + k * 3 + 1, none⟩ = some (.string x.nm) ∧ wx.cell? ⟨b', off' + k * 3 + 2, none⟩ = some (.int .i64 x.n)) ∧ b < wx.heap.size ∧ b' < wx.heap.size ∧ Below w.heap.size w wx) (((try go_split_ands); (repeat' apply And.intro) <;> first | assumption | exact Blk.keep (by assumption) hbx | exact Blk.drew (by assumption) | exact Blk.drew (Blk.made _ _ _) | exact Below.drew (by assumption) | exact Below.drew (below_allocS (by first | exact Below.refl _ _ | assumption) _) | exact below_callS (by assumption) hbx | exact below_call (by assumption) hbx (Below.size (by assumption)) | exact (hcx _ _ (by assumption)).trans (by assumption) | omega | (simp [*]; done) | (simp; omega))) (first | (go_at_call 175; refine Calls.mono (laws_eqTerm (x := x)) ?_; rintro e wx2 ⟨rfl, hbx⟩; obtain ⟨hcx, hfx⟩ := bcell hbx; have hsx := hbx.size))
      go_split_ands
      go_wp2
      go_roundw
      case rel => exact ⟨k + 1, by omega, by go_num, by assumption⟩
      case measure => simp [intOf]; omega
    · go_wp2
      go_ret
      exact ⟨rfl, hbl⟩
set_option maxHeartbeats 2000000 in
theorem laws_markTermS {a : Option Addr} {n c base : Nat} {l : List TM} {q : Int} {w : World} (hI : OwnTmK w base a n c l) (hn : n ≤ 1048576) (hq0 : 0 ≤ q) (hq1 : q ≤ 1048576) :
    Calls Tryz.prog 128 #[.slice a n c, .int .i64 q] w fun e w' => e = .returned (.int .i64 (q + 3 * n)) ∧ Touch w w' n a ∧ OwnTmK w' base a n c (marksM q n) := by
  by_cases hn0 : n = 0
  · subst hn0
    have HI := Lib.hid hI
    have hl : l = marksM q 0 := by have := hI.len; cases l with | nil => rfl | cons => simp at this
    subst hl
    clear hI
    go_enter Tryz.func128, Tryz.ntmps128
    go_wp2
    go_loopw [1, 5] (fun s1 s5 wr => s1 = .int .i64 q ∧ s5 = .int .i64 0 ∧ wr = w) (fun _ _ _ => 0)
    case atStart => exact ⟨rfl, rfl, rfl⟩
    case round =>
      obtain ⟨rfl, rfl, rfl⟩ := hrel
      go_wp2
      go_ret
      exact ⟨ret_int (by omega), ⟨none, grownBy_refl _ _, fun _ h => by cases h⟩, HI.out⟩
  · obtain ⟨g, rfl⟩ := hI.shape (by omega)
    have HI := Lib.hid (show OwnTmK w base (some ⟨g, 0, none⟩) n c ((marksM q n).take 0 ++ l.drop 0) by simpa using hI)
    have hlen := hI.len
    have Hlen := Lib.hid hlen
    clear hI hlen
    go_enter Tryz.func128, Tryz.ntmps128
    go_wp2
    go_loopw [1, 5] (fun s1 s5 wr => ∃ j : Nat, j ≤ n ∧ s1 = .int .i64 (q + 3 * j) ∧ s5 = .int .i64 j ∧ w.grownBy wr (some g) ∧ Hid (OwnTmK wr base (some ⟨g, 0, none⟩) n c ((marksM q n).take j ++ l.drop j))) (fun _ s5 _ => n - (intOf s5).toNat)
    case atStart => exact ⟨0, Nat.zero_le _, by simp, rfl, grownBy_refl _ _, HI.out⟩
    case round =>
      obtain ⟨j, hj, rfl, rfl, hg, hO⟩ := hrel
      have hsz := hg.size
      by_cases hlt : j < n
      · obtain ⟨_, _, y, h1, hbz, hy, hok, hc0, hc1, hc2⟩ := FM.get hO.out.flats hlt
        simp only [Option.some.injEq, Addr.mk.injEq, and_true] at h1
        obtain ⟨rfl, rfl⟩ := h1
        simp only [Nat.zero_add] at hc0 hc1 hc2
        have hfz := hO.out.free
        have KM := Lib.hid (fun (wx : World) => laws_markText (k := q + 3 * (j : Int) + 1) (w := wx) (by omega) (by omega))
        have HM := Lib.hid (markT_size (k := q + 3 * (j : Int) + 1) (by omega))
        obtain ⟨S, hS⟩ : ∃ S, S = markT (q + 3 * (j : Int) + 1) := ⟨_, rfl⟩
        rw [← hS] at KM HM
        have HS := Lib.hid hS
        clear hS
        go_wp2_with fail
        have HY := Lib.hid hy
        have HOa := Lib.hid (hO.out.setj (j := 0) (p := j * 3) (x := ⟨q + 3 * (j : Int), y.nm, y.n⟩) hy (by decide) (by omega) rfl ⟨show I64 (q + 3 * (j : Int)) by (unfold I64; omega), hok.2⟩)
        have HL := Lib.hid hO.out.len
        have HOK := Lib.hid hok
        clear hy hok
        refine Calls.mono (KM.out _) ?_
        rintro e w1 ⟨rfl, hb1⟩
        have hs1 := hb1.size
        (try simp at hs1)
        have HOb := Lib.hid (HOa.out.keep hb1)
        have HG := Lib.hid (grownBy_trans (grownBy_set hg (j * 3) (.int .i64 (q + 3 * j))) (grownBy_below hb1 (some g)))
        obtain ⟨_, _, y2, h2, hbz2, hy2, _, hd0, hd1, hd2⟩ := FM.get HOb.out.flats hlt
        simp only [Option.some.injEq, Addr.mk.injEq, and_true] at h2
        obtain ⟨rfl, rfl⟩ := h2
        simp only [Nat.zero_add] at hd0 hd1 hd2
        have hfz2 := HOb.out.free
        have HY2 := Lib.hid hy2
        have eM : IntKind.i64.wrap (q + 3 * (j : Int) + 1 + 1) = q + 3 * (j : Int) + 2 := by rw [IntWalk.i64_in _ (by omega)]; omega
        clear hc0 hc1 hc2 hfz hb1 hg hbz hy2
        go_wp2_with fail
        go_roundw
        case rel =>
          refine ⟨j + 1, by omega, by go_num, by go_num, grownBy_set (grownBy_set HG.out _ _) _ _, Lib.hid ?_⟩
          have hy2 : y2 = ⟨q + 3 * (j : Int), y.nm, y.n⟩ := by
            have h4 := HY2.out
            rw [List.getElem?_set_self (by rw [HL.out]; exact hlt)] at h4
            cases h4; rfl
          have hmz : S.size ≤ maxLen := by have := HM.out; unfold maxLen; omega
          have h3 := HOb.out.setj (j := 1) (p := j * 3 + 1) (v := .string S) (x := ⟨q + 3 * (j : Int), S, y.n⟩) HY2.out (by decide) rfl (by rw [hy2]; rfl) ⟨show I64 (q + 3 * (j : Int)) by (unfold I64; omega), hmz, HOK.out.2.2⟩
          have hz : (((marksM q n).take j ++ l.drop j).set j ⟨q + 3 * (j : Int), y.nm, y.n⟩).length = n := by rw [List.length_set]; exact HL.out
          have h5 := h3.setj (i := j) (j := 2) (p := j * 3 + 2) (v := .int .i64 (q + 3 * (j : Int) + 2)) (x := ⟨q + 3 * (j : Int), S, q + 3 * (j : Int) + 2⟩) (y := ⟨q + 3 * (j : Int), S, y.n⟩) (List.getElem?_set_self (by rw [hz]; exact hlt)) (by decide) rfl rfl ⟨show I64 (q + 3 * (j : Int)) by (unfold I64; omega), hmz, show I64 (q + 3 * (j : Int) + 2) by (unfold I64; omega)⟩
          have e := marksM_mix (q := q) hlt Hlen.out ⟨q + 3 * (j : Int), y.nm, y.n⟩
          rw [← HS.out] at e
          rw [List.set_set, e] at h5
          have e2 : q + 3 * (j : Int) + 1 + 1 = q + 3 * (j : Int) + 2 := by omega
          simpa [e2] using h5
        case measure => simp [intOf]; omega
      · go_wp2
        go_ret
        have e : j = n := by omega
        have h1 := hO.out
        rw [e, List.drop_of_length_le (by have := Hlen.out; omega), List.append_nil, List.take_of_length_le (by simp [marksM])] at h1
        exact ⟨ret_int (by rw [e]), ⟨_, hg, fun b hb => by cases hb; exact ⟨by omega, rfl⟩⟩, h1⟩
set_option maxHeartbeats 2000000 in
theorem laws_heldTermS {a : Option Addr} {n c : Nat} {q : Int} {w : World} (hI : FM w a n c (marksM q n)) (hn : n ≤ 1048576) (hq0 : 0 ≤ q) (hq1 : q ≤ 1048576) :
    Calls Tryz.prog 129 #[.slice a n c, .int .i64 q] w fun e w' => e = .returned (.int .i64 (q + 3 * n)) ∧ Below w.heap.size w w' := by
  have HI := Lib.hid hI
  clear hI
  go_enter Tryz.func129, Tryz.ntmps129
  go_wp2
  go_loopw [1, 5] (fun s1 s5 wr => ∃ j : Nat, j ≤ n ∧ s1 = .int .i64 (q + 3 * j) ∧ s5 = .int .i64 j ∧ Below w.heap.size w wr) (fun _ s5 _ => n - (intOf s5).toNat)
  case atStart => exact ⟨0, Nat.zero_le _, by simp, rfl, Below.refl _ _⟩
  case round =>
    obtain ⟨j, hj, rfl, rfl, hbl⟩ := hrel
    have hsz := hbl.size
    by_cases hlt : j < n
    · obtain ⟨b, off, x, rfl, hb, hx, hwf, hc0, hc1, hc2⟩ := FM.get (HI.out.keep hbl) hlt
      rw [marksM_get hlt] at hx
      simp only [Option.some.injEq] at hx
      subst hx
      simp only at hc0 hc1 hc2
      have KM := Lib.hid (fun (wx : World) => laws_markText (k := q + 3 * (j : Int) + 1) (w := wx) (by omega) (by omega))
      generalize markT (q + 3 * (j : Int) + 1) = S at *
      have hq : (S.toList != S.toList) = false := by simp
      go_wp2_with fail
      go_region_held3 (fun wx => wx.cell? ⟨b, off + j * 3 + 1, none⟩ = some (.string S) ∧ wx.cell? ⟨b, off + j * 3 + 2, none⟩ = some (.int .i64 (q + 3 * (j : Int) + 2)) ∧ b < wx.heap.size ∧ Below w.heap.size w wx) (((try go_split_ands); (repeat' apply And.intro) <;> first | assumption | exact Below.drew (Below.refl _ _) | exact Blk.keep (by assumption) hbx | exact Blk.drew (by assumption) | exact Blk.drew (Blk.made _ _ _) | exact Below.drew (by assumption) | exact Below.drew (below_allocS (by first | exact Below.refl _ _ | assumption) _) | exact below_callS (by assumption) hbx | exact below_call (by assumption) hbx (Below.size (by assumption)) | exact (hcx _ _ (by assumption)).trans (by assumption) | omega | (simp [*]; done) | (simp; omega))) (first | (go_at_call 127; refine Calls.mono (KM.out _) ?_; rintro e wx2 ⟨rfl, hbx⟩; obtain ⟨hcx, hfx⟩ := bcell hbx; have hsx := hbx.size))
      go_split_ands
      go_wp2
      go_roundw
      case rel => exact ⟨j + 1, by omega, by go_num, by go_num, by assumption⟩
      case measure => simp [intOf]; omega
    · go_wp2
      go_ret
      have e : j = n := by omega
      exact ⟨ret_int (by rw [e]), hbl⟩
end Go.Proofs.YtjneodmohkpckaaGreatDoor
