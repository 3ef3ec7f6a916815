/- Slices of tokens: comparisons and marks of the exact laws, walked. -/
import Derived.Test.YtfhogleillgcgaaDoorT12u
import Derived.Test.YtfhogleillgcgaaDoorMt
namespace Go.Proofs.YtfhogleillgcgaaDoor
open Go.RowKit
set_option linter.unusedVariables false
set_option linter.unusedSimpArgs false
theorem FT.get {w : World} {a : Option Addr} {n c : Nat} {l : List TR} (h : FT w a n c l) {i : Nat} (hi : i < n) :
    ∃ b off x, a = some ⟨b, off, none⟩ ∧ b < w.heap.size ∧ l[i]? = some x ∧ x.ok ∧ w.cell? ⟨b, off + i * 2, none⟩ = some (.int .i64 x.k) ∧ w.cell? ⟨b, off + i * 2 + 1, none⟩ = some (.string x.t) := by
  obtain ⟨b, off, x, h1, h2, h3, h4, h5⟩ := h.at hi
  exact ⟨b, off, x, h1, h2, h3, h4, h5 0 _ rfl, h5 1 _ rfl⟩
/-- the marks that the exact laws write into tokens -/
def marksT (q : Int) (n : Nat) : List TR := (List.range n).map fun (i : Nat) => ⟨q + 2 * (i : Int), markT (q + 2 * (i : Int) + 1)⟩
theorem marksT_get {q : Int} {n k : Nat} (h : k < n) : (marksT q n)[k]? = some ⟨q + 2 * (k : Int), markT (q + 2 * (k : Int) + 1)⟩ := by
  rw [marksT, List.getElem?_map, List.getElem?_range h]; rfl
/-- one cell of one record is written -/
theorem OwnF.setj {α : Type} {k : Nat} {enc : α → List Value} {ok : α → Prop} {E : TypeId} {w : World} {base g : Nat} {n c : Nat} {l : List α} (h : OwnF k enc ok E w base (some ⟨g, 0, none⟩) n c l) {i j p : Nat} {x y : α} {v : Value} (hy : l[i]? = some y) (hj : j < k) (hp : p = i * k + j) (he : enc x = (enc y).set j v) (hx : ok x) :
    OwnF k enc ok E (w.setCell ⟨g, p, none⟩ v) base (some ⟨g, 0, none⟩) n c (l.set i x) := by
  subst hp
  obtain ⟨h1, h2, h3, h4⟩ := h
  have hi : i < l.length := (List.getElem?_eq_some_iff.1 hy).1
  refine ⟨?_, fun z hz => ?_, by simpa using h3, h4⟩
  · obtain ⟨e1, e2, e3⟩ := flat_set h4 hi x y hy
    have e : (l.flatMap enc).set (i * k + j) v = (l.set i x).flatMap enc := by
      rw [e1, e2, List.set_append_right _ _ (by omega), e3, Nat.add_sub_cancel_left, List.set_append_left _ _ (by rw [h4]; exact hj), he]
    rw [← e]
    exact (h1.stored (i * k + j) v).1
  · rcases List.mem_or_eq_of_mem_set hz with h | h
    · exact h2 z h
    · rw [h]; exact hx
theorem marksT_mix {q : Int} {n j : Nat} {l : List TR} (h : j < n) (hl : l.length = n) (y : TR) : (((marksT q n).take j ++ l.drop j).set j y).set j ⟨q + 2 * (j : Int), markT (q + 2 * (j : Int) + 1)⟩ = (marksT q n).take (j + 1) ++ l.drop (j + 1) := by
  have h1 : ((marksT q n).take j).length = j := by simp [marksT]; omega
  rw [List.set_set, take_at (marksT_get h), List.set_append_right _ _ (by omega), h1, Nat.sub_self, List.drop_eq_getElem_cons (by omega : j < l.length), List.set_cons_zero, List.append_assoc]
  rfl
theorem laws_eqToken {x : TR} {w : World} : Calls Tryd.prog 68 #[.agg #[.int .i64 x.k, .string x.t], .agg #[.int .i64 x.k, .string x.t]] w fun e w' => e = .returned (.bool true) ∧ Below w.heap.size w w' := by
  have hq : (x.t.toList != x.t.toList) = false := by simp
  go_enter Tryd.func68, Tryd.ntmps68
  go_wp2
  go_ret
  exact ⟨rfl, by repeat (first | exact Below.refl _ _ | assumption | refine below_allocS ?_ _ | refine below_callS ?_ (by assumption) | (refine Below.alloc ?_ (by first | omega | (simp; done) | (simp; omega)) _) | (refine Below.setCell ?_ (by first | omega | (simp; done) | (simp; omega)) _) | refine Below.drew ?_ | refine below_drewN ?_ _ | (refine below_call ?_ (by assumption) (by first | omega | (simp; done) | (simp; omega))) | (refine Below.trans ?_ (by assumption)))⟩
set_option maxHeartbeats 2000000 in
theorem laws_eqTokenS {a a' : Option Addr} {n c n' c' : Nat} {l : List TR} {w : World} (hI : FT w a n c l) (hI' : FT w a' n' c' l) (hn : n ≤ 1048576) :
    Calls Tryd.prog 35 #[.slice a n c, .slice a' n' c'] w fun e w' => e = .returned (.bool true) ∧ Below w.heap.size w w' := by
  obtain rfl : n = n' := by have := hI.len; have := hI'.len; omega
  have HI := Lib.hid hI
  have HI' := Lib.hid hI'
  clear hI hI'
  go_enter Tryd.func35, Tryd.ntmps35
  go_wp2
  go_loopw [5] (fun i wr => ∃ k : Nat, k ≤ n ∧ i = .int .i64 k ∧ Below w.heap.size w wr) (fun i _ => n - (intOf i).toNat)
  case atStart => exact ⟨0, Nat.zero_le _, rfl, Below.refl _ _⟩
  case round =>
    obtain ⟨k, hk, rfl, hbl⟩ := hrel
    by_cases hlt : k < n
    · obtain ⟨b, off, x, rfl, hb, hx, hwf, hc0, hc1⟩ := FT.get (HI.out.keep hbl) hlt
      obtain ⟨b', off', x', rfl, hb', hx', _, hc0', hc1'⟩ := FT.get (HI'.out.keep hbl) hlt
      obtain rfl : x = x' := by rw [hx] at hx'; simpa using hx'
      clear hx hx'
      have hlt' : (k : Int) < (n : Int) := by omega
      have hpos : (0 : Int) ≤ (k : Int) := by omega
      go_wp2
      go_region_held3 (fun wx => (wx.cell? ⟨b, off + k * 2, none⟩ = some (.int .i64 x.k) ∧ wx.cell? ⟨b, off + k * 2 + 1, none⟩ = some (.string x.t)) ∧ (wx.cell? ⟨b', off' + k * 2, none⟩ = some (.int .i64 x.k) ∧ wx.cell? ⟨b', off' + k * 2 + 1, none⟩ = some (.string x.t)) ∧ b < wx.heap.size ∧ b' < wx.heap.size ∧ Below w.heap.size w wx) (((try go_split_ands); (repeat' apply And.intro) <;> first | assumption | exact Blk.keep (by assumption) hbx | exact Blk.drew (by assumption) | exact Blk.drew (Blk.made _ _ _) | exact Below.drew (by assumption) | exact Below.drew (below_allocS (by first | exact Below.refl _ _ | assumption) _) | exact below_callS (by assumption) hbx | exact below_call (by assumption) hbx (Below.size (by assumption)) | exact (hcx _ _ (by assumption)).trans (by assumption) | omega | (simp [*]; done) | (simp; omega))) (first | (go_at_call 68; refine Calls.mono (laws_eqToken (x := x)) ?_; rintro e wx2 ⟨rfl, hbx⟩; obtain ⟨hcx, hfx⟩ := bcell hbx; have hsx := hbx.size))
      go_split_ands
      go_wp2
      go_roundw
      case rel => exact ⟨k + 1, by omega, by go_num, by assumption⟩
      case measure => simp [intOf]; omega
    · go_wp2
      go_ret
      exact ⟨rfl, hbl⟩
set_option maxHeartbeats 2000000 in
theorem laws_markTokenS {a : Option Addr} {n c base : Nat} {l : List TR} {q : Int} {w : World} (hI : OwnTk w base a n c l) (hn : n ≤ 1048576) (hq0 : 0 ≤ q) (hq1 : q ≤ 1048576) :
    Calls Tryd.prog 36 #[.slice a n c, .int .i64 q] w fun e w' => e = .returned (.int .i64 (q + 2 * n)) ∧ Touch w w' n a ∧ OwnTk w' base a n c (marksT q n) := by
  by_cases hn0 : n = 0
  · subst hn0
    have HI := Lib.hid hI
    have hl : l = marksT q 0 := by have := hI.len; cases l with | nil => rfl | cons => simp at this
    subst hl
    clear hI
    go_enter Tryd.func36, Tryd.ntmps36
    go_wp2
    go_loopw [1, 5] (fun s1 s5 wr => s1 = .int .i64 q ∧ s5 = .int .i64 0 ∧ wr = w) (fun _ _ _ => 0)
    case atStart => exact ⟨rfl, rfl, rfl⟩
    case round =>
      obtain ⟨rfl, rfl, rfl⟩ := hrel
      go_wp2
      go_ret
      exact ⟨ret_int (by omega), ⟨none, grownBy_refl _ _, fun _ h => by cases h⟩, HI.out⟩
  · obtain ⟨g, rfl⟩ := hI.shape (by omega)
    have HI := Lib.hid (show OwnTk w base (some ⟨g, 0, none⟩) n c ((marksT q n).take 0 ++ l.drop 0) by simpa using hI)
    have hlen := hI.len
    have Hlen := Lib.hid hlen
    clear hI hlen
    go_enter Tryd.func36, Tryd.ntmps36
    go_wp2
    go_loopw [1, 5] (fun s1 s5 wr => ∃ j : Nat, j ≤ n ∧ s1 = .int .i64 (q + 2 * j) ∧ s5 = .int .i64 j ∧ w.grownBy wr (some g) ∧ Hid (OwnTk wr base (some ⟨g, 0, none⟩) n c ((marksT q n).take j ++ l.drop j))) (fun _ s5 _ => n - (intOf s5).toNat)
    case atStart => exact ⟨0, Nat.zero_le _, by simp, rfl, grownBy_refl _ _, HI.out⟩
    case round =>
      obtain ⟨j, hj, rfl, rfl, hg, hO⟩ := hrel
      have hsz := hg.size
      by_cases hlt : j < n
      · obtain ⟨_, _, y, h1, hbz, hy, hok, hc0, hc1⟩ := FT.get hO.out.flats hlt
        simp only [Option.some.injEq, Addr.mk.injEq, and_true] at h1
        obtain ⟨rfl, rfl⟩ := h1
        simp only [Nat.zero_add] at hc0 hc1
        have hfz := hO.out.free
        have KM := Lib.hid (fun (wx : World) => laws_markText (k := q + 2 * (j : Int) + 1) (w := wx) (by omega) (by omega))
        have HM := Lib.hid (markT_size (k := q + 2 * (j : Int) + 1) (by omega))
        obtain ⟨S, hS⟩ : ∃ S, S = markT (q + 2 * (j : Int) + 1) := ⟨_, rfl⟩
        rw [← hS] at KM HM
        have HS := Lib.hid hS
        clear hS
        go_wp2_with fail
        have HY := Lib.hid hy
        have HOa := Lib.hid (hO.out.setj (j := 0) (p := j * 2) (x := ⟨q + 2 * (j : Int), y.t⟩) hy (by decide) (by omega) rfl ⟨show I64 (q + 2 * (j : Int)) by (unfold I64; omega), hok.2⟩)
        have HL := Lib.hid hO.out.len
        clear hy hok
        refine Calls.mono (KM.out _) ?_
        rintro e w1 ⟨rfl, hb1⟩
        have hs1 := hb1.size
        (try simp at hs1)
        have HOb := Lib.hid (HOa.out.keep hb1)
        have HG := Lib.hid (grownBy_trans (grownBy_set hg (j * 2) (.int .i64 (q + 2 * j))) (grownBy_below hb1 (some g)))
        obtain ⟨_, _, y2, h2, hbz2, hy2, _, hd0, hd1⟩ := FT.get HOb.out.flats hlt
        simp only [Option.some.injEq, Addr.mk.injEq, and_true] at h2
        obtain ⟨rfl, rfl⟩ := h2
        simp only [Nat.zero_add] at hd0 hd1
        have hfz2 := HOb.out.free
        have HY2 := Lib.hid hy2
        clear hc0 hc1 hfz hb1 hg hbz hy2
        go_wp2_with fail
        go_roundw
        case rel =>
          refine ⟨j + 1, by omega, by go_num, by go_num, grownBy_set HG.out _ _, Lib.hid ?_⟩
          have h3 := HOb.out.setj (j := 1) (p := j * 2 + 1) (v := .string S) (x := ⟨q + 2 * (j : Int), S⟩) HY2.out (by decide) rfl ?_ ⟨show I64 (q + 2 * (j : Int)) by (unfold I64; omega), ?_⟩
          · have e := marksT_mix (q := q) hlt Hlen.out ⟨q + 2 * (j : Int), y.t⟩
            rw [← HS.out] at e
            rw [e] at h3
            exact h3
          · have h4 := HY2.out
            rw [List.getElem?_set_self (by rw [HL.out]; exact hlt)] at h4
            cases h4; rfl
          · have := HM.out; show S.size ≤ maxLen; unfold maxLen; omega
        case measure => simp [intOf]; omega
      · go_wp2
        go_ret
        have e : j = n := by omega
        have h1 := hO.out
        rw [e, List.drop_of_length_le (by have := Hlen.out; omega), List.append_nil, List.take_of_length_le (by simp [marksT])] at h1
        exact ⟨ret_int (by rw [e]), ⟨_, hg, fun b hb => by cases hb; exact ⟨by omega, rfl⟩⟩, h1⟩
set_option maxHeartbeats 2000000 in
theorem laws_heldTokenS {a : Option Addr} {n c : Nat} {q : Int} {w : World} (hI : FT w a n c (marksT q n)) (hn : n ≤ 1048576) (hq0 : 0 ≤ q) (hq1 : q ≤ 1048576) :
    Calls Tryd.prog 37 #[.slice a n c, .int .i64 q] w fun e w' => e = .returned (.int .i64 (q + 2 * n)) ∧ Below w.heap.size w w' := by
  have HI := Lib.hid hI
  clear hI
  go_enter Tryd.func37, Tryd.ntmps37
  go_wp2
  go_loopw [1, 5] (fun s1 s5 wr => ∃ j : Nat, j ≤ n ∧ s1 = .int .i64 (q + 2 * j) ∧ s5 = .int .i64 j ∧ Below w.heap.size w wr) (fun _ s5 _ => n - (intOf s5).toNat)
  case atStart => exact ⟨0, Nat.zero_le _, by simp, rfl, Below.refl _ _⟩
  case round =>
    obtain ⟨j, hj, rfl, rfl, hbl⟩ := hrel
    have hsz := hbl.size
    by_cases hlt : j < n
    · obtain ⟨b, off, x, rfl, hb, hx, hwf, hc0, hc1⟩ := FT.get (HI.out.keep hbl) hlt
      rw [marksT_get hlt] at hx
      simp only [Option.some.injEq] at hx
      subst hx
      simp only at hc0 hc1
      have KM := Lib.hid (fun (wx : World) => laws_markText (k := q + 2 * (j : Int) + 1) (w := wx) (by omega) (by omega))
      generalize markT (q + 2 * (j : Int) + 1) = S at *
      have hq : (S.toList != S.toList) = false := by simp
      go_wp2_with fail
      go_region_held3 (fun wx => wx.cell? ⟨b, off + j * 2 + 1, none⟩ = some (.string S) ∧ b < wx.heap.size ∧ Below w.heap.size w wx) (((try go_split_ands); (repeat' apply And.intro) <;> first | assumption | exact Below.drew (Below.refl _ _) | exact Blk.keep (by assumption) hbx | exact Blk.drew (by assumption) | exact Blk.drew (Blk.made _ _ _) | exact Below.drew (by assumption) | exact Below.drew (below_allocS (by first | exact Below.refl _ _ | assumption) _) | exact below_callS (by assumption) hbx | exact below_call (by assumption) hbx (Below.size (by assumption)) | exact (hcx _ _ (by assumption)).trans (by assumption) | omega | (simp [*]; done) | (simp; omega))) (first | (go_at_call 69; refine Calls.mono (KM.out _) ?_; rintro e wx2 ⟨rfl, hbx⟩; obtain ⟨hcx, hfx⟩ := bcell hbx; have hsx := hbx.size))
      go_split_ands
      go_wp2
      go_roundw
      case rel => exact ⟨j + 1, by omega, by go_num, by go_num, by assumption⟩
      case measure => simp [intOf]; omega
    · go_wp2
      go_ret
      have e : j = n := by omega
      exact ⟨ret_int (by rw [e]), hbl⟩
end Go.Proofs.YtfhogleillgcgaaDoor
