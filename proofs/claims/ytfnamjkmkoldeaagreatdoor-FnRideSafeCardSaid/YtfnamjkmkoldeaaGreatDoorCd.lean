/- The number of unsafe states of a ride model: the program, walked. -/
import Derived.Test.YtfnamjkmkoldeaaGreatDoorCc
import Derived.Test.YtfnamjkmkoldeaaGreatDoorCg
import Derived.Test.YtfnamjkmkoldeaaGreatDoorQq
namespace Go.Proofs.YtfnamjkmkoldeaaGreatDoor
open Go.RowKit
set_option linter.unusedVariables false
set_option linter.unusedSimpArgs false
theorem filter_step {α : Type} {p : α → Bool} {l : List α} {k : Nat} {x : α} (h : l[k]? = some x) : (l.take (k + 1)).filter p = (l.take k).filter p ++ if p x = true then [x] else [] := by
  rw [take_at h, List.filter_append]; cases hx : p x <;> simp [hx]
theorem SRow.apart {w : World} {lo l2 : Nat} {a : Option Addr} {n c : Nat} {l : List (QM × List Int)} (h : SRow w lo l2 a n c l) (hT : 2 ≠ 22) : ∀ x ∈ l, ∀ q off, x.1.a = some ⟨q, off, none⟩ → a ≠ some ⟨q, 0, none⟩ := by
  intro x hx q off e e2
  have hx' := h.each x hx
  rcases hx'.form with ⟨h1, _⟩ | ⟨g, h1⟩
  · rw [h1] at e; cases e
  · rw [h1] at e
    simp only [Option.some.injEq, Addr.mk.injEq, and_true] at e
    obtain ⟨rfl, rfl⟩ := e
    obtain ⟨c1, t1⟩ := hx'.typ h1
    obtain ⟨c2, t2⟩ := h.row.typ e2
    rw [t1] at t2
    simp only [Option.some.injEq, Obj.cells.injEq] at t2
    exact hT t2.2.1
set_option maxHeartbeats 2000000 in
theorem impl_statesOf {B n c n' c' lo m : Nat} {a a' : Option Addr} {l : List (QM × SN)} {w : World} (hQ : QOwn w lo a' n' c' l) (hlo : lo ≤ w.heap.size) (hP : ∀ x ∈ l, n ≤ x.2.v.length ∧ x.2.v.length = m ∧ ∀ z ∈ x.2.v.take n, 0 ≤ z ∧ z < 3 * (B : Int)) (hnd : (l.map (·.2.v)).Nodup) (hm : m ≤ 1048576) (hn' : n' ≤ 1048576) (hn : n ≤ 4) (hB2 : 2 ≤ B) (hB8 : B ≤ 8) :
    Calls Tryz.prog 47 #[.slice a' n' c', .func (.func 48) #[.agg #[.int .i64 (B : Int), .slice a n c]] #[]] w fun e w' => ∃ a2 c2, e = .returned (.slice a2 (l.countP fun x => unsN B n x.2.v) c2) ∧ Below w.heap.size w w' := by
  have HQ := Lib.hid hQ
  have HP := Lib.hid hP
  have ND := Lib.hid hnd
  clear hQ hP hnd
  go_enter Tryz.func47, Tryz.ntmps47
  go_wp2_with fail
  go_loopw [5, 10] (fun s5 s10 wr => ∃ (j nd cd : Nat) (ad : Option Addr) (ld : List (QM × List Int)), s5 = .slice ad nd cd ∧ s10 = .int .i64 j ∧ j ≤ n' ∧ nd ≤ j ∧ w.heap.size ≤ wr.heap.size ∧ Hid (Below w.heap.size w wr) ∧ Hid (SRow wr w.heap.size lo ad nd cd ld) ∧ Hid (ld.map (·.2) = ((l.take j).filter (fun x => unsN B n x.2.v)).map (·.2.v))) (fun _ s10 _ => n' - (intOf s10).toNat)
  case atStart => exact ⟨0, 0, 0, none, [], rfl, rfl, by omega, by omega, Nat.le_refl _, Lib.hid (Below.refl _ _), Lib.hid (SRow.nil _ _ _), Lib.hid (by simp)⟩
  case round =>
    obtain ⟨j, nd, cd, ad, ld, rfl, rfl, hj, hnd, hsr, HB, SD, A⟩ := hrel
    by_cases hlt : j < n'
    · have hlt' : (j : Int) < (n' : Int) := by omega
      have hj0 : (0 : Int) ≤ (j : Int) := by omega
      obtain ⟨b, off, R, y, rfl, hb, hly, hov, q0, q1, q2, q3⟩ := (HQ.out.keep HB.out).get hlt
      have hx := HP.out _ (List.mem_of_getElem? hly)
      simp only at hx
      have hvl := hov.len
      have HLY := Lib.hid hly
      have OV := Lib.hid hov
      have KU := Lib.hid (fun (wx : World) (hb : Below wr.heap.size wr wx) => impl_isUnsafe (B := B) (n := n) (c := c) (a := a) (hov.ints.keep hb) (by omega) (by omega) hn hB2 hB8 hx.2.2)
      have HRM := Lib.hid (show R.n = m by rw [← hvl]; exact hx.2.1)
      have FS := Lib.hid (filter_step (p := fun x : QM × SN => unsN B n x.2.v) hly)
      clear hly hov hx hvl
      have hbX : Below wr.heap.size wr (wr.alloc (.cells #[.slice R.a R.n R.c, .int .i64 y.fr, .int .i64 y.ru, .int .i64 y.dp] 130)) := by repeat (first | exact Below.refl _ _ | assumption | refine below_allocS ?_ _ | refine below_callS ?_ (by assumption) | (refine Below.alloc ?_ (by first | omega | (simp; done) | (simp; omega)) _) | (refine Below.setCell ?_ (by first | omega | (simp; done) | (simp; omega)) _) | refine Below.drew ?_ | refine below_drewN ?_ _ | (refine below_call ?_ (by assumption) (by first | omega | (simp; done) | (simp; omega))) | (refine Below.trans ?_ (by assumption)))
      have X := Lib.hid (Blk.made wr #[.slice R.a R.n R.c, .int .i64 y.fr, .int .i64 y.ru, .int .i64 y.dp] 130)
      go_wp2_with fail
      clear q0 q1 q2 q3
      refine Calls.mono (KU.out _ hbX) ?_
      rintro e w1 ⟨rfl, hb1⟩
      have hb2 := below_callS hbX hb1
      have X1 := X.out.keep hb1
      have SD1 := Lib.hid (SD.out.keep hb2)
      have OV1 := Lib.hid (OV.out.keep hb2)
      have HB1 := Lib.hid (below_call HB.out hb2 hsr)
      have hs1 := hb2.size
      have x0 := X1.cell 0
      have xl := X1.lt
      simp at x0
      clear hb1 hb2 hbX X X1 KU SD OV HB
      cases hu : unsN B n y.v with
      | true =>
        have HA := Lib.hid (show (ld ++ [(R, y.v)]).map (·.2) = ((l.take (j + 1)).filter (fun x => unsN B n x.2.v)).map (·.2.v) by
          rw [FS.out, List.map_append, List.map_append, A.out, hu]; rfl)
        clear hu A FS
        go_wp2_with (at_builtin; refine appS rfl _ _ rfl w.heap.size lo _ _ _ _ SD1.out rfl _ rfl (by first | rfl | (simp; done)) (R, y.v) OV1.out _ rfl (by omega) (by (try simp); omega) ?_; intro g' c2 w2 h1 h2 h3 h4 h5; have SD2 := Lib.hid h1; have HB2 := Lib.hid (HB1.out.trans h2); have hs2 := h2.size; clear h1 h2 h3 h4 h5)
        go_roundw
        case rel => exact ⟨j + 1, nd + 1, c2, _, _, by go_num, by go_num, by omega, by omega, by omega, HB2, SD2, HA⟩
        case measure => simp [intOf]; omega
      | false =>
        have HA := Lib.hid (show ld.map (·.2) = ((l.take (j + 1)).filter (fun x => unsN B n x.2.v)).map (·.2.v) by
          rw [FS.out, List.map_append, A.out, hu]; simp)
        clear hu A FS
        go_wp2
        go_roundw
        case rel => exact ⟨j + 1, nd, cd, ad, ld, rfl, by go_num, by omega, by omega, by omega, HB1, SD1, HA⟩
        case measure => simp [intOf]; omega
    · have hlt' : ¬ (j : Int) < (n' : Int) := by omega
      obtain rfl : n' = j := by omega
      have hA := A.out
      rw [List.take_of_length_le (by rw [HQ.out.row.flats.len]; exact Nat.le_refl _)] at hA
      have hnd2 : (ld.map (·.2)).Nodup := by
        rw [hA]; exact ND.out.sublist (List.Sublist.map _ (List.filter_sublist ..))
      have hln : nd = l.countP (fun x => unsN B n x.2.v) := by
        rw [← SD.out.len, List.countP_eq_length_filter, ← List.length_map (f := fun x : QM × SN => x.2.v), ← hA, List.length_map]
      have hE : ∀ x ∈ ld, Ints wr x.1.a m x.1.c x.2 ∧ x.1.n = m ∧ ∀ q off, x.1.a = some ⟨q, off, none⟩ → ad ≠ some ⟨q, 0, none⟩ := fun x hx => by
        have h1 := (SD.out.each x hx).ints
        suffices h4 : x.1.n = m from ⟨h4 ▸ h1, h4, SD.out.apart (by decide) x hx⟩
        have h2 : x.2 ∈ (l.filter (fun x => unsN B n x.2.v)).map (·.2.v) := by rw [← hA]; exact List.mem_map_of_mem hx
        obtain ⟨y, hy, e⟩ := List.mem_map.1 h2
        have h3 := (HP.out y (List.mem_filter.1 hy).1).2.1
        rw [← h1.len, ← e]; exact h3
      have K := Lib.hid (impl_sorted SD.out.row hE hnd2 (by omega) hm hsr)
      have HL := Lib.hid hln
      have HBr := HB
      clear hA hnd2 hln hE SD A
      go_wp2_with fail
      refine Calls.mono K.out ?_
      rintro e w2 ⟨rfl, hb2⟩
      have hb3 := HBr.out.trans hb2
      go_wp2
      go_ret
      exact ⟨ad, cd, by rw [← HL.out]; rfl, hb3⟩
set_option maxHeartbeats 1000000 in
theorem impl_statesOf_nil {f : Value} {a : Option Addr} {c : Nat} {w : World} :
    Calls Tryz.prog 47 #[.slice a 0 c, f] w fun e w' => ∃ a2 c2, e = .returned (.slice a2 0 c2) ∧ Below w.heap.size w w' := by
  have K := impl_sorted (m := 0) (SRow.nil w w.heap.size w.heap.size).row (fun x hx => by cases hx) (by simp) (by omega) (by omega) (Nat.le_refl _)
  go_enter Tryz.func47, Tryz.ntmps47
  go_wp2_with fail
  go_loopw [5, 10] (fun s5 s10 wr => s5 = .slice none 0 0 ∧ s10 = .int .i64 0 ∧ wr = w) (fun _ _ _ => 0)
  case atStart => exact ⟨rfl, rfl, rfl⟩
  case round =>
    obtain ⟨rfl, rfl, rfl⟩ := hrel
    go_wp2_with fail
    refine Calls.mono K ?_
    rintro e w2 ⟨rfl, hb2⟩
    go_wp2
    go_ret
    exact ⟨_, _, rfl, hb2⟩
set_option maxHeartbeats 2000000 in
theorem impl_CountUnsafe {b bud : Int} {a : Option Addr} {n c : Nat} {l : List Int} {sec : Bool} {w : World} (hT : Tab w 0 (strsCells ruleNm)) (hI : Ints w a n c l) (hn : n ≤ 1048576) :
    Calls Tryz.prog 12 #[.agg #[.int .i64 b, .slice a n c], .int .i64 bud, .bool sec] w fun e w' => e = .returned (.tuple #[.int .i64 (cuN b l bud sec), .int .i64 (rsC b l bud sec)]) ∧ Below w.heap.size w w' := by
  have K1 := Lib.hid (fun (wx : World) (hb : Below w.heap.size w wx) => impl_exploreRide2 (b := b) (bud := bud) (sec := sec) (hT.keep hb) (hI.keep hb) hn)
  have X := Lib.hid (Blk.made w #[.int .i64 b, .slice a n c] 28)
  have hbA : Below w.heap.size w (w.alloc (.cells #[.int .i64 b, .slice a n c] 28)) := by repeat (first | exact Below.refl _ _ | assumption | refine below_allocS ?_ _ | refine below_callS ?_ (by assumption) | (refine Below.alloc ?_ (by first | omega | (simp; done) | (simp; omega)) _) | (refine Below.setCell ?_ (by first | omega | (simp; done) | (simp; omega)) _) | refine Below.drew ?_ | refine below_drewN ?_ _ | (refine below_call ?_ (by assumption) (by first | omega | (simp; done) | (simp; omega))) | (refine Below.trans ?_ (by assumption)))
  have hnl := hI.len
  clear hT hI
  by_cases h0 : rsC b l bud sec = 0
  · obtain ⟨g1, g2, g3, g4, g5, g6⟩ := rdC_ok (rsC_zero h0)
    have hsz := (ride_gives (sec := sec) (rsC_zero h0)).1
    obtain ⟨B, rfl⟩ := Int.eq_ofNat_of_zero_le (show 0 ≤ b by omega)
    rw [Int.toNat_natCast] at hsz
    have HSZ := Lib.hid hsz
    have H0 := Lib.hid h0
    have HNL := Lib.hid hnl
    have hn4 : n ≤ 4 := by omega
    have hB2 : 2 ≤ B := by omega
    have hB8 : B ≤ 8 := by omega
    clear hsz hnl
    go_enter Tryz.func12, Tryz.ntmps12
    go_wp2_with fail
    refine Calls.mono (K1.out _ hbA) ?_
    rintro e w1 ⟨hb1, a1, n1, c1, l1, rfl, hQ, hR, _⟩
    have hR := hR h0
    have X1 := Lib.hid (X.out.keep hb1)
    have HB1 := Lib.hid (show Below w.heap.size w w1 by repeat (first | exact Below.refl _ _ | assumption | refine below_allocS ?_ _ | refine below_callS ?_ (by assumption) | (refine Below.alloc ?_ (by first | omega | (simp; done) | (simp; omega)) _) | (refine Below.setCell ?_ (by first | omega | (simp; done) | (simp; omega)) _) | refine Below.drew ?_ | refine below_drewN ?_ _ | (refine below_call ?_ (by assumption) (by first | omega | (simp; done) | (simp; omega))) | (refine Below.trans ?_ (by assumption))))
    obtain ⟨hns, hL4⟩ := rs_sns (rsC_zero h0) hR
    have hn1 : n1 ≤ 4000 := by rw [← hQ.row.flats.len]; rw [List.length_map] at hL4; exact hL4
    have hP : ∀ x ∈ l1, n ≤ x.2.v.length ∧ x.2.v.length = (rideSz n B bud.toNat).length ∧ ∀ z ∈ x.2.v.take n, 0 ≤ z ∧ z < 3 * (B : Int) := fun x hx => by
      have hsv := hns.sv x.2 (List.mem_map_of_mem hx)
      rw [HSZ.out] at hsv
      obtain ⟨_, t2, t3⟩ := sv_traf hB2 hB8 g3 g4 hsv
      rw [HNL.out] at t2 t3 hsv
      exact ⟨t2, hsv.1, t3⟩
    have hnd : (l1.map (·.2.v)).Nodup := by have := hns.nd; rw [List.map_map] at this; exact this
    have hCU := cu_of h0 hR
    rw [Int.toNat_natCast, HNL.out, List.countP_map] at hCU
    have HCU := Lib.hid hCU
    have K2 := Lib.hid (fun (wx : World) (hb : Below w1.heap.size w1 wx) => impl_statesOf (B := B) (n := n) (c := c) (a := a) (hQ.keep hb) (Nat.le_trans (by have := hb1.size; simpa using this) hb.size) hP hnd (by rw [sz_len]; omega) (by omega) hn4 hB2 hB8)
    have x0 := X1.out.cell 0
    have x1 := X1.out.cell 1
    have xl := X1.out.lt
    simp at x0 x1
    clear hb1 hQ hR hns hL4 hP hnd hCU hbA X h0 K1
    go_wp2_with fail
    refine Calls.mono (K2.out _ (Below.refl _ _)) ?_
    rintro e w2 ⟨a2, c2, rfl, hb2⟩
    have HB2 := Lib.hid (below_call HB1.out hb2 HB1.out.size)
    clear x0 x1 xl hb2
    go_wp2_with fail
    refine Calls.mono impl_length_sl ?_
    rintro e _ ⟨rfl, rfl⟩
    go_wp2
    go_ret2
    exact ⟨by rw [HCU.out, H0.out]; rfl, HB2.out⟩
  · have HF := Lib.hid (cu_bad h0)
    go_enter Tryz.func12, Tryz.ntmps12
    go_wp2_with fail
    refine Calls.mono (K1.out _ hbA) ?_
    rintro e w1 ⟨hb1, a1, n1, c1, l1, rfl, hQ, _, hz⟩
    have hz := hz h0
    subst hz
    have X1 := Lib.hid (X.out.keep hb1)
    have HB1 := Lib.hid (show Below w.heap.size w w1 by repeat (first | exact Below.refl _ _ | assumption | refine below_allocS ?_ _ | refine below_callS ?_ (by assumption) | (refine Below.alloc ?_ (by first | omega | (simp; done) | (simp; omega)) _) | (refine Below.setCell ?_ (by first | omega | (simp; done) | (simp; omega)) _) | refine Below.drew ?_ | refine below_drewN ?_ _ | (refine below_call ?_ (by assumption) (by first | omega | (simp; done) | (simp; omega))) | (refine Below.trans ?_ (by assumption))))
    have hl1 : l1 = [] := List.eq_nil_of_length_eq_zero hQ.row.flats.len
    subst hl1
    have K2 := Lib.hid (fun (f : Value) (wx : World) (hb : Below w1.heap.size w1 wx) => impl_statesOf_nil (f := f) (a := a1) (c := c1) (w := wx))
    have x0 := X1.out.cell 0
    have x1 := X1.out.cell 1
    have xl := X1.out.lt
    simp at x0 x1
    clear hb1 hQ hbA X h0 K1
    go_wp2_with fail
    refine Calls.mono (K2.out _ _ (Below.refl _ _)) ?_
    rintro e w2 ⟨a2, c2, rfl, hb2⟩
    have HB2 := Lib.hid (below_call HB1.out hb2 HB1.out.size)
    clear x0 x1 xl hb2
    go_wp2_with fail
    refine Calls.mono impl_length_sl ?_
    rintro e _ ⟨rfl, rfl⟩
    go_wp2
    go_ret2
    exact ⟨by rw [HF.out]; rfl, HB2.out⟩
end Go.Proofs.YtfnamjkmkoldeaaGreatDoor
