/- Is a diagram valid: the program, walked. -/
import Derived.Test.YtkaikbaagajckaaGreatPu
import Derived.Test.YtkaikbaagajckaaGreatN25
namespace Go.Proofs.YtkaikbaagajckaaGreat
open Go.RowKit
set_option linter.unusedVariables false
set_option linter.unusedSimpArgs false
theorem ndB_noI {n : Int} {L : List I3} {i : Nat} {x : I3} (hx : L[i]? = some x) (h : ¬ NdOk n L i x) : ndB n L i = false := by
  rw [Bool.eq_false_iff]
  exact fun e => h ((ndB_iff hx).1 e)
theorem inBI_true {x lo hi : Int} (h : inB x lo hi = true) : lo ≤ x ∧ x ≤ hi := by
  simpa [inB] using h
theorem inBI_no {x lo hi : Int} (h : inB x lo hi = false) : ¬ (lo ≤ x ∧ x ≤ hi) := by
  intro e
  rw [inB, decide_eq_true e.1, decide_eq_true e.2] at h
  cases h
theorem diaI_no0 {n : Int} {L : List I3} {root : Int} (h : dia0 n L root = false) : diaB n L root = false := by rw [diaB, h]; rfl
theorem diaI_nol {n : Int} {L : List I3} {root : Int} {i : Nat} (hi : i < L.length) (h : ndB n L i = false) : diaB n L root = false := by
  rw [diaB, upB_false hi h]; simp
theorem diaI_dup {n : Int} {L : List I3} {root : Int} (h : ¬ L.Nodup) : diaB n L root = false := by
  rw [dia_impl, decide_eq_false h]; simp
theorem dup_at {L : List I3} {j : Nat} {x : I3} (hx : L[j]? = some x) (h : x ∈ L.take j) : ¬ L.Nodup := fun hn => by
  obtain ⟨i, hi⟩ := List.getElem?_of_mem h
  rw [List.getElem?_take] at hi
  split at hi
  · have := nodup_get hn hx hi; omega
  · cases hi
theorem nodup_next {L : List I3} {j : Nat} {x : I3} (hx : L[j]? = some x) (hn : (L.take j).Nodup) (h : x ∉ L.take j) : (L.take (j + 1)).Nodup := by
  rw [take_at hx, List.nodup_append]
  refine ⟨hn, by simp, fun a ha b hb => ?_⟩
  simp at hb
  rw [hb]
  exact fun e => h (e ▸ ha)
set_option maxHeartbeats 1000000 in
theorem slices_EqualN {a b : Option Addr} {n c m d : Nat} {L M : List I3} {w : World} (hI : F3 w a n c L) (hJ : F3 w b m d M) (hn : n ≤ 1048576) (hm : m ≤ 1048576) :
    Calls Tryz.prog 156 #[.slice a n c, .slice b m d] w fun e w' => e = .returned (.bool (decide (L = M))) ∧ Below w.heap.size w w' := by
  have HI := Lib.hid hI
  have HJ := Lib.hid hJ
  have q1 := hI.len
  have q2 := hJ.len
  by_cases hl : n = m
  · obtain rfl := hl
    clear hI hJ
    go_enter Tryz.func156, Tryz.ntmps156
    go_wp2_with fail
    go_loopw [13] (fun s13 wr => ∃ j : Nat, s13 = .int .i64 j ∧ j ≤ n ∧ Hid (Below w.heap.size w wr) ∧ Hid (∀ q, q < j → L[q]? = M[q]?)) (fun s13 _ => n - (intOf s13).toNat)
    case atStart => exact ⟨0, rfl, by omega, Lib.hid (Below.refl _ _), Lib.hid fun q h => by omega⟩
    case round =>
      obtain ⟨j, rfl, hj, HB, A⟩ := hrel
      by_cases hlt : j < n
      · have hlt' : (j : Int) < (n : Int) := by omega
        have hj0 : (0 : Int) ≤ (j : Int) := by omega
        obtain ⟨b1, o1, x, rfl, hb1, hx, _, c0, c1, c2⟩ := F3.get (HI.out.keep HB.out) hlt
        obtain ⟨b2, o2, y, rfl, hb2, hy, _, d0, d1, d2⟩ := F3.get (HJ.out.keep HB.out) hlt
        have HX := Lib.hid hx
        have HY := Lib.hid hy
        clear hx hy
        have hE := neqNode x y
        by_cases he : x = y
        · subst he
          simp only [ne_eq, not_true_eq_false, decide_false] at hE
          have A2 := Lib.hid (show ∀ q, q < j + 1 → L[q]? = M[q]? from fun q hq => by
            rcases (show q < j ∨ q = j by omega) with h | rfl
            · exact A.out q h
            · rw [HX.out, HY.out])
          go_wp2_with fail
          go_quiet (fail)
          go_wp2
          go_roundw
          case rel => exact ⟨j + 1, by go_num, by omega, Lib.hid (below_drewN HB.out _), A2⟩
          case measure => simp [intOf]; omega
        · simp only [ne_eq, he, not_false_eq_true, decide_true] at hE
          have hne := Lib.hid (show ¬ (L = M) from fun e => by
            have h1 := HX.out
            rw [e, HY.out] at h1
            exact he (Option.some.inj h1).symm)
          go_wp2_with fail
          go_quiet (fail)
          go_wp2
          go_ret
          exact ⟨ret_bool (decide_eq_false hne.out).symm, below_drewN HB.out _⟩
      · have hjn : j = n := by omega
        subst hjn
        have hlt' : ¬ (j : Int) < (j : Int) := by omega
        have heq := Lib.hid (show L = M from List.ext_getElem? fun q => by
          by_cases hq : q < j
          · exact A.out q hq
          · rw [List.getElem?_eq_none (by omega), List.getElem?_eq_none (by omega)])
        go_wp2
        go_ret
        exact ⟨ret_bool (by rw [decide_eq_true heq.out]), HB.out⟩
  · have hl1 : ¬ (n : Int) = (m : Int) := by omega
    have hne := Lib.hid (show ¬ (L = M) from fun e => by rw [e] at q1; omega)
    have e1 : ((n : Int) == (m : Int)) = false := by simpa using hl1
    have e2 : (n == m) = false := by simpa using hl
    clear hI hJ q1 q2
    go_enter Tryz.func156, Tryz.ntmps156
    go_wp2
    go_ret
    exact ⟨ret_bool (decide_eq_false hne.out).symm, bel⟩
set_option maxRecDepth 100000 in
set_option maxHeartbeats 8000000 in
theorem impl_IsDiagram {a : Option Addr} {n c : Nat} {L : List I3} {inp root : Int} {w : World} (hI : F3 w a n c L) (hi : I64 inp) (hr : I64 root) (hn : n ≤ maxLen) :
    Calls Tryz.prog 87 #[.agg #[.int .i64 inp, .slice a n c, .int .i64 root]] w fun e w' => e = .returned (.bool (diaB inp L root)) ∧ Below w.heap.size w w' := by
  have HI := Lib.hid hI
  obtain rfl : L.length = n := hI.len
  have X := Lib.hid (Blk.made w #[.int .i64 inp, .slice a L.length c, .int .i64 root] 40)
  have hb0 : Below w.heap.size w (w.alloc (.cells #[.int .i64 inp, .slice a L.length c, .int .i64 root] 40)) := bel
  have y0 := X.out.cell 0
  have y1 := X.out.cell 1
  have y2 := X.out.cell 2
  have yl := X.out.lt
  simp only [List.getElem?_toArray, List.getElem?_cons_succ, List.getElem?_cons_zero] at y0 y1 y2
  have HI64 := Lib.hid hi
  clear hI
  have hn9 : L.length ≤ 9223372036854775807 := hn
  clear hn
  unfold I64 at hi hr
  have hlen := fun (wx : World) => (impl_length_Node (a := a) (n := L.length) (c := c) (w := wx)).mono (fun e w' h => (⟨h.1, h.2.symm⟩ : e = .returned (.int .i64 (L.length : Int)) ∧ w' = wx))
  have HLEN := Lib.hid hlen
  have hin1 := fun (wx : World) => (impl_within (x := inp) (lo := 0) (hi := 20) (w := wx)).mono (fun e w' h => (⟨h.1, h.2.symm⟩ : e = .returned (.bool (inB inp 0 20)) ∧ w' = wx))
  have hin3 := fun (wx : World) => (impl_within (x := root) (lo := 0) (hi := (L.length : Int) + 1) (w := wx)).mono (fun e w' h => (⟨h.1, h.2.symm⟩ : e = .returned (.bool (inB root 0 ((L.length : Int) + 1))) ∧ w' = wx))
  clear hlen
  cases h1 : inB inp 0 20
  · rw [h1] at hin1
    have HIN1 := Lib.hid hin1
    have HF := Lib.hid (diaI_no0 (n := inp) (L := L) (root := root) (by rw [dia0, h1]; rfl))
    clear h1 hin1 hin3
    go_enter Tryz.func87, Tryz.ntmps87
    go_wp2_with fail
    go_quiet ((first | (go_at_call 89; (with_reducible show Calls _ _ #[Value.int _ inp, _, _] _ _); exact Calls.quiet_of_same (HIN1.out _))))
    go_wp2
    go_ret
    exact ⟨ret_bool (by rw [HF.out]), below_drewN hb0 _⟩
  have h1' := inBI_true h1
  rw [h1] at hin1
  have HIN1 := Lib.hid hin1
  have H1 := Lib.hid h1
  clear hin1 h1
  by_cases h2 : 2000 < L.length
  · have h2' : (2000 : Int) < (L.length : Int) := by omega
    have hd2 : decide ((2000 : Int) < (L.length : Int)) = true := decide_eq_true h2'
    have HF := Lib.hid (diaI_no0 (n := inp) (L := L) (root := root) (by rw [dia0, decide_eq_false (show ¬ L.length ≤ 2000 by omega)]; simp))
    clear hin3
    go_enter Tryz.func87, Tryz.ntmps87
    go_wp2_with fail
    go_quiet ((first | (go_at_call 89; (with_reducible show Calls _ _ #[Value.int _ inp, _, _] _ _); exact Calls.quiet_of_same (HIN1.out _))))
    go_wp2
    go_ret
    exact ⟨ret_bool (by rw [HF.out]), below_drewN hb0 _⟩
  have h2' : ¬ (2000 : Int) < (L.length : Int) := by omega
  have hd2 : decide ((2000 : Int) < (L.length : Int)) = false := decide_eq_false h2'
  have hn' : L.length ≤ 1048576 := by omega
  have e3 : IntKind.i64.wrap ((L.length : Int) + 1) = (L.length : Int) + 1 := IntWalk.i64_in _ (by omega)
  cases h3 : inB root 0 ((L.length : Int) + 1)
  · rw [h3] at hin3
    have HIN3 := Lib.hid hin3
    have HF := Lib.hid (diaI_no0 (n := inp) (L := L) (root := root) (by rw [dia0, h3]; simp))
    clear hin3 h3
    go_enter Tryz.func87, Tryz.ntmps87
    go_wp2_with fail
    go_quiet ((first | (go_at_call 89; (with_reducible show Calls _ _ #[Value.int _ inp, _, _] _ _); exact Calls.quiet_of_same (HIN1.out _)) | (go_at_call 89; (with_reducible show Calls _ _ #[Value.int _ root, _, _] _ _); exact Calls.quiet_of_same (HIN3.out _)) | (go_at_call 155; exact Calls.quiet_of_same (HLEN.out _))))
    go_wp2
    go_ret
    exact ⟨ret_bool (by rw [HF.out]), below_drewN hb0 _⟩
  have h3' := inBI_true h3
  rw [h3] at hin3
  have HIN3 := Lib.hid hin3
  have HD0 := Lib.hid (show dia0 inp L root = true by rw [dia0, H1.out, h3, decide_eq_true (show L.length ≤ 2000 by omega)]; rfl)
  clear hin3 h3
  go_enter Tryz.func87, Tryz.ntmps87
  go_wp2_with fail
  go_quiet ((first | (go_at_call 89; (with_reducible show Calls _ _ #[Value.int _ inp, _, _] _ _); exact Calls.quiet_of_same (HIN1.out _)) | (go_at_call 89; (with_reducible show Calls _ _ #[Value.int _ root, _, _] _ _); exact Calls.quiet_of_same (HIN3.out _)) | (go_at_call 155; exact Calls.quiet_of_same (HLEN.out _))))
  go_wp2_with fail
  refine Calls.mono impl_newForest ?_
  rintro e w1 ⟨p, mb, rfl, hFor, hb1, hp1⟩
  obtain ⟨wN, hwN⟩ : ∃ wN : World, wN = (w.alloc (.cells #[.int .i64 inp, .slice a L.length c, .int .i64 root] 40)).drewN nq := ⟨_, rfl⟩
  have hbN : Below w.heap.size w wN := by rw [hwN]; exact below_drewN hb0 _
  have XN : Blk wN w.heap.size #[.int .i64 inp, .slice a L.length c, .int .i64 root] 40 := by rw [hwN]; exact X.out.keep (below_drewN (Below.refl _ _) _)
  have hsN : wN.heap.size = w.heap.size + 1 := by rw [hwN]; simp
  rw [← hwN] at hFor hb1
  clear hwN X hb0 y0 y1 y2 yl
  have X1 := Lib.hid (XN.keep hb1)
  have HB1 := Lib.hid (below_callS hbN hb1)
  have HSN := Lib.hid hsN
  have hs1 := hb1.size
  have hlo : w.heap.size + 1 ≤ wN.heap.size := by omega
  have hplo : wN.heap.size ≤ p := hFor.lop
  have hmlo : wN.heap.size ≤ mb := hFor.lom
  have FO1 := Lib.hid (show ∃ na nc mn, ForA w1 wN.heap.size p mb inp na nc mn (L.take 0) from ⟨_, _, _, by simpa using hFor⟩)
  clear hFor hb1 XN hbN hsN hp1
  have x0 := X1.out.cell 0
  have x1 := X1.out.cell 1
  have xl := X1.out.lt
  simp only [List.getElem?_toArray, List.getElem?_cons_succ, List.getElem?_cons_zero] at x0 x1
  go_wp2_with fail
  clear x0 x1 xl
  go_loopw [33] (fun s33 wr => ∃ j : Nat, s33 = .int .i64 j ∧ j ≤ L.length ∧ wN.heap.size ≤ wr.heap.size ∧ Hid (Below w.heap.size w wr) ∧ Hid (Blk wr w.heap.size #[.int .i64 inp, .slice a L.length c, .int .i64 root] 40) ∧ Hid (∃ na nc mn, ForA wr wN.heap.size p mb inp na nc mn (L.take j)) ∧ Hid (upB (ndB inp L) j = true) ∧ Hid (L.take j).Nodup) (fun s33 _ => L.length - (intOf s33).toNat)
  case atStart => exact ⟨0, rfl, by omega, hs1, HB1, X1, FO1, Lib.hid (upB_zero _), Lib.hid (by simp)⟩
  case round =>
    clear X1 HB1 FO1 hs1
    obtain ⟨j, rfl, hj, hsr, HB, X, FO, A, ND⟩ := hrel
    have y0 := X.out.cell 0
    have y1 := X.out.cell 1
    have y2 := X.out.cell 2
    have yl := X.out.lt
    simp only [List.getElem?_toArray, List.getElem?_cons_succ, List.getElem?_cons_zero] at y0 y1 y2
    by_cases hlt : j < L.length
    · have hlt' : (j : Int) < (L.length : Int) := by omega
      have hj0 : (0 : Int) ≤ (j : Int) := by omega
      obtain ⟨b1, o1, x, rfl, hb1, hx, hwf, c0, c1, c2⟩ := F3.get (HI.out.keep HB.out) hlt
      have HX := Lib.hid hx
      have HWF := Lib.hid hwf
      have hwa := hwf.1
      have hwb := hwf.2.1
      have hwc := hwf.2.2
      unfold I64 at hwa hwb hwc
      have e5 : IntKind.i64.wrap (inp - 1) = inp - 1 := IntWalk.i64_in _ (by omega)
      have e6 : IntKind.i64.wrap ((j : Int) + 1) = (j : Int) + 1 := IntWalk.i64_in _ (by omega)
      have e7 : IntKind.i64.wrap ((j : Int) + 2) = (j : Int) + 2 := IntWalk.i64_in _ (by omega)
      have hbA : Below w.heap.size w (wr.alloc (.cells #[.int .i64 x.a, .int .i64 x.b, .int .i64 x.c] 117)) := below_alloc1 HB.out _
      have hbR : Below wr.heap.size wr (wr.alloc (.cells #[.int .i64 x.a, .int .i64 x.b, .int .i64 x.c] 117)) := below_alloc1 (Below.refl _ _) _
      have XA := Lib.hid (X.out.keep hbR)
      have FA := Lib.hid (show ∃ na nc mn, ForA (wr.alloc (.cells #[.int .i64 x.a, .int .i64 x.b, .int .i64 x.c] 117)) wN.heap.size p mb inp na nc mn (L.take j) from by
        obtain ⟨na, nc, mn, h⟩ := FO.out
        exact ⟨na, nc, mn, h.keep hbR⟩)
      have ZA := Lib.hid (Blk.made wr #[.int .i64 x.a, .int .i64 x.b, .int .i64 x.c] 117)
      obtain ⟨wA, hwA⟩ : ∃ wA, wA = wr.alloc (.cells #[.int .i64 x.a, .int .i64 x.b, .int .i64 x.c] 117) := ⟨_, rfl⟩
      rw [← hwA] at hbA XA ZA FA
      clear hx hwf FO
      have d0 := XA.out.cell 0
      have d1 := XA.out.cell 1
      have d2 := XA.out.cell 2
      have dl := XA.out.lt
      have z0 := ZA.out.cell 0
      have z1 := ZA.out.cell 1
      have z2 := ZA.out.cell 2
      have zl := ZA.out.lt
      simp only [List.getElem?_toArray, List.getElem?_cons_succ, List.getElem?_cons_zero] at d0 d1 d2 z0 z1 z2
      have hsA : wN.heap.size ≤ wA.heap.size := by rw [hwA]; simp; omega
      have hrA : Below wA.heap.size wA wA.drew := (Below.refl _ _).drew
      go_wp2_with fail
      rw [← hwA]
      clear hwA y0 y1 y2 yl c0 c1 c2 hbR
      go_wp2_with fail
      refine Calls.mono (impl_within) ?_
      rintro e _ ⟨rfl, rfl⟩
      cases p1 : inB x.a 0 (inp - 1)
      · have HF := Lib.hid (diaI_nol (n := inp) (root := root) hlt (ndB_noI HX.out (fun h => (inBI_no p1) h.inp)))
        go_wp2
        go_ret
        exact ⟨ret_bool (by rw [HF.out]), hbA⟩
      have k1 := inBI_true p1
      clear p1
      by_cases q4 : x.b = x.c
      · have e4 : (x.b == x.c) = true := by simpa using q4
        have Q4 := Lib.hid q4
        have HF := Lib.hid (diaI_nol (n := inp) (root := root) hlt (ndB_noI HX.out (fun h => h.ne Q4.out)))
        clear q4
        go_wp2
        go_ret
        exact ⟨ret_bool (by rw [HF.out]), hbA⟩
      have e4 : (x.b == x.c) = false := by simpa using q4
      have Q4 := Lib.hid q4
      clear q4
      go_wp2_with fail
      go_wp2_with fail
      refine Calls.mono (impl_within) ?_
      rintro e _ ⟨rfl, rfl⟩
      cases p2 : inB x.b 0 ((j : Int) + 1)
      · have HF := Lib.hid (diaI_nol (n := inp) (root := root) hlt (ndB_noI HX.out (fun h => (inBI_no p2) h.low)))
        go_wp2
        go_ret
        exact ⟨ret_bool (by rw [HF.out]), hbA⟩
      have k2 := inBI_true p2
      clear p2
      go_wp2_with fail
      go_wp2_with fail
      refine Calls.mono (impl_within) ?_
      rintro e _ ⟨rfl, rfl⟩
      cases p3 : inB x.c 0 ((j : Int) + 1)
      · have HF := Lib.hid (diaI_nol (n := inp) (root := root) hlt (ndB_noI HX.out (fun h => (inBI_no p3) h.high)))
        go_wp2
        go_ret
        exact ⟨ret_bool (by rw [HF.out]), hbA⟩
      have k3 := inBI_true p3
      clear p3
      have RBb := Lib.hid (show RefB x.b L.length from ⟨k2.1, by omega⟩)
      have RBc := Lib.hid (show RefB x.c L.length from ⟨k3.1, by omega⟩)
      go_wp2_with fail
      by_cases q5 : lvlN inp L x.b ≤ x.a
      · have hd5 : decide (lvlN inp L x.b ≤ x.a) = true := decide_eq_true q5
        have HF := Lib.hid (diaI_nol (n := inp) (root := root) hlt (ndB_noI HX.out (fun h => by have := h.lb; omega)))
        clear HX
        refine wp_region_noPanic ?_
        refine wp_region_held_drew (S := (fun wx => wx.cell? ⟨w.heap.size, 0, none⟩ = some (.int .i64 inp) ∧ wx.cell? ⟨w.heap.size, 1, none⟩ = some (.slice (some ⟨b1, o1, none⟩) L.length c) ∧ wx.cell? ⟨w.heap.size, 2, none⟩ = some (.int .i64 root) ∧ wx.cell? ⟨wr.heap.size, 0, none⟩ = some (.int .i64 x.a) ∧ wx.cell? ⟨wr.heap.size, 1, none⟩ = some (.int .i64 x.b) ∧ wx.cell? ⟨wr.heap.size, 2, none⟩ = some (.int .i64 x.c) ∧ w.heap.size < wx.heap.size ∧ wr.heap.size < wx.heap.size ∧ Below wA.heap.size wA wx)) (by kernel_rfl) ?_ (fun hHeld => ?_)
        · (try dsimp only); (((try go_split_ands); (repeat' apply And.intro) <;> with_reducible (first | assumption | exact (hcx _ _ (by assumption)).trans (by assumption) | exact Nat.lt_of_lt_of_le (by assumption) hsx | exact below_callS (by assumption) hbx | exact Below.drew (by assumption) | exact cellR_drew (by assumption) | exact ltR_drew (by assumption) | exact (Below.refl _ _).drew)))
        refine tkH 0 ?_
        try simp only [pu]
        refine tkH 1 ?_
        try simp only [pu]
        refine tkH 2 ?_
        try simp only [pu]
        refine tkH 4 ?_
        try simp only [pu]
        refine tkH 5 ?_
        try simp only [pu]
        refine wpAnyH_ready (rs := [3]) (by kernel_rfl) (by simp) ?_
        refine AllReadyH.cons rfl (fun K hK => ?_) AllReadyH.nil
        go_simp
        (go_at_call 139; refine Calls.mono (impl_inputOf (HI.out.keep (below_callS hbA (by first | assumption | (go_split_ands; assumption)))) (by omega) RBb.out) ?_; rintro e wx2 ⟨rfl, hbx⟩; obtain ⟨hcx, hfx⟩ := bcell hbx; have hsx := hbx.size)
        go_wp2_with fail
        refine hK.out _ _ ?_ (fun hHeld => ?_)
        · (try dsimp only); (((try go_split_ands); (repeat' apply And.intro) <;> with_reducible (first | assumption | exact (hcx _ _ (by assumption)).trans (by assumption) | exact Nat.lt_of_lt_of_le (by assumption) hsx | exact below_callS (by assumption) hbx | exact Below.drew (by assumption) | exact cellR_drew (by assumption) | exact ltR_drew (by assumption) | exact (Below.refl _ _).drew)))
        clear hK K
        try simp only [pu]
        refine tkH 6 ?_
        try simp only [pu]
        refine tkH 7 ?_
        try simp only [pu]
        refine tkN 8 ?_
        try simp only [pu]
        refine tkN 9 ?_
        try simp only [pu]
        refine tkN 10 ?_
        try simp only [pu]
        refine tkN 11 ?_
        try simp only [pu]
        refine tkN 12 ?_
        try simp only [pu]
        refine tkN 13 ?_
        try simp only [pu]
        refine tkN 14 ?_
        try simp only [pu]
        refine tkH 15 ?_
        try simp only [pu]
        refine tkH 16 ?_
        try simp only [pu]
        refine tkN 17 ?_
        try simp only [pu]
        refine tkN 18 ?_
        try simp only [pu]
        refine tkN 19 ?_
        try simp only [pu]
        refine tkN 20 ?_
        try simp only [pu]
        refine tkN 21 ?_
        try simp only [pu]
        refine tkN 22 ?_
        try simp only [pu]
        refine tkN 23 ?_
        try simp only [pu]
        refine tkN 24 ?_
        try simp only [pu]
        refine tkN 25 ?_
        try simp only [pu]
        refine tkN 26 ?_
        try simp only [pu]
        refine tkN 27 ?_
        try simp only [pu]
        refine tkH 28 ?_
        try simp only [pu]
        refine wpAnyH_done (by kernel_rfl) ?_ _
        refine NoPanic.normal ?_
        go_split_ands
        go_wp2
        go_ret
        exact ⟨ret_bool (by rw [HF.out]), below_callS hbA (by assumption)⟩
      have hd5 : decide (lvlN inp L x.b ≤ x.a) = false := decide_eq_false q5
      by_cases q6 : lvlN inp L x.c ≤ x.a
      · have hd6 : decide (lvlN inp L x.c ≤ x.a) = true := decide_eq_true q6
        have HF := Lib.hid (diaI_nol (n := inp) (root := root) hlt (ndB_noI HX.out (fun h => by have := h.lc; omega)))
        clear HX
        refine wp_region_noPanic ?_
        refine wp_region_held_drew (S := (fun wx => wx.cell? ⟨w.heap.size, 0, none⟩ = some (.int .i64 inp) ∧ wx.cell? ⟨w.heap.size, 1, none⟩ = some (.slice (some ⟨b1, o1, none⟩) L.length c) ∧ wx.cell? ⟨w.heap.size, 2, none⟩ = some (.int .i64 root) ∧ wx.cell? ⟨wr.heap.size, 0, none⟩ = some (.int .i64 x.a) ∧ wx.cell? ⟨wr.heap.size, 1, none⟩ = some (.int .i64 x.b) ∧ wx.cell? ⟨wr.heap.size, 2, none⟩ = some (.int .i64 x.c) ∧ w.heap.size < wx.heap.size ∧ wr.heap.size < wx.heap.size ∧ Below wA.heap.size wA wx)) (by kernel_rfl) ?_ (fun hHeld => ?_)
        · (try dsimp only); (((try go_split_ands); (repeat' apply And.intro) <;> with_reducible (first | assumption | exact (hcx _ _ (by assumption)).trans (by assumption) | exact Nat.lt_of_lt_of_le (by assumption) hsx | exact below_callS (by assumption) hbx | exact Below.drew (by assumption) | exact cellR_drew (by assumption) | exact ltR_drew (by assumption) | exact (Below.refl _ _).drew)))
        refine tkH 0 ?_
        try simp only [pu]
        refine tkH 1 ?_
        try simp only [pu]
        refine tkH 2 ?_
        try simp only [pu]
        refine tkH 4 ?_
        try simp only [pu]
        refine tkH 5 ?_
        try simp only [pu]
        refine wpAnyH_ready (rs := [3]) (by kernel_rfl) (by simp) ?_
        refine AllReadyH.cons rfl (fun K hK => ?_) AllReadyH.nil
        go_simp
        (go_at_call 139; refine Calls.mono (impl_inputOf (HI.out.keep (below_callS hbA (by first | assumption | (go_split_ands; assumption)))) (by omega) RBb.out) ?_; rintro e wx2 ⟨rfl, hbx⟩; obtain ⟨hcx, hfx⟩ := bcell hbx; have hsx := hbx.size)
        go_wp2_with fail
        refine hK.out _ _ ?_ (fun hHeld => ?_)
        · (try dsimp only); (((try go_split_ands); (repeat' apply And.intro) <;> with_reducible (first | assumption | exact (hcx _ _ (by assumption)).trans (by assumption) | exact Nat.lt_of_lt_of_le (by assumption) hsx | exact below_callS (by assumption) hbx | exact Below.drew (by assumption) | exact cellR_drew (by assumption) | exact ltR_drew (by assumption) | exact (Below.refl _ _).drew)))
        clear hK K
        try simp only [pu]
        refine tkH 6 ?_
        try simp only [pu]
        refine tkH 7 ?_
        try simp only [pu]
        refine tkH 8 ?_
        try simp only [pu]
        refine tkH 9 ?_
        try simp only [pu]
        refine tkH 10 ?_
        try simp only [pu]
        refine tkH 12 ?_
        try simp only [pu]
        refine tkH 13 ?_
        try simp only [pu]
        refine wpAnyH_ready (rs := [11]) (by kernel_rfl) (by simp) ?_
        refine AllReadyH.cons rfl (fun K hK => ?_) AllReadyH.nil
        go_simp
        (go_at_call 139; refine Calls.mono (impl_inputOf (HI.out.keep (below_callS hbA (by first | assumption | (go_split_ands; assumption)))) (by omega) RBc.out) ?_; rintro e wx2 ⟨rfl, hbx⟩; obtain ⟨hcx, hfx⟩ := bcell hbx; have hsx := hbx.size)
        go_wp2_with fail
        refine hK.out _ _ ?_ (fun hHeld => ?_)
        · (try dsimp only); (((try go_split_ands); (repeat' apply And.intro) <;> with_reducible (first | assumption | exact (hcx _ _ (by assumption)).trans (by assumption) | exact Nat.lt_of_lt_of_le (by assumption) hsx | exact below_callS (by assumption) hbx | exact Below.drew (by assumption) | exact cellR_drew (by assumption) | exact ltR_drew (by assumption) | exact (Below.refl _ _).drew)))
        clear hK K
        try simp only [pu]
        refine tkH 14 ?_
        try simp only [pu]
        refine tkH 15 ?_
        try simp only [pu]
        refine tkH 16 ?_
        try simp only [pu]
        refine tkN 17 ?_
        try simp only [pu]
        refine tkN 18 ?_
        try simp only [pu]
        refine tkN 19 ?_
        try simp only [pu]
        refine tkN 20 ?_
        try simp only [pu]
        refine tkN 21 ?_
        try simp only [pu]
        refine tkN 22 ?_
        try simp only [pu]
        refine tkN 23 ?_
        try simp only [pu]
        refine tkN 24 ?_
        try simp only [pu]
        refine tkN 25 ?_
        try simp only [pu]
        refine tkN 26 ?_
        try simp only [pu]
        refine tkN 27 ?_
        try simp only [pu]
        refine tkH 28 ?_
        try simp only [pu]
        refine wpAnyH_done (by kernel_rfl) ?_ _
        refine NoPanic.normal ?_
        go_split_ands
        go_wp2
        go_ret
        exact ⟨ret_bool (by rw [HF.out]), below_callS hbA (by assumption)⟩
      have hd6 : decide (lvlN inp L x.c ≤ x.a) = false := decide_eq_false q6
      obtain ⟨na, nc, mn, hfa⟩ := FA.out
      have htl : (L.take j).length = j := by rw [List.length_take]; omega
      have HTL := Lib.hid htl
      clear FA
      by_cases hin : x ∈ L.take j
      · have HF := Lib.hid (diaI_dup (n := inp) (root := root) (dup_at HX.out hin))
        obtain ⟨k, hk⟩ : ∃ k, posN x (L.take j) = some k := by
          cases h : posN x (L.take j) with
          | none => exact absurd hin (posN_none.1 h)
          | some k => exact ⟨k, rfl⟩
        have hkj : k < j := by
          have := (List.getElem?_eq_some_iff.1 (posN_some hk).1).1
          omega
        have HM := Lib.hid (mkN_old Q4.out (show posN ⟨x.a, x.b, x.c⟩ (L.take j) = some k from hk))
        have hne : ((k : Int) + 2 == (j : Int) + 2) = false := by simp; omega
        have hne2 : ((k : Int) == (j : Int)) = false := by simp; omega
        have hne3 : ¬ (k : Int) = (j : Int) := by omega
        have hne4 : ¬ k = j := by omega
        clear hin hk htl
        refine wp_region_noPanic ?_
        refine wp_region_M (L := 24) (S := (fun wx => wx.cell? ⟨w.heap.size, 0, none⟩ = some (.int .i64 inp) ∧ wx.cell? ⟨w.heap.size, 1, none⟩ = some (.slice (some ⟨b1, o1, none⟩) L.length c) ∧ wx.cell? ⟨w.heap.size, 2, none⟩ = some (.int .i64 root) ∧ wx.cell? ⟨wr.heap.size, 0, none⟩ = some (.int .i64 x.a) ∧ wx.cell? ⟨wr.heap.size, 1, none⟩ = some (.int .i64 x.b) ∧ wx.cell? ⟨wr.heap.size, 2, none⟩ = some (.int .i64 x.c) ∧ w.heap.size < wx.heap.size ∧ wr.heap.size < wx.heap.size ∧ Below wA.heap.size wA wx)) (by kernel_rfl) ?_ (fun hHeld => ?_)
        · exact ⟨d0, d1, d2, z0, z1, z2, dl, zl, hrA⟩
        clear d0 d1 d2 z0 z1 z2
        refine tkM0 0 (v := ?_) ?_ ?_
        rotate_left
        · (intro wv hSw; (try dsimp only at hSw); obtain ⟨h1, h2, h3, h4, h5, h6, h7, h8, h9⟩ := hSw; go_simp; try with_reducible rfl)
        try simp only [pu]
        refine tkM0 1 (v := ?_) ?_ ?_
        rotate_left
        · (intro wv hSw; (try dsimp only at hSw); obtain ⟨h1, h2, h3, h4, h5, h6, h7, h8, h9⟩ := hSw; go_simp; try with_reducible rfl)
        try simp only [pu]
        refine tkM0 2 (v := ?_) ?_ ?_
        rotate_left
        · (intro wv hSw; (try dsimp only at hSw); obtain ⟨h1, h2, h3, h4, h5, h6, h7, h8, h9⟩ := hSw; go_simp; try with_reducible rfl)
        try simp only [pu]
        refine tkM0 4 (v := ?_) ?_ ?_
        rotate_left
        · (intro wv hSw; (try dsimp only at hSw); obtain ⟨h1, h2, h3, h4, h5, h6, h7, h8, h9⟩ := hSw; go_simp; try with_reducible rfl)
        try simp only [pu]
        refine tkM0 5 (v := ?_) ?_ ?_
        rotate_left
        · (intro wv hSw; (try dsimp only at hSw); obtain ⟨h1, h2, h3, h4, h5, h6, h7, h8, h9⟩ := hSw; go_simp; try with_reducible rfl)
        try simp only [pu]
        refine wpAnyM_ready (rs := [3]) (by kernel_rfl) (by simp) ?_
        refine AllReadyM.cons rfl (fun K hK => ?_) AllReadyM.nil
        go_simp
        (refine Calls.mono (impl_inputOf (HI.out.keep (below_callS hbA (by first | assumption | (go_split_ands; assumption)))) (by omega) RBb.out) ?_; rintro e wx2 ⟨rfl, hbx⟩; obtain ⟨hcx, hfx⟩ := bcell hbx; have hsx := hbx.size)
        go_wp2_with fail
        refine hK.out _ _ ?_ (fun hHeld => ?_)
        · (try dsimp only); (((try go_split_ands); (repeat' apply And.intro) <;> with_reducible (first | assumption | exact (hcx _ _ (by assumption)).trans (by assumption) | exact Nat.lt_of_lt_of_le (by assumption) hsx | exact below_callS (by assumption) hbx | exact Below.drew (by assumption) | exact cellR_drew (by assumption) | exact ltR_drew (by assumption) | exact (Below.refl _ _).drew)))
        clear hK K
        try simp only [pu]
        refine tkP 6 ?_
        try simp only [pu]
        refine tkP 7 ?_
        try simp only [pu]
        refine tkM0 8 (v := ?_) ?_ ?_
        rotate_left
        · (intro wv hSw; (try dsimp only at hSw); obtain ⟨h1, h2, h3, h4, h5, h6, h7, h8, h9⟩ := hSw; go_simp; try with_reducible rfl)
        try simp only [pu]
        refine tkM0 9 (v := ?_) ?_ ?_
        rotate_left
        · (intro wv hSw; (try dsimp only at hSw); obtain ⟨h1, h2, h3, h4, h5, h6, h7, h8, h9⟩ := hSw; go_simp; try with_reducible rfl)
        try simp only [pu]
        refine tkM0 10 (v := ?_) ?_ ?_
        rotate_left
        · (intro wv hSw; (try dsimp only at hSw); obtain ⟨h1, h2, h3, h4, h5, h6, h7, h8, h9⟩ := hSw; go_simp; try with_reducible rfl)
        try simp only [pu]
        refine tkM0 12 (v := ?_) ?_ ?_
        rotate_left
        · (intro wv hSw; (try dsimp only at hSw); obtain ⟨h1, h2, h3, h4, h5, h6, h7, h8, h9⟩ := hSw; go_simp; try with_reducible rfl)
        try simp only [pu]
        refine tkM0 13 (v := ?_) ?_ ?_
        rotate_left
        · (intro wv hSw; (try dsimp only at hSw); obtain ⟨h1, h2, h3, h4, h5, h6, h7, h8, h9⟩ := hSw; go_simp; try with_reducible rfl)
        try simp only [pu]
        refine wpAnyM_ready (rs := [11]) (by kernel_rfl) (by simp) ?_
        refine AllReadyM.cons rfl (fun K hK => ?_) AllReadyM.nil
        go_simp
        (refine Calls.mono (impl_inputOf (HI.out.keep (below_callS hbA (by first | assumption | (go_split_ands; assumption)))) (by omega) RBc.out) ?_; rintro e wx2 ⟨rfl, hbx⟩; obtain ⟨hcx, hfx⟩ := bcell hbx; have hsx := hbx.size)
        go_wp2_with fail
        refine hK.out _ _ ?_ (fun hHeld => ?_)
        · (try dsimp only); (((try go_split_ands); (repeat' apply And.intro) <;> with_reducible (first | assumption | exact (hcx _ _ (by assumption)).trans (by assumption) | exact Nat.lt_of_lt_of_le (by assumption) hsx | exact below_callS (by assumption) hbx | exact Below.drew (by assumption) | exact cellR_drew (by assumption) | exact ltR_drew (by assumption) | exact (Below.refl _ _).drew)))
        clear hK K
        try simp only [pu]
        refine tkP 14 ?_
        try simp only [pu]
        refine tkP 15 ?_
        try simp only [pu]
        refine tkP 16 ?_
        try simp only [pu]
        refine tkM0 17 (v := ?_) ?_ ?_
        rotate_left
        · (intro wv hSw; (try dsimp only at hSw); obtain ⟨h1, h2, h3, h4, h5, h6, h7, h8, h9⟩ := hSw; go_simp; try with_reducible rfl)
        try simp only [pu]
        refine tkM0 18 (v := ?_) ?_ ?_
        rotate_left
        · (intro wv hSw; (try dsimp only at hSw); obtain ⟨h1, h2, h3, h4, h5, h6, h7, h8, h9⟩ := hSw; go_simp; try with_reducible rfl)
        try simp only [pu]
        refine tkM0 19 (v := ?_) ?_ ?_
        rotate_left
        · (intro wv hSw; (try dsimp only at hSw); obtain ⟨h1, h2, h3, h4, h5, h6, h7, h8, h9⟩ := hSw; go_simp; try with_reducible rfl)
        try simp only [pu]
        refine tkM0 20 (v := ?_) ?_ ?_
        rotate_left
        · (intro wv hSw; (try dsimp only at hSw); obtain ⟨h1, h2, h3, h4, h5, h6, h7, h8, h9⟩ := hSw; go_simp; try with_reducible rfl)
        try simp only [pu]
        refine tkM0 21 (v := ?_) ?_ ?_
        rotate_left
        · (intro wv hSw; (try dsimp only at hSw); obtain ⟨h1, h2, h3, h4, h5, h6, h7, h8, h9⟩ := hSw; go_simp; try with_reducible rfl)
        try simp only [pu]
        refine tkM0 22 (v := ?_) ?_ ?_
        rotate_left
        · (intro wv hSw; (try dsimp only at hSw); obtain ⟨h1, h2, h3, h4, h5, h6, h7, h8, h9⟩ := hSw; go_simp; try with_reducible rfl)
        try simp only [pu]
        refine tkM0 23 (v := ?_) ?_ ?_
        rotate_left
        · (intro wv hSw; (try dsimp only at hSw); obtain ⟨h1, h2, h3, h4, h5, h6, h7, h8, h9⟩ := hSw; go_simp; try with_reducible rfl)
        try simp only [pu]
        refine tkP 25 ?_
        try simp only [pu]
        refine tkP 26 ?_
        try simp only [pu]
        have hbh : Below wA.heap.size wA wx2 := hHeld.2.2.2.2.2.2.2.2
        refine wpAnyM_ready (rs := [24]) (by kernel_rfl) (by simp) ?_
        refine AllReadyM.last rfl (fun K hK => ?_)
        go_simp
        refine Calls.mono (impl_node (hfa.keep hbh) (by have := HTL.out; omega) HWF.out.1 HWF.out.2.1 HWF.out.2.2 (Nat.le_trans hsA hbh.size)) ?_
        rintro e wE ⟨rfl, hFE, hfr⟩
        rw [HM.out] at hFE ⊢
        go_wp2_with fail
        refine hK.out _ _ ?_
        clear hK K
        try simp only [pu]
        refine tkP 27 ?_
        try simp only [pu]
        refine tkP 28 ?_
        try simp only [pu]
        refine wpAnyM_done (by kernel_rfl) ?_ _
        refine NoPanic.normal ?_
        have hBE : Below w.heap.size w wE := hfr.below (below_callS hbA hbh) (Nat.le_trans hbA.size hbh.size) (by omega) (by omega) (by omega)
        go_wp2
        go_ret
        exact ⟨ret_bool (by rw [HF.out]), hBE⟩
      · have HM := Lib.hid (show mkN (L.take j) x.a x.b x.c = (L.take j ++ [x], (j : Int) + 2) by rw [mkN_new Q4.out hin, htl])
        have HIN := Lib.hid hin
        clear hin htl
        refine wp_region_noPanic ?_
        refine wp_region_M (L := 24) (S := (fun wx => wx.cell? ⟨w.heap.size, 0, none⟩ = some (.int .i64 inp) ∧ wx.cell? ⟨w.heap.size, 1, none⟩ = some (.slice (some ⟨b1, o1, none⟩) L.length c) ∧ wx.cell? ⟨w.heap.size, 2, none⟩ = some (.int .i64 root) ∧ wx.cell? ⟨wr.heap.size, 0, none⟩ = some (.int .i64 x.a) ∧ wx.cell? ⟨wr.heap.size, 1, none⟩ = some (.int .i64 x.b) ∧ wx.cell? ⟨wr.heap.size, 2, none⟩ = some (.int .i64 x.c) ∧ w.heap.size < wx.heap.size ∧ wr.heap.size < wx.heap.size ∧ Below wA.heap.size wA wx)) (by kernel_rfl) ?_ (fun hHeld => ?_)
        · exact ⟨d0, d1, d2, z0, z1, z2, dl, zl, hrA⟩
        clear d0 d1 d2 z0 z1 z2
        refine tkM0 0 (v := ?_) ?_ ?_
        rotate_left
        · (intro wv hSw; (try dsimp only at hSw); obtain ⟨h1, h2, h3, h4, h5, h6, h7, h8, h9⟩ := hSw; go_simp; try with_reducible rfl)
        try simp only [pu]
        refine tkM0 1 (v := ?_) ?_ ?_
        rotate_left
        · (intro wv hSw; (try dsimp only at hSw); obtain ⟨h1, h2, h3, h4, h5, h6, h7, h8, h9⟩ := hSw; go_simp; try with_reducible rfl)
        try simp only [pu]
        refine tkM0 2 (v := ?_) ?_ ?_
        rotate_left
        · (intro wv hSw; (try dsimp only at hSw); obtain ⟨h1, h2, h3, h4, h5, h6, h7, h8, h9⟩ := hSw; go_simp; try with_reducible rfl)
        try simp only [pu]
        refine tkM0 4 (v := ?_) ?_ ?_
        rotate_left
        · (intro wv hSw; (try dsimp only at hSw); obtain ⟨h1, h2, h3, h4, h5, h6, h7, h8, h9⟩ := hSw; go_simp; try with_reducible rfl)
        try simp only [pu]
        refine tkM0 5 (v := ?_) ?_ ?_
        rotate_left
        · (intro wv hSw; (try dsimp only at hSw); obtain ⟨h1, h2, h3, h4, h5, h6, h7, h8, h9⟩ := hSw; go_simp; try with_reducible rfl)
        try simp only [pu]
        refine wpAnyM_ready (rs := [3]) (by kernel_rfl) (by simp) ?_
        refine AllReadyM.cons rfl (fun K hK => ?_) AllReadyM.nil
        go_simp
        (refine Calls.mono (impl_inputOf (HI.out.keep (below_callS hbA (by first | assumption | (go_split_ands; assumption)))) (by omega) RBb.out) ?_; rintro e wx2 ⟨rfl, hbx⟩; obtain ⟨hcx, hfx⟩ := bcell hbx; have hsx := hbx.size)
        go_wp2_with fail
        refine hK.out _ _ ?_ (fun hHeld => ?_)
        · (try dsimp only); (((try go_split_ands); (repeat' apply And.intro) <;> with_reducible (first | assumption | exact (hcx _ _ (by assumption)).trans (by assumption) | exact Nat.lt_of_lt_of_le (by assumption) hsx | exact below_callS (by assumption) hbx | exact Below.drew (by assumption) | exact cellR_drew (by assumption) | exact ltR_drew (by assumption) | exact (Below.refl _ _).drew)))
        clear hK K
        try simp only [pu]
        refine tkP 6 ?_
        try simp only [pu]
        refine tkP 7 ?_
        try simp only [pu]
        refine tkM0 8 (v := ?_) ?_ ?_
        rotate_left
        · (intro wv hSw; (try dsimp only at hSw); obtain ⟨h1, h2, h3, h4, h5, h6, h7, h8, h9⟩ := hSw; go_simp; try with_reducible rfl)
        try simp only [pu]
        refine tkM0 9 (v := ?_) ?_ ?_
        rotate_left
        · (intro wv hSw; (try dsimp only at hSw); obtain ⟨h1, h2, h3, h4, h5, h6, h7, h8, h9⟩ := hSw; go_simp; try with_reducible rfl)
        try simp only [pu]
        refine tkM0 10 (v := ?_) ?_ ?_
        rotate_left
        · (intro wv hSw; (try dsimp only at hSw); obtain ⟨h1, h2, h3, h4, h5, h6, h7, h8, h9⟩ := hSw; go_simp; try with_reducible rfl)
        try simp only [pu]
        refine tkM0 12 (v := ?_) ?_ ?_
        rotate_left
        · (intro wv hSw; (try dsimp only at hSw); obtain ⟨h1, h2, h3, h4, h5, h6, h7, h8, h9⟩ := hSw; go_simp; try with_reducible rfl)
        try simp only [pu]
        refine tkM0 13 (v := ?_) ?_ ?_
        rotate_left
        · (intro wv hSw; (try dsimp only at hSw); obtain ⟨h1, h2, h3, h4, h5, h6, h7, h8, h9⟩ := hSw; go_simp; try with_reducible rfl)
        try simp only [pu]
        refine wpAnyM_ready (rs := [11]) (by kernel_rfl) (by simp) ?_
        refine AllReadyM.cons rfl (fun K hK => ?_) AllReadyM.nil
        go_simp
        (refine Calls.mono (impl_inputOf (HI.out.keep (below_callS hbA (by first | assumption | (go_split_ands; assumption)))) (by omega) RBc.out) ?_; rintro e wx2 ⟨rfl, hbx⟩; obtain ⟨hcx, hfx⟩ := bcell hbx; have hsx := hbx.size)
        go_wp2_with fail
        refine hK.out _ _ ?_ (fun hHeld => ?_)
        · (try dsimp only); (((try go_split_ands); (repeat' apply And.intro) <;> with_reducible (first | assumption | exact (hcx _ _ (by assumption)).trans (by assumption) | exact Nat.lt_of_lt_of_le (by assumption) hsx | exact below_callS (by assumption) hbx | exact Below.drew (by assumption) | exact cellR_drew (by assumption) | exact ltR_drew (by assumption) | exact (Below.refl _ _).drew)))
        clear hK K
        try simp only [pu]
        refine tkP 14 ?_
        try simp only [pu]
        refine tkP 15 ?_
        try simp only [pu]
        refine tkP 16 ?_
        try simp only [pu]
        refine tkM0 17 (v := ?_) ?_ ?_
        rotate_left
        · (intro wv hSw; (try dsimp only at hSw); obtain ⟨h1, h2, h3, h4, h5, h6, h7, h8, h9⟩ := hSw; go_simp; try with_reducible rfl)
        try simp only [pu]
        refine tkM0 18 (v := ?_) ?_ ?_
        rotate_left
        · (intro wv hSw; (try dsimp only at hSw); obtain ⟨h1, h2, h3, h4, h5, h6, h7, h8, h9⟩ := hSw; go_simp; try with_reducible rfl)
        try simp only [pu]
        refine tkM0 19 (v := ?_) ?_ ?_
        rotate_left
        · (intro wv hSw; (try dsimp only at hSw); obtain ⟨h1, h2, h3, h4, h5, h6, h7, h8, h9⟩ := hSw; go_simp; try with_reducible rfl)
        try simp only [pu]
        refine tkM0 20 (v := ?_) ?_ ?_
        rotate_left
        · (intro wv hSw; (try dsimp only at hSw); obtain ⟨h1, h2, h3, h4, h5, h6, h7, h8, h9⟩ := hSw; go_simp; try with_reducible rfl)
        try simp only [pu]
        refine tkM0 21 (v := ?_) ?_ ?_
        rotate_left
        · (intro wv hSw; (try dsimp only at hSw); obtain ⟨h1, h2, h3, h4, h5, h6, h7, h8, h9⟩ := hSw; go_simp; try with_reducible rfl)
        try simp only [pu]
        refine tkM0 22 (v := ?_) ?_ ?_
        rotate_left
        · (intro wv hSw; (try dsimp only at hSw); obtain ⟨h1, h2, h3, h4, h5, h6, h7, h8, h9⟩ := hSw; go_simp; try with_reducible rfl)
        try simp only [pu]
        refine tkM0 23 (v := ?_) ?_ ?_
        rotate_left
        · (intro wv hSw; (try dsimp only at hSw); obtain ⟨h1, h2, h3, h4, h5, h6, h7, h8, h9⟩ := hSw; go_simp; try with_reducible rfl)
        try simp only [pu]
        refine tkP 25 ?_
        try simp only [pu]
        refine tkP 26 ?_
        try simp only [pu]
        have hbh : Below wA.heap.size wA wx2 := hHeld.2.2.2.2.2.2.2.2
        refine wpAnyM_ready (rs := [24]) (by kernel_rfl) (by simp) ?_
        refine AllReadyM.last rfl (fun K hK => ?_)
        go_simp
        refine Calls.mono (impl_node (hfa.keep hbh) (by have := HTL.out; omega) HWF.out.1 HWF.out.2.1 HWF.out.2.2 (Nat.le_trans hsA hbh.size)) ?_
        rintro e wE ⟨rfl, hFE, hfr⟩
        rw [HM.out] at hFE ⊢
        go_wp2_with fail
        refine hK.out _ _ ?_
        clear hK K
        try simp only [pu]
        refine tkP 27 ?_
        try simp only [pu]
        refine tkP 28 ?_
        try simp only [pu]
        refine wpAnyM_done (by kernel_rfl) ?_ _
        refine NoPanic.normal ?_
        have hBE : Below w.heap.size w wE := hfr.below (below_callS hbA hbh) (Nat.le_trans hbA.size hbh.size) (by omega) (by omega) (by omega)
        have hXE := (XA.out.keep hbh).frf hfr (by omega) (by decide) (by omega)
        have hsE : wN.heap.size ≤ wE.heap.size := Nat.le_trans hsA (Nat.le_trans hbh.size hfr.size)
        go_wp2_with fail
        go_roundw
        case rel =>
          refine ⟨j + 1, by go_num, by omega, hsE, Lib.hid hBE, Lib.hid hXE, Lib.hid ?_, Lib.hid (upB_step A.out ((ndB_iff HX.out).2 ⟨by omega, by omega, by omega, Q4.out, by omega, by omega⟩)), Lib.hid (nodup_next HX.out ND.out HIN.out)⟩
          rw [take_at HX.out]
          exact hFE
        case measure => simp [intOf]; omega
    · have hjn : j = L.length := by omega
      subst hjn
      have hlt' : ¬ (L.length : Int) < (L.length : Int) := by omega
      obtain ⟨hF, hdf⟩ := nds_frst A.out
      have hnd := ND.out
      obtain ⟨na, nc, mn, hfa⟩ := FO.out
      rw [List.take_length] at hnd hfa
      have hR : Redu L := ⟨hnd, hF, hdf⟩
      have hr' : RefB root L.length := ⟨h3'.1, by omega⟩
      have HFA := Lib.hid hfa
      have hcl := can_length hR hr'
      have HF := Lib.hid (show diaB inp L root = decide (((canN mkN L root).1, (canN mkN L root).2) = (L, root)) by rw [diaB, HD0.out, A.out]; rfl)
      clear hfa FO hj
      go_wp2_with fail
      refine Calls.mono (impl_canonical HFA.out hR (Nat.le_trans hn' (by decide)) HI64.out hr') ?_
      rintro e w2 ⟨da, dc, rfl, hO, hb2⟩
      have X2 := Lib.hid (X.out.keep hb2)
      have O2 := Lib.hid hO
      have HB2 := Lib.hid (below_callS HB.out hb2)
      clear hO hb2 y0 y1 y2 yl
      have y1 := X2.out.cell 1
      have y2 := X2.out.cell 2
      have yl := X2.out.lt
      simp only [List.getElem?_toArray, List.getElem?_cons_succ, List.getElem?_cons_zero] at y1 y2
      by_cases hq : (canN mkN L root).2 = root
      · have e9 : ((canN mkN L root).2 == root) = true := by simpa using hq
        have HQ := Lib.hid hq
        clear hq
        go_wp2_with fail
        have hb3 := fun (o : Obj) => below_alloc1 (Below.refl w2.heap.size w2) o
        refine Calls.mono (slices_EqualN (O2.out.flats.keep (hb3 _)) (HI.out.keep (below_callS HB2.out (hb3 _))) (by omega) hn') ?_
        rintro e w3 ⟨rfl, hb4⟩
        go_wp2
        go_ret
        exact ⟨ret_bool (by rw [HF.out, HQ.out]; simp), below_callS (below_callS HB2.out (hb3 _)) hb4⟩
      · have e9 : ((canN mkN L root).2 == root) = false := by simpa using hq
        have HQ := Lib.hid hq
        clear hq
        go_wp2
        go_ret
        exact ⟨ret_bool (by rw [HF.out]; symm; apply decide_eq_false; intro e; simp only [Prod.mk.injEq] at e; exact HQ.out e.2), below_alloc1 HB2.out _⟩
end Go.Proofs.YtkaikbaagajckaaGreat
