/- Models: variables, states and tests, walked.; Models: states and tests, walked.; Models: tests, walked.; Models: tests of the reference, walked.; Names of rules, walked. -/
import Derived.Test.YtcnjnkjnpfpaeaaL01
import Derived.Test.YtcnjnkjnpfpaeaaEx
import Derived.Test.YtcnjnkjnpfpaeaaFl
import Derived.Test.YtcnjnkjnpfpaeaaSl
import Derived.Test.YtcnjnkjnpfpaeaaSh
import Derived.Lib.IndexAny
namespace Go.Proofs.Ytcnjnkjnpfpaeaa
open Go.RowKit
set_option linter.unusedVariables false
set_option linter.unusedSimpArgs false
/-- a rule and a model as they are meant -/
structure RuD where
  nm : ByteArray
  g : List I2b
  e : List I2
structure MoD where
  sz : List Int
  st : List Int
  ru : List RuD
/-- a rule as it lies in memory -/
structure RM where
  nm : ByteArray
  ga : Option Addr
  gn : Nat
  gc : Nat
  ea : Option Addr
  en : Nat
  ec : Nat
def RM.enc (r : RM) : List Value := [.string r.nm, .slice r.ga r.gn r.gc, .slice r.ea r.en r.ec]
def hasB (sz : List Int) (v x : Int) : Bool := inB v 0 ((sz.length : Int) - 1) && inB x 0 (sz.getD v.toNat 0 - 1)
theorem hasB_no {sz : List Int} {v x : Int} (h : inB v 0 ((sz.length : Int) - 1) = false) : hasB sz v x = false := by rw [hasB, h]; rfl
theorem hasB_yes {sz : List Int} {v : Nat} {x z : Int} (hz : sz[v]? = some z) : hasB sz (v : Int) x = inB x 0 (z - 1) := by
  have h1 : v < sz.length := (List.getElem?_eq_some_iff.1 hz).1
  have h2 : inB (v : Int) 0 ((sz.length : Int) - 1) = true := by simp [inB]; omega
  rw [hasB, h2, Int.toNat_natCast, List.getD_eq_getElem?_getD, hz]; rfl
theorem allIn_at {lo hi : Int} {l : List Int} {k : Nat} {z : Int} (h : allIn lo hi l = true) (hz : l[k]? = some z) : lo ≤ z ∧ z ≤ hi := by
  have := List.all_eq_true.1 h z (List.mem_of_getElem? hz)
  simpa [inB] using this
set_option maxHeartbeats 1000000 in
theorem impl_has {v x : Int} {sa ta ra : Option Addr} {sn sc tn tc rn rc : Nat} {sz : List Int} {w : World} (hI : Ints w sa sn sc sz) (hn : sn ≤ 1048576) (hs : allIn 1 32 sz = true) :
    Calls Try.prog 51 #[.agg #[.slice sa sn sc, .slice ta tn tc, .slice ra rn rc], .int .i64 v, .int .i64 x] w fun e w' => e = .returned (.bool (hasB sz v x)) ∧ Below w.heap.size w w' := by
  have hl := hI.len
  have e1 : IntKind.i64.wrap ((sn : Int) - 1) = (sn : Int) - 1 := IntWalk.i64_in _ (by omega)
  cases hv : inB v 0 ((sn : Int) - 1)
  · have HB := Lib.hid (hasB_no (x := x) (show inB v 0 ((sz.length : Int) - 1) = false by rw [hl]; exact hv))
    have HV := Lib.hid hv
    clear hv hI hl
    go_enter Try.func51, Try.ntmps51
    go_wp2_with fail
    refine Calls.mono (impl_length_i64) ?_
    rintro e _ ⟨rfl, rfl⟩
    go_wp2_with fail
    refine Calls.mono (impl_within) ?_
    rintro e _ ⟨rfl, rfl⟩
    rw [HV.out]
    go_wp2
    go_ret
    exact ⟨ret_bool HB.out.symm, bel⟩
  · have HV := Lib.hid hv
    have hv2 := hv
    simp [inB] at hv2
    obtain ⟨q, rfl⟩ := Int.eq_ofNat_of_zero_le hv2.1
    obtain ⟨b, off, z, rfl, hb, hz, hcell, hwf⟩ := hI.at (k := q) (by omega)
    have HB := Lib.hid (hasB_yes (x := x) hz)
    have hq0 : (0 : Int) ≤ (q : Int) := by omega
    have hq1 : (q : Int) < (sn : Int) := by omega
    have hz12 := allIn_at hs hz
    have hz1 := hz12.1
    have hz2 := hz12.2
    have e2 : IntKind.i64.wrap (z - 1) = z - 1 := IntWalk.i64_in _ (by omega)
    clear hv hI hl hz hs hz12
    go_enter Try.func51, Try.ntmps51
    go_wp2_with fail
    refine Calls.mono (impl_length_i64) ?_
    rintro e _ ⟨rfl, rfl⟩
    go_wp2_with fail
    refine Calls.mono (impl_within) ?_
    rintro e _ ⟨rfl, rfl⟩
    rw [HV.out]
    go_wp2_with fail
    refine Calls.mono (impl_within) ?_
    rintro e _ ⟨rfl, rfl⟩
    go_wp2
    go_ret
    exact ⟨ret_bool HB.out.symm, bel⟩
set_option maxHeartbeats 1000000 in
theorem spec_l20Has {v x : Int} {sa ta ra : Option Addr} {sn sc tn tc rn rc : Nat} {sz : List Int} {w : World} (hI : Ints w sa sn sc sz) (hn : sn ≤ 1048576) (hs : allIn 1 32 sz = true) :
    Calls Try.prog 53 #[.agg #[.slice sa sn sc, .slice ta tn tc, .slice ra rn rc], .int .i64 v, .int .i64 x] w fun e w' => e = .returned (.bool (hasB sz v x)) ∧ Below w.heap.size w w' := by
  have hl := hI.len
  have e1 : IntKind.i64.wrap ((sn : Int) - 1) = (sn : Int) - 1 := IntWalk.i64_in _ (by omega)
  cases hv : inB v 0 ((sn : Int) - 1)
  · have HB := Lib.hid (hasB_no (x := x) (show inB v 0 ((sz.length : Int) - 1) = false by rw [hl]; exact hv))
    have HV := Lib.hid hv
    clear hv hI hl
    go_enter Try.func53, Try.ntmps53
    go_wp2_with fail
    refine Calls.mono (spec_l01In) ?_
    rintro e _ ⟨rfl, rfl⟩
    rw [HV.out]
    go_wp2
    go_ret
    exact ⟨ret_bool HB.out.symm, bel⟩
  · have HV := Lib.hid hv
    have hv2 := hv
    simp [inB] at hv2
    obtain ⟨q, rfl⟩ := Int.eq_ofNat_of_zero_le hv2.1
    obtain ⟨b, off, z, rfl, hb, hz, hcell, hwf⟩ := hI.at (k := q) (by omega)
    have HB := Lib.hid (hasB_yes (x := x) hz)
    have hq0 : (0 : Int) ≤ (q : Int) := by omega
    have hq1 : (q : Int) < (sn : Int) := by omega
    have hz12 := allIn_at hs hz
    have hz1 := hz12.1
    have hz2 := hz12.2
    have e2 : IntKind.i64.wrap (z - 1) = z - 1 := IntWalk.i64_in _ (by omega)
    clear hv hI hl hz hs hz12
    go_enter Try.func53, Try.ntmps53
    go_wp2_with fail
    refine Calls.mono (spec_l01In) ?_
    rintro e _ ⟨rfl, rfl⟩
    rw [HV.out]
    go_wp2_with fail
    refine Calls.mono (spec_l01In) ?_
    rintro e _ ⟨rfl, rfl⟩
    go_wp2
    go_ret
    exact ⟨ret_bool HB.out.symm, bel⟩
def stateB (sz vs : List Int) : Bool := decide (vs.length = sz.length) && upB (fun i => hasB sz (i : Int) (vs.getD i 0)) vs.length
def testsB (sz : List Int) (g : List I2b) : Bool := decide (g.length ≤ 24) && g.all fun t => hasB sz t.a t.b
theorem getD_of {l : List Int} {k : Nat} {x : Int} (h : l[k]? = some x) : l.getD k 0 = x := by rw [List.getD_eq_getElem?_getD, h]; rfl
theorem stateB_ne {sz vs : List Int} (h : vs.length ≠ sz.length) : stateB sz vs = false := by rw [stateB, decide_eq_false h]; rfl
theorem stateB_eq {sz vs : List Int} (h : vs.length = sz.length) : stateB sz vs = upB (fun i => hasB sz (i : Int) (vs.getD i 0)) vs.length := by rw [stateB, decide_eq_true h, Bool.true_and]
set_option maxHeartbeats 1000000 in
theorem impl_isState {sa ta ra va : Option Addr} {sn sc tn tc rn rc vn vc : Nat} {sz vs : List Int} {w : World} (hI : Ints w sa sn sc sz) (hV : Ints w va vn vc vs) (hn : sn ≤ 1048576) (hv : vn ≤ 1048576) (hs : allIn 1 32 sz = true) :
    Calls Try.prog 32 #[.agg #[.slice sa sn sc, .slice ta tn tc, .slice ra rn rc], .slice va vn vc] w fun e w' => e = .returned (.bool (stateB sz vs)) ∧ Below w.heap.size w w' := by
  have hl := hI.len
  have hvl := hV.len
  have HI := Lib.hid hI
  have HV := Lib.hid hV
  have HS := Lib.hid hs
  clear hI hV hs
  by_cases hne : vn = sn
  · subst hne
    have hd : ((vn : Int) != (vn : Int)) = false := by simp
    have HB := Lib.hid (stateB_eq (sz := sz) (vs := vs) (by omega))
    have X := Lib.hid (Blk.made w #[.slice sa vn sc, .slice ta tn tc, .slice ra rn rc] 27)
    obtain ⟨wA, hwA⟩ : ∃ wA : World, wA = w.alloc (.cells #[.slice sa vn sc, .slice ta tn tc, .slice ra rn rc] 27) := ⟨_, rfl⟩
    have hbA : Below w.heap.size w wA := by rw [hwA]; exact bel
    rw [← hwA] at X
    have HwA := Lib.hid hwA
    have HL := Lib.hid hvl
    clear hwA hvl hl
    go_enter Try.func32, Try.ntmps32
    go_wp2_with fail
    rw [← HwA.out]
    clear HwA
    go_loopw [15] (fun s15 wr => ∃ k : Nat, s15 = .int .i64 k ∧ k ≤ vn ∧ Below w.heap.size w wr ∧ Hid (upB (fun i => hasB sz (i : Int) (vs.getD i 0)) k = true) ∧ Hid (Blk wr w.heap.size #[.slice sa vn sc, .slice ta tn tc, .slice ra rn rc] 27)) (fun s15 _ => vn - (intOf s15).toNat)
    case atStart => exact ⟨0, rfl, by omega, hbA, Lib.hid (upB_zero _), X⟩
    case round =>
      clear X hbA
      obtain ⟨k, rfl, hk, hbl, A, X⟩ := hrel
      by_cases hlt : k < vn
      · have hlt' : (k : Int) < (vn : Int) := by omega
        have hk0 : (0 : Int) ≤ (k : Int) := by omega
        obtain ⟨b, off, x, rfl, hb, hx, hcell, hwf⟩ := (HV.out.keep hbl).at hlt
        have Hx := Lib.hid (getD_of hx)
        clear hx
        have x0 := X.out.cell 0
        have x1 := X.out.cell 1
        have x2 := X.out.cell 2
        have xl := X.out.lt
        simp at x0 x1 x2
        have hcall := impl_has (v := (k : Int)) (x := x) (ta := ta) (tn := tn) (tc := tc) (ra := ra) (rn := rn) (rc := rc) (HI.out.keep hbl) hn HS.out
        cases hq : hasB sz (k : Int) x
        all_goals
          rw [hq] at hcall
          have HC := Lib.hid hcall
          have HQ := Lib.hid hq
          clear hcall hq
          go_wp2_with fail
          refine Calls.mono HC.out ?_
          rintro e w1 ⟨rfl, hb1⟩
          have X := Lib.hid (X.out.keep hb1)
          replace hbl : Below w.heap.size w w1 := below_callS hbl hb1
          clear hb1 x0 x1 x2 xl
        · go_wp2
          go_ret
          exact ⟨ret_bool (by rw [HB.out, HL.out, upB_false hlt (by rw [Hx.out]; exact HQ.out)]), hbl⟩
        · go_wp2_with fail
          go_roundw
          case rel => exact ⟨k + 1, by go_num, by omega, hbl, Lib.hid (upB_step A.out (by rw [Hx.out]; exact HQ.out)), X⟩
          case measure => simp [intOf]; omega
      · obtain rfl : vn = k := by omega
        have hlt' : ¬ (vn : Int) < (vn : Int) := by omega
        go_wp2
        go_ret
        exact ⟨ret_bool (by rw [HB.out, HL.out, A.out]), hbl⟩
  · have hd : ((vn : Int) != (sn : Int)) = true := by rw [bne_iff_ne]; omega
    have HB := Lib.hid (stateB_ne (sz := sz) (vs := vs) (by omega))
    clear hne hl hvl
    go_enter Try.func32, Try.ntmps32
    go_wp2
    go_ret
    exact ⟨ret_bool HB.out.symm, bel⟩
set_option maxHeartbeats 1000000 in
theorem spec_l20State {sa ta ra va : Option Addr} {sn sc tn tc rn rc vn vc : Nat} {sz vs : List Int} {w : World} (hI : Ints w sa sn sc sz) (hV : Ints w va vn vc vs) (hn : sn ≤ 1048576) (hv : vn ≤ 1048576) (hs : allIn 1 32 sz = true) :
    Calls Try.prog 38 #[.agg #[.slice sa sn sc, .slice ta tn tc, .slice ra rn rc], .slice va vn vc] w fun e w' => e = .returned (.bool (stateB sz vs)) ∧ Below w.heap.size w w' := by
  have hl := hI.len
  have hvl := hV.len
  have HI := Lib.hid hI
  have HV := Lib.hid hV
  have HS := Lib.hid hs
  clear hI hV hs
  have X := Lib.hid (Blk.made w #[.slice sa sn sc, .slice ta tn tc, .slice ra rn rc] 27)
  obtain ⟨wA, hwA⟩ : ∃ wA : World, wA = w.alloc (.cells #[.slice sa sn sc, .slice ta tn tc, .slice ra rn rc] 27) := ⟨_, rfl⟩
  have hbA : Below w.heap.size w wA := by rw [hwA]; exact bel
  rw [← hwA] at X
  have HwA := Lib.hid hwA
  have HLV := Lib.hid hvl
  have HLS := Lib.hid hl
  clear hwA hvl hl
  go_enter Try.func38, Try.ntmps38
  go_wp2_with fail
  rw [← HwA.out]
  clear HwA
  go_loopw [5] (fun s5 wr => ∃ k : Nat, s5 = .int .i64 k ∧ k ≤ vn ∧ k ≤ sn ∧ Below w.heap.size w wr ∧ Hid (upB (fun i => hasB sz (i : Int) (vs.getD i 0)) k = true) ∧ Hid (Blk wr w.heap.size #[.slice sa sn sc, .slice ta tn tc, .slice ra rn rc] 27)) (fun s5 _ => vn - (intOf s5).toNat)
  case atStart => exact ⟨0, rfl, by omega, by omega, hbA, Lib.hid (upB_zero _), X⟩
  case round =>
    clear X hbA
    obtain ⟨k, rfl, hk, hks, hbl, A, X⟩ := hrel
    have x0 := X.out.cell 0
    have x1 := X.out.cell 1
    have x2 := X.out.cell 2
    have xl := X.out.lt
    simp at x0 x1 x2
    by_cases hlt : k < vn
    · have hlt' : (k : Int) < (vn : Int) := by omega
      have hk0 : (0 : Int) ≤ (k : Int) := by omega
      by_cases hls : k < sn
      · have hls' : (k : Int) < (sn : Int) := by omega
        obtain ⟨b, off, x, rfl, hb, hx, hcell, hwf⟩ := (HV.out.keep hbl).at hlt
        obtain ⟨b', off', z, rfl, hb', hz, hcell', hwf'⟩ := (HI.out.keep hbl).at hls
        have hz12 := allIn_at HS.out hz
        have hz1 := hz12.1
        have hz2 := hz12.2
        have e2 : IntKind.i64.wrap (z - 1) = z - 1 := IntWalk.i64_in _ (by omega)
        have hhas := hasB_yes (x := x) hz
        have Hx := Lib.hid (getD_of hx)
        have hin := fun (wx : World) => (spec_l01In (x := x) (lo := 0) (hi := z - 1) (w := wx)).mono (fun e w' h => (⟨h.1, h.2.symm⟩ : e = .returned (.bool (inB x 0 (z - 1))) ∧ w' = wx))
        cases hq : inB x 0 (z - 1)
        all_goals
          rw [hq] at hin hhas
          have HH := Lib.hid hhas
          have HIN := Lib.hid hin
          clear hx hz hz12 hq hhas hin
          go_wp2_with fail
          go_quiet ((go_at_call 39; exact Calls.quiet_of_same (HIN.out _)))
        · go_wp2
          go_ret
          refine ⟨ret_bool ?_, below_drewN hbl _⟩
          by_cases hne : vn = sn
          · rw [stateB_eq (by rw [HLV.out, HLS.out, hne]), HLV.out, upB_false hlt (by rw [Hx.out]; exact HH.out)]
          · rw [stateB_ne (by rw [HLV.out, HLS.out]; exact hne)]
        · go_wp2_with fail
          go_roundw
          case rel => exact ⟨k + 1, by go_num, by omega, by omega, below_drewN hbl _, Lib.hid (upB_step A.out (by rw [Hx.out]; exact HH.out)), Lib.hid X.out⟩
          case measure => simp [intOf]; omega
      · obtain rfl : sn = k := by omega
        have hls' : ¬ (sn : Int) < (sn : Int) := by omega
        have hd : ((vn : Int) == (sn : Int)) = false := by rw [beq_eq_false_iff_ne]; omega
        go_wp2
        go_ret
        exact ⟨ret_bool (by rw [stateB_ne (by rw [HLV.out, HLS.out]; omega)]), hbl⟩
    · obtain rfl : vn = k := by omega
      have hlt' : ¬ (vn : Int) < (vn : Int) := by omega
      by_cases hne : vn = sn
      · have hd : ((vn : Int) == (sn : Int)) = true := by rw [beq_iff_eq]; omega
        have HB := Lib.hid (show stateB sz vs = true by rw [stateB_eq (by rw [HLV.out, HLS.out, hne]), HLV.out, A.out])
        clear hne
        go_wp2
        go_ret
        exact ⟨ret_bool HB.out.symm, hbl⟩
      · have hd : ((vn : Int) == (sn : Int)) = false := by rw [beq_eq_false_iff_ne]; omega
        have HB := Lib.hid (show stateB sz vs = false by rw [stateB_ne (by rw [HLV.out, HLS.out]; exact hne)])
        clear hne
        go_wp2
        go_ret
        exact ⟨ret_bool HB.out.symm, hbl⟩
set_option maxHeartbeats 1000000 in
theorem impl_areTests_1 {x : I2b} {B : Nat} {sa ta ra : Option Addr} {sn sc tn tc rn rc : Nat} {sz : List Int} {w : World} (hB : Blk w B #[.slice sa sn sc, .slice ta tn tc, .slice ra rn rc] 27) (hI : Ints w sa sn sc sz) (hn : sn ≤ 1048576) (hs : allIn 1 32 sz = true) :
    Calls Try.prog 64 (#[.agg x.enc.toArray] ++ #[.pointer (some ⟨B, 0, none⟩)]) w fun e w' => e = .returned (.bool (!hasB sz x.a x.b)) ∧ Below w.heap.size w w' := by
  have x0 := hB.cell 0
  have x1 := hB.cell 1
  have x2 := hB.cell 2
  have xl := hB.lt
  simp at x0 x1 x2
  have h := fun (wx : World) (hb : Below w.heap.size w wx) => impl_has (v := x.a) (x := x.b) (ta := ta) (tn := tn) (tc := tc) (ra := ra) (rn := rn) (rc := rc) (hI.keep hb) hn hs
  have H := Lib.hid h
  clear h hI hB hs
  show Calls _ _ #[.agg #[.int .i64 x.a, .int .i64 x.b, .bool x.c], .pointer (some ⟨B, 0, none⟩)] _ _
  go_enter Try.func64, Try.ntmps64
  go_wp2_with fail
  refine Calls.mono (H.out _ bel) ?_
  rintro e w1 ⟨rfl, hb_w1⟩
  obtain ⟨hc_w1, hf_w1⟩ := bcell hb_w1
  have hs_w1 := hb_w1.size
  go_wp2
  go_ret
  exact ⟨rfl, bel⟩
set_option maxHeartbeats 1000000 in
theorem impl_areTests {sa ta ra ga : Option Addr} {sn sc tn tc rn rc gn gc : Nat} {sz : List Int} {g : List I2b} {w : World} (hI : Ints w sa sn sc sz) (hn : sn ≤ 1048576) (hs : allIn 1 32 sz = true) (hG : F2b w ga gn gc g) (hg : gn ≤ 1048576) :
    Calls Try.prog 59 #[.agg #[.slice sa sn sc, .slice ta tn tc, .slice ra rn rc], .slice ga gn gc] w fun e w' => e = .returned (.bool (testsB sz g)) ∧ Below w.heap.size w w' := by
  have hgl := hG.len
  by_cases h24 : gn ≤ 24
  · have h24' : (gn : Int) ≤ 24 := by omega
    have HT := Lib.hid (show testsB sz g = !(g.any fun x => !hasB sz x.a x.b) by rw [testsB, decide_eq_true (by omega), Bool.true_and, List.not_any_eq_all_not]; simp)
    have hp := fun (wx : World) (hb : Below w.heap.size w wx) (hB : Blk wx w.heap.size #[.slice sa sn sc, .slice ta tn tc, .slice ra rn rc] 27) => slices_ContainsFunc_Test (g := 64) (lb := #[.pointer (some ⟨w.heap.size, 0, none⟩)]) (p := fun x => !hasB sz x.a x.b) (fun _ _ => by kernel_rfl) (fun W x hx hb' => impl_areTests_1 (hB.keep hb') (hI.keep (below_callS hb hb')) hn hs) (hG.keep hb) hg
    have HP := Lib.hid hp
    clear hp hI hG hs hgl
    go_enter Try.func59, Try.ntmps59
    go_wp2_with fail
    refine Calls.mono (HP.out _ bel (Blk.made w #[.slice sa sn sc, .slice ta tn tc, .slice ra rn rc] 27)) ?_
    rintro e w2 ⟨rfl, hb_w2⟩
    go_wp2
    go_ret
    exact ⟨ret_bool HT.out.symm, bel⟩
  · have h24' : ¬ (gn : Int) ≤ 24 := by omega
    have HT := Lib.hid (show testsB sz g = false by rw [testsB, decide_eq_false (by omega)]; rfl)
    clear hI hG hs hgl
    go_enter Try.func59, Try.ntmps59
    go_wp2
    go_ret
    exact ⟨ret_bool HT.out.symm, bel⟩
theorem testsB_any {sz : List Int} {g : List I2b} : testsB sz g = (decide (g.length ≤ 24) && !(g.any fun x => !hasB sz x.a x.b)) := by
  rw [testsB, List.not_any_eq_all_not]; simp
set_option maxHeartbeats 2000000 in
theorem spec_l20Tests {sa ta ra ga : Option Addr} {sn sc tn tc rn rc gn gc : Nat} {sz : List Int} {g : List I2b} {w : World} (hI : Ints w sa sn sc sz) (hn : sn ≤ 1048576) (hs : allIn 1 32 sz = true) (hG : F2b w ga gn gc g) (hg : gn ≤ 1048576) :
    Calls Try.prog 55 #[.agg #[.slice sa sn sc, .slice ta tn tc, .slice ra rn rc], .slice ga gn gc] w fun e w' => e = .returned (.bool (testsB sz g)) ∧ Below w.heap.size w w' := by
  have hgl := hG.len
  have HTT := Lib.hid (show testsB sz g = (decide (gn ≤ 24) && !(g.any fun x => !hasB sz x.a x.b)) by rw [testsB_any, hgl])
  have K3 := Lib.hid (fun (x : I2b) (wx : World) (hb : Below w.heap.size w wx) => spec_l20Has (v := x.a) (x := x.b) (ta := ta) (tn := tn) (tc := tc) (ra := ra) (rn := rn) (rc := rc) (hI.keep hb) hn hs)
  have HG := Lib.hid hG
  have HL := Lib.hid hgl
  clear hI hG hs hgl
  have X := Lib.hid (Blk.made w #[.slice sa sn sc, .slice ta tn tc, .slice ra rn rc] 27)
  obtain ⟨wA, hwA⟩ : ∃ wA : World, wA = w.alloc (.cells #[.slice sa sn sc, .slice ta tn tc, .slice ra rn rc] 27) := ⟨_, rfl⟩
  have hbA : Below w.heap.size w wA := by rw [hwA]; exact bel
  rw [← hwA] at X
  have HwA := Lib.hid hwA
  clear hwA
  go_enter Try.func55, Try.ntmps55
  go_wp2_with fail
  rw [← HwA.out]
  clear HwA
  go_loopw [5] (fun s5 wr => ∃ i : Nat, s5 = .int .i64 i ∧ i ≤ gn ∧ Below w.heap.size w wr ∧ Hid (((g.take i).any fun x => !hasB sz x.a x.b) = false) ∧ Hid (Blk wr w.heap.size #[.slice sa sn sc, .slice ta tn tc, .slice ra rn rc] 27)) (fun s5 _ => gn - (intOf s5).toNat)
  case atStart => exact ⟨0, rfl, by omega, hbA, Lib.hid rfl, X⟩
  case round =>
    clear X hbA
    obtain ⟨i, rfl, hi, hbl, A, X⟩ := hrel
    by_cases hlt : i < gn
    · have hlt' : (i : Int) < (gn : Int) := by omega
      have hi0 : (0 : Int) ≤ (i : Int) := by omega
      obtain ⟨b', off, x, rfl, hb', hx, hwf, c0, c1, c2⟩ := F2b.get (HG.out.keep hbl) hlt
      have Hx := Lib.hid hx
      clear hx
      have x0 := X.out.cell 0
      have x1 := X.out.cell 1
      have x2 := X.out.cell 2
      have xl := X.out.lt
      simp at x0 x1 x2
      have hcall := K3.out x
      cases hv : hasB sz x.a x.b
      all_goals
        rw [hv] at hcall
        have HV := Lib.hid hv
        have HCl := Lib.hid hcall
        clear hv hcall
        go_wp2_with fail
        go_region_held3 (fun wx => wx.cell? ⟨b', off + i * 3, none⟩ = some (.int .i64 x.a) ∧ wx.cell? ⟨b', off + i * 3 + 1, none⟩ = some (.int .i64 x.b) ∧ wx.cell? ⟨w.heap.size, 0, none⟩ = some (.slice sa sn sc) ∧ wx.cell? ⟨w.heap.size, 1, none⟩ = some (.slice ta tn tc) ∧ wx.cell? ⟨w.heap.size, 2, none⟩ = some (.slice ra rn rc) ∧ b' < wx.heap.size ∧ w.heap.size < wx.heap.size ∧ Blk wx w.heap.size #[.slice sa sn sc, .slice ta tn tc, .slice ra rn rc] 27 ∧ Below w.heap.size w wx) (((try go_split_ands); (repeat' apply And.intro) <;> first | assumption | exact Blk.keep (by assumption) hbx | exact Blk.drew (by assumption) | exact Blk.drew (Blk.made _ _ _) | exact Below.drew (by assumption) | exact Below.drew (below_allocS (by first | exact Below.refl _ _ | assumption) _) | exact below_callS (by assumption) hbx | exact below_call (by assumption) hbx (Below.size (by assumption)) | exact (hcx _ _ (by assumption)).trans (by assumption) | omega | (simp [*]; done) | (simp; omega))) (first | (go_at_call 53; refine Calls.mono (HCl.out _ (by first | assumption | (go_split_ands; assumption))) ?_; rintro e wx2 ⟨rfl, hbx⟩; obtain ⟨hcx, hfx⟩ := bcell hbx; have hsx := hbx.size))
        go_split_ands
      · go_wp2
        go_ret
        exact ⟨ret_bool (by rw [HTT.out, show (g.any fun x => !hasB sz x.a x.b) = true from any_take_true (p := fun x => !hasB sz x.a x.b) Hx.out (by simp [HV.out])]; simp), by assumption⟩
      · go_wp2_with fail
        go_roundw
        case rel => exact ⟨i + 1, by go_num, by omega, by assumption, Lib.hid (any_take_step (p := fun x => !hasB sz x.a x.b) Hx.out A.out (by simp [HV.out])), Lib.hid (by assumption)⟩
        case measure => simp [intOf]; omega
    · obtain rfl : gn = i := by omega
      have hlt' : ¬ (gn : Int) < (gn : Int) := by omega
      have hA := A.out
      rw [take_len HL.out] at hA
      have HA := Lib.hid hA
      clear hA
      by_cases h24 : gn ≤ 24
      · have h24' : (gn : Int) ≤ 24 := by omega
        have HT := Lib.hid (show testsB sz g = true by rw [HTT.out, HA.out, decide_eq_true h24]; rfl)
        go_wp2
        go_ret
        exact ⟨ret_bool HT.out.symm, hbl⟩
      · have h24' : ¬ (gn : Int) ≤ 24 := by omega
        have HT := Lib.hid (show testsB sz g = false by rw [HTT.out, HA.out, decide_eq_false h24]; rfl)
        go_wp2
        go_ret
        exact ⟨ret_bool HT.out.symm, hbl⟩
def wordP (x : Int) : Bool := (decide (97 ≤ x) && decide (x ≤ 122)) || (decide (48 ≤ x) && decide (x ≤ 57)) || decide (x = 95)
def wordBs : List UInt8 := [97, 98, 99, 100, 101, 102, 103, 104, 105, 106, 107, 108, 109, 110, 111, 112, 113, 114, 115, 116, 117, 118, 119, 120, 121, 122, 48, 49, 50, 51, 52, 53, 54, 55, 56, 57, 95]
def nameB (s : ByteArray) : Bool := inB (s.size : Int) 1 16 && s.data.toList.all fun c => wordP (c.toNat : Int)
def runN (p : UInt8 → Bool) (l : List UInt8) : Nat := (l.takeWhile p).length
theorem wordBs_has (c : UInt8) : wordBs.contains c = wordP (c.toNat : Int) := by
  have h : ∀ n : Fin 256, wordBs.contains (UInt8.ofNat n.val) = wordP ((UInt8.ofNat n.val).toNat : Int) := by decide +kernel
  have := h ⟨c.toNat, c.toNat_lt⟩
  simpa using this
theorem runN_stop {p : UInt8 → Bool} {l : List UInt8} {k : Nat} (hk : k ≤ l.length) (h : (l.take k).all p = true) (hs : ∀ c, l[k]? = some c → p c = false) : runN p l = k := by
  induction l generalizing k with
  | nil => simp at hk; subst hk; rfl
  | cons x r ih =>
    cases k with
    | zero =>
      have := hs x rfl
      simp [runN, this]
    | succ k =>
      simp at h hk
      have h2 := ih hk (by simpa using h.2) (fun c hc => hs c (by simpa using hc))
      simp [runN, h.1] at h2 ⊢
      exact h2
theorem runN_all {p : UInt8 → Bool} {l : List UInt8} : (runN p l = l.length) ↔ l.all p = true := by
  constructor
  · intro h
    induction l with
    | nil => rfl
    | cons x r ih =>
      cases hp : p x
      · simp [runN, hp] at h
      · simp [runN, hp] at h
        simpa [hp] using ih h
  · intro h
    exact runN_stop (Nat.le_refl _) (by rw [List.take_length]; exact h) (fun c hc => by simp at hc)
def inSet (bs : ByteArray) (c : UInt8) : Bool := bs.data.toList.contains c
theorem str_at {s : ByteArray} {k : Nat} (h : k < s.size) : s.data.toList[k]? = some s[k] := by
  rw [List.getElem?_eq_getElem (by simpa using h)]; rfl
theorem lib_IndexByte {bs : ByteArray} {c : UInt8} {w : World} : Calls Try.prog 66 #[.string bs, .int .u8 (c.toNat : Int)] w fun e w' => e = .returned (.int .i64 (Lib.indexByte bs.data.toList c)) ∧ w = w' := by
  refine Calls.mono (Try.strings_IndexByte bs (c.toNat : Int) w) ?_
  rintro e w' ⟨rfl, rfl⟩
  exact ⟨by simp, rfl⟩
set_option maxHeartbeats 1000000 in
theorem impl_run {s bs : ByteArray} {a : Nat} {ai : Int} {w : World} (ha : ai = (a : Int)) (has : a ≤ s.size) (hz : s.size ≤ 1048576) :
    Calls Try.prog 62 #[.string s, .int .i64 ai, .string bs] w fun e w' => e = .returned (.int .i64 (runN (inSet bs) (s.data.toList.drop a) : Nat)) ∧ w = w' := by
  subst ha
  have HL := Lib.hid (show (s.data.toList.drop a).length = s.size - a by simp)
  go_enter Try.func62, Try.ntmps62
  go_wp2_with fail
  go_loop [7] (fun s7 => ∃ k : Nat, s7 = .int .i64 k ∧ a + k ≤ s.size ∧ Hid (((s.data.toList.drop a).take k).all (inSet bs) = true)) (fun s7 => s.size - (intOf s7).toNat)
  case atStart => exact ⟨0, rfl, by omega, Lib.hid rfl⟩
  case round =>
    obtain ⟨k, rfl, hk, A⟩ := hrel
    by_cases hlt : a + k < s.size
    · have hlt' : (a : Int) + (k : Int) < (s.size : Int) := by omega
      have Hc := Lib.hid (show (s.data.toList.drop a)[k]? = some s[a + k] by rw [List.getElem?_drop]; exact str_at hlt)
      have hct := Lib.contains_iff_indexByte bs.data.toList s[a + k]
      cases hp : bs.data.toList.contains s[a + k]
      · have hi : decide (0 ≤ Lib.indexByte bs.data.toList s[a + k]) = false := by rw [hp] at hct; exact hct.symm
        have HP := Lib.hid (show inSet bs s[a + k] = false from hp)
        clear hct hp
        go_wp2_with fail
        go_wp2_with fail
        refine Calls.mono (lib_IndexByte) ?_
        rintro e _ ⟨rfl, rfl⟩
        go_wp2
        go_ret
        exact ⟨ret_int (by rw [runN_stop (by rw [HL.out]; omega) A.out (fun c' h' => by rw [Hc.out] at h'; cases h'; exact HP.out)]), rfl⟩
      · have hi : decide (0 ≤ Lib.indexByte bs.data.toList s[a + k]) = true := by rw [hp] at hct; exact hct.symm
        have HP := Lib.hid (show inSet bs s[a + k] = true from hp)
        clear hct hp
        go_wp2_with fail
        go_wp2_with fail
        refine Calls.mono (lib_IndexByte) ?_
        rintro e _ ⟨rfl, rfl⟩
        go_wp2_with fail
        go_round
        case rel => exact ⟨k + 1, by go_num, by omega, Lib.hid (all_take_step Hc.out A.out HP.out)⟩
        case measure => simp [intOf]; omega
    · have hlt' : ¬ (a : Int) + (k : Int) < (s.size : Int) := by omega
      go_wp2
      go_ret
      exact ⟨ret_int (by rw [runN_stop (by rw [HL.out]; omega) A.out (fun c' h' => by have := (List.getElem?_eq_some_iff.1 h').1; rw [HL.out] at this; omega)]), rfl⟩
def wordN (s : ByteArray) : Nat := runN (inSet ⟨wordBs.toArray⟩) s.data.toList
theorem wordN_all {s : ByteArray} : wordN s = s.size ↔ (s.data.toList.all fun c => wordP (c.toNat : Int)) = true := by
  have h : (s.data.toList.all fun c => wordP (c.toNat : Int)) = s.data.toList.all (inSet ⟨wordBs.toArray⟩) := by
    congr 1
    funext c
    rw [← wordBs_has]
    simp [inSet]
  have e : s.data.toList.length = s.size := by simp
  rw [h, ← runN_all, e]
  exact Iff.rfl
theorem impl_run_word {s : ByteArray} {w : World} (hz : s.size ≤ 1048576) : Calls Try.prog 62 #[.string s, .int .i64 0, .string ⟨#[97, 98, 99, 100, 101, 102, 103, 104, 105, 106, 107, 108, 109, 110, 111, 112, 113, 114, 115, 116, 117, 118, 119, 120, 121, 122, 48, 49, 50, 51, 52, 53, 54, 55, 56, 57, 95]⟩] w fun e w' => e = .returned (.int .i64 (wordN s : Nat)) ∧ w = w' := by
  have := impl_run (s := s) (bs := ⟨#[97, 98, 99, 100, 101, 102, 103, 104, 105, 106, 107, 108, 109, 110, 111, 112, 113, 114, 115, 116, 117, 118, 119, 120, 121, 122, 48, 49, 50, 51, 52, 53, 54, 55, 56, 57, 95]⟩) (a := 0) (ai := 0) (w := w) rfl (Nat.zero_le _) hz
  rw [List.drop_zero] at this
  exact this
set_option maxHeartbeats 1000000 in
theorem impl_isRuleName {s : ByteArray} {w : World} : Calls Try.prog 58 #[.string s] w fun e w' => e = .returned (.bool (nameB s)) ∧ w = w' := by
  cases h : inB (s.size : Int) 1 16
  · have HB := Lib.hid (show nameB s = false by rw [nameB, h]; rfl)
    have HV := Lib.hid h
    clear h
    go_enter Try.func58, Try.ntmps58
    go_wp2_with fail
    refine Calls.mono (impl_within) ?_
    rintro e _ ⟨rfl, rfl⟩
    rw [HV.out]
    go_wp2
    go_ret
    exact ⟨ret_bool HB.out.symm, rfl⟩
  · have hz : s.size ≤ 1048576 := by simp [inB] at h; omega
    have HV := Lib.hid h
    have hB : nameB s = s.data.toList.all fun c => wordP (c.toNat : Int) := by rw [nameB, h]; rfl
    cases ha : (s.data.toList.all fun c => wordP (c.toNat : Int))
    · have hq : ((wordN s : Int) == (s.size : Int)) = false := by
        rw [beq_eq_false_iff_ne]; intro hc; have := wordN_all.1 (by omega : wordN s = s.size); rw [ha] at this; cases this
      have HB := Lib.hid (hB.trans ha)
      clear hB ha h
      go_enter Try.func58, Try.ntmps58
      go_wp2_with fail
      refine Calls.mono (impl_within) ?_
      rintro e _ ⟨rfl, rfl⟩
      rw [HV.out]
      go_wp2_with fail
      refine Calls.mono ((impl_run_word hz)) ?_
      rintro e _ ⟨rfl, rfl⟩
      go_wp2
      go_ret
      exact ⟨ret_bool HB.out.symm, rfl⟩
    · have hq : ((wordN s : Int) == (s.size : Int)) = true := by
        rw [beq_iff_eq]; have := wordN_all.2 ha; omega
      have HB := Lib.hid (hB.trans ha)
      clear hB ha h
      go_enter Try.func58, Try.ntmps58
      go_wp2_with fail
      refine Calls.mono (impl_within) ?_
      rintro e _ ⟨rfl, rfl⟩
      rw [HV.out]
      go_wp2_with fail
      refine Calls.mono ((impl_run_word hz)) ?_
      rintro e _ ⟨rfl, rfl⟩
      go_wp2
      go_ret
      exact ⟨ret_bool HB.out.symm, rfl⟩
theorem word_cases (x : Int) : (x < 48) ∨ (48 ≤ x ∧ x ≤ 57) ∨ (57 < x ∧ x < 95) ∨ x = 95 ∨ x = 96 ∨ (97 ≤ x ∧ x ≤ 122) ∨ 122 < x := by omega
set_option maxHeartbeats 2000000 in
theorem spec_l20Name {s : ByteArray} {w : World} (hz : s.size ≤ maxLen) : Calls Try.prog 54 #[.string s] w fun e w' => e = .returned (.bool (nameB s)) ∧ w = w' := by
  have hz' : s.size ≤ 9223372036854775807 := hz
  have HN := Lib.hid (show nameB s = (inB (s.size : Int) 1 16 && s.data.toList.all fun c => wordP (c.toNat : Int)) from rfl)
  have HL := Lib.hid (show s.data.toList.length = s.size by simp)
  go_enter Try.func54, Try.ntmps54
  go_wp2_with fail
  go_loop [3] (fun s3 => ∃ k : Nat, s3 = .int .i64 k ∧ k ≤ s.size ∧ Hid ((s.data.toList.take k).all (fun c => wordP (c.toNat : Int)) = true)) (fun s3 => s.size - (intOf s3).toNat)
  case atStart => exact ⟨0, rfl, by omega, Lib.hid rfl⟩
  case round =>
    obtain ⟨k, rfl, hk, A⟩ := hrel
    by_cases hlt : k < s.size
    · have hlt' : (k : Int) < (s.size : Int) := by omega
      have Hc := Lib.hid (str_at hlt)
      rcases word_cases ((s[k].toNat : Int)) with h | h | h | h | h | h | h
      all_goals
        have HW := Lib.hid h
        have Hp : Hid (wordP (s[k].toNat : Int) = true) ∨ Hid (wordP (s[k].toNat : Int) = false) := by
          rcases Bool.eq_false_or_eq_true (wordP (s[k].toNat : Int)) with h' | h'
          · exact Or.inl (Lib.hid h')
          · exact Or.inr (Lib.hid h')
        first | have f1 : (s[k].toNat : Int) < 97 := (by omega) | have f1 : ¬ (s[k].toNat : Int) < 97 := (by omega)
        first | have f2 : (122 : Int) < (s[k].toNat : Int) := (by omega) | have f2 : ¬ (122 : Int) < (s[k].toNat : Int) := (by omega)
        first | have f3 : (s[k].toNat : Int) < 48 := (by omega) | have f3 : ¬ (s[k].toNat : Int) < 48 := (by omega)
        first | have f4 : (57 : Int) < (s[k].toNat : Int) := (by omega) | have f4 : ¬ (57 : Int) < (s[k].toNat : Int) := (by omega)
        first | have f5 : ((s[k].toNat : Int) != 95) = true := (by rw [bne_iff_ne]; omega) | have f5 : ((s[k].toNat : Int) != 95) = false := (by rw [bne_eq_false_iff_eq]; omega)
        clear h
        first | (rcases Hp with Hp | Hp <;> first | (exfalso; have h1 := Hp.out; have h2 := HW.out; simp [wordP] at h1; omega) | skip) | skip
        all_goals
          go_wp2_with fail
          first
          | (go_round
             case rel => exact ⟨k + 1, by go_num, by omega, Lib.hid (all_take_step Hc.out A.out Hp.out)⟩
             case measure => simp [intOf]; omega)
          | (go_wp2
             go_ret
             exact ⟨ret_bool (by rw [HN.out, all_take_false Hc.out Hp.out]; simp), rfl⟩)
    · obtain rfl : s.size = k := by omega
      have hlt' : ¬ (s.size : Int) < (s.size : Int) := by omega
      have hA := A.out
      rw [take_len HL.out] at hA
      have HB := Lib.hid (show nameB s = inB (s.size : Int) 1 16 by rw [HN.out, hA, Bool.and_true])
      clear hA
      go_wp2_with fail
      go_wp2_with fail
      refine Calls.mono (spec_l01In) ?_
      rintro e _ ⟨rfl, rfl⟩
      go_wp2
      go_ret
      exact ⟨ret_bool HB.out.symm, rfl⟩
end Go.Proofs.Ytcnjnkjnpfpaeaa
