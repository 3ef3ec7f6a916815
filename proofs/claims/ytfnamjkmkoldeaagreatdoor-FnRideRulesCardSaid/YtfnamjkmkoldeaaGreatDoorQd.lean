/- The state to which a rule leads, and a state's text: the program, walked.; A state's text: the program, walked.; Models: states and tests, walked.; Models: tests, walked.; Models: tests of the reference, walked. -/
import Derived.Test.YtfnamjkmkoldeaaGreatDoorQc
import Derived.Laws.BytesArg
import Derived.Test.YtfnamjkmkoldeaaGreatDoorQb
namespace Go.Proofs.YtfnamjkmkoldeaaGreatDoor
open Go.RowKit
set_option linter.unusedVariables false
set_option linter.unusedSimpArgs false
theorem applyP_len : ∀ (e : List I2) (v : List Int), (applyP v e).length = v.length
  | [], v => rfl
  | a :: e, v => by
    rw [applyP, List.foldl_cons]
    have := applyP_len e (v.set a.a.toNat a.b)
    rw [applyP] at this
    rw [this, List.length_set]
theorem applyP_take {e : List I2} {v : List Int} {j : Nat} {x : I2} (h : e[j]? = some x) : applyP v (e.take (j + 1)) = (applyP v (e.take j)).set x.a.toNat x.b := by
  rw [take_at h, applyP, List.foldl_append]; rfl
set_option maxHeartbeats 2000000 in
theorem impl_apply {ga ea va : Option Addr} {gn gc en ec vn vc : Nat} {nm : ByteArray} {v : List Int} {l : List I2} {w : World} (hE : F2 w ea en ec l) (hn : en ≤ 1048576) (hV : Ints w va vn vc v) (hvn : vn ≤ 1048576) (hv : ∀ a ∈ l, 0 ≤ a.a ∧ a.a < (vn : Int)) :
    Calls Tryz.prog 65 #[.agg #[.string nm, .slice ga gn gc, .slice ea en ec], .slice va vn vc] w fun e w' => ∃ a c, e = .returned (.slice a vn c) ∧ OwnI 2 w' w.heap.size a vn c (applyP v l) ∧ Below w.heap.size w w' := by
  have X := Lib.hid (Blk.made w #[.string nm, .slice ga gn gc, .slice ea en ec] 98)
  have hbA : Below w.heap.size w (w.alloc (.cells #[.string nm, .slice ga gn gc, .slice ea en ec] 98)) := by repeat (first | exact Below.refl _ _ | assumption | refine below_allocS ?_ _ | refine below_callS ?_ (by assumption) | (refine Below.alloc ?_ (by first | omega | (simp; done) | (simp; omega)) _) | (refine Below.setCell ?_ (by first | omega | (simp; done) | (simp; omega)) _) | refine Below.drew ?_ | refine below_drewN ?_ _ | (refine below_call ?_ (by assumption) (by first | omega | (simp; done) | (simp; omega))) | (refine Below.trans ?_ (by assumption)))
  have HE := Lib.hid hE
  have HV := Lib.hid hV
  have HVT := Lib.hid hv
  have HLE := Lib.hid hE.len
  have HLV := Lib.hid hV.len
  clear hE hV hv
  go_enter Tryz.func65, Tryz.ntmps65
  go_wp2_with fail
  refine Calls.mono (slices_Clone_i64 (HV.out.keep hbA) hvn) ?_
  rintro e w1 ⟨a1, c1, rfl, hb1, ho1, hnl⟩
  have hs1 := hb1.size
  simp at hs1
  have hX := X.out.keep hb1
  have x2 := hX.cell 2
  have xl := hX.lt
  simp at x2
  have hbl1 : Below w.heap.size w w1 := by repeat (first | exact Below.refl _ _ | assumption | refine below_allocS ?_ _ | refine below_callS ?_ (by assumption) | (refine Below.alloc ?_ (by first | omega | (simp; done) | (simp; omega)) _) | (refine Below.setCell ?_ (by first | omega | (simp; done) | (simp; omega)) _) | refine Below.drew ?_ | refine below_drewN ?_ _ | (refine below_call ?_ (by assumption) (by first | omega | (simp; done) | (simp; omega))) | (refine Below.trans ?_ (by assumption)))
  have O := Lib.hid (ho1.le (show w.heap.size + 1 ≤ _ by simp))
  clear ho1 hb1 hnl hX
  go_wp2_with fail
  clear x2 xl
  go_loopw [13] (fun s13 wr => ∃ j : Nat, s13 = .int .i64 j ∧ j ≤ en ∧ w.heap.size + 1 ≤ wr.heap.size ∧ Below w.heap.size w wr ∧ Hid (OwnI 2 wr (w.heap.size + 1) a1 vn c1 (applyP v (l.take j)))) (fun s13 _ => en - (intOf s13).toNat)
  case atStart => exact ⟨0, rfl, by omega, hs1, hbl1, O⟩
  case round =>
    clear O hbl1 hs1
    obtain ⟨j, rfl, hj, hsr, hbl, O⟩ := hrel
    by_cases hlt : j < en
    · have hlt' : (j : Int) < (en : Int) := by omega
      have hj0 : (0 : Int) ≤ (j : Int) := by omega
      obtain ⟨b, off, x, rfl, hb, hx, hxo, c0, c1'⟩ := F2.get (HE.out.keep hbl) hlt
      have hxv := HVT.out x (List.mem_of_getElem? hx)
      have Hx := Lib.hid hx
      obtain ⟨xa, xb⟩ := x
      simp only at hxv c0 c1'
      obtain ⟨q, rfl⟩ := Int.eq_ofNat_of_zero_le hxv.1
      have hq : q < vn := by omega
      have hq' : (q : Int) < (vn : Int) := by omega
      obtain ⟨g, rfl⟩ := O.out.shape (by omega)
      have O2 := Lib.hid (O.out.keep (show Below wr.heap.size wr (wr.alloc (.cells #[.int .i64 (q : Int), .int .i64 xb] 123)) by repeat (first | exact Below.refl _ _ | assumption | refine below_allocS ?_ _ | refine below_callS ?_ (by assumption) | (refine Below.alloc ?_ (by first | omega | (simp; done) | (simp; omega)) _) | (refine Below.setCell ?_ (by first | omega | (simp; done) | (simp; omega)) _) | refine Below.drew ?_ | refine below_drewN ?_ _ | (refine below_call ?_ (by assumption) (by first | omega | (simp; done) | (simp; omega))) | (refine Below.trans ?_ (by assumption)))))
      obtain ⟨y, hy, hyo, hcell⟩ := O2.out.cell hq
      have hfz := O2.out.free
      have hgl := (O2.out.lt).2
      have hxo2 := hxo.2
      clear hx hy hxo hyo hxv
      go_wp2
      go_roundw
      case rel =>
        refine ⟨j + 1, by go_num, by omega, by simp; omega, ?_, Lib.hid ?_⟩
        · have hh := (O2.out.lt).1
          repeat (first | exact Below.refl _ _ | assumption | refine below_allocS ?_ _ | refine below_callS ?_ (by assumption) | (refine Below.alloc ?_ (by first | omega | (simp; done) | (simp; omega)) _) | (refine Below.setCell ?_ (by first | omega | (simp; done) | (simp; omega)) _) | refine Below.drew ?_ | refine below_drewN ?_ _ | (refine below_call ?_ (by assumption) (by first | omega | (simp; done) | (simp; omega))) | (refine Below.trans ?_ (by assumption)))
        · rw [applyP_take Hx.out]
          exact O2.out.set q hxo2
      case measure => simp [intOf]; omega
    · obtain rfl : en = j := by omega
      have hlt' : ¬ (en : Int) < (en : Int) := by omega
      have hO := O.out
      rw [List.take_of_length_le (by rw [HLE.out]; exact Nat.le_refl _)] at hO
      have HO := Lib.hid hO
      clear hO O
      go_wp2
      go_ret
      exact ⟨_, _, rfl, HO.out.le (by omega), hbl⟩
end Go.Proofs.YtfnamjkmkoldeaaGreatDoor
namespace Go.Proofs.YtfnamjkmkoldeaaGreatDoor
open Go.RowKit
set_option linter.unusedVariables false
set_option linter.unusedSimpArgs false
def byL (v : List Int) (n j : Nat) : Array Value := ((v.take j).map (fun x => Value.int .u8 x) ++ List.replicate (n - j) (Value.int .u8 0)).toArray
theorem byL_zero (v : List Int) (n : Nat) : byL v n 0 = (List.replicate n (Value.int .u8 0)).toArray := by simp [byL]
theorem byL_set {v : List Int} {n j : Nat} {x : Int} (hx : v[j]? = some x) (hn : v.length = n) : (byL v n j).setIfInBounds j (.int .u8 x) = byL v n (j + 1) := by
  have h := set_fill (l := v.map (fun x => Value.int .u8 x)) (k := j) (x := .int .u8 x) (z := .int .u8 0) (by rw [List.getElem?_map, hx]; rfl) n (by simpa using hn)
  rw [byL, byL, List.setIfInBounds_toArray, List.map_take, List.map_take, h]
theorem byL_size {v : List Int} {n j : Nat} (hn : v.length = n) (hj : j ≤ n) : (byL v n j).size = n := by simp [byL]; omega
theorem byL_at {v : List Int} {n j : Nat} (hn : v.length = n) (hj : j < n) : (byL v n j)[j]? = some (.int .u8 0) := by
  simp only [byL, List.getElem?_toArray]
  have hl : (List.map (fun x => Value.int .u8 x) (v.take j)).length = j := by simp; omega
  rw [List.getElem?_append_right (by omega), hl, Nat.sub_self, List.getElem?_replicate, if_pos (by omega)]
theorem strOf_keyL {v : List Int} (hv : ∀ x ∈ v, 0 ≤ x ∧ x < 256) : strOfNums v = ⟨(keyL v).toArray⟩ := by
  simp [strOfNums, keyL]
theorem Tryz.infou8b : (Tryz.prog.info? 5).map (fun i => (i.zero, i.size, i.bytes)) = some (some (.int .u8 0), 1, 1) := by kernel_rfl
theorem mkB (n : Nat) (hn : n ≤ 1048576) (w : World) : (Instr.makeSlice 34 (.int .i64 (n : Int)) (.int .i64 (n : Int))).run Tryz.prog w = .ok (.slice (some ⟨w.heap.size, 0, none⟩) n n) (w.alloc (.cells (List.replicate n (Value.int .u8 0)).toArray 5)) := by
  obtain ⟨i0, hi, hz0, hz1, hz2⟩ := info_parts Tryz.infou8b
  have h := run_make (P := Tryz.prog) w 34 5 i0 (.int .u8 0) Tryz.underlying34 hi hz0 .i64 .i64 (n : Int) (n : Int) (by omega) (by omega) (by rw [hz2]; omega) (by omega)
  rw [hz1, Nat.mul_one] at h
  rw [h, Int.toNat_natCast, show madeCells (Value.cells (.int .u8 0)) n = (List.replicate n (Value.int .u8 0)).toArray from ?_]
  rw [show Value.cells (.int .u8 0) = #[.int .u8 0] from rfl]
  apply Array.toList_inj.1
  rw [toList_madeCells_one]
set_option maxHeartbeats 2000000 in
theorem impl_stateKey {va : Option Addr} {vn vc : Nat} {v : List Int} {w : World} (hV : Ints w va vn vc v) (hvn : vn ≤ 1048576) (hv : ∀ x ∈ v, 0 ≤ x ∧ x < 256) :
    Calls Tryz.prog 158 #[.slice va vn vc] w fun e w' => e = .returned (.string ⟨(keyL v).toArray⟩) ∧ Below w.heap.size w w' := by
  have hmk := mkB vn hvn w
  have B0 : Blk (w.alloc (.cells (List.replicate vn (Value.int .u8 0)).toArray 5)) w.heap.size (byL v vn 0) 5 := by rw [byL_zero]; exact Blk.made w _ _
  obtain ⟨wA, hwA⟩ : ∃ wA : World, wA = w.alloc (.cells (List.replicate vn (Value.int .u8 0)).toArray 5) := ⟨_, rfl⟩
  have hbA : Below w.heap.size w wA := by rw [hwA]; repeat (first | exact Below.refl _ _ | assumption | refine below_allocS ?_ _ | refine below_callS ?_ (by assumption) | (refine Below.alloc ?_ (by first | omega | (simp; done) | (simp; omega)) _) | (refine Below.setCell ?_ (by first | omega | (simp; done) | (simp; omega)) _) | refine Below.drew ?_ | refine below_drewN ?_ _ | (refine below_call ?_ (by assumption) (by first | omega | (simp; done) | (simp; omega))) | (refine Below.trans ?_ (by assumption)))
  have hsA : w.heap.size + 1 ≤ wA.heap.size := by rw [hwA]; simp
  rw [← hwA] at hmk B0
  have HV := Lib.hid hV
  have HVT := Lib.hid hv
  have HLV := Lib.hid hV.len
  have O := Lib.hid B0
  clear hV hv hwA B0
  go_enter Tryz.func158, Tryz.ntmps158
  go_wp2
  clear hmk
  go_loopw [11] (fun s11 wr => ∃ j : Nat, s11 = .int .i64 j ∧ j ≤ vn ∧ w.heap.size + 1 ≤ wr.heap.size ∧ Below w.heap.size w wr ∧ Hid (Blk wr w.heap.size (byL v vn j) 5)) (fun s11 _ => vn - (intOf s11).toNat)
  case atStart => exact ⟨0, rfl, by omega, hsA, hbA, O⟩
  case round =>
    clear O hbA hsA
    obtain ⟨j, rfl, hj, hsr, hbl, O⟩ := hrel
    by_cases hlt : j < vn
    · have hlt' : (j : Int) < (vn : Int) := by omega
      have hj0 : (0 : Int) ≤ (j : Int) := by omega
      obtain ⟨b, off, x, rfl, hb, hx, hxo, hcell⟩ := (HV.out.keep hbl).at hlt
      have hxv := HVT.out x (List.mem_of_getElem? hx)
      have Hx := Lib.hid hx
      have hsz : (byL v vn j).size = vn := byL_size HLV.out hj
      have hwr : x % 256 = x := by omega
      have hcl := (O.out.cell j).trans (byL_at HLV.out hlt)
      have hfz := O.out.free j
      have hgl := O.out.lt
      clear hx
      go_wp2
      go_roundw
      case rel =>
        refine ⟨j + 1, by go_num, by omega, by simp; omega, ?_, Lib.hid ?_⟩
        · repeat (first | exact Below.refl _ _ | assumption | refine below_allocS ?_ _ | refine below_callS ?_ (by assumption) | (refine Below.alloc ?_ (by first | omega | (simp; done) | (simp; omega)) _) | (refine Below.setCell ?_ (by first | omega | (simp; done) | (simp; omega)) _) | refine Below.drew ?_ | refine below_drewN ?_ _ | (refine below_call ?_ (by assumption) (by first | omega | (simp; done) | (simp; omega))) | (refine Below.trans ?_ (by assumption)))
        · rw [← byL_set Hx.out HLV.out]
          exact O.out.set j _
      case measure => simp [intOf]; omega
    · obtain rfl : vn = j := by omega
      have hlt' : ¬ (vn : Int) < (vn : Int) := by omega
      have hcv := run_convert_bytes_arg (P := Tryz.prog) wr 34 5 Tryz.underlying34 Tryz.underlying5 w.heap.size 0 vn vn v HLV.out (by
        intro i hi
        rw [Nat.zero_add, O.out.cell i]
        simp only [byL, List.getElem?_toArray, Nat.sub_self, List.replicate_zero, List.append_nil, List.getElem?_map]
        have hlv := HLV.out
        rw [List.take_of_length_le (by omega), List.getElem?_eq_getElem (by omega), List.getD_eq_getElem?_getD, List.getElem?_eq_getElem (by omega)]
        rfl) 9 Tryz.underlying9
      rw [strOf_keyL HVT.out] at hcv
      have HO := Lib.hid O
      clear O
      go_wp2
      go_ret
      exact ⟨rfl, hbl⟩
end Go.Proofs.YtfnamjkmkoldeaaGreatDoor
namespace Go.Proofs.YtfnamjkmkoldeaaGreatDoor
open Go.RowKit
set_option linter.unusedVariables false
set_option linter.unusedSimpArgs false
def stateB (sz vs : List Int) : Bool := decide (vs.length = sz.length) && upB (fun i => hasB sz (i : Int) (vs.getD i 0)) vs.length
def testsB (sz : List Int) (g : List I2b) : Bool := decide (g.length ≤ 24) && g.all fun t => hasB sz t.a t.b
theorem getD_of {l : List Int} {k : Nat} {x : Int} (h : l[k]? = some x) : l.getD k 0 = x := by rw [List.getD_eq_getElem?_getD, h]; rfl
theorem stateB_ne {sz vs : List Int} (h : vs.length ≠ sz.length) : stateB sz vs = false := by rw [stateB, decide_eq_false h]; rfl
theorem stateB_eq {sz vs : List Int} (h : vs.length = sz.length) : stateB sz vs = upB (fun i => hasB sz (i : Int) (vs.getD i 0)) vs.length := by rw [stateB, decide_eq_true h, Bool.true_and]
set_option maxHeartbeats 1000000 in
theorem impl_isState {sa ta ra va : Option Addr} {sn sc tn tc rn rc vn vc : Nat} {sz vs : List Int} {w : World} (hI : Ints w sa sn sc sz) (hV : Ints w va vn vc vs) (hn : sn ≤ 1048576) (hv : vn ≤ 1048576) (hs : allIn 1 32 sz = true) :
    Calls Tryz.prog 92 #[.agg #[.slice sa sn sc, .slice ta tn tc, .slice ra rn rc], .slice va vn vc] w fun e w' => e = .returned (.bool (stateB sz vs)) ∧ Below w.heap.size w w' := by
  have hl := hI.len
  have hvl := hV.len
  have HI := Lib.hid hI
  have HV := Lib.hid hV
  have HS := Lib.hid hs
  clear hI hV hs
  by_cases hne : vn = sn
  · subst hne
    have hd : ((vn : Int) != (vn : Int)) = false := by simp
    have HB := Lib.hid (stateB_eq (sz := sz) (vs := vs) (by omega))
    have X := Lib.hid (Blk.made w #[.slice sa vn sc, .slice ta tn tc, .slice ra rn rc] 44)
    obtain ⟨wA, hwA⟩ : ∃ wA : World, wA = w.alloc (.cells #[.slice sa vn sc, .slice ta tn tc, .slice ra rn rc] 44) := ⟨_, rfl⟩
    have hbA : Below w.heap.size w wA := by rw [hwA]; repeat (first | exact Below.refl _ _ | assumption | refine below_allocS ?_ _ | refine below_callS ?_ (by assumption) | (refine Below.alloc ?_ (by first | omega | (simp; done) | (simp; omega)) _) | (refine Below.setCell ?_ (by first | omega | (simp; done) | (simp; omega)) _) | refine Below.drew ?_ | refine below_drewN ?_ _ | (refine below_call ?_ (by assumption) (by first | omega | (simp; done) | (simp; omega))) | (refine Below.trans ?_ (by assumption)))
    rw [← hwA] at X
    have HwA := Lib.hid hwA
    have HL := Lib.hid hvl
    clear hwA hvl hl
    go_enter Tryz.func92, Tryz.ntmps92
    go_wp2_with fail
    rw [← HwA.out]
    clear HwA
    go_loopw [15] (fun s15 wr => ∃ k : Nat, s15 = .int .i64 k ∧ k ≤ vn ∧ Below w.heap.size w wr ∧ Hid (upB (fun i => hasB sz (i : Int) (vs.getD i 0)) k = true) ∧ Hid (Blk wr w.heap.size #[.slice sa vn sc, .slice ta tn tc, .slice ra rn rc] 44)) (fun s15 _ => vn - (intOf s15).toNat)
    case atStart => exact ⟨0, rfl, by omega, hbA, Lib.hid (upB_zero _), X⟩
    case round =>
      clear X hbA
      obtain ⟨k, rfl, hk, hbl, A, X⟩ := hrel
      by_cases hlt : k < vn
      · have hlt' : (k : Int) < (vn : Int) := by omega
        have hk0 : (0 : Int) ≤ (k : Int) := by omega
        obtain ⟨b, off, x, rfl, hb, hx, hcell, hwf⟩ := (HV.out.keep hbl).at hlt
        have Hx := Lib.hid (getD_of hx)
        clear hx
        have x0 := X.out.cell 0
        have x1 := X.out.cell 1
        have x2 := X.out.cell 2
        have xl := X.out.lt
        simp at x0 x1 x2
        have hcall := impl_has (v := (k : Int)) (x := x) (ta := ta) (tn := tn) (tc := tc) (ra := ra) (rn := rn) (rc := rc) (HI.out.keep hbl) hn HS.out
        cases hq : hasB sz (k : Int) x
        all_goals
          rw [hq] at hcall
          have HC := Lib.hid hcall
          have HQ := Lib.hid hq
          clear hcall hq
          go_wp2_with fail
          refine Calls.mono HC.out ?_
          rintro e w1 ⟨rfl, hb1⟩
          have X := Lib.hid (X.out.keep hb1)
          replace hbl : Below w.heap.size w w1 := below_callS hbl hb1
          clear hb1 x0 x1 x2 xl
        · go_wp2
          go_ret
          exact ⟨ret_bool (by rw [HB.out, HL.out, upB_false hlt (by rw [Hx.out]; exact HQ.out)]), hbl⟩
        · go_wp2_with fail
          go_roundw
          case rel => exact ⟨k + 1, by go_num, by omega, hbl, Lib.hid (upB_step A.out (by rw [Hx.out]; exact HQ.out)), X⟩
          case measure => simp [intOf]; omega
      · obtain rfl : vn = k := by omega
        have hlt' : ¬ (vn : Int) < (vn : Int) := by omega
        go_wp2
        go_ret
        exact ⟨ret_bool (by rw [HB.out, HL.out, A.out]), hbl⟩
  · have hd : ((vn : Int) != (sn : Int)) = true := by rw [bne_iff_ne]; omega
    have HB := Lib.hid (stateB_ne (sz := sz) (vs := vs) (by omega))
    clear hne hl hvl
    go_enter Tryz.func92, Tryz.ntmps92
    go_wp2
    go_ret
    exact ⟨ret_bool HB.out.symm, by repeat (first | exact Below.refl _ _ | assumption | refine below_allocS ?_ _ | refine below_callS ?_ (by assumption) | (refine Below.alloc ?_ (by first | omega | (simp; done) | (simp; omega)) _) | (refine Below.setCell ?_ (by first | omega | (simp; done) | (simp; omega)) _) | refine Below.drew ?_ | refine below_drewN ?_ _ | (refine below_call ?_ (by assumption) (by first | omega | (simp; done) | (simp; omega))) | (refine Below.trans ?_ (by assumption)))⟩
set_option maxHeartbeats 1000000 in
theorem spec_l20State {sa ta ra va : Option Addr} {sn sc tn tc rn rc vn vc : Nat} {sz vs : List Int} {w : World} (hI : Ints w sa sn sc sz) (hV : Ints w va vn vc vs) (hn : sn ≤ 1048576) (hv : vn ≤ 1048576) (hs : allIn 1 32 sz = true) :
    Calls Tryz.prog 117 #[.agg #[.slice sa sn sc, .slice ta tn tc, .slice ra rn rc], .slice va vn vc] w fun e w' => e = .returned (.bool (stateB sz vs)) ∧ Below w.heap.size w w' := by
  have hl := hI.len
  have hvl := hV.len
  have HI := Lib.hid hI
  have HV := Lib.hid hV
  have HS := Lib.hid hs
  clear hI hV hs
  have X := Lib.hid (Blk.made w #[.slice sa sn sc, .slice ta tn tc, .slice ra rn rc] 44)
  obtain ⟨wA, hwA⟩ : ∃ wA : World, wA = w.alloc (.cells #[.slice sa sn sc, .slice ta tn tc, .slice ra rn rc] 44) := ⟨_, rfl⟩
  have hbA : Below w.heap.size w wA := by rw [hwA]; repeat (first | exact Below.refl _ _ | assumption | refine below_allocS ?_ _ | refine below_callS ?_ (by assumption) | (refine Below.alloc ?_ (by first | omega | (simp; done) | (simp; omega)) _) | (refine Below.setCell ?_ (by first | omega | (simp; done) | (simp; omega)) _) | refine Below.drew ?_ | refine below_drewN ?_ _ | (refine below_call ?_ (by assumption) (by first | omega | (simp; done) | (simp; omega))) | (refine Below.trans ?_ (by assumption)))
  rw [← hwA] at X
  have HwA := Lib.hid hwA
  have HLV := Lib.hid hvl
  have HLS := Lib.hid hl
  clear hwA hvl hl
  go_enter Tryz.func117, Tryz.ntmps117
  go_wp2_with fail
  rw [← HwA.out]
  clear HwA
  go_loopw [5] (fun s5 wr => ∃ k : Nat, s5 = .int .i64 k ∧ k ≤ vn ∧ k ≤ sn ∧ Below w.heap.size w wr ∧ Hid (upB (fun i => hasB sz (i : Int) (vs.getD i 0)) k = true) ∧ Hid (Blk wr w.heap.size #[.slice sa sn sc, .slice ta tn tc, .slice ra rn rc] 44)) (fun s5 _ => vn - (intOf s5).toNat)
  case atStart => exact ⟨0, rfl, by omega, by omega, hbA, Lib.hid (upB_zero _), X⟩
  case round =>
    clear X hbA
    obtain ⟨k, rfl, hk, hks, hbl, A, X⟩ := hrel
    have x0 := X.out.cell 0
    have x1 := X.out.cell 1
    have x2 := X.out.cell 2
    have xl := X.out.lt
    simp at x0 x1 x2
    by_cases hlt : k < vn
    · have hlt' : (k : Int) < (vn : Int) := by omega
      have hk0 : (0 : Int) ≤ (k : Int) := by omega
      by_cases hls : k < sn
      · have hls' : (k : Int) < (sn : Int) := by omega
        obtain ⟨b, off, x, rfl, hb, hx, hcell, hwf⟩ := (HV.out.keep hbl).at hlt
        obtain ⟨b', off', z, rfl, hb', hz, hcell', hwf'⟩ := (HI.out.keep hbl).at hls
        have hz12 := allIn_at HS.out hz
        have hz1 := hz12.1
        have hz2 := hz12.2
        have e2 : IntKind.i64.wrap (z - 1) = z - 1 := IntWalk.i64_in _ (by omega)
        have hhas := hasB_yes (x := x) hz
        have Hx := Lib.hid (getD_of hx)
        have hin := fun (wx : World) => (spec_l01In (x := x) (lo := 0) (hi := z - 1) (w := wx)).mono (fun e w' h => (⟨h.1, h.2.symm⟩ : e = .returned (.bool (inB x 0 (z - 1))) ∧ w' = wx))
        cases hq : inB x 0 (z - 1)
        all_goals
          rw [hq] at hin hhas
          have HH := Lib.hid hhas
          have HIN := Lib.hid hin
          clear hx hz hz12 hq hhas hin
          go_wp2_with fail
          go_quiet ((go_at_call 72; exact Calls.quiet_of_same (HIN.out _)))
        · go_wp2
          go_ret
          refine ⟨ret_bool ?_, below_drewN hbl _⟩
          by_cases hne : vn = sn
          · rw [stateB_eq (by rw [HLV.out, HLS.out, hne]), HLV.out, upB_false hlt (by rw [Hx.out]; exact HH.out)]
          · rw [stateB_ne (by rw [HLV.out, HLS.out]; exact hne)]
        · go_wp2_with fail
          go_roundw
          case rel => exact ⟨k + 1, by go_num, by omega, by omega, below_drewN hbl _, Lib.hid (upB_step A.out (by rw [Hx.out]; exact HH.out)), Lib.hid X.out⟩
          case measure => simp [intOf]; omega
      · obtain rfl : sn = k := by omega
        have hls' : ¬ (sn : Int) < (sn : Int) := by omega
        have hd : ((vn : Int) == (sn : Int)) = false := by rw [beq_eq_false_iff_ne]; omega
        go_wp2
        go_ret
        exact ⟨ret_bool (by rw [stateB_ne (by rw [HLV.out, HLS.out]; omega)]), hbl⟩
    · obtain rfl : vn = k := by omega
      have hlt' : ¬ (vn : Int) < (vn : Int) := by omega
      by_cases hne : vn = sn
      · have hd : ((vn : Int) == (sn : Int)) = true := by rw [beq_iff_eq]; omega
        have HB := Lib.hid (show stateB sz vs = true by rw [stateB_eq (by rw [HLV.out, HLS.out, hne]), HLV.out, A.out])
        clear hne
        go_wp2
        go_ret
        exact ⟨ret_bool HB.out.symm, hbl⟩
      · have hd : ((vn : Int) == (sn : Int)) = false := by rw [beq_eq_false_iff_ne]; omega
        have HB := Lib.hid (show stateB sz vs = false by rw [stateB_ne (by rw [HLV.out, HLS.out]; exact hne)])
        clear hne
        go_wp2
        go_ret
        exact ⟨ret_bool HB.out.symm, hbl⟩
end Go.Proofs.YtfnamjkmkoldeaaGreatDoor
namespace Go.Proofs.YtfnamjkmkoldeaaGreatDoor
open Go.RowKit
set_option linter.unusedVariables false
set_option linter.unusedSimpArgs false
set_option maxHeartbeats 1000000 in
theorem impl_areTests_1 {x : I2b} {B : Nat} {sa ta ra : Option Addr} {sn sc tn tc rn rc : Nat} {sz : List Int} {w : World} (hB : Blk w B #[.slice sa sn sc, .slice ta tn tc, .slice ra rn rc] 44) (hI : Ints w sa sn sc sz) (hn : sn ≤ 1048576) (hs : allIn 1 32 sz = true) :
    Calls Tryz.prog 155 (#[.agg x.enc.toArray] ++ #[.pointer (some ⟨B, 0, none⟩)]) w fun e w' => e = .returned (.bool (!hasB sz x.a x.b)) ∧ Below w.heap.size w w' := by
  have x0 := hB.cell 0
  have x1 := hB.cell 1
  have x2 := hB.cell 2
  have xl := hB.lt
  simp at x0 x1 x2
  have h := fun (wx : World) (hb : Below w.heap.size w wx) => impl_has (v := x.a) (x := x.b) (ta := ta) (tn := tn) (tc := tc) (ra := ra) (rn := rn) (rc := rc) (hI.keep hb) hn hs
  have H := Lib.hid h
  clear h hI hB hs
  show Calls _ _ #[.agg #[.int .i64 x.a, .int .i64 x.b, .bool x.c], .pointer (some ⟨B, 0, none⟩)] _ _
  go_enter Tryz.func155, Tryz.ntmps155
  go_wp2_with fail
  refine Calls.mono (H.out _ (by repeat (first | exact Below.refl _ _ | assumption | refine below_allocS ?_ _ | refine below_callS ?_ (by assumption) | (refine Below.alloc ?_ (by first | omega | (simp; done) | (simp; omega)) _) | (refine Below.setCell ?_ (by first | omega | (simp; done) | (simp; omega)) _) | refine Below.drew ?_ | refine below_drewN ?_ _ | (refine below_call ?_ (by assumption) (by first | omega | (simp; done) | (simp; omega))) | (refine Below.trans ?_ (by assumption))))) ?_
  rintro e w1 ⟨rfl, hb_w1⟩
  obtain ⟨hc_w1, hf_w1⟩ := bcell hb_w1
  have hs_w1 := hb_w1.size
  go_wp2
  go_ret
  exact ⟨rfl, by repeat (first | exact Below.refl _ _ | assumption | refine below_allocS ?_ _ | refine below_callS ?_ (by assumption) | (refine Below.alloc ?_ (by first | omega | (simp; done) | (simp; omega)) _) | (refine Below.setCell ?_ (by first | omega | (simp; done) | (simp; omega)) _) | refine Below.drew ?_ | refine below_drewN ?_ _ | (refine below_call ?_ (by assumption) (by first | omega | (simp; done) | (simp; omega))) | (refine Below.trans ?_ (by assumption)))⟩
set_option maxHeartbeats 1000000 in
theorem impl_areTests {sa ta ra ga : Option Addr} {sn sc tn tc rn rc gn gc : Nat} {sz : List Int} {g : List I2b} {w : World} (hI : Ints w sa sn sc sz) (hn : sn ≤ 1048576) (hs : allIn 1 32 sz = true) (hG : F2b w ga gn gc g) (hg : gn ≤ 1048576) :
    Calls Tryz.prog 131 #[.agg #[.slice sa sn sc, .slice ta tn tc, .slice ra rn rc], .slice ga gn gc] w fun e w' => e = .returned (.bool (testsB sz g)) ∧ Below w.heap.size w w' := by
  have hgl := hG.len
  by_cases h24 : gn ≤ 24
  · have h24' : (gn : Int) ≤ 24 := by omega
    have HT := Lib.hid (show testsB sz g = !(g.any fun x => !hasB sz x.a x.b) by rw [testsB, decide_eq_true (by omega), Bool.true_and, List.not_any_eq_all_not]; simp)
    have hp := fun (wx : World) (hb : Below w.heap.size w wx) (hB : Blk wx w.heap.size #[.slice sa sn sc, .slice ta tn tc, .slice ra rn rc] 44) => slices_ContainsFunc_Test (g := 155) (lb := #[.pointer (some ⟨w.heap.size, 0, none⟩)]) (p := fun x => !hasB sz x.a x.b) (fun _ _ => by kernel_rfl) (fun W x hx hb' => impl_areTests_1 (hB.keep hb') (hI.keep (below_callS hb hb')) hn hs) (hG.keep hb) hg
    have HP := Lib.hid hp
    clear hp hI hG hs hgl
    go_enter Tryz.func131, Tryz.ntmps131
    go_wp2_with fail
    refine Calls.mono (HP.out _ (by repeat (first | exact Below.refl _ _ | assumption | refine below_allocS ?_ _ | refine below_callS ?_ (by assumption) | (refine Below.alloc ?_ (by first | omega | (simp; done) | (simp; omega)) _) | (refine Below.setCell ?_ (by first | omega | (simp; done) | (simp; omega)) _) | refine Below.drew ?_ | refine below_drewN ?_ _ | (refine below_call ?_ (by assumption) (by first | omega | (simp; done) | (simp; omega))) | (refine Below.trans ?_ (by assumption)))) (Blk.made w #[.slice sa sn sc, .slice ta tn tc, .slice ra rn rc] 44)) ?_
    rintro e w2 ⟨rfl, hb_w2⟩
    go_wp2
    go_ret
    exact ⟨ret_bool HT.out.symm, by repeat (first | exact Below.refl _ _ | assumption | refine below_allocS ?_ _ | refine below_callS ?_ (by assumption) | (refine Below.alloc ?_ (by first | omega | (simp; done) | (simp; omega)) _) | (refine Below.setCell ?_ (by first | omega | (simp; done) | (simp; omega)) _) | refine Below.drew ?_ | refine below_drewN ?_ _ | (refine below_call ?_ (by assumption) (by first | omega | (simp; done) | (simp; omega))) | (refine Below.trans ?_ (by assumption)))⟩
  · have h24' : ¬ (gn : Int) ≤ 24 := by omega
    have HT := Lib.hid (show testsB sz g = false by rw [testsB, decide_eq_false (by omega)]; rfl)
    clear hI hG hs hgl
    go_enter Tryz.func131, Tryz.ntmps131
    go_wp2
    go_ret
    exact ⟨ret_bool HT.out.symm, by repeat (first | exact Below.refl _ _ | assumption | refine below_allocS ?_ _ | refine below_callS ?_ (by assumption) | (refine Below.alloc ?_ (by first | omega | (simp; done) | (simp; omega)) _) | (refine Below.setCell ?_ (by first | omega | (simp; done) | (simp; omega)) _) | refine Below.drew ?_ | refine below_drewN ?_ _ | (refine below_call ?_ (by assumption) (by first | omega | (simp; done) | (simp; omega))) | (refine Below.trans ?_ (by assumption)))⟩
end Go.Proofs.YtfnamjkmkoldeaaGreatDoor
namespace Go.Proofs.YtfnamjkmkoldeaaGreatDoor
open Go.RowKit
set_option linter.unusedVariables false
set_option linter.unusedSimpArgs false
theorem testsB_any {sz : List Int} {g : List I2b} : testsB sz g = (decide (g.length ≤ 24) && !(g.any fun x => !hasB sz x.a x.b)) := by
  rw [testsB, List.not_any_eq_all_not]; simp
set_option maxHeartbeats 2000000 in
theorem spec_l20Tests {sa ta ra ga : Option Addr} {sn sc tn tc rn rc gn gc : Nat} {sz : List Int} {g : List I2b} {w : World} (hI : Ints w sa sn sc sz) (hn : sn ≤ 1048576) (hs : allIn 1 32 sz = true) (hG : F2b w ga gn gc g) (hg : gn ≤ 1048576) :
    Calls Tryz.prog 145 #[.agg #[.slice sa sn sc, .slice ta tn tc, .slice ra rn rc], .slice ga gn gc] w fun e w' => e = .returned (.bool (testsB sz g)) ∧ Below w.heap.size w w' := by
  have hgl := hG.len
  have HTT := Lib.hid (show testsB sz g = (decide (gn ≤ 24) && !(g.any fun x => !hasB sz x.a x.b)) by rw [testsB_any, hgl])
  have K3 := Lib.hid (fun (x : I2b) (wx : World) (hb : Below w.heap.size w wx) => spec_l20Has (v := x.a) (x := x.b) (ta := ta) (tn := tn) (tc := tc) (ra := ra) (rn := rn) (rc := rc) (hI.keep hb) hn hs)
  have HG := Lib.hid hG
  have HL := Lib.hid hgl
  clear hI hG hs hgl
  have X := Lib.hid (Blk.made w #[.slice sa sn sc, .slice ta tn tc, .slice ra rn rc] 44)
  obtain ⟨wA, hwA⟩ : ∃ wA : World, wA = w.alloc (.cells #[.slice sa sn sc, .slice ta tn tc, .slice ra rn rc] 44) := ⟨_, rfl⟩
  have hbA : Below w.heap.size w wA := by rw [hwA]; repeat (first | exact Below.refl _ _ | assumption | refine below_allocS ?_ _ | refine below_callS ?_ (by assumption) | (refine Below.alloc ?_ (by first | omega | (simp; done) | (simp; omega)) _) | (refine Below.setCell ?_ (by first | omega | (simp; done) | (simp; omega)) _) | refine Below.drew ?_ | refine below_drewN ?_ _ | (refine below_call ?_ (by assumption) (by first | omega | (simp; done) | (simp; omega))) | (refine Below.trans ?_ (by assumption)))
  rw [← hwA] at X
  have HwA := Lib.hid hwA
  clear hwA
  go_enter Tryz.func145, Tryz.ntmps145
  go_wp2_with fail
  rw [← HwA.out]
  clear HwA
  go_loopw [5] (fun s5 wr => ∃ i : Nat, s5 = .int .i64 i ∧ i ≤ gn ∧ Below w.heap.size w wr ∧ Hid (((g.take i).any fun x => !hasB sz x.a x.b) = false) ∧ Hid (Blk wr w.heap.size #[.slice sa sn sc, .slice ta tn tc, .slice ra rn rc] 44)) (fun s5 _ => gn - (intOf s5).toNat)
  case atStart => exact ⟨0, rfl, by omega, hbA, Lib.hid rfl, X⟩
  case round =>
    clear X hbA
    obtain ⟨i, rfl, hi, hbl, A, X⟩ := hrel
    by_cases hlt : i < gn
    · have hlt' : (i : Int) < (gn : Int) := by omega
      have hi0 : (0 : Int) ≤ (i : Int) := by omega
      obtain ⟨b', off, x, rfl, hb', hx, hwf, c0, c1, c2⟩ := F2b.get (HG.out.keep hbl) hlt
      have Hx := Lib.hid hx
      clear hx
      have x0 := X.out.cell 0
      have x1 := X.out.cell 1
      have x2 := X.out.cell 2
      have xl := X.out.lt
      simp at x0 x1 x2
      have hcall := K3.out x
      cases hv : hasB sz x.a x.b
      all_goals
        rw [hv] at hcall
        have HV := Lib.hid hv
        have HCl := Lib.hid hcall
        clear hv hcall
        go_wp2_with fail
        go_region_held3 (fun wx => wx.cell? ⟨b', off + i * 3, none⟩ = some (.int .i64 x.a) ∧ wx.cell? ⟨b', off + i * 3 + 1, none⟩ = some (.int .i64 x.b) ∧ wx.cell? ⟨w.heap.size, 0, none⟩ = some (.slice sa sn sc) ∧ wx.cell? ⟨w.heap.size, 1, none⟩ = some (.slice ta tn tc) ∧ wx.cell? ⟨w.heap.size, 2, none⟩ = some (.slice ra rn rc) ∧ b' < wx.heap.size ∧ w.heap.size < wx.heap.size ∧ Blk wx w.heap.size #[.slice sa sn sc, .slice ta tn tc, .slice ra rn rc] 44 ∧ Below w.heap.size w wx) (((try go_split_ands); (repeat' apply And.intro) <;> first | assumption | exact Blk.keep (by assumption) hbx | exact Blk.drew (by assumption) | exact Blk.drew (Blk.made _ _ _) | exact Below.drew (by assumption) | exact Below.drew (below_allocS (by first | exact Below.refl _ _ | assumption) _) | exact below_callS (by assumption) hbx | exact below_call (by assumption) hbx (Below.size (by assumption)) | exact (hcx _ _ (by assumption)).trans (by assumption) | omega | (simp [*]; done) | (simp; omega))) (first | (go_at_call 143; refine Calls.mono (HCl.out _ (by first | assumption | (go_split_ands; assumption))) ?_; rintro e wx2 ⟨rfl, hbx⟩; obtain ⟨hcx, hfx⟩ := bcell hbx; have hsx := hbx.size))
        go_split_ands
      · go_wp2
        go_ret
        exact ⟨ret_bool (by rw [HTT.out, show (g.any fun x => !hasB sz x.a x.b) = true from any_take_true (p := fun x => !hasB sz x.a x.b) Hx.out (by simp [HV.out])]; simp), by assumption⟩
      · go_wp2_with fail
        go_roundw
        case rel => exact ⟨i + 1, by go_num, by omega, by assumption, Lib.hid (any_take_step (p := fun x => !hasB sz x.a x.b) Hx.out A.out (by simp [HV.out])), Lib.hid (by assumption)⟩
        case measure => simp [intOf]; omega
    · obtain rfl : gn = i := by omega
      have hlt' : ¬ (gn : Int) < (gn : Int) := by omega
      have hA := A.out
      rw [take_len HL.out] at hA
      have HA := Lib.hid hA
      clear hA
      by_cases h24 : gn ≤ 24
      · have h24' : (gn : Int) ≤ 24 := by omega
        have HT := Lib.hid (show testsB sz g = true by rw [HTT.out, HA.out, decide_eq_true h24]; rfl)
        go_wp2
        go_ret
        exact ⟨ret_bool HT.out.symm, hbl⟩
      · have h24' : ¬ (gn : Int) ≤ 24 := by omega
        have HT := Lib.hid (show testsB sz g = false by rw [HTT.out, HA.out, decide_eq_false h24]; rfl)
        go_wp2
        go_ret
        exact ⟨ret_bool HT.out.symm, hbl⟩
end Go.Proofs.YtfnamjkmkoldeaaGreatDoor
