/- StateOfBits of the reference and the program, walked.; The states of a diagram: plain laws.; The join of two diagrams: the program, walked: all pairs. -/
import Derived.Test.YtkaikbaagajckaaGreatK12
import Derived.Test.YtkaikbaagajckaaGreatK10
import Derived.BigQuiet
namespace Go.Proofs.YtkaikbaagajckaaGreat
open Go.RowKit
set_option linter.unusedVariables false
set_option linter.unusedSimpArgs false
set_option maxHeartbeats 2000000 in
theorem spec_l23State {sa ta ra va : Option Addr} {sn sc tn tc rn rc vn vc : Nat} {sz bs : List Int} {w : World} (hI : Ints w sa sn sc sz) (hV : Ints w va vn vc bs) (hn : sn ≤ 16) (hs : allIn 1 32 sz = true) (hb : allIn 0 1 bs = true) (hl : vn = offN sz sn) :
    Calls Tryz.prog 167 #[.agg #[.slice sa sn sc, .slice ta tn tc, .slice ra rn rc], .slice va vn vc] w fun e w' => ∃ a c, e = .returned (.tuple #[.slice a sn c, .bool (stateB sz (stV sz bs))]) ∧ Below w.heap.size w w' ∧ OwnI 2 w' w.heap.size a sn c (stV sz bs) := by
  have HI := Lib.hid hI
  have HV := Lib.hid hV
  have HS := Lib.hid hs
  have HB := Lib.hid hb
  have HL := Lib.hid hl
  clear hI hs hV hb hl
  have X := Lib.hid (Blk.made w #[.slice sa sn sc, .slice ta tn tc, .slice ra rn rc] 36)
  have hbA : Below w.heap.size w (w.alloc (.cells #[.slice sa sn sc, .slice ta tn tc, .slice ra rn rc] 36)) := bel
  obtain ⟨wA, hwA⟩ : ∃ wA : World, wA = w.alloc (.cells #[.slice sa sn sc, .slice ta tn tc, .slice ra rn rc] 36) := ⟨_, rfl⟩
  rw [← hwA] at X hbA
  have HwA := Lib.hid hwA
  have O1 := Lib.hid (show OwnI 2 (wA.alloc (.cells #[] 2)) wA.heap.size (some ⟨w.heap.size + 1, 0, none⟩) 0 0 [] by have h := OwnI.empty (E := 2) (base := wA.heap.size) wA (Nat.le_refl _); have e : wA.heap.size = w.heap.size + 1 := (by rw [hwA]; simp); rw [e] at h ⊢; exact h)
  have hbB : Below w.heap.size w (wA.alloc (.cells #[] 2)) := bel
  have X1 := Lib.hid (X.out.keep ((Below.refl _ _).alloc (Nat.le_refl _) (.cells #[] 2)))
  have hxl := X.out.lt
  clear hwA X
  go_enter Tryz.func167, Tryz.ntmps167
  go_wp2_with fail
  rw [← HwA.out]
  go_loopw [6, 7, 8, 9, 10] (fun s6 s7 s8 _ _ wr => ∃ (k f : Nat) (a1 : Option Addr) (c1 : Nat), k ≤ sn ∧ s6 = .slice a1 k c1 ∧ s7 = .int .i64 f ∧ s8 = .int .i64 k ∧ f ≤ 5 * k ∧ Below wA.heap.size wA wr ∧ Hid (f = offN sz k) ∧ Hid (OwnI 2 wr wA.heap.size a1 k c1 ((stV sz bs).take k)) ∧ Hid (Blk wr w.heap.size #[.slice sa sn sc, .slice ta tn tc, .slice ra rn rc] 36)) (fun _ _ s8 _ _ _ => sn - (intOf s8).toNat)
  case atStart => exact ⟨0, 0, _, 0, Nat.zero_le _, rfl, rfl, rfl, by omega, bel, Lib.hid (by simp [offN]), O1, X1⟩
  case round =>
    clear O1 X1 hbB
    obtain ⟨k, f, a1, c1, hk, rfl, rfl, rfl, hf, hbw, HF, HO, X⟩ := hrel
    have hbl : Below w.heap.size w wr := below_call hbA hbw hbA.size
    have hsz := hbw.size
    have x0 := X.out.cell 0
    have x1 := X.out.cell 1
    have x2 := X.out.cell 2
    have xl := X.out.lt
    simp at x0 x1 x2
    by_cases hlt : k < sn
    · have hlt' : (k : Int) < (sn : Int) := by omega
      have hk0 : (0 : Int) ≤ (k : Int) := by omega
      obtain ⟨b', off', z, rfl, hb', hz, hcell', _⟩ := (HI.out.keep hbl).at hlt
      have hz2 := allIn_at HS.out hz
      have hz0 := hz2.1
      have hz1 := hz2.2
      have hw2 := wN_in hz2.1 hz2.2
      obtain ⟨W, hW⟩ : ∃ W : Nat, wN z = (W : Int) := ⟨(wN z).toNat, by omega⟩
      have hst := offN_step hz
      have hsv := stV_at (bits := bs) hz
      rw [hW, Int.toNat_natCast] at hst hsv
      have hle := offN_le (sz := sz) (k := k + 1) (by rw [HI.out.len]; omega)
      have hl9 := HL.out
      have hf9 := HF.out
      rw [HI.out.len] at hle
      have hWm : f + W ≤ vn := by omega
      have hW5 : W ≤ 5 := by omega
      have HST := Lib.hid hst
      have HSV := Lib.hid hsv
      have HWd := Lib.hid (fun wx => spec_l23Width (z := z) (w := wx) hz0 hz1)
      rw [hW] at HWd
      have HP := Lib.hid (allIn_part HB.out (offN sz k) W)
      clear hz hz2 hw2 hW hst hsv hle hl9 hf9 hz0 hz1
      go_wp2_with fail
      go_wp2_with fail
      refine Calls.mono ((HWd.out _)) ?_
      rintro e _ ⟨rfl, rfl⟩
      go_wp2_with fail
      go_loop [7, 9, 10] (fun s7 s9 s10 => ∃ (i : Nat) (v bt : Int), i ≤ W ∧ s7 = .int .i64 ((f + i : Nat) : Int) ∧ s9 = .int .i64 v ∧ s10 = .int .i64 bt ∧ bt = (W : Int) - i ∧ 0 ≤ v ∧ v ≤ 31 ∧ Hid (v = valOf (((bs.drop (offN sz k)).take W).take i))) (fun _ _ s10 => (intOf s10).toNat)
      case atStart => exact ⟨0, 0, _, Nat.zero_le _, by simp, rfl, rfl, by omega, by omega, by omega, Lib.hid (by simp [valOf])⟩
      case round =>
        obtain ⟨i, v, bt, hi, rfl, rfl, rfl, hbt, hv0, hv1, HVv⟩ := hrel
        by_cases hlti : i < W
        · have hbt0 : 0 < bt := by omega
          have hfi : f + i < vn := by omega
          have hfi' : ((f + i : Nat) : Int) < (vn : Int) := by omega
          have hfi0 : (0 : Int) ≤ ((f + i : Nat) : Int) := by omega
          obtain ⟨b, off, x, rfl, hb, hx, hcell, hwf⟩ := (HV.out.keep hbl).at hfi
          have hx3 : ((bs.drop (offN sz k)).take W)[i]? = some x := by rw [List.getElem?_take, if_pos hlti, List.getElem?_drop, ← HF.out]; exact hx
          have hx2 := allIn_at HP.out hx3
          have hx0 := hx2.1
          have hx1 := hx2.2
          have Hn := Lib.hid (valOf_step hx3)
          have Hn3 := Lib.hid (valOf_31 HP.out (show i + 1 ≤ 5 by omega))
          clear hx hx2 hx3
          go_wp2
          go_round
          case rel => exact ⟨i + 1, 2 * v + x, _, by omega, by rw [show ((f + (i + 1) : Nat) : Int) = (f : Int) + i + 1 by omega], rfl, rfl, by omega, by omega, by have h1 := Hn.out; have h2 := Hn3.out; rw [← HVv.out] at h1; omega, Lib.hid (by rw [Hn.out, HVv.out])⟩
          case measure => simp [intOf]; omega
        · obtain rfl : i = W := by omega
          have hbt0 : ¬ 0 < bt := by omega
          have hv9 := HVv.out
          rw [List.take_take, Nat.min_self] at hv9
          have HV9 := Lib.hid hv9
          clear hv9
          go_wp2_with (at_builtin; refine append1_i64 rfl _ _ 22 2 rfl Tryz.underlying22 Tryz.infoi64 wA.heap.size _ _ _ _ (HO.out.keep ((Below.refl _ _).alloc (Nat.le_refl _) (.cells #[.int .i64 v] 2))) rfl wr.heap.size v rfl (by simp) (by unfold I64; omega) (by omega) (by simp; omega) ?_; intro a3 c3 w3 hown3 hb3 hg3)
          have Hown3 := Lib.hid hown3
          have X3 := Lib.hid (Blk.keepB (X.out.keep ((Below.refl _ _).alloc (Nat.le_refl _) (.cells #[.int .i64 v] 2))) hb3 hxl)
          clear hown3 hg3
          go_roundw
          case rel =>
            refine ⟨k + 1, f + i, a3, c3, by omega, rfl, rfl, by go_num, by omega, Below.trans bel hb3, Lib.hid (by rw [HST.out, HF.out]), Lib.hid (by rw [take_at HSV.out, ← HV9.out]; exact Hown3.out), X3⟩
          case measure => simp [intOf]; omega
    · obtain rfl : sn = k := by omega
      have hlt' : ¬ (sn : Int) < (sn : Int) := by omega
      have h1 := HO.out
      rw [List.take_of_length_le (by simp [stV]; rw [HI.out.len]; exact Nat.le_refl _)] at h1
      have HO2 := Lib.hid h1
      have K1 := Lib.hid (spec_l20State (ta := ta) (tn := tn) (tc := tc) (ra := ra) (rn := rn) (rc := rc) (HI.out.keep hbl) h1.ints (by omega) (by omega) HS.out)
      clear h1
      go_wp2_with fail
      refine Calls.mono K1.out ?_
      rintro e w5 ⟨rfl, hb5⟩
      go_wp2
      exact bodyPost_ret (v := .tuple #[.slice a1 sn c1, .bool (stateB sz (stV sz bs))]) (by simp [results, Tryz.results167, go_sem]) rfl ⟨a1, c1, rfl, below_callS hbl hb5, (HO2.out.keep hb5).le hbA.size⟩
def soC (sz st : List Int) (l : List (RM × RuD)) (bs : List Int) : Int := if modelB sz st l = false then 1 else if areB bs (sz.map wN).sum = false then 2 else if smB sz = false then 3 else if stateB sz (stV sz bs) = false then 4 else 0
def soL (sz st : List Int) (l : List (RM × RuD)) (bs : List Int) : List Int := if soC sz st l bs = 0 then stV sz bs else []
theorem areB_parts {bs : List Int} {sz : List Int} (h : areB bs (sz.map wN).sum = true) (hs : allIn 1 32 sz = true) : allIn 0 1 bs = true ∧ bs.length = offN sz sz.length := by
  rw [areB, Bool.and_eq_true] at h
  have h1 := of_decide_eq_true h.1
  have h2 := offN_full hs
  exact ⟨h.2, by omega⟩
theorem soC_1 {sz st : List Int} {l : List (RM × RuD)} {bs : List Int} (hm : modelB sz st l = false) : soC sz st l bs = 1 ∧ soL sz st l bs = [] := by
  have h : soC sz st l bs = 1 := by rw [soC, if_pos hm]
  exact ⟨h, by rw [soL, h]; rfl⟩
theorem soC_2 {sz st : List Int} {l : List (RM × RuD)} {bs : List Int} (hm : modelB sz st l = true) (ha : areB bs (sz.map wN).sum = false) : soC sz st l bs = 2 ∧ soL sz st l bs = [] := by
  have h : soC sz st l bs = 2 := by rw [soC, if_neg (by simp [hm]), if_pos ha]
  exact ⟨h, by rw [soL, h]; rfl⟩
theorem soC_3 {sz st : List Int} {l : List (RM × RuD)} {bs : List Int} (hm : modelB sz st l = true) (ha : areB bs (sz.map wN).sum = true) (hq : smB sz = false) : soC sz st l bs = 3 ∧ soL sz st l bs = [] := by
  have h : soC sz st l bs = 3 := by rw [soC, if_neg (by simp [hm]), if_neg (by simp [ha]), if_pos hq]
  exact ⟨h, by rw [soL, h]; rfl⟩
theorem soC_4 {sz st : List Int} {l : List (RM × RuD)} {bs : List Int} (hm : modelB sz st l = true) (ha : areB bs (sz.map wN).sum = true) (hq : smB sz = true) (hs : stateB sz (stV sz bs) = false) : soC sz st l bs = 4 ∧ soL sz st l bs = [] := by
  have h : soC sz st l bs = 4 := by rw [soC, if_neg (by simp [hm]), if_neg (by simp [ha]), if_neg (by simp [hq]), if_pos hs]
  exact ⟨h, by rw [soL, h]; rfl⟩
theorem soC_0 {sz st : List Int} {l : List (RM × RuD)} {bs : List Int} (hm : modelB sz st l = true) (ha : areB bs (sz.map wN).sum = true) (hq : smB sz = true) (hs : stateB sz (stV sz bs) = true) : soC sz st l bs = 0 ∧ soL sz st l bs = stV sz bs := by
  have h : soC sz st l bs = 0 := by rw [soC, if_neg (by simp [hm]), if_neg (by simp [ha]), if_neg (by simp [hq]), if_neg (by simp [hs])]
  exact ⟨h, by rw [soL, if_pos h]⟩
end Go.Proofs.YtkaikbaagajckaaGreat
namespace Go.Proofs.YtkaikbaagajckaaGreat
open Go.RowKit
set_option linter.unusedVariables false
set_option linter.unusedSimpArgs false
def bits01 (s : List Int) : Prop := ∀ x ∈ s, x = 0 ∨ x = 1
theorem allB_01 {k : Nat} {s : List Int} (h : s ∈ allB k) : s.length = k ∧ bits01 s := allB_mem.1 h
theorem vb_val {s : List Int} (hs : bits01 s) : ∀ (k i : Nat) (v : Int), i + k ≤ s.length → vbN (bitF 0 s) k i v = ((s.drop i).take k).foldl (fun a b => 2 * a + b) v := by
  intro k
  induction k with
  | zero => intro i v _; rw [vbN, List.take_zero]; rfl
  | succ k ih =>
    intro i v h
    have hi : i < s.length := by omega
    rw [vbN, List.drop_eq_getElem_cons hi, List.take_succ_cons, List.foldl_cons, ih (i + 1) _ (by omega)]
    congr 1
    have hb : bitF 0 s i = (s[i] == 1) := bit_at (List.getElem?_eq_getElem hi)
    rw [hb]
    rcases hs s[i] (List.getElem_mem hi) with e | e
    · rw [e]; rfl
    · rw [e]; rfl
/-- a list of bits that stands for a state -/
def okB (sz s : List Int) : Bool := stateB sz (stV sz s)
theorem stV_len (sz s : List Int) : (stV sz s).length = sz.length := by simp [stV]
theorem stV_getD {sz s : List Int} {k : Nat} (hk : k < sz.length) : (stV sz s).getD k 0 = valOf ((s.drop (offN sz k)).take (wN (sz.getD k 0)).toNat) := by
  rw [List.getD_eq_getElem?_getD, stV, range_get hk]; rfl
theorem valOf_nn {l : List Int} (h : bits01 l) : 0 ≤ valOf l := by
  have key : ∀ (l : List Int) (v : Int), bits01 l → 0 ≤ v → 0 ≤ l.foldl (fun a b => 2 * a + b) v := by
    intro l
    induction l with
    | nil => intro v _ hv; exact hv
    | cons x r ih =>
      intro v hl hv
      rw [List.foldl_cons]
      have hx := hl x (List.mem_cons_self ..)
      exact ih _ (fun y hy => hl y (List.mem_cons_of_mem _ hy)) (by omega)
  exact key l 0 h (Int.le_refl _)
theorem bits01_part {s : List Int} (h : bits01 s) (a b : Nat) : bits01 ((s.drop a).take b) := fun x hx => h x (List.mem_of_mem_drop (List.mem_of_mem_take hx))
theorem okB_iff {sz s : List Int} (hs : bits01 s) : okB sz s = true ↔ ∀ j, j < sz.length → valOf ((s.drop (offN sz j)).take (wN (sz.getD j 0)).toNat) < sz.getD j 0 := by
  rw [okB, stateB_eq (stV_len sz s), upB, List.all_eq_true, stV_len]
  constructor
  · intro h j hj
    have h1 := h j (List.mem_range.2 hj)
    have hz : sz[j]? = some (sz.getD j 0) := by rw [List.getD_eq_getElem?_getD, List.getElem?_eq_getElem hj]; rfl
    rw [hasB_yes hz, stV_getD hj] at h1
    simp only [inB, Bool.and_eq_true, decide_eq_true_eq] at h1
    omega
  · intro h j hj
    have hj := List.mem_range.1 hj
    have hz : sz[j]? = some (sz.getD j 0) := by rw [List.getD_eq_getElem?_getD, List.getElem?_eq_getElem hj]; rfl
    rw [hasB_yes hz, stV_getD hj]
    have h1 := h j hj
    have h2 := valOf_nn (bits01_part hs (offN sz j) (wN (sz.getD j 0)).toNat)
    simp only [inB, Bool.and_eq_true, decide_eq_true_eq]
    omega
/-- the diagram without tests has the value 1 at the states' bits -/
theorem ts_ok {sz s : List Int} (hsz : allIn 1 32 sz = true) (hl : s.length = offN sz sz.length) (hs : bits01 s) : evR (tsN sz []).1 (bitF 0 s) (tsN sz []).2 = okB sz s := by
  obtain ⟨i1, i2, _, _, i5⟩ := td_inv (g := []) hsz sz.length (Nat.le_refl _)
  rw [tsN, can_ev i1.redu i2, Bool.eq_iff_iff, i5, okB_iff hs]
  constructor
  · intro h j hj
    have h1 := h j (by omega) hj
    obtain ⟨z, hz⟩ : ∃ z, sz[j]? = some z := ⟨_, List.getElem?_eq_getElem hj⟩
    have h9 := offN_step hz
    have h8 := offN_le (sz := sz) (k := j + 1) (by omega)
    rw [alB, List.any_nil, Bool.not_false, Bool.and_true, decide_eq_true_eq, vb_val hs _ _ _ (by rw [getD_of hz]; omega)] at h1
    exact h1
  · intro h j _ hj
    have h1 := h j hj
    obtain ⟨z, hz⟩ : ∃ z, sz[j]? = some z := ⟨_, List.getElem?_eq_getElem hj⟩
    have h9 := offN_step hz
    have h8 := offN_le (sz := sz) (k := j + 1) (by omega)
    rw [alB, List.any_nil, Bool.not_false, Bool.and_true, decide_eq_true_eq, vb_val hs _ _ _ (by rw [getD_of hz]; omega)]
    exact h1
/-- smaller bits, smaller values -/
theorem val_mono : ∀ {l l' : List Int} {v v' : Int}, l.length = l'.length → (∀ i : Nat, l.getD i 0 ≤ l'.getD i 0) → v ≤ v' → l.foldl (fun a b => 2 * a + b) v ≤ l'.foldl (fun a b => 2 * a + b) v'
  | [], [], v, v', _, _, h => h
  | [], y :: r', v, v', hl, _, h => by simp at hl
  | x :: r, [], v, v', hl, _, h => by simp at hl
  | x :: r, y :: r', v, v', hl, hp, h => by
    rw [List.foldl_cons, List.foldl_cons]
    refine val_mono (by simpa using hl) (fun i => by simpa using hp (i + 1)) ?_
    have h0 := hp 0
    simp at h0
    omega
theorem part_le {s t : List Int} (h : ∀ i : Nat, s.getD i 0 ≤ t.getD i 0) (a b i : Nat) : ((s.drop a).take b).getD i 0 ≤ ((t.drop a).take b).getD i 0 := by
  rw [List.getD_eq_getElem?_getD, List.getD_eq_getElem?_getD, List.getElem?_take, List.getElem?_take]
  split
  · rw [List.getElem?_drop, List.getElem?_drop]
    have := h (a + i)
    rw [List.getD_eq_getElem?_getD, List.getD_eq_getElem?_getD] at this
    exact this
  · exact Int.le_refl _
theorem okB_down {sz s t : List Int} (hs : bits01 s) (ht : bits01 t) (hl : s.length = t.length) (h : ∀ i : Nat, s.getD i 0 ≤ t.getD i 0) (hok : okB sz t = true) : okB sz s = true := by
  rw [okB_iff hs]
  rw [okB_iff ht] at hok
  intro j hj
  refine Int.lt_of_le_of_lt ?_ (hok j hj)
  exact val_mono (by simp [hl]) (part_le h _ _) (Int.le_refl _)
/-- is there a state whose bits begin so: the rest are zeros -/
def begB (sz : List Int) (N : Nat) (c : List Int) : Bool := okB sz (c ++ List.replicate (N - c.length) 0)
theorem beg_no {sz c t : List Int} {N : Nat} (hc : bits01 c) (ht : bits01 t) (hl : c.length + t.length = N) (h : begB sz N c = false) : okB sz (c ++ t) = false := by
  cases hok : okB sz (c ++ t) with
  | false => rfl
  | true =>
    have hz : bits01 (c ++ List.replicate (N - c.length) 0) := fun x hx => by
      rcases List.mem_append.1 hx with hx | hx
      · exact hc x hx
      · exact .inl (List.mem_replicate.1 hx).2
    have hct : bits01 (c ++ t) := fun x hx => by
      rcases List.mem_append.1 hx with hx | hx
      · exact hc x hx
      · exact ht x hx
    have := okB_down (sz := sz) hz hct (by simp; omega) (fun i => by
      rw [List.getD_eq_getElem?_getD, List.getD_eq_getElem?_getD, List.getElem?_append, List.getElem?_append]
      split
      · exact Int.le_refl _
      · rw [List.getElem?_replicate]
        split
        · cases hti : t[i - c.length]? with
          | none => exact Int.le_refl _
          | some x =>
            have := ht x (List.mem_of_getElem? hti)
            show (0 : Int) ≤ x
            omega
        · cases hti : t[i - c.length]? with
          | none => exact Int.le_refl _
          | some x =>
            have := ht x (List.mem_of_getElem? hti)
            show (0 : Int) ≤ x
            omega) hok
    rw [begB] at h
    rw [h] at this
    cases this
/-- what the reference collects, below some bits -/
def onF (sz : List Int) (n : Int) (D : List I3) (N : Nat) : Nat → Int → List Int → List (List Int) → List (List Int) × Bool
  | 0, r, c, out => if r = 0 then (out, true) else (if okB sz c = true then out ++ [stV sz c] else out, decide ((if okB sz c = true then out ++ [stV sz c] else out).length ≤ 4000))
  | k + 1, r, c, out => if r = 0 then (out, true) else if begB sz N (c ++ [0]) = false then (out, false)
    else if (onF sz n D N k (chN n D r c.length).1 (c ++ [0]) out).2 = false then ((onF sz n D N k (chN n D r c.length).1 (c ++ [0]) out).1, false)
    else if begB sz N (c ++ [1]) = false then ((onF sz n D N k (chN n D r c.length).1 (c ++ [0]) out).1, true)
    else onF sz n D N k (chN n D r c.length).2 (c ++ [1]) (onF sz n D N k (chN n D r c.length).1 (c ++ [0]) out).1
/-- the states below some bits -/
def xsN (sz : List Int) (D : List I3) (k : Nat) (r : Int) (c : List Int) : List (List Int) := ((allB k).filter fun s => evR D (bitF c.length s) r && okB sz (c ++ s)).map fun s => stV sz (c ++ s)
theorem xs_zero (sz : List Int) (D : List I3) (k : Nat) (c : List Int) : xsN sz D k 0 c = [] := by
  rw [xsN, List.map_eq_nil_iff, List.filter_eq_nil_iff]
  intro s _
  rw [ev_zero]; simp
theorem xs_succ {sz : List Int} {n : Nat} {D : List I3} (hF : Frst D) (hO : OrdN (n : Int) D) {k : Nat} {r : Int} {c : List Int} (hr : RefB r D.length) (hc : (c.length : Int) ≤ lvlN (n : Int) D r) (hn : c.length < n) :
    xsN sz D (k + 1) r c = xsN sz D k (chN (n : Int) D r c.length).1 (c ++ [0]) ++ xsN sz D k (chN (n : Int) D r c.length).2 (c ++ [1]) := by
  obtain ⟨h1, h2, h3, h4, h5⟩ := ch_all hF hO hr hc (by omega)
  rw [xsN, allB, List.filter_append, List.map_append, List.filter_map, List.filter_map, List.map_map, List.map_map, xsN, xsN]
  congr 1
  · congr 1
    · funext s; simp
    · congr 1
      funext s
      simp only [Function.comp, List.length_append, List.length_cons, List.length_nil, List.append_assoc, List.cons_append, List.nil_append]
      rw [h5, bitF_at, if_neg (by decide), ev_bit hF hO h1 h3]
  · congr 1
    · funext s; simp
    · congr 1
      funext s
      simp only [Function.comp, List.length_append, List.length_cons, List.length_nil, List.append_assoc, List.cons_append, List.nil_append]
      rw [h5, bitF_at, if_pos (by decide), ev_bit hF hO h2 h4]
theorem on_eq {sz : List Int} {n : Nat} {D : List I3} (hF : Frst D) (hO : OrdN (n : Int) D) : ∀ (k : Nat) (r : Int) (c : List Int) (out : List (List Int)), c.length + k = n → bits01 c → begB sz n c = true → RefB r D.length → (c.length : Int) ≤ lvlN (n : Int) D r → out.length ≤ 4000 →
    (onF sz (n : Int) D n k r c out).2 = decide (out.length + (xsN sz D k r c).length ≤ 4000) ∧ ((onF sz (n : Int) D n k r c out).2 = true → (onF sz (n : Int) D n k r c out).1 = out ++ xsN sz D k r c) := by
  intro k
  induction k with
  | zero =>
    intro r c out hk hc hb hr hl ho
    by_cases h0 : r = 0
    · subst h0
      rw [onF, if_pos rfl, xs_zero]
      simp [ho]
    · have h1 : r = 1 := by
        by_cases h2 : r < 2
        · have := hr.1; omega
        · obtain ⟨q, rfl⟩ : ∃ q : Nat, r = (q : Int) + 2 := ⟨(r - 2).toNat, by omega⟩
          have hq : q < D.length := by have := hr.2; omega
          have hx := List.getElem?_eq_getElem hq
          have := (hO _ _ hx).2.1
          rw [lvl_node hx] at hl
          omega
      subst h1
      have hx : xsN sz D 0 1 c = if okB sz c = true then [stV sz c] else [] := by
        rw [xsN, allB]
        have he : evR D (bitF c.length []) 1 = true := by rw [ev_low (by omega)]; rfl
        cases hok : okB sz c
        · simp [he, hok]
        · simp [he, hok]
      rw [onF, if_neg h0, hx]
      cases hok : okB sz c
      · simp [ho]
      · simp
  | succ k ih =>
    intro r c out hk hc hb hr hl ho
    by_cases h0 : r = 0
    · subst h0
      rw [onF, if_pos rfl, xs_zero]
      simp [ho]
    · obtain ⟨h1, h2, h3, h4, h5⟩ := ch_all hF hO hr hl (by omega)
      have hc0 : bits01 (c ++ [0]) := fun x hx => by
        rcases List.mem_append.1 hx with hx | hx
        · exact hc x hx
        · simp at hx; exact .inl hx
      have hc1 : bits01 (c ++ [1]) := fun x hx => by
        rcases List.mem_append.1 hx with hx | hx
        · exact hc x hx
        · simp at hx; exact .inr hx
      have hb0 : begB sz n (c ++ [0]) = true := by
        have e : c ++ List.replicate (n - c.length) 0 = (c ++ [0]) ++ List.replicate (n - (c ++ [(0 : Int)]).length) 0 := by
          have : n - c.length = (n - (c ++ [(0 : Int)]).length) + 1 := by simp; omega
          rw [this, List.replicate_succ]; simp
        rw [begB, ← e]; exact hb
      have hl0 : (((c ++ [(0 : Int)]).length : Nat) : Int) ≤ lvlN (n : Int) D (chN (n : Int) D r c.length).1 := by simp; omega
      have hl1 : (((c ++ [(1 : Int)]).length : Nat) : Int) ≤ lvlN (n : Int) D (chN (n : Int) D r c.length).2 := by simp; omega
      obtain ⟨i1, i2⟩ := ih (chN (n : Int) D r c.length).1 (c ++ [0]) out (by simp; omega) hc0 hb0 h1 hl0 ho
      rw [onF, if_neg h0, hb0, if_neg (by decide), xs_succ hF hO hr hl (by omega)]
      generalize onF sz (n : Int) D n k (chN (n : Int) D r c.length).1 (c ++ [0]) out = A at *
      cases hA : A.2
      · rw [if_pos rfl]
        rw [hA] at i1
        have : ¬ (out.length + (xsN sz D k (chN (n : Int) D r c.length).1 (c ++ [0])).length ≤ 4000) := of_decide_eq_false i1.symm
        refine ⟨?_, fun h => by cases h⟩
        simp only [List.length_append]
        exact (decide_eq_false (by omega)).symm
      · rw [if_neg (by decide)]
        rw [hA] at i1
        have hle : out.length + (xsN sz D k (chN (n : Int) D r c.length).1 (c ++ [0])).length ≤ 4000 := of_decide_eq_true i1.symm
        have hA1 := i2 hA
        cases hb1 : begB sz n (c ++ [1])
        · rw [if_pos rfl]
          have hx1 : xsN sz D k (chN (n : Int) D r c.length).2 (c ++ [1]) = [] := by
            rw [xsN, List.map_eq_nil_iff, List.filter_eq_nil_iff]
            intro s hs
            obtain ⟨s1, s2⟩ := allB_01 hs
            rw [beg_no hc1 s2 (by simp; omega) hb1]; simp
          rw [hx1, List.append_nil]
          exact ⟨(decide_eq_true hle).symm, fun _ => hA1⟩
        · rw [if_neg (by decide)]
          obtain ⟨j1, j2⟩ := ih (chN (n : Int) D r c.length).2 (c ++ [1]) A.1 (by simp; omega) hc1 hb1 h2 hl1 (by rw [hA1, List.length_append]; omega)
          rw [hA1] at j1 j2 ⊢
          rw [j1]
          refine ⟨by simp only [List.length_append]; rw [Nat.add_assoc], fun h => ?_⟩
          rw [j2 (by rw [j1]; exact h), List.append_assoc]
end Go.Proofs.YtkaikbaagajckaaGreat
namespace Go.Proofs.YtkaikbaagajckaaGreat
open Go.RowKit
set_option linter.unusedVariables false
set_option linter.unusedSimpArgs false
attribute [local go_sem ↓] Go.wp_at_zero Go.wp_at_succ
theorem int_min_eq (x y : Int) : (if x ≤ y then x else y) = min x y := by rw [Int.min_def]
set_option maxRecDepth 100000 in
set_option maxHeartbeats 8000000 in
theorem impl_joinVisit {lo bJ bM mm bA bB bF p mb bV : Nat} {j n : Int} {aA aB : Option Addr} {cA cB : Nat} {A B : List I3} {rA rB : Int} (hA : Snd n A) (hB : Snd n B) (n0 : 0 ≤ n) (n20 : n ≤ 20) (hA2 : A.length ≤ 2000) (hB2 : B.length ≤ 2000) :
    ∀ (f : Nat) (a b : Int) (L : List I3) (M : Mem) (w : World), JnW w lo bJ bM mm bA bB bF p mb bV j n aA aB cA cB A B rA rB L M → RefB a A.length → RefB b B.length → a.toNat + b.toNat ≤ f →
    Calls Tryz.prog 137 #[.int .i64 a, .int .i64 b, .pointer (some ⟨bJ, 0, none⟩), .pointer (some ⟨bM, 0, none⟩), .pointer (some ⟨bA, 0, none⟩), .pointer (some ⟨bB, 0, none⟩), .pointer (some ⟨bF, 0, none⟩), .pointer (some ⟨bV, 0, none⟩)] w fun e w' => e = .returned (.int .i64 (jnF j n A B f (L, M) a b).2.2) ∧ JnW w' lo bJ bM mm bA bB bF p mb bV j n aA aB cA cB A B rA rB (jnF j n A B f (L, M) a b).1 (jnF j n A B f (L, M) a b).2.1 ∧ Below lo w w' := by
  intro f
  induction f with
  | zero =>
    intro a b L M w hW ha hb hf
    exact impl_join_low hW ha hb (by have := ha.1; have := hb.1; omega)
  | succ f ih =>
    intro a b L M w hW ha hb hf
    have ha0 := ha.1
    have hb0 := hb.1
    have ha1 := ha.2
    have hb1 := hb.2
    by_cases h0 : a < 2 ∧ b < 2
    · exact impl_join_low hW ha hb h0
    cases hm : M a b with
    | some r => exact impl_join_old hW (by unfold I64; omega) (by unfold I64; omega) h0 hm
    | none =>
      obtain ⟨i, hi⟩ : ∃ i, min (lvlN n A a) (lvlN n B b) = i := ⟨_, rfl⟩
      obtain ⟨c1, c2, c3, c4, d1, d2, hin, hi0⟩ := ch_down hA.redu.frst hB.redu.frst hA.ord hB.ord ha hb h0 hi
      replace hi0 := hi0 n0
      obtain ⟨u, hu⟩ : ∃ u, jnF j n A B f (L, M) (chN n A a i).1 (chN n B b i).1 = u := ⟨_, rfl⟩
      obtain ⟨v, hv⟩ : ∃ v, jnF j n A B f (u.1, u.2.1) (chN n A a i).2 (chN n B b i).2 = v := ⟨_, rfl⟩
      have HJ := Lib.hid (jn_new f (L, M) h0 hm hi hu hv)
      have hev1 := jn_ev (j := j) hA.redu.frst hB.redu.frst hA.ord hB.ord n0 f L M _ _ c1 c3 (by omega) hW.inv
      rw [hu] at hev1
      obtain ⟨v1, v2, _, _, _⟩ := hev1
      have hev2 := jn_ev (j := j) hA.redu.frst hB.redu.frst hA.ord hB.ord n0 f u.1 u.2.1 _ _ c2 c4 (by omega) v1
      rw [hv] at hev2
      obtain ⟨_, w2r, _, _, ⟨tt, htt⟩⟩ := hev2
      have hev3 := jn_ev (j := j) hA.redu.frst hB.redu.frst hA.ord hB.ord n0 (f + 1) L M a b ha hb hf hW.inv
      have HEV := Lib.hid hev3.1
      have hfar : v.2.1 a b = none := by
        obtain ⟨cnt, S, _, hk, _⟩ := hW.pl
        obtain ⟨⟨S1, k1⟩, k2⟩ := jn_cnt (j := j) hA.redu.frst hB.redu.frst hA.ord hB.ord f L M S _ _ c1 c3 (by omega) hk
        rw [hu] at k1 k2
        obtain ⟨⟨S2, k3⟩, k4⟩ := jn_cnt (j := j) hA.redu.frst hB.redu.frst hA.ord hB.ord f u.1 u.2.1 S1 _ _ c2 c4 (by omega) k1
        rw [hv] at k4
        rw [k4 a b (by omega), k2 a b (by omega), hm]
      have K1 := Lib.hid (fun (wx : World) (h : JnW wx lo bJ bM mm bA bB bF p mb bV j n aA aB cA cB A B rA rB L M) => ih (chN n A a i).1 (chN n B b i).1 L M wx h c1 c3 (by omega))
      have K2 := Lib.hid (fun (wx : World) (h : JnW wx lo bJ bM mm bA bB bF p mb bV j n aA aB cA cB A B rA rB u.1 u.2.1) => ih (chN n A a i).2 (chN n B b i).2 u.1 u.2.1 wx h c2 c4 (by omega))
      rw [hu] at K1
      rw [hv] at K2
      obtain ⟨u1, u2, u3⟩ := u
      obtain ⟨x1, x2, x3⟩ := v
      simp only at K1 K2 v2 w2r htt hfar HJ
      have hlo := hW.lows.1
      have hlm := hW.lows.2.1
      have A0 := hW.a.cell 0
      have A1 := hW.a.cell 1
      have A2 := hW.a.cell 2
      have Al := hW.a.lt
      have B0 := hW.b.cell 0
      have B1 := hW.b.cell 1
      have B2 := hW.b.cell 2
      have Bl := hW.b.lt
      have m0 := hW.m.cell 0
      have ml := hW.m.lt
      simp only [List.getElem?_toArray, List.getElem?_cons_zero, List.getElem?_cons_succ] at A0 A1 A2 B0 B1 B2 m0
      have hlk : (Instr.lookup 178 (.map (some mm)) (.agg #[.int .i64 a, .int .i64 b]) true).run Tryz.prog w = .ok (.tuple #[.int .i64 0, .bool false]) w := by
        obtain ⟨cnt, S, hpl, _, _⟩ := hW.pl
        have hl := hpl.look keyP Tryz.underlying178 (x := ⟨a, b⟩) ⟨(by show I64 a; unfold I64; omega), (by show I64 b; unfold I64; omega)⟩ true
        simp only [hm] at hl
        exact hl
      have KA := Lib.hid (fun (wx : World) (h : Below w.heap.size w wx) => impl_inputOf (inp := n) (root := rA) (hW.nA.keep h) (by omega) ha)
      have KB := Lib.hid (fun (wx : World) (h : Below w.heap.size w wx) => impl_inputOf (inp := n) (root := rB) (hW.nB.keep h) (by omega) hb)
      have KC := Lib.hid (fun (wx : World) (h : Below w.heap.size w wx) => impl_children (inp := n) (root := rA) (input := i) (hW.nA.keep h) (by omega) ha (fun _ => by omega))
      have KD := Lib.hid (fun (wx : World) (h : Below w.heap.size w wx) => impl_children (inp := n) (root := rB) (input := i) (hW.nB.keep h) (by omega) hb (fun _ => by omega))
      have HW := Lib.hid hW
      have HI := Lib.hid hi
      have HFAR := Lib.hid hfar
      have HRA := Lib.hid ha
      have HRB := Lib.hid hb
      have hcase : ¬ a < 2 ∨ (a < 2 ∧ ¬ b < 2) := by omega
      clear hW hi hfar hu hv hev3 hm ih ha hb h0 c1 c2 c3 c4
      rcases hcase with h1 | ⟨h1, h2⟩
      · go_enter Tryz.func137, Tryz.ntmps137
        go_wp2_with fail
        clear hlk
        refine wp_region_noPanic ?_
        refine wp_region_M (L := 7) (S := fun wx => Below w.heap.size w wx) (by kernel_rfl) ?_ (fun hHeld => ?_)
        · exact (Below.refl _ _).drew
        refine tkMB 1 ?_
        try simp only [Act.put, s1, s2, s3]
        refine tkMB 4 ?_
        try simp only [Act.put, s1, s2, s3]
        refine tkM0 0 (v := ?_) ?_ ?_
        rotate_left
        · (intro wv hSw; (try dsimp only at hSw); obtain ⟨hcq, _⟩ := bcell hSw; have hsq := Below.size hSw; have q0 := (hcq _ _ Al).trans A0; have q1 := (hcq _ _ Al).trans A1; have q2 := (hcq _ _ Al).trans A2; have ql := Nat.lt_of_lt_of_le Al hsq; go_simp; try with_reducible rfl)
        try simp only [Act.put, s1, s2, s3]
        refine tkM0 3 (v := ?_) ?_ ?_
        rotate_left
        · (intro wv hSw; (try dsimp only at hSw); obtain ⟨hcq, _⟩ := bcell hSw; have hsq := Below.size hSw; have q0 := (hcq _ _ Bl).trans B0; have q1 := (hcq _ _ Bl).trans B1; have q2 := (hcq _ _ Bl).trans B2; have ql := Nat.lt_of_lt_of_le Bl hsq; go_simp; try with_reducible rfl)
        try simp only [Act.put, s1, s2, s3]
        refine wpAnyM_ready (rs := [2]) (by kernel_rfl) (by simp) ?_
        refine AllReadyM.cons rfl (fun K hK => ?_) AllReadyM.nil
        go_simp
        refine Calls.mono (KA.out _ hHeld) ?_
        rintro e w1 ⟨rfl, hb1⟩
        have hb1' := below_callS hHeld hb1
        go_wp2_with fail
        refine hK.out _ _ hb1' (fun hHeld => ?_)
        clear hK K
        try simp only [Act.put, s1, s2, s3]
        refine wpAnyM_ready (rs := [5]) (by kernel_rfl) (by simp) ?_
        refine AllReadyM.cons rfl (fun K hK => ?_) AllReadyM.nil
        go_simp
        refine Calls.mono (KB.out _ hb1') ?_
        rintro e w2 ⟨rfl, hb2⟩
        have hb2' := below_callS hb1' hb2
        go_wp2_with fail
        refine hK.out _ _ hb2' (fun hHeld => ?_)
        clear hK K
        try simp only [Act.put, s1, s2, s3]
        refine wpAnyM_ready (rs := [6]) (by kernel_rfl) (by simp) ?_
        refine AllReadyM.cons rfl (fun K hK => ?_) AllReadyM.nil
        go_simp
        refine hK.out _ _ hb2' (fun hHeld => ?_)
        clear hK K
        try simp only [Act.put, s1, s2, s3]
        rw [HI.out]
        refine wpAnyM_ready (rs := [7]) (by kernel_rfl) (by simp) ?_
        refine AllReadyM.last rfl (fun K hK => ?_)
        go_simp
        refine hK.out _ _ ?_
        clear hK K
        try simp only [Act.put, s1, s2, s3]
        refine wpAnyM_done (by kernel_rfl) ?_ _
        refine NoPanic.normal ?_
        clear hHeld A0 A1 A2 Al B0 B1 B2 Bl m0 ml
        have J2 := Lib.hid (HW.out.keep hb2')
        have A0 := J2.out.a.cell 0
        have A1 := J2.out.a.cell 1
        have A2 := J2.out.a.cell 2
        have Al := J2.out.a.lt
        simp only [List.getElem?_toArray, List.getElem?_cons_zero, List.getElem?_cons_succ] at A0 A1 A2
        go_wp2_with fail
        refine Calls.mono (KC.out _ hb2') ?_
        rintro e w3 ⟨rfl, hb3⟩
        have hb3' := below_callS hb2' hb3
        have J3 := Lib.hid (HW.out.keep hb3')
        clear A0 A1 A2 Al J2
        have B0 := J3.out.b.cell 0
        have B1 := J3.out.b.cell 1
        have B2 := J3.out.b.cell 2
        have Bl := J3.out.b.lt
        simp only [List.getElem?_toArray, List.getElem?_cons_zero, List.getElem?_cons_succ] at B0 B1 B2
        go_wp2_with fail
        refine Calls.mono (KD.out _ hb3') ?_
        rintro e w4 ⟨rfl, hb4⟩
        have hb4' := below_callS hb3' hb4
        have J4 := Lib.hid (HW.out.keep hb4')
        have HB4 := Lib.hid (hb4'.mono hlo)
        clear B0 B1 B2 Bl J3 hb1 hb1' hb2 hb2' hb3 hb3' hb4 hb4' KA KB KC KD
        have f0 := J4.out.f.cell 0
        have fl := J4.out.f.lt
        have v0 := J4.out.v.cell 0
        have vl := J4.out.v.lt
        simp only [List.getElem?_toArray, List.getElem?_cons_zero] at f0 v0
        go_wp2_with fail
        refine wp_region_noPanic ?_
        refine wp_region_M (L := 10) (S := (fun wx => wx.cell? ⟨bF, 0, none⟩ = some (.pointer (some ⟨p, 0, none⟩)) ∧ wx.cell? ⟨bV, 0, none⟩ = some (vFun bJ bM bA bB bF bV) ∧ bF < wx.heap.size ∧ bV < wx.heap.size)) (by kernel_rfl) ?_ (fun hHeld => ?_)
        · exact ⟨f0, v0, fl, vl⟩
        clear f0 fl v0 vl
        have J5 := Lib.hid (J4.out.keep (Below.refl _ _).drew)
        refine tkM0 0 (v := ?_) ?_ ?_
        rotate_left
        · (intro wv hSw; (try dsimp only at hSw); obtain ⟨h1', h2', h3', h4'⟩ := hSw; go_simp; try with_reducible rfl)
        try simp only [Act.put, s1, s2, s3]
        refine tkM0 1 (v := ?_) ?_ ?_
        rotate_left
        · (intro wv hSw; (try dsimp only at hSw); obtain ⟨h1', h2', h3', h4'⟩ := hSw; go_simp; try with_reducible rfl)
        try simp only [Act.put, s1, s2, s3]
        refine tkM0 2 (v := ?_) ?_ ?_
        rotate_left
        · (intro wv hSw; (try dsimp only at hSw); obtain ⟨h1', h2', h3', h4'⟩ := hSw; go_simp; try with_reducible rfl)
        try simp only [Act.put, s1, s2, s3]
        refine tkM0 3 (v := ?_) ?_ ?_
        rotate_left
        · (intro wv hSw; (try dsimp only at hSw); obtain ⟨h1', h2', h3', h4'⟩ := hSw; go_simp; try with_reducible rfl)
        try simp only [Act.put, s1, s2, s3]
        refine tkM0 4 (v := ?_) ?_ ?_
        rotate_left
        · (intro wv hSw; (try dsimp only at hSw); obtain ⟨h1', h2', h3', h4'⟩ := hSw; go_simp; try with_reducible rfl)
        try simp only [Act.put, s1, s2, s3]
        refine tkM0 6 (v := ?_) ?_ ?_
        rotate_left
        · (intro wv hSw; (try dsimp only at hSw); obtain ⟨h1', h2', h3', h4'⟩ := hSw; go_simp; try with_reducible rfl)
        try simp only [Act.put, s1, s2, s3]
        refine tkM0 7 (v := ?_) ?_ ?_
        rotate_left
        · (intro wv hSw; (try dsimp only at hSw); obtain ⟨h1', h2', h3', h4'⟩ := hSw; go_simp; try with_reducible rfl)
        try simp only [Act.put, s1, s2, s3]
        refine tkM0 8 (v := ?_) ?_ ?_
        rotate_left
        · (intro wv hSw; (try dsimp only at hSw); obtain ⟨h1', h2', h3', h4'⟩ := hSw; go_simp; try with_reducible rfl)
        try simp only [Act.put, s1, s2, s3]
        refine wpAnyM_ready (rs := [5]) (by kernel_rfl) (by simp) ?_
        refine AllReadyM.cons rfl (fun K hK => ?_) AllReadyM.nil
        go_simp
        refine Calls.mono (K1.out _ J5.out) ?_
        rintro e w5 ⟨rfl, hJ6, hb6⟩
        have J6 := Lib.hid hJ6
        have HB6 := Lib.hid (HB4.out.drew.trans hb6)
        clear hJ6 hb6 J5 J4
        go_wp2_with fail
        refine hK.out _ _ ⟨J6.out.f.cell 0, J6.out.v.cell 0, J6.out.f.lt, J6.out.v.lt⟩ (fun hHeld => ?_)
        clear hK K
        try simp only [Act.put, s1, s2, s3]
        refine wpAnyM_ready (rs := [9]) (by kernel_rfl) (by simp) ?_
        refine AllReadyM.cons rfl (fun K hK => ?_) AllReadyM.nil
        go_simp
        refine Calls.mono (K2.out _ J6.out) ?_
        rintro e w6 ⟨rfl, hJ7, hb7⟩
        have J7 := Lib.hid hJ7
        have HB7 := Lib.hid (HB6.out.trans hb7)
        clear hJ7 hb7 J6 HB6 HB4
        go_wp2_with fail
        refine hK.out _ _ ⟨J7.out.f.cell 0, J7.out.v.cell 0, J7.out.f.lt, J7.out.v.lt⟩ (fun hHeld => ?_)
        clear hK K
        try simp only [Act.put, s1, s2, s3]
        obtain ⟨na, nc, mn, hfor⟩ := J7.out.fo
        obtain ⟨cnt, S, hpl, hkk, hcs⟩ := J7.out.pl
        obtain ⟨hmost, hmost2⟩ := hkk.most hA2 hB2
        have v1' := v2.1
        have v2' := v2.2
        have w1' := w2r.1
        have w2' := w2r.2
        have hxl : u1.length ≤ x1.length := by rw [htt, List.length_append]; omega
        obtain ⟨hl7, hlm7, hmb7⟩ := J7.out.lows
        have hAdd := JnK.add hkk HRA.out HRB.out HFAR.out (i := i) (lo := u3) (hi := x3) (v := (mkN x1 i u3 x3).2)
        have hrv := mkN_rf (L := x1) (i := i) (lo := u3) (hi := x3) ⟨v1', by omega⟩
        obtain ⟨t9, ht9, ht91⟩ := mkN_pre x1 i u3 x3
        have hln : (mkN x1 i u3 x3).1.length ≤ 4008005 := by rw [ht9, List.length_append]; omega
        have hri : I64 (mkN x1 i u3 x3).2 := by have h1 := hrv.1; have h2 := hrv.2; unfold I64; omega
        refine wpAnyM_ready (rs := [10]) (by kernel_rfl) (by simp) ?_
        refine AllReadyM.last rfl (fun K hK => ?_)
        go_simp
        refine Calls.mono (impl_node hfor (by omega) (by unfold I64; omega) (by unfold I64; omega) (by unfold I64; omega) hl7) ?_
        rintro e w7 ⟨rfl, ⟨na7, nc7, mn7, hF8⟩, hf8⟩
        have hpm : p ≠ mm := blk_map_ne hfor.blk hpl.isMap
        have jx8 := Lib.hid (J7.out.jx.frf hf8 (blk_typ_ne J7.out.jx hfor.blk (by decide)) (by decide) (blk_map_ne J7.out.jx hfor.map.isMap))
        have m8 := Lib.hid (J7.out.m.frf hf8 (blk_typ_ne J7.out.m hfor.blk (by decide)) (by decide) (blk_map_ne J7.out.m hfor.map.isMap))
        have a8 := Lib.hid (J7.out.a.frf hf8 (blk_typ_ne J7.out.a hfor.blk (by decide)) (by decide) (blk_map_ne J7.out.a hfor.map.isMap))
        have b8 := Lib.hid (J7.out.b.frf hf8 (blk_typ_ne J7.out.b hfor.blk (by decide)) (by decide) (blk_map_ne J7.out.b hfor.map.isMap))
        have f8 := Lib.hid (J7.out.f.frf hf8 (blk_typ_ne J7.out.f hfor.blk (by decide)) (by decide) (blk_map_ne J7.out.f hfor.map.isMap))
        have v8 := Lib.hid (J7.out.v.frf hf8 (blk_typ_ne J7.out.v hfor.blk (by decide)) (by decide) (blk_map_ne J7.out.v hfor.map.isMap))
        have hb8 := hf8.below (Below.refl lo w6) hl7 (Nat.le_refl _) hfor.lop hfor.lom
        have nA8 := Lib.hid (J7.out.nA.keepB hb8 J7.out.lA)
        have nB8 := Lib.hid (J7.out.nB.keepB hb8 J7.out.lB)
        have pl8 := Lib.hid (hpl.at (hf8.block mm hpl.lt (fun e => hpm e.symm) hmb7 (.inr (fun cs l he => by
          obtain ⟨es, cl, hm⟩ := hpl.isMap
          rw [hm] at he
          cases he))))
        have HB8 := Lib.hid (HB7.out.trans hb8)
        have F8 := Lib.hid hF8
        have hs8 := hf8.size
        have HLA := Lib.hid J7.out.lA
        have HLB := Lib.hid J7.out.lB
        have HADD := Lib.hid hAdd
        clear hf8 hF8 hb8 J7 HB7 hfor hpl hkk hAdd hHeld ht9 htt
        go_wp2_with fail
        refine hK.out _ _ ?_
        clear hK K
        try simp only [Act.put, s1, s2, s3]
        refine wpAnyM_ready (rs := [11]) (by kernel_rfl) (by simp) ?_
        refine AllReadyM.then (by kernel_rfl) rfl (fun K hK => ?_)
        go_simp
        refine hK.out _ _ ?_
        clear hK K
        try simp only [Act.put, s1, s2, s3]
        refine wpAnyM_done (by kernel_rfl) ?_ _
        refine NoPanic.normal ?_
        have m0 := m8.out.cell 0
        have ml := m8.out.lt
        simp only [List.getElem?_toArray, List.getElem?_cons_zero] at m0
        go_wp2_with ((with_reducible show wpList _ _ _ (Oper.mk _ (Op.mapUpdate _ _ _ _) _ _ _ _ :: _) _ _); refine MapA.updL pl8.out keyP Tryz.underlying178 (by unfold maxLen; omega) (x := ⟨a, b⟩) ⟨(by show I64 a; unfold I64; omega), (by show I64 b; unfold I64; omega)⟩ (v := (mkN x1 i u3 x3).2) hri rfl _ _ _ rfl rfl rfl rfl ?_; intro w9 hm9 hg9; have PL9 := Lib.hid hm9; have HG9 := Lib.hid hg9; clear hm9 hg9)
        go_ret
        have hg := HG9.out
        have hb9 : Below lo w7 w9 := (Below.refl _ _).grown hg (by omega) (fun q hq => by cases hq; exact hlm7)
        have hmap := pl8.out.isMap
        refine ⟨by rw [HJ.out]; rfl, ?_, HB8.out.trans hb9⟩
        have hev := HEV.out
        rw [HJ.out] at hev ⊢
        refine ⟨jx8.out.keepN hg (fun e => blk_map_ne jx8.out hmap e.symm), m8.out.keepN hg (fun e => blk_map_ne m8.out hmap e.symm), ⟨cnt + 1, _, PL9.out.congr (fun y _ => ?_), HADD.out, by simp; omega⟩, a8.out.keepN hg (fun e => blk_map_ne a8.out hmap e.symm), b8.out.keepN hg (fun e => blk_map_ne b8.out hmap e.symm), f8.out.keepN hg (fun e => blk_map_ne f8.out hmap e.symm), ⟨na7, nc7, mn7, F8.out.blk.keepN hg (fun e => blk_map_ne F8.out.blk hmap e.symm), F8.out.own.keepG hg (fun g e e' => ?_), F8.out.map.keepG hg (fun e => hmb7 (Option.some.inj e)), F8.out.few, F8.out.lop, F8.out.lom⟩, v8.out.keepN hg (fun e => blk_map_ne v8.out hmap e.symm), nA8.out.keepB hb9 HLA.out, nB8.out.keepB hb9 HLB.out, hev, ⟨by have := hb9.size; omega, hlm7, hmb7⟩, HLA.out, HLB.out⟩
        · simp only
          by_cases hy : y = ⟨a, b⟩
          · rw [if_pos hy, hy, if_pos ⟨rfl, rfl⟩]
          · rw [if_neg hy, if_neg (fun h => hy (by cases y; obtain ⟨e1, e2⟩ := h; simp only at e1 e2; rw [e1, e2]))]
        · simp only [Option.some.injEq] at e'
          obtain ⟨cur, hc⟩ := F8.out.own.typN e
          obtain ⟨es, cl, hm⟩ := hmap
          rw [← e', hm] at hc
          cases hc
      · go_enter Tryz.func137, Tryz.ntmps137
        go_wp2_with fail
        clear hlk
        refine wp_region_noPanic ?_
        refine wp_region_M (L := 7) (S := fun wx => Below w.heap.size w wx) (by kernel_rfl) ?_ (fun hHeld => ?_)
        · exact (Below.refl _ _).drew
        refine tkMB 1 ?_
        try simp only [Act.put, s1, s2, s3]
        refine tkMB 4 ?_
        try simp only [Act.put, s1, s2, s3]
        refine tkM0 0 (v := ?_) ?_ ?_
        rotate_left
        · (intro wv hSw; (try dsimp only at hSw); obtain ⟨hcq, _⟩ := bcell hSw; have hsq := Below.size hSw; have q0 := (hcq _ _ Al).trans A0; have q1 := (hcq _ _ Al).trans A1; have q2 := (hcq _ _ Al).trans A2; have ql := Nat.lt_of_lt_of_le Al hsq; go_simp; try with_reducible rfl)
        try simp only [Act.put, s1, s2, s3]
        refine tkM0 3 (v := ?_) ?_ ?_
        rotate_left
        · (intro wv hSw; (try dsimp only at hSw); obtain ⟨hcq, _⟩ := bcell hSw; have hsq := Below.size hSw; have q0 := (hcq _ _ Bl).trans B0; have q1 := (hcq _ _ Bl).trans B1; have q2 := (hcq _ _ Bl).trans B2; have ql := Nat.lt_of_lt_of_le Bl hsq; go_simp; try with_reducible rfl)
        try simp only [Act.put, s1, s2, s3]
        refine wpAnyM_ready (rs := [2]) (by kernel_rfl) (by simp) ?_
        refine AllReadyM.cons rfl (fun K hK => ?_) AllReadyM.nil
        go_simp
        refine Calls.mono (KA.out _ hHeld) ?_
        rintro e w1 ⟨rfl, hb1⟩
        have hb1' := below_callS hHeld hb1
        go_wp2_with fail
        refine hK.out _ _ hb1' (fun hHeld => ?_)
        clear hK K
        try simp only [Act.put, s1, s2, s3]
        refine wpAnyM_ready (rs := [5]) (by kernel_rfl) (by simp) ?_
        refine AllReadyM.cons rfl (fun K hK => ?_) AllReadyM.nil
        go_simp
        refine Calls.mono (KB.out _ hb1') ?_
        rintro e w2 ⟨rfl, hb2⟩
        have hb2' := below_callS hb1' hb2
        go_wp2_with fail
        refine hK.out _ _ hb2' (fun hHeld => ?_)
        clear hK K
        try simp only [Act.put, s1, s2, s3]
        refine wpAnyM_ready (rs := [6]) (by kernel_rfl) (by simp) ?_
        refine AllReadyM.cons rfl (fun K hK => ?_) AllReadyM.nil
        go_simp
        refine hK.out _ _ hb2' (fun hHeld => ?_)
        clear hK K
        try simp only [Act.put, s1, s2, s3]
        rw [HI.out]
        refine wpAnyM_ready (rs := [7]) (by kernel_rfl) (by simp) ?_
        refine AllReadyM.last rfl (fun K hK => ?_)
        go_simp
        refine hK.out _ _ ?_
        clear hK K
        try simp only [Act.put, s1, s2, s3]
        refine wpAnyM_done (by kernel_rfl) ?_ _
        refine NoPanic.normal ?_
        clear hHeld A0 A1 A2 Al B0 B1 B2 Bl m0 ml
        have J2 := Lib.hid (HW.out.keep hb2')
        have A0 := J2.out.a.cell 0
        have A1 := J2.out.a.cell 1
        have A2 := J2.out.a.cell 2
        have Al := J2.out.a.lt
        simp only [List.getElem?_toArray, List.getElem?_cons_zero, List.getElem?_cons_succ] at A0 A1 A2
        go_wp2_with fail
        refine Calls.mono (KC.out _ hb2') ?_
        rintro e w3 ⟨rfl, hb3⟩
        have hb3' := below_callS hb2' hb3
        have J3 := Lib.hid (HW.out.keep hb3')
        clear A0 A1 A2 Al J2
        have B0 := J3.out.b.cell 0
        have B1 := J3.out.b.cell 1
        have B2 := J3.out.b.cell 2
        have Bl := J3.out.b.lt
        simp only [List.getElem?_toArray, List.getElem?_cons_zero, List.getElem?_cons_succ] at B0 B1 B2
        go_wp2_with fail
        refine Calls.mono (KD.out _ hb3') ?_
        rintro e w4 ⟨rfl, hb4⟩
        have hb4' := below_callS hb3' hb4
        have J4 := Lib.hid (HW.out.keep hb4')
        have HB4 := Lib.hid (hb4'.mono hlo)
        clear B0 B1 B2 Bl J3 hb1 hb1' hb2 hb2' hb3 hb3' hb4 hb4' KA KB KC KD
        have f0 := J4.out.f.cell 0
        have fl := J4.out.f.lt
        have v0 := J4.out.v.cell 0
        have vl := J4.out.v.lt
        simp only [List.getElem?_toArray, List.getElem?_cons_zero] at f0 v0
        go_wp2_with fail
        refine wp_region_noPanic ?_
        refine wp_region_M (L := 10) (S := (fun wx => wx.cell? ⟨bF, 0, none⟩ = some (.pointer (some ⟨p, 0, none⟩)) ∧ wx.cell? ⟨bV, 0, none⟩ = some (vFun bJ bM bA bB bF bV) ∧ bF < wx.heap.size ∧ bV < wx.heap.size)) (by kernel_rfl) ?_ (fun hHeld => ?_)
        · exact ⟨f0, v0, fl, vl⟩
        clear f0 fl v0 vl
        have J5 := Lib.hid (J4.out.keep (Below.refl _ _).drew)
        refine tkM0 0 (v := ?_) ?_ ?_
        rotate_left
        · (intro wv hSw; (try dsimp only at hSw); obtain ⟨h1', h2', h3', h4'⟩ := hSw; go_simp; try with_reducible rfl)
        try simp only [Act.put, s1, s2, s3]
        refine tkM0 1 (v := ?_) ?_ ?_
        rotate_left
        · (intro wv hSw; (try dsimp only at hSw); obtain ⟨h1', h2', h3', h4'⟩ := hSw; go_simp; try with_reducible rfl)
        try simp only [Act.put, s1, s2, s3]
        refine tkM0 2 (v := ?_) ?_ ?_
        rotate_left
        · (intro wv hSw; (try dsimp only at hSw); obtain ⟨h1', h2', h3', h4'⟩ := hSw; go_simp; try with_reducible rfl)
        try simp only [Act.put, s1, s2, s3]
        refine tkM0 3 (v := ?_) ?_ ?_
        rotate_left
        · (intro wv hSw; (try dsimp only at hSw); obtain ⟨h1', h2', h3', h4'⟩ := hSw; go_simp; try with_reducible rfl)
        try simp only [Act.put, s1, s2, s3]
        refine tkM0 4 (v := ?_) ?_ ?_
        rotate_left
        · (intro wv hSw; (try dsimp only at hSw); obtain ⟨h1', h2', h3', h4'⟩ := hSw; go_simp; try with_reducible rfl)
        try simp only [Act.put, s1, s2, s3]
        refine tkM0 6 (v := ?_) ?_ ?_
        rotate_left
        · (intro wv hSw; (try dsimp only at hSw); obtain ⟨h1', h2', h3', h4'⟩ := hSw; go_simp; try with_reducible rfl)
        try simp only [Act.put, s1, s2, s3]
        refine tkM0 7 (v := ?_) ?_ ?_
        rotate_left
        · (intro wv hSw; (try dsimp only at hSw); obtain ⟨h1', h2', h3', h4'⟩ := hSw; go_simp; try with_reducible rfl)
        try simp only [Act.put, s1, s2, s3]
        refine tkM0 8 (v := ?_) ?_ ?_
        rotate_left
        · (intro wv hSw; (try dsimp only at hSw); obtain ⟨h1', h2', h3', h4'⟩ := hSw; go_simp; try with_reducible rfl)
        try simp only [Act.put, s1, s2, s3]
        refine wpAnyM_ready (rs := [5]) (by kernel_rfl) (by simp) ?_
        refine AllReadyM.cons rfl (fun K hK => ?_) AllReadyM.nil
        go_simp
        refine Calls.mono (K1.out _ J5.out) ?_
        rintro e w5 ⟨rfl, hJ6, hb6⟩
        have J6 := Lib.hid hJ6
        have HB6 := Lib.hid (HB4.out.drew.trans hb6)
        clear hJ6 hb6 J5 J4
        go_wp2_with fail
        refine hK.out _ _ ⟨J6.out.f.cell 0, J6.out.v.cell 0, J6.out.f.lt, J6.out.v.lt⟩ (fun hHeld => ?_)
        clear hK K
        try simp only [Act.put, s1, s2, s3]
        refine wpAnyM_ready (rs := [9]) (by kernel_rfl) (by simp) ?_
        refine AllReadyM.cons rfl (fun K hK => ?_) AllReadyM.nil
        go_simp
        refine Calls.mono (K2.out _ J6.out) ?_
        rintro e w6 ⟨rfl, hJ7, hb7⟩
        have J7 := Lib.hid hJ7
        have HB7 := Lib.hid (HB6.out.trans hb7)
        clear hJ7 hb7 J6 HB6 HB4
        go_wp2_with fail
        refine hK.out _ _ ⟨J7.out.f.cell 0, J7.out.v.cell 0, J7.out.f.lt, J7.out.v.lt⟩ (fun hHeld => ?_)
        clear hK K
        try simp only [Act.put, s1, s2, s3]
        obtain ⟨na, nc, mn, hfor⟩ := J7.out.fo
        obtain ⟨cnt, S, hpl, hkk, hcs⟩ := J7.out.pl
        obtain ⟨hmost, hmost2⟩ := hkk.most hA2 hB2
        have v1' := v2.1
        have v2' := v2.2
        have w1' := w2r.1
        have w2' := w2r.2
        have hxl : u1.length ≤ x1.length := by rw [htt, List.length_append]; omega
        obtain ⟨hl7, hlm7, hmb7⟩ := J7.out.lows
        have hAdd := JnK.add hkk HRA.out HRB.out HFAR.out (i := i) (lo := u3) (hi := x3) (v := (mkN x1 i u3 x3).2)
        have hrv := mkN_rf (L := x1) (i := i) (lo := u3) (hi := x3) ⟨v1', by omega⟩
        obtain ⟨t9, ht9, ht91⟩ := mkN_pre x1 i u3 x3
        have hln : (mkN x1 i u3 x3).1.length ≤ 4008005 := by rw [ht9, List.length_append]; omega
        have hri : I64 (mkN x1 i u3 x3).2 := by have h1 := hrv.1; have h2 := hrv.2; unfold I64; omega
        refine wpAnyM_ready (rs := [10]) (by kernel_rfl) (by simp) ?_
        refine AllReadyM.last rfl (fun K hK => ?_)
        go_simp
        refine Calls.mono (impl_node hfor (by omega) (by unfold I64; omega) (by unfold I64; omega) (by unfold I64; omega) hl7) ?_
        rintro e w7 ⟨rfl, ⟨na7, nc7, mn7, hF8⟩, hf8⟩
        have hpm : p ≠ mm := blk_map_ne hfor.blk hpl.isMap
        have jx8 := Lib.hid (J7.out.jx.frf hf8 (blk_typ_ne J7.out.jx hfor.blk (by decide)) (by decide) (blk_map_ne J7.out.jx hfor.map.isMap))
        have m8 := Lib.hid (J7.out.m.frf hf8 (blk_typ_ne J7.out.m hfor.blk (by decide)) (by decide) (blk_map_ne J7.out.m hfor.map.isMap))
        have a8 := Lib.hid (J7.out.a.frf hf8 (blk_typ_ne J7.out.a hfor.blk (by decide)) (by decide) (blk_map_ne J7.out.a hfor.map.isMap))
        have b8 := Lib.hid (J7.out.b.frf hf8 (blk_typ_ne J7.out.b hfor.blk (by decide)) (by decide) (blk_map_ne J7.out.b hfor.map.isMap))
        have f8 := Lib.hid (J7.out.f.frf hf8 (blk_typ_ne J7.out.f hfor.blk (by decide)) (by decide) (blk_map_ne J7.out.f hfor.map.isMap))
        have v8 := Lib.hid (J7.out.v.frf hf8 (blk_typ_ne J7.out.v hfor.blk (by decide)) (by decide) (blk_map_ne J7.out.v hfor.map.isMap))
        have hb8 := hf8.below (Below.refl lo w6) hl7 (Nat.le_refl _) hfor.lop hfor.lom
        have nA8 := Lib.hid (J7.out.nA.keepB hb8 J7.out.lA)
        have nB8 := Lib.hid (J7.out.nB.keepB hb8 J7.out.lB)
        have pl8 := Lib.hid (hpl.at (hf8.block mm hpl.lt (fun e => hpm e.symm) hmb7 (.inr (fun cs l he => by
          obtain ⟨es, cl, hm⟩ := hpl.isMap
          rw [hm] at he
          cases he))))
        have HB8 := Lib.hid (HB7.out.trans hb8)
        have F8 := Lib.hid hF8
        have hs8 := hf8.size
        have HLA := Lib.hid J7.out.lA
        have HLB := Lib.hid J7.out.lB
        have HADD := Lib.hid hAdd
        clear hf8 hF8 hb8 J7 HB7 hfor hpl hkk hAdd hHeld ht9 htt
        go_wp2_with fail
        refine hK.out _ _ ?_
        clear hK K
        try simp only [Act.put, s1, s2, s3]
        refine wpAnyM_ready (rs := [11]) (by kernel_rfl) (by simp) ?_
        refine AllReadyM.then (by kernel_rfl) rfl (fun K hK => ?_)
        go_simp
        refine hK.out _ _ ?_
        clear hK K
        try simp only [Act.put, s1, s2, s3]
        refine wpAnyM_done (by kernel_rfl) ?_ _
        refine NoPanic.normal ?_
        have m0 := m8.out.cell 0
        have ml := m8.out.lt
        simp only [List.getElem?_toArray, List.getElem?_cons_zero] at m0
        go_wp2_with ((with_reducible show wpList _ _ _ (Oper.mk _ (Op.mapUpdate _ _ _ _) _ _ _ _ :: _) _ _); refine MapA.updL pl8.out keyP Tryz.underlying178 (by unfold maxLen; omega) (x := ⟨a, b⟩) ⟨(by show I64 a; unfold I64; omega), (by show I64 b; unfold I64; omega)⟩ (v := (mkN x1 i u3 x3).2) hri rfl _ _ _ rfl rfl rfl rfl ?_; intro w9 hm9 hg9; have PL9 := Lib.hid hm9; have HG9 := Lib.hid hg9; clear hm9 hg9)
        go_ret
        have hg := HG9.out
        have hb9 : Below lo w7 w9 := (Below.refl _ _).grown hg (by omega) (fun q hq => by cases hq; exact hlm7)
        have hmap := pl8.out.isMap
        refine ⟨by rw [HJ.out]; rfl, ?_, HB8.out.trans hb9⟩
        have hev := HEV.out
        rw [HJ.out] at hev ⊢
        refine ⟨jx8.out.keepN hg (fun e => blk_map_ne jx8.out hmap e.symm), m8.out.keepN hg (fun e => blk_map_ne m8.out hmap e.symm), ⟨cnt + 1, _, PL9.out.congr (fun y _ => ?_), HADD.out, by simp; omega⟩, a8.out.keepN hg (fun e => blk_map_ne a8.out hmap e.symm), b8.out.keepN hg (fun e => blk_map_ne b8.out hmap e.symm), f8.out.keepN hg (fun e => blk_map_ne f8.out hmap e.symm), ⟨na7, nc7, mn7, F8.out.blk.keepN hg (fun e => blk_map_ne F8.out.blk hmap e.symm), F8.out.own.keepG hg (fun g e e' => ?_), F8.out.map.keepG hg (fun e => hmb7 (Option.some.inj e)), F8.out.few, F8.out.lop, F8.out.lom⟩, v8.out.keepN hg (fun e => blk_map_ne v8.out hmap e.symm), nA8.out.keepB hb9 HLA.out, nB8.out.keepB hb9 HLB.out, hev, ⟨by have := hb9.size; omega, hlm7, hmb7⟩, HLA.out, HLB.out⟩
        · simp only
          by_cases hy : y = ⟨a, b⟩
          · rw [if_pos hy, hy, if_pos ⟨rfl, rfl⟩]
          · rw [if_neg hy, if_neg (fun h => hy (by cases y; obtain ⟨e1, e2⟩ := h; simp only at e1 e2; rw [e1, e2]))]
        · simp only [Option.some.injEq] at e'
          obtain ⟨cur, hc⟩ := F8.out.own.typN e
          obtain ⟨es, cl, hm⟩ := hmap
          rw [← e', hm] at hc
          cases hc
end Go.Proofs.YtkaikbaagajckaaGreat
