/- The moves that a report permits: the program, walked.; The moves that a report permits, the rules that are enabled: the program, walked.; The enabled rules of a valid model: the program, walked. -/
import Derived.Test.YtfnamjkmkoldeaaGreatDoorRt
import Derived.Test.YtfnamjkmkoldeaaGreatDoorQg
import Derived.Test.YtfnamjkmkoldeaaGreatDoorFl
import Derived.Test.YtfnamjkmkoldeaaGreatDoorQc
import Derived.Test.YtfnamjkmkoldeaaGreatDoorQe
import Derived.Test.YtfnamjkmkoldeaaGreatDoorQj
import Derived.Test.YtfnamjkmkoldeaaGreatDoorRs
namespace Go.Proofs.YtfnamjkmkoldeaaGreatDoor
open Go.RowKit
set_option linter.unusedVariables false
set_option linter.unusedSimpArgs false
/-- is a move permitted: the train's place, the report's lists -/
def prm (B : Nat) (Fa Ga : List Int) (p : Int) : Bool := (p % 3 != 1) || (Fa.getD ((p / 3 + 1) % B).toNat 1 == 0 && Ga.getD ((p / 3 + 1) % B).toNat 1 == 0)
def pmL (B : Nat) (Fa Ga : List Int) (ps : List Int) (k : Nat) : List Int := ((List.range k).filter fun t => prm B Fa Ga (ps.getD t 0)).map fun (t : Nat) => (t : Int)
theorem pmL_succ (B : Nat) (Fa Ga ps : List Int) (k : Nat) : pmL B Fa Ga ps (k + 1) = pmL B Fa Ga ps k ++ (if prm B Fa Ga (ps.getD k 0) = true then [(k : Int)] else []) := by
  rw [pmL, pmL, List.range_succ, List.filter_append, List.map_append]
  congr 1
  cases h : prm B Fa Ga (ps.getD k 0) <;> simp only [List.filter_cons, List.filter_nil, h] <;> rfl
theorem pmL_len (B : Nat) (Fa Ga ps : List Int) (k : Nat) : (pmL B Fa Ga ps k).length ≤ k := by
  rw [pmL, List.length_map]
  have := List.length_filter_le (fun t => prm B Fa Ga (ps.getD t 0)) (List.range k)
  rwa [List.length_range] at this
set_option maxHeartbeats 2000000 in
theorem impl_isClear {fa ga : Option Addr} {fn fc gn gc k : Nat} {Fa Ga : List Int} {f g : Int} {w : World} (hF : Ints w fa fn fc Fa) (hG : Ints w ga gn gc Ga) (hf : Fa[k]? = some f) (hg : Ga[k]? = some g) :
    Calls Tryz.prog 123 #[.agg #[.slice fa fn fc, .slice ga gn gc], .int .i64 (k : Int)] w fun e w' => e = .returned (.bool (f == 0 && g == 0)) ∧ Below w.heap.size w w' := by
  have hkf : k < fn := by rw [← hF.len]; exact (List.getElem?_eq_some_iff.1 hf).1
  have hkg : k < gn := by rw [← hG.len]; exact (List.getElem?_eq_some_iff.1 hg).1
  have hkf' : (k : Int) < (fn : Int) := by omega
  have hkg' : (k : Int) < (gn : Int) := by omega
  have hk0 : (0 : Int) ≤ (k : Int) := by omega
  obtain ⟨b1, o1, x1, rfl, hb1, hx1, hc1, _⟩ := hF.at hkf
  obtain ⟨b2, o2, x2, rfl, hb2, hx2, hc2, _⟩ := hG.at hkg
  rw [hf] at hx1
  rw [hg] at hx2
  cases hx1
  cases hx2
  clear hF hG hf hg
  cases h1 : (f == 0) <;> cases h2 : (g == 0)
  all_goals
    go_enter Tryz.func123, Tryz.ntmps123
    go_wp2
    go_ret
    exact ⟨rfl, by repeat (first | exact Below.refl _ _ | assumption | refine below_allocS ?_ _ | refine below_callS ?_ (by assumption) | (refine Below.alloc ?_ (by first | omega | (simp; done) | (simp; omega)) _) | (refine Below.setCell ?_ (by first | omega | (simp; done) | (simp; omega)) _) | refine Below.drew ?_ | refine below_drewN ?_ _ | (refine below_call ?_ (by assumption) (by first | omega | (simp; done) | (simp; omega))) | (refine Below.trans ?_ (by assumption)))⟩
set_option maxHeartbeats 2000000 in
theorem impl_isReport_1 {x : Int} {w : World} : Calls Tryz.prog 122 #[.int .i64 x] w fun e w' => e = .returned (.bool (!(x == 0 || x == 1))) ∧ Below w.heap.size w w' := by
  cases h1 : (x == 0) <;> cases h2 : (x == 1)
  all_goals
    go_enter Tryz.func122, Tryz.ntmps122
    go_wp2
    go_ret
    exact ⟨rfl, by repeat (first | exact Below.refl _ _ | assumption | refine below_allocS ?_ _ | refine below_callS ?_ (by assumption) | (refine Below.alloc ?_ (by first | omega | (simp; done) | (simp; omega)) _) | (refine Below.setCell ?_ (by first | omega | (simp; done) | (simp; omega)) _) | refine Below.drew ?_ | refine below_drewN ?_ _ | (refine below_call ?_ (by assumption) (by first | omega | (simp; done) | (simp; omega))) | (refine Below.trans ?_ (by assumption)))⟩
set_option maxRecDepth 100000 in
set_option maxHeartbeats 4000000 in
theorem impl_isReport {fa ga : Option Addr} {fc gc B : Nat} {Fa Ga : List Int} {w : World} (hF : Ints w fa B fc Fa) (hG : Ints w ga B gc Ga) (hB : B ≤ 8) (hf : ∀ x ∈ Fa, x = 0 ∨ x = 1) (hg : ∀ x ∈ Ga, x = 0 ∨ x = 1) :
    Calls Tryz.prog 78 #[.int .i64 (B : Int), .agg #[.slice fa B fc, .slice ga B gc]] w fun e w' => e = .returned (.bool true) ∧ Below w.heap.size w w' := by
  have PF := fun (l : List Int) (hl : ∀ x ∈ l, x = 0 ∨ x = 1) (a : Option Addr) (c : Nat) (wx : World) (hI : Ints wx a B c l) => (show Calls Tryz.prog 59 #[.slice a B c, .func (.func 122) #[] #[]] wx (fun e w' => e = .returned (.bool false) ∧ Below wx.heap.size wx w') by
    have h := slices_ContainsFunc_i64 (g := 122) (lb := #[]) (p := fun x => !(x == 0 || x == 1)) (w := wx) (fun _ _ => by kernel_rfl) (fun W x hx hb => by rw [Array.append_empty]; exact impl_isReport_1) hI (by omega)
    have h0 : l.any (fun x => !(x == 0 || x == 1)) = false := by
      rw [List.any_eq_false]
      intro x hx
      rcases hl x hx with rfl | rfl <;> simp
    rw [h0] at h
    exact h)
  have KF := Lib.hid (fun (wx : World) (hb : Below w.heap.size w wx) => PF Fa hf fa fc wx (hF.keep hb))
  have KG := Lib.hid (fun (wx : World) (hb : Below w.heap.size w wx) => PF Ga hg ga gc wx (hG.keep hb))
  have e1 : ((B : Int) != (B : Int)) = false := by simp
  obtain ⟨W, hW⟩ : ∃ W, W = (w.alloc (.cells #[.slice fa B fc, .slice ga B gc] 58)).alloc (.cells #[.slice fa B fc, .slice ga B gc] 22) := ⟨_, rfl⟩
  have HBW := Lib.hid (show Below w.heap.size w W by rw [hW]; repeat (first | exact Below.refl _ _ | assumption | refine below_allocS ?_ _ | refine below_callS ?_ (by assumption) | (refine Below.alloc ?_ (by first | omega | (simp; done) | (simp; omega)) _) | (refine Below.setCell ?_ (by first | omega | (simp; done) | (simp; omega)) _) | refine Below.drew ?_ | refine below_drewN ?_ _ | (refine below_call ?_ (by assumption) (by first | omega | (simp; done) | (simp; omega))) | (refine Below.trans ?_ (by assumption))))
  have E := Lib.hid (show Blk W (w.heap.size + 1) #[.slice fa B fc, .slice ga B gc] 22 by rw [hW]; have := Blk.made (w.alloc (.cells #[.slice fa B fc, .slice ga B gc] 58)) #[.slice fa B fc, .slice ga B gc] 22; simpa using this)
  clear hF hG hf hg PF
  go_enter Tryz.func78, Tryz.ntmps78
  go_wp2_with fail
  rw [← hW]
  clear hW
  go_loopw [13] (fun s13 wr => ∃ k : Nat, s13 = .int .i64 k ∧ k ≤ 2 ∧ Hid (Below w.heap.size w wr) ∧ Hid (Blk wr (w.heap.size + 1) #[.slice fa B fc, .slice ga B gc] 22)) (fun s13 _ => 2 - (intOf s13).toNat)
  case atStart => exact ⟨0, rfl, by omega, HBW, E⟩
  case round =>
    clear HBW E
    obtain ⟨k, rfl, hk, HB, E⟩ := hrel
    have x0 := E.out.cell 0
    have x1 := E.out.cell 1
    have xl := E.out.lt
    simp at x0 x1
    have hk3 : k = 0 ∨ k = 1 ∨ k = 2 := by omega
    rcases hk3 with rfl | rfl | rfl
    · go_wp2_with fail
      go_wp2_with fail
      refine Calls.mono (impl_length_i64) ?_
      rintro e _ ⟨rfl, rfl⟩
      go_wp2_with fail
      refine Calls.mono (KF.out _ HB.out) ?_
      rintro e w2 ⟨rfl, hb2⟩
      have HB2 := Lib.hid (below_call HB.out hb2 HB.out.size)
      have E2 := Lib.hid (E.out.keep hb2)
      clear x0 x1 xl hb2
      go_wp2
      go_roundw
      case rel => exact ⟨1, by go_num, by omega, HB2, E2⟩
      case measure => simp [intOf]
    · go_wp2_with fail
      go_wp2_with fail
      refine Calls.mono (impl_length_i64) ?_
      rintro e _ ⟨rfl, rfl⟩
      go_wp2_with fail
      refine Calls.mono (KG.out _ HB.out) ?_
      rintro e w2 ⟨rfl, hb2⟩
      have HB2 := Lib.hid (below_call HB.out hb2 HB.out.size)
      have E2 := Lib.hid (E.out.keep hb2)
      clear x0 x1 xl hb2
      go_wp2
      go_roundw
      case rel => exact ⟨2, by go_num, by omega, HB2, E2⟩
      case measure => simp [intOf]
    · have hbe := HB.out
      go_wp2
      go_ret
      exact ⟨rfl, hbe⟩
set_option maxRecDepth 100000 in
set_option maxHeartbeats 4000000 in
theorem impl_permits {fa ga pa : Option Addr} {fc gc pc B n t p : Nat} {Fa Ga ps : List Int} {w : World} (hF : Ints w fa B fc Fa) (hG : Ints w ga B gc Ga) (hP : Ints w pa n pc ps) (hB : 2 ≤ B) (hB8 : B ≤ 8) (ht : ps[t]? = some (p : Int)) (hp : p < 3 * B) :
    Calls Tryz.prog 80 #[.agg #[.slice fa B fc, .slice ga B gc], .agg #[.int .i64 (B : Int), .slice pa n pc], .int .i64 (t : Int)] w fun e w' => e = .returned (.bool (prm B Fa Ga (p : Int))) ∧ Below w.heap.size w w' := by
  have hC : (p / 3 + 1) % B < B := Nat.mod_lt _ (by omega)
  obtain ⟨f, hf⟩ : ∃ f, Fa[(p / 3 + 1) % B]? = some f := ⟨_, List.getElem?_eq_getElem (by rw [hF.len]; exact hC)⟩
  obtain ⟨g, hg⟩ : ∃ g, Ga[(p / 3 + 1) % B]? = some g := ⟨_, List.getElem?_eq_getElem (by rw [hG.len]; exact hC)⟩
  have hpr : prm B Fa Ga (p : Int) = (((p % 3 : Nat) : Int) != 1 || (f == 0 && g == 0)) := by
    have e : (((p : Int) / 3 + 1) % (B : Int)).toNat = (p / 3 + 1) % B := by
      rw [show ((p : Int) / 3 + 1) % (B : Int) = (((p / 3 + 1) % B : Nat) : Int) by push_cast; rfl, Int.toNat_natCast]
    rw [prm, e, List.getD_eq_getElem?_getD, hf, List.getD_eq_getElem?_getD, hg]
    rfl
  have HPR := Lib.hid hpr
  have KC := Lib.hid (fun (wx : World) (hx : Below w.heap.size w wx) => impl_isClear (hF.keep hx) (hG.keep hx) hf hg)
  have htn : t < n := by rw [← hP.len]; exact (List.getElem?_eq_some_iff.1 ht).1
  have htn' : (t : Int) < (n : Int) := by omega
  have ht0 : (0 : Int) ≤ (t : Int) := by omega
  obtain ⟨b, off, x, rfl, hb, hx, hcell, _⟩ := hP.at htn
  rw [ht] at hx
  cases hx
  obtain ⟨W, hW⟩ : ∃ W, W = (w.alloc (.cells #[.slice fa B fc, .slice ga B gc] 58)).alloc (.cells #[.int .i64 (B : Int), .slice (some ⟨b, off, none⟩) n pc] 28) := ⟨_, rfl⟩
  have hbW : Below w.heap.size w W := by rw [hW]; repeat (first | exact Below.refl _ _ | assumption | refine below_allocS ?_ _ | refine below_callS ?_ (by assumption) | (refine Below.alloc ?_ (by first | omega | (simp; done) | (simp; omega)) _) | (refine Below.setCell ?_ (by first | omega | (simp; done) | (simp; omega)) _) | refine Below.drew ?_ | refine below_drewN ?_ _ | (refine below_call ?_ (by assumption) (by first | omega | (simp; done) | (simp; omega))) | (refine Below.trans ?_ (by assumption)))
  have R := Lib.hid (show Blk W w.heap.size #[.slice fa B fc, .slice ga B gc] 58 by rw [hW]; exact (Blk.made w _ _).keep (by repeat (first | exact Below.refl _ _ | assumption | refine below_allocS ?_ _ | refine below_callS ?_ (by assumption) | (refine Below.alloc ?_ (by first | omega | (simp; done) | (simp; omega)) _) | (refine Below.setCell ?_ (by first | omega | (simp; done) | (simp; omega)) _) | refine Below.drew ?_ | refine below_drewN ?_ _ | (refine below_call ?_ (by assumption) (by first | omega | (simp; done) | (simp; omega))) | (refine Below.trans ?_ (by assumption)))))
  have X := Lib.hid (show Blk W (w.heap.size + 1) #[.int .i64 (B : Int), .slice (some ⟨b, off, none⟩) n pc] 28 by rw [hW]; have := Blk.made (w.alloc (.cells #[.slice fa B fc, .slice ga B gc] 58)) #[.int .i64 (B : Int), .slice (some ⟨b, off, none⟩) n pc] 28; simpa using this)
  have hcW := (hbW.cell (p := ⟨b, off + t, none⟩) hb).trans hcell
  have hbl := Nat.lt_of_lt_of_le hb hbW.size
  have r0 := R.out.cell 0
  have r1 := R.out.cell 1
  have rl := R.out.lt
  have x0 := X.out.cell 0
  have x1 := X.out.cell 1
  have xl := X.out.lt
  simp at r0 r1 x0 x1
  have m1 : (p : Int).tmod 3 = ((p % 3 : Nat) : Int) := by rw [Int.tmod_eq_emod_of_nonneg (by omega)]; push_cast; rfl
  have m5 : IntKind.i64.wrap ((p : Int) / 3) = (p : Int) / 3 := IntWalk.i64_in _ (by omega)
  have m3 : IntKind.i64.wrap ((p : Int) / 3 + 1) = (p : Int) / 3 + 1 := IntWalk.i64_in _ (by omega)
  have m4 : ((p : Int) / 3 + 1).tmod (B : Int) = (((p / 3 + 1) % B : Nat) : Int) := by rw [Int.tmod_eq_emod_of_nonneg (by omega)]; push_cast; rfl
  obtain ⟨k, hk⟩ : ∃ k, (p / 3 + 1) % B = k := ⟨_, rfl⟩
  rw [hk] at m4 KC
  clear hk
  have hB0 : ¬ (B : Int) = 0 := by omega
  have hB0n : ¬ B = 0 := by omega
  clear hF hG hP hf hg ht hpr
  obtain ⟨r, hr⟩ : ∃ r, p % 3 = r := ⟨_, rfl⟩
  rw [hr] at m1 HPR
  go_enter Tryz.func80, Tryz.ntmps80
  go_wp2_with fail
  rw [← hW]
  clear hW
  by_cases h1 : r = 1
  · subst h1
    have HB := Lib.hid hbW
    clear hbW hr
    refine wp_region_noPanic ?_
    refine wp_region_M (L := 13) (S := fun wx => Below W.heap.size W wx) (by kernel_rfl) ?_ (fun hHeld => ?_)
    · exact (Below.refl _ _).drew
    refine wpAnyM_take (i := 0) (v := ?_) (by simp only [List.getElem?_toArray, List.getElem?_cons_succ, List.getElem?_cons_zero] <;> rfl) (by kernel_rfl) (by kernel_rfl) (by kernel_rfl) (by kernel_rfl) (by kernel_rfl) (fun _ _ _ h => h) (Or.inl ⟨by rfl, ?_⟩) (by assumption) ?_
    rotate_left
    · (intro wv hSw; (try dsimp only at hSw); obtain ⟨hcq, _⟩ := bcell hSw; have hsq := Below.size hSw; go_simp; try with_reducible rfl)
    try simp only [Act.put, List.setIfInBounds_toArray, List.set_cons_zero, List.set_cons_succ]
    refine wpAnyM_take (i := 1) (v := ?_) (by simp only [List.getElem?_toArray, List.getElem?_cons_succ, List.getElem?_cons_zero] <;> rfl) (by kernel_rfl) (by kernel_rfl) (by kernel_rfl) (by kernel_rfl) (by kernel_rfl) (fun _ _ _ h => h) (Or.inl ⟨by rfl, ?_⟩) (by assumption) ?_
    rotate_left
    · (intro wv hSw; (try dsimp only at hSw); obtain ⟨hcq, _⟩ := bcell hSw; have hsq := Below.size hSw; go_simp; try with_reducible rfl)
    try simp only [Act.put, List.setIfInBounds_toArray, List.set_cons_zero, List.set_cons_succ]
    try simp only [m1]
    refine wpAnyM_take (i := 2) (v := ?_) (by simp only [List.getElem?_toArray, List.getElem?_cons_succ, List.getElem?_cons_zero] <;> rfl) (by kernel_rfl) (by kernel_rfl) (by kernel_rfl) (by kernel_rfl) (by kernel_rfl) (fun _ _ _ h => h) (Or.inl ⟨by rfl, ?_⟩) (by assumption) ?_
    rotate_left
    · (intro wv hSw; (try dsimp only at hSw); obtain ⟨hcq, _⟩ := bcell hSw; have hsq := Below.size hSw; go_simp; try with_reducible rfl)
    try simp only [Act.put, List.setIfInBounds_toArray, List.set_cons_zero, List.set_cons_succ]
    refine wpAnyM_take (i := 3) (v := ?_) (by simp only [List.getElem?_toArray, List.getElem?_cons_succ, List.getElem?_cons_zero] <;> rfl) (by kernel_rfl) (by kernel_rfl) (by kernel_rfl) (by kernel_rfl) (by kernel_rfl) (fun _ _ _ h => h) (Or.inl ⟨by rfl, ?_⟩) (by assumption) ?_
    rotate_left
    · (intro wv hSw; (try dsimp only at hSw); obtain ⟨hcq, _⟩ := bcell hSw; have hsq := Below.size hSw; go_simp; try with_reducible rfl)
    try simp only [Act.put, List.setIfInBounds_toArray, List.set_cons_zero, List.set_cons_succ]
    refine wpAnyM_take (i := 4) (v := ?_) (by simp only [List.getElem?_toArray, List.getElem?_cons_succ, List.getElem?_cons_zero] <;> rfl) (by kernel_rfl) (by kernel_rfl) (by kernel_rfl) (by kernel_rfl) (by kernel_rfl) (fun _ _ _ h => h) (Or.inl ⟨by rfl, ?_⟩) (by assumption) ?_
    rotate_left
    · (intro wv hSw; (try dsimp only at hSw); obtain ⟨hcq, _⟩ := bcell hSw; have hsq := Below.size hSw; have p0 := (hcq _ _ rl).trans r0; have p1 := (hcq _ _ rl).trans r1; have pl := Nat.lt_of_lt_of_le rl hsq; go_simp; try with_reducible rfl)
    try simp only [Act.put, List.setIfInBounds_toArray, List.set_cons_zero, List.set_cons_succ]
    refine wpAnyM_take (i := 5) (v := ?_) (by simp only [List.getElem?_toArray, List.getElem?_cons_succ, List.getElem?_cons_zero] <;> rfl) (by kernel_rfl) (by kernel_rfl) (by kernel_rfl) (by kernel_rfl) (by kernel_rfl) (fun _ _ _ h => h) (Or.inl ⟨by rfl, ?_⟩) (by assumption) ?_
    rotate_left
    · (intro wv hSw; (try dsimp only at hSw); obtain ⟨hcq, _⟩ := bcell hSw; have hsq := Below.size hSw; go_simp; try with_reducible rfl)
    try simp only [Act.put, List.setIfInBounds_toArray, List.set_cons_zero, List.set_cons_succ]
    refine wpAnyM_take (i := 6) (v := ?_) (by simp only [List.getElem?_toArray, List.getElem?_cons_succ, List.getElem?_cons_zero] <;> rfl) (by kernel_rfl) (by kernel_rfl) (by kernel_rfl) (by kernel_rfl) (by kernel_rfl) (fun _ _ _ h => h) (Or.inl ⟨by rfl, ?_⟩) (by assumption) ?_
    rotate_left
    · (intro wv hSw; (try dsimp only at hSw); obtain ⟨hcq, _⟩ := bcell hSw; have hsq := Below.size hSw; go_simp; try with_reducible rfl)
    try simp only [Act.put, List.setIfInBounds_toArray, List.set_cons_zero, List.set_cons_succ]
    try simp only [m5]
    refine wpAnyM_take (i := 7) (v := ?_) (by simp only [List.getElem?_toArray, List.getElem?_cons_succ, List.getElem?_cons_zero] <;> rfl) (by kernel_rfl) (by kernel_rfl) (by kernel_rfl) (by kernel_rfl) (by kernel_rfl) (fun _ _ _ h => h) (Or.inl ⟨by rfl, ?_⟩) (by assumption) ?_
    rotate_left
    · (intro wv hSw; (try dsimp only at hSw); obtain ⟨hcq, _⟩ := bcell hSw; have hsq := Below.size hSw; go_simp; try with_reducible rfl)
    try simp only [Act.put, List.setIfInBounds_toArray, List.set_cons_zero, List.set_cons_succ]
    try simp only [m3]
    refine wpAnyM_take (i := 8) (v := ?_) (by simp only [List.getElem?_toArray, List.getElem?_cons_succ, List.getElem?_cons_zero] <;> rfl) (by kernel_rfl) (by kernel_rfl) (by kernel_rfl) (by kernel_rfl) (by kernel_rfl) (fun _ _ _ h => h) (Or.inl ⟨by rfl, ?_⟩) (by assumption) ?_
    rotate_left
    · (intro wv hSw; (try dsimp only at hSw); obtain ⟨hcq, _⟩ := bcell hSw; have hsq := Below.size hSw; go_simp; try with_reducible rfl)
    try simp only [Act.put, List.setIfInBounds_toArray, List.set_cons_zero, List.set_cons_succ]
    refine wpAnyM_take (i := 9) (v := ?_) (by simp only [List.getElem?_toArray, List.getElem?_cons_succ, List.getElem?_cons_zero] <;> rfl) (by kernel_rfl) (by kernel_rfl) (by kernel_rfl) (by kernel_rfl) (by kernel_rfl) (fun _ _ _ h => h) (Or.inl ⟨by rfl, ?_⟩) (by assumption) ?_
    rotate_left
    · (intro wv hSw; (try dsimp only at hSw); obtain ⟨hcq, _⟩ := bcell hSw; have hsq := Below.size hSw; have p0 := (hcq _ _ xl).trans x0; have pl := Nat.lt_of_lt_of_le xl hsq; go_simp; try with_reducible rfl)
    try simp only [Act.put, List.setIfInBounds_toArray, List.set_cons_zero, List.set_cons_succ]
    refine wpAnyM_take (i := 10) (v := ?_) (by simp only [List.getElem?_toArray, List.getElem?_cons_succ, List.getElem?_cons_zero] <;> rfl) (by kernel_rfl) (by kernel_rfl) (by kernel_rfl) (by kernel_rfl) (by kernel_rfl) (fun _ _ _ h => h) (Or.inl ⟨by rfl, ?_⟩) (by assumption) ?_
    rotate_left
    · (intro wv hSw; (try dsimp only at hSw); obtain ⟨hcq, _⟩ := bcell hSw; have hsq := Below.size hSw; go_simp; try with_reducible rfl)
    try simp only [Act.put, List.setIfInBounds_toArray, List.set_cons_zero, List.set_cons_succ]
    try simp only [m4]
    refine wpAnyM_ready (rs := [11]) (by kernel_rfl) (by simp) ?_
    refine AllReadyM.cons rfl (fun K hK => ?_) AllReadyM.nil
    go_simp
    refine Calls.mono (KC.out _ (below_callS HB.out hHeld)) ?_
    rintro e w2 ⟨rfl, hb2⟩
    have hb3 := below_callS hHeld hb2
    go_wp2_with fail
    refine hK.out _ _ hb3 (fun hHeld => ?_)
    clear hK K
    try simp only [Act.put, List.setIfInBounds_toArray, List.set_cons_zero, List.set_cons_succ]
    refine wpAnyM_take (i := 12) (v := ?_) (by simp only [List.getElem?_toArray, List.getElem?_cons_succ, List.getElem?_cons_zero] <;> rfl) (by kernel_rfl) (by kernel_rfl) (by kernel_rfl) (by kernel_rfl) (by kernel_rfl) (fun _ _ _ h => h) (Or.inl ⟨by rfl, ?_⟩) (by assumption) ?_
    rotate_left
    · (intro wv hSw; (try dsimp only at hSw); obtain ⟨hcq, _⟩ := bcell hSw; have hsq := Below.size hSw; go_simp; try with_reducible rfl)
    try simp only [Act.put, List.setIfInBounds_toArray, List.set_cons_zero, List.set_cons_succ]
    refine wpAnyM_ready (rs := [13]) (by kernel_rfl) (by simp) ?_
    refine AllReadyM.last rfl (fun K hK => ?_)
    go_simp
    refine hK.out _ _ ?_
    clear hK K
    try simp only [Act.put, List.setIfInBounds_toArray, List.set_cons_zero, List.set_cons_succ]
    refine wpAnyM_done (by kernel_rfl) ?_ _
    refine NoPanic.normal ?_
    have hbe := below_callS HB.out hb3
    go_wp2
    go_ret
    exact ⟨by rw [HPR.out]; rfl, hbe⟩
  · have h1' : ((r : Int) != 1) = true := by simp; omega
    have h1n : ¬ (r : Int) = 1 := by omega
    have HB := Lib.hid hbW
    clear hbW hr h1
    go_wp2_with fail
    refine wp_region_noPanic ?_
    refine wp_region_M (L := 13) (S := fun wx => Below W.heap.size W wx) (by kernel_rfl) ?_ (fun hHeld => ?_)
    · exact (Below.refl _ _).drew
    refine wpAnyM_take (i := 0) (v := ?_) (by simp only [List.getElem?_toArray, List.getElem?_cons_succ, List.getElem?_cons_zero] <;> rfl) (by kernel_rfl) (by kernel_rfl) (by kernel_rfl) (by kernel_rfl) (by kernel_rfl) (fun _ _ _ h => h) (Or.inl ⟨by rfl, ?_⟩) (by assumption) ?_
    rotate_left
    · (intro wv hSw; (try dsimp only at hSw); obtain ⟨hcq, _⟩ := bcell hSw; have hsq := Below.size hSw; go_simp; try with_reducible rfl)
    try simp only [Act.put, List.setIfInBounds_toArray, List.set_cons_zero, List.set_cons_succ]
    refine wpAnyM_take (i := 1) (v := ?_) (by simp only [List.getElem?_toArray, List.getElem?_cons_succ, List.getElem?_cons_zero] <;> rfl) (by kernel_rfl) (by kernel_rfl) (by kernel_rfl) (by kernel_rfl) (by kernel_rfl) (fun _ _ _ h => h) (Or.inl ⟨by rfl, ?_⟩) (by assumption) ?_
    rotate_left
    · (intro wv hSw; (try dsimp only at hSw); obtain ⟨hcq, _⟩ := bcell hSw; have hsq := Below.size hSw; go_simp; try with_reducible rfl)
    try simp only [Act.put, List.setIfInBounds_toArray, List.set_cons_zero, List.set_cons_succ]
    try simp only [m1]
    refine wpAnyM_take (i := 2) (v := ?_) (by simp only [List.getElem?_toArray, List.getElem?_cons_succ, List.getElem?_cons_zero] <;> rfl) (by kernel_rfl) (by kernel_rfl) (by kernel_rfl) (by kernel_rfl) (by kernel_rfl) (fun _ _ _ h => h) (Or.inl ⟨by rfl, ?_⟩) (by assumption) ?_
    rotate_left
    · (intro wv hSw; (try dsimp only at hSw); obtain ⟨hcq, _⟩ := bcell hSw; have hsq := Below.size hSw; go_simp; try with_reducible rfl)
    try simp only [Act.put, List.setIfInBounds_toArray, List.set_cons_zero, List.set_cons_succ]
    try simp only [h1']
    refine wpAnyM_take (i := 3) (v := ?_) (by simp only [List.getElem?_toArray, List.getElem?_cons_succ, List.getElem?_cons_zero] <;> rfl) (by kernel_rfl) (by kernel_rfl) (by kernel_rfl) (by kernel_rfl) (by kernel_rfl) (fun _ _ _ h => h) (Or.inl ⟨by rfl, ?_⟩) (by assumption) ?_
    rotate_left
    · (intro wv hSw; (try dsimp only at hSw); obtain ⟨hcq, _⟩ := bcell hSw; have hsq := Below.size hSw; go_simp; try with_reducible rfl)
    try simp only [Act.put, List.setIfInBounds_toArray, List.set_cons_zero, List.set_cons_succ]
    refine wpAnyM_take (i := 4) (v := undef) (by simp only [List.getElem?_toArray, List.getElem?_cons_succ, List.getElem?_cons_zero] <;> rfl) (by kernel_rfl) (by kernel_rfl) (by kernel_rfl) (by kernel_rfl) (by kernel_rfl) (fun _ _ _ h => h) (Or.inr ⟨by rfl, rfl⟩) (by assumption) ?_
    try simp only [Act.put, List.setIfInBounds_toArray, List.set_cons_zero, List.set_cons_succ]
    refine wpAnyM_take (i := 5) (v := undef) (by simp only [List.getElem?_toArray, List.getElem?_cons_succ, List.getElem?_cons_zero] <;> rfl) (by kernel_rfl) (by kernel_rfl) (by kernel_rfl) (by kernel_rfl) (by kernel_rfl) (fun _ _ _ h => h) (Or.inr ⟨by rfl, rfl⟩) (by assumption) ?_
    try simp only [Act.put, List.setIfInBounds_toArray, List.set_cons_zero, List.set_cons_succ]
    refine wpAnyM_take (i := 6) (v := undef) (by simp only [List.getElem?_toArray, List.getElem?_cons_succ, List.getElem?_cons_zero] <;> rfl) (by kernel_rfl) (by kernel_rfl) (by kernel_rfl) (by kernel_rfl) (by kernel_rfl) (fun _ _ _ h => h) (Or.inr ⟨by rfl, rfl⟩) (by assumption) ?_
    try simp only [Act.put, List.setIfInBounds_toArray, List.set_cons_zero, List.set_cons_succ]
    refine wpAnyM_take (i := 7) (v := undef) (by simp only [List.getElem?_toArray, List.getElem?_cons_succ, List.getElem?_cons_zero] <;> rfl) (by kernel_rfl) (by kernel_rfl) (by kernel_rfl) (by kernel_rfl) (by kernel_rfl) (fun _ _ _ h => h) (Or.inr ⟨by rfl, rfl⟩) (by assumption) ?_
    try simp only [Act.put, List.setIfInBounds_toArray, List.set_cons_zero, List.set_cons_succ]
    refine wpAnyM_take (i := 8) (v := undef) (by simp only [List.getElem?_toArray, List.getElem?_cons_succ, List.getElem?_cons_zero] <;> rfl) (by kernel_rfl) (by kernel_rfl) (by kernel_rfl) (by kernel_rfl) (by kernel_rfl) (fun _ _ _ h => h) (Or.inr ⟨by rfl, rfl⟩) (by assumption) ?_
    try simp only [Act.put, List.setIfInBounds_toArray, List.set_cons_zero, List.set_cons_succ]
    refine wpAnyM_take (i := 9) (v := undef) (by simp only [List.getElem?_toArray, List.getElem?_cons_succ, List.getElem?_cons_zero] <;> rfl) (by kernel_rfl) (by kernel_rfl) (by kernel_rfl) (by kernel_rfl) (by kernel_rfl) (fun _ _ _ h => h) (Or.inr ⟨by rfl, rfl⟩) (by assumption) ?_
    try simp only [Act.put, List.setIfInBounds_toArray, List.set_cons_zero, List.set_cons_succ]
    refine wpAnyM_take (i := 10) (v := undef) (by simp only [List.getElem?_toArray, List.getElem?_cons_succ, List.getElem?_cons_zero] <;> rfl) (by kernel_rfl) (by kernel_rfl) (by kernel_rfl) (by kernel_rfl) (by kernel_rfl) (fun _ _ _ h => h) (Or.inr ⟨by rfl, rfl⟩) (by assumption) ?_
    try simp only [Act.put, List.setIfInBounds_toArray, List.set_cons_zero, List.set_cons_succ]
    refine wpAnyM_take (i := 11) (v := undef) (by simp only [List.getElem?_toArray, List.getElem?_cons_succ, List.getElem?_cons_zero] <;> rfl) (by kernel_rfl) (by kernel_rfl) (by kernel_rfl) (by kernel_rfl) (by kernel_rfl) (fun _ _ _ h => h) (Or.inr ⟨by rfl, rfl⟩) (by assumption) ?_
    try simp only [Act.put, List.setIfInBounds_toArray, List.set_cons_zero, List.set_cons_succ]
    refine wpAnyM_take (i := 12) (v := ?_) (by simp only [List.getElem?_toArray, List.getElem?_cons_succ, List.getElem?_cons_zero] <;> rfl) (by kernel_rfl) (by kernel_rfl) (by kernel_rfl) (by kernel_rfl) (by kernel_rfl) (fun _ _ _ h => h) (Or.inl ⟨by rfl, ?_⟩) (by assumption) ?_
    rotate_left
    · (intro wv hSw; (try dsimp only at hSw); obtain ⟨hcq, _⟩ := bcell hSw; have hsq := Below.size hSw; go_simp; try with_reducible rfl)
    try simp only [Act.put, List.setIfInBounds_toArray, List.set_cons_zero, List.set_cons_succ]
    refine wpAnyM_ready (rs := [13]) (by kernel_rfl) (by simp) ?_
    refine AllReadyM.last rfl (fun K hK => ?_)
    go_simp
    refine hK.out _ _ ?_
    clear hK K
    try simp only [Act.put, List.setIfInBounds_toArray, List.set_cons_zero, List.set_cons_succ]
    refine wpAnyM_done (by kernel_rfl) ?_ _
    refine NoPanic.normal ?_
    have hbe := below_callS HB.out hHeld
    go_wp2
    go_ret
    exact ⟨by rw [HPR.out, h1']; rfl, hbe⟩
end Go.Proofs.YtfnamjkmkoldeaaGreatDoor
namespace Go.Proofs.YtfnamjkmkoldeaaGreatDoor
open Go.RowKit
set_option linter.unusedVariables false
set_option linter.unusedSimpArgs false
set_option maxRecDepth 100000 in
set_option maxHeartbeats 4000000 in
theorem impl_PermittedMoves {fa ga pa : Option Addr} {fc gc pc B n : Nat} {Fa Ga ps : List Int} {w : World} (hF : Ints w fa B fc Fa) (hG : Ints w ga B gc Ga) (hP : Ints w pa n pc ps) (ht : trafB (B : Int) ps = true) (hf : ∀ x ∈ Fa, x = 0 ∨ x = 1) (hg : ∀ x ∈ Ga, x = 0 ∨ x = 1) :
    Calls Tryz.prog 31 #[.agg #[.int .i64 (B : Int), .slice pa n pc], .agg #[.slice fa B fc, .slice ga B gc]] w fun e w' => ∃ a' n' c', e = .returned (.tuple #[.slice a' n' c', .int .i64 0]) ∧ OwnI 2 w' w.heap.size a' n' c' (pmL B Fa Ga ps n) ∧ Below w.heap.size w w' := by
  obtain ⟨t1, t2, t3, t4, t5⟩ := trafB_split ht
  have hn4 : n ≤ 4 := by rw [← hP.len]; exact t4
  have hB2 : 2 ≤ B := by omega
  have hB8 : B ≤ 8 := by omega
  have K1 := Lib.hid (fun (wx : World) (hb : Below w.heap.size w wx) => impl_IsTraffic (b := (B : Int)) (hP.keep hb) (by omega))
  rw [ht] at K1
  have K2 := Lib.hid (fun (wx : World) (hb : Below w.heap.size w wx) => impl_isReport (hF.keep hb) (hG.keep hb) hB8 hf hg)
  have K3 := Lib.hid (fun (wx : World) (hb : Below w.heap.size w wx) (t p : Nat) (htt : ps[t]? = some (p : Int)) (hp : p < 3 * B) => impl_permits (hF.keep hb) (hG.keep hb) (hP.keep hb) hB2 hB8 htt hp)
  have HT5 := Lib.hid t5
  have HL := Lib.hid hP.len
  obtain ⟨W, hW⟩ : ∃ W, W = (w.alloc (.cells #[.int .i64 (B : Int), .slice pa n pc] 28)).alloc (.cells #[.slice fa B fc, .slice ga B gc] 58) := ⟨_, rfl⟩
  have hbW : Below w.heap.size w W := by rw [hW]; repeat (first | exact Below.refl _ _ | assumption | refine below_allocS ?_ _ | refine below_callS ?_ (by assumption) | (refine Below.alloc ?_ (by first | omega | (simp; done) | (simp; omega)) _) | (refine Below.setCell ?_ (by first | omega | (simp; done) | (simp; omega)) _) | refine Below.drew ?_ | refine below_drewN ?_ _ | (refine below_call ?_ (by assumption) (by first | omega | (simp; done) | (simp; omega))) | (refine Below.trans ?_ (by assumption)))
  have hsW : W.heap.size = w.heap.size + 2 := by rw [hW]; simp
  have X := Lib.hid (show Blk W w.heap.size #[.int .i64 (B : Int), .slice pa n pc] 28 by rw [hW]; exact (Blk.made w _ _).keep (by repeat (first | exact Below.refl _ _ | assumption | refine below_allocS ?_ _ | refine below_callS ?_ (by assumption) | (refine Below.alloc ?_ (by first | omega | (simp; done) | (simp; omega)) _) | (refine Below.setCell ?_ (by first | omega | (simp; done) | (simp; omega)) _) | refine Below.drew ?_ | refine below_drewN ?_ _ | (refine below_call ?_ (by assumption) (by first | omega | (simp; done) | (simp; omega))) | (refine Below.trans ?_ (by assumption)))))
  have R := Lib.hid (show Blk W (w.heap.size + 1) #[.slice fa B fc, .slice ga B gc] 58 by rw [hW]; have := Blk.made (w.alloc (.cells #[.int .i64 (B : Int), .slice pa n pc] 28)) #[.slice fa B fc, .slice ga B gc] 58; simpa using this)
  clear hF hG hP ht hf hg t1 t2 t3 t4 t5
  go_enter Tryz.func31, Tryz.ntmps31
  go_wp2_with fail
  rw [← hW]
  clear hW
  have x0 := X.out.cell 0
  have x1 := X.out.cell 1
  have xl := X.out.lt
  simp at x0 x1
  go_wp2_with fail
  refine Calls.mono (K1.out _ hbW) ?_
  rintro e w1 ⟨rfl, hb1⟩
  have X1 := Lib.hid (X.out.keep hb1)
  have R1 := Lib.hid (R.out.keep hb1)
  have hb2 := below_callS hbW hb1
  have hs1 := hb1.size
  clear x0 x1 xl X R hb1 hbW
  have x0 := X1.out.cell 0
  have xl := X1.out.lt
  have r0 := R1.out.cell 0
  have r1 := R1.out.cell 1
  have rl := R1.out.lt
  simp at x0 r0 r1
  go_wp2_with fail
  refine Calls.mono (K2.out _ hb2) ?_
  rintro e w2 ⟨rfl, hb3⟩
  have X2 := Lib.hid (X1.out.keep hb3)
  have R2 := Lib.hid (R1.out.keep hb3)
  have HB2 := Lib.hid (below_callS hb2 hb3)
  have hs2 := hb3.size
  clear x0 xl r0 r1 rl X1 R1 hb2 hb3
  have x1 := X2.out.cell 1
  have xl := X2.out.lt
  simp at x1
  go_wp2_with fail
  go_wp2_with fail
  refine Calls.mono (impl_length_i64) ?_
  rintro e _ ⟨rfl, rfl⟩
  clear x1 xl
  go_wp2_with fail
  go_loopw [6, 21] (fun s6 s21 wr => ∃ (j n' c' : Nat) (a' : Option Addr), s6 = .slice a' n' c' ∧ s21 = .int .i64 j ∧ j ≤ n ∧ n' ≤ j ∧ w.heap.size + 2 ≤ wr.heap.size ∧ Hid (Below w.heap.size w wr) ∧ Hid (Blk wr w.heap.size #[.int .i64 (B : Int), .slice pa n pc] 28) ∧ Hid (Blk wr (w.heap.size + 1) #[.slice fa B fc, .slice ga B gc] 58) ∧ Hid (OwnI 2 wr (w.heap.size + 2) a' n' c' (pmL B Fa Ga ps j))) (fun _ s21 _ => n - (intOf s21).toNat)
  case atStart => exact ⟨0, 0, 0, none, rfl, rfl, by omega, by omega, by omega, HB2, X2, R2, Lib.hid (OwnI.nil _ _ _)⟩
  case round =>
    clear HB2 X2 R2
    obtain ⟨j, n', c', a', rfl, rfl, hj, hnj, hsr, HB, X, R, O⟩ := hrel
    by_cases hlt : j < n
    · have hlt' : (j : Int) < (n : Int) := by omega
      have hj0 : (0 : Int) ≤ (j : Int) := by omega
      obtain ⟨x, hx⟩ : ∃ x, ps[j]? = some x := ⟨_, List.getElem?_eq_getElem (by rw [HL.out]; exact hlt)⟩
      have hxp := HT5.out x (List.mem_of_getElem? hx)
      obtain ⟨p, rfl⟩ := Int.eq_ofNat_of_zero_le hxp.1
      have hp : p < 3 * B := by omega
      have K := Lib.hid (K3.out wr HB.out j p hx hp)
      have HS := Lib.hid (show pmL B Fa Ga ps (j + 1) = pmL B Fa Ga ps j ++ (if prm B Fa Ga (p : Int) = true then [(j : Int)] else []) by
        rw [pmL_succ, List.getD_eq_getElem?_getD, hx]; rfl)
      have x0 := X.out.cell 0
      have x1 := X.out.cell 1
      have xl := X.out.lt
      have r0 := R.out.cell 0
      have r1 := R.out.cell 1
      have rl := R.out.lt
      simp at x0 x1 r0 r1
      clear hx hxp
      go_wp2_with fail
      refine Calls.mono K.out ?_
      rintro e w4 ⟨rfl, hb4⟩
      have X4 := Lib.hid (X.out.keep hb4)
      have R4 := Lib.hid (R.out.keep hb4)
      have O4 := Lib.hid (O.out.keep hb4)
      have HB4 := Lib.hid (below_call HB.out hb4 HB.out.size)
      have hs4 := hb4.size
      clear x0 x1 xl r0 r1 rl hb4 K X R O HB
      cases hpr : prm B Fa Ga (p : Int) with
      | true =>
        rw [hpr] at HS
        clear hpr
        have hj64 : I64 (j : Int) := (by first | assumption | decide | (unfold I64; omega))
        go_wp2_with (at_builtin; (refine appI1 rfl _ _ rfl Tryz.underlying22 Tryz.infoi64 (w.heap.size + 2) _ _ _ _ O4.out rfl _ rfl (by first | rfl | (simp; done)) hj64 (by omega) (by omega) ?_; intro g' c3 wn ho hb5 ht hat hsn; have X5 := Lib.hid (X4.out.keepB hb5 (by omega)); have R5 := Lib.hid (R4.out.keepB hb5 (by omega)); have HB5 := Lib.hid (HB4.out.trans (hb5.mono (by omega))); have O5 := Lib.hid ho; have hs5 := hb5.size; clear ho ht hb5))
        go_roundw
        case rel => exact ⟨j + 1, n' + 1, c3, _, by go_num, by go_num, by omega, by omega, by omega, HB5, X5, R5, Lib.hid (by rw [HS.out]; exact O5.out)⟩
        case measure => simp [intOf]; omega
      | false =>
        rw [hpr] at HS
        clear hpr
        go_wp2
        go_roundw
        case rel => exact ⟨j + 1, n', c', _, rfl, by go_num, by omega, by omega, by omega, HB4, X4, R4, Lib.hid (by rw [HS.out]; simpa using O4.out)⟩
        case measure => simp [intOf]; omega
    · obtain rfl : n = j := by omega
      have hlt' : ¬ (n : Int) < (n : Int) := by omega
      go_wp2
      go_ret2
      exact ⟨_, _, _, rfl, O.out.le (by omega), HB.out⟩
theorem laws_hasInt {a : Option Addr} {n c : Nat} {l : List Int} {x : Int} {w : World} (hI : Ints w a n c l) (hn : n ≤ 1048576) :
    Calls Tryz.prog 34 #[.slice a n c, .int .i64 x] w fun e w' => e = .returned (.bool (l.any fun y => y == x)) ∧ Below w.heap.size w w' := by
  have HI := Lib.hid hI
  clear hI
  go_enter Tryz.func34, Tryz.ntmps34
  go_wp2_with fail
  go_loopw [5] (fun s5 wr => ∃ j : Nat, s5 = .int .i64 j ∧ j ≤ n ∧ Hid (Below w.heap.size w wr) ∧ Hid ((l.take j).any (fun y => y == x) = false)) (fun s5 _ => n - (intOf s5).toNat)
  case atStart => exact ⟨0, rfl, by omega, Lib.hid (Below.refl _ _), Lib.hid rfl⟩
  case round =>
    obtain ⟨j, rfl, hj, HB, A⟩ := hrel
    by_cases hlt : j < n
    · have hlt' : (j : Int) < (n : Int) := by omega
      have hj0 : (0 : Int) ≤ (j : Int) := by omega
      obtain ⟨b, off, y, rfl, hb, hy, hcell, _⟩ := (HI.out.keep HB.out).at hlt
      have HY := Lib.hid hy
      clear hy
      cases hyx : (y == x) with
      | true =>
        have HA := Lib.hid (any_take_true (p := fun y => y == x) HY.out hyx)
        have hbe := HB.out
        go_wp2
        go_ret
        exact ⟨by rw [HA.out]; rfl, hbe⟩
      | false =>
        have HA := Lib.hid (any_take_step (p := fun y => y == x) HY.out A.out hyx)
        go_wp2
        go_roundw
        case rel => exact ⟨j + 1, by go_num, by omega, HB, HA⟩
        case measure => simp [intOf]; omega
    · obtain rfl : n = j := by omega
      have hlt' : ¬ (n : Int) < (n : Int) := by omega
      have HA := Lib.hid (show l.any (fun y => y == x) = false by
        have h := A.out
        rw [List.take_of_length_le (by rw [HI.out.len]; exact Nat.le_refl _)] at h; exact h)
      have hbe := HB.out
      go_wp2
      go_ret
      exact ⟨by rw [HA.out]; rfl, hbe⟩
end Go.Proofs.YtfnamjkmkoldeaaGreatDoor
namespace Go.Proofs.YtfnamjkmkoldeaaGreatDoor
open Go.RowKit
set_option linter.unusedVariables false
set_option linter.unusedSimpArgs false
set_option maxHeartbeats 1000000 in
theorem impl_EnabledRules_ok {sa ta ra va : Option Addr} {sn sc tn tc rn rc vn vc : Nat} {sz st vs : List Int} {l : List (RM × RuD)} {w : World} (hI : Ints w sa sn sc sz) (hn : sn ≤ 1048576) (hT : Ints w ta tn tc st) (ht : tn ≤ 1048576) (hR : FR w w ra rn rc l) (hr : rn ≤ 1048576) (hV : Ints w va vn vc vs) (hv : vn ≤ 1048576) (hm : modelB sz st l = true) (hs : stateB sz vs = true) :
    Calls Tryz.prog 32 #[.agg #[.slice sa sn sc, .slice ta tn tc, .slice ra rn rc], .slice va vn vc] w fun e w' => ∃ a n c, e = .returned (.tuple #[.slice a n c, .int .i64 0]) ∧ OwnI 2 w' w.heap.size a n c (enabI (l.map (·.2)) vs rn) ∧ n ≤ rn ∧ Below w.heap.size w w' := by
  have hsv := sv_of_stateB hs
  obtain ⟨g1, g2, g3, g4, g5, g6⟩ := model_gives hm
  have hvl : vn = sz.length := by rw [← hV.len, hsv.1]
  have HC : Hid (∀ (wx : World), Below w.heap.size w wx → Calls Tryz.prog 81 #[.agg #[.slice sa sn sc, .slice ta tn tc, .slice ra rn rc], .slice va vn vc] wx fun e w' => e = .returned (.int .i64 0) ∧ Below wx.heap.size wx w') := Lib.hid fun wx hx => by
    have K1 := Lib.hid (fun (wy : World) (hy : Below wx.heap.size wx wy) => impl_IsModel (hI.keep (below_callS hx hy)) hn (hT.keep (below_callS hx hy)) ht (FR.keep hR (below_callS hx hy) (below_callS hx hy)) hr)
    have K2 := Lib.hid (fun (wy : World) (hy : Below wx.heap.size wx wy) => impl_isState (ta := ta) (tn := tn) (tc := tc) (ra := ra) (rn := rn) (rc := rc) (hI.keep (below_callS hx hy)) (hV.keep (below_callS hx hy)) hn hv g6)
    rw [hm] at K1
    rw [hs] at K2
    clear hI hT hR hV hm hs hsv g1 g2 g3 g6 hvl
    go_enter Tryz.func81, Tryz.ntmps81
    go_wp2_with fail
    refine Calls.mono (K1.out _ (by repeat (first | exact Below.refl _ _ | assumption | refine below_allocS ?_ _ | refine below_callS ?_ (by assumption) | (refine Below.alloc ?_ (by first | omega | (simp; done) | (simp; omega)) _) | (refine Below.setCell ?_ (by first | omega | (simp; done) | (simp; omega)) _) | refine Below.drew ?_ | refine below_drewN ?_ _ | (refine below_call ?_ (by assumption) (by first | omega | (simp; done) | (simp; omega))) | (refine Below.trans ?_ (by assumption))))) ?_
    rintro e w1 ⟨rfl, hb_w1⟩
    obtain ⟨hc_w1, hf_w1⟩ := bcell hb_w1
    have hs_w1 := hb_w1.size
    simp at hs_w1
    have hz1 : wx.heap.size < w1.heap.size := by omega
    go_wp2_with fail
    refine Calls.mono (K2.out _ (by repeat (first | exact Below.refl _ _ | assumption | refine below_allocS ?_ _ | refine below_callS ?_ (by assumption) | (refine Below.alloc ?_ (by first | omega | (simp; done) | (simp; omega)) _) | (refine Below.setCell ?_ (by first | omega | (simp; done) | (simp; omega)) _) | refine Below.drew ?_ | refine below_drewN ?_ _ | (refine below_call ?_ (by assumption) (by first | omega | (simp; done) | (simp; omega))) | (refine Below.trans ?_ (by assumption))))) ?_
    rintro e w2 ⟨rfl, hb_w2⟩
    obtain ⟨hc_w2, hf_w2⟩ := bcell hb_w2
    have hs_w2 := hb_w2.size
    go_wp2
    go_ret
    exact ⟨rfl, by clear hx; repeat (first | exact Below.refl _ _ | assumption | refine below_allocS ?_ _ | refine below_callS ?_ (by assumption) | (refine Below.alloc ?_ (by first | omega | (simp; done) | (simp; omega)) _) | (refine Below.setCell ?_ (by first | omega | (simp; done) | (simp; omega)) _) | refine Below.drew ?_ | refine below_drewN ?_ _ | (refine below_call ?_ (by assumption) (by first | omega | (simp; done) | (simp; omega))) | (refine Below.trans ?_ (by assumption)))⟩
  have KE := Lib.hid (fun (wx : World) (hx : Below w.heap.size w wx) => impl_enabled (sa := sa) (sn := sn) (sc := sc) (ta := ta) (tn := tn) (tc := tc) hx (Flats.keep hR hx) hr (hV.keep hx) (fun x hxm t ht => by have := (g3 x.2 (List.mem_map_of_mem hxm)).1 t ht; omega) (fun x hxm => by obtain ⟨q1, q2, q3, q4, q5, q6⟩ := hR.wf x hxm; exact q4))
  clear hI hT hR hV hm hs hsv g1 g2 g3 g6 hvl
  go_enter Tryz.func32, Tryz.ntmps32
  go_wp2_with fail
  refine Calls.mono (HC.out _ (by repeat (first | exact Below.refl _ _ | assumption | refine below_allocS ?_ _ | refine below_callS ?_ (by assumption) | (refine Below.alloc ?_ (by first | omega | (simp; done) | (simp; omega)) _) | (refine Below.setCell ?_ (by first | omega | (simp; done) | (simp; omega)) _) | refine Below.drew ?_ | refine below_drewN ?_ _ | (refine below_call ?_ (by assumption) (by first | omega | (simp; done) | (simp; omega))) | (refine Below.trans ?_ (by assumption))))) ?_
  rintro e w1 ⟨rfl, hb_w1⟩
  obtain ⟨hc_w1, hf_w1⟩ := bcell hb_w1
  have hs_w1 := hb_w1.size
  simp at hs_w1
  have hz1 : w.heap.size < w1.heap.size := by omega
  have hb01 : Below w.heap.size w w1 := by repeat (first | exact Below.refl _ _ | assumption | refine below_allocS ?_ _ | refine below_callS ?_ (by assumption) | (refine Below.alloc ?_ (by first | omega | (simp; done) | (simp; omega)) _) | (refine Below.setCell ?_ (by first | omega | (simp; done) | (simp; omega)) _) | refine Below.drew ?_ | refine below_drewN ?_ _ | (refine below_call ?_ (by assumption) (by first | omega | (simp; done) | (simp; omega))) | (refine Below.trans ?_ (by assumption)))
  go_wp2_with fail
  refine Calls.mono (KE.out _ hb01) ?_
  rintro e w2 ⟨a, n, c, rfl, ho, hne, hb2⟩
  have O := Lib.hid (ho.le (show w.heap.size ≤ w1.heap.size by omega))
  have HB := Lib.hid (below_callS hb01 hb2)
  clear ho hb2 hb01 hb_w1
  go_wp2
  go_ret2
  exact ⟨_, _, _, rfl, O.out, hne, HB.out⟩
end Go.Proofs.YtfnamjkmkoldeaaGreatDoor
