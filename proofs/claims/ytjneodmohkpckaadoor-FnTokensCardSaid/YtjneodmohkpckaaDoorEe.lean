/- The program's parser: its environment, names and numbers. -/
import Derived.Test.YtjneodmohkpckaaDoorEd
namespace Go.Proofs.YtjneodmohkpckaaDoor
open Go.RowKit
set_option linter.unusedVariables false
set_option linter.unusedSimpArgs false
theorem var_only {P : Program} {n : String} {g p : Nat} {cs : Array Value} {w w' : World} (hg : P.globalNamed n = some g) (h : w.var? P n = some cs) (ho : Only p (p + 1) w w') (hp : g < p) : w'.var? P n = some cs := by
  unfold World.var? at h ⊢
  rw [hg] at h ⊢
  simp only [Option.bind_some] at h ⊢
  have hlt : g < w.heap.size := by
    apply Nat.lt_of_not_le
    intro hle
    rw [Array.getElem?_eq_none hle] at h
    simp at h
  rw [ho.block g hlt (.inl hp)]; exact h
/-- what the program's parser reads beside its tokens -/
structure EV (w : World) (p : Nat) : Prop where
  lv : LV w
  kw : Tab w 0 (strsCells kwNm)
  n1 : 0 < p
  n2 : 4 < p
  n3 : 2 < p
  n4 : 3 < p
theorem EV.only {w w' : World} {p : Nat} (h : EV w p) (ho : Only p (p + 1) w w') : EV w' p := by
  obtain ⟨t1, p1, h1⟩ := h.lv.s
  obtain ⟨t2, p2, h2⟩ := h.lv.r
  refine ⟨⟨var_only (g := 4) (by kernel_rfl) h.lv.t ho h.n2, ⟨t1, p1, var_only (g := 2) (by kernel_rfl) h1 ho h.n3⟩, ⟨t2, p2, var_only (g := 3) (by kernel_rfl) h2 ho h.n4⟩⟩, ⟨Nat.lt_of_lt_of_le h.kw.1 ho.size, fun i v hv => (ocell ho _ i h.kw.1 (.inl h.n1)).trans (h.kw.2 i v hv)⟩, h.n1, h.n2, h.n3, h.n4⟩
theorem EV.keep {w w' : World} {p : Nat} (h : EV w p) (hb : Below w.heap.size w w') : EV w' p := ⟨h.lv.keep hb, h.kw.keep hb, h.n1, h.n2, h.n3, h.n4⟩
theorem Only.thenB {lo hi B : Nat} {w w' w'' : World} (h : Only lo hi w w') (hb : Below B w' w'') (hB : w.heap.size ≤ B) : Only lo hi w w'' :=
  ⟨hb.os.trans h.os, hb.tape.trans h.tape, hb.output.trans h.output, Nat.le_trans h.size hb.size, fun k hk hr => (hb.block k (by omega)).trans (h.block k hk hr)⟩
theorem PSt.keepB {w w' : World} {p B : Nat} {bad : Bool} {L : List TR} (h : PSt w p bad L) (hb : Below B w w') (hB : p < B) : PSt w' p bad L := by
  obtain ⟨ta, tn, tc, h⟩ := h
  exact ⟨ta, tn, tc, h.x.keepB hb hB, h.t.only (lo := B) (hi := w.heap.size) (Below.onlyE hb) (fun g o e => by have := h.ne g o e; omega), h.ne, h.n8, h.sz, h.tk⟩
theorem impl_arguments {k : Int} {w : World} : Calls Tryd.prog 116 #[.int .i64 k] w fun e w' => e = .returned (.int .i64 (tkA k : Int)) ∧ w = w' := by
  have H := Lib.hid (show tkA k = if k = 1 ∨ k = 2 ∨ k = 3 then 0 else if k = 4 ∨ k = 7 ∨ k = 8 ∨ k = 9 then 1 else 2 from rfl)
  have fin : ∀ n : Nat, tkA k = n → Ending.returned (.int .i64 (n : Int)) = .returned (.int .i64 (tkA k : Int)) := fun n h => by rw [h]
  have HF := Lib.hid fin
  clear fin
  by_cases h1 : k = 1
  · subst h1
    go_enter Tryd.func116, Tryd.ntmps116
    go_wp2
    go_ret
    exact ⟨HF.out 0 (by decide), rfl⟩
  by_cases h2 : k = 2
  · subst h2
    go_enter Tryd.func116, Tryd.ntmps116
    go_wp2
    go_ret
    exact ⟨HF.out 0 (by decide), rfl⟩
  by_cases h3 : k = 3
  · subst h3
    go_enter Tryd.func116, Tryd.ntmps116
    go_wp2
    go_ret
    exact ⟨HF.out 0 (by decide), rfl⟩
  by_cases h4 : k = 4
  · subst h4
    go_enter Tryd.func116, Tryd.ntmps116
    go_wp2
    go_ret
    exact ⟨HF.out 1 (by decide), rfl⟩
  by_cases h7 : k = 7
  · subst h7
    go_enter Tryd.func116, Tryd.ntmps116
    go_wp2
    go_ret
    exact ⟨HF.out 1 (by decide), rfl⟩
  by_cases h8 : k = 8
  · subst h8
    go_enter Tryd.func116, Tryd.ntmps116
    go_wp2
    go_ret
    exact ⟨HF.out 1 (by decide), rfl⟩
  by_cases h9 : k = 9
  · subst h9
    go_enter Tryd.func116, Tryd.ntmps116
    go_wp2
    go_ret
    exact ⟨HF.out 1 (by decide), rfl⟩
  · have e1 : (k == 1) = false := by simpa using h1
    have e2 : (k == 2) = false := by simpa using h2
    have e3 : (k == 3) = false := by simpa using h3
    have e4 : (k == 4) = false := by simpa using h4
    have e7 : (k == 7) = false := by simpa using h7
    have e8 : (k == 8) = false := by simpa using h8
    have e9 : (k == 9) = false := by simpa using h9
    have HG := Lib.hid (show tkA k = 2 by rw [H.out, if_neg (by omega), if_neg (by omega)])
    go_enter Tryd.func116, Tryd.ntmps116
    go_wp2
    go_ret
    exact ⟨HF.out 2 HG.out, rfl⟩
theorem impl_isNumbered {k : Int} {w : World} : Calls Tryd.prog 117 #[.int .i64 k] w fun e w' => e = .returned (.bool (numK k)) ∧ w = w' := by
  have H := Lib.hid (show numK k = decide (k = 7 ∨ k = 8 ∨ k = 11 ∨ k = 12) from rfl)
  by_cases h1 : k = 7
  · subst h1
    go_enter Tryd.func117, Tryd.ntmps117
    go_wp2
    go_ret
    exact ⟨rfl, rfl⟩
  by_cases h2 : k = 8
  · subst h2
    go_enter Tryd.func117, Tryd.ntmps117
    go_wp2
    go_ret
    exact ⟨rfl, rfl⟩
  by_cases h3 : k = 11
  · subst h3
    go_enter Tryd.func117, Tryd.ntmps117
    go_wp2
    go_ret
    exact ⟨rfl, rfl⟩
  · have e1 : (k == 7) = false := by simpa using h1
    have e2 : (k == 8) = false := by simpa using h2
    have e3 : (k == 11) = false := by simpa using h3
    have HG := Lib.hid (show numK k = (k == 12) by
      rw [H.out]
      by_cases h4 : k = 12
      · rw [h4]; rfl
      · have : (k == 12) = false := by simpa using h4
        rw [this, decide_eq_false (by omega)])
    go_enter Tryd.func117, Tryd.ntmps117
    go_wp2
    go_ret
    exact ⟨by rw [HG.out]; rfl, rfl⟩
theorem kw_block (t : ByteArray) : ((kwBs.drop 11).any fun y => t.toList == y.toList) = decide (11 ≤ kwI t) ∧ (11 ≤ kwI t → idxF (fun y => t.toList == y.toList) (kwBs.drop 11) = kwI t - 11) := by
  have hb : ∀ a b : ByteArray, (a.toList == b.toList) = decide (a = b) := fun a b => by
    rw [str_eq]
    congr 1
    refine propext ⟨fun h => ?_, fun h => by rw [h]⟩
    cases a; cases b; simp at h; simp [h]
  have e : (fun y => t.toList == y.toList) = fun y => decide (t = y) := funext fun y => hb t y
  unfold kwI
  rw [e]
  by_cases h : t ∈ kwBs
  · have : ∀ u ∈ kwBs, ((kwBs.drop 11).any fun y => decide (u = y)) = decide (11 ≤ idxF (fun y => decide (u = y)) kwBs) ∧ (11 ≤ idxF (fun y => decide (u = y)) kwBs → idxF (fun y => decide (u = y)) (kwBs.drop 11) = idxF (fun y => decide (u = y)) kwBs - 11) := by decide +kernel
    exact this t h
  · have h1 : (kwBs.any fun y => decide (t = y)) = false := by
      rw [List.any_eq_false]
      intro y hy
      simp only [decide_eq_true_eq]
      intro e; exact h (e ▸ hy)
    have h2 : ((kwBs.drop 11).any fun y => decide (t = y)) = false := by
      rw [List.any_eq_false] at h1 ⊢
      exact fun y hy => h1 y (List.mem_of_mem_drop hy)
    rw [h2, idxF_miss h1]
    exact ⟨by decide, fun h => by omega⟩
theorem impl_isBlockWord {s : ByteArray} {w : World} (hT : Tab w 0 (strsCells kwNm)) : Calls Tryd.prog 72 #[.string s] w fun e w' => e = .returned (.bool (decide (11 ≤ kwI s))) ∧ w = w' := by
  have hf := fs_cells hT.1 hT.2 (n := 17) rfl (by decide)
  have hc := slices_Contains_str (v := s) (hf.sub (k := 11) (by decide)) (by decide)
  rw [show (kwNm.map fun z => (⟨z.toArray⟩ : ByteArray)) = kwBs from rfl, (kw_block s).1] at hc
  have HC := Lib.hid hc
  clear hT hc hf
  generalize decide (11 ≤ kwI s) = q at *
  go_enter Tryd.func72, Tryd.ntmps72
  go_wp2_with fail
  refine Calls.mono HC.out ?_
  rintro e _ ⟨rfl, rfl⟩
  go_wp2
  go_ret
  exact ⟨rfl, rfl⟩
set_option maxHeartbeats 1000000 in
theorem impl_number {p : Nat} {bad : Bool} {L : List TR} {w : World} (h : PSt w p bad L) (hE : EV w p) (hK : ∀ x ∈ L, TkB x) : Calls Tryd.prog 118 #[.pointer (some ⟨p, 0, none⟩)] w fun e w' => (∃ n : Int, e = .returned (.int .i64 n) ∧ ((tkOf L).k = 2 → n = (valA 0 (tkOf L).t.data.toList : Int))) ∧ PSt w' p ((bad || L.isEmpty) || !decide ((tkOf L).k = 2)) L.tail ∧ Only p (p + 1) w w' := by
  have HT := Lib.hid (impl_take h)
  have HV := Lib.hid hE
  have HZ := Lib.hid (show (tkOf L).t.size ≤ 6000 ∧ ((tkOf L).k = 2 → numB (tkOf L).t.data.toList = true) by
    cases L with
    | nil => exact ⟨by decide, fun h => by simp [tkOf] at h⟩
    | cons x r =>
      refine ⟨h.sz x (List.mem_cons_self ..), fun hk => ?_⟩
      rcases hK x (List.mem_cons_self ..) with h1 | h1 | h1
      · have : x.k = 2 := hk
        omega
      · exact h1.2
      · have : x.k = 2 := hk
        omega)
  clear h hE hK
  generalize tkOf L = x at *
  obtain ⟨k, t⟩ := x
  dsimp only at HT HZ ⊢
  go_enter Tryd.func118, Tryd.ntmps118
  go_wp2_with fail
  refine Calls.mono HT.out ?_
  rintro e w1 ⟨rfl, hp, ho⟩
  have hbb : Below w1.heap.size w1 (w1.alloc (.cells #[.int .i64 k, .string t] 33)) := below_alloc1 (Below.refl _ _) _
  have HP := Lib.hid (hp.keep hbb)
  have HV2 := Lib.hid ((HV.out.only ho).keep hbb)
  have HO := Lib.hid (ho.alloc (.cells #[.int .i64 k, .string t] 33))
  have HB := Lib.hid (Blk.made w1 #[.int .i64 k, .string t] 33)
  have hpw := hp.lt
  clear hp ho hbb
  go_upto_region 2 with fail
  obtain ⟨w2, hw2⟩ : ∃ v, v = w1.alloc (.cells #[.int .i64 k, .string t] 33) := ⟨_, rfl⟩
  rw [← hw2] at HP HV2 HO HB ⊢
  clear hw2 HT HV
  have b0 := HB.out.cell 0
  have b1 := HB.out.cell 1
  have bl := HB.out.lt
  simp only [List.getElem?_toArray, List.getElem?_cons_zero, List.getElem?_cons_succ] at b0 b1
  have KR := fun (wx : World) (hv : LV wx) => impl_readNumber (s := t) (w := wx) hv (by have := HZ.out.1; omega)
  by_cases hk : k = 2
  · subst hk
    have hnum := parse_num (HZ.out.2 rfl)
    have hok : okN t.data.toList = true := by
      have hn := HZ.out.2 rfl
      rw [num_iff hnum] at hn
      simp only [Bool.and_eq_true] at hn
      simp only [okN, hnum]
      exact hn.1
    have HN := Lib.hid hnum
    have HOK := Lib.hid hok
    have HKR := Lib.hid KR
    clear hnum hok KR
    go_wp2_with fail
    refine Calls.mono (HKR.out _ HV2.out.lv) ?_
    rintro e w3 ⟨n, rfl, hn, hb3⟩
    have h3 := hn HOK.out
    rw [HN.out] at h3
    have HN3 := Lib.hid (show n = (valA 0 t.data.toList : Int) by cases h3; rfl)
    have HP3 := Lib.hid (HP.out.keep hb3)
    have HO3 := Lib.hid (HO.out.then hb3)
    clear hn hb3 h3
    go_wp2
    go_ret
    refine ⟨?_, by simpa using HP3.out, HO3.out⟩
    rw [HN3.out]; rfl
  · have hk1 : (k != 2) = true := by simpa using hk
    have HQ := Lib.hid (show decide (k = 2) = false from decide_eq_false hk)
    obtain ⟨ta, tn, tc, P⟩ := HP.out
    have x1 := P.x.cell 1
    have xl := P.x.lt
    have xf := P.x.free
    simp only [List.getElem?_toArray, List.getElem?_cons_zero, List.getElem?_cons_succ] at x1
    have hne : p ≠ w1.heap.size := by omega
    have HPW := Lib.hid P.wrong
    have HV3 := Lib.hid (HV2.out.only (only_p (p := p) (w := w2) 1 (.bool true)))
    have HO3 := Lib.hid (HO.out.set ⟨Nat.le_refl _, Nat.lt_succ_self _⟩ 1 (.bool true))
    have HKR := Lib.hid KR
    clear P HP HV2 HO KR
    go_wp2_with fail
    refine Calls.mono (HKR.out _ HV3.out.lv) ?_
    rintro e w3 ⟨n, rfl, hn, hb3⟩
    have HP3 := Lib.hid (HPW.out.keepB hb3)
    have HO4 := Lib.hid (HO3.out.then hb3)
    clear hn hb3
    go_wp2
    go_ret
    exact ⟨⟨n, rfl, fun h => absurd h hk⟩, ⟨ta, tn, tc, by rw [HQ.out]; simpa using HP3.out⟩, HO4.out⟩
end Go.Proofs.YtjneodmohkpckaaDoor
