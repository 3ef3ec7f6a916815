/- Codes of a model and a diagram; is there a state whose bits begin so: the reference, walked.; A region that draws its order: some steps in every order, then one proof for all of them.; Where a bit of an input leads: the reference, walked. (The first chunk of Wg; never import both.) -/
import Derived.Test.YtkaikbaagajckaaGreatPu
import Derived.Test.YtkaikbaagajckaaGreatN27
import Derived.Test.YtkaikbaagajckaaGreatN08
import Derived.Test.YtkaikbaagajckaaGreatN10
import Derived.Test.YtkaikbaagajckaaGreatN29
import Derived.Test.YtkaikbaagajckaaGreatN28
import Derived.Test.YtkaikbaagajckaaGreatBase
import Derived.Deep.RegionHeld
import Derived.Test.YtkaikbaagajckaaGreatN25
namespace Go.Proofs.YtkaikbaagajckaaGreat
open Go.RowKit
set_option linter.unusedVariables false
set_option linter.unusedSimpArgs false
set_option maxHeartbeats 1000000 in
theorem spec_l01Own9 {a : Option Addr} {n c : Nat} {l : List Int} {w : World} (hI : Ints w a n c l) (hn : n ≤ 1048576) :
    Calls Tryz.prog 159 #[.slice a n c] w fun e w' => ∃ a c, e = .returned (.slice a n c) ∧ Below w.heap.size w w' ∧ OwnI 2 w' w.heap.size a n c l := by
  have HI := Lib.hid hI
  clear hI
  go_enter Tryz.func159, Tryz.ntmps159
  go_wp2_with (at_builtin; refine appendL_i64 rfl _ _ 22 2 rfl Tryz.underlying22 Tryz.infoi64 w.heap.size _ _ _ _ (OwnI.empty w (Nat.le_refl _)) rfl _ _ _ _ rfl (HI.out.keep ((Below.refl _ _).alloc (Nat.le_refl _) _)) (by omega) (by omega) (by simp) ?_; intro a1 c1 w1 hown1 hb1 hg1 hnil1)
  have Hown := Lib.hid hown1
  clear hown1
  go_ret
  exact ⟨a1, c1, by simp, bel, by simpa using Hown.out⟩
/-- the code of a model and a diagram -/
def cdC (sz st : List Int) (l : List (RM × RuD)) (inp : Int) (L : List I3) (root : Int) : Int := if modelB sz st l = false then 1 else if diaB inp L root = false then 1 else if inp ≠ (offN sz sz.length : Int) then 2 else 0
section
variable {sz st : List Int} {l : List (RM × RuD)} {inp : Int} {L : List I3} {root : Int}
theorem cdC_1 (h : modelB sz st l = false) : cdC sz st l inp L root = 1 := if_pos h
theorem cdC_2 (h : modelB sz st l = true) (h2 : diaB inp L root = false) : cdC sz st l inp L root = 1 := by rw [cdC, if_neg (by simp [h]), if_pos h2]
theorem cdC_3 (h : modelB sz st l = true) (h2 : diaB inp L root = true) (h3 : inp ≠ (offN sz sz.length : Int)) : cdC sz st l inp L root = 2 := by rw [cdC, if_neg (by simp [h]), if_neg (by simp [h2]), if_pos h3]
theorem cdC_4 (h : modelB sz st l = true) (h2 : diaB inp L root = true) (h3 : inp = (offN sz sz.length : Int)) : cdC sz st l inp L root = 0 := by rw [cdC, if_neg (by simp [h]), if_neg (by simp [h2]), if_neg (by simp [h3])]
end
set_option maxRecDepth 100000 in
set_option maxHeartbeats 4000000 in
theorem spec_l23Code {sa ta ra da : Option Addr} {sn sc tn tc rn rc dc : Nat} {sz st : List Int} {l : List (RM × RuD)} {inp root : Int} {L : List I3} {w : World} (hI : Ints w sa sn sc sz) (hn : sn ≤ 1048576) (hT : Ints w ta tn tc st) (ht : tn ≤ 1048576) (hR : FR w w ra rn rc l) (hr : rn ≤ 1048576) (hD : F3 w da L.length dc L) (hdl : L.length ≤ maxLen) (hi64 : I64 inp) (hr64 : I64 root) :
    Calls Tryz.prog 104 #[.agg #[.slice sa sn sc, .slice ta tn tc, .slice ra rn rc], .agg #[.int .i64 inp, .slice da L.length dc, .int .i64 root]] w fun e w' => e = .returned (.int .i64 (cdC sz st l inp L root)) ∧ Below w.heap.size w w' := by
  have hb0 : Below w.heap.size w ((w.alloc (.cells #[.slice sa sn sc, .slice ta tn tc, .slice ra rn rc] 36)).alloc (.cells #[.int .i64 inp, .slice da L.length dc, .int .i64 root] 40)) := bel
  have X := Lib.hid ((Blk.made w #[.slice sa sn sc, .slice ta tn tc, .slice ra rn rc] 36).keep (below_alloc1 (Below.refl _ _) (.cells #[.int .i64 inp, .slice da L.length dc, .int .i64 root] 40)))
  have D := Lib.hid (Blk.made1 w (.cells #[.slice sa sn sc, .slice ta tn tc, .slice ra rn rc] 36) #[.int .i64 inp, .slice da L.length dc, .int .i64 root] 40)
  have KM := fun (wx : World) (hb : Below w.heap.size w wx) => spec_IsModel (hI.keep hb) hn (hT.keep hb) ht (hR.self hb) hr
  have KD := fun (wx : World) (hb : Below w.heap.size w wx) => spec_IsDiagram (inp := inp) (root := root) (hD.keep hb) hi64 hr64 hdl
  cases hm : modelB sz st l
  · simp only [hm] at KM
    have K1 := Lib.hid KM
    have HC := Lib.hid (cdC_1 (inp := inp) (L := L) (root := root) hm)
    clear KM KD hm hI hT hR hD
    go_enter Tryz.func104, Tryz.ntmps104
    go_wp2_with fail
    refine Calls.mono (K1.out _ hb0) ?_
    rintro e w1 ⟨rfl, hb⟩
    go_wp2
    go_ret
    exact ⟨by rw [HC.out]; rfl, below_callS hb0 hb⟩
  simp only [hm] at KM
  have K1 := Lib.hid KM
  have hs := modelB_all hm
  have KT := fun (wx : World) (hb : Below w.heap.size w wx) => spec_l23Total (ta := ta) (tn := tn) (tc := tc) (ra := ra) (rn := rn) (rc := rc) (hI.keep hb) hn hs
  rw [← offN_full hs] at KT
  cases hd : diaB inp L root
  · simp only [hd] at KD
    have K2 := Lib.hid KD
    have HC := Lib.hid (cdC_2 hm hd)
    clear KM KD KT hm hd hs hI hT hR hD
    go_enter Tryz.func104, Tryz.ntmps104
    go_wp2_with fail
    refine Calls.mono (K1.out _ hb0) ?_
    rintro e w1 ⟨rfl, hb⟩
    have D1 := Lib.hid (D.out.keep hb)
    have HB1 := Lib.hid (below_callS hb0 hb)
    clear hb
    have x0 := D1.out.cell 0
    have x1 := D1.out.cell 1
    have x2 := D1.out.cell 2
    have xl := D1.out.lt
    simp only [List.getElem?_toArray, List.getElem?_cons_zero, List.getElem?_cons_succ] at x0 x1 x2
    go_wp2_with fail
    refine Calls.mono (K2.out _ HB1.out) ?_
    rintro e w2 ⟨rfl, hb⟩
    go_wp2
    go_ret
    exact ⟨by rw [HC.out]; rfl, below_callS HB1.out hb⟩
  simp only [hd] at KD
  have K2 := Lib.hid KD
  have K3 := Lib.hid KT
  obtain ⟨_, _, h0, h20, _, _, _⟩ := dia_redu hd
  have KS := fun (wx : World) (hb : Below w.heap.size w wx) => spec_l23Small (ta := ta) (tn := tn) (tc := tc) (ra := ra) (rn := rn) (rc := rc) (hI.keep hb) hn hs
  have hfull := offN_full hs
  have hcase : inp = (offN sz sz.length : Int) ∨ inp ≠ (offN sz sz.length : Int) := Classical.em _
  rcases hcase with hin | hin
  all_goals
    first
      | (have HC := Lib.hid (cdC_4 hm hd hin)
         have hsm : smC sz = 0 := by rw [smC, smB, if_pos]; exact decide_eq_true (by omega)
         rw [hsm] at KS
         have K4 := Lib.hid KS
         have hne : (inp != (offN sz sz.length : Int)) = false := by simpa using hin)
      | (have HC := Lib.hid (cdC_3 hm hd hin)
         have hne : (inp != (offN sz sz.length : Int)) = true := by simpa using hin)
    clear KM KD KT KS hm hd hs hI hT hR hD hin hfull
    go_enter Tryz.func104, Tryz.ntmps104
    go_wp2_with fail
    refine Calls.mono (K1.out _ hb0) ?_
    rintro e w1 ⟨rfl, hb⟩
    have D1 := Lib.hid (D.out.keep hb)
    have X1 := Lib.hid (X.out.keep hb)
    have HB1 := Lib.hid (below_callS hb0 hb)
    clear hb
    have x0 := D1.out.cell 0
    have x1 := D1.out.cell 1
    have x2 := D1.out.cell 2
    have xl := D1.out.lt
    simp only [List.getElem?_toArray, List.getElem?_cons_zero, List.getElem?_cons_succ] at x0 x1 x2
    go_wp2_with fail
    refine Calls.mono (K2.out _ HB1.out) ?_
    rintro e w2 ⟨rfl, hb⟩
    have D2 := Lib.hid (D1.out.keep hb)
    have X2 := Lib.hid (X1.out.keep hb)
    have HB2 := Lib.hid (below_callS HB1.out hb)
    clear hb x0 x1 x2 xl
    have y0 := X2.out.cell 0
    have y1 := X2.out.cell 1
    have y2 := X2.out.cell 2
    have yl := X2.out.lt
    have x0 := D2.out.cell 0
    have xl := D2.out.lt
    simp only [List.getElem?_toArray, List.getElem?_cons_zero, List.getElem?_cons_succ] at x0 y0 y1 y2
    have hb2 := HB2.out
    go_wp2_with fail
    refine wp_region_noPanic ?_
    refine wp_region_held_drew (S := (fun wx => wx.cell? ⟨w.heap.size, 0, none⟩ = some (.slice sa sn sc) ∧ wx.cell? ⟨w.heap.size, 1, none⟩ = some (.slice ta tn tc) ∧ wx.cell? ⟨w.heap.size, 2, none⟩ = some (.slice ra rn rc) ∧ wx.cell? ⟨w.heap.size + 1, 0, none⟩ = some (.int .i64 inp) ∧ w.heap.size < wx.heap.size ∧ w.heap.size + 1 < wx.heap.size ∧ Below w.heap.size w wx)) (by kernel_rfl) ?_ (fun hHeld => ?_)
    · (try dsimp only); (((try go_split_ands); (repeat' apply And.intro) <;> with_reducible (first | assumption | exact (hcx _ _ (by assumption)).trans (by assumption) | exact Nat.lt_of_lt_of_le (by assumption) hsx | exact below_callS (by assumption) hbx | exact Below.drew (by assumption) | exact cellR_drew (by assumption) | exact ltR_drew (by assumption) | exact (Below.refl _ _).drew)))
    refine tkH 0 ?_
    try simp only [pu]
    refine tkH 1 ?_
    try simp only [pu]
    refine tkH 2 ?_
    try simp only [pu]
    refine wpAnyH_ready (rs := [3]) (by kernel_rfl) (by simp) ?_
    refine AllReadyH.cons rfl (fun K hK => ?_) AllReadyH.nil
    go_simp
    (go_at_call 82; refine Calls.mono (K3.out _ (by first | assumption | (go_split_ands; assumption))) ?_; rintro e wx2 ⟨rfl, hbx⟩; obtain ⟨hcx, hfx⟩ := bcell hbx; have hsx := hbx.size)
    go_wp2_with fail
    refine hK.out _ _ ?_ (fun hHeld => ?_)
    · (try dsimp only); (((try go_split_ands); (repeat' apply And.intro) <;> with_reducible (first | assumption | exact (hcx _ _ (by assumption)).trans (by assumption) | exact Nat.lt_of_lt_of_le (by assumption) hsx | exact below_callS (by assumption) hbx | exact Below.drew (by assumption) | exact cellR_drew (by assumption) | exact ltR_drew (by assumption) | exact (Below.refl _ _).drew)))
    clear hK K
    try simp only [pu]
    refine tkH 4 ?_
    try simp only [pu]
    refine tkH 5 ?_
    try simp only [pu]
    refine wpAnyH_done (by kernel_rfl) ?_ _
    refine NoPanic.normal ?_
    clear x0 xl y0 y1 y2 yl hb2
    obtain ⟨y0, y1, y2, _, yl, _, hb5⟩ := hHeld
    go_wp2_with fail
    try (refine Calls.mono (K4.out _ hb5) ?_; rintro e w7 ⟨rfl, hb7⟩; have hb5 := below_callS hb5 hb7; go_wp2)
    go_ret
    exact ⟨by rw [HC.out]; rfl, by assumption⟩
set_option maxRecDepth 100000 in
set_option maxHeartbeats 4000000 in
theorem spec_l23Begun {sa ta ra va : Option Addr} {sc tn tc rn rc m vc : Nat} {sz c : List Int} {w : World} (hI : Ints w sa sz.length sc sz) (h16 : sz.length ≤ 16) (hs : allIn 1 32 sz = true) (hV : Ints w va m vc c) (hc : bits01 c) (hm : m ≤ offN sz sz.length) :
    Calls Tryz.prog 168 #[.agg #[.slice sa sz.length sc, .slice ta tn tc, .slice ra rn rc], .slice va m vc] w fun e w' => e = .returned (.bool (begB sz (offN sz sz.length) c)) ∧ Below w.heap.size w w' := by
  obtain ⟨w0, hw0⟩ : ∃ w0, w0 = w.alloc (.cells #[.slice sa sz.length sc, .slice ta tn tc, .slice ra rn rc] 36) := ⟨_, rfl⟩
  have hb0 : Below w.heap.size w w0 := by rw [hw0]; exact below_alloc1 (Below.refl _ _) _
  have X := Lib.hid (show Blk w0 w.heap.size #[.slice sa sz.length sc, .slice ta tn tc, .slice ra rn rc] 36 by rw [hw0]; exact Blk.made _ _ _)
  have HV := Lib.hid (hV.keep hb0)
  have hml := hV.len
  obtain ⟨hfull, h80⟩ := off_sum hs h16
  have h80 := h80 _ (Nat.le_refl _)
  have KT := Lib.hid (fun (wx : World) (hb : Below w.heap.size w wx) => spec_l23Total (ta := ta) (tn := tn) (tc := tc) (ra := ra) (rn := rn) (rc := rc) (hI.keep hb) (by omega) hs)
  rw [hfull] at KT
  have KS := Lib.hid (fun (wx : World) (hb : Below w.heap.size w wx) (a9 : Option Addr) (c9 : Nat) (bs : List Int) (h : Ints wx a9 (offN sz sz.length) c9 bs) (hbs : allIn 0 1 bs = true) => spec_l23State (ta := ta) (tn := tn) (tc := tc) (ra := ra) (rn := rn) (rc := rc) (hI.keep hb) h h16 hs hbs rfl)
  have HB0 := Lib.hid hb0
  obtain ⟨N, hN⟩ : ∃ N, N = offN sz sz.length := ⟨_, rfl⟩
  have HN := Lib.hid hN
  have HCB := Lib.hid hc
  rw [← hN] at KT KS h80 hm ⊢
  clear hI hV hb0 hc hfull
  clear hN
  go_enter Tryz.func168, Tryz.ntmps168
  go_wp2_with fail
  rw [← hw0]
  clear hw0
  refine Calls.mono (spec_l01Own9 HV.out (by omega)) ?_
  rintro e w1 ⟨a1, c1, rfl, hb1, ho1⟩
  have X1 := Lib.hid (X.out.keep hb1)
  have HB1 := Lib.hid (below_callS HB0.out hb1)
  have hs1 := HB0.out.size
  have O1 := Lib.hid (ho1.le hs1)
  clear hb1 ho1 X HB0 HV
  go_wp2_with fail
  go_loopw [5] (fun s5 wr => ∃ (j c2 : Nat) (a2 : Option Addr), s5 = .slice a2 j c2 ∧ m ≤ j ∧ j ≤ N ∧ Hid (Below w.heap.size w wr) ∧ Hid (Blk wr w.heap.size #[.slice sa sz.length sc, .slice ta tn tc, .slice ra rn rc] 36) ∧ Hid (OwnI 2 wr w.heap.size a2 j c2 (c ++ List.replicate (j - m) 0))) (fun s5 _ => N - (match s5 with | .slice _ n _ => n | _ => 0))
  case atStart => exact ⟨m, c1, a1, rfl, by omega, hm, HB1, X1, Lib.hid (by rw [Nat.sub_self]; simpa using O1.out)⟩
  case round =>
    clear X1 HB1 O1
    obtain ⟨j, c2, a2, rfl, hmj, hjN, HB, X, O⟩ := hrel
    have y0 := X.out.cell 0
    have y1 := X.out.cell 1
    have y2 := X.out.cell 2
    have yl := X.out.lt
    simp only [List.getElem?_toArray, List.getElem?_cons_zero, List.getElem?_cons_succ] at y0 y1 y2
    go_wp2_with fail
    refine Calls.mono (KT.out _ HB.out) ?_
    rintro e w3 ⟨rfl, hb3⟩
    have X3 := Lib.hid (X.out.keep hb3)
    have O3 := Lib.hid (O.out.keep hb3)
    have HB3 := Lib.hid (below_callS HB.out hb3)
    have hsz3 := HB3.out.size
    clear hb3 y0 y1 y2 yl X O HB
    by_cases hlt : j < N
    · have hlt' : (j : Int) < (N : Int) := by omega
      go_wp2_with (at_builtin; refine appI1 (z := 0) rfl _ _ rfl Tryz.underlying22 Tryz.infoi64 w.heap.size _ _ _ _ O3.out rfl _ rfl rfl (by unfold I64; omega) (by omega) (by omega) ?_; intro g' c4 w4 ho hb4 ht4 hat hsz; refine Hid.out ?_)
      have X4 := Lib.hid (X3.out.keepA ht4 (blk_ne X3.out (fun {g} e => O3.out.typ e) (by decide)))
      have O4 := Lib.hid ho
      have HB4 := Lib.hid (HB3.out.trans hb4)
      clear ho hb4 ht4 hat hsz X3 O3 HB3
      refine Lib.hid ?_
      go_wp2_with fail
      go_roundw
      case rel => exact ⟨j + 1, _, _, rfl, by omega, by omega, HB4, X4, Lib.hid (by
        rw [show j + 1 - m = (j - m) + 1 by omega, List.replicate_succ', ← List.append_assoc]
        exact O4.out)⟩
      case measure => simp; omega
    · have hlt' : ¬ (j : Int) < (N : Int) := by omega
      have hj : j = N := by omega
      subst hj
      have y0 := X3.out.cell 0
      have y1 := X3.out.cell 1
      have y2 := X3.out.cell 2
      have yl := X3.out.lt
      simp only [List.getElem?_toArray, List.getElem?_cons_zero, List.getElem?_cons_succ] at y0 y1 y2
      have hall : allIn 0 1 (c ++ List.replicate (j - m) (0 : Int)) = true := List.all_eq_true.2 fun x hx => by
        rcases List.mem_append.1 hx with hx | hx
        · rcases HCB.out x hx with rfl | rfl <;> rfl
        · rw [(List.mem_replicate.1 hx).2]; rfl
      go_wp2_with fail
      refine Calls.mono (KS.out _ HB3.out _ _ _ O3.out.ints hall) ?_
      rintro e w5 ⟨a5, c5, rfl, hb5, ho5⟩
      go_wp2
      go_ret
      refine ⟨?_, below_callS HB3.out hb5⟩
      rw [begB, okB, hml]
      rfl
section
variable {P : Program} {ops : Array Oper} {Q : Exit → Act → World → Prop} {md : Region.Mode} {S : World → Prop}
/-- whatever order is picked for the next k steps: S holds behind each, and R behind the last -/
def wpK (P : Program) (md : Region.Mode) (ops : Array Oper) (Q : Exit → Act → World → Prop) (S : World → Prop) (R : Array Bool → Act → World → Prop) : Nat → Array Bool → Act → World → Prop
  | 0, listed, a, w => R listed a w
  | k + 1, listed, a, w => Region.ready md ops listed ≠ [] ∧ ∀ i ∈ Region.ready md ops listed, wpOp P ops Q i (fun a' w' => S w' ∧ wpK P md ops Q S R k (listed.setIfInBounds i true) a' w') a w
theorem wpAnyH_of_K {R : Array Bool → Act → World → Prop} {fuel : Nat} (h : ∀ l a w, S w → R l a w → wpAnyH P md ops Q S fuel l a w) : ∀ (k : Nat) (listed : Array Bool) (a : Act) (w : World), S w → wpK P md ops Q S R k listed a w → wpAnyH P md ops Q S (fuel + k) listed a w
  | 0, listed, a, w, hS, hk => h _ _ _ hS hk
  | k + 1, listed, a, w, hS, hk => ⟨fun h0 => absurd h0 hk.1, fun i hi => wpOp_mono (fun a' w' h' => ⟨h'.1, wpAnyH_of_K h k _ a' w' h'.1 h'.2⟩) (hk.2 i hi)⟩
def AllReadyK (P : Program) (md : Region.Mode) (ops : Array Oper) (Q : Exit → Act → World → Prop) (S : World → Prop) (R : Array Bool → Act → World → Prop) (k : Nat) (listed : Array Bool) (a : Act) (w : World) (rs : List Nat) : Prop :=
  ∀ i ∈ rs, wpOp P ops Q i (fun a' w' => S w' ∧ wpK P md ops Q S R k (listed.setIfInBounds i true) a' w') a w
theorem AllReadyK.nil {R : Array Bool → Act → World → Prop} {k : Nat} {listed : Array Bool} {a : Act} {w : World} : AllReadyK P md ops Q S R k listed a w [] := fun _ h => by cases h
theorem AllReadyK.cons {R : Array Bool → Act → World → Prop} {k : Nat} {listed : Array Bool} {a : Act} {w : World} {i : Nat} {o : Oper} {rs : List Nat} (ho : ops[i]? = some o)
    (h : ∀ K' : Act → World → Prop, Shut (∀ a w, S w → (S w → wpK P md ops Q S R k (listed.setIfInBounds i true) a w) → K' a w) → if Region.wanted o (yielded ops a.tmps) = true then Oper.wp P o a w K' Q else K' (a.put o.dst undef) w)
    (hs : AllReadyK P md ops Q S R k listed a w rs) : AllReadyK P md ops Q S R k listed a w (i :: rs) := fun j hj => by
  rcases List.mem_cons.1 hj with rfl | hj
  · exact wpOp_step ho (fun K' hK => h K' (fun a w hS hW => hK a w ⟨hS, hW hS⟩))
  · exact hs j hj
theorem wpK_ready {R : Array Bool → Act → World → Prop} {k : Nat} {rs : List Nat} {listed : Array Bool} {a : Act} {w : World} (hr : Region.ready md ops listed = rs) (hne : rs ≠ [])
    (h : AllReadyK P md ops Q S R k listed a w rs) : wpK P md ops Q S R (k + 1) listed a w := ⟨fun h0 => hne (hr ▸ h0), hr ▸ h⟩
/-- a call that yields a slice and a made slice of one element, in both orders -/
theorem wpAnyH_two {F : Option Addr → Nat → Nat → World → Prop} {i j n fuel : Nat} {di dj : Option Nat} {listed : Array Bool} {a : Act} {w : World} (hS : S w)
    (hk : wpK P md ops Q S (fun l a' wn => ∃ a3 c3 gx, l = (listed.setIfInBounds i true).setIfInBounds j true ∧ a' = (a.put di (.slice a3 n c3)).put dj (.slice (some ⟨gx, 0, none⟩) 1 1) ∧ F a3 c3 gx wn) 2 listed a w)
    (h : ∀ a3 c3 gx wn, S wn → F a3 c3 gx wn → wpAnyH P md ops Q S fuel ((listed.setIfInBounds i true).setIfInBounds j true) ((a.put di (.slice a3 n c3)).put dj (.slice (some ⟨gx, 0, none⟩) 1 1)) wn) : wpAnyH P md ops Q S (fuel + 2) listed a w :=
  wpAnyH_of_K (fun l a' wn hSn hR => by
    obtain ⟨a3, c3, gx, rfl, rfl, hF⟩ := hR
    exact h a3 c3 gx wn hSn hF) 2 listed a w hS hk
/-- .. and a call that yields v before the first -/
theorem wpAnyH_three {F : Option Addr → Nat → Nat → World → Prop} {i0 i j n fuel : Nat} {d0 di dj : Option Nat} {v : Value} {listed : Array Bool} {a : Act} {w : World} (hS : S w)
    (hk : wpK P md ops Q S (fun l a' wn => ∃ a3 c3 gx, l = ((listed.setIfInBounds i0 true).setIfInBounds i true).setIfInBounds j true ∧ a' = ((a.put d0 v).put di (.slice a3 n c3)).put dj (.slice (some ⟨gx, 0, none⟩) 1 1) ∧ F a3 c3 gx wn) 3 listed a w)
    (h : ∀ a3 c3 gx wn, S wn → F a3 c3 gx wn → wpAnyH P md ops Q S fuel (((listed.setIfInBounds i0 true).setIfInBounds i true).setIfInBounds j true) (((a.put d0 v).put di (.slice a3 n c3)).put dj (.slice (some ⟨gx, 0, none⟩) 1 1)) wn) : wpAnyH P md ops Q S (fuel + 3) listed a w :=
  wpAnyH_of_K (fun l a' wn hSn hR => by
    obtain ⟨a3, c3, gx, rfl, rfl, hF⟩ := hR
    exact h a3 c3 gx wn hSn hF) 3 listed a w hS hk
end
end Go.Proofs.YtkaikbaagajckaaGreat
namespace Go.Proofs.YtkaikbaagajckaaGreat
open Go.RowKit
set_option linter.unusedVariables false
set_option linter.unusedSimpArgs false
attribute [local go_sem ↓] Go.wp_at_zero Go.wp_at_succ
/-- where a bit of an input leads -/
def brN (n : Int) (L : List I3) (r input bit : Int) : Int := if bit = 0 then (chN n L r input).1 else (chN n L r input).2
set_option maxHeartbeats 2000000 in
theorem spec_l22Branch {a : Option Addr} {n c : Nat} {L : List I3} {inp root r input bit : Int} {w : World} (hI : F3 w a n c L) (hn : n ≤ 1048576) (hr : RefB r L.length) :
    Calls Tryz.prog 169 #[.agg #[.int .i64 inp, .slice a n c, .int .i64 root], .int .i64 r, .int .i64 input, .int .i64 bit] w fun e w' => e = .returned (.int .i64 (brN inp L r input bit)) ∧ Below w.heap.size w w' := by
  have hb0 : Below w.heap.size w (w.alloc (.cells #[.int .i64 inp, .slice a n c, .int .i64 root] 40)) := bel
  have X := Lib.hid (Blk.made w #[.int .i64 inp, .slice a n c, .int .i64 root] 40)
  have HC := Lib.hid (spec_l22Level (inp := inp) (root := root) (hI.keep hb0) hn hr)
  by_cases hl : lvlN inp L r = input
  · have HL := Lib.hid hl
    by_cases h2 : r < 2
    · have HF := Lib.hid (show brN inp L r input bit = r by rw [brN, ch_skip (.inr h2)]; simp)
      clear hI hl
      go_enter Tryz.func169, Tryz.ntmps169
      go_wp2_with fail
      refine Calls.mono HC.out ?_
      rintro e w1 ⟨rfl, hb1⟩
      rw [HL.out]
      go_wp2
      go_ret
      exact ⟨by rw [HF.out]; rfl, below_callS hb0 hb1⟩
    · obtain ⟨k, rfl⟩ : ∃ k : Nat, r = (k : Int) + 2 := ⟨(r - 2).toNat, by omega⟩
      have hkn : k < n := by rw [← hI.len]; have := hr.2; omega
      obtain ⟨b, off, x, rfl, hb, hx, hwf, hc0, hc1, hc2⟩ := F3.get hI hkn
      have hk0 : (0 : Int) ≤ (k : Int) := by omega
      have hkn' : (k : Int) < (n : Int) := by omega
      have i1 : IntKind.i64.wrap ((k : Int) + 2 - 2) = (k : Int) := by rw [IntWalk.i64_in _ (by omega)]; omega
      have HX := Lib.hid (ch_node (n := inp) hx (show x.a = input by rw [← hl, lvl_node hx]))
      have HI := Lib.hid hI
      have HC0 := Lib.hid hc0
      have HC1 := Lib.hid hc1
      have HC2 := Lib.hid hc2
      clear hI hl hx hc0 hc1 hc2
      by_cases hbt : bit = 0
      · have e1 : (bit == 0) = true := by simpa using hbt
        have HBT := Lib.hid hbt
        clear hbt
        go_enter Tryz.func169, Tryz.ntmps169
        go_wp2_with fail
        refine Calls.mono HC.out ?_
        rintro e w1 ⟨rfl, hb1⟩
        rw [HL.out]
        have x1 := (X.out.keep hb1).cell 1
        have xl := (X.out.keep hb1).lt
        simp only [List.getElem?_toArray, List.getElem?_cons_succ, List.getElem?_cons_zero] at x1
        have hb01 := below_callS hb0 hb1
        have c0 := cell_of_keep hb01 HC0.out
        have c1 := cell_of_keep hb01 HC1.out
        have c2 := cell_of_keep hb01 HC2.out
        have bl := Nat.lt_of_lt_of_le hb hb01.size
        go_wp2
        go_ret
        exact ⟨by rw [brN, HX.out, if_pos HBT.out]; rfl, hb01⟩
      · have e1 : (bit == 0) = false := by simpa using hbt
        have HBT := Lib.hid hbt
        clear hbt
        go_enter Tryz.func169, Tryz.ntmps169
        go_wp2_with fail
        refine Calls.mono HC.out ?_
        rintro e w1 ⟨rfl, hb1⟩
        rw [HL.out]
        have x1 := (X.out.keep hb1).cell 1
        have xl := (X.out.keep hb1).lt
        simp only [List.getElem?_toArray, List.getElem?_cons_succ, List.getElem?_cons_zero] at x1
        have hb01 := below_callS hb0 hb1
        have c0 := cell_of_keep hb01 HC0.out
        have c1 := cell_of_keep hb01 HC1.out
        have c2 := cell_of_keep hb01 HC2.out
        have bl := Nat.lt_of_lt_of_le hb hb01.size
        go_wp2
        go_ret
        exact ⟨by rw [brN, HX.out, if_neg HBT.out]; rfl, hb01⟩
  · have HF := Lib.hid (show brN inp L r input bit = r by rw [brN, ch_skip (.inl hl)]; simp)
    have e1 : (lvlN inp L r == input) = false := by simpa using hl
    have e2 : (lvlN inp L r != input) = true := by simpa using hl
    clear hI hl
    go_enter Tryz.func169, Tryz.ntmps169
    go_wp2_with fail
    refine Calls.mono HC.out ?_
    rintro e w1 ⟨rfl, hb1⟩
    go_wp2
    go_ret
    exact ⟨by rw [HF.out]; rfl, below_callS hb0 hb1⟩
end Go.Proofs.YtkaikbaagajckaaGreat
