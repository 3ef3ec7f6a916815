/- Following a trace: the program, walked.; Following a trace: the reference, walked. -/
import Derived.Test.YtfnamjkmkoldeaaGreatDoorYb
import Derived.Test.YtfnamjkmkoldeaaGreatDoorRt
import Derived.Test.YtfnamjkmkoldeaaGreatDoorRs
import Derived.Test.YtfnamjkmkoldeaaGreatDoorQf
import Derived.Test.YtfnamjkmkoldeaaGreatDoorSb
import Derived.Test.YtfnamjkmkoldeaaGreatDoorL20j
namespace Go.Proofs.YtfnamjkmkoldeaaGreatDoor
open Go.RowKit
set_option linter.unusedVariables false
set_option linter.unusedSimpArgs false
/-- what following a trace returns: a code, and the states -/
def FtRet (w : World) (C : Int) (R : Option (List (List Int))) (e : Ending) (w' : World) : Prop :=
  Below w.heap.size w w' ∧ ∃ a n c L, e = .returned (.tuple #[.slice a n c, .int .i64 C]) ∧ SRow w' w.heap.size w.heap.size a n c L ∧ (C = 0 → R = some (L.map (·.2))) ∧ (C ≠ 0 → n = 0)
theorem SRow.one {w : World} {lo : Nat} (y : QM × List Int) (hy : OwnI 2 w lo y.1.a y.1.n y.1.c y.2) (hl : lo ≤ w.heap.size) (cs : Array Value) (hcs : cs = #[.slice y.1.a y.1.n y.1.c]) :
    SRow (w.alloc (.cells cs 22)) lo lo (some ⟨w.heap.size, 0, none⟩) 1 1 [y] :=
  ⟨OwnF.lit w [y] hl rfl (by decide) (fun _ => rfl) (fun _ _ => trivial) (by rw [hcs]; rfl), fun x hx => by
    simp at hx; rw [hx]; exact hy.keep ((Below.refl _ _).alloc (Nat.le_refl _) _)⟩
/-- append of one state to a row, as a step of a drawn region -/
theorem wp_appS {w : World} {o : Oper} {act : Act} {K : Act → World → Prop} {Q : Exit → Act → World → Prop} (s x : Operand)
    (ho : o.op = .call { callee := .builtin .append, args := #[s, x], argTypes := #[47, 47] })
    (base b2 : Nat) (a : Option Addr) (n c : Nat) (l : List (QM × List Int)) (hown : SRow w base b2 a n c l) (hs : act.eval s = .slice a n c) (gx : Nat) (hx : act.eval x = .slice (some ⟨gx, 0, none⟩) 1 1) (y : QM × List Int) (hB : Blk w gx #[.slice y.1.a y.1.n y.1.c] 22) (hy : OwnI 2 w b2 y.1.a y.1.n y.1.c y.2)
    (hn : n ≤ 4194304) (hbase : base ≤ w.heap.size)
    (K' : ∀ g' c' w', SRow w' base b2 (some ⟨g', 0, none⟩) (n + 1) c' (l ++ [y]) → Below base w w' → K (act.put o.dst (.slice (some ⟨g', 0, none⟩) (n + 1) c')) w') : o.wp Tryz.prog act w K Q := by
  refine wp_appAtL (k := 1) (m := 1) (enc := encS) (ok := fun _ => True) s x ho Tryz.underlying47 Tryz.infosl rfl (by decide) (by decide) encS_one base a n c l [y] hown.row hs gx hx hB rfl rfl (fun _ _ => trivial) (by decide) hn (by decide) hbase ?_
  intro g' c' w' h1 h2 h3
  have ht : Touch w w' 1 a := ⟨_, h3, fun b e => ⟨by decide, own_block hown.row.1 b e⟩⟩
  refine K' g' c' w' ⟨h1, fun z hz => ?_⟩ h2
  have hz' : OwnI 2 w b2 z.1.a z.1.n z.1.c z.2 := by
    rcases List.mem_append.1 hz with hz | hz
    · exact hown.each z hz
    · simp at hz; rw [hz]; exact hy
  exact hz'.keepT ht fun g e e' => typ_apart (fun {g} e => hz'.typ e) (fun {g} e => hown.row.typ e) (by decide) g e e'
theorem impl_length_Rule {a : Option Addr} {n c : Nat} {w : World} : Calls Tryz.prog 62 #[.slice a n c] w fun e w' => e = .returned (.int .i64 n) ∧ w = w' := by
  go_enter Tryz.func62, Tryz.ntmps62
  go_wp2
  go_ret
  exact ⟨rfl, rfl⟩
set_option maxHeartbeats 1000000 in
theorem impl_FollowTrace_1 {x : Int} {B rn rc : Nat} {sa ta ra : Option Addr} {sn sc tn tc : Nat} {w : World} (hB : Blk w B #[.slice sa sn sc, .slice ta tn tc, .slice ra rn rc] 44) (hrn : rn ≤ 1048576) :
    Calls Tryz.prog 60 #[.int .i64 x, .pointer (some ⟨B, 0, none⟩)] w fun e w' => e = .returned (.bool (!inB x 0 ((rn : Int) - 1))) ∧ Below w.heap.size w w' := by
  have x2 := hB.cell 2
  have xl := hB.lt
  simp at x2
  clear hB
  go_enter Tryz.func60, Tryz.ntmps60
  go_wp2_with fail
  go_wp2_with fail
  refine Calls.mono (impl_length_Rule) ?_
  rintro e _ ⟨rfl, rfl⟩
  go_wp2_with fail
  refine Calls.mono (impl_within) ?_
  rintro e _ ⟨rfl, rfl⟩
  go_wp2
  go_ret
  exact ⟨rfl, Below.refl _ _⟩
set_option maxRecDepth 100000 in
set_option maxHeartbeats 4000000 in
theorem impl_FollowTrace {sa ta ra tra : Option Addr} {sn sc tn tc rn rc trn trc : Nat} {sz st tr : List Int} {lr : List (RM × RuD)} {w : World} (hS : Ints w sa sn sc sz) (hT : Ints w ta tn tc st) (hR : FR w w ra rn rc lr) (hsn : sn ≤ 1048576) (htn : tn ≤ 1048576) (hrn : rn ≤ 1048576) (hm : modelB sz st lr = true) (hTr : Ints w tra trn trc tr) (htrn : trn ≤ 1048576) :
    Calls Tryz.prog 24 #[.agg #[.slice sa sn sc, .slice ta tn tc, .slice ra rn rc], .slice tra trn trc] w (FtRet w (ftC (lr.map (·.2)) st tr) (folP (lr.map (·.2)) st tr)) := by
  have K1 := Lib.hid (fun (wx : World) (hb : Below w.heap.size w wx) => impl_IsModel (hS.keep hb) hsn (hT.keep hb) htn (FR.keep hR hb hb) hrn)
  rw [hm] at K1
  obtain ⟨g1, g2, g3, g4, g5, g6⟩ := model_gives hm
  have hrl : (lr.map (·.2)).length = rn := by rw [List.length_map]; exact hR.len
  have hrl2 : rn ≤ 200 := by rw [← hrl, List.length_map]; exact g5
  have htl : tn ≤ 16 := by rw [← hT.len, g2.1]; exact g4
  have hszl : sz.length = tn := by rw [← hT.len, g2.1]
  have HSV := Lib.hid g2
  have HRU := Lib.hid g3
  have HRL := Lib.hid hrl
  have HSZ := Lib.hid hszl
  have HTR := Lib.hid hTr
  have HR := Lib.hid hR
  have HT := Lib.hid hT
  have hTL := hTr.len
  have X := Lib.hid (Blk.made w #[.slice sa sn sc, .slice ta tn tc, .slice ra rn rc] 44)
  have hbA : Below w.heap.size w (w.alloc (.cells #[.slice sa sn sc, .slice ta tn tc, .slice ra rn rc] 44)) := by repeat (first | exact Below.refl _ _ | assumption | refine below_allocS ?_ _ | refine below_callS ?_ (by assumption) | (refine Below.alloc ?_ (by first | omega | (simp; done) | (simp; omega)) _) | (refine Below.setCell ?_ (by first | omega | (simp; done) | (simp; omega)) _) | refine Below.drew ?_ | refine below_drewN ?_ _ | (refine below_call ?_ (by assumption) (by first | omega | (simp; done) | (simp; omega))) | (refine Below.trans ?_ (by assumption)))
  clear hS hT hR hTr hm g1 g2 g3 g4 g5 g6 hrl hszl
  go_enter Tryz.func24, Tryz.ntmps24
  go_wp2_with fail
  refine Calls.mono (K1.out _ hbA) ?_
  rintro e w1 ⟨rfl, hb1⟩
  have hb2 := below_callS hbA hb1
  have X1 := Lib.hid (X.out.keep hb1)
  have hs1 := hb1.size
  simp at hs1
  clear hb1 hbA X K1
  by_cases h4 : 4000 < trn
  · have HF := Lib.hid (ft_long (rs := lr.map (·.2)) (st := st) (tr := tr) (by omega))
    have h4' : (4000 : Int) < (trn : Int) := by omega
    go_wp2
    go_ret2
    exact ⟨hb2, none, 0, 0, [], by rw [HF.out]; rfl, SRow.nil _ _ _, (fun e => by rw [HF.out] at e; cases e), fun _ => rfl⟩
  · have h4' : ¬ (4000 : Int) < (trn : Int) := by omega
    have KC := Lib.hid (slices_ContainsFunc_i64 (g := 60) (lb := #[.pointer (some ⟨w.heap.size, 0, none⟩)]) (p := fun x => !inB x 0 ((rn : Int) - 1)) (w := w1) (fun _ _ => by kernel_rfl) (fun W x hx hb => impl_FollowTrace_1 (X1.out.keep hb) hrn) (HTR.out.keep hb2) htrn)
    rw [any_not_allIn] at KC
    cases ha : allIn 0 ((rn : Int) - 1) tr with
    | false =>
      have HF := Lib.hid (ft_far (rs := lr.map (·.2)) (st := st) (tr := tr) (by omega) (by rw [HRL.out]; exact ha))
      rw [ha] at KC
      clear ha
      go_wp2_with fail
      refine Calls.mono KC.out ?_
      rintro e w2 ⟨rfl, hb3⟩
      have hb4 := below_callS hb2 hb3
      go_wp2
      go_ret2
      exact ⟨hb4, none, 0, 0, [], by rw [HF.out]; rfl, SRow.nil _ _ _, (fun e => by rw [HF.out] at e; cases e), fun _ => rfl⟩
    | true =>
      have HAL := Lib.hid ha
      rw [ha] at KC
      clear ha
      go_wp2_with fail
      refine Calls.mono KC.out ?_
      rintro e w2 ⟨rfl, hb3⟩
      have hb4 := below_callS hb2 hb3
      have X2 := Lib.hid (X1.out.keep hb3)
      have x1 := X2.out.cell 1
      have xl := X2.out.lt
      simp at x1
      have KT := Lib.hid (slices_Clone_i64 (HT.out.keep hb4) htn)
      have hs2 := hb3.size
      clear hb3 X1 KC
      go_wp2_with fail
      refine Calls.mono KT.out ?_
      rintro e w3 ⟨a3, c3, rfl, hb5, ho3, _⟩
      have hb6 := below_callS hb4 hb5
      have X3 := Lib.hid (X2.out.keep hb5)
      have hs3 := hb5.size
      have SR := Lib.hid (SRow.one (w := w3) (lo := w2.heap.size) (⟨a3, tn, c3⟩, st) ho3 hs3 #[.slice a3 tn c3] rfl)
      have SR := Lib.hid (SR.out.le (show w.heap.size + 1 ≤ w2.heap.size by omega) (show w.heap.size + 1 ≤ w2.heap.size by omega))
      have hb7 : Below w.heap.size w (w3.alloc (.cells #[.slice a3 tn c3] 22)) := by repeat (first | exact Below.refl _ _ | assumption | refine below_allocS ?_ _ | refine below_callS ?_ (by assumption) | (refine Below.alloc ?_ (by first | omega | (simp; done) | (simp; omega)) _) | (refine Below.setCell ?_ (by first | omega | (simp; done) | (simp; omega)) _) | refine Below.drew ?_ | refine below_drewN ?_ _ | (refine below_call ?_ (by assumption) (by first | omega | (simp; done) | (simp; omega))) | (refine Below.trans ?_ (by assumption)))
      have hb8 : Below w3.heap.size w3 (w3.alloc (.cells #[.slice a3 tn c3] 22)) := by repeat (first | exact Below.refl _ _ | assumption | refine below_allocS ?_ _ | refine below_callS ?_ (by assumption) | (refine Below.alloc ?_ (by first | omega | (simp; done) | (simp; omega)) _) | (refine Below.setCell ?_ (by first | omega | (simp; done) | (simp; omega)) _) | refine Below.drew ?_ | refine below_drewN ?_ _ | (refine below_call ?_ (by assumption) (by first | omega | (simp; done) | (simp; omega))) | (refine Below.trans ?_ (by assumption)))
      have X4 := Lib.hid (X3.out.keep hb8)
      have HB := Lib.hid hb7
      clear x1 xl ho3 hb2 hb4 hb5 hb6 hb7 hb8 X2 X3 KT
      go_wp2_with fail
      go_loopw [6, 27] (fun s6 s27 wr => ∃ (j cd : Nat) (ad : Option Addr) (ld : List (QM × List Int)), s6 = .slice ad (j + 1) cd ∧ s27 = .int .i64 j ∧ j ≤ trn ∧ w.heap.size + 1 ≤ wr.heap.size ∧ Hid (Below w.heap.size w wr) ∧ Hid (Blk wr w.heap.size #[.slice sa sn sc, .slice ta tn tc, .slice ra rn rc] 44) ∧ Hid (SRow wr (w.heap.size + 1) (w.heap.size + 1) ad (j + 1) cd ld) ∧ Hid (FolI (lr.map (·.2)) st tr j (ld.map (·.2))) ∧ Hid (∀ x ∈ ld, SV sz x.2)) (fun _ s27 _ => trn - (intOf s27).toNat)
      case atStart => exact ⟨0, 1, _, _, rfl, rfl, by omega, by (try simp); omega, HB, X4, SR, Lib.hid (FolI.start _ _ _), Lib.hid (fun x hx => by simp at hx; subst hx; exact HSV.out)⟩
      case round =>
        clear HB X4 SR
        obtain ⟨j, cd, ad, ld, rfl, rfl, hj, hsr, HB, X, SD, A, V⟩ := hrel
        by_cases hlt : j < trn
        · have hlt' : (j : Int) < (trn : Int) := by omega
          have hj0 : (0 : Int) ≤ (j : Int) := by omega
          obtain ⟨b1, o1, r, rfl, hb1, hr, hrc, hr64⟩ := (HTR.out.keep HB.out).at hlt
          have hrr := allIn_at HAL.out hr
          obtain ⟨q, rfl⟩ := Int.eq_ofNat_of_zero_le hrr.1
          have hqn : q < rn := by omega
          have hqn' : (q : Int) < (rn : Int) := by omega
          have hq0 : (0 : Int) ≤ (q : Int) := by omega
          obtain ⟨br, or', R2, r2, rfl, hbr2, hxr, hru2, d0, d1, d2⟩ := FR.get (w0 := w) (Flats.keep HR.out HB.out) hqn
          have hrq : (lr.map (·.2))[q]? = some r2 := by rw [List.getElem?_map, hxr]; rfl
          have hgd := getD_ru hrq
          obtain ⟨bl, ol, R, v, rfl, hbl, hlv, hov, e0⟩ := SD.out.get (show j < j + 1 by omega)
          have hlv2 : (ld.map (·.2))[j]? = some v := by rw [List.getElem?_map, hlv]; rfl
          have hSV := V.out _ (List.mem_of_getElem? hlv)
          simp only at hSV
          have hvl : v.length = R.n := hov.ints.len
          have hRn : R.n = tn := by rw [← hvl, hSV.1, HSZ.out]
          have hruv := HRU.out r2 (List.mem_of_getElem? hrq)
          obtain ⟨hru_a, hru_b, hru_c, hru_d, hru_e, hru_f⟩ := hru2
          have hsl : sz.length = R.n := by rw [hRn]; exact HSZ.out
          have KH := Lib.hid (fun (wx : World) (hx : Below wr.heap.size wr wx) => impl_holds (hov.ints.keep hx) ((hru_c.keep HB.out).keep hx) hru_d (fun t ht => by have := hruv.1 t ht; rw [hsl] at this; exact this))
          have KA := Lib.hid (fun (wx : World) (hx : Below wr.heap.size wr wx) => impl_apply (ga := R2.ga) (gn := R2.gn) (gc := R2.gc) (nm := R2.nm) ((hru_e.keep HB.out).keep hx) hru_f (hov.ints.keep hx) (by omega) (fun a ha => by have := hruv.2 a ha; rw [hsl] at this; exact ⟨this.1, this.2.1⟩))
          have hSV2 : SV sz (applyP v r2.e) := sv_apply hSV fun a ha z hz => (hruv.2 a ha).2.2 z hz
          have HSV2 := Lib.hid hSV2
          have HLV := Lib.hid hlv2
          have HRR := Lib.hid hr
          have HGD := Lib.hid hgd
          have x2 := X.out.cell 2
          have xl := X.out.lt
          simp at x2
          have hbr : Below wr.heap.size wr wr := Below.refl _ _
          have hjj : (j : Int) < (j : Int) + 1 := by omega
          clear hRn hr hr64 hrr hxr hrq hgd hlv hlv2 hov hSV hvl hruv hru_a hru_b hru_c hru_d hru_e hru_f hsl hSV2
          cases hh : holdsP v r2.g with
          | false =>
            have HH := Lib.hid hh
            rw [hh] at KH
            have hfl := A.out.fail HLV.out HRR.out (by rw [Int.toNat_natCast, HGD.out]; exact hh)
            have HF := Lib.hid (ft_no (rs := lr.map (·.2)) (st := st) (tr := tr) (by omega) (by rw [HRL.out]; exact HAL.out) hfl)
            clear hh hfl
            go_wp2_with fail
            go_region_held3 (fun wx => wx.cell? ⟨w.heap.size, 2, none⟩ = some (.slice (some ⟨br, or', none⟩) rn rc) ∧ wx.cell? ⟨br, or' + q * 3 + 1, none⟩ = some (.slice R2.ga R2.gn R2.gc) ∧ wx.cell? ⟨bl, ol + j, none⟩ = some (.slice R.a R.n R.c) ∧ w.heap.size < wx.heap.size ∧ br < wx.heap.size ∧ bl < wx.heap.size ∧ Below wr.heap.size wr wx) (((try go_split_ands); (repeat' apply And.intro) <;> first | (with_reducible assumption) | (with_reducible exact cell_drew (by with_reducible assumption)) | (with_reducible exact lt_drew (by with_reducible assumption)) | (with_reducible exact Below.drew (by with_reducible assumption)) | (with_reducible exact (hcx _ _ (by with_reducible assumption)).trans (by with_reducible assumption)) | (with_reducible exact Nat.lt_of_lt_of_le (by with_reducible assumption) hsx) | (with_reducible exact below_callS (by with_reducible assumption) hbx) | omega)) (first | (go_at_call 64; go_split_ands; refine Calls.mono (KH.out _ (by assumption)) ?_; rintro e w6 ⟨rfl, hbx⟩; obtain ⟨hcx, hfx⟩ := bcell hbx; have hsx := hbx.size))
            have hb7 : Below wr.heap.size wr w6 := by go_split_ands; assumption
            have hb8 := HB.out.trans (hb7.mono (show w.heap.size ≤ wr.heap.size by omega))
            clear hb7 hbx hcx hfx hsx hbr KH KA d0 d1 d2 e0 x2 xl hrc
            go_split_ands
            go_wp2
            go_ret2
            exact ⟨hb8, none, 0, 0, [], by rw [HF.out]; rfl, SRow.nil _ _ _, (fun e => by rw [HF.out] at e; cases e), fun _ => rfl⟩
          | true =>
            have HH := Lib.hid hh
            rw [hh] at KH
            have hst := A.out.step HLV.out HRR.out (by rw [Int.toNat_natCast, HGD.out]; exact hh)
            rw [Int.toNat_natCast, HGD.out] at hst
            have HST := Lib.hid hst
            clear hh hst
            go_wp2_with fail
            go_region_held3 (fun wx => wx.cell? ⟨w.heap.size, 2, none⟩ = some (.slice (some ⟨br, or', none⟩) rn rc) ∧ wx.cell? ⟨br, or' + q * 3 + 1, none⟩ = some (.slice R2.ga R2.gn R2.gc) ∧ wx.cell? ⟨bl, ol + j, none⟩ = some (.slice R.a R.n R.c) ∧ w.heap.size < wx.heap.size ∧ br < wx.heap.size ∧ bl < wx.heap.size ∧ Below wr.heap.size wr wx) (((try go_split_ands); (repeat' apply And.intro) <;> first | (with_reducible assumption) | (with_reducible exact cell_drew (by with_reducible assumption)) | (with_reducible exact lt_drew (by with_reducible assumption)) | (with_reducible exact Below.drew (by with_reducible assumption)) | (with_reducible exact (hcx _ _ (by with_reducible assumption)).trans (by with_reducible assumption)) | (with_reducible exact Nat.lt_of_lt_of_le (by with_reducible assumption) hsx) | (with_reducible exact below_callS (by with_reducible assumption) hbx) | omega)) (first | (go_at_call 64; go_split_ands; refine Calls.mono (KH.out _ (by assumption)) ?_; rintro e w6 ⟨rfl, hbx⟩; obtain ⟨hcx, hfx⟩ := bcell hbx; have hsx := hbx.size))
            have hb7 : Below wr.heap.size wr w6 := by go_split_ands; assumption
            have hs7 := hb7.size
            have HB7 := Lib.hid (HB.out.trans (hb7.mono (show w.heap.size ≤ wr.heap.size by omega)))
            have HBR := Lib.hid hb7
            have X7 := Lib.hid (X.out.keep hb7)
            have SD7 := Lib.hid (SD.out.keep hb7)
            have hc7 := (bcell hb7).1
            replace x2 := (hc7 _ _ xl).trans x2
            replace d0 := (hc7 _ _ hbr2).trans d0
            replace d1 := (hc7 _ _ hbr2).trans d1
            replace d2 := (hc7 _ _ hbr2).trans d2
            replace e0 := (hc7 _ _ hbl).trans e0
            replace xl := Nat.lt_of_lt_of_le xl hs7
            replace hbr2 := Nat.lt_of_lt_of_le hbr2 hs7
            replace hbl := Nat.lt_of_lt_of_le hbl hs7
            clear hb7 hbx hcx hfx hsx hbr KH hc7 X SD HB A
            go_split_ands
            go_wp2_with fail
            refine wp_region_noPanic ?_
            refine wp_region_M (L := 12) (S := fun wx => Below w6.heap.size w6 wx) (by kernel_rfl) ?_ (fun hHeld => ?_)
            · exact (Below.refl _ _).drew
            refine wpAnyM_take (i := 0) (v := ?_) (by simp only [List.getElem?_toArray, List.getElem?_cons_succ, List.getElem?_cons_zero] <;> rfl) (by kernel_rfl) (by kernel_rfl) (by kernel_rfl) (by kernel_rfl) (by kernel_rfl) (fun _ _ _ h => h) (Or.inl ⟨by rfl, ?_⟩) (by assumption) ?_
            rotate_left
            · (intro wv hSw; (try dsimp only at hSw); obtain ⟨hcq, _⟩ := bcell hSw; have hsq := Below.size hSw; go_simp; try with_reducible rfl)
            try simp only [Act.put, List.setIfInBounds_toArray, List.set_cons_zero, List.set_cons_succ]
            refine wpAnyM_take (i := 1) (v := ?_) (by simp only [List.getElem?_toArray, List.getElem?_cons_succ, List.getElem?_cons_zero] <;> rfl) (by kernel_rfl) (by kernel_rfl) (by kernel_rfl) (by kernel_rfl) (by kernel_rfl) (fun _ _ _ h => h) (Or.inl ⟨by rfl, ?_⟩) (by assumption) ?_
            rotate_left
            · (intro wv hSw; (try dsimp only at hSw); obtain ⟨hcq, _⟩ := bcell hSw; have hsq := Below.size hSw; go_simp; try with_reducible rfl)
            try simp only [Act.put, List.setIfInBounds_toArray, List.set_cons_zero, List.set_cons_succ]
            refine wpAnyM_take (i := 2) (v := ?_) (by simp only [List.getElem?_toArray, List.getElem?_cons_succ, List.getElem?_cons_zero] <;> rfl) (by kernel_rfl) (by kernel_rfl) (by kernel_rfl) (by kernel_rfl) (by kernel_rfl) (fun _ _ _ h => h) (Or.inl ⟨by rfl, ?_⟩) (by assumption) ?_
            rotate_left
            · (intro wv hSw; (try dsimp only at hSw); obtain ⟨hcq, _⟩ := bcell hSw; have hsq := Below.size hSw; have p2 := (hcq _ _ xl).trans x2; have pl := Nat.lt_of_lt_of_le xl hsq; go_simp; try with_reducible rfl)
            try simp only [Act.put, List.setIfInBounds_toArray, List.set_cons_zero, List.set_cons_succ]
            refine wpAnyM_take (i := 3) (v := ?_) (by simp only [List.getElem?_toArray, List.getElem?_cons_succ, List.getElem?_cons_zero] <;> rfl) (by kernel_rfl) (by kernel_rfl) (by kernel_rfl) (by kernel_rfl) (by kernel_rfl) (fun _ _ _ h => h) (Or.inl ⟨by rfl, ?_⟩) (by assumption) ?_
            rotate_left
            · (intro wv hSw; (try dsimp only at hSw); obtain ⟨hcq, _⟩ := bcell hSw; have hsq := Below.size hSw; go_simp; try with_reducible rfl)
            try simp only [Act.put, List.setIfInBounds_toArray, List.set_cons_zero, List.set_cons_succ]
            refine wpAnyM_take (i := 4) (v := ?_) (by simp only [List.getElem?_toArray, List.getElem?_cons_succ, List.getElem?_cons_zero] <;> rfl) (by kernel_rfl) (by kernel_rfl) (by kernel_rfl) (by kernel_rfl) (by kernel_rfl) (fun _ _ _ h => h) (Or.inl ⟨by rfl, ?_⟩) (by assumption) ?_
            rotate_left
            · (intro wv hSw; (try dsimp only at hSw); obtain ⟨hcq, _⟩ := bcell hSw; have hsq := Below.size hSw; go_simp; try with_reducible rfl)
            try simp only [Act.put, List.setIfInBounds_toArray, List.set_cons_zero, List.set_cons_succ]
            refine wpAnyM_take (i := 5) (v := ?_) (by simp only [List.getElem?_toArray, List.getElem?_cons_succ, List.getElem?_cons_zero] <;> rfl) (by kernel_rfl) (by kernel_rfl) (by kernel_rfl) (by kernel_rfl) (by kernel_rfl) (fun _ _ _ h => h) (Or.inl ⟨by rfl, ?_⟩) (by assumption) ?_
            rotate_left
            · (intro wv hSw; (try dsimp only at hSw); obtain ⟨hcq, _⟩ := bcell hSw; have hsq := Below.size hSw; have p0 := (hcq _ _ hbr2).trans d0; have p1 := (hcq _ _ hbr2).trans d1; have p2 := (hcq _ _ hbr2).trans d2; have pl := Nat.lt_of_lt_of_le hbr2 hsq; go_simp; try with_reducible rfl)
            try simp only [Act.put, List.setIfInBounds_toArray, List.set_cons_zero, List.set_cons_succ]
            refine wpAnyM_take (i := 6) (v := ?_) (by simp only [List.getElem?_toArray, List.getElem?_cons_succ, List.getElem?_cons_zero] <;> rfl) (by kernel_rfl) (by kernel_rfl) (by kernel_rfl) (by kernel_rfl) (by kernel_rfl) (fun _ _ _ h => h) (Or.inl ⟨by rfl, ?_⟩) (by assumption) ?_
            rotate_left
            · (intro wv hSw; (try dsimp only at hSw); obtain ⟨hcq, _⟩ := bcell hSw; have hsq := Below.size hSw; go_simp; try with_reducible rfl)
            try simp only [Act.put, List.setIfInBounds_toArray, List.set_cons_zero, List.set_cons_succ]
            refine wpAnyM_take (i := 7) (v := ?_) (by simp only [List.getElem?_toArray, List.getElem?_cons_succ, List.getElem?_cons_zero] <;> rfl) (by kernel_rfl) (by kernel_rfl) (by kernel_rfl) (by kernel_rfl) (by kernel_rfl) (fun _ _ _ h => h) (Or.inl ⟨by rfl, ?_⟩) (by assumption) ?_
            rotate_left
            · (intro wv hSw; (try dsimp only at hSw); obtain ⟨hcq, _⟩ := bcell hSw; have hsq := Below.size hSw; go_simp; try with_reducible rfl)
            try simp only [Act.put, List.setIfInBounds_toArray, List.set_cons_zero, List.set_cons_succ]
            refine wpAnyM_take (i := 8) (v := ?_) (by simp only [List.getElem?_toArray, List.getElem?_cons_succ, List.getElem?_cons_zero] <;> rfl) (by kernel_rfl) (by kernel_rfl) (by kernel_rfl) (by kernel_rfl) (by kernel_rfl) (fun _ _ _ h => h) (Or.inl ⟨by rfl, ?_⟩) (by assumption) ?_
            rotate_left
            · (intro wv hSw; (try dsimp only at hSw); obtain ⟨hcq, _⟩ := bcell hSw; have hsq := Below.size hSw; go_simp; try with_reducible rfl)
            try simp only [Act.put, List.setIfInBounds_toArray, List.set_cons_zero, List.set_cons_succ]
            refine wpAnyM_take (i := 9) (v := ?_) (by simp only [List.getElem?_toArray, List.getElem?_cons_succ, List.getElem?_cons_zero] <;> rfl) (by kernel_rfl) (by kernel_rfl) (by kernel_rfl) (by kernel_rfl) (by kernel_rfl) (fun _ _ _ h => h) (Or.inl ⟨by rfl, ?_⟩) (by assumption) ?_
            rotate_left
            · (intro wv hSw; (try dsimp only at hSw); obtain ⟨hcq, _⟩ := bcell hSw; have hsq := Below.size hSw; have p0 := (hcq _ _ hbl).trans e0; have pl := Nat.lt_of_lt_of_le hbl hsq; go_simp; try with_reducible rfl)
            try simp only [Act.put, List.setIfInBounds_toArray, List.set_cons_zero, List.set_cons_succ]
            refine wpAnyM_ready (rs := [10]) (by kernel_rfl) (by simp) ?_
            refine AllReadyM.cons rfl (fun K hK => ?_) AllReadyM.nil
            go_simp
            refine Calls.mono (KA.out _ HBR.out.drew) ?_
            rintro e w7 ⟨a7, c7, rfl, ho7, hb7⟩
            have hb8 : Below w6.heap.size w6 w7 := below_callS ((Below.refl _ _).drew) hb7
            have hs8 := hb8.size
            have SD8 := Lib.hid (SD7.out.keep hb8)
            have X8 := Lib.hid (X7.out.keep hb8)
            have HB8 := Lib.hid (HB7.out.trans (hb8.mono (show w.heap.size ≤ w6.heap.size by omega)))
            have O7 := Lib.hid (ho7.le (show w.heap.size + 1 ≤ w6.drew.heap.size by show _ ≤ w6.heap.size; omega))
            clear ho7 hb7
            go_wp2_with fail
            refine hK.out _ _ hb8 (fun hHeld => ?_)
            clear hK K
            try simp only [Act.put, List.setIfInBounds_toArray, List.set_cons_zero, List.set_cons_succ]
            refine wpAnyM_ready (rs := [11]) (by kernel_rfl) (by simp) ?_
            refine AllReadyM.cons rfl (fun K hK => ?_) AllReadyM.nil
            go_simp
            have hbA : Below w7.heap.size w7 (w7.alloc (.cells #[.slice a7 R.n c7] 22)) := by repeat (first | exact Below.refl _ _ | assumption | refine below_allocS ?_ _ | refine below_callS ?_ (by assumption) | (refine Below.alloc ?_ (by first | omega | (simp; done) | (simp; omega)) _) | (refine Below.setCell ?_ (by first | omega | (simp; done) | (simp; omega)) _) | refine Below.drew ?_ | refine below_drewN ?_ _ | (refine below_call ?_ (by assumption) (by first | omega | (simp; done) | (simp; omega))) | (refine Below.trans ?_ (by assumption)))
            refine hK.out _ _ (below_callS hb8 hbA) (fun hHeld => ?_)
            clear hK K
            try simp only [Act.put, List.setIfInBounds_toArray, List.set_cons_zero, List.set_cons_succ]
            refine wpAnyM_ready (rs := [12]) (by kernel_rfl) (by simp) ?_
            refine AllReadyM.last rfl (fun K hK => ?_)
            refine wp_appS _ _ rfl (w.heap.size + 1) (w.heap.size + 1) (some ⟨bl, ol, none⟩) (j + 1) cd ld (SD8.out.keep hbA) rfl _ rfl (⟨a7, R.n, c7⟩, applyP v r2.e) (Blk.made _ _ _) (O7.out.keep hbA) (by omega) (by (try simp); omega) ?_
            intro g' c' w8 h1 h2
            have SD9 := Lib.hid h1
            have X9 := Lib.hid ((X8.out.keep hbA).keepB h2 (by omega))
            have HB9 := Lib.hid ((HB8.out.trans (hbA.mono (show w.heap.size ≤ w7.heap.size by omega))).trans (h2.mono (Nat.le_succ _)))
            have hs9 := h2.size
            simp at hs9
            clear h1 h2 hbA SD8 X8 HB8 O7 SD7 X7 HB7 HBR KA
            refine hK.out _ _ ?_
            clear hK K
            try simp only [Act.put, List.setIfInBounds_toArray, List.set_cons_zero, List.set_cons_succ]
            refine wpAnyM_ready (rs := [13]) (by kernel_rfl) (by simp) ?_
            refine AllReadyM.then (by kernel_rfl) rfl (fun K hK => ?_)
            go_simp
            refine hK.out _ _ ?_
            clear hK K
            try simp only [Act.put, List.setIfInBounds_toArray, List.set_cons_zero, List.set_cons_succ]
            refine wpAnyM_done (by kernel_rfl) ?_ _
            refine NoPanic.normal ?_
            go_wp2
            go_roundw
            case rel => exact ⟨j + 1, c', _, ld ++ [(⟨a7, R.n, c7⟩, applyP v r2.e)], by go_num, by go_num, by omega, by omega, HB9, X9, SD9, Lib.hid (by rw [List.map_append]; exact HST.out), Lib.hid (fun x hx => by
              rcases List.mem_append.1 hx with hx | hx
              · exact V.out x hx
              · simp at hx; subst hx; exact HSV2.out)⟩
            case measure => simp [intOf]; omega
        · obtain rfl : trn = j := by omega
          have hlt' : ¬ (trn : Int) < (trn : Int) := by omega
          have hdn := A.out.done hTL
          have HF := Lib.hid (ft_yes (rs := lr.map (·.2)) (st := st) (tr := tr) (by omega) (by rw [HRL.out]; exact HAL.out) hdn)
          have HD := Lib.hid hdn
          clear hdn
          go_wp2
          go_ret2
          exact ⟨HB.out, _, _, _, ld, by rw [HF.out]; rfl, SD.out.le (Nat.le_succ _) (Nat.le_succ _), fun _ => HD.out, fun e => absurd HF.out e⟩
end Go.Proofs.YtfnamjkmkoldeaaGreatDoor
namespace Go.Proofs.YtfnamjkmkoldeaaGreatDoor
open Go.RowKit
set_option linter.unusedVariables false
set_option linter.unusedSimpArgs false
theorem allIn_stop {lo hi : Int} {l : List Int} {k : Nat} {x : Int} (h : l[k]? = some x) (hx : inB x lo hi = false) : allIn lo hi l = false := by
  rw [allIn]; exact all_take_false h hx
theorem allIn_more {lo hi : Int} {l : List Int} {k : Nat} {x : Int} (h : l[k]? = some x) (hl : allIn lo hi (l.take k) = true) (hx : inB x lo hi = true) : allIn lo hi (l.take (k + 1)) = true := by
  rw [allIn] at hl ⊢; exact all_take_step h hl hx
set_option maxRecDepth 100000 in
set_option maxHeartbeats 8000000 in
theorem spec_FollowTrace {sa ta ra tra : Option Addr} {sn sc tn tc rn rc trn trc : Nat} {sz st tr : List Int} {lr : List (RM × RuD)} {w : World} (hS : Ints w sa sn sc sz) (hT : Ints w ta tn tc st) (hR : FR w w ra rn rc lr) (hsn : sn ≤ 1048576) (htn : tn ≤ 1048576) (hrn : rn ≤ 1048576) (hm : modelB sz st lr = true) (hTr : Ints w tra trn trc tr) (htrn : trn ≤ 1048576) :
    Calls Tryz.prog 28 #[.agg #[.slice sa sn sc, .slice ta tn tc, .slice ra rn rc], .slice tra trn trc] w (FtRet w (ftC (lr.map (·.2)) st tr) (folP (lr.map (·.2)) st tr)) := by
  have K1 := Lib.hid (fun (wx : World) (hb : Below w.heap.size w wx) => spec_IsModel (hS.keep hb) hsn (hT.keep hb) htn (FR.keep hR hb hb) hrn)
  rw [hm] at K1
  obtain ⟨g1, g2, g3, g4, g5, g6⟩ := model_gives hm
  have hrl : (lr.map (·.2)).length = rn := by rw [List.length_map]; exact hR.len
  have hrl2 : rn ≤ 200 := by rw [← hrl, List.length_map]; exact g5
  have htl : tn ≤ 16 := by rw [← hT.len, g2.1]; exact g4
  have hszl : sz.length = tn := by rw [← hT.len, g2.1]
  have HSV := Lib.hid g2
  have HRU := Lib.hid g3
  have HRL := Lib.hid hrl
  have HSZ := Lib.hid hszl
  have HTR := Lib.hid hTr
  have HR := Lib.hid hR
  have HT := Lib.hid hT
  have hTL := hTr.len
  have i1 : IntKind.i64.wrap ((rn : Int) - 1) = (rn : Int) - 1 := IntWalk.i64_in _ (by omega)
  have X := Lib.hid (Blk.made w #[.slice sa sn sc, .slice ta tn tc, .slice ra rn rc] 44)
  have hbA : Below w.heap.size w (w.alloc (.cells #[.slice sa sn sc, .slice ta tn tc, .slice ra rn rc] 44)) := by repeat (first | exact Below.refl _ _ | assumption | refine below_allocS ?_ _ | refine below_callS ?_ (by assumption) | (refine Below.alloc ?_ (by first | omega | (simp; done) | (simp; omega)) _) | (refine Below.setCell ?_ (by first | omega | (simp; done) | (simp; omega)) _) | refine Below.drew ?_ | refine below_drewN ?_ _ | (refine below_call ?_ (by assumption) (by first | omega | (simp; done) | (simp; omega))) | (refine Below.trans ?_ (by assumption)))
  clear hS hT hR hTr hm g1 g2 g3 g4 g5 g6 hrl hszl
  go_enter Tryz.func28, Tryz.ntmps28
  go_wp2_with fail
  refine Calls.mono (K1.out _ hbA) ?_
  rintro e w1 ⟨rfl, hb1⟩
  have hb2 := below_callS hbA hb1
  have X1 := Lib.hid (X.out.keep hb1)
  have hs1 := hb1.size
  simp at hs1
  have HB1 := Lib.hid hb2
  clear hb1 hbA X K1
  by_cases h4 : 4000 < trn
  · have HF := Lib.hid (ft_long (rs := lr.map (·.2)) (st := st) (tr := tr) (by omega))
    have h4' : (4000 : Int) < (trn : Int) := by omega
    go_wp2
    go_ret2
    exact ⟨hb2, none, 0, 0, [], by rw [HF.out]; rfl, SRow.nil _ _ _, (fun e => by rw [HF.out] at e; cases e), fun _ => rfl⟩
  · have h4' : ¬ (4000 : Int) < (trn : Int) := by omega
    clear hb2
    go_wp2_with fail
    go_loopw [6] (fun s6 wr => ∃ j : Nat, s6 = .int .i64 j ∧ j ≤ trn ∧ w.heap.size + 1 ≤ wr.heap.size ∧ Hid (Below w.heap.size w wr) ∧ Hid (Blk wr w.heap.size #[.slice sa sn sc, .slice ta tn tc, .slice ra rn rc] 44) ∧ Hid (allIn 0 ((rn : Int) - 1) (tr.take j) = true)) (fun s6 _ => trn - (intOf s6).toNat)
    case atStart => exact ⟨0, rfl, by omega, by omega, HB1, X1, Lib.hid rfl⟩
    case round =>
      clear HB1 X1
      obtain ⟨j, rfl, hj, hsr, HB, X, A⟩ := hrel
      by_cases hlt : j < trn
      · have hlt' : (j : Int) < (trn : Int) := by omega
        have hj0 : (0 : Int) ≤ (j : Int) := by omega
        obtain ⟨b1, o1, r, rfl, hb1, hr, hrc, hr64⟩ := (HTR.out.keep HB.out).at hlt
        have x2 := X.out.cell 2
        have xl := X.out.lt
        simp at x2
        have HRR := Lib.hid hr
        clear hr
        cases hin : inB r 0 ((rn : Int) - 1) with
        | false =>
          have HF := Lib.hid (ft_far (rs := lr.map (·.2)) (st := st) (tr := tr) (by omega) (by rw [HRL.out]; exact allIn_stop HRR.out hin))
          have KI := Lib.hid (fun (wx : World) => (show Calls Tryz.prog 72 #[.int .i64 r, .int .i64 0, .int .i64 ((rn : Int) - 1)] wx fun e w' => e = .returned (.bool false) ∧ wx = w' from (spec_l01In (x := r) (lo := 0) (hi := (rn : Int) - 1)).mono fun e w' ⟨h1, h2⟩ => ⟨by rw [h1, hin], h2⟩))
          clear hin
          go_wp2_with fail
          refine wp_region_noPanic ?_
          refine wp_region_M (L := 9) (S := fun wx => Below wr.heap.size wr wx) (by kernel_rfl) ?_ (fun hHeld => ?_)
          · exact (Below.refl _ _).drew
          refine wpAnyM_take (i := 0) (v := ?_) (by simp only [List.getElem?_toArray, List.getElem?_cons_succ, List.getElem?_cons_zero] <;> rfl) (by kernel_rfl) (by kernel_rfl) (by kernel_rfl) (by kernel_rfl) (by kernel_rfl) (fun _ _ _ h => h) (Or.inl ⟨by rfl, ?_⟩) (by assumption) ?_
          rotate_left
          · (intro wv hSw; (try dsimp only at hSw); obtain ⟨hcq, _⟩ := bcell hSw; have hsq := Below.size hSw; go_simp; try with_reducible rfl)
          try simp only [Act.put, List.setIfInBounds_toArray, List.set_cons_zero, List.set_cons_succ]
          refine wpAnyM_take (i := 1) (v := ?_) (by simp only [List.getElem?_toArray, List.getElem?_cons_succ, List.getElem?_cons_zero] <;> rfl) (by kernel_rfl) (by kernel_rfl) (by kernel_rfl) (by kernel_rfl) (by kernel_rfl) (fun _ _ _ h => h) (Or.inl ⟨by rfl, ?_⟩) (by assumption) ?_
          rotate_left
          · (intro wv hSw; (try dsimp only at hSw); obtain ⟨hcq, _⟩ := bcell hSw; have hsq := Below.size hSw; go_simp; try with_reducible rfl)
          try simp only [Act.put, List.setIfInBounds_toArray, List.set_cons_zero, List.set_cons_succ]
          refine wpAnyM_take (i := 2) (v := ?_) (by simp only [List.getElem?_toArray, List.getElem?_cons_succ, List.getElem?_cons_zero] <;> rfl) (by kernel_rfl) (by kernel_rfl) (by kernel_rfl) (by kernel_rfl) (by kernel_rfl) (fun _ _ _ h => h) (Or.inl ⟨by rfl, ?_⟩) (by assumption) ?_
          rotate_left
          · (intro wv hSw; (try dsimp only at hSw); obtain ⟨hcq, _⟩ := bcell hSw; have hsq := Below.size hSw; go_simp; try with_reducible rfl)
          try simp only [Act.put, List.setIfInBounds_toArray, List.set_cons_zero, List.set_cons_succ]
          refine wpAnyM_take (i := 3) (v := ?_) (by simp only [List.getElem?_toArray, List.getElem?_cons_succ, List.getElem?_cons_zero] <;> rfl) (by kernel_rfl) (by kernel_rfl) (by kernel_rfl) (by kernel_rfl) (by kernel_rfl) (fun _ _ _ h => h) (Or.inl ⟨by rfl, ?_⟩) (by assumption) ?_
          rotate_left
          · (intro wv hSw; (try dsimp only at hSw); obtain ⟨hcq, _⟩ := bcell hSw; have hsq := Below.size hSw; have p0 := (hcq _ _ hb1).trans hrc; have pl := Nat.lt_of_lt_of_le hb1 hsq; go_simp; try with_reducible rfl)
          try simp only [Act.put, List.setIfInBounds_toArray, List.set_cons_zero, List.set_cons_succ]
          refine wpAnyM_take (i := 4) (v := ?_) (by simp only [List.getElem?_toArray, List.getElem?_cons_succ, List.getElem?_cons_zero] <;> rfl) (by kernel_rfl) (by kernel_rfl) (by kernel_rfl) (by kernel_rfl) (by kernel_rfl) (fun _ _ _ h => h) (Or.inl ⟨by rfl, ?_⟩) (by assumption) ?_
          rotate_left
          · (intro wv hSw; (try dsimp only at hSw); obtain ⟨hcq, _⟩ := bcell hSw; have hsq := Below.size hSw; go_simp; try with_reducible rfl)
          try simp only [Act.put, List.setIfInBounds_toArray, List.set_cons_zero, List.set_cons_succ]
          refine wpAnyM_take (i := 5) (v := ?_) (by simp only [List.getElem?_toArray, List.getElem?_cons_succ, List.getElem?_cons_zero] <;> rfl) (by kernel_rfl) (by kernel_rfl) (by kernel_rfl) (by kernel_rfl) (by kernel_rfl) (fun _ _ _ h => h) (Or.inl ⟨by rfl, ?_⟩) (by assumption) ?_
          rotate_left
          · (intro wv hSw; (try dsimp only at hSw); obtain ⟨hcq, _⟩ := bcell hSw; have hsq := Below.size hSw; have p0 := (hcq _ _ xl).trans x2; have pl := Nat.lt_of_lt_of_le xl hsq; go_simp; try with_reducible rfl)
          try simp only [Act.put, List.setIfInBounds_toArray, List.set_cons_zero, List.set_cons_succ]
          refine wpAnyM_take (i := 6) (v := ?_) (by simp only [List.getElem?_toArray, List.getElem?_cons_succ, List.getElem?_cons_zero] <;> rfl) (by kernel_rfl) (by kernel_rfl) (by kernel_rfl) (by kernel_rfl) (by kernel_rfl) (fun _ _ _ h => h) (Or.inl ⟨by rfl, ?_⟩) (by assumption) ?_
          rotate_left
          · (intro wv hSw; (try dsimp only at hSw); obtain ⟨hcq, _⟩ := bcell hSw; have hsq := Below.size hSw; go_simp; try with_reducible rfl)
          try simp only [Act.put, List.setIfInBounds_toArray, List.set_cons_zero, List.set_cons_succ]
          refine wpAnyM_take (i := 7) (v := ?_) (by simp only [List.getElem?_toArray, List.getElem?_cons_succ, List.getElem?_cons_zero] <;> rfl) (by kernel_rfl) (by kernel_rfl) (by kernel_rfl) (by kernel_rfl) (by kernel_rfl) (fun _ _ _ h => h) (Or.inl ⟨by rfl, ?_⟩) (by assumption) ?_
          rotate_left
          · (intro wv hSw; (try dsimp only at hSw); obtain ⟨hcq, _⟩ := bcell hSw; have hsq := Below.size hSw; go_simp; try with_reducible rfl)
          try simp only [Act.put, List.setIfInBounds_toArray, List.set_cons_zero, List.set_cons_succ]
          try simp only [i1]
          refine wpAnyM_ready (rs := [8]) (by kernel_rfl) (by simp) ?_
          refine AllReadyM.cons rfl (fun K hK => ?_) AllReadyM.nil
          go_simp
          refine Calls.mono (KI.out _) ?_
          rintro e _ ⟨rfl, rfl⟩
          go_wp2_with fail
          refine hK.out _ _ hHeld (fun hHeld => ?_)
          clear hK K
          try simp only [Act.put, List.setIfInBounds_toArray, List.set_cons_zero, List.set_cons_succ]
          refine wpAnyM_ready (rs := [9]) (by kernel_rfl) (by simp) ?_
          refine AllReadyM.last rfl (fun K hK => ?_)
          go_simp
          refine hK.out _ _ ?_
          clear hK K
          try simp only [Act.put, List.setIfInBounds_toArray, List.set_cons_zero, List.set_cons_succ]
          refine wpAnyM_done (by kernel_rfl) ?_ _
          refine NoPanic.normal ?_
          have hbe := below_call HB.out hHeld HB.out.size
          clear hHeld hrc x2 xl
          go_wp2
          go_ret2
          exact ⟨hbe, none, 0, 0, [], by rw [HF.out]; rfl, SRow.nil _ _ _, (fun e => by rw [HF.out] at e; cases e), fun _ => rfl⟩
        | true =>
          have HA := Lib.hid (allIn_more HRR.out A.out hin)
          have KI := Lib.hid (fun (wx : World) => (show Calls Tryz.prog 72 #[.int .i64 r, .int .i64 0, .int .i64 ((rn : Int) - 1)] wx fun e w' => e = .returned (.bool true) ∧ wx = w' from (spec_l01In (x := r) (lo := 0) (hi := (rn : Int) - 1)).mono fun e w' ⟨h1, h2⟩ => ⟨by rw [h1, hin], h2⟩))
          clear hin
          go_wp2_with fail
          refine wp_region_noPanic ?_
          refine wp_region_M (L := 9) (S := fun wx => Below wr.heap.size wr wx) (by kernel_rfl) ?_ (fun hHeld => ?_)
          · exact (Below.refl _ _).drew
          refine wpAnyM_take (i := 0) (v := ?_) (by simp only [List.getElem?_toArray, List.getElem?_cons_succ, List.getElem?_cons_zero] <;> rfl) (by kernel_rfl) (by kernel_rfl) (by kernel_rfl) (by kernel_rfl) (by kernel_rfl) (fun _ _ _ h => h) (Or.inl ⟨by rfl, ?_⟩) (by assumption) ?_
          rotate_left
          · (intro wv hSw; (try dsimp only at hSw); obtain ⟨hcq, _⟩ := bcell hSw; have hsq := Below.size hSw; go_simp; try with_reducible rfl)
          try simp only [Act.put, List.setIfInBounds_toArray, List.set_cons_zero, List.set_cons_succ]
          refine wpAnyM_take (i := 1) (v := ?_) (by simp only [List.getElem?_toArray, List.getElem?_cons_succ, List.getElem?_cons_zero] <;> rfl) (by kernel_rfl) (by kernel_rfl) (by kernel_rfl) (by kernel_rfl) (by kernel_rfl) (fun _ _ _ h => h) (Or.inl ⟨by rfl, ?_⟩) (by assumption) ?_
          rotate_left
          · (intro wv hSw; (try dsimp only at hSw); obtain ⟨hcq, _⟩ := bcell hSw; have hsq := Below.size hSw; go_simp; try with_reducible rfl)
          try simp only [Act.put, List.setIfInBounds_toArray, List.set_cons_zero, List.set_cons_succ]
          refine wpAnyM_take (i := 2) (v := ?_) (by simp only [List.getElem?_toArray, List.getElem?_cons_succ, List.getElem?_cons_zero] <;> rfl) (by kernel_rfl) (by kernel_rfl) (by kernel_rfl) (by kernel_rfl) (by kernel_rfl) (fun _ _ _ h => h) (Or.inl ⟨by rfl, ?_⟩) (by assumption) ?_
          rotate_left
          · (intro wv hSw; (try dsimp only at hSw); obtain ⟨hcq, _⟩ := bcell hSw; have hsq := Below.size hSw; go_simp; try with_reducible rfl)
          try simp only [Act.put, List.setIfInBounds_toArray, List.set_cons_zero, List.set_cons_succ]
          refine wpAnyM_take (i := 3) (v := ?_) (by simp only [List.getElem?_toArray, List.getElem?_cons_succ, List.getElem?_cons_zero] <;> rfl) (by kernel_rfl) (by kernel_rfl) (by kernel_rfl) (by kernel_rfl) (by kernel_rfl) (fun _ _ _ h => h) (Or.inl ⟨by rfl, ?_⟩) (by assumption) ?_
          rotate_left
          · (intro wv hSw; (try dsimp only at hSw); obtain ⟨hcq, _⟩ := bcell hSw; have hsq := Below.size hSw; have p0 := (hcq _ _ hb1).trans hrc; have pl := Nat.lt_of_lt_of_le hb1 hsq; go_simp; try with_reducible rfl)
          try simp only [Act.put, List.setIfInBounds_toArray, List.set_cons_zero, List.set_cons_succ]
          refine wpAnyM_take (i := 4) (v := ?_) (by simp only [List.getElem?_toArray, List.getElem?_cons_succ, List.getElem?_cons_zero] <;> rfl) (by kernel_rfl) (by kernel_rfl) (by kernel_rfl) (by kernel_rfl) (by kernel_rfl) (fun _ _ _ h => h) (Or.inl ⟨by rfl, ?_⟩) (by assumption) ?_
          rotate_left
          · (intro wv hSw; (try dsimp only at hSw); obtain ⟨hcq, _⟩ := bcell hSw; have hsq := Below.size hSw; go_simp; try with_reducible rfl)
          try simp only [Act.put, List.setIfInBounds_toArray, List.set_cons_zero, List.set_cons_succ]
          refine wpAnyM_take (i := 5) (v := ?_) (by simp only [List.getElem?_toArray, List.getElem?_cons_succ, List.getElem?_cons_zero] <;> rfl) (by kernel_rfl) (by kernel_rfl) (by kernel_rfl) (by kernel_rfl) (by kernel_rfl) (fun _ _ _ h => h) (Or.inl ⟨by rfl, ?_⟩) (by assumption) ?_
          rotate_left
          · (intro wv hSw; (try dsimp only at hSw); obtain ⟨hcq, _⟩ := bcell hSw; have hsq := Below.size hSw; have p0 := (hcq _ _ xl).trans x2; have pl := Nat.lt_of_lt_of_le xl hsq; go_simp; try with_reducible rfl)
          try simp only [Act.put, List.setIfInBounds_toArray, List.set_cons_zero, List.set_cons_succ]
          refine wpAnyM_take (i := 6) (v := ?_) (by simp only [List.getElem?_toArray, List.getElem?_cons_succ, List.getElem?_cons_zero] <;> rfl) (by kernel_rfl) (by kernel_rfl) (by kernel_rfl) (by kernel_rfl) (by kernel_rfl) (fun _ _ _ h => h) (Or.inl ⟨by rfl, ?_⟩) (by assumption) ?_
          rotate_left
          · (intro wv hSw; (try dsimp only at hSw); obtain ⟨hcq, _⟩ := bcell hSw; have hsq := Below.size hSw; go_simp; try with_reducible rfl)
          try simp only [Act.put, List.setIfInBounds_toArray, List.set_cons_zero, List.set_cons_succ]
          refine wpAnyM_take (i := 7) (v := ?_) (by simp only [List.getElem?_toArray, List.getElem?_cons_succ, List.getElem?_cons_zero] <;> rfl) (by kernel_rfl) (by kernel_rfl) (by kernel_rfl) (by kernel_rfl) (by kernel_rfl) (fun _ _ _ h => h) (Or.inl ⟨by rfl, ?_⟩) (by assumption) ?_
          rotate_left
          · (intro wv hSw; (try dsimp only at hSw); obtain ⟨hcq, _⟩ := bcell hSw; have hsq := Below.size hSw; go_simp; try with_reducible rfl)
          try simp only [Act.put, List.setIfInBounds_toArray, List.set_cons_zero, List.set_cons_succ]
          try simp only [i1]
          refine wpAnyM_ready (rs := [8]) (by kernel_rfl) (by simp) ?_
          refine AllReadyM.cons rfl (fun K hK => ?_) AllReadyM.nil
          go_simp
          refine Calls.mono (KI.out _) ?_
          rintro e _ ⟨rfl, rfl⟩
          go_wp2_with fail
          refine hK.out _ _ hHeld (fun hHeld => ?_)
          clear hK K
          try simp only [Act.put, List.setIfInBounds_toArray, List.set_cons_zero, List.set_cons_succ]
          refine wpAnyM_ready (rs := [9]) (by kernel_rfl) (by simp) ?_
          refine AllReadyM.last rfl (fun K hK => ?_)
          go_simp
          refine hK.out _ _ ?_
          clear hK K
          try simp only [Act.put, List.setIfInBounds_toArray, List.set_cons_zero, List.set_cons_succ]
          refine wpAnyM_done (by kernel_rfl) ?_ _
          refine NoPanic.normal ?_
          have HB2 := Lib.hid (below_call HB.out hHeld HB.out.size)
          have X2 := Lib.hid (X.out.keep hHeld)
          have hs2 := Below.size hHeld
          clear hHeld hrc x2 xl
          go_wp2
          go_roundw
          case rel => exact ⟨j + 1, by go_num, by omega, by omega, HB2, X2, HA⟩
          case measure => simp [intOf]; omega
      · obtain rfl : trn = j := by omega
        have hlt' : ¬ (trn : Int) < (trn : Int) := by omega
        have HAL := Lib.hid (show allIn 0 ((rn : Int) - 1) tr = true by have h := A.out; rw [List.take_of_length_le (by omega)] at h; exact h)
        have x1 := X.out.cell 1
        have xl := X.out.lt
        simp at x1
        have KT := Lib.hid (spec_l01Own0 (HT.out.keep HB.out) htn)
        clear A
        go_wp2_with fail
        refine Calls.mono KT.out ?_
        rintro e w3 ⟨a3, c3, rfl, hb3, ho3⟩
        have X3 := Lib.hid (X.out.keep hb3)
        have HB3 := Lib.hid (below_call HB.out hb3 HB.out.size)
        have hs3 := hb3.size
        have V3 := Lib.hid (ho3.le (show w.heap.size + 1 ≤ wr.heap.size from hsr))
        clear ho3 hb3 x1 xl KT X HB
        go_wp2_with fail
        refine Calls.mono (spec_l01Own0 V3.out.ints (by omega)) ?_
        rintro e w4 ⟨a4, c4, rfl, hb4, ho4⟩
        have X4 := Lib.hid (X3.out.keep hb4)
        have HB4 := Lib.hid (below_call HB3.out hb4 HB3.out.size)
        have V4 := Lib.hid (V3.out.keep hb4)
        have hs4 := hb4.size
        have SR := Lib.hid ((SRow.one (w := w4) (lo := w3.heap.size) (⟨a4, tn, c4⟩, st) ho4 hs4 #[.slice a4 tn c4] rfl).le (show w.heap.size + 1 ≤ w3.heap.size by omega) (show w.heap.size + 1 ≤ w3.heap.size by omega))
        have hb5 : Below w4.heap.size w4 (w4.alloc (.cells #[.slice a4 tn c4] 22)) := by repeat (first | exact Below.refl _ _ | assumption | refine below_allocS ?_ _ | refine below_callS ?_ (by assumption) | (refine Below.alloc ?_ (by first | omega | (simp; done) | (simp; omega)) _) | (refine Below.setCell ?_ (by first | omega | (simp; done) | (simp; omega)) _) | refine Below.drew ?_ | refine below_drewN ?_ _ | (refine below_call ?_ (by assumption) (by first | omega | (simp; done) | (simp; omega))) | (refine Below.trans ?_ (by assumption)))
        have X5 := Lib.hid (X4.out.keep hb5)
        have HB5 := Lib.hid (below_call HB4.out hb5 HB4.out.size)
        have V5 := Lib.hid (V4.out.keep hb5)
        clear ho4 hb4 hb5 X3 X4 V3 V4 HB3 HB4
        go_wp2_with fail
        go_loopw [7, 8, 9] (fun s7 s8 s9 wr => ∃ (j cd vc : Nat) (ad va : Option Addr) (ld : List (QM × List Int)) (v : List Int), s7 = .slice va tn vc ∧ s8 = .slice ad (j + 1) cd ∧ s9 = .int .i64 j ∧ j ≤ trn ∧ w.heap.size + 1 ≤ wr.heap.size ∧ Hid (Below w.heap.size w wr) ∧ Hid (Blk wr w.heap.size #[.slice sa sn sc, .slice ta tn tc, .slice ra rn rc] 44) ∧ Hid (OwnI 2 wr (w.heap.size + 1) va tn vc v) ∧ Hid (SRow wr (w.heap.size + 1) (w.heap.size + 1) ad (j + 1) cd ld) ∧ Hid (FolI (lr.map (·.2)) st tr j (ld.map (·.2))) ∧ Hid ((ld.map (·.2))[j]? = some v) ∧ Hid (SV sz v)) (fun _ _ s9 _ => trn - (intOf s9).toNat)
        case atStart => exact ⟨0, 1, _, _, _, _, st, rfl, rfl, rfl, by omega, by (try simp); omega, HB5, X5, V5, SR, Lib.hid (FolI.start _ _ _), Lib.hid rfl, HSV⟩
        case round =>
          clear HB5 X5 V5 SR
          obtain ⟨j, cd, vc, ad, va, ld, v, rfl, rfl, rfl, hj, hsr, HB, X, V, SD, A, HLV, HV⟩ := hrel
          by_cases hlt : j < trn
          · have hlt' : (j : Int) < (trn : Int) := by omega
            have hj0 : (0 : Int) ≤ (j : Int) := by omega
            obtain ⟨b1, o1, r, rfl, hb1, hr, hrc, hr64⟩ := (HTR.out.keep HB.out).at hlt
            have hrr := allIn_at HAL.out hr
            obtain ⟨q, rfl⟩ := Int.eq_ofNat_of_zero_le hrr.1
            have hqn : q < rn := by omega
            have hqn' : (q : Int) < (rn : Int) := by omega
            have hq0 : (0 : Int) ≤ (q : Int) := by omega
            obtain ⟨br, or', R2, r2, rfl, hbr2, hxr, hru2, d0, d1, d2⟩ := FR.get (w0 := w) (Flats.keep HR.out HB.out) hqn
            have hrq : (lr.map (·.2))[q]? = some r2 := by rw [List.getElem?_map, hxr]; rfl
            have HGD := Lib.hid (getD_ru hrq)
            have hvl : v.length = tn := V.out.len
            have hruv := HRU.out r2 (List.mem_of_getElem? hrq)
            obtain ⟨hru_a, hru_b, hru_c, hru_d, hru_e, hru_f⟩ := hru2
            have hsl : sz.length = tn := HSZ.out
            have KH := Lib.hid (fun (wx : World) (hx : Below wr.heap.size wr wx) => spec_l20Holds (V.out.ints.keep hx) ((hru_c.keep HB.out).keep hx) hru_d (fun t ht => by have := hruv.1 t ht; rw [hsl] at this; exact this))
            have KA := Lib.hid (fun (wx : World) (hx : Below wr.heap.size wr wx) => spec_l20Apply (sa := sa) (sn := sn) (sc := sc) (ta := ta) (tn := tn) (tc := tc) (w0 := w) (w := wx) (below_call HB.out hx HB.out.size) (Flats.keep (Flats.keep HR.out HB.out) hx) hxr (V.out.ints.keep hx) (by omega) (fun a ha => by have := hruv.2 a ha; rw [hsl] at this; exact ⟨this.1, this.2.1⟩))
            have HSV2 := Lib.hid (show SV sz (applyP v r2.e) from sv_apply HV.out fun a ha z hz => (hruv.2 a ha).2.2 z hz)
            have HRR := Lib.hid hr
            have x0 := X.out.cell 0
            have x1 := X.out.cell 1
            have x2 := X.out.cell 2
            have xl := X.out.lt
            simp at x0 x1 x2
            clear hr hr64 hrr hxr hrq hvl hruv hru_a hru_b hru_c hru_d hru_e hru_f hsl
            cases hh : holdsP v r2.g with
            | false =>
              rw [hh] at KH
              have hfl := A.out.fail HLV.out HRR.out (by rw [Int.toNat_natCast, HGD.out]; exact hh)
              have HF := Lib.hid (ft_no (rs := lr.map (·.2)) (st := st) (tr := tr) (by omega) (by rw [HRL.out]; exact HAL.out) hfl)
              clear hh hfl
              go_wp2_with fail
              refine wp_region_noPanic ?_
              refine wp_region_M (L := 11) (S := fun wx => Below wr.heap.size wr wx) (by kernel_rfl) ?_ (fun hHeld => ?_)
              · exact (Below.refl _ _).drew
              refine wpAnyM_take (i := 0) (v := ?_) (by simp only [List.getElem?_toArray, List.getElem?_cons_succ, List.getElem?_cons_zero] <;> rfl) (by kernel_rfl) (by kernel_rfl) (by kernel_rfl) (by kernel_rfl) (by kernel_rfl) (fun _ _ _ h => h) (Or.inl ⟨by rfl, ?_⟩) (by assumption) ?_
              rotate_left
              · (intro wv hSw; (try dsimp only at hSw); obtain ⟨hcq, _⟩ := bcell hSw; have hsq := Below.size hSw; go_simp; try with_reducible rfl)
              try simp only [Act.put, List.setIfInBounds_toArray, List.set_cons_zero, List.set_cons_succ]
              refine wpAnyM_take (i := 1) (v := ?_) (by simp only [List.getElem?_toArray, List.getElem?_cons_succ, List.getElem?_cons_zero] <;> rfl) (by kernel_rfl) (by kernel_rfl) (by kernel_rfl) (by kernel_rfl) (by kernel_rfl) (fun _ _ _ h => h) (Or.inl ⟨by rfl, ?_⟩) (by assumption) ?_
              rotate_left
              · (intro wv hSw; (try dsimp only at hSw); obtain ⟨hcq, _⟩ := bcell hSw; have hsq := Below.size hSw; go_simp; try with_reducible rfl)
              try simp only [Act.put, List.setIfInBounds_toArray, List.set_cons_zero, List.set_cons_succ]
              refine wpAnyM_take (i := 2) (v := ?_) (by simp only [List.getElem?_toArray, List.getElem?_cons_succ, List.getElem?_cons_zero] <;> rfl) (by kernel_rfl) (by kernel_rfl) (by kernel_rfl) (by kernel_rfl) (by kernel_rfl) (fun _ _ _ h => h) (Or.inl ⟨by rfl, ?_⟩) (by assumption) ?_
              rotate_left
              · (intro wv hSw; (try dsimp only at hSw); obtain ⟨hcq, _⟩ := bcell hSw; have hsq := Below.size hSw; have p2 := (hcq _ _ xl).trans x2; have pl := Nat.lt_of_lt_of_le xl hsq; go_simp; try with_reducible rfl)
              try simp only [Act.put, List.setIfInBounds_toArray, List.set_cons_zero, List.set_cons_succ]
              refine wpAnyM_take (i := 3) (v := ?_) (by simp only [List.getElem?_toArray, List.getElem?_cons_succ, List.getElem?_cons_zero] <;> rfl) (by kernel_rfl) (by kernel_rfl) (by kernel_rfl) (by kernel_rfl) (by kernel_rfl) (fun _ _ _ h => h) (Or.inl ⟨by rfl, ?_⟩) (by assumption) ?_
              rotate_left
              · (intro wv hSw; (try dsimp only at hSw); obtain ⟨hcq, _⟩ := bcell hSw; have hsq := Below.size hSw; go_simp; try with_reducible rfl)
              try simp only [Act.put, List.setIfInBounds_toArray, List.set_cons_zero, List.set_cons_succ]
              refine wpAnyM_take (i := 4) (v := ?_) (by simp only [List.getElem?_toArray, List.getElem?_cons_succ, List.getElem?_cons_zero] <;> rfl) (by kernel_rfl) (by kernel_rfl) (by kernel_rfl) (by kernel_rfl) (by kernel_rfl) (fun _ _ _ h => h) (Or.inl ⟨by rfl, ?_⟩) (by assumption) ?_
              rotate_left
              · (intro wv hSw; (try dsimp only at hSw); obtain ⟨hcq, _⟩ := bcell hSw; have hsq := Below.size hSw; go_simp; try with_reducible rfl)
              try simp only [Act.put, List.setIfInBounds_toArray, List.set_cons_zero, List.set_cons_succ]
              refine wpAnyM_take (i := 5) (v := ?_) (by simp only [List.getElem?_toArray, List.getElem?_cons_succ, List.getElem?_cons_zero] <;> rfl) (by kernel_rfl) (by kernel_rfl) (by kernel_rfl) (by kernel_rfl) (by kernel_rfl) (fun _ _ _ h => h) (Or.inl ⟨by rfl, ?_⟩) (by assumption) ?_
              rotate_left
              · (intro wv hSw; (try dsimp only at hSw); obtain ⟨hcq, _⟩ := bcell hSw; have hsq := Below.size hSw; go_simp; try with_reducible rfl)
              try simp only [Act.put, List.setIfInBounds_toArray, List.set_cons_zero, List.set_cons_succ]
              refine wpAnyM_take (i := 6) (v := ?_) (by simp only [List.getElem?_toArray, List.getElem?_cons_succ, List.getElem?_cons_zero] <;> rfl) (by kernel_rfl) (by kernel_rfl) (by kernel_rfl) (by kernel_rfl) (by kernel_rfl) (fun _ _ _ h => h) (Or.inl ⟨by rfl, ?_⟩) (by assumption) ?_
              rotate_left
              · (intro wv hSw; (try dsimp only at hSw); obtain ⟨hcq, _⟩ := bcell hSw; have hsq := Below.size hSw; have p0 := (hcq _ _ hb1).trans hrc; have pl := Nat.lt_of_lt_of_le hb1 hsq; go_simp; try with_reducible rfl)
              try simp only [Act.put, List.setIfInBounds_toArray, List.set_cons_zero, List.set_cons_succ]
              refine wpAnyM_take (i := 7) (v := ?_) (by simp only [List.getElem?_toArray, List.getElem?_cons_succ, List.getElem?_cons_zero] <;> rfl) (by kernel_rfl) (by kernel_rfl) (by kernel_rfl) (by kernel_rfl) (by kernel_rfl) (fun _ _ _ h => h) (Or.inl ⟨by rfl, ?_⟩) (by assumption) ?_
              rotate_left
              · (intro wv hSw; (try dsimp only at hSw); obtain ⟨hcq, _⟩ := bcell hSw; have hsq := Below.size hSw; go_simp; try with_reducible rfl)
              try simp only [Act.put, List.setIfInBounds_toArray, List.set_cons_zero, List.set_cons_succ]
              refine wpAnyM_take (i := 8) (v := ?_) (by simp only [List.getElem?_toArray, List.getElem?_cons_succ, List.getElem?_cons_zero] <;> rfl) (by kernel_rfl) (by kernel_rfl) (by kernel_rfl) (by kernel_rfl) (by kernel_rfl) (fun _ _ _ h => h) (Or.inl ⟨by rfl, ?_⟩) (by assumption) ?_
              rotate_left
              · (intro wv hSw; (try dsimp only at hSw); obtain ⟨hcq, _⟩ := bcell hSw; have hsq := Below.size hSw; go_simp; try with_reducible rfl)
              try simp only [Act.put, List.setIfInBounds_toArray, List.set_cons_zero, List.set_cons_succ]
              refine wpAnyM_take (i := 9) (v := ?_) (by simp only [List.getElem?_toArray, List.getElem?_cons_succ, List.getElem?_cons_zero] <;> rfl) (by kernel_rfl) (by kernel_rfl) (by kernel_rfl) (by kernel_rfl) (by kernel_rfl) (fun _ _ _ h => h) (Or.inl ⟨by rfl, ?_⟩) (by assumption) ?_
              rotate_left
              · (intro wv hSw; (try dsimp only at hSw); obtain ⟨hcq, _⟩ := bcell hSw; have hsq := Below.size hSw; have p0 := (hcq _ _ hbr2).trans d1; have pl := Nat.lt_of_lt_of_le hbr2 hsq; go_simp; try with_reducible rfl)
              try simp only [Act.put, List.setIfInBounds_toArray, List.set_cons_zero, List.set_cons_succ]
              refine wpAnyM_ready (rs := [10]) (by kernel_rfl) (by simp) ?_
              refine AllReadyM.cons rfl (fun K hK => ?_) AllReadyM.nil
              go_simp
              refine Calls.mono (KH.out _ hHeld) ?_
              rintro e w6 ⟨rfl, hb6⟩
              have hb7 := below_callS hHeld hb6
              go_wp2_with fail
              refine hK.out _ _ hb7 (fun hHeld => ?_)
              clear hK K
              try simp only [Act.put, List.setIfInBounds_toArray, List.set_cons_zero, List.set_cons_succ]
              refine wpAnyM_ready (rs := [11]) (by kernel_rfl) (by simp) ?_
              refine AllReadyM.last rfl (fun K hK => ?_)
              go_simp
              refine hK.out _ _ ?_
              clear hK K
              try simp only [Act.put, List.setIfInBounds_toArray, List.set_cons_zero, List.set_cons_succ]
              refine wpAnyM_done (by kernel_rfl) ?_ _
              refine NoPanic.normal ?_
              have hbe := below_call HB.out hb7 HB.out.size
              clear hHeld hb6 hb7 hrc x0 x1 x2 xl d0 d1 d2 KH KA
              go_wp2
              go_ret2
              exact ⟨hbe, none, 0, 0, [], by rw [HF.out]; rfl, SRow.nil _ _ _, (fun e => by rw [HF.out] at e; cases e), fun _ => rfl⟩
            | true =>
              rw [hh] at KH
              have hst := A.out.step HLV.out HRR.out (by rw [Int.toNat_natCast, HGD.out]; exact hh)
              rw [Int.toNat_natCast, HGD.out] at hst
              have HST := Lib.hid hst
              clear hh hst
              go_wp2_with fail
              refine wp_region_noPanic ?_
              refine wp_region_M (L := 11) (S := fun wx => Below wr.heap.size wr wx) (by kernel_rfl) ?_ (fun hHeld => ?_)
              · exact (Below.refl _ _).drew
              refine wpAnyM_take (i := 0) (v := ?_) (by simp only [List.getElem?_toArray, List.getElem?_cons_succ, List.getElem?_cons_zero] <;> rfl) (by kernel_rfl) (by kernel_rfl) (by kernel_rfl) (by kernel_rfl) (by kernel_rfl) (fun _ _ _ h => h) (Or.inl ⟨by rfl, ?_⟩) (by assumption) ?_
              rotate_left
              · (intro wv hSw; (try dsimp only at hSw); obtain ⟨hcq, _⟩ := bcell hSw; have hsq := Below.size hSw; go_simp; try with_reducible rfl)
              try simp only [Act.put, List.setIfInBounds_toArray, List.set_cons_zero, List.set_cons_succ]
              refine wpAnyM_take (i := 1) (v := ?_) (by simp only [List.getElem?_toArray, List.getElem?_cons_succ, List.getElem?_cons_zero] <;> rfl) (by kernel_rfl) (by kernel_rfl) (by kernel_rfl) (by kernel_rfl) (by kernel_rfl) (fun _ _ _ h => h) (Or.inl ⟨by rfl, ?_⟩) (by assumption) ?_
              rotate_left
              · (intro wv hSw; (try dsimp only at hSw); obtain ⟨hcq, _⟩ := bcell hSw; have hsq := Below.size hSw; go_simp; try with_reducible rfl)
              try simp only [Act.put, List.setIfInBounds_toArray, List.set_cons_zero, List.set_cons_succ]
              refine wpAnyM_take (i := 2) (v := ?_) (by simp only [List.getElem?_toArray, List.getElem?_cons_succ, List.getElem?_cons_zero] <;> rfl) (by kernel_rfl) (by kernel_rfl) (by kernel_rfl) (by kernel_rfl) (by kernel_rfl) (fun _ _ _ h => h) (Or.inl ⟨by rfl, ?_⟩) (by assumption) ?_
              rotate_left
              · (intro wv hSw; (try dsimp only at hSw); obtain ⟨hcq, _⟩ := bcell hSw; have hsq := Below.size hSw; have p2 := (hcq _ _ xl).trans x2; have pl := Nat.lt_of_lt_of_le xl hsq; go_simp; try with_reducible rfl)
              try simp only [Act.put, List.setIfInBounds_toArray, List.set_cons_zero, List.set_cons_succ]
              refine wpAnyM_take (i := 3) (v := ?_) (by simp only [List.getElem?_toArray, List.getElem?_cons_succ, List.getElem?_cons_zero] <;> rfl) (by kernel_rfl) (by kernel_rfl) (by kernel_rfl) (by kernel_rfl) (by kernel_rfl) (fun _ _ _ h => h) (Or.inl ⟨by rfl, ?_⟩) (by assumption) ?_
              rotate_left
              · (intro wv hSw; (try dsimp only at hSw); obtain ⟨hcq, _⟩ := bcell hSw; have hsq := Below.size hSw; go_simp; try with_reducible rfl)
              try simp only [Act.put, List.setIfInBounds_toArray, List.set_cons_zero, List.set_cons_succ]
              refine wpAnyM_take (i := 4) (v := ?_) (by simp only [List.getElem?_toArray, List.getElem?_cons_succ, List.getElem?_cons_zero] <;> rfl) (by kernel_rfl) (by kernel_rfl) (by kernel_rfl) (by kernel_rfl) (by kernel_rfl) (fun _ _ _ h => h) (Or.inl ⟨by rfl, ?_⟩) (by assumption) ?_
              rotate_left
              · (intro wv hSw; (try dsimp only at hSw); obtain ⟨hcq, _⟩ := bcell hSw; have hsq := Below.size hSw; go_simp; try with_reducible rfl)
              try simp only [Act.put, List.setIfInBounds_toArray, List.set_cons_zero, List.set_cons_succ]
              refine wpAnyM_take (i := 5) (v := ?_) (by simp only [List.getElem?_toArray, List.getElem?_cons_succ, List.getElem?_cons_zero] <;> rfl) (by kernel_rfl) (by kernel_rfl) (by kernel_rfl) (by kernel_rfl) (by kernel_rfl) (fun _ _ _ h => h) (Or.inl ⟨by rfl, ?_⟩) (by assumption) ?_
              rotate_left
              · (intro wv hSw; (try dsimp only at hSw); obtain ⟨hcq, _⟩ := bcell hSw; have hsq := Below.size hSw; go_simp; try with_reducible rfl)
              try simp only [Act.put, List.setIfInBounds_toArray, List.set_cons_zero, List.set_cons_succ]
              refine wpAnyM_take (i := 6) (v := ?_) (by simp only [List.getElem?_toArray, List.getElem?_cons_succ, List.getElem?_cons_zero] <;> rfl) (by kernel_rfl) (by kernel_rfl) (by kernel_rfl) (by kernel_rfl) (by kernel_rfl) (fun _ _ _ h => h) (Or.inl ⟨by rfl, ?_⟩) (by assumption) ?_
              rotate_left
              · (intro wv hSw; (try dsimp only at hSw); obtain ⟨hcq, _⟩ := bcell hSw; have hsq := Below.size hSw; have p0 := (hcq _ _ hb1).trans hrc; have pl := Nat.lt_of_lt_of_le hb1 hsq; go_simp; try with_reducible rfl)
              try simp only [Act.put, List.setIfInBounds_toArray, List.set_cons_zero, List.set_cons_succ]
              refine wpAnyM_take (i := 7) (v := ?_) (by simp only [List.getElem?_toArray, List.getElem?_cons_succ, List.getElem?_cons_zero] <;> rfl) (by kernel_rfl) (by kernel_rfl) (by kernel_rfl) (by kernel_rfl) (by kernel_rfl) (fun _ _ _ h => h) (Or.inl ⟨by rfl, ?_⟩) (by assumption) ?_
              rotate_left
              · (intro wv hSw; (try dsimp only at hSw); obtain ⟨hcq, _⟩ := bcell hSw; have hsq := Below.size hSw; go_simp; try with_reducible rfl)
              try simp only [Act.put, List.setIfInBounds_toArray, List.set_cons_zero, List.set_cons_succ]
              refine wpAnyM_take (i := 8) (v := ?_) (by simp only [List.getElem?_toArray, List.getElem?_cons_succ, List.getElem?_cons_zero] <;> rfl) (by kernel_rfl) (by kernel_rfl) (by kernel_rfl) (by kernel_rfl) (by kernel_rfl) (fun _ _ _ h => h) (Or.inl ⟨by rfl, ?_⟩) (by assumption) ?_
              rotate_left
              · (intro wv hSw; (try dsimp only at hSw); obtain ⟨hcq, _⟩ := bcell hSw; have hsq := Below.size hSw; go_simp; try with_reducible rfl)
              try simp only [Act.put, List.setIfInBounds_toArray, List.set_cons_zero, List.set_cons_succ]
              refine wpAnyM_take (i := 9) (v := ?_) (by simp only [List.getElem?_toArray, List.getElem?_cons_succ, List.getElem?_cons_zero] <;> rfl) (by kernel_rfl) (by kernel_rfl) (by kernel_rfl) (by kernel_rfl) (by kernel_rfl) (fun _ _ _ h => h) (Or.inl ⟨by rfl, ?_⟩) (by assumption) ?_
              rotate_left
              · (intro wv hSw; (try dsimp only at hSw); obtain ⟨hcq, _⟩ := bcell hSw; have hsq := Below.size hSw; have p0 := (hcq _ _ hbr2).trans d1; have pl := Nat.lt_of_lt_of_le hbr2 hsq; go_simp; try with_reducible rfl)
              try simp only [Act.put, List.setIfInBounds_toArray, List.set_cons_zero, List.set_cons_succ]
              refine wpAnyM_ready (rs := [10]) (by kernel_rfl) (by simp) ?_
              refine AllReadyM.cons rfl (fun K hK => ?_) AllReadyM.nil
              go_simp
              refine Calls.mono (KH.out _ hHeld) ?_
              rintro e w6 ⟨rfl, hb6⟩
              have hb7 := below_callS hHeld hb6
              go_wp2_with fail
              refine hK.out _ _ hb7 (fun hHeld => ?_)
              clear hK K
              try simp only [Act.put, List.setIfInBounds_toArray, List.set_cons_zero, List.set_cons_succ]
              refine wpAnyM_ready (rs := [11]) (by kernel_rfl) (by simp) ?_
              refine AllReadyM.last rfl (fun K hK => ?_)
              go_simp
              refine hK.out _ _ ?_
              clear hK K
              try simp only [Act.put, List.setIfInBounds_toArray, List.set_cons_zero, List.set_cons_succ]
              refine wpAnyM_done (by kernel_rfl) ?_ _
              refine NoPanic.normal ?_
              have hc7 := (bcell hb7).1
              have hs7 := hb7.size
              have HBX := Lib.hid hb7
              replace x0 := (hc7 _ _ xl).trans x0
              replace x1 := (hc7 _ _ xl).trans x1
              replace x2 := (hc7 _ _ xl).trans x2
              replace hrc := (hc7 _ _ hb1).trans hrc
              replace xl := Nat.lt_of_lt_of_le xl hs7
              replace hb1 := Nat.lt_of_lt_of_le hb1 hs7
              clear hHeld hb6 hc7 hb7 d0 d1 d2 KH hbr2
              go_wp2_with fail
              refine wp_region_noPanic ?_
              refine wp_region_M (L := 7) (S := fun wx => Below w6.heap.size w6 wx) (by kernel_rfl) ?_ (fun hHeld => ?_)
              · exact (Below.refl _ _).drew
              refine wpAnyM_take (i := 0) (v := ?_) (by simp only [List.getElem?_toArray, List.getElem?_cons_succ, List.getElem?_cons_zero] <;> rfl) (by kernel_rfl) (by kernel_rfl) (by kernel_rfl) (by kernel_rfl) (by kernel_rfl) (fun _ _ _ h => h) (Or.inl ⟨by rfl, ?_⟩) (by assumption) ?_
              rotate_left
              · (intro wv hSw; (try dsimp only at hSw); obtain ⟨hcq, _⟩ := bcell hSw; have hsq := Below.size hSw; have p0 := (hcq _ _ xl).trans x0; have p1 := (hcq _ _ xl).trans x1; have p2 := (hcq _ _ xl).trans x2; have pl := Nat.lt_of_lt_of_le xl hsq; go_simp; try with_reducible rfl)
              try simp only [Act.put, List.setIfInBounds_toArray, List.set_cons_zero, List.set_cons_succ]
              refine wpAnyM_take (i := 1) (v := ?_) (by simp only [List.getElem?_toArray, List.getElem?_cons_succ, List.getElem?_cons_zero] <;> rfl) (by kernel_rfl) (by kernel_rfl) (by kernel_rfl) (by kernel_rfl) (by kernel_rfl) (fun _ _ _ h => h) (Or.inl ⟨by rfl, ?_⟩) (by assumption) ?_
              rotate_left
              · (intro wv hSw; (try dsimp only at hSw); obtain ⟨hcq, _⟩ := bcell hSw; have hsq := Below.size hSw; go_simp; try with_reducible rfl)
              try simp only [Act.put, List.setIfInBounds_toArray, List.set_cons_zero, List.set_cons_succ]
              refine wpAnyM_take (i := 2) (v := ?_) (by simp only [List.getElem?_toArray, List.getElem?_cons_succ, List.getElem?_cons_zero] <;> rfl) (by kernel_rfl) (by kernel_rfl) (by kernel_rfl) (by kernel_rfl) (by kernel_rfl) (fun _ _ _ h => h) (Or.inl ⟨by rfl, ?_⟩) (by assumption) ?_
              rotate_left
              · (intro wv hSw; (try dsimp only at hSw); obtain ⟨hcq, _⟩ := bcell hSw; have hsq := Below.size hSw; go_simp; try with_reducible rfl)
              try simp only [Act.put, List.setIfInBounds_toArray, List.set_cons_zero, List.set_cons_succ]
              refine wpAnyM_take (i := 3) (v := ?_) (by simp only [List.getElem?_toArray, List.getElem?_cons_succ, List.getElem?_cons_zero] <;> rfl) (by kernel_rfl) (by kernel_rfl) (by kernel_rfl) (by kernel_rfl) (by kernel_rfl) (fun _ _ _ h => h) (Or.inl ⟨by rfl, ?_⟩) (by assumption) ?_
              rotate_left
              · (intro wv hSw; (try dsimp only at hSw); obtain ⟨hcq, _⟩ := bcell hSw; have hsq := Below.size hSw; go_simp; try with_reducible rfl)
              try simp only [Act.put, List.setIfInBounds_toArray, List.set_cons_zero, List.set_cons_succ]
              refine wpAnyM_take (i := 4) (v := ?_) (by simp only [List.getElem?_toArray, List.getElem?_cons_succ, List.getElem?_cons_zero] <;> rfl) (by kernel_rfl) (by kernel_rfl) (by kernel_rfl) (by kernel_rfl) (by kernel_rfl) (fun _ _ _ h => h) (Or.inl ⟨by rfl, ?_⟩) (by assumption) ?_
              rotate_left
              · (intro wv hSw; (try dsimp only at hSw); obtain ⟨hcq, _⟩ := bcell hSw; have hsq := Below.size hSw; go_simp; try with_reducible rfl)
              try simp only [Act.put, List.setIfInBounds_toArray, List.set_cons_zero, List.set_cons_succ]
              refine wpAnyM_take (i := 5) (v := ?_) (by simp only [List.getElem?_toArray, List.getElem?_cons_succ, List.getElem?_cons_zero] <;> rfl) (by kernel_rfl) (by kernel_rfl) (by kernel_rfl) (by kernel_rfl) (by kernel_rfl) (fun _ _ _ h => h) (Or.inl ⟨by rfl, ?_⟩) (by assumption) ?_
              rotate_left
              · (intro wv hSw; (try dsimp only at hSw); obtain ⟨hcq, _⟩ := bcell hSw; have hsq := Below.size hSw; have p0 := (hcq _ _ hb1).trans hrc; have pl := Nat.lt_of_lt_of_le hb1 hsq; go_simp; try with_reducible rfl)
              try simp only [Act.put, List.setIfInBounds_toArray, List.set_cons_zero, List.set_cons_succ]
              refine wpAnyM_ready (rs := [6]) (by kernel_rfl) (by simp) ?_
              refine AllReadyM.cons rfl (fun K hK => ?_) AllReadyM.nil
              go_simp
              refine Calls.mono (KA.out _ (below_callS HBX.out hHeld)) ?_
              rintro e w8 ⟨a8, c8, rfl, ho8, hb8⟩
              have hb9 := below_callS hHeld hb8
              have O8 := Lib.hid ho8
              clear ho8
              go_wp2_with fail
              refine hK.out _ _ hb9 (fun hHeld => ?_)
              clear hK K
              try simp only [Act.put, List.setIfInBounds_toArray, List.set_cons_zero, List.set_cons_succ]
              refine wpAnyM_ready (rs := [7]) (by kernel_rfl) (by simp) ?_
              refine AllReadyM.last rfl (fun K hK => ?_)
              go_simp
              refine hK.out _ _ ?_
              clear hK K
              try simp only [Act.put, List.setIfInBounds_toArray, List.set_cons_zero, List.set_cons_succ]
              refine wpAnyM_done (by kernel_rfl) ?_ _
              refine NoPanic.normal ?_
              have hbA := below_callS HBX.out hb9
              have hsA := hbA.size
              have X8 := Lib.hid (X.out.keep hbA)
              have SD8 := Lib.hid (SD.out.keep hbA)
              have HB8 := Lib.hid (below_call HB.out hbA HB.out.size)
              have V8 := Lib.hid (O8.out.le (show w.heap.size + 1 ≤ _ by have h1 := HBX.out.size; have h2 := Below.size hHeld; first | omega | (exact Nat.le_trans hsr (Nat.le_trans h1 (Nat.le_refl _)))))
              clear hHeld hb8 hb9 hbA O8 X SD HB V HBX x0 x1 x2 xl hb1 hrc KA A HV
              go_wp2_with fail
              refine Calls.mono (spec_l01Own0 V8.out.ints (by omega)) ?_
              rintro e w9 ⟨a9, c9, rfl, hb9, ho9⟩
              have X9 := Lib.hid (X8.out.keep hb9)
              have SD9 := Lib.hid (SD8.out.keep hb9)
              have HB9 := Lib.hid (below_call HB8.out hb9 HB8.out.size)
              have V9 := Lib.hid (V8.out.keep hb9)
              have hs9 := hb9.size
              have O9 := Lib.hid (ho9.le (show w.heap.size + 1 ≤ w8.heap.size by omega))
              clear ho9 hb9 X8 SD8 HB8 V8
              go_wp2_with (at_builtin; refine appS rfl _ _ rfl (w.heap.size + 1) (w.heap.size + 1) _ _ _ _ SD9.out rfl _ rfl (by first | rfl | (simp; done)) (⟨a9, tn, c9⟩, applyP v r2.e) O9.out _ rfl (by omega) (by omega) ?_; intro g' c2 wn h1 h2 h3 h4 h5; have SDn := Lib.hid h1; have HBn := Lib.hid (HB9.out.trans (h2.mono (Nat.le_succ _))); have Xn := Lib.hid (X9.out.keepB h2 (by omega)); have Vn := Lib.hid (V9.out.keepT h3 (fun g e e' => typ_apart (fun {g} e => V9.out.typ e) (fun {g} e => SD9.out.row.typ e) (by decide) g e e')); have hsn := h2.size; clear h1 h2 h3 h4 h5)
              go_roundw
              case rel => exact ⟨j + 1, c2, _, _, _, ld ++ [(⟨a9, tn, c9⟩, applyP v r2.e)], applyP v r2.e, by rfl, by go_num, by go_num, by omega, by omega, HBn, Xn, Vn, SDn, Lib.hid (by rw [List.map_append]; exact HST.out), Lib.hid (by
                have hl : (ld.map (·.2)).length = j + 1 := by rw [List.length_map]; exact SD9.out.len
                rw [List.map_append, List.getElem?_append_right (by omega), hl, Nat.sub_self]; rfl), HSV2⟩
              case measure => simp [intOf]; omega
          · obtain hje : trn = j := by omega
            have hlt' : ¬ (j : Int) < (trn : Int) := by omega
            have hdn := A.out.done (by omega)
            have HF := Lib.hid (ft_yes (rs := lr.map (·.2)) (st := st) (tr := tr) (by omega) (by rw [HRL.out]; exact HAL.out) hdn)
            have HD := Lib.hid hdn
            clear hdn hje
            go_wp2
            go_ret2
            exact ⟨HB.out, _, _, _, ld, by rw [HF.out]; rfl, SD.out.le (Nat.le_succ _) (Nat.le_succ _), (fun _ => HD.out), fun e => absurd HF.out e⟩
end Go.Proofs.YtfnamjkmkoldeaaGreatDoor
