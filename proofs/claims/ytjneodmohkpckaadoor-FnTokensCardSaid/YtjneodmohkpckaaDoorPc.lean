/- StandardText of the reference, walked. -/
import Derived.Test.YtjneodmohkpckaaDoorPb
import Derived.Test.YtjneodmohkpckaaDoorJb
namespace Go.Proofs.YtjneodmohkpckaaDoor
open Go.RowKit
set_option linter.unusedVariables false
set_option linter.unusedSimpArgs false
theorem encB_1 : ∀ x, (encB x).length = 1 := fun _ => rfl
theorem encB_one : ∀ y : UInt8, ∀ u ∈ encB y, u.oneCell' = true := fun y u h => by simp [encB] at h; subst h; rfl
theorem lit_B (w : World) (d : UInt8) : Flats 1 encB (fun _ => True) (w.alloc (.cells #[.int .u8 d.toNat] 5)) (some ⟨w.heap.size, 0, none⟩) 1 1 [d] :=
  lit_flats w 5 [d] #[.int .u8 d.toNat] encB_1 (by decide) rfl (fun _ _ => trivial)
theorem appB1 {w w0 : World} {ops : Array Oper} {rest : List Oper} {o : Oper} {act : Act} {Q : Exit → Act → World → Prop} {z : Int} (d : UInt8) (hgd : o.guard = none) (s x : Operand)
    (ho : o.op = .call { callee := .builtin .append, args := #[s, x], argTypes := #[22, 22] })
    (a : Option Addr) (n c : Nat) (l : List UInt8) (hown : OwnBt w w0.heap.size a n c l) (hs : act.eval s = .slice a n c) (gx : Nat) (hx : act.eval x = .slice (some ⟨gx, 0, none⟩) 1 1) (hg : gx = w.heap.size) (hz : z = (d.toNat : Int))
    (hn : n ≤ 4194303) (hbase : Below w0.heap.size w0 w)
    (K : ∀ a' c' w', OwnBt w' w0.heap.size a' (n + 1) c' (l ++ [d]) → Below w0.heap.size w0 w' → wpList Tryd.prog ops Q rest (act.put o.dst (.slice a' (n + 1) c')) w') : wpList Tryd.prog ops Q (o :: rest) act (w.alloc (.cells #[.int .u8 z] 5)) := by
  subst hg hz
  have hb0 : Below w.heap.size w (w.alloc (.cells #[.int .u8 (d.toNat : Int)] 5)) := (Below.refl _ _).alloc (Nat.le_refl _) _
  refine appendL_F hgd s x 22 5 ho Tryd.underlying22 Tryd.infoU8 rfl (by decide) (by decide) encB_one w0.heap.size a n c l (hown.keep hb0) hs _ _ _ [d] hx (lit_B w d) (by omega) (by decide) (by have := hbase.size; simp; omega) ?_
  intro a' c' w' h1 h2 _ _
  exact K a' c' w' h1 ((hbase.trans (hb0.mono hbase.size)).trans h2)
theorem appSt {w w0 : World} {ops : Array Oper} {rest : List Oper} {o : Oper} {act : Act} {Q : Exit → Act → World → Prop} (hgd : o.guard = none) (s x : Operand)
    (ho : o.op = .call { callee := .builtin .append, args := #[s, x], argTypes := #[22, 9] })
    (a : Option Addr) (n c : Nat) (l : List UInt8) (hown : OwnBt w w0.heap.size a n c l) (hs : act.eval s = .slice a n c) (str : ByteArray) (hx : act.eval x = .string str)
    (hn : n ≤ 4194304) (hm : str.size ≤ 4194304) (hbase : Below w0.heap.size w0 w)
    (K : ∀ a' c' w', OwnBt w' w0.heap.size a' (n + str.size) c' (l ++ str.data.toList) → Below w0.heap.size w0 w' → wpList Tryd.prog ops Q rest (act.put o.dst (.slice a' (n + str.size) c')) w') : wpList Tryd.prog ops Q (o :: rest) act w := by
  refine appendS_B hgd s x 22 9 ho Tryd.underlying22 Tryd.underlying9 Tryd.infoU8 w0.heap.size a n c l hown hs str hx hn hm hbase.size ?_
  intro a' c' w' h1 h2 _
  exact K a' c' w' h1 (hbase.trans h2)
set_option maxHeartbeats 2000000 in
theorem spec_l12Text {a : Option Addr} {n c : Nat} {l : List TR} {w : World} (hI : FW w a n c l) (hn : n ≤ 20000) (hz : ∀ x ∈ l, x.t.size ≤ 13) : Calls Tryd.prog 27 #[.slice a n c] w fun e w' => e = .returned (.string ⟨(txL l n).toArray⟩) ∧ Below w.heap.size w w' := by
  have HI := Lib.hid hI
  have HZ := Lib.hid (txL_len (tkAt_sz hz))
  have HZ13 := Lib.hid hz
  have HLEN := Lib.hid hI.len
  clear hI hz
  go_enter Tryd.func27, Tryd.ntmps27
  go_wp2_with fail
  obtain ⟨wA, hwA⟩ : ∃ v, v = w.alloc (.cells #[] 5) := ⟨_, rfl⟩
  have hbA : Below w.heap.size w wA := by rw [hwA]; exact below_alloc1 (Below.refl _ _) _
  have O0 := Lib.hid (show OwnBt wA w.heap.size (some ⟨w.heap.size, 0, none⟩) 0 0 (txL l 0) by rw [hwA]; exact OwnF.emp w (Nat.le_refl _) encB_1)
  rw [← hwA]
  clear hwA
  go_loopw [3, 4] (fun s3 s4 wr => ∃ (k : Nat) (a : Option Addr) (q c : Nat), s3 = .slice a q c ∧ s4 = .int .i64 (k : Int) ∧ k ≤ n ∧ Below w.heap.size w wr ∧ Hid (OwnBt wr w.heap.size a q c (txL l k))) (fun _ s4 _ => n - (intOf s4).toNat)
  case atStart => exact ⟨0, _, 0, 0, rfl, rfl, by omega, hbA, O0⟩
  case round =>
    clear O0 hbA
    obtain ⟨k, a1, q1, cc, rfl, rfl, hk, hbl, O⟩ := hrel
    by_cases hlt : k < n
    · obtain ⟨b, off, x, rfl, hb, hx, hwf, c0, c1⟩ := FW.get (HI.out.keep hbl) hlt
      have hk0 : (0 : Int) ≤ (k : Int) := by omega
      have hlt' : (k : Int) < (n : Int) := by omega
      have HX := Lib.hid (tkAt_of hx)
      have hz1 := HZ.out k
      have hz2 := HZ.out (k + 1)
      have hq := O.out.len
      have hzx : x.t.size ≤ 13 := HZ13.out x (List.mem_of_getElem? hx)
      clear hx hwf
      by_cases hk1 : k = 0
      · subst hk1
        simp only [Nat.zero_mul, Nat.add_zero] at c0 c1
        go_wp2_with fail
        go_quiet (fail)
        obtain ⟨wB, hwB⟩ : ∃ v, v = wr.drewN nq := ⟨_, rfl⟩
        have hbr : Below wr.heap.size wr wB := by rw [hwB]; exact below_drewN (Below.refl _ _) _
        have hbB : Below w.heap.size w wB := below_callS hbl hbr
        have hbs : b < wB.heap.size := by have := hbr.size; omega
        have d1 := (hbr.cell (p := ⟨b, off + 1, none⟩) hb).trans c1
        obtain ⟨pre, hpre⟩ : ∃ v : List UInt8, v = [] := ⟨_, rfl⟩
        have OB := Lib.hid (show OwnBt wB w.heap.size a1 q1 cc (txL l 0 ++ pre) by rw [hpre, List.append_nil]; exact O.out.keep hbr)
        have HP := Lib.hid (show pcT l 0 = pre ++ x.t.data.toList ++ (if isS x.t 59 = true then [10] else []) by rw [pcT, HX.out, hpre, if_neg (fun h => absurd h.1 (by decide))])
        have hpl : pre.length ≤ 1 := by rw [hpre]; decide
        rw [← hwB]
        clear hwB hbr c0 c1 O hpre
        go_wp2_with (at_builtin; refine appSt rfl _ _ rfl _ _ _ _ OB.out rfl _ rfl (by omega) (by omega) hbB ?_; intro aC cC wC hoC hbC; refine Hid.out ?_)
        have OC := Lib.hid hoC
        obtain ⟨b2, off2, x2, e2, hbz2, hx2, hwf2, e20, e21⟩ := FW.get (HI.out.keep hbC) (i := 0) (by omega)
        cases e2
        obtain rfl : x = x2 := HX.out.symm.trans (tkAt_of hx2)
        clear hoC OB hbB hx2 hwf2 e20 d1
        simp only [Nat.zero_mul, Nat.add_zero] at e21
        refine Lib.hid ?_
        cases hs : (x.t.toList == [59])
        · have HN := Lib.hid (show txL l (0 + 1) = txL l (0) ++ pre ++ x.t.data.toList by
            have hs' : isS x.t 59 = false := hs
            rw [txL_next, HP.out, hs']; simp)
          go_wp2_with fail
          go_roundw
          case rel => exact ⟨0 + 1, aC, _, cC, rfl, by go_num, by omega, hbC, Lib.hid (by rw [HN.out]; exact OC.out)⟩
          case measure => simp only [intOf]; omega
        · have HN := Lib.hid (show txL l (0 + 1) = txL l (0) ++ pre ++ x.t.data.toList ++ [10] by
            have hs' : isS x.t 59 = true := hs
            rw [txL_next, HP.out, hs']; simp)
          go_wp2_with (at_builtin; refine appB1 10 rfl _ _ rfl _ _ _ _ OC.out rfl _ rfl rfl rfl (by omega) hbC ?_; intro aD cD wD hoD hbD; refine Hid.out ?_)
          have OD := Lib.hid hoD
          clear hoD OC hbC
          refine Lib.hid ?_
          go_wp2_with fail
          go_roundw
          case rel => exact ⟨0 + 1, aD, _, cD, rfl, by go_num, by omega, hbD, Lib.hid (by rw [HN.out]; exact OD.out)⟩
          case measure => simp only [intOf]; omega
      · obtain ⟨k, rfl⟩ : ∃ q, k = q + 1 := ⟨k - 1, by omega⟩
        have hk1' : (0 : Int) < ((k + 1 : Nat) : Int) := by omega
        have ek : IntKind.i64.wrap (((k + 1 : Nat) : Int) - 1) = (k : Int) := by rw [IntWalk.i64_in _ (by omega)]; omega
        have ek2 : IntKind.i64.wrap (k : Int) = (k : Int) := IntWalk.i64_in _ (by omega)
        have ek3 : IntKind.i64.wrap ((k : Int) + 1 - 1) = (k : Int) := by rw [IntWalk.i64_in _ (by omega)]; omega
        have ek4 : IntKind.i64.wrap ((k : Int) + 1) = (k : Int) + 1 := IntWalk.i64_in _ (by omega)
        have hk2 : (0 : Int) ≤ (k : Int) + 1 := by omega
        have hk3 : (k : Int) + 1 < (n : Int) := by omega
        have hkk0 : (0 : Int) ≤ (k : Int) := by omega
        have hkkn : (k : Int) < (n : Int) := by omega
        obtain ⟨b', off', x', e', hb', hx', hwf', d0, d1⟩ := FW.get (HI.out.keep hbl) (i := k) (by omega)
        cases e'
        have HX' := Lib.hid (tkAt_of hx')
        clear hx' hwf' hb'
        go_wp2_with fail
        go_region_held3 (fun wx => wx.cell? ⟨b, off + k * 2 + 1, none⟩ = some (.string x'.t) ∧ wx.cell? ⟨b, off + (k + 1) * 2 + 1, none⟩ = some (.string x.t) ∧ b < wx.heap.size ∧ Below wr.heap.size wr wx) (((try go_split_ands); (repeat' apply And.intro) <;> first | assumption | exact Below.drew (Below.refl _ _) | exact Blk.keep (by assumption) hbx | exact Blk.drew (by assumption) | exact Blk.drew (Blk.made _ _ _) | exact Below.drew (by assumption) | exact Below.drew (below_allocS (by first | exact Below.refl _ _ | assumption) _) | exact below_callS (by assumption) hbx | exact below_call (by assumption) hbx (Below.size (by assumption)) | exact (hcx _ _ (by assumption)).trans (by assumption) | omega | (simp [*]; done) | (simp; omega))) (first | (go_at_call 52; refine Calls.mono (spec_l12Blank (a := x'.t) (b := x.t)) ?_; rintro e wx2 ⟨rfl, hbx⟩; obtain ⟨hcx, hfx⟩ := bcell hbx; have hsx := hbx.size))
        go_split_ands
        have hbr : Below wr.heap.size wr wx2 := by assumption
        have hbX : Below w.heap.size w wx2 := below_callS hbl hbr
        have OX := Lib.hid (O.out.keep hbr)
        have hbs : b < wx2.heap.size := by have := hbr.size; omega
        have d1 := (hbr.cell (p := ⟨b, off + (k + 1) * 2 + 1, none⟩) hb).trans c1
        clear c0 c1 O hbr d0
        cases hbk : blkB x'.t x.t
        · obtain ⟨pre, hpre⟩ : ∃ v : List UInt8, v = [] := ⟨_, rfl⟩
          have OB := Lib.hid (show OwnBt wx2 w.heap.size a1 q1 cc (txL l (k + 1) ++ pre) by rw [hpre, List.append_nil]; exact OX.out)
          have HP := Lib.hid (show pcT l (k + 1) = pre ++ x.t.data.toList ++ (if isS x.t 59 = true then [10] else []) by rw [pcT, HX.out, Nat.add_sub_cancel, HX'.out, hpre, if_neg (fun h => by rw [hbk] at h; exact Bool.false_ne_true h.2)])
          have hpl : pre.length ≤ 1 := by rw [hpre]; decide
          have hbB := hbX
          clear OX hpre hbX
          go_wp2_with (at_builtin; refine appSt rfl _ _ rfl _ _ _ _ OB.out rfl _ rfl (by omega) (by omega) hbB ?_; intro aC cC wC hoC hbC; refine Hid.out ?_)
          have OC := Lib.hid hoC
          obtain ⟨b2, off2, x2, e2, hbz2, hx2, hwf2, e20, e21⟩ := FW.get (HI.out.keep hbC) (i := (k + 1)) (by omega)
          cases e2
          obtain rfl : x = x2 := HX.out.symm.trans (tkAt_of hx2)
          clear hoC OB hbB hx2 hwf2 e20 d1
          refine Lib.hid ?_
          cases hs : (x.t.toList == [59])
          · have HN := Lib.hid (show txL l ((k + 1) + 1) = txL l ((k + 1)) ++ pre ++ x.t.data.toList by
              have hs' : isS x.t 59 = false := hs
              rw [txL_next, HP.out, hs']; simp)
            go_wp2_with fail
            go_roundw
            case rel => exact ⟨(k + 1) + 1, aC, _, cC, rfl, by go_num, by omega, hbC, Lib.hid (by rw [HN.out]; exact OC.out)⟩
            case measure => simp only [intOf]; omega
          · have HN := Lib.hid (show txL l ((k + 1) + 1) = txL l ((k + 1)) ++ pre ++ x.t.data.toList ++ [10] by
              have hs' : isS x.t 59 = true := hs
              rw [txL_next, HP.out, hs']; simp)
            go_wp2_with (at_builtin; refine appB1 10 rfl _ _ rfl _ _ _ _ OC.out rfl _ rfl rfl rfl (by omega) hbC ?_; intro aD cD wD hoD hbD; refine Hid.out ?_)
            have OD := Lib.hid hoD
            clear hoD OC hbC
            refine Lib.hid ?_
            go_wp2_with fail
            go_roundw
            case rel => exact ⟨(k + 1) + 1, aD, _, cD, rfl, by go_num, by omega, hbD, Lib.hid (by rw [HN.out]; exact OD.out)⟩
            case measure => simp only [intOf]; omega
        · go_wp2_with (at_builtin; refine appB1 32 rfl _ _ rfl _ _ _ _ OX.out rfl _ rfl rfl rfl (by omega) hbX ?_; intro aB cB wB hoB hbB; refine Hid.out ?_)
          obtain ⟨pre, hpre⟩ : ∃ v : List UInt8, v = [32] := ⟨_, rfl⟩
          have OB := Lib.hid (show OwnBt wB w.heap.size aB (q1 + 1) cB (txL l (k + 1) ++ pre) by rw [hpre]; exact hoB)
          have HP := Lib.hid (show pcT l (k + 1) = pre ++ x.t.data.toList ++ (if isS x.t 59 = true then [10] else []) by rw [pcT, HX.out, Nat.add_sub_cancel, HX'.out, hpre, if_pos ⟨by omega, hbk⟩])
          have hpl : pre.length ≤ 1 := by rw [hpre]; decide
          obtain ⟨b3, off3, x3, e3, hbz3, hx3, hwf3, e30, d1⟩ := FW.get (HI.out.keep hbB) (i := k + 1) (by omega)
          cases e3
          obtain rfl : x = x3 := HX.out.symm.trans (tkAt_of hx3)
          clear OX hpre hbX hoB hx3 hwf3 e30
          refine Lib.hid ?_
          go_wp2_with (at_builtin; refine appSt rfl _ _ rfl _ _ _ _ OB.out rfl _ rfl (by omega) (by omega) hbB ?_; intro aC cC wC hoC hbC; refine Hid.out ?_)
          have OC := Lib.hid hoC
          obtain ⟨b2, off2, x2, e2, hbz2, hx2, hwf2, e20, e21⟩ := FW.get (HI.out.keep hbC) (i := (k + 1)) (by omega)
          cases e2
          obtain rfl : x = x2 := HX.out.symm.trans (tkAt_of hx2)
          clear hoC OB hbB hx2 hwf2 e20 d1
          refine Lib.hid ?_
          cases hs : (x.t.toList == [59])
          · have HN := Lib.hid (show txL l ((k + 1) + 1) = txL l ((k + 1)) ++ pre ++ x.t.data.toList by
              have hs' : isS x.t 59 = false := hs
              rw [txL_next, HP.out, hs']; simp)
            go_wp2_with fail
            go_roundw
            case rel => exact ⟨(k + 1) + 1, aC, _, cC, rfl, by go_num, by omega, hbC, Lib.hid (by rw [HN.out]; exact OC.out)⟩
            case measure => simp only [intOf]; omega
          · have HN := Lib.hid (show txL l ((k + 1) + 1) = txL l ((k + 1)) ++ pre ++ x.t.data.toList ++ [10] by
              have hs' : isS x.t 59 = true := hs
              rw [txL_next, HP.out, hs']; simp)
            go_wp2_with (at_builtin; refine appB1 10 rfl _ _ rfl _ _ _ _ OC.out rfl _ rfl rfl rfl (by omega) hbC ?_; intro aD cD wD hoD hbD; refine Hid.out ?_)
            have OD := Lib.hid hoD
            clear hoD OC hbC
            refine Lib.hid ?_
            go_wp2_with fail
            go_roundw
            case rel => exact ⟨(k + 1) + 1, aD, _, cD, rfl, by go_num, by omega, hbD, Lib.hid (by rw [HN.out]; exact OD.out)⟩
            case measure => simp only [intOf]; omega
    · have hlt' : ¬ (k : Int) < (n : Int) := by omega
      obtain rfl : k = n := by omega
      have hcv := O.out.string
      go_wp2
      go_ret
      exact ⟨rfl, hbl⟩
theorem spec_StandardText {a : Option Addr} {n c : Nat} {l : List TR} {w : World} (hI : FW w a n c l) (hn : n ≤ 20000) (hz : ∀ x ∈ l, x.t.size ≤ 13) : Calls Tryd.prog 8 #[.slice a n c] w fun e w' => e = .returned (.tuple #[.string (stS l), .int .i64 (tksC l)]) ∧ Below w.heap.size w w' := by
  have K := Lib.hid (spec_l12List hI (by omega))
  have KS := Lib.hid (fun (wx : World) (hb : Below w.heap.size w wx) => spec_l12Text (hI.keep hb) hn hz)
  have HS := Lib.hid (show stS l = if tksC l = 0 then ⟨(txL l n).toArray⟩ else ⟨#[]⟩ by rw [stS, hI.len])
  clear hI hz
  generalize stS l = S at *
  generalize tksC l = t at *
  by_cases ht : t = 0
  · subst ht
    have H := Lib.hid (show S = ⟨(txL l n).toArray⟩ by rw [HS.out]; rfl)
    clear HS
    go_enter Tryd.func8, Tryd.ntmps8
    go_wp2_with fail
    refine Calls.mono K.out ?_
    rintro e w1 ⟨rfl, hb1⟩
    go_wp2_with fail
    refine Calls.mono (KS.out _ hb1) ?_
    rintro e w2 ⟨rfl, hb2⟩
    go_wp2
    exact bodyPost_ret (v := .tuple #[.string ⟨(txL l n).toArray⟩, .int .i64 0]) (by simp [results, Tryd.results8, go_sem]) rfl ⟨by rw [H.out], below_callS hb1 hb2⟩
  · have ht' : (t != 0) = true := by simpa using ht
    have H := Lib.hid (show S = ⟨#[]⟩ by rw [HS.out, if_neg ht])
    clear HS
    go_enter Tryd.func8, Tryd.ntmps8
    go_wp2_with fail
    refine Calls.mono K.out ?_
    rintro e w1 ⟨rfl, hb1⟩
    go_wp2
    exact bodyPost_ret (v := .tuple #[.string ⟨#[]⟩, .int .i64 t]) (by simp [results, Tryd.results8, go_sem]) rfl ⟨by rw [H.out], hb1⟩
end Go.Proofs.YtjneodmohkpckaaDoor
