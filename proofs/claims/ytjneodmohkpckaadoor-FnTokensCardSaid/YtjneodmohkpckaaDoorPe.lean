/- The law FnTokens: the tokens of a standard text are those of the list, unless the text is too long. -/
import Derived.Test.YtjneodmohkpckaaDoorPa
import Derived.Test.YtjneodmohkpckaaDoorPc
import Derived.Test.YtjneodmohkpckaaDoorJb
import Derived.Test.YtjneodmohkpckaaDoorJc
import Derived.Test.YtjneodmohkpckaaDoorJd
import Derived.Test.YtjneodmohkpckaaDoorEy
import Derived.Test.YtjneodmohkpckaaDoorBg
namespace Go.Proofs.YtjneodmohkpckaaDoor
open Go.RowKit
set_option linter.unusedVariables false
set_option linter.unusedSimpArgs false
theorem OwnTk.fw {w : World} {base : Nat} {a : Option Addr} {n c : Nat} {l : List TR} (h : OwnTk w base a n c l) (hz : ∀ x ∈ l, x.t.size ≤ 13) : FW w a n c l :=
  FT.toW h.flats fun t ht => Nat.le_trans (hz t ht) (by decide)
theorem stS_0 {l : List TR} (h : tksC l = 0) : stS l = stB l := by rw [stS, if_pos h]; rfl
theorem rt_stS {l : List TR} (h : tksC l = 0) : (6000 < (stS l).size ∧ rtC (stS l) = 3) ∨ (rtC (stS l) = 0 ∧ rtL (stS l) = l) := by
  rw [stS_0 h]; exact rt_std h
theorem stS_size {l : List TR} (hz : ∀ x ∈ l, x.t.size ≤ 13) (hn : l.length ≤ 801) : (stS l).size ≤ 12015 := by
  rw [stS]
  split
  · have h1 := txL_len (tkAt_sz hz) l.length
    have h2 : (⟨(txL l l.length).toArray⟩ : ByteArray).size = (txL l l.length).length := by simp [ByteArray.size]
    omega
  · decide
set_option maxHeartbeats 4000000 in
theorem law_FnTokens {a : Option Addr} {n c : Nat} {w : World} (hT : Tab w 0 (strsCells kwNm)) (hL : LV w) (hB : Byts w a n c) : Calls Tryd.prog 3 #[.slice a n c] w fun e w' => e = .returned (.bool true) ∧ Below w.heap.size w w' := by
  have HB := Lib.hid hB
  have HT := Lib.hid hT
  have HLV := Lib.hid hL
  clear hB hT hL
  by_cases hn : n ≤ 4096
  · go_enter Tryd.func3, Tryd.ntmps3
    go_wp2_with fail
    refine Calls.mono (laws_big_no hn) ?_
    rintro e _ ⟨rfl, rfl⟩
    go_wp2_with fail
    refine Calls.mono (spec_DrawStandardText HB.out hn) ?_
    rintro e w1 ⟨a1, n1, c1, l, rfl, ho, hn1, hz, hb1⟩
    have A1 := Lib.hid (ho.fw hz)
    have W1 := Lib.hid hb1
    have hlen := ho.len
    have hsz := stS_size hz (by omega)
    have HR := Lib.hid (fun h : tksC l = 0 => rt_stS h)
    have HA := Lib.hid (fun (wx : World) (hw : Below w1.heap.size w1 wx) => impl_StandardText (HLV.out.keep (below_callS W1.out hw)) (HT.out.keep (below_callS W1.out hw)) (A1.out.keep hw) (by omega) hz)
    have HB2 := Lib.hid (fun (wx : World) (hw : Below w1.heap.size w1 wx) => spec_StandardText (A1.out.keep hw) (by omega) hz)
    have B1 := Lib.hid (HB.out.keep hb1)
    clear ho hb1 hz hlen
    generalize tksC l = T at *
    generalize stS l = S at *
    have q1 : (T != T) = false := by simp
    have q2 : (S.toList != S.toList) = false := by simp
    go_wp2_with fail
    refine Calls.mono (HA.out _ (Below.refl _ _)) ?_
    rintro e w2 ⟨rfl, hb2⟩
    have A2 := Lib.hid (A1.out.keep hb2)
    have B2 := Lib.hid (B1.out.keep hb2)
    have W2 := Lib.hid (below_callS W1.out hb2)
    go_wp2_with fail
    refine Calls.mono (HB2.out _ hb2) ?_
    rintro e w3 ⟨rfl, hb3⟩
    have A3 := Lib.hid (A2.out.keep hb3)
    have B3 := Lib.hid (B2.out.keep hb3)
    have W3 := Lib.hid (below_callS W2.out hb3)
    clear hb3 hb2 A2 B2 W2 A1 B1 W1 HA HB2
    go_wp2_with fail
    refine Calls.mono (spec_DrawCountWords B3.out hn) ?_
    rintro e w4 ⟨a4, n4, c4, l4, s4, rfl, ho, hn4, hz, hs4, hb4⟩
    have C4 := Lib.hid (ho.fw hz)
    have A4 := Lib.hid (A3.out.keep hb4)
    have B4 := Lib.hid (B3.out.keep hb4)
    have W4 := Lib.hid (below_callS W3.out hb4)
    clear ho hz hb4 A3 B3 W3
    have KI := Lib.hid (fun (wx : World) (hw : Below w4.heap.size w4 wx) => impl_CountWords (s := s4) (HLV.out.keep (below_callS W4.out hw)) (C4.out.keep hw) (by omega) (by omega))
    have KS := Lib.hid (fun (wx : World) (hw : Below w4.heap.size w4 wx) => spec_CountWords (s := s4) (C4.out.keep hw) (by omega) (by omega))
    clear C4
    generalize cwN l4 s4 = N at *
    generalize cwC l4 s4 = C at *
    have q3 : (N != N) = false := by simp
    have q4 : (C != C) = false := by simp
    go_wp2_with fail
    refine Calls.mono (KI.out _ (Below.refl _ _)) ?_
    rintro e w5 ⟨rfl, hb5⟩
    have A5 := Lib.hid (A4.out.keep hb5)
    have B5 := Lib.hid (B4.out.keep hb5)
    have W5 := Lib.hid (below_callS W4.out hb5)
    clear A4 B4 W4 KI
    go_wp2_with fail
    refine Calls.mono (KS.out _ hb5) ?_
    rintro e w6 ⟨rfl, hb6⟩
    have A6 := Lib.hid (A5.out.keep hb6)
    have B6 := Lib.hid (B5.out.keep hb6)
    have W6 := Lib.hid (below_callS W5.out hb6)
    clear hb6 hb5 A5 B5 W5 KS
    go_wp2_with fail
    refine Calls.mono (spec_DrawIsToken B6.out hn) ?_
    rintro e w7 ⟨kx, tx, rfl, hkx, htx, hb7⟩
    have A7 := Lib.hid (A6.out.keep hb7)
    have W7 := Lib.hid (below_callS W6.out hb7)
    clear hb7 A6 B6 W6 hs4
    have KI := Lib.hid (fun (wx : World) (hw : Below w7.heap.size w7 wx) => impl_IsToken (k := kx) (t := tx) (HLV.out.keep (below_callS W7.out hw)) (by omega))
    have KS := Lib.hid (fun (wx : World) => spec_IsToken (k := kx) (t := tx) (w := wx) (by omega))
    generalize tokB ⟨kx, tx⟩ = B at *
    have q5 : (B != B) = false := by simp
    go_wp2_with fail
    obtain ⟨wA, hwA⟩ : ∃ v, v = w7.alloc (.cells #[.int .i64 kx, .string tx] 33) := ⟨_, rfl⟩
    have hbr : Below w7.heap.size w7 wA := by rw [hwA]; exact below_alloc1 (Below.refl _ _) _
    have hBK : Blk wA w7.heap.size #[.int .i64 kx, .string tx] 33 := by rw [hwA]; exact Blk.made w7 _ _
    have f0 := hBK.cell 0
    have f1 := hBK.cell 1
    have hpl := hBK.lt
    simp only [List.getElem?_toArray, List.getElem?_cons_zero, List.getElem?_cons_succ] at f0 f1
    have AA := Lib.hid (A7.out.keep hbr)
    have WA := Lib.hid (below_callS W7.out hbr)
    have KJ := Lib.hid (fun (wx : World) (hw : Below wA.heap.size wA wx) => KI.out wx (below_callS hbr hw))
    rw [← hwA]
    clear hwA hBK hbr A7 W7 KI
    generalize w7.heap.size = p at *
    go_region_held3 (fun wx => wx.cell? ⟨p, 0, none⟩ = some (.int .i64 kx) ∧ wx.cell? ⟨p, 1, none⟩ = some (.string tx) ∧ p < wx.heap.size ∧ Below wA.heap.size wA wx) (((try go_split_ands); (repeat' apply And.intro) <;> first | assumption | exact Below.drew (Below.refl _ _) | exact Blk.keep (by assumption) hbx | exact Blk.drew (by assumption) | exact Blk.drew (Blk.made _ _ _) | exact Below.drew (by assumption) | exact Below.drew (below_allocS (by first | exact Below.refl _ _ | assumption) _) | exact below_callS (by assumption) hbx | exact below_call (by assumption) hbx (Below.size (by assumption)) | exact (hcx _ _ (by assumption)).trans (by assumption) | omega | (simp [*]; done) | (simp; omega))) (first | (go_at_call 13; refine Calls.mono (KJ.out _ (by first | assumption | exact Below.drew (Below.refl _ _))) ?_; rintro e wx2 ⟨rfl, hbx⟩; obtain ⟨hcx, hfx⟩ := bcell hbx; have hsx := hbx.size) | (go_at_call 14; refine Calls.mono (KS.out _) ?_; rintro e wx2 ⟨rfl, hbx⟩; obtain ⟨hcx, hfx⟩ := bcell hbx; have hsx := hbx.size))
    go_split_ands
    have hqx : Below wA.heap.size wA wx2 := by first | assumption | exact bel
    have AX := Lib.hid (AA.out.keep hqx)
    have WX := Lib.hid (below_callS WA.out hqx)
    have KR := Lib.hid (impl_ReadTokens (s := S) (HLV.out.keep WX.out) (by omega))
    clear AA WA KJ KS
    by_cases hT0 : T = 0
    · have hT1 : (T != 0) = false := by simpa using hT0
      rcases HR.out hT0 with ⟨h6, h3⟩ | ⟨h0, hl⟩
      · rw [h3] at KR
        have h6' : 6000 < (S.size : Int) := by omega
        clear HR
        go_wp2_with fail
        refine Calls.mono KR.out ?_
        rintro e w8 ⟨n8, a8, c8, rfl, hb8, ho8⟩
        clear ho8
        go_wp2_with fail
        go_ret
        exact ⟨rfl, below_callS WX.out hb8⟩
      · rw [h0, hl] at KR
        clear HR
        go_wp2_with fail
        refine Calls.mono KR.out ?_
        rintro e w8 ⟨n8, a8, c8, rfl, hb8, ho8⟩
        have O8 := Lib.hid ho8.flats
        have A8 := Lib.hid (show FT w8 a1 n1 c1 l from ⟨AX.out.len, AX.out.cap, (AX.out.keep hb8).pos, fun x hx => (AX.out.wf x hx).1, AX.out.nil⟩)
        obtain rfl : n8 = n1 := by have h1 := ho8.len; have h2 := AX.out.len; omega
        have W8 := Lib.hid (below_callS WX.out hb8)
        clear ho8 hb8
        go_wp2_with fail
        refine Calls.mono (laws_likeTokens5 O8.out A8.out (by omega)) ?_
        rintro e w9 ⟨rfl, hb9⟩
        go_wp2
        go_ret
        exact ⟨rfl, below_callS W8.out hb9⟩
    · have hT1 : (T != 0) = true := by simpa using hT0
      go_wp2
      go_ret
      exact ⟨rfl, WX.out⟩
  · have hn' : ¬ n ≤ 4096 := hn
    go_enter Tryd.func3, Tryd.ntmps3
    go_wp2_with fail
    refine Calls.mono (laws_big_yes hn) ?_
    rintro e _ ⟨rfl, rfl⟩
    go_wp2
    go_ret
    exact ⟨rfl, Below.refl _ _⟩
end Go.Proofs.YtjneodmohkpckaaDoor
