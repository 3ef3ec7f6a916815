/- The law FnTexts: a text has tokens exactly if nothing in it is wrong, and they do not depend on its comments. -/
import Derived.Test.YtjneodmohkpckaaGreatDoorPj
import Derived.Test.YtjneodmohkpckaaGreatDoorPh
import Derived.Test.YtjneodmohkpckaaGreatDoorJd
import Derived.Test.YtjneodmohkpckaaGreatDoorT12l
import Derived.Test.YtjneodmohkpckaaGreatDoorEb
import Derived.Test.YtjneodmohkpckaaGreatDoorBg
namespace Go.Proofs.YtjneodmohkpckaaGreatDoor
open Go.RowKit
set_option linter.unusedVariables false
set_option linter.unusedSimpArgs false
theorem sc_ge : ∀ (f : Nat) (l : List UInt8) (a : Nat), -1 ≤ (scL l f a).2
  | 0, l, a => by simp [scL]
  | f + 1, l, a => by
    cases hc : l[a]? with
    | none => rw [scL_none hc]; simp
    | some c =>
      cases hk : (nxS l a c).ok with
      | false => rw [scL_bad hc hk]; show (-1 : Int) ≤ (a : Int); omega
      | true =>
        by_cases h0 : 0 < (nxS l a c).k
        · rw [scL_tok hc hk h0]; exact sc_ge f l _
        · rw [scL_skip hc hk h0]; exact sc_ge f l _
theorem scS_list {s : ByteArray} (h : ¬ 6000 < s.size) : (scS s).data.toList = stF false s.data.toList := by rw [scS, if_neg h]
theorem scS_size {s : ByteArray} : (scS s).size ≤ 6000 := by
  by_cases h : 6000 < s.size
  · rw [scS, if_pos h]; decide
  · have h1 := str_len (scS s)
    rw [scS_list h] at h1
    have h2 := stF_len s.data.toList false
    rw [str_len] at h2
    omega
theorem rt_strip {s : ByteArray} (h : ¬ 6000 < s.size) : rtC (scS s) = rtC s ∧ rtL (scS s) = rtL s := by
  have h1 : ¬ 6000 < (scS s).size := by have := @scS_size s; omega
  obtain ⟨e1, e2⟩ := sc_strip s.data.toList
  have g1 := sc_ge (s.data.toList.length + 1) s.data.toList 0
  have g2 := sc_ge ((stF false s.data.toList).length + 1) (stF false s.data.toList) 0
  rw [← scT] at g1 g2
  have e3 := decide_eq_decide.1 e2
  rw [rtC, rtC, rtL, rtL, if_neg h, if_neg h1, if_neg h, if_neg h1, scS_list h, e1]
  by_cases hb : (scT s.data.toList).2 = -1
  · have hb' := e3.2 hb
    have n1 : ¬ 0 ≤ (scT s.data.toList).2 := by omega
    have n2 : ¬ 0 ≤ (scT (stF false s.data.toList)).2 := by omega
    simp only [if_neg n1, if_neg n2, and_self]
  · have hb' : ¬ (scT (stF false s.data.toList)).2 = -1 := fun h => hb (e3.1 h)
    have n1 : 0 ≤ (scT s.data.toList).2 := by omega
    have n2 : 0 ≤ (scT (stF false s.data.toList)).2 := by omega
    simp only [if_pos n1, if_pos n2, and_self]
theorem rt_bad {s : ByteArray} (h : ¬ 6000 < s.size) : (0 ≤ (ftC s).1 ∧ rtC s = 6) ∨ (¬ 0 ≤ (ftC s).1 ∧ rtC s ≠ 6) := by
  rw [rtC, ftC, if_neg h, if_neg h]
  by_cases hb : 0 ≤ (scT s.data.toList).2
  · exact Or.inl ⟨hb, if_pos hb⟩
  · refine Or.inr ⟨hb, ?_⟩
    rw [if_neg hb]
    split <;> decide
theorem rt_big {s : ByteArray} (h : 6000 < s.size) : rtC s = 3 := if_pos h
theorem OwnTk.ft {w : World} {base : Nat} {a : Option Addr} {n c : Nat} {l : List TR} (h : OwnTk w base a n c l) : FT w a n c l := h.flats
set_option maxHeartbeats 4000000 in
theorem law_FnTexts {a : Option Addr} {n c : Nat} {w : World} (hT : Tab w 0 (strsCells kwNm)) (hL : LV w) (hM : MLc w) (hB : Byts w a n c) : Calls Tryz.prog 4 #[.slice a n c] w fun e w' => e = .returned (.bool true) ∧ Below w.heap.size w w' := by
  have HB := Lib.hid hB
  have HT := Lib.hid hT
  have HLV := Lib.hid hL
  have HM := Lib.hid hM
  clear hB hT hL hM
  by_cases hn : n ≤ 4096
  · go_enter Tryz.func4, Tryz.ntmps4
    go_wp2_with fail
    refine Calls.mono (laws_big_no hn) ?_
    rintro e _ ⟨rfl, rfl⟩
    go_wp2_with fail
    refine Calls.mono (spec_DrawReadTokens HB.out hn) ?_
    rintro e w1 ⟨t, rfl, ht, hb1⟩
    have W1 := Lib.hid hb1
    have B1 := Lib.hid (HB.out.keep hb1)
    have K1 := Lib.hid (fun (wx : World) (hw : Below w1.heap.size w1 wx) => impl_ReadTokens (s := t) (HLV.out.keep (below_callS W1.out hw)) (by omega))
    have K2 := Lib.hid (fun (wx : World) => spec_ReadTokens (s := t) (w := wx) (by omega))
    have K3 := Lib.hid (fun (wx : World) (hw : Below w1.heap.size w1 wx) => impl_FirstBadByte (s := t) (HLV.out.keep (below_callS W1.out hw)) (by omega))
    have K4 := Lib.hid (fun (wx : World) => spec_FirstBadByte (s := t) (w := wx) (by omega))
    have K5 := Lib.hid (fun (wx : World) (hw : Below w1.heap.size w1 wx) => impl_StripComments (s := t) (HM.out.keep (below_callS W1.out hw)) (by omega))
    have K6 := Lib.hid (fun (wx : World) => spec_StripComments (s := t) (w := wx) (by omega))
    have hS := @scS_size t
    have K7 := Lib.hid (fun (wx : World) (hw : Below w1.heap.size w1 wx) => impl_ReadTokens (s := scS t) (HLV.out.keep (below_callS W1.out hw)) (by omega))
    have HR := Lib.hid (fun h => @rt_strip t h)
    have HR2 := Lib.hid (fun h => @rt_bad t h)
    have HR3 := Lib.hid (fun h => @rt_big t h)
    have HSC := Lib.hid (show scC t = if 6000 < t.size then 3 else 0 from rfl)
    obtain ⟨L, hLd⟩ : ∃ x, x = rtL t := ⟨_, rfl⟩
    obtain ⟨C, hCd⟩ : ∃ x, x = rtC t := ⟨_, rfl⟩
    obtain ⟨N, hNd⟩ : ∃ x, x = (ftC t).1 := ⟨_, rfl⟩
    obtain ⟨M, hMd⟩ : ∃ x, x = (ftC t).2 := ⟨_, rfl⟩
    rw [← hLd, ← hCd] at K1 K2
    rw [← hNd, ← hMd] at K3 K4
    rw [← hLd, ← hCd] at HR
    rw [← hNd, ← hCd] at HR2
    rw [← hCd] at HR3
    have q1 : (C != C) = false := by simp
    have q2 : (N != N) = false := by simp
    have q3 : (M != M) = false := by simp
    have hLn : L.length ≤ 1000000 := by
      rw [hLd, rtL]
      split
      · simp
      · split
        · simp
        · split
          · simp
          · omega
    clear hLd hCd hNd hMd hb1 ht
    generalize scS t = S at *
    generalize scC t = P at *
    have q4 : (P != P) = false := by simp
    have q5 : (S.toList != S.toList) = false := by simp
    go_wp2_with fail
    refine Calls.mono (K1.out _ (Below.refl _ _)) ?_
    rintro e w2 ⟨n2, a2, c2, rfl, hb2, ho2⟩
    have A2 := Lib.hid ho2.ft
    have hn2 : n2 ≤ 1048576 := by have := ho2.len; omega
    have V2 := Lib.hid hb2
    clear ho2 hb2
    go_wp2_with fail
    refine Calls.mono (K2.out _) ?_
    rintro e w3 ⟨n3, a3, c3, rfl, hb3, ho3⟩
    have A3 := Lib.hid (A2.out.keep hb3)
    have F3' := Lib.hid ho3.ft
    have V3 := Lib.hid (below_callS V2.out hb3)
    clear ho3 hb3 A2 V2
    go_wp2_with fail
    refine Calls.mono (K3.out _ V3.out) ?_
    rintro e w4 ⟨rfl, hb4⟩
    have A4 := Lib.hid (A3.out.keep hb4)
    have F4' := Lib.hid (F3'.out.keep hb4)
    have V4 := Lib.hid (below_callS V3.out hb4)
    clear hb4 A3 F3' V3
    go_wp2_with fail
    refine Calls.mono (K4.out _) ?_
    rintro e w5 ⟨rfl, hb5⟩
    have A5 := Lib.hid (A4.out.keep hb5)
    have F5' := Lib.hid (F4'.out.keep hb5)
    have V5 := Lib.hid (below_callS V4.out hb5)
    clear hb5 A4 F4' V4
    go_wp2_with fail
    refine Calls.mono (K5.out _ V5.out) ?_
    rintro e w6 ⟨rfl, hb6⟩
    have A6 := Lib.hid (A5.out.keep hb6)
    have F6' := Lib.hid (F5'.out.keep hb6)
    have V6 := Lib.hid (below_callS V5.out hb6)
    clear hb6 A5 F5' V5
    go_wp2_with fail
    refine Calls.mono (K6.out _) ?_
    rintro e w7 ⟨rfl, hb7⟩
    have A7 := Lib.hid (A6.out.keep hb7)
    have F7' := Lib.hid (F6'.out.keep hb7)
    have V7 := Lib.hid (below_callS V6.out hb7)
    clear hb7 A6 F6' V6
    go_wp2_with fail
    refine Calls.mono (spec_DrawIsKeyword (B1.out.keep V7.out) hn) ?_
    rintro e w8 ⟨u, rfl, hu, hb8⟩
    have A8 := Lib.hid (A7.out.keep hb8)
    have F8' := Lib.hid (F7'.out.keep hb8)
    have V8 := Lib.hid (below_callS V7.out hb8)
    clear hb8 A7 F7' V7 K1 K2 K3 K4 K5 K6
    have KL := Lib.hid (fun (wx : World) (hw : Below w8.heap.size w8 wx) => laws_likeTokens5 (A8.out.keep hw) (F8'.out.keep hw) hn2)
    have KI := Lib.hid (fun (wx : World) (hw : Below w8.heap.size w8 wx) => impl_IsKeyword (s := u) (HT.out.keep (below_callS W1.out (below_callS V8.out hw))))
    have KS := Lib.hid (fun (wx : World) => spec_IsKeyword (s := u) (w := wx))
    have q6 : ((decide (0 ≤ kwI u)) != (decide (0 ≤ kwI u))) = false := by simp
    generalize decide (0 ≤ kwI u) = U at *
    go_wp2_with fail
    refine Calls.mono (KL.out _ (Below.refl _ _)) ?_
    rintro e w9 ⟨rfl, hb9⟩
    go_wp2_with fail
    refine Calls.mono (KI.out _ hb9) ?_
    rintro e _ ⟨rfl, rfl⟩
    go_wp2_with fail
    refine Calls.mono (KS.out _) ?_
    rintro e w10 ⟨rfl, hb10⟩
    have A10 := Lib.hid (A8.out.keep (below_callS hb9 hb10))
    have V10 := Lib.hid (below_callS V8.out (below_callS hb9 hb10))
    clear hb9 hb10 A8 F8' V8 KL KI KS
    by_cases h6 : 6000 < t.size
    · have hP : P = 3 := by rw [HSC.out, if_pos h6]
      have hC := HR3.out h6
      subst hP hC
      go_wp2
      go_ret
      exact ⟨rfl, below_callS W1.out V10.out⟩
    · have hP : P = 0 := by rw [HSC.out, if_neg h6]
      subst hP
      obtain ⟨e1, e2⟩ := HR.out h6
      rw [e1, e2] at K7
      have H2 := Lib.hid (HR2.out h6)
      clear e1 e2 HR HR2 HR3 HSC
      go_wp2_with fail
      refine Calls.mono (K7.out _ V10.out) ?_
      rintro e w11 ⟨n11, a11, c11, rfl, hb11, ho11⟩
      have A11 := Lib.hid (A10.out.keep hb11)
      have F11 := Lib.hid ho11.ft
      have hn11 : n11 ≤ 1048576 := by have := ho11.len; omega
      have V11 := Lib.hid (below_callS W1.out (below_callS V10.out hb11))
      clear ho11 hb11 A10 V10
      rcases H2.out with ⟨h0, hC⟩ | ⟨h0, hC⟩
      · subst hC
        go_wp2_with fail
        refine Calls.mono (laws_likeTokens5 F11.out A11.out hn11) ?_
        rintro e w12 ⟨rfl, hb12⟩
        go_wp2
        go_ret
        exact ⟨rfl, below_callS V11.out hb12⟩
      · have hC' : (C == 6) = false := by simpa using hC
        have qC : (C == C) = true := by simp
        go_wp2_with fail
        refine Calls.mono (laws_likeTokens5 F11.out A11.out hn11) ?_
        rintro e w12 ⟨rfl, hb12⟩
        go_wp2
        go_ret
        exact ⟨ret_bool (by simp [h0]), below_callS V11.out hb12⟩
  · go_enter Tryz.func4, Tryz.ntmps4
    go_wp2_with fail
    refine Calls.mono (laws_big_yes hn) ?_
    rintro e _ ⟨rfl, rfl⟩
    go_wp2
    go_ret
    exact ⟨rfl, Below.refl _ _⟩
end Go.Proofs.YtjneodmohkpckaaGreatDoor
