/- Reading tokens: the program, walked. -/
import Derived.Test.YtjneodmohkpckaaGreatDoorT12k
import Derived.Test.YtjneodmohkpckaaGreatDoorTk
namespace Go.Proofs.YtjneodmohkpckaaGreatDoor
open Go.RowKit
set_option linter.unusedVariables false
set_option linter.unusedSimpArgs false
theorem OwnTk.nil (w : World) (base : Nat) : OwnTk w base none 0 0 [] := ⟨World.ownsRow_nil w _ _ _, (fun _ h => by cases h), rfl, fun _ => rfl⟩
theorem sub_at {l : List UInt8} {a k : Nat} (h : a + k ≤ l.length) : (subL l a (a + k)).length = k := by
  rw [subL, List.length_take, List.length_drop]; omega
theorem nx_same {l : List UInt8} {a : Nat} {c : UInt8} (h : l[a]? = some c) (h1 : ¬ (c.toNat = 32 ∨ c.toNat = 10)) (h2 : ¬ c.toNat = 35) :
    nxS l a c = ⟨(nxI l a c).k, (nxI l a c).t, a + (nxI l a c).t.length, (nxI l a c).ok⟩ := by
  have ha : a < l.length := (List.getElem?_eq_some_iff.1 h).1
  have hle : ∀ p, a + runL p (l.drop a) ≤ l.length := fun p => by have := runL_le p (l.drop a); rw [List.length_drop] at this; omega
  rw [nxS, if_neg h1, if_neg h2, nxI]
  by_cases h3 : letP c = true
  · rw [if_pos h3, if_pos h3]
    simp only [sub_at (hle innP)]
  · rw [if_neg h3, if_neg h3]
    by_cases h4 : digP c = true
    · rw [if_pos h4, if_pos h4]
      simp only [sub_at (hle digP)]
      congr 2
      generalize hk : runL digP (l.drop a) = k
      have hst : ∀ d, l[a + k]? = some d → digP d = false := fun d hd => by
        refine runL_stop (l := l.drop a) ?_
        rw [hk, List.getElem?_drop]; exact hd
      cases hd : l[a + k]? with
      | none =>
        have : l.drop (a + k) = [] := by
          rw [List.drop_eq_nil_iff]
          exact List.getElem?_eq_none_iff.1 hd
        rw [this]; rfl
      | some d =>
        have h5 := hst d hd
        have hlt := (List.getElem?_eq_some_iff.1 hd).1
        have h6 : l.drop (a + k) = d :: l.drop (a + k + 1) := by
          rw [List.drop_eq_getElem_cons hlt]
          have := (List.getElem?_eq_some_iff.1 hd).2
          rw [this]
        have h7 : innP d = luP d := by rw [innP, luP, h5, Bool.or_false]
        rw [h6, Option.any_some, h7, runL, List.takeWhile_cons]
        cases luP d <;> simp
    · rw [if_neg h4, if_neg h4]
      rfl
def scO (l : List UInt8) : List TR := if 0 ≤ (scT l).2 then [] else (scT l).1
theorem scL_low (l : List UInt8) : ∀ f a, (scL l f a).2 = -1 ∨ 0 ≤ (scL l f a).2
  | 0, a => .inl rfl
  | f + 1, a => by
    rw [scL]
    split
    · exact .inl rfl
    · split
      · split
        · exact scL_low l f _
        · exact scL_low l f _
      · exact .inr (by simp)
set_option maxHeartbeats 4000000 in
set_option maxRecDepth 100000 in
theorem impl_scan {s : ByteArray} {w : World} (hL : LV w) (hz : s.size ≤ 1048576) :
    Calls Tryz.prog 64 #[.string s] w fun e w' => ∃ n a c, e = .returned (.tuple #[.slice a n c, .int .i64 (scT s.data.toList).2]) ∧ Below w.heap.size w w' ∧ OwnTk w' w.heap.size a n c (scO s.data.toList) ∧ n ≤ s.size := by
  have HLV := Lib.hid hL
  clear hL
  go_enter Tryz.func64, Tryz.ntmps64
  go_wp2_with fail
  go_loopw [4, 5] (fun s4 s5 wr => ∃ (a f n : Nat) (a1 : Option Addr) (c1 : Nat) (L : List TR), s4 = .slice a1 n c1 ∧ s5 = .int .i64 a ∧ a ≤ s.size ∧ n ≤ a ∧ Below w.heap.size w wr ∧ Hid (s.size - a < f) ∧ Hid (L ++ (scL s.data.toList f a).1 = (scT s.data.toList).1 ∧ (scL s.data.toList f a).2 = (scT s.data.toList).2) ∧ Hid (OwnTk wr w.heap.size a1 n c1 L)) (fun _ s5 _ => s.size - (intOf s5).toNat)
  case atStart => exact ⟨0, s.data.toList.length + 1, 0, _, 0, [], rfl, rfl, by omega, by omega, bel, Lib.hid (by rw [str_len]; omega), Lib.hid ⟨rfl, rfl⟩, Lib.hid (OwnTk.nil _ _)⟩
  case round =>
    obtain ⟨a, f, n, a1, c1, L, rfl, rfl, ha, hna, hbl, HF, HE, HO⟩ := hrel
    have hsz := hbl.size
    by_cases hlt : a < s.size
    · have hlt' : (a : Int) < (s.size : Int) := by omega
      have ha0 : (0 : Int) ≤ (a : Int) := by omega
      have hc := str_get hlt
      obtain ⟨f', rfl⟩ : ∃ f', f = f' + 1 := ⟨f - 1, by have := HF.out; omega⟩
      have hbad := scL_bad (f := f') hc
      have htok := scL_tok (f := f') hc
      have hskip := scL_skip (f := f') hc
      by_cases h1 : s[a].toNat = 32 ∨ s[a].toNat = 10
      · have hx : nxS s.data.toList a s[a] = ⟨0, [], a + 1, true⟩ := if_pos h1
        rw [hx] at hskip
        have hb := hskip rfl (by simp)
        have HE2 := Lib.hid (show L ++ (scL s.data.toList f' (a + 1)).1 = (scT s.data.toList).1 ∧ (scL s.data.toList f' (a + 1)).2 = (scT s.data.toList).2 by have h := HE.out; rw [hb] at h; exact h)
        have HF2 := Lib.hid (show s.size - (a + 1) < f' by have := HF.out; omega)
        clear hbad htok hskip hx hb hc HE HF
        rcases h1 with h1 | h1
        all_goals
          go_wp2_with fail
          go_roundw
          case rel => exact ⟨a + 1, f', n, a1, c1, L, rfl, by rw [show ((a + 1 : Nat) : Int) = (a : Int) + 1 by omega], by omega, by omega, hbl, HF2, HE2, HO⟩
          case measure => simp [intOf]; omega
      · have g32 : ((s[a].toNat : Int) == 32) = false := by rw [beq_eq_false_iff_ne]; omega
        have g10 : ((s[a].toNat : Int) == 10) = false := by rw [beq_eq_false_iff_ne]; omega
        by_cases h2 : s[a].toNat = 35
        · have g35 : ((s[a].toNat : Int) == 35) = true := by rw [beq_iff_eq]; omega
          have hx : nxS s.data.toList a s[a] = ⟨0, [], a + runL no10 (s.data.toList.drop a), true⟩ := by rw [nxS, if_neg h1, if_pos h2]
          rw [hx] at hskip
          have hb := hskip rfl (by simp)
          have hda : (s.data.toList.drop a)[0]? = some s[a] := by rw [List.getElem?_drop, Nat.add_zero]; exact hc
          have HP := Lib.hid (runL_pos (p := no10) hda (by simp [no10, h2]))
          have hdl : (s.data.toList.drop a).length = s.size - a := by simp
          have HDL := Lib.hid hdl
          obtain ⟨kk, hkk⟩ : ∃ kk, kk = runL no10 (s.data.toList.drop a) := ⟨_, rfl⟩
          rw [← hkk] at hb
          have HE2 := Lib.hid (show L ++ (scL s.data.toList f' (a + kk)).1 = (scT s.data.toList).1 ∧ (scL s.data.toList f' (a + kk)).2 = (scT s.data.toList).2 by have h := HE.out; rw [hb] at h; exact h)
          have HF2 := Lib.hid (show s.size - (a + kk) < f' by have := HF.out; have := HP.out; omega)
          have HP2 := Lib.hid (show 1 ≤ kk by have := HP.out; omega)
          have HKK := Lib.hid hkk
          clear hbad htok hskip hx hb hc HE HF h1 h2 hda hdl hkk HP
          go_wp2_with fail
          go_loop [5] (fun s5 => ∃ k : Nat, s5 = .int .i64 ((a + k : Nat) : Int) ∧ a + k ≤ s.size ∧ Hid (((s.data.toList.drop a).take k).all no10 = true)) (fun s5 => s.size - (intOf s5).toNat)
          case atStart => exact ⟨0, rfl, by omega, Lib.hid rfl⟩
          case round =>
            obtain ⟨k, rfl, hk, A⟩ := hrel
            by_cases hlt9 : a + k < s.size
            · have hlt2 : ((a + k : Nat) : Int) < (s.size : Int) := by omega
              have hlt0 : (0 : Int) ≤ ((a + k : Nat) : Int) := by omega
              have Hc := Lib.hid (show (s.data.toList.drop a)[k]? = some s[a + k] by rw [List.getElem?_drop]; exact str_get hlt9)
              have hu2 := s[a + k].toNat_lt
              by_cases hq : s[a + k].toNat = 10
              · have gq : ((s[a + k].toNat : Int) != 10) = false := by rw [bne_eq_false_iff_eq]; omega
                have HKE := Lib.hid (show kk = k by rw [HKK.out]; exact runL_eq (by rw [HDL.out]; omega) A.out (fun c hc => by rw [Hc.out] at hc; cases hc; simp [no10, hq]))
                clear hq
                go_wp2_with fail
                go_roundw
                case rel => exact ⟨a + k, f', n, a1, c1, L, rfl, rfl, by omega, by omega, hbl, by rw [← HKE.out]; exact HF2, by rw [← HKE.out]; exact HE2, HO⟩
                case measure => simp [intOf]; have := HKE.out; have := HP2.out; omega
              · have gq : ((s[a + k].toNat : Int) != 10) = true := by rw [bne_iff_ne]; omega
                have HA := Lib.hid (all_take_step Hc.out A.out (by simp [no10, hq]))
                clear hq
                go_wp2_with fail
                go_round
                case rel => exact ⟨k + 1, by rw [show ((a + (k + 1) : Nat) : Int) = (a : Int) + k + 1 by omega], by omega, HA⟩
                case measure => simp [intOf]; omega
            · have hlt2 : ¬ ((a + k : Nat) : Int) < (s.size : Int) := by omega
              have HKE := Lib.hid (show kk = k by rw [HKK.out]; exact runL_eq (by rw [HDL.out]; omega) A.out (fun c hc => by have := (List.getElem?_eq_some_iff.1 hc).1; rw [HDL.out] at this; omega))
              go_wp2_with fail
              go_roundw
              case rel => exact ⟨a + k, f', n, a1, c1, L, rfl, rfl, by omega, by omega, hbl, by rw [← HKE.out]; exact HF2, by rw [← HKE.out]; exact HE2, HO⟩
              case measure => simp [intOf]; have := HKE.out; have := HP2.out; omega
        · have g35 : ((s[a].toNat : Int) == 35) = false := by rw [beq_eq_false_iff_ne]; omega
          have hx := nx_same hc h1 h2
          have he := nx_e hc
          have hk := nx_k (l := s.data.toList) (a := a) (c := s[a])
          have ht := nx_t hc
          have KN := impl_next (w := wr) (HLV.out.keep hbl) hlt hz
          have h0 : 0 < (nxI s.data.toList a s[a]).k := by
            rw [nxI]; split
            · simp
            · split <;> simp
          rw [hx] at hbad htok he hk ht
          rw [str_len] at he ht
          generalize nxI s.data.toList a s[a] = x at *
          obtain ⟨xk, xt, xo⟩ := x
          simp only at he hk ht hbad htok h0
          cases xo
          · have hb := hbad rfl
            have HE2 := Lib.hid (show L = (scT s.data.toList).1 ∧ (a : Int) = (scT s.data.toList).2 by have h := HE.out; rw [hb] at h; simpa using h)
            have HK := Lib.hid KN
            clear hb hbad htok hskip KN HE hc ht hx h1 h2
            go_wp2_with fail
            refine Calls.mono HK.out ?_
            rintro e w1 ⟨rfl, hb1⟩
            have hs1 := hb1.size
            have hbl1 := below_callS hbl hb1
            go_wp2
            exact bodyPost_ret (v := .tuple #[.slice none 0 0, .int .i64 (a : Int)]) (by simp [results, Tryz.results64, go_sem]) rfl ⟨0, none, 0, by rw [← HE2.out.2], bel, by rw [scO, if_pos (by rw [← HE2.out.2]; omega)]; exact OwnTk.nil _ _, by omega⟩
          · have hb := htok rfl h0
            have HE2 := Lib.hid (show (L ++ [⟨xk, strL xt⟩]) ++ (scL s.data.toList f' (a + xt.length)).1 = (scT s.data.toList).1 ∧ (scL s.data.toList f' (a + xt.length)).2 = (scT s.data.toList).2 by have h := HE.out; rw [hb] at h; simpa using h)
            have HK := Lib.hid KN
            have hxok : (⟨xk, strL xt⟩ : TR).ok := show I64 xk ∧ (strL xt).size ≤ maxLen from ⟨by unfold I64; omega, by rw [strL_size]; unfold maxLen; omega⟩
            have HX := Lib.hid hxok
            have HF2 := Lib.hid (show s.size - (a + xt.length) < f' by have := HF.out; omega)
            obtain ⟨S, hS⟩ : ∃ S, S = strL xt := ⟨_, rfl⟩
            have hSz : S.size = xt.length := by rw [hS, strL_size]
            rw [← hS] at HK HX HE2
            generalize xt.length = m at *
            clear hb hbad htok hskip KN HE hc ht hS hxok HF hx h1 h2
            go_wp2_with fail
            refine Calls.mono HK.out ?_
            rintro e w1 ⟨rfl, hb1⟩
            have hs1 := hb1.size
            have HO1 := Lib.hid (HO.out.keep hb1)
            have hbl1 := below_callS hbl hb1
            clear hb1 HK
            have hfl := Lib.hid (flats1 (w := w1.alloc (.cells #[.int .i64 xk, .string S] 88)) HX.out 88)
            simp at hfl
            go_wp2_with (at_builtin; refine appendL_F rfl _ _ 36 88 rfl Tryz.underlying36 Tryz.infoTk rfl (by decide) (by decide) TR.one w.heap.size _ _ _ _ (HO1.out.keep (show Below w1.heap.size w1 _ from bel)) rfl _ _ _ _ rfl hfl.out (by omega) (by omega) (by simp; omega) ?_; intro a3 c3 w3 hown3 hb3 hg3 hn3; have hbl3 : Below w.heap.size w w3 := Below.trans bel hb3; have hB3 := ((Blk.made w1 #[.int .i64 xk, .string S] 88).keep (show Below _ _ (World.alloc _ (.cells #[.int .i64 xk, .string S] 88)) from bel)).keepG hg3 (fun e => by have := (HO1.out.1.lt _ e).2; omega); have x1 := hB3.cell 1; have x2 := hB3.lt; simp at x1; have HB3 := Lib.hid hB3; clear hB3; have Hown3 := Lib.hid hown3; clear hown3 hg3 hn3 hb3 hfl)
            go_roundw
            case rel => exact ⟨a + m, f', n + 1, a3, c3, L ++ [⟨xk, S⟩], rfl, congrArg _ (by omega), by omega, by omega, hbl3, HF2, HE2, Hown3⟩
            case measure => simp [intOf]; omega
    · obtain rfl : a = s.size := by omega
      have hlt' : ¬ (s.size : Int) < (s.size : Int) := by omega
      have HE2 := Lib.hid (show L = (scT s.data.toList).1 ∧ -1 = (scT s.data.toList).2 by have h := HE.out; rw [scL_none (by rw [List.getElem?_eq_none_iff, str_len]; exact Nat.le_refl _)] at h; simpa using h)
      go_wp2
      exact bodyPost_ret (v := .tuple #[.slice a1 n c1, .int .i64 (-1)]) (by simp [results, Tryz.results64, go_sem]) rfl ⟨n, a1, c1, by rw [← HE2.out.2], hbl, by rw [scO, if_neg (by rw [← HE2.out.2]; omega), ← HE2.out.1]; exact HO.out, hna⟩
set_option maxHeartbeats 1000000 in
theorem impl_FirstBadByte {s : ByteArray} {w : World} (hL : LV w) (hz : s.size ≤ 1048576) : Calls Tryz.prog 19 #[.string s] w fun e w' => e = .returned (.tuple #[.int .i64 (ftC s).1, .int .i64 (ftC s).2]) ∧ Below w.heap.size w w' := by
  by_cases h : 6000 < s.size
  · have HC := Lib.hid (show ftC s = (0, 3) from if_pos h)
    have h' : 6000 < (s.size : Int) := by omega
    go_enter Tryz.func19, Tryz.ntmps19
    go_wp2
    exact bodyPost_ret (v := .tuple #[.int .i64 0, .int .i64 3]) (by simp [results, Tryz.results19, go_sem]) rfl ⟨by rw [HC.out], bel⟩
  · have HC := Lib.hid (show ftC s = ((scT s.data.toList).2, 0) from if_neg h)
    have h' : ¬ 6000 < (s.size : Int) := by omega
    have HK := Lib.hid (impl_scan hL hz)
    clear hL
    go_enter Tryz.func19, Tryz.ntmps19
    go_wp2_with fail
    refine Calls.mono HK.out ?_
    rintro e w1 ⟨n, a, c, rfl, hb1, ho, hn⟩
    clear ho
    go_wp2
    exact bodyPost_ret (v := .tuple #[.int .i64 (scT s.data.toList).2, .int .i64 0]) (by simp [results, Tryz.results19, go_sem]) rfl ⟨by rw [HC.out], hb1⟩
set_option maxHeartbeats 1000000 in
theorem impl_ReadTokens {s : ByteArray} {w : World} (hL : LV w) (hz : s.size ≤ 1048576) : Calls Tryz.prog 17 #[.string s] w fun e w' => ∃ n a c, e = .returned (.tuple #[.slice a n c, .int .i64 (rtC s)]) ∧ Below w.heap.size w w' ∧ OwnTk w' w.heap.size a n c (rtL s) := by
  have HNIL := Lib.hid (fun wx => OwnTk.nil wx w.heap.size)
  by_cases h : 6000 < s.size
  · have HC := Lib.hid (show rtC s = 3 ∧ rtL s = [] from ⟨if_pos h, if_pos h⟩)
    have h' : 6000 < (s.size : Int) := by omega
    go_enter Tryz.func17, Tryz.ntmps17
    go_wp2
    exact bodyPost_ret (v := .tuple #[.slice none 0 0, .int .i64 3]) (by simp [results, Tryz.results17, go_sem]) rfl ⟨0, none, 0, by rw [HC.out.1], bel, by rw [HC.out.2]; exact HNIL.out _⟩
  · have h' : ¬ 6000 < (s.size : Int) := by omega
    have hc : rtC s = (if 0 ≤ (scT s.data.toList).2 then 6 else if 800 < (scT s.data.toList).1.length then 3 else 0) ∧ rtL s = (if 0 ≤ (scT s.data.toList).2 then [] else if 800 < (scT s.data.toList).1.length then [] else (scT s.data.toList).1) := ⟨if_neg h, if_neg h⟩
    have hk := impl_scan hL hz
    have ho : scO s.data.toList = if 0 ≤ (scT s.data.toList).2 then [] else (scT s.data.toList).1 := rfl
    generalize scO s.data.toList = L at *
    generalize scT s.data.toList = r at *
    obtain ⟨r1, r2⟩ := r
    simp only at hc hk ho
    have HK := Lib.hid hk
    clear hk hL
    by_cases h2 : 0 ≤ r2
    · rw [if_pos h2, if_pos h2] at hc
      have HC := Lib.hid hc
      clear hc ho
      go_enter Tryz.func17, Tryz.ntmps17
      go_wp2_with fail
      refine Calls.mono HK.out ?_
      rintro e w1 ⟨n, a, c, rfl, hb1, ho, hn⟩
      clear ho
      go_wp2
      exact bodyPost_ret (v := .tuple #[.slice none 0 0, .int .i64 6]) (by simp [results, Tryz.results17, go_sem]) rfl ⟨0, none, 0, by rw [HC.out.1], hb1, by rw [HC.out.2]; exact HNIL.out _⟩
    · rw [if_neg h2, if_neg h2] at hc
      rw [if_neg h2] at ho
      subst ho
      by_cases h3 : 800 < L.length
      · rw [if_pos h3, if_pos h3] at hc
        have HC := Lib.hid hc
        have H3 := Lib.hid h3
        clear hc h3
        go_enter Tryz.func17, Tryz.ntmps17
        go_wp2_with fail
        refine Calls.mono HK.out ?_
        rintro e w1 ⟨n, a, c, rfl, hb1, ho, hn⟩
        have hn3 : 800 < (n : Int) := by have h1 := ho.len; have h2 := H3.out; omega
        clear ho
        go_wp2
        exact bodyPost_ret (v := .tuple #[.slice none 0 0, .int .i64 3]) (by simp [results, Tryz.results17, go_sem]) rfl ⟨0, none, 0, by rw [HC.out.1], hb1, by rw [HC.out.2]; exact HNIL.out _⟩
      · rw [if_neg h3, if_neg h3] at hc
        have HC := Lib.hid hc
        have H3 := Lib.hid h3
        clear hc h3
        go_enter Tryz.func17, Tryz.ntmps17
        go_wp2_with fail
        refine Calls.mono HK.out ?_
        rintro e w1 ⟨n, a, c, rfl, hb1, ho, hn⟩
        have hn3 : ¬ 800 < (n : Int) := by have h1 := ho.len; have h2 := H3.out; omega
        have HO := Lib.hid ho
        clear ho
        go_wp2
        exact bodyPost_ret (v := .tuple #[.slice a n c, .int .i64 0]) (by simp [results, Tryz.results17, go_sem]) rfl ⟨n, a, c, by rw [HC.out.1], hb1, by rw [HC.out.2]; exact HO.out⟩
end Go.Proofs.YtjneodmohkpckaaGreatDoor
