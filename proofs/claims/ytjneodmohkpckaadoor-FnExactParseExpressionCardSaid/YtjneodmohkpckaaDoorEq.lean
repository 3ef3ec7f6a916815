/- Expression lists: the reference's test, walked. -/
import Derived.Test.YtjneodmohkpckaaDoorEp
import Derived.Test.YtjneodmohkpckaaDoorAi
namespace Go.Proofs.YtjneodmohkpckaaDoor
open Go.RowKit
set_option linter.unusedVariables false
set_option linter.unusedSimpArgs false
theorem tkA_le (k : Int) : tkA k ≤ 2 := by
  unfold tkA
  split
  · omega
  · split <;> omega
theorem spec_l13Kind {k : Int} {w : World} : Calls Tryd.prog 101 #[.int .i64 k] w fun e w' => e = .returned (.bool (inB k 1 12)) ∧ w = w' := by
  go_enter Tryd.func101, Tryd.ntmps101
  go_wp2_with fail
  refine Calls.mono (spec_l01In) ?_
  rintro e _ ⟨rfl, rfl⟩
  go_wp2
  go_ret
  exact ⟨rfl, rfl⟩
set_option maxHeartbeats 2000000 in
theorem spec_l13Term {x : TM} {w : World} (hz : x.nm.size ≤ 1048576) : Calls Tryd.prog 83 #[.agg #[.int .i64 x.k, .string x.nm, .int .i64 x.n]] w fun e w' => e = .returned (.bool (tmB x)) ∧ Below w.heap.size w w' := by
  have H := Lib.hid (show tmB x = (inB x.k 1 12 && (inB x.n 0 9999 && ((numK x.k || x.n == 0) && (if x.k = 1 then wrdB x.nm.data.toList && decide (kwI x.nm < 0) else decide (x.nm.size = 0))))) from rfl)
  have HN := Lib.hid (fun (wx : World) => spec_l13Name (s := x.nm) (w := wx) hz)
  have HNB := Lib.hid (show namB x.nm = (wrdB x.nm.data.toList && decide (kwI x.nm < 0)) from rfl)
  have HS := Lib.hid (show decide (x.nm.size = 0) = x.nm.toList.isEmpty by
    have h1 := str_eq (a := x.nm) (b := ⟨#[]⟩)
    have h2 : (⟨#[]⟩ : ByteArray).toList = [] := by decide +kernel
    rw [h2] at h1
    have h3 : (x.nm.toList == []) = x.nm.toList.isEmpty := by cases x.nm.toList <;> rfl
    rw [← h3, h1]
    congr 1
    refine propext ⟨fun h => ?_, fun h => ?_⟩
    · exact List.eq_nil_of_length_eq_zero (by rw [str_len]; exact h)
    · have := congrArg List.length h
      rw [str_len] at this
      simpa using this)
  obtain ⟨k, nm, n⟩ := x
  dsimp only at H HN HNB HS hz ⊢
  have hbA : Below w.heap.size w (w.alloc (.cells #[.int .i64 k, .string nm, .int .i64 n] 66)) := below_alloc1 (Below.refl _ _) _
  cases hk : inB k 1 12
  · have HK := Lib.hid hk
    clear hk
    go_enter Tryd.func83, Tryd.ntmps83
    go_wp2_with fail
    refine Calls.mono (spec_l13Kind) ?_
    rintro e _ ⟨rfl, rfl⟩
    rw [HK.out]
    go_wp2
    go_ret
    exact ⟨by rw [H.out, HK.out]; rfl, hbA⟩
  · have HK := Lib.hid hk
    clear hk
    cases hn : inB n 0 9999
    · have HI := Lib.hid hn
      clear hn
      go_enter Tryd.func83, Tryd.ntmps83
      go_wp2_with fail
      refine Calls.mono (spec_l13Kind) ?_
      rintro e _ ⟨rfl, rfl⟩
      rw [HK.out]
      go_wp2_with fail
      refine Calls.mono (spec_l01In) ?_
      rintro e _ ⟨rfl, rfl⟩
      rw [HI.out]
      go_wp2
      go_ret
      exact ⟨by rw [H.out, HK.out, HI.out]; rfl, hbA⟩
    · have HI := Lib.hid hn
      clear hn
      cases hc : (numK k || n == 0)
      · have hc2 : numK k = false ∧ (n == 0) = false := by simpa using hc
        have HC := Lib.hid hc
        have HQ := Lib.hid hc2.1
        have hn0 : (n != 0) = true := by have := hc2.2; rw [bne, this]; rfl
        clear hc hc2
        go_enter Tryd.func83, Tryd.ntmps83
        go_wp2_with fail
        refine Calls.mono (spec_l13Kind) ?_
        rintro e _ ⟨rfl, rfl⟩
        rw [HK.out]
        go_wp2_with fail
        refine Calls.mono (spec_l01In) ?_
        rintro e _ ⟨rfl, rfl⟩
        rw [HI.out]
        go_wp2_with fail
        refine Calls.mono (spec_l13Counts) ?_
        rintro e _ ⟨rfl, rfl⟩
        rw [HQ.out]
        go_wp2
        go_ret
        exact ⟨by rw [H.out, HK.out, HI.out, HC.out]; rfl, hbA⟩
      · have HC := Lib.hid hc
        have hfin : (!numK k && (n != 0)) = false := by
          cases h1 : numK k
          · rw [h1] at hc
            simp only [Bool.false_or] at hc
            rw [bne, hc]; rfl
          · rfl
        by_cases hk1 : k = 1
        · subst hk1
          have hnk : numK 1 = false := by decide
          have hn0 : (n != 0) = false := by rw [hnk] at hfin; simpa using hfin
          have HT := Lib.hid (show tmB ⟨1, nm, n⟩ = namB nm by rw [H.out, HK.out, HI.out, HC.out, HNB.out]; rfl)
          clear hc hfin
          go_enter Tryd.func83, Tryd.ntmps83
          go_wp2_with fail
          refine Calls.mono (spec_l13Kind) ?_
          rintro e _ ⟨rfl, rfl⟩
          rw [HK.out]
          go_wp2_with fail
          refine Calls.mono (spec_l01In) ?_
          rintro e _ ⟨rfl, rfl⟩
          rw [HI.out]
          go_wp2_with fail
          refine Calls.mono (spec_l13Counts) ?_
          rintro e _ ⟨rfl, rfl⟩
          rw [hnk]
          go_wp2_with fail
          refine Calls.mono (HN.out _) ?_
          rintro e w1 ⟨rfl, hb1⟩
          go_wp2
          go_ret
          exact ⟨by rw [HT.out]; rfl, below_callS hbA hb1⟩
        · have hk2 : (k == 1) = false := by simpa using hk1
          have HT := Lib.hid (show tmB ⟨k, nm, n⟩ = decide (nm.size = 0) by rw [H.out, HK.out, HI.out, HC.out, if_neg hk1]; rfl)
          cases hnk : numK k
          · have hn0 : (n != 0) = false := by rw [hnk] at hfin; simpa using hfin
            have HNK := Lib.hid hnk
            clear hc hfin hnk
            go_enter Tryd.func83, Tryd.ntmps83
            go_wp2_with fail
            refine Calls.mono (spec_l13Kind) ?_
            rintro e _ ⟨rfl, rfl⟩
            rw [HK.out]
            go_wp2_with fail
            refine Calls.mono (spec_l01In) ?_
            rintro e _ ⟨rfl, rfl⟩
            rw [HI.out]
            go_wp2_with fail
            refine Calls.mono (spec_l13Counts) ?_
            rintro e _ ⟨rfl, rfl⟩
            rw [HNK.out]
            go_wp2
            go_ret
            exact ⟨by rw [HT.out, HS.out]; rfl, hbA⟩
          · have HNK := Lib.hid hnk
            clear hc hfin hnk
            go_enter Tryd.func83, Tryd.ntmps83
            go_wp2_with fail
            refine Calls.mono (spec_l13Kind) ?_
            rintro e _ ⟨rfl, rfl⟩
            rw [HK.out]
            go_wp2_with fail
            refine Calls.mono (spec_l01In) ?_
            rintro e _ ⟨rfl, rfl⟩
            rw [HI.out]
            go_wp2_with fail
            refine Calls.mono (spec_l13Counts) ?_
            rintro e _ ⟨rfl, rfl⟩
            rw [HNK.out]
            go_wp2
            go_ret
            exact ⟨by rw [HT.out, HS.out]; rfl, hbA⟩
set_option maxHeartbeats 2000000 in
theorem spec_l13Heights {a : Option Addr} {n c : Nat} {l : List TM} {w : World} (hI : Flats 3 TM.enc (fun _ => True) w a n c l) (hn : n ≤ 100000) (hz : ∀ x ∈ l, x.nm.size ≤ 1048576) :
    Calls Tryd.prog 68 #[.slice a n c] w fun e w' => (∃ v, e = .returned (.tuple #[v, .bool (exprB l)])) ∧ Below w.heap.size w w' := by
  have hlen := hI.len
  have HI := Lib.hid hI
  have HZ := Lib.hid hz
  have HE := Lib.hid (show exprB l = (decide (hgt 0 l = some 1) && decide (l.length ≤ 40)) from rfl)
  have HLEN := Lib.hid hlen
  clear hI hz hlen
  go_enter Tryd.func68, Tryd.ntmps68
  go_wp2_with fail
  have hb0 : Below w.heap.size w (w.alloc (.cells #[] 2)) := below_alloc1 (Below.refl _ _) _
  have O0 := Lib.hid (OwnI.empty (E := 2) w (Nat.le_refl _))
  go_loopw [4, 5, 6] (fun s4 s5 s6 wr => ∃ (k m g c4 : Nat) (l4 : List Int), s4 = .slice (some ⟨g, 0, none⟩) k c4 ∧ s5 = .int .i64 (m : Int) ∧ s6 = .int .i64 (k : Int) ∧ k ≤ n ∧ m ≤ k ∧ Below w.heap.size w wr ∧ Hid (hgt 0 (l.take k) = some m) ∧ Hid (OwnI 2 wr w.heap.size (some ⟨g, 0, none⟩) k c4 l4)) (fun _ _ s6 _ => n - (intOf s6).toNat)
  case atStart => exact ⟨0, 0, _, 0, [], rfl, rfl, rfl, by omega, by omega, hb0, Lib.hid rfl, O0⟩
  case round =>
    clear O0 hb0
    obtain ⟨k, m, g4, c4, l4, rfl, rfl, rfl, hk, hm, hbl, HG, O⟩ := hrel
    by_cases hlt : k < n
    · have hlt' : (k : Int) < (n : Int) := by omega
      have hk0 : (0 : Int) ≤ (k : Int) := by omega
      obtain ⟨b, off, x, rfl, hb, hx, _, hc⟩ := (HI.out.keep hbl).at hlt
      have c0 := hc 0 _ rfl
      have c1 := hc 1 _ rfl
      have c2 := hc 2 _ rfl
      simp only [Nat.add_zero] at c0 c1 c2
      have HX := Lib.hid hx
      have KT := Lib.hid (fun (wx : World) => spec_l13Term (x := x) (w := wx) (HZ.out x (List.mem_of_getElem? hx)))
      have HSP := Lib.hid (show hgt 0 l = if tmB x = true ∧ tkA x.k ≤ m then hgt (m - tkA x.k + 1) (l.drop (k + 1)) else none by
        have e1 : l = l.take k ++ (x :: l.drop (k + 1)) := by
          have hlt2 := (List.getElem?_eq_some_iff.1 hx).1
          have e2 : x :: l.drop (k + 1) = l.drop k := by
            rw [List.drop_eq_getElem_cons hlt2]
            rw [List.getElem?_eq_getElem hlt2] at hx
            rw [Option.some.inj hx]
          rw [e2, List.take_append_drop]
        conv => lhs; rw [e1]
        rw [hgt_app, HG.out, Option.bind_some, hgt])
      clear hx hc
      cases ht : tmB x
      · have HF := Lib.hid (show exprB l = false by rw [HE.out, HSP.out, ht]; rfl)
        rw [ht] at KT
        clear ht
        go_wp2_with fail
        refine Calls.mono (KT.out _) ?_
        rintro e w1 ⟨rfl, hb1⟩
        have hbl1 := below_callS hbl hb1
        clear hb1
        go_wp2
        refine bodyPost_ret (v := .tuple #[.slice none 0 0, .bool false]) (by simp [results, Tryd.results68, go_sem]) rfl ⟨⟨_, by rw [HF.out]⟩, hbl1⟩
      · rw [ht] at KT
        go_wp2_with fail
        refine Calls.mono (KT.out _) ?_
        rintro e w1 ⟨rfl, hb1⟩
        have hbl1 := below_callS hbl hb1
        have O1 := Lib.hid (O.out.keep hb1)
        have d0 := (hb1.cell (p := ⟨b, off + k * 3, none⟩) hb).trans c0
        have dl : b < w1.heap.size := Nat.lt_of_lt_of_le hb hb1.size
        clear hb1 c0 c1 c2 O hb
        go_wp2_with fail
        refine Calls.mono spec_l13Takes ?_
        rintro e _ ⟨rfl, rfl⟩
        have hA2 := tkA_le x.k
        by_cases hA : tkA x.k ≤ m
        · have hA' : ¬ (m : Int) < (tkA x.k : Int) := by omega
          have em : IntKind.i64.wrap ((m : Int) - (tkA x.k : Int)) = ((m - tkA x.k : Nat) : Int) := by rw [IntWalk.i64_in _ (by omega)]; omega
          have em2 : IntKind.i64.wrap (((m - tkA x.k : Nat) : Int) + 1) = ((m - tkA x.k + 1 : Nat) : Int) := by rw [IntWalk.i64_in _ (by omega)]; omega
          have HG2 := Lib.hid (show hgt 0 (l.take (k + 1)) = some (m - tkA x.k + 1) by
            rw [take_at HX.out, hgt_app, HG.out, Option.bind_some, hgt, if_pos ⟨ht, hA⟩]; rfl)
          clear ht KT HSP
          have hsz1 := hbl1.size
          go_wp2_with fail
          refine Calls.mono spec_l13Takes ?_
          rintro e _ ⟨rfl, rfl⟩
          go_wp2_with (at_builtin; refine appI1 rfl _ _ rfl Tryd.underlying94 Tryd.infoi64 w.heap.size _ _ _ _ O1.out rfl _ rfl rfl (by unfold I64; omega) (by omega) (by omega) ?_; intro g3 c3 w3 ho3 hb3 ht3 hat3 hz3; refine Hid.out ?_)
          have O3 := Lib.hid ho3
          have hbl3 := hbl1.trans hb3
          clear ho3 hb3 O1
          refine Lib.hid ?_
          go_wp2_with fail
          go_roundw
          case rel => exact ⟨k + 1, m - tkA x.k + 1, g3, c3, _, by simp, by simp, by simp, by omega, by omega, hbl3, HG2, O3⟩
          case measure => simp only [intOf]; omega
        · have hA' : (m : Int) < (tkA x.k : Int) := by omega
          have HF := Lib.hid (show exprB l = false by rw [HE.out, HSP.out, if_neg (fun h => hA h.2)]; rfl)
          clear ht KT HSP
          go_wp2
          refine bodyPost_ret (v := .tuple #[.slice none 0 0, .bool false]) (by simp [results, Tryd.results68, go_sem]) rfl ⟨⟨_, by rw [HF.out]⟩, hbl1⟩
    · have hlt' : ¬ (k : Int) < (n : Int) := by omega
      obtain rfl : k = n := by omega
      have HF := Lib.hid (show exprB l = (decide ((m : Int) = 1) && decide ((k : Int) ≤ 40)) by
        have e := HG.out
        rw [List.take_of_length_le (by rw [HLEN.out]; exact Nat.le_refl _)] at e
        rw [HE.out, e, HLEN.out]
        congr 1
        · congr 1; refine propext ⟨fun h => by cases h; rfl, fun h => by rw [show m = 1 by omega]⟩
        · congr 1; refine propext ⟨fun h => by omega, fun h => by omega⟩)
      by_cases hm1 : m = 1
      · subst hm1
        have h40 : ((k : Int) ≤ 40) ↔ k ≤ 40 := by omega
        have e40 : (decide ((k : Int) ≤ 40)) = decide (k ≤ 40) := decide_eq_decide.2 h40
        go_wp2
        refine bodyPost_ret (v := .tuple #[.slice (some ⟨g4, 0, none⟩) k c4, .bool (exprB l)]) (by rw [HF.out, e40]; simp [results, Tryd.results68, go_sem]) rfl ⟨⟨_, rfl⟩, hbl⟩
      · have hmi : ((m : Int) == 1) = false := by
          rw [beq_eq_false_iff_ne]; omega
        have hmd : decide ((m : Int) = 1) = false := by simpa using hmi
        go_wp2
        refine bodyPost_ret (v := .tuple #[.slice (some ⟨g4, 0, none⟩) k c4, .bool (exprB l)]) (by rw [HF.out, hmd]; simp [results, Tryd.results68, go_sem]) rfl ⟨⟨_, rfl⟩, hbl⟩
end Go.Proofs.YtjneodmohkpckaaDoor
