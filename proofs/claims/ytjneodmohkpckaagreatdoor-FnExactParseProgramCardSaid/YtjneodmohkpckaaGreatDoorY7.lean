/- Expression lists: the reference's test, walked.; The reference's ParseExpression, walked. -/
import Derived.Test.YtjneodmohkpckaaGreatDoorEp
import Derived.Test.YtjneodmohkpckaaGreatDoorAi
import Derived.Test.YtjneodmohkpckaaGreatDoorEk
namespace Go.Proofs.YtjneodmohkpckaaGreatDoor
open Go.RowKit
set_option linter.unusedVariables false
set_option linter.unusedSimpArgs false
theorem tkA_le (k : Int) : tkA k ≤ 2 := by
  unfold tkA
  split
  · omega
  · split <;> omega
theorem spec_l13Kind {k : Int} {w : World} : Calls Tryz.prog 164 #[.int .i64 k] w fun e w' => e = .returned (.bool (inB k 1 12)) ∧ w = w' := by
  go_enter Tryz.func164, Tryz.ntmps164
  go_wp2_with fail
  refine Calls.mono (spec_l01In) ?_
  rintro e _ ⟨rfl, rfl⟩
  go_wp2
  go_ret
  exact ⟨rfl, rfl⟩
set_option maxHeartbeats 2000000 in
theorem spec_l13Term {x : TM} {w : World} (hz : x.nm.size ≤ 1048576) : Calls Tryz.prog 136 #[.agg #[.int .i64 x.k, .string x.nm, .int .i64 x.n]] w fun e w' => e = .returned (.bool (tmB x)) ∧ Below w.heap.size w w' := by
  have H := Lib.hid (show tmB x = (inB x.k 1 12 && (inB x.n 0 9999 && ((numK x.k || x.n == 0) && (if x.k = 1 then wrdB x.nm.data.toList && decide (kwI x.nm < 0) else decide (x.nm.size = 0))))) from rfl)
  have HN := Lib.hid (fun (wx : World) => spec_l13Name (s := x.nm) (w := wx) hz)
  have HNB := Lib.hid (show namB x.nm = (wrdB x.nm.data.toList && decide (kwI x.nm < 0)) from rfl)
  have HS := Lib.hid (show decide (x.nm.size = 0) = x.nm.toList.isEmpty by
    have h1 := str_eq (a := x.nm) (b := ⟨#[]⟩)
    have h2 : (⟨#[]⟩ : ByteArray).toList = [] := by decide +kernel
    rw [h2] at h1
    have h3 : (x.nm.toList == []) = x.nm.toList.isEmpty := by cases x.nm.toList <;> rfl
    rw [← h3, h1]
    congr 1
    refine propext ⟨fun h => ?_, fun h => ?_⟩
    · exact List.eq_nil_of_length_eq_zero (by rw [str_len]; exact h)
    · have := congrArg List.length h
      rw [str_len] at this
      simpa using this)
  obtain ⟨k, nm, n⟩ := x
  dsimp only at H HN HNB HS hz ⊢
  have hbA : Below w.heap.size w (w.alloc (.cells #[.int .i64 k, .string nm, .int .i64 n] 55)) := below_alloc1 (Below.refl _ _) _
  cases hk : inB k 1 12
  · have HK := Lib.hid hk
    clear hk
    go_enter Tryz.func136, Tryz.ntmps136
    go_wp2_with fail
    refine Calls.mono (spec_l13Kind) ?_
    rintro e _ ⟨rfl, rfl⟩
    rw [HK.out]
    go_wp2
    go_ret
    exact ⟨by rw [H.out, HK.out]; rfl, hbA⟩
  · have HK := Lib.hid hk
    clear hk
    cases hn : inB n 0 9999
    · have HI := Lib.hid hn
      clear hn
      go_enter Tryz.func136, Tryz.ntmps136
      go_wp2_with fail
      refine Calls.mono (spec_l13Kind) ?_
      rintro e _ ⟨rfl, rfl⟩
      rw [HK.out]
      go_wp2_with fail
      refine Calls.mono (spec_l01In) ?_
      rintro e _ ⟨rfl, rfl⟩
      rw [HI.out]
      go_wp2
      go_ret
      exact ⟨by rw [H.out, HK.out, HI.out]; rfl, hbA⟩
    · have HI := Lib.hid hn
      clear hn
      cases hc : (numK k || n == 0)
      · have hc2 : numK k = false ∧ (n == 0) = false := by simpa using hc
        have HC := Lib.hid hc
        have HQ := Lib.hid hc2.1
        have hn0 : (n != 0) = true := by have := hc2.2; rw [bne, this]; rfl
        clear hc hc2
        go_enter Tryz.func136, Tryz.ntmps136
        go_wp2_with fail
        refine Calls.mono (spec_l13Kind) ?_
        rintro e _ ⟨rfl, rfl⟩
        rw [HK.out]
        go_wp2_with fail
        refine Calls.mono (spec_l01In) ?_
        rintro e _ ⟨rfl, rfl⟩
        rw [HI.out]
        go_wp2_with fail
        refine Calls.mono (spec_l13Counts) ?_
        rintro e _ ⟨rfl, rfl⟩
        rw [HQ.out]
        go_wp2
        go_ret
        exact ⟨by rw [H.out, HK.out, HI.out, HC.out]; rfl, hbA⟩
      · have HC := Lib.hid hc
        have hfin : (!numK k && (n != 0)) = false := by
          cases h1 : numK k
          · rw [h1] at hc
            simp only [Bool.false_or] at hc
            rw [bne, hc]; rfl
          · rfl
        by_cases hk1 : k = 1
        · subst hk1
          have hnk : numK 1 = false := by decide
          have hn0 : (n != 0) = false := by rw [hnk] at hfin; simpa using hfin
          have HT := Lib.hid (show tmB ⟨1, nm, n⟩ = namB nm by rw [H.out, HK.out, HI.out, HC.out, HNB.out]; rfl)
          clear hc hfin
          go_enter Tryz.func136, Tryz.ntmps136
          go_wp2_with fail
          refine Calls.mono (spec_l13Kind) ?_
          rintro e _ ⟨rfl, rfl⟩
          rw [HK.out]
          go_wp2_with fail
          refine Calls.mono (spec_l01In) ?_
          rintro e _ ⟨rfl, rfl⟩
          rw [HI.out]
          go_wp2_with fail
          refine Calls.mono (spec_l13Counts) ?_
          rintro e _ ⟨rfl, rfl⟩
          rw [hnk]
          go_wp2_with fail
          refine Calls.mono (HN.out _) ?_
          rintro e w1 ⟨rfl, hb1⟩
          go_wp2
          go_ret
          exact ⟨by rw [HT.out]; rfl, below_callS hbA hb1⟩
        · have hk2 : (k == 1) = false := by simpa using hk1
          have HT := Lib.hid (show tmB ⟨k, nm, n⟩ = decide (nm.size = 0) by rw [H.out, HK.out, HI.out, HC.out, if_neg hk1]; rfl)
          cases hnk : numK k
          · have hn0 : (n != 0) = false := by rw [hnk] at hfin; simpa using hfin
            have HNK := Lib.hid hnk
            clear hc hfin hnk
            go_enter Tryz.func136, Tryz.ntmps136
            go_wp2_with fail
            refine Calls.mono (spec_l13Kind) ?_
            rintro e _ ⟨rfl, rfl⟩
            rw [HK.out]
            go_wp2_with fail
            refine Calls.mono (spec_l01In) ?_
            rintro e _ ⟨rfl, rfl⟩
            rw [HI.out]
            go_wp2_with fail
            refine Calls.mono (spec_l13Counts) ?_
            rintro e _ ⟨rfl, rfl⟩
            rw [HNK.out]
            go_wp2
            go_ret
            exact ⟨by rw [HT.out, HS.out]; rfl, hbA⟩
          · have HNK := Lib.hid hnk
            clear hc hfin hnk
            go_enter Tryz.func136, Tryz.ntmps136
            go_wp2_with fail
            refine Calls.mono (spec_l13Kind) ?_
            rintro e _ ⟨rfl, rfl⟩
            rw [HK.out]
            go_wp2_with fail
            refine Calls.mono (spec_l01In) ?_
            rintro e _ ⟨rfl, rfl⟩
            rw [HI.out]
            go_wp2_with fail
            refine Calls.mono (spec_l13Counts) ?_
            rintro e _ ⟨rfl, rfl⟩
            rw [HNK.out]
            go_wp2
            go_ret
            exact ⟨by rw [HT.out, HS.out]; rfl, hbA⟩
set_option maxHeartbeats 2000000 in
theorem spec_l13Heights {a : Option Addr} {n c : Nat} {l : List TM} {w : World} (hI : Flats 3 TM.enc (fun _ => True) w a n c l) (hn : n ≤ 100000) (hz : ∀ x ∈ l, x.nm.size ≤ 1048576) :
    Calls Tryz.prog 85 #[.slice a n c] w fun e w' => (∃ v, e = .returned (.tuple #[v, .bool (exprB l)])) ∧ Below w.heap.size w w' := by
  have hlen := hI.len
  have HI := Lib.hid hI
  have HZ := Lib.hid hz
  have HE := Lib.hid (show exprB l = (decide (hgt 0 l = some 1) && decide (l.length ≤ 40)) from rfl)
  have HLEN := Lib.hid hlen
  clear hI hz hlen
  go_enter Tryz.func85, Tryz.ntmps85
  go_wp2_with fail
  have hb0 : Below w.heap.size w (w.alloc (.cells #[] 2)) := below_alloc1 (Below.refl _ _) _
  have O0 := Lib.hid (OwnI.empty (E := 2) w (Nat.le_refl _))
  go_loopw [4, 5, 6] (fun s4 s5 s6 wr => ∃ (k m g c4 : Nat) (l4 : List Int), s4 = .slice (some ⟨g, 0, none⟩) k c4 ∧ s5 = .int .i64 (m : Int) ∧ s6 = .int .i64 (k : Int) ∧ k ≤ n ∧ m ≤ k ∧ Below w.heap.size w wr ∧ Hid (hgt 0 (l.take k) = some m) ∧ Hid (OwnI 2 wr w.heap.size (some ⟨g, 0, none⟩) k c4 l4)) (fun _ _ s6 _ => n - (intOf s6).toNat)
  case atStart => exact ⟨0, 0, _, 0, [], rfl, rfl, rfl, by omega, by omega, hb0, Lib.hid rfl, O0⟩
  case round =>
    clear O0 hb0
    obtain ⟨k, m, g4, c4, l4, rfl, rfl, rfl, hk, hm, hbl, HG, O⟩ := hrel
    by_cases hlt : k < n
    · have hlt' : (k : Int) < (n : Int) := by omega
      have hk0 : (0 : Int) ≤ (k : Int) := by omega
      obtain ⟨b, off, x, rfl, hb, hx, _, hc⟩ := (HI.out.keep hbl).at hlt
      have c0 := hc 0 _ rfl
      have c1 := hc 1 _ rfl
      have c2 := hc 2 _ rfl
      simp only [Nat.add_zero] at c0 c1 c2
      have HX := Lib.hid hx
      have KT := Lib.hid (fun (wx : World) => spec_l13Term (x := x) (w := wx) (HZ.out x (List.mem_of_getElem? hx)))
      have HSP := Lib.hid (show hgt 0 l = if tmB x = true ∧ tkA x.k ≤ m then hgt (m - tkA x.k + 1) (l.drop (k + 1)) else none by
        have e1 : l = l.take k ++ (x :: l.drop (k + 1)) := by
          have hlt2 := (List.getElem?_eq_some_iff.1 hx).1
          have e2 : x :: l.drop (k + 1) = l.drop k := by
            rw [List.drop_eq_getElem_cons hlt2]
            rw [List.getElem?_eq_getElem hlt2] at hx
            rw [Option.some.inj hx]
          rw [e2, List.take_append_drop]
        conv => lhs; rw [e1]
        rw [hgt_app, HG.out, Option.bind_some, hgt])
      clear hx hc
      cases ht : tmB x
      · have HF := Lib.hid (show exprB l = false by rw [HE.out, HSP.out, ht]; rfl)
        rw [ht] at KT
        clear ht
        go_wp2_with fail
        refine Calls.mono (KT.out _) ?_
        rintro e w1 ⟨rfl, hb1⟩
        have hbl1 := below_callS hbl hb1
        clear hb1
        go_wp2
        refine bodyPost_ret (v := .tuple #[.slice none 0 0, .bool false]) (by simp [results, Tryz.results85, go_sem]) rfl ⟨⟨_, by rw [HF.out]⟩, hbl1⟩
      · rw [ht] at KT
        go_wp2_with fail
        refine Calls.mono (KT.out _) ?_
        rintro e w1 ⟨rfl, hb1⟩
        have hbl1 := below_callS hbl hb1
        have O1 := Lib.hid (O.out.keep hb1)
        have d0 := (hb1.cell (p := ⟨b, off + k * 3, none⟩) hb).trans c0
        have dl : b < w1.heap.size := Nat.lt_of_lt_of_le hb hb1.size
        clear hb1 c0 c1 c2 O hb
        go_wp2_with fail
        refine Calls.mono spec_l13Takes ?_
        rintro e _ ⟨rfl, rfl⟩
        have hA2 := tkA_le x.k
        by_cases hA : tkA x.k ≤ m
        · have hA' : ¬ (m : Int) < (tkA x.k : Int) := by omega
          have em : IntKind.i64.wrap ((m : Int) - (tkA x.k : Int)) = ((m - tkA x.k : Nat) : Int) := by rw [IntWalk.i64_in _ (by omega)]; omega
          have em2 : IntKind.i64.wrap (((m - tkA x.k : Nat) : Int) + 1) = ((m - tkA x.k + 1 : Nat) : Int) := by rw [IntWalk.i64_in _ (by omega)]; omega
          have HG2 := Lib.hid (show hgt 0 (l.take (k + 1)) = some (m - tkA x.k + 1) by
            rw [take_at HX.out, hgt_app, HG.out, Option.bind_some, hgt, if_pos ⟨ht, hA⟩]; rfl)
          clear ht KT HSP
          have hsz1 := hbl1.size
          go_wp2_with fail
          refine Calls.mono spec_l13Takes ?_
          rintro e _ ⟨rfl, rfl⟩
          go_wp2_with (at_builtin; refine appI1 rfl _ _ rfl Tryz.underlying100 Tryz.infoi64 w.heap.size _ _ _ _ O1.out rfl _ rfl rfl (by unfold I64; omega) (by omega) (by omega) ?_; intro g3 c3 w3 ho3 hb3 ht3 hat3 hz3; refine Hid.out ?_)
          have O3 := Lib.hid ho3
          have hbl3 := hbl1.trans hb3
          clear ho3 hb3 O1
          refine Lib.hid ?_
          go_wp2_with fail
          go_roundw
          case rel => exact ⟨k + 1, m - tkA x.k + 1, g3, c3, _, by simp, by simp, by simp, by omega, by omega, hbl3, HG2, O3⟩
          case measure => simp only [intOf]; omega
        · have hA' : (m : Int) < (tkA x.k : Int) := by omega
          have HF := Lib.hid (show exprB l = false by rw [HE.out, HSP.out, if_neg (fun h => hA h.2)]; rfl)
          clear ht KT HSP
          go_wp2
          refine bodyPost_ret (v := .tuple #[.slice none 0 0, .bool false]) (by simp [results, Tryz.results85, go_sem]) rfl ⟨⟨_, by rw [HF.out]⟩, hbl1⟩
    · have hlt' : ¬ (k : Int) < (n : Int) := by omega
      obtain rfl : k = n := by omega
      have HF := Lib.hid (show exprB l = (decide ((m : Int) = 1) && decide ((k : Int) ≤ 40)) by
        have e := HG.out
        rw [List.take_of_length_le (by rw [HLEN.out]; exact Nat.le_refl _)] at e
        rw [HE.out, e, HLEN.out]
        congr 1
        · congr 1; refine propext ⟨fun h => by cases h; rfl, fun h => by rw [show m = 1 by omega]⟩
        · congr 1; refine propext ⟨fun h => by omega, fun h => by omega⟩)
      by_cases hm1 : m = 1
      · subst hm1
        have h40 : ((k : Int) ≤ 40) ↔ k ≤ 40 := by omega
        have e40 : (decide ((k : Int) ≤ 40)) = decide (k ≤ 40) := decide_eq_decide.2 h40
        go_wp2
        refine bodyPost_ret (v := .tuple #[.slice (some ⟨g4, 0, none⟩) k c4, .bool (exprB l)]) (by rw [HF.out, e40]; simp [results, Tryz.results85, go_sem]) rfl ⟨⟨_, rfl⟩, hbl⟩
      · have hmi : ((m : Int) == 1) = false := by
          rw [beq_eq_false_iff_ne]; omega
        have hmd : decide ((m : Int) = 1) = false := by simpa using hmi
        go_wp2
        refine bodyPost_ret (v := .tuple #[.slice (some ⟨g4, 0, none⟩) k c4, .bool (exprB l)]) (by rw [HF.out, hmd]; simp [results, Tryz.results85, go_sem]) rfl ⟨⟨_, rfl⟩, hbl⟩
theorem hgt_all : ∀ (l : List TM) (n m : Nat), hgt n l = some m → ∀ x ∈ l, tmB x = true
  | [], _, _, _ => fun x hx => by cases hx
  | x :: l, n, m, h => fun y hy => by
    rw [hgt] at h
    split at h
    · rename_i hx
      rcases List.mem_cons.1 hy with rfl | hy
      · exact hx.1
      · exact hgt_all l _ _ h y hy
    · cases h
theorem tmB_sz {x : TM} (h : tmB x = true) : x.nm.size ≤ 12 ∧ TM.ok x := by
  simp only [tmB, Bool.and_eq_true, inB, decide_eq_true_eq] at h
  have hs : x.nm.size ≤ 12 := by
    have h4 := h.2.2.2
    by_cases hk : x.k = 1
    · rw [if_pos hk] at h4
      simp only [wrdB, Bool.and_eq_true, decide_eq_true_eq] at h4
      have h5 := h4.1.1.2
      have : x.nm.data.toList.length = x.nm.size := rfl
      omega
    · rw [if_neg hk] at h4
      have := of_decide_eq_true h4
      omega
  refine ⟨hs, ?_, by unfold maxLen; omega, ?_⟩
  · unfold I64; omega
  · unfold I64; omega
theorem pe_hgt {s : ByteArray} {ts : List TM} (h : peO s = some ts) : hgt 0 ts = some 1 := by
  rw [peO] at h
  split at h
  · rename_i u hu
    cases h
    exact (prs_hgt _ .ex _ _ rt_tok hu).2
  · cases h
theorem peL_ok {s : ByteArray} : ∀ x ∈ peL s, TM.ok x := fun x hx => by
  rw [peL] at hx
  split at hx
  · cases hx
  · split at hx
    · rename_i ts h
      split at hx
      · cases hx
      · exact (tmB_sz (hgt_all _ _ _ (pe_hgt h) x hx)).2
    · cases hx
theorem OwnTm.strong {w : World} {b : Nat} {a : Option Addr} {n c : Nat} {l : List TM} (h : OwnTm w b a n c l) (hl : ∀ x ∈ l, TM.ok x) : OwnTmK w b a n c l := ⟨h.1, hl, h.2.2⟩
theorem spec_IsExpression {a : Option Addr} {n c : Nat} {l : List TM} {w : World} (hI : Flats 3 TM.enc (fun _ => True) w a n c l) (hn : n ≤ 100000) (hz : ∀ x ∈ l, x.nm.size ≤ 1048576) : Calls Tryz.prog 81 #[.slice a n c] w fun e w' => e = .returned (.bool (exprB l)) ∧ Below w.heap.size w w' := by
  have HK := Lib.hid (spec_l13Heights hI hn hz)
  clear hI hz
  go_enter Tryz.func81, Tryz.ntmps81
  go_wp2_with fail
  refine Calls.mono HK.out ?_
  rintro e w1 ⟨⟨v, rfl⟩, hb1⟩
  go_wp2
  go_ret
  exact ⟨rfl, hb1⟩
set_option maxHeartbeats 2000000 in
theorem spec_ParseExpression {s : ByteArray} {w : World} (hz : s.size ≤ 1048576) : Calls Tryz.prog 35 #[.string s] w fun e w' => ∃ n a c, e = .returned (.tuple #[.slice a n c, .int .i64 (peC s)]) ∧ Below w.heap.size w w' ∧ OwnTm w' w.heap.size a n c (peL s) := by
  have HK := Lib.hid (spec_ReadTokens (w := w) hz)
  have HC := Lib.hid (show peC s = if rtC s ≠ 0 then rtC s else match peO s with
    | some ts => if 40 < ts.length then 3 else 0
    | none => 6 from rfl)
  have HL := Lib.hid (show peL s = if rtC s ≠ 0 then [] else match peO s with
    | some ts => if 40 < ts.length then [] else ts
    | none => [] from rfl)
  have HO := Lib.hid (show peO s = match prs (8 * (rtL s).length + 5) .ex (rtL s) with
    | some (ts, []) => some ts
    | _ => none from rfl)
  have HH := Lib.hid (fun ts => pe_hgt (s := s) (ts := ts))
  have HTK := Lib.hid (rt_tok (s := s))
  have HSZ := Lib.hid (rt_sz (s := s))
  generalize peC s = C at *
  generalize peL s = PL at *
  generalize peO s = PO at *
  generalize rtC s = rc at *
  generalize rtL s = L at *
  by_cases hrc : rc = 0
  · subst hrc
    go_enter Tryz.func35, Tryz.ntmps35
    go_wp2_with fail
    refine Calls.mono HK.out ?_
    rintro e w1 ⟨n0, a0, c0, rfl, hb1, ho⟩
    have hn0 : n0 ≤ 800 := by have := ho.len; have := HSZ.out.2; omega
    have hbb : Below w1.heap.size w1 (w1.alloc (.cells #[.slice a0 n0 c0, .int .i64 0, .bool false] 74)) := below_alloc1 (Below.refl _ _) _
    have HP := Lib.hid (show RSt n0 (w1.alloc (.cells #[.slice a0 n0 c0, .int .i64 0, .bool false] 74)) w1.heap.size false L from ⟨a0, n0, c0, 0, L, Blk.made _ _ _, (ho.keep hbb).flats, fun g o e => by
      rcases ho.1.2 with ⟨he, _⟩ | ⟨g', cap, cur, he, hb, hg, _⟩
      · simp only [Value.slice.injEq] at he; rw [e] at he; cases he.1
      · simp only [Value.slice.injEq] at he
        rw [e] at he
        have h9 := he.1
        simp only [Option.some.injEq, Addr.mk.injEq, and_true] at h9
        obtain ⟨rfl, rfl⟩ := h9
        exact (ho.blk g (by rw [e])).2, hn0, ⟨by omega, rfl⟩, rfl, HSZ.out.1, HTK.out⟩)
    have hs1 := hb1.size
    have B1 := Lib.hid (below_callS hb1 hbb)
    clear hbb ho hb1 HK
    go_wp2_with fail
    obtain ⟨wx, hwx⟩ : ∃ v, v = (w1.alloc (.cells #[.slice a0 n0 c0, .int .i64 0, .bool false] 74)) := ⟨_, rfl⟩
    have hsx : w1.heap.size + 1 = wx.heap.size := by rw [hwx]; simp
    rw [← hwx] at HP B1 ⊢
    clear hwx
    refine Calls.mono ((spec_all (8 * L.length + 5)).ex wx w1.heap.size L HP.out (Nat.le_refl _)) ?_
    rintro e w2 ⟨a, n, c, ts, bad, R, rfl, hO, hP, hQ, hn, ho⟩
    have B2 := Lib.hid (show Below w.heap.size w w2 from hQ.below B1.out hs1 (by omega))
    have O2 := Lib.hid (show OwnTm w2 w.heap.size a n c ts from hO.le (by omega))
    have hts := hO.flats.len
    have hnL : n ≤ 100000 := by have := HSZ.out.2; omega
    obtain ⟨ta, tn, tc, k, L0, h1⟩ := hP
    have q1 := h1.x.cell 1
    have q2 := h1.x.cell 2
    have ql := h1.x.lt
    have qk := h1.kn
    have HD := Lib.hid (show R.isEmpty = decide (¬ (k : Int) < (n0 : Int)) by
      rw [h1.dr]
      have h9 := h1.t.len
      by_cases hk : k < n0
      · have h2 : decide (¬ (k : Int) < (n0 : Int)) = false := decide_eq_false (by omega)
        rw [h2, List.isEmpty_eq_false_iff]
        intro e
        have := congrArg List.length e
        rw [List.length_drop, List.length_nil] at this
        omega
      · have h2 : decide (¬ (k : Int) < (n0 : Int)) = true := decide_eq_true (by omega)
        rw [h2, List.drop_of_length_le (by omega)]
        rfl)
    simp only [List.getElem?_toArray, List.getElem?_cons_zero, List.getElem?_cons_succ] at q1 q2
    have HPO := Lib.hid (show PO = if (!bad && R.isEmpty) = true then some ts else none by
      rw [HO.out, ho]
      cases bad
      · cases R <;> rfl
      · rfl)
    clear h1 hO hQ ho HO HP B1
    cases bad
    · by_cases hk : (k : Int) < (n0 : Int)
      · have H1 := Lib.hid (show C = 6 ∧ PL = [] by rw [HC.out, HL.out, HPO.out, HD.out, decide_eq_false (fun h => h hk)]; exact ⟨rfl, rfl⟩)
        go_wp2
        exact bodyPost_ret (v := .tuple #[.slice none 0 0, .int .i64 6]) (by simp [results, Tryz.results35, go_sem]) rfl ⟨0, none, 0, by rw [H1.out.1], B2.out, by rw [H1.out.2]; exact OwnTm.nil _ _⟩
      · have hPO : PO = some ts := by rw [HPO.out, HD.out, decide_eq_true hk]; rfl
        have hg := HH.out ts hPO
        have KE := Lib.hid (fun (wx : World) (h : Flats 3 TM.enc (fun _ => True) wx a n c ts) => spec_IsExpression h hnL (fun x hx => by have := (tmB_sz (hgt_all _ _ _ hg x hx)).1; omega))
        have hX : exprB ts = decide (n ≤ 40) := by rw [exprB, hg, hts]; rfl
        by_cases h40 : n ≤ 40
        · have H1 := Lib.hid (show C = 0 ∧ PL = ts by
            rw [HC.out, HL.out, hPO]
            simp only [ne_eq, not_true_eq_false, if_false, if_true]
            rw [if_neg (by omega), if_neg (by omega)]
            exact ⟨rfl, rfl⟩)
          rw [hX, decide_eq_true h40] at KE
          clear hX hg hPO HH HPO HD HC HL
          go_wp2_with fail
          refine Calls.mono (KE.out _ O2.out.flats) ?_
          rintro e w3 ⟨rfl, hb3⟩
          have O3 := Lib.hid (O2.out.keep hb3)
          have B3 := below_callS B2.out hb3
          clear hb3
          go_wp2
          exact bodyPost_ret (v := .tuple #[.slice a n c, .int .i64 0]) (by simp [results, Tryz.results35, go_sem]) rfl ⟨n, a, c, by rw [H1.out.1], B3, by rw [H1.out.2]; exact O3.out⟩
        · have H1 := Lib.hid (show C = 3 ∧ PL = [] by
            rw [HC.out, HL.out, hPO]
            simp only [ne_eq, not_true_eq_false, if_false, if_true]
            rw [if_pos (by omega), if_pos (by omega)]
            exact ⟨rfl, rfl⟩)
          rw [hX, decide_eq_false h40] at KE
          clear hX hg hPO HH HPO HD HC HL
          go_wp2_with fail
          refine Calls.mono (KE.out _ O2.out.flats) ?_
          rintro e w3 ⟨rfl, hb3⟩
          have B3 := below_callS B2.out hb3
          clear hb3
          go_wp2
          exact bodyPost_ret (v := .tuple #[.slice none 0 0, .int .i64 3]) (by simp [results, Tryz.results35, go_sem]) rfl ⟨0, none, 0, by rw [H1.out.1], B3, by rw [H1.out.2]; exact OwnTm.nil _ _⟩
    · have H1 := Lib.hid (show C = 6 ∧ PL = [] by rw [HC.out, HL.out, HPO.out]; exact ⟨rfl, rfl⟩)
      go_wp2
      exact bodyPost_ret (v := .tuple #[.slice none 0 0, .int .i64 6]) (by simp [results, Tryz.results35, go_sem]) rfl ⟨0, none, 0, by rw [H1.out.1], B2.out, by rw [H1.out.2]; exact OwnTm.nil _ _⟩
  · have hrc' : (rc != 0) = true := by simpa using hrc
    have H1 := Lib.hid (show C = rc ∧ PL = [] by rw [HC.out, HL.out, if_pos hrc, if_pos hrc]; exact ⟨rfl, rfl⟩)
    go_enter Tryz.func35, Tryz.ntmps35
    go_wp2_with fail
    refine Calls.mono HK.out ?_
    rintro e w1 ⟨n0, a0, c0, rfl, hb1, ho⟩
    clear ho HK
    go_wp2
    exact bodyPost_ret (v := .tuple #[.slice none 0 0, .int .i64 rc]) (by simp [results, Tryz.results35, go_sem]) rfl ⟨0, none, 0, by rw [H1.out.1], hb1, by rw [H1.out.2]; exact OwnTm.nil _ _⟩
end Go.Proofs.YtjneodmohkpckaaGreatDoor
