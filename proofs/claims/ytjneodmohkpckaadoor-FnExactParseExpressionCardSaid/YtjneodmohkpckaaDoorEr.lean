/- The reference's ParseExpression, walked. -/
import Derived.Test.YtjneodmohkpckaaDoorEq
import Derived.Test.YtjneodmohkpckaaDoorEp
import Derived.Test.YtjneodmohkpckaaDoorEk
namespace Go.Proofs.YtjneodmohkpckaaDoor
open Go.RowKit
set_option linter.unusedVariables false
set_option linter.unusedSimpArgs false
theorem hgt_all : ∀ (l : List TM) (n m : Nat), hgt n l = some m → ∀ x ∈ l, tmB x = true
  | [], _, _, _ => fun x hx => by cases hx
  | x :: l, n, m, h => fun y hy => by
    rw [hgt] at h
    split at h
    · rename_i hx
      rcases List.mem_cons.1 hy with rfl | hy
      · exact hx.1
      · exact hgt_all l _ _ h y hy
    · cases h
theorem tmB_sz {x : TM} (h : tmB x = true) : x.nm.size ≤ 12 ∧ TM.ok x := by
  simp only [tmB, Bool.and_eq_true, inB, decide_eq_true_eq] at h
  have hs : x.nm.size ≤ 12 := by
    have h4 := h.2.2.2
    by_cases hk : x.k = 1
    · rw [if_pos hk] at h4
      simp only [wrdB, Bool.and_eq_true, decide_eq_true_eq] at h4
      have h5 := h4.1.1.2
      have : x.nm.data.toList.length = x.nm.size := rfl
      omega
    · rw [if_neg hk] at h4
      have := of_decide_eq_true h4
      omega
  refine ⟨hs, ?_, by unfold maxLen; omega, ?_⟩
  · unfold I64; omega
  · unfold I64; omega
theorem pe_hgt {s : ByteArray} {ts : List TM} (h : peO s = some ts) : hgt 0 ts = some 1 := by
  rw [peO] at h
  split at h
  · rename_i u hu
    cases h
    exact (prs_hgt _ .ex _ _ rt_tok hu).2
  · cases h
theorem peL_ok {s : ByteArray} : ∀ x ∈ peL s, TM.ok x := fun x hx => by
  rw [peL] at hx
  split at hx
  · cases hx
  · split at hx
    · rename_i ts h
      split at hx
      · cases hx
      · exact (tmB_sz (hgt_all _ _ _ (pe_hgt h) x hx)).2
    · cases hx
theorem OwnTm.strong {w : World} {b : Nat} {a : Option Addr} {n c : Nat} {l : List TM} (h : OwnTm w b a n c l) (hl : ∀ x ∈ l, TM.ok x) : OwnTmK w b a n c l := ⟨h.1, hl, h.2.2⟩
theorem spec_IsExpression {a : Option Addr} {n c : Nat} {l : List TM} {w : World} (hI : Flats 3 TM.enc (fun _ => True) w a n c l) (hn : n ≤ 100000) (hz : ∀ x ∈ l, x.nm.size ≤ 1048576) : Calls Tryd.prog 40 #[.slice a n c] w fun e w' => e = .returned (.bool (exprB l)) ∧ Below w.heap.size w w' := by
  have HK := Lib.hid (spec_l13Heights hI hn hz)
  clear hI hz
  go_enter Tryd.func40, Tryd.ntmps40
  go_wp2_with fail
  refine Calls.mono HK.out ?_
  rintro e w1 ⟨⟨v, rfl⟩, hb1⟩
  go_wp2
  go_ret
  exact ⟨rfl, hb1⟩
set_option maxHeartbeats 2000000 in
theorem spec_ParseExpression {s : ByteArray} {w : World} (hz : s.size ≤ 1048576) : Calls Tryd.prog 17 #[.string s] w fun e w' => ∃ n a c, e = .returned (.tuple #[.slice a n c, .int .i64 (peC s)]) ∧ Below w.heap.size w w' ∧ OwnTm w' w.heap.size a n c (peL s) := by
  have HK := Lib.hid (spec_ReadTokens (w := w) hz)
  have HC := Lib.hid (show peC s = if rtC s ≠ 0 then rtC s else match peO s with
    | some ts => if 40 < ts.length then 3 else 0
    | none => 6 from rfl)
  have HL := Lib.hid (show peL s = if rtC s ≠ 0 then [] else match peO s with
    | some ts => if 40 < ts.length then [] else ts
    | none => [] from rfl)
  have HO := Lib.hid (show peO s = match prs (8 * (rtL s).length + 5) .ex (rtL s) with
    | some (ts, []) => some ts
    | _ => none from rfl)
  have HH := Lib.hid (fun ts => pe_hgt (s := s) (ts := ts))
  have HTK := Lib.hid (rt_tok (s := s))
  have HSZ := Lib.hid (rt_sz (s := s))
  generalize peC s = C at *
  generalize peL s = PL at *
  generalize peO s = PO at *
  generalize rtC s = rc at *
  generalize rtL s = L at *
  by_cases hrc : rc = 0
  · subst hrc
    go_enter Tryd.func17, Tryd.ntmps17
    go_wp2_with fail
    refine Calls.mono HK.out ?_
    rintro e w1 ⟨n0, a0, c0, rfl, hb1, ho⟩
    have hn0 : n0 ≤ 800 := by have := ho.len; have := HSZ.out.2; omega
    have hbb : Below w1.heap.size w1 (w1.alloc (.cells #[.slice a0 n0 c0, .int .i64 0, .bool false] 56)) := below_alloc1 (Below.refl _ _) _
    have HP := Lib.hid (show RSt n0 (w1.alloc (.cells #[.slice a0 n0 c0, .int .i64 0, .bool false] 56)) w1.heap.size false L from ⟨a0, n0, c0, 0, L, Blk.made _ _ _, (ho.keep hbb).flats, fun g o e => by
      rcases ho.1.2 with ⟨he, _⟩ | ⟨g', cap, cur, he, hb, hg, _⟩
      · simp only [Value.slice.injEq] at he; rw [e] at he; cases he.1
      · simp only [Value.slice.injEq] at he
        rw [e] at he
        have h9 := he.1
        simp only [Option.some.injEq, Addr.mk.injEq, and_true] at h9
        obtain ⟨rfl, rfl⟩ := h9
        exact (ho.blk g (by rw [e])).2, hn0, ⟨by omega, rfl⟩, rfl, HSZ.out.1, HTK.out⟩)
    have hs1 := hb1.size
    have B1 := Lib.hid (below_callS hb1 hbb)
    clear hbb ho hb1 HK
    go_wp2_with fail
    obtain ⟨wx, hwx⟩ : ∃ v, v = (w1.alloc (.cells #[.slice a0 n0 c0, .int .i64 0, .bool false] 56)) := ⟨_, rfl⟩
    have hsx : w1.heap.size + 1 = wx.heap.size := by rw [hwx]; simp
    rw [← hwx] at HP B1 ⊢
    clear hwx
    refine Calls.mono ((spec_all (8 * L.length + 5)).ex wx w1.heap.size L HP.out (Nat.le_refl _)) ?_
    rintro e w2 ⟨a, n, c, ts, bad, R, rfl, hO, hP, hQ, hn, ho⟩
    have B2 := Lib.hid (show Below w.heap.size w w2 from hQ.below B1.out hs1 (by omega))
    have O2 := Lib.hid (show OwnTm w2 w.heap.size a n c ts from hO.le (by omega))
    have hts := hO.flats.len
    have hnL : n ≤ 100000 := by have := HSZ.out.2; omega
    obtain ⟨ta, tn, tc, k, L0, h1⟩ := hP
    have q1 := h1.x.cell 1
    have q2 := h1.x.cell 2
    have ql := h1.x.lt
    have qk := h1.kn
    have HD := Lib.hid (show R.isEmpty = decide (¬ (k : Int) < (n0 : Int)) by
      rw [h1.dr]
      have h9 := h1.t.len
      by_cases hk : k < n0
      · have h2 : decide (¬ (k : Int) < (n0 : Int)) = false := decide_eq_false (by omega)
        rw [h2, List.isEmpty_eq_false_iff]
        intro e
        have := congrArg List.length e
        rw [List.length_drop, List.length_nil] at this
        omega
      · have h2 : decide (¬ (k : Int) < (n0 : Int)) = true := decide_eq_true (by omega)
        rw [h2, List.drop_of_length_le (by omega)]
        rfl)
    simp only [List.getElem?_toArray, List.getElem?_cons_zero, List.getElem?_cons_succ] at q1 q2
    have HPO := Lib.hid (show PO = if (!bad && R.isEmpty) = true then some ts else none by
      rw [HO.out, ho]
      cases bad
      · cases R <;> rfl
      · rfl)
    clear h1 hO hQ ho HO HP B1
    cases bad
    · by_cases hk : (k : Int) < (n0 : Int)
      · have H1 := Lib.hid (show C = 6 ∧ PL = [] by rw [HC.out, HL.out, HPO.out, HD.out, decide_eq_false (fun h => h hk)]; exact ⟨rfl, rfl⟩)
        go_wp2
        exact bodyPost_ret (v := .tuple #[.slice none 0 0, .int .i64 6]) (by simp [results, Tryd.results17, go_sem]) rfl ⟨0, none, 0, by rw [H1.out.1], B2.out, by rw [H1.out.2]; exact OwnTm.nil _ _⟩
      · have hPO : PO = some ts := by rw [HPO.out, HD.out, decide_eq_true hk]; rfl
        have hg := HH.out ts hPO
        have KE := Lib.hid (fun (wx : World) (h : Flats 3 TM.enc (fun _ => True) wx a n c ts) => spec_IsExpression h hnL (fun x hx => by have := (tmB_sz (hgt_all _ _ _ hg x hx)).1; omega))
        have hX : exprB ts = decide (n ≤ 40) := by rw [exprB, hg, hts]; rfl
        by_cases h40 : n ≤ 40
        · have H1 := Lib.hid (show C = 0 ∧ PL = ts by
            rw [HC.out, HL.out, hPO]
            simp only [ne_eq, not_true_eq_false, if_false, if_true]
            rw [if_neg (by omega), if_neg (by omega)]
            exact ⟨rfl, rfl⟩)
          rw [hX, decide_eq_true h40] at KE
          clear hX hg hPO HH HPO HD HC HL
          go_wp2_with fail
          refine Calls.mono (KE.out _ O2.out.flats) ?_
          rintro e w3 ⟨rfl, hb3⟩
          have O3 := Lib.hid (O2.out.keep hb3)
          have B3 := below_callS B2.out hb3
          clear hb3
          go_wp2
          exact bodyPost_ret (v := .tuple #[.slice a n c, .int .i64 0]) (by simp [results, Tryd.results17, go_sem]) rfl ⟨n, a, c, by rw [H1.out.1], B3, by rw [H1.out.2]; exact O3.out⟩
        · have H1 := Lib.hid (show C = 3 ∧ PL = [] by
            rw [HC.out, HL.out, hPO]
            simp only [ne_eq, not_true_eq_false, if_false, if_true]
            rw [if_pos (by omega), if_pos (by omega)]
            exact ⟨rfl, rfl⟩)
          rw [hX, decide_eq_false h40] at KE
          clear hX hg hPO HH HPO HD HC HL
          go_wp2_with fail
          refine Calls.mono (KE.out _ O2.out.flats) ?_
          rintro e w3 ⟨rfl, hb3⟩
          have B3 := below_callS B2.out hb3
          clear hb3
          go_wp2
          exact bodyPost_ret (v := .tuple #[.slice none 0 0, .int .i64 3]) (by simp [results, Tryd.results17, go_sem]) rfl ⟨0, none, 0, by rw [H1.out.1], B3, by rw [H1.out.2]; exact OwnTm.nil _ _⟩
    · have H1 := Lib.hid (show C = 6 ∧ PL = [] by rw [HC.out, HL.out, HPO.out]; exact ⟨rfl, rfl⟩)
      go_wp2
      exact bodyPost_ret (v := .tuple #[.slice none 0 0, .int .i64 6]) (by simp [results, Tryd.results17, go_sem]) rfl ⟨0, none, 0, by rw [H1.out.1], B2.out, by rw [H1.out.2]; exact OwnTm.nil _ _⟩
  · have hrc' : (rc != 0) = true := by simpa using hrc
    have H1 := Lib.hid (show C = rc ∧ PL = [] by rw [HC.out, HL.out, if_pos hrc, if_pos hrc]; exact ⟨rfl, rfl⟩)
    go_enter Tryd.func17, Tryd.ntmps17
    go_wp2_with fail
    refine Calls.mono HK.out ?_
    rintro e w1 ⟨n0, a0, c0, rfl, hb1, ho⟩
    clear ho HK
    go_wp2
    exact bodyPost_ret (v := .tuple #[.slice none 0 0, .int .i64 rc]) (by simp [results, Tryd.results17, go_sem]) rfl ⟨0, none, 0, by rw [H1.out.1], hb1, by rw [H1.out.2]; exact OwnTm.nil _ _⟩
end Go.Proofs.YtjneodmohkpckaaDoor
