/- ParseExpression of the program, walked. -/
import Derived.Test.YtjneodmohkpckaaGreatDoorEi
namespace Go.Proofs.YtjneodmohkpckaaGreatDoor
open Go.RowKit
set_option linter.unusedVariables false
set_option linter.unusedSimpArgs false
theorem sc_sz : ∀ (f : Nat) (l : List UInt8) (a : Nat), ∀ x ∈ (scL l f a).1, x.t.size ≤ l.length
  | 0, l, a => fun x hx => by simp [scL] at hx
  | f + 1, l, a => fun x hx => by
    cases hc : l[a]? with
    | none => rw [scL_none hc] at hx; cases hx
    | some c =>
      cases hk : (nxS l a c).ok with
      | false => rw [scL_bad hc hk] at hx; cases hx
      | true =>
        by_cases h0 : 0 < (nxS l a c).k
        · rw [scL_tok hc hk h0] at hx
          rcases List.mem_cons.1 hx with rfl | hx
          · rw [strL_size]; exact nx_t hc
          · exact sc_sz f l _ x hx
        · rw [scL_skip hc hk h0] at hx
          exact sc_sz f l _ x hx
theorem rt_sz {s : ByteArray} : (∀ x ∈ rtL s, x.t.size ≤ 6000) ∧ (rtL s).length ≤ 800 := by
  rw [rtL]
  split
  · exact ⟨(fun x hx => by cases hx), by decide⟩
  · rename_i h1
    split
    · exact ⟨(fun x hx => by cases hx), by decide⟩
    · split
      · exact ⟨(fun x hx => by cases hx), by decide⟩
      · refine ⟨fun x hx => ?_, by omega⟩
        have := sc_sz _ _ _ x hx
        rw [str_len] at this
        omega
/-- the terms of a text, and its code -/
def peO (s : ByteArray) : Option (List TM) := match prs (8 * (rtL s).length + 5) .ex (rtL s) with
  | some (ts, []) => some ts
  | _ => none
def peC (s : ByteArray) : Int := if rtC s ≠ 0 then rtC s else match peO s with
  | some ts => if 40 < ts.length then 3 else 0
  | none => 6
def peL (s : ByteArray) : List TM := if rtC s ≠ 0 then [] else match peO s with
  | some ts => if 40 < ts.length then [] else ts
  | none => []
theorem var_lt {P : Program} {n : String} {g : Nat} {cs : Array Value} {w : World} (hg : P.globalNamed n = some g) (h : w.var? P n = some cs) : g < w.heap.size := by
  unfold World.var? at h
  rw [hg] at h
  simp only [Option.bind_some] at h
  apply Nat.lt_of_not_le
  intro hle
  rw [Array.getElem?_eq_none hle] at h
  simp at h
theorem EV.made {w w' : World} {p : Nat} (hL : LV w) (hT : Tab w 0 (strsCells kwNm)) (hb : Below w.heap.size w w') (hp : w.heap.size ≤ p) : EV w' p := by
  obtain ⟨t1, p1, h1⟩ := hL.s
  obtain ⟨t2, p2, h2⟩ := hL.r
  have k1 := var_lt (g := 4) (by kernel_rfl) hL.t
  have k2 := var_lt (g := 5) (by kernel_rfl) h1
  have k3 := var_lt (g := 6) (by kernel_rfl) h2
  have k4 := hT.1
  exact ⟨hL.keep hb, hT.keep hb, by omega, by omega, by omega, by omega⟩
set_option maxHeartbeats 1000000 in
theorem impl_newParser {s : ByteArray} {w : World} (hL : LV w) (hz : s.size ≤ 1048576) : Calls Tryz.prog 51 #[.string s] w fun e w' => ∃ p, e = .returned (.tuple #[.pointer (some ⟨p, 0, none⟩), .int .i64 (rtC s)]) ∧ Below w.heap.size w w' ∧ w.heap.size ≤ p ∧ PSt w' p false (rtL s) := by
  have HK := Lib.hid (impl_ReadTokens hL hz)
  clear hL
  go_enter Tryz.func51, Tryz.ntmps51
  go_wp2_with fail
  refine Calls.mono HK.out ?_
  rintro e w1 ⟨n, a, c, rfl, hb1, ho⟩
  have hbb : Below w1.heap.size w1 (w1.alloc (.cells #[.slice a n c, .bool false] 127)) := below_alloc1 (Below.refl _ _) _
  have HP := Lib.hid (show PSt (w1.alloc (.cells #[.slice a n c, .bool false] 127)) w1.heap.size false (rtL s) from ⟨a, n, c, Blk.made _ _ _, (ho.keep hbb).flats, fun g o e => by
    rcases ho.1.2 with ⟨he, _⟩ | ⟨g', cap, cur, he, hb, hg, _⟩
    · simp only [Value.slice.injEq] at he; rw [e] at he; cases he.1
    · simp only [Value.slice.injEq] at he
      rw [e] at he
      have h9 := he.1
      simp only [Option.some.injEq, Addr.mk.injEq, and_true] at h9
      obtain ⟨rfl, rfl⟩ := h9
      exact (ho.blk g (by rw [e])).2, by have := ho.len; have := (rt_sz (s := s)).2; omega, rt_sz.1, rt_tok⟩)
  have hs1 := hb1.size
  have HB := Lib.hid (below_callS hb1 hbb)
  clear hbb ho hb1
  go_wp2
  exact bodyPost_ret (v := .tuple #[.pointer (some ⟨w1.heap.size, 0, none⟩), .int .i64 (rtC s)]) (by simp [results, Tryz.results51, go_sem]) rfl ⟨w1.heap.size, rfl, HB.out, hs1, HP.out⟩
set_option maxHeartbeats 1000000 in
theorem impl_isDone {p : Nat} {bad : Bool} {L : List TR} {w : World} (h : PSt w p bad L) : Calls Tryz.prog 53 #[.pointer (some ⟨p, 0, none⟩)] w fun e w' => e = .returned (.bool (!bad && L.isEmpty)) ∧ w = w' := by
  obtain ⟨ta, tn, tc, x0, x1, xl, hl⟩ := h.bd
  clear h
  cases bad
  · have H := Lib.hid (show L.isEmpty = ((tn : Int) == 0) by
      cases L with
      | nil => subst hl; rfl
      | cons x r =>
        have : ((tn : Int) == 0) = false := by rw [beq_eq_false_iff_ne]; simp at hl; omega
        rw [this]; rfl)
    clear hl
    go_enter Tryz.func53, Tryz.ntmps53
    go_wp2
    go_ret
    exact ⟨by rw [H.out]; rfl, rfl⟩
  · clear hl
    go_enter Tryz.func53, Tryz.ntmps53
    go_wp2
    go_ret
    exact ⟨rfl, rfl⟩
set_option maxHeartbeats 2000000 in
theorem impl_ParseExpression {s : ByteArray} {w : World} (hL : LV w) (hT : Tab w 0 (strsCells kwNm)) (hz : s.size ≤ 1048576) : Calls Tryz.prog 34 #[.string s] w fun e w' => ∃ n a c, e = .returned (.tuple #[.slice a n c, .int .i64 (peC s)]) ∧ Below w.heap.size w w' ∧ OwnTm w' w.heap.size a n c (peL s) := by
  have HK := Lib.hid (impl_newParser hL hz)
  have HE := Lib.hid (fun (wx : World) (p : Nat) (hb : Below w.heap.size w wx) (hp : w.heap.size ≤ p) => EV.made hL hT hb hp)
  have HC := Lib.hid (show peC s = if rtC s ≠ 0 then rtC s else match peO s with
    | some ts => if 40 < ts.length then 3 else 0
    | none => 6 from rfl)
  have HL := Lib.hid (show peL s = if rtC s ≠ 0 then [] else match peO s with
    | some ts => if 40 < ts.length then [] else ts
    | none => [] from rfl)
  have HO := Lib.hid (show peO s = match prs (8 * (rtL s).length + 5) .ex (rtL s) with
    | some (ts, []) => some ts
    | _ => none from rfl)
  have HTK := Lib.hid (rt_tok (s := s))
  have HSZ := Lib.hid (rt_sz (s := s)).2
  clear hL hT
  generalize peC s = C at *
  generalize peL s = PL at *
  generalize peO s = PO at *
  generalize rtC s = rc at *
  generalize rtL s = L at *
  by_cases hrc : rc = 0
  · subst hrc
    go_enter Tryz.func34, Tryz.ntmps34
    go_wp2_with fail
    refine Calls.mono HK.out ?_
    rintro e w1 ⟨p, rfl, hb1, hp1, hP⟩
    have KX := Lib.hid ((impl_all (8 * L.length + 5)).ex w1 p L hP (HE.out w1 p hb1 hp1) HTK.out (Nat.le_refl _))
    have B1 := Lib.hid hb1
    have hs1 := hb1.size
    clear hb1 hP
    go_wp2_with fail
    refine Calls.mono KX.out ?_
    rintro e w2 ⟨a, n, c, ts, bad, R, rfl, hO, hP, hQ, hn, ho⟩
    have B2 := Lib.hid (show Below w.heap.size w w2 from hQ.below B1.out hp1 hs1)
    have O2 := Lib.hid (hO.le hs1)
    have HPO := Lib.hid (show PO = if (!bad && R.isEmpty) = true then some ts else none by
      rw [HO.out, ho]
      cases bad
      · cases R <;> rfl
      · rfl)
    have hts := hO.flats.len
    have P2 := Lib.hid hP
    have hnL := HSZ.out
    clear hO hP hQ ho KX B1 HE HK HO
    go_wp2_with fail
    refine Calls.mono (impl_isDone P2.out) ?_
    rintro e _ ⟨rfl, rfl⟩
    cases hd : (!bad && R.isEmpty)
    · have H1 := Lib.hid (show C = 6 ∧ PL = [] by rw [HC.out, HL.out, HPO.out, hd]; exact ⟨rfl, rfl⟩)
      clear hd
      go_wp2
      exact bodyPost_ret (v := .tuple #[.slice none 0 0, .int .i64 6]) (by simp [results, Tryz.results34, go_sem]) rfl ⟨0, none, 0, by rw [H1.out.1], B2.out, by rw [H1.out.2]; exact OwnTm.nil _ _⟩
    · by_cases h40 : 40 < n
      · have H1 := Lib.hid (show C = 3 ∧ PL = [] by
          rw [HC.out, HL.out, HPO.out, hd]
          simp only [ne_eq, not_true_eq_false, if_false, if_true]
          rw [if_pos (by omega), if_pos (by omega)]
          exact ⟨rfl, rfl⟩)
        have h40' : (40 : Int) < (n : Int) := by omega
        clear hd
        go_wp2
        exact bodyPost_ret (v := .tuple #[.slice none 0 0, .int .i64 3]) (by simp [results, Tryz.results34, go_sem]) rfl ⟨0, none, 0, by rw [H1.out.1], B2.out, by rw [H1.out.2]; exact OwnTm.nil _ _⟩
      · have H1 := Lib.hid (show C = 0 ∧ PL = ts by
          rw [HC.out, HL.out, HPO.out, hd]
          simp only [ne_eq, not_true_eq_false, if_false, if_true]
          rw [if_neg (by omega), if_neg (by omega)]
          exact ⟨rfl, rfl⟩)
        have h40' : ¬ (40 : Int) < (n : Int) := by omega
        clear hd
        go_wp2
        exact bodyPost_ret (v := .tuple #[.slice a n c, .int .i64 0]) (by simp [results, Tryz.results34, go_sem]) rfl ⟨n, a, c, by rw [H1.out.1], B2.out, by rw [H1.out.2]; exact O2.out⟩
  · have hrc' : (rc != 0) = true := by simpa using hrc
    have H1 := Lib.hid (show C = rc ∧ PL = [] by rw [HC.out, HL.out, if_pos hrc, if_pos hrc]; exact ⟨rfl, rfl⟩)
    go_enter Tryz.func34, Tryz.ntmps34
    go_wp2_with fail
    refine Calls.mono HK.out ?_
    rintro e w1 ⟨p, rfl, hb1, hp1, hP⟩
    clear hP HK HE
    go_wp2
    exact bodyPost_ret (v := .tuple #[.slice none 0 0, .int .i64 rc]) (by simp [results, Tryz.results34, go_sem]) rfl ⟨0, none, 0, by rw [H1.out.1], hb1, by rw [H1.out.2]; exact OwnTm.nil _ _⟩
end Go.Proofs.YtjneodmohkpckaaGreatDoor
