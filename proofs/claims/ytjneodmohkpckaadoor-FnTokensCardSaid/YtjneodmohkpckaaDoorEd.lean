/- The program's parser: its state and its small steps, walked. -/
import Derived.Test.YtjneodmohkpckaaDoorEc
import Derived.Test.YtjneodmohkpckaaDoorT12l
import Derived.Test.YtjneodmohkpckaaDoorOw
import Derived.Test.YtjneodmohkpckaaDoorDa
namespace Go.Proofs.YtjneodmohkpckaaDoor
open Go.RowKit
set_option linter.unusedVariables false
set_option linter.unusedSimpArgs false
theorem Below.onlyE {B : Nat} {w w' : World} (hb : Below B w w') : Only B w.heap.size w w' := ⟨hb.os, hb.tape, hb.output, hb.size, fun k hk hr => hb.block k (by omega)⟩
/-- where a parser stands: the tokens that are left, and whether something was wrong -/
structure PS (w : World) (p : Nat) (ta : Option Addr) (tn tc : Nat) (bad : Bool) (L : List TR) : Prop where
  x : Blk w p #[.slice ta tn tc, .bool bad] 98
  t : FT w ta tn tc L
  ne : ∀ g off, ta = some ⟨g, off, none⟩ → g < p
  n8 : tn ≤ 800
  sz : ∀ x ∈ L, x.t.size ≤ 6000
  tk : ∀ x ∈ L, TkB x
theorem PS.keepB {w w' : World} {p tn tc : Nat} {ta : Option Addr} {bad : Bool} {L : List TR} (h : PS w p ta tn tc bad L) (hb : Below w.heap.size w w') : PS w' p ta tn tc bad L := ⟨h.x.keep hb, h.t.keep hb, h.ne, h.n8, h.sz, h.tk⟩
def PSt (w : World) (p : Nat) (bad : Bool) (L : List TR) : Prop := ∃ ta tn tc, PS w p ta tn tc bad L
theorem PSt.keep {w w' : World} {p : Nat} {bad : Bool} {L : List TR} (h : PSt w p bad L) (hb : Below w.heap.size w w') : PSt w' p bad L := by
  obtain ⟨ta, tn, tc, h⟩ := h
  exact ⟨ta, tn, tc, h.x.keep hb, h.t.keep hb, h.ne, h.n8, h.sz, h.tk⟩
theorem PSt.lt {w : World} {p : Nat} {bad : Bool} {L : List TR} (h : PSt w p bad L) : p < w.heap.size := by
  obtain ⟨ta, tn, tc, h⟩ := h; exact h.x.lt
theorem PSt.n8 {w : World} {p : Nat} {bad : Bool} {L : List TR} (h : PSt w p bad L) : L.length ≤ 800 := by
  obtain ⟨ta, tn, tc, h⟩ := h; have := h.n8; have := h.t.len; omega
theorem PSt.sz {w : World} {p : Nat} {bad : Bool} {L : List TR} (h : PSt w p bad L) : ∀ x ∈ L, x.t.size ≤ 6000 := by
  obtain ⟨ta, tn, tc, h⟩ := h; exact h.sz
theorem PSt.tk {w : World} {p : Nat} {bad : Bool} {L : List TR} (h : PSt w p bad L) : ∀ x ∈ L, TkB x := by
  obtain ⟨ta, tn, tc, h⟩ := h; exact h.tk
theorem FT.head {w : World} {a : Option Addr} {n c : Nat} {x : TR} {r : List TR} (h : FT w a n c (x :: r)) : ∃ b off, a = some ⟨b, off, none⟩ ∧ b < w.heap.size ∧ TR.ok x ∧ w.cell? ⟨b, off, none⟩ = some (.int .i64 x.k) ∧ w.cell? ⟨b, off + 1, none⟩ = some (.string x.t) := by
  have hn : 0 < n := by have := h.len; simp at this; omega
  obtain ⟨b, off, y, h1, h2, h3, h4, h5⟩ := h.at hn
  simp only [List.getElem?_cons_zero, Option.some.injEq] at h3
  subst h3
  have c0 := h5 0 _ rfl
  have c1 := h5 1 _ rfl
  simp only [Nat.zero_mul, Nat.add_zero] at c0 c1
  exact ⟨b, off, h1, h2, h4, c0, c1⟩
theorem impl_peek {p : Nat} {bad : Bool} {L : List TR} {w : World} (h : PSt w p bad L) : Calls Tryd.prog 86 #[.pointer (some ⟨p, 0, none⟩)] w fun e w' => e = .returned (.string (pkT L)) ∧ w = w' := by
  obtain ⟨ta, tn, tc, h⟩ := h
  have x0 := h.x.cell 0
  have x1 := h.x.cell 1
  have xl := h.x.lt
  simp only [List.getElem?_toArray, List.getElem?_cons_zero, List.getElem?_cons_succ] at x0 x1
  have hl := h.t.len
  cases L with
  | nil =>
    have h0 : tn = 0 := by simpa using hl.symm
    subst h0
    clear h hl
    go_enter Tryd.func86, Tryd.ntmps86
    go_wp2
    go_ret
    exact ⟨rfl, rfl⟩
  | cons x r =>
    obtain ⟨b, off, rfl, hb, hok, c0, c1⟩ := h.t.head
    have hn : 0 < tn := by simp at hl; omega
    have hn1 : ((tn : Int) == 0) = false := by rw [beq_eq_false_iff_ne]; omega
    have hn2 : (0 : Int) < (tn : Int) := by omega
    have E := Lib.hid (show pkT (x :: r) = x.t from rfl)
    clear h hl
    go_enter Tryd.func86, Tryd.ntmps86
    go_wp2
    go_ret
    exact ⟨by rw [E.out]; rfl, rfl⟩
/-- the first token is cut off -/
theorem PS.take1 {w : World} {p b off off' tn tc : Nat} {bad : Bool} {x : TR} {r : List TR} (h : PS w p (some ⟨b, off, none⟩) tn tc bad (x :: r)) (ho : (tc = 1 ∧ off' = off) ∨ off' = off + 2) : PS (w.setCell ⟨p, 0, none⟩ (.slice (some ⟨b, off', none⟩) (tn - 1) (tc - 1))) p (some ⟨b, off', none⟩) (tn - 1) (tc - 1) bad r := by
  have hl := h.t.len
  have hc := h.t.cap
  have hbp := h.ne b off rfl
  simp only [List.length_cons] at hl
  refine ⟨heap_setCell_same w p 0 _ _ _ h.x, ⟨by omega, by omega, ?_, fun y hy => h.t.wf y (List.mem_cons_of_mem _ hy), fun e => by cases e⟩, fun g o e => by cases e; exact hbp, by have := h.n8; omega, fun y hy => h.sz y (List.mem_cons_of_mem _ hy), fun y hy => h.tk y (List.mem_cons_of_mem _ hy)⟩
  by_cases h1 : tn - 1 = 0
  · exact .inl h1
  · have ho2 : off' = off + 2 := by rcases ho with ho | ho <;> omega
    obtain ⟨b2, o2, e2, hb2, hcell⟩ := h.t.pos.resolve_left (by omega)
    cases e2
    refine .inr ⟨b, off', rfl, by simpa [World.setCell] using hb2, fun i y hy j v hv => ?_⟩
    rw [World.cell?_setCell_other _ _ _ _ (by intro e; first | exact (Nat.ne_of_lt hbp) (congrArg Addr.block e) | exact (Nat.ne_of_lt hbp) (congrArg Addr.block e).symm)]
    have := hcell (i + 1) y (by simpa using hy) j v hv
    rw [ho2, show off + 2 + i * 2 + j = off + (i + 1) * 2 + j by omega]
    exact this
theorem PS.wrong {w : World} {p tn tc : Nat} {ta : Option Addr} {bad : Bool} {L : List TR} (h : PS w p ta tn tc bad L) : PS (w.setCell ⟨p, 1, none⟩ (.bool true)) p ta tn tc true L :=
  ⟨heap_setCell_same w p 1 _ _ _ h.x, h.t.only (Only.set (Only.refl p (p + 1) w) ⟨Nat.le_refl _, Nat.lt_succ_self _⟩ 1 (.bool true)) (fun g o e => by have := h.ne g o e; omega), h.ne, h.n8, h.sz, h.tk⟩
theorem only_p {w : World} {p : Nat} (i : Nat) (v : Value) : Only p (p + 1) w (w.setCell ⟨p, i, none⟩ v) := Only.set (Only.refl p (p + 1) w) ⟨Nat.le_refl _, Nat.lt_succ_self _⟩ i v
/-- the token that is taken -/
def tkOf : List TR → TR
  | [] => ⟨0, ⟨#[]⟩⟩
  | x :: _ => x
set_option maxHeartbeats 1000000 in
theorem impl_take {p : Nat} {bad : Bool} {L : List TR} {w : World} (h : PSt w p bad L) : Calls Tryd.prog 87 #[.pointer (some ⟨p, 0, none⟩)] w fun e w' => e = .returned (.agg #[.int .i64 (tkOf L).k, .string (tkOf L).t]) ∧ PSt w' p (bad || L.isEmpty) L.tail ∧ Only p (p + 1) w w' := by
  obtain ⟨ta, tn, tc, h⟩ := h
  have x0 := h.x.cell 0
  have x1 := h.x.cell 1
  have xl := h.x.lt
  have xf := h.x.free
  simp only [List.getElem?_toArray, List.getElem?_cons_zero, List.getElem?_cons_succ] at x0 x1
  have hl := h.t.len
  have hp := h.n8
  have hcap := h.t.cap
  have H := Lib.hid h
  cases L with
  | nil =>
    have h0 : tn = 0 := by simpa using hl.symm
    subst h0
    clear h hl
    go_enter Tryd.func87, Tryd.ntmps87
    have hw := (H.out.wrong.keepB (below_alloc1 (Below.refl _ _) (.cells #[.int .i64 0, .string ⟨#[]⟩] 33)))
    have HW := Lib.hid hw
    clear hw
    go_wp2
    exact bodyPost_ret (v := .agg #[.int .i64 0, .string ⟨#[]⟩]) (by simp [results, Tryd.results87, go_sem, *]) rfl ⟨rfl, ⟨ta, 0, tc, by simpa using HW.out⟩, (only_p 1 _).alloc _⟩
  | cons x r =>
    obtain ⟨b, off, rfl, hb, hok, c0, c1⟩ := h.t.head
    have hn : 0 < tn := by simp at hl; omega
    have hn1 : ((tn : Int) == 0) = false := by rw [beq_eq_false_iff_ne]; omega
    have hn2 : (0 : Int) < (tn : Int) := by omega
    have hn3 : (1 : Int) ≤ (tn : Int) := by omega
    have hn4 : (1 : Int) ≤ (tc : Int) := by omega
    clear h hl
    go_enter Tryd.func87, Tryd.ntmps87
    by_cases h1 : tc = 1
    · have HW := Lib.hid ((H.out.take1 (.inl ⟨h1, rfl⟩)).keepB (below_alloc1 (below_alloc1 (Below.refl _ _) (.cells #[.int .i64 x.k, .string x.t] 33)) (.cells #[.int .i64 x.k, .string x.t] 33)))
      subst h1
      obtain rfl : tn = 1 := by omega
      go_wp2
      exact bodyPost_ret (v := .agg #[.int .i64 x.k, .string x.t]) (by simp [results, Tryd.results87, go_sem, *]) rfl ⟨rfl, ⟨_, _, _, by simpa using HW.out⟩, ((only_p 0 _).alloc _).alloc _⟩
    · have HW := Lib.hid ((H.out.take1 (.inr rfl)).keepB (below_alloc1 (below_alloc1 (Below.refl _ _) (.cells #[.int .i64 x.k, .string x.t] 33)) (.cells #[.int .i64 x.k, .string x.t] 33)))
      go_wp2
      exact bodyPost_ret (v := .agg #[.int .i64 x.k, .string x.t]) (by simp [results, Tryd.results87, go_sem, *]) rfl ⟨rfl, ⟨_, _, _, by simpa using HW.out⟩, ((only_p 0 _).alloc _).alloc _⟩
theorem pk_ne {L : List TR} {s : ByteArray} {q : Bool} (h : isT L s.data.toList = q) : (!((pkT L).toList == s.toList)) = !q := by
  rw [str_eq, ← h, isT]
set_option maxHeartbeats 1000000 in
theorem impl_accept {p : Nat} {bad : Bool} {L : List TR} {s : ByteArray} {w : World} (h : PSt w p bad L) (hs : s.data.toList ≠ []) : Calls Tryd.prog 70 #[.pointer (some ⟨p, 0, none⟩), .string s] w fun e w' => e = .returned (.bool (isT L s.data.toList)) ∧ PSt w' p bad (if isT L s.data.toList = true then L.tail else L) ∧ Only p (p + 1) w w' := by
  have H := Lib.hid h
  clear h
  cases ht : isT L s.data.toList
  · have hpk : (!((pkT L).toList == s.toList)) = true := pk_ne ht
    go_enter Tryd.func70, Tryd.ntmps70
    go_wp2_with fail
    refine Calls.mono (impl_peek H.out) ?_
    rintro e _ ⟨rfl, rfl⟩
    go_wp2
    go_ret
    exact ⟨rfl, by simpa using H.out, Only.refl _ _ _⟩
  · have hpk : (!((pkT L).toList == s.toList)) = false := pk_ne ht
    have hne := isT_len hs ht
    have hemp : (bad || L.isEmpty) = bad := by
      cases L with
      | nil => simp at hne
      | cons => simp
    have HT := Lib.hid (impl_take H.out)
    rw [hemp] at HT
    clear hne hemp ht
    go_enter Tryd.func70, Tryd.ntmps70
    go_wp2_with fail
    refine Calls.mono (impl_peek H.out) ?_
    rintro e _ ⟨rfl, rfl⟩
    go_wp2_with fail
    refine Calls.mono HT.out ?_
    rintro e w1 ⟨rfl, hp, ho⟩
    go_wp2
    go_ret
    exact ⟨rfl, by simpa using hp, ho⟩
set_option maxHeartbeats 1000000 in
theorem impl_expect {p : Nat} {bad : Bool} {L : List TR} {s : ByteArray} {w : World} (h : PSt w p bad L) (hs : s.data.toList ≠ []) : Calls Tryd.prog 104 #[.pointer (some ⟨p, 0, none⟩), .string s] w fun e w' => (∃ v, e = .returned v) ∧ PSt w' p (bad || !isT L s.data.toList) (if isT L s.data.toList = true then L.tail else L) ∧ Only p (p + 1) w w' := by
  have HA := Lib.hid (impl_accept h hs)
  clear h hs
  cases ht : isT L s.data.toList
  · rw [ht] at HA
    go_enter Tryd.func104, Tryd.ntmps104
    go_wp2_with fail
    refine Calls.mono HA.out ?_
    rintro e w1 ⟨rfl, ⟨ta, tn, tc, hp⟩, ho⟩
    simp only [Bool.false_eq_true, if_false] at hp
    have x1 := hp.x.cell 1
    have xl := hp.x.lt
    have xf := hp.x.free
    simp only [List.getElem?_toArray, List.getElem?_cons_zero, List.getElem?_cons_succ] at x1
    have HP := Lib.hid hp.wrong
    clear hp
    go_wp2
    refine bodyPost_end (results_none Tryd.results104 _ _ _) rfl ?_
    exact ⟨⟨_, rfl⟩, ⟨ta, tn, tc, HP.out⟩, ho.set ⟨Nat.le_refl _, Nat.lt_succ_self _⟩ 1 _⟩
  · rw [ht] at HA
    go_enter Tryd.func104, Tryd.ntmps104
    go_wp2_with fail
    refine Calls.mono HA.out ?_
    rintro e w1 ⟨rfl, hp, ho⟩
    go_wp2
    refine bodyPost_end (results_none Tryd.results104 _ _ _) rfl ?_
    exact ⟨⟨_, rfl⟩, by simpa using hp, ho⟩
def nmB (x : TR) : Bool := decide (x.k = 1) && decide (kwI x.t < 0)
set_option maxHeartbeats 1000000 in
theorem impl_name {p : Nat} {bad : Bool} {L : List TR} {w : World} (h : PSt w p bad L) (hT : Tab w 0 (strsCells kwNm)) (hg : 0 ≠ p) : Calls Tryd.prog 107 #[.pointer (some ⟨p, 0, none⟩)] w fun e w' => e = .returned (.string (tkOf L).t) ∧ PSt w' p ((bad || L.isEmpty) || !nmB (tkOf L)) L.tail ∧ Only p (p + 1) w w' := by
  have HT := Lib.hid (impl_take h)
  have HK := Lib.hid hT
  have HE := Lib.hid (show nmB (tkOf L) = (decide ((tkOf L).k = 1) && decide (kwI (tkOf L).t < 0)) from rfl)
  clear h hT
  generalize tkOf L = x at *
  obtain ⟨k, t⟩ := x
  dsimp only at HT HE ⊢
  go_enter Tryd.func107, Tryd.ntmps107
  go_wp2_with fail
  refine Calls.mono HT.out ?_
  rintro e w1 ⟨rfl, hp, ho⟩
  have hp2 := hp.keep (below_alloc1 (Below.refl _ _) (.cells #[.int .i64 k, .string t] 33))
  have hT2 : Tab (w1.alloc (.cells #[.int .i64 k, .string t] 33)) 0 (strsCells kwNm) := by
    have hx := HK.out
    refine Tab.keep (w := w1) ⟨Nat.lt_of_lt_of_le hx.1 ho.size, fun i v hv => (ocell ho _ i hx.1 (by omega)).trans (hx.2 i v hv)⟩ (below_alloc1 (Below.refl _ _) _)
  have hO := ho.alloc (.cells #[.int .i64 k, .string t] 33)
  have hB := Blk.made w1 #[.int .i64 k, .string t] 33
  have HP := Lib.hid hp2
  have HT2 := Lib.hid hT2
  have HO := Lib.hid hO
  obtain ⟨w2, hw2⟩ : ∃ v, v = w1.alloc (.cells #[.int .i64 k, .string t] 33) := ⟨_, rfl⟩
  rw [← hw2] at HP HT2 HO hB
  have HB := Lib.hid hB
  have hpw := hp.lt
  clear hp hp2 hT2 hO ho hB
  go_upto_region 2 with fail
  rw [← hw2]
  clear hw2
  have b0 := HB.out.cell 0
  have b1 := HB.out.cell 1
  have bl := HB.out.lt
  simp only [List.getElem?_toArray, List.getElem?_cons_zero, List.getElem?_cons_succ] at b0 b1
  clear HT HB HK
  have wr : ∀ q, q = false → ∃ ta tn tc, Hid (PS w2 p ta tn tc (bad || L.isEmpty) L.tail) := fun q _ => by obtain ⟨ta, tn, tc, h⟩ := HP.out; exact ⟨ta, tn, tc, Lib.hid h⟩
  by_cases hk : k = 1
  · subst hk
    have hk1 : ((1 : Int) != 1) = false := rfl
    go_wp2_with fail
    refine Calls.mono (impl_IsKeyword HT2.out) ?_
    rintro e _ ⟨rfl, rfl⟩
    cases hq : decide (0 ≤ kwI t)
    · have hq2 : ¬ 0 ≤ kwI t := of_decide_eq_false hq
      have HQ := Lib.hid (show nmB ⟨1, t⟩ = true by rw [HE.out, decide_eq_true (show kwI t < 0 by omega)]; rfl)
      clear hq hq2
      go_wp2
      go_ret
      exact ⟨rfl, by rw [HQ.out]; simpa using HP.out, HO.out⟩
    · have hq2 : 0 ≤ kwI t := of_decide_eq_true hq
      have HQ := Lib.hid (show nmB ⟨1, t⟩ = false by rw [HE.out, decide_eq_false (show ¬ kwI t < 0 by omega), Bool.and_false])
      obtain ⟨ta, tn, tc, P⟩ := wr false rfl
      have x1 := P.out.x.cell 1
      have xl := P.out.x.lt
      have xf := P.out.x.free
      simp only [List.getElem?_toArray, List.getElem?_cons_zero, List.getElem?_cons_succ] at x1
      have hne : p ≠ w1.heap.size := by omega
      clear hq hq2 wr
      go_wp2
      go_ret
      exact ⟨rfl, ⟨ta, tn, tc, by rw [HQ.out]; simpa using P.out.wrong⟩, HO.out.set ⟨Nat.le_refl _, Nat.lt_succ_self _⟩ 1 _⟩
  · have hk1 : (k != 1) = true := by simpa using hk
    have HQ := Lib.hid (show nmB ⟨k, t⟩ = false by rw [HE.out, decide_eq_false hk]; rfl)
    obtain ⟨ta, tn, tc, P⟩ := wr false rfl
    have x1 := P.out.x.cell 1
    have xl := P.out.x.lt
    have xf := P.out.x.free
    simp only [List.getElem?_toArray, List.getElem?_cons_zero, List.getElem?_cons_succ] at x1
    have hne : p ≠ w1.heap.size := by omega
    clear wr
    go_wp2
    go_ret
    exact ⟨rfl, ⟨ta, tn, tc, by rw [HQ.out]; simpa using P.out.wrong⟩, HO.out.set ⟨Nat.le_refl _, Nat.lt_succ_self _⟩ 1 _⟩
end Go.Proofs.YtjneodmohkpckaaDoor
