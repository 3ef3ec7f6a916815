/- The program's parser: its state and its small steps, walked.; The program's parser: its environment, names and numbers.; The program's parser of expressions, walked. -/
import Derived.Test.YtjneodmohkpckaaGreatDoorEc
import Derived.Test.YtjneodmohkpckaaGreatDoorYa1
import Derived.Test.YtjneodmohkpckaaGreatDoorYb1
import Derived.Test.YtjneodmohkpckaaGreatDoorY8
import Derived.Test.YtjneodmohkpckaaGreatDoorAt
namespace Go.Proofs.YtjneodmohkpckaaGreatDoor
open Go.RowKit
set_option linter.unusedVariables false
set_option linter.unusedSimpArgs false
theorem Below.onlyE {B : Nat} {w w' : World} (hb : Below B w w') : Only B w.heap.size w w' := ⟨hb.os, hb.tape, hb.output, hb.size, fun k hk hr => hb.block k (by omega)⟩
/-- where a parser stands: the tokens that are left, and whether something was wrong -/
structure PS (w : World) (p : Nat) (ta : Option Addr) (tn tc : Nat) (bad : Bool) (L : List TR) : Prop where
  x : Blk w p #[.slice ta tn tc, .bool bad] 127
  t : FT w ta tn tc L
  ne : ∀ g off, ta = some ⟨g, off, none⟩ → g < p
  n8 : tn ≤ 800
  sz : ∀ x ∈ L, x.t.size ≤ 6000
  tk : ∀ x ∈ L, TkB x
theorem PS.keepB {w w' : World} {p tn tc : Nat} {ta : Option Addr} {bad : Bool} {L : List TR} (h : PS w p ta tn tc bad L) (hb : Below w.heap.size w w') : PS w' p ta tn tc bad L := ⟨h.x.keep hb, h.t.keep hb, h.ne, h.n8, h.sz, h.tk⟩
def PSt (w : World) (p : Nat) (bad : Bool) (L : List TR) : Prop := ∃ ta tn tc, PS w p ta tn tc bad L
theorem PSt.keep {w w' : World} {p : Nat} {bad : Bool} {L : List TR} (h : PSt w p bad L) (hb : Below w.heap.size w w') : PSt w' p bad L := by
  obtain ⟨ta, tn, tc, h⟩ := h
  exact ⟨ta, tn, tc, h.x.keep hb, h.t.keep hb, h.ne, h.n8, h.sz, h.tk⟩
theorem PSt.lt {w : World} {p : Nat} {bad : Bool} {L : List TR} (h : PSt w p bad L) : p < w.heap.size := by
  obtain ⟨ta, tn, tc, h⟩ := h; exact h.x.lt
theorem PSt.n8 {w : World} {p : Nat} {bad : Bool} {L : List TR} (h : PSt w p bad L) : L.length ≤ 800 := by
  obtain ⟨ta, tn, tc, h⟩ := h; have := h.n8; have := h.t.len; omega
theorem PSt.sz {w : World} {p : Nat} {bad : Bool} {L : List TR} (h : PSt w p bad L) : ∀ x ∈ L, x.t.size ≤ 6000 := by
  obtain ⟨ta, tn, tc, h⟩ := h; exact h.sz
theorem PSt.tk {w : World} {p : Nat} {bad : Bool} {L : List TR} (h : PSt w p bad L) : ∀ x ∈ L, TkB x := by
  obtain ⟨ta, tn, tc, h⟩ := h; exact h.tk
theorem FT.head {w : World} {a : Option Addr} {n c : Nat} {x : TR} {r : List TR} (h : FT w a n c (x :: r)) : ∃ b off, a = some ⟨b, off, none⟩ ∧ b < w.heap.size ∧ TR.ok x ∧ w.cell? ⟨b, off, none⟩ = some (.int .i64 x.k) ∧ w.cell? ⟨b, off + 1, none⟩ = some (.string x.t) := by
  have hn : 0 < n := by have := h.len; simp at this; omega
  obtain ⟨b, off, y, h1, h2, h3, h4, h5⟩ := h.at hn
  simp only [List.getElem?_cons_zero, Option.some.injEq] at h3
  subst h3
  have c0 := h5 0 _ rfl
  have c1 := h5 1 _ rfl
  simp only [Nat.zero_mul, Nat.add_zero] at c0 c1
  exact ⟨b, off, h1, h2, h4, c0, c1⟩
theorem impl_peek {p : Nat} {bad : Bool} {L : List TR} {w : World} (h : PSt w p bad L) : Calls Tryz.prog 108 #[.pointer (some ⟨p, 0, none⟩)] w fun e w' => e = .returned (.string (pkT L)) ∧ w = w' := by
  obtain ⟨ta, tn, tc, h⟩ := h
  have x0 := h.x.cell 0
  have x1 := h.x.cell 1
  have xl := h.x.lt
  simp only [List.getElem?_toArray, List.getElem?_cons_zero, List.getElem?_cons_succ] at x0 x1
  have hl := h.t.len
  cases L with
  | nil =>
    have h0 : tn = 0 := by simpa using hl.symm
    subst h0
    clear h hl
    go_enter Tryz.func108, Tryz.ntmps108
    go_wp2
    go_ret
    exact ⟨rfl, rfl⟩
  | cons x r =>
    obtain ⟨b, off, rfl, hb, hok, c0, c1⟩ := h.t.head
    have hn : 0 < tn := by simp at hl; omega
    have hn1 : ((tn : Int) == 0) = false := by rw [beq_eq_false_iff_ne]; omega
    have hn2 : (0 : Int) < (tn : Int) := by omega
    have E := Lib.hid (show pkT (x :: r) = x.t from rfl)
    clear h hl
    go_enter Tryz.func108, Tryz.ntmps108
    go_wp2
    go_ret
    exact ⟨by rw [E.out]; rfl, rfl⟩
/-- the first token is cut off -/
theorem PS.take1 {w : World} {p b off off' tn tc : Nat} {bad : Bool} {x : TR} {r : List TR} (h : PS w p (some ⟨b, off, none⟩) tn tc bad (x :: r)) (ho : (tc = 1 ∧ off' = off) ∨ off' = off + 2) : PS (w.setCell ⟨p, 0, none⟩ (.slice (some ⟨b, off', none⟩) (tn - 1) (tc - 1))) p (some ⟨b, off', none⟩) (tn - 1) (tc - 1) bad r := by
  have hl := h.t.len
  have hc := h.t.cap
  have hbp := h.ne b off rfl
  simp only [List.length_cons] at hl
  refine ⟨heap_setCell_same w p 0 _ _ _ h.x, ⟨by omega, by omega, ?_, fun y hy => h.t.wf y (List.mem_cons_of_mem _ hy), fun e => by cases e⟩, fun g o e => by cases e; exact hbp, by have := h.n8; omega, fun y hy => h.sz y (List.mem_cons_of_mem _ hy), fun y hy => h.tk y (List.mem_cons_of_mem _ hy)⟩
  by_cases h1 : tn - 1 = 0
  · exact .inl h1
  · have ho2 : off' = off + 2 := by rcases ho with ho | ho <;> omega
    obtain ⟨b2, o2, e2, hb2, hcell⟩ := h.t.pos.resolve_left (by omega)
    cases e2
    refine .inr ⟨b, off', rfl, by simpa [World.setCell] using hb2, fun i y hy j v hv => ?_⟩
    rw [World.cell?_setCell_other _ _ _ _ (by intro e; first | exact (Nat.ne_of_lt hbp) (congrArg Addr.block e) | exact (Nat.ne_of_lt hbp) (congrArg Addr.block e).symm)]
    have := hcell (i + 1) y (by simpa using hy) j v hv
    rw [ho2, show off + 2 + i * 2 + j = off + (i + 1) * 2 + j by omega]
    exact this
theorem PS.wrong {w : World} {p tn tc : Nat} {ta : Option Addr} {bad : Bool} {L : List TR} (h : PS w p ta tn tc bad L) : PS (w.setCell ⟨p, 1, none⟩ (.bool true)) p ta tn tc true L :=
  ⟨heap_setCell_same w p 1 _ _ _ h.x, h.t.only (Only.set (Only.refl p (p + 1) w) ⟨Nat.le_refl _, Nat.lt_succ_self _⟩ 1 (.bool true)) (fun g o e => by have := h.ne g o e; omega), h.ne, h.n8, h.sz, h.tk⟩
theorem only_p {w : World} {p : Nat} (i : Nat) (v : Value) : Only p (p + 1) w (w.setCell ⟨p, i, none⟩ v) := Only.set (Only.refl p (p + 1) w) ⟨Nat.le_refl _, Nat.lt_succ_self _⟩ i v
/-- the token that is taken -/
def tkOf : List TR → TR
  | [] => ⟨0, ⟨#[]⟩⟩
  | x :: _ => x
set_option maxHeartbeats 1000000 in
theorem impl_take {p : Nat} {bad : Bool} {L : List TR} {w : World} (h : PSt w p bad L) : Calls Tryz.prog 144 #[.pointer (some ⟨p, 0, none⟩)] w fun e w' => e = .returned (.agg #[.int .i64 (tkOf L).k, .string (tkOf L).t]) ∧ PSt w' p (bad || L.isEmpty) L.tail ∧ Only p (p + 1) w w' := by
  obtain ⟨ta, tn, tc, h⟩ := h
  have x0 := h.x.cell 0
  have x1 := h.x.cell 1
  have xl := h.x.lt
  have xf := h.x.free
  simp only [List.getElem?_toArray, List.getElem?_cons_zero, List.getElem?_cons_succ] at x0 x1
  have hl := h.t.len
  have hp := h.n8
  have hcap := h.t.cap
  have H := Lib.hid h
  cases L with
  | nil =>
    have h0 : tn = 0 := by simpa using hl.symm
    subst h0
    clear h hl
    go_enter Tryz.func144, Tryz.ntmps144
    have hw := (H.out.wrong.keepB (below_alloc1 (Below.refl _ _) (.cells #[.int .i64 0, .string ⟨#[]⟩] 88)))
    have HW := Lib.hid hw
    clear hw
    go_wp2
    exact bodyPost_ret (v := .agg #[.int .i64 0, .string ⟨#[]⟩]) (by simp [results, Tryz.results144, go_sem, *]) rfl ⟨rfl, ⟨ta, 0, tc, by simpa using HW.out⟩, (only_p 1 _).alloc _⟩
  | cons x r =>
    obtain ⟨b, off, rfl, hb, hok, c0, c1⟩ := h.t.head
    have hn : 0 < tn := by simp at hl; omega
    have hn1 : ((tn : Int) == 0) = false := by rw [beq_eq_false_iff_ne]; omega
    have hn2 : (0 : Int) < (tn : Int) := by omega
    have hn3 : (1 : Int) ≤ (tn : Int) := by omega
    have hn4 : (1 : Int) ≤ (tc : Int) := by omega
    clear h hl
    go_enter Tryz.func144, Tryz.ntmps144
    by_cases h1 : tc = 1
    · have HW := Lib.hid ((H.out.take1 (.inl ⟨h1, rfl⟩)).keepB (below_alloc1 (below_alloc1 (Below.refl _ _) (.cells #[.int .i64 x.k, .string x.t] 88)) (.cells #[.int .i64 x.k, .string x.t] 88)))
      subst h1
      obtain rfl : tn = 1 := by omega
      go_wp2
      exact bodyPost_ret (v := .agg #[.int .i64 x.k, .string x.t]) (by simp [results, Tryz.results144, go_sem, *]) rfl ⟨rfl, ⟨_, _, _, by simpa using HW.out⟩, ((only_p 0 _).alloc _).alloc _⟩
    · have HW := Lib.hid ((H.out.take1 (.inr rfl)).keepB (below_alloc1 (below_alloc1 (Below.refl _ _) (.cells #[.int .i64 x.k, .string x.t] 88)) (.cells #[.int .i64 x.k, .string x.t] 88)))
      go_wp2
      exact bodyPost_ret (v := .agg #[.int .i64 x.k, .string x.t]) (by simp [results, Tryz.results144, go_sem, *]) rfl ⟨rfl, ⟨_, _, _, by simpa using HW.out⟩, ((only_p 0 _).alloc _).alloc _⟩
theorem pk_ne {L : List TR} {s : ByteArray} {q : Bool} (h : isT L s.data.toList = q) : (!((pkT L).toList == s.toList)) = !q := by
  rw [str_eq, ← h, isT]
set_option maxHeartbeats 1000000 in
theorem impl_accept {p : Nat} {bad : Bool} {L : List TR} {s : ByteArray} {w : World} (h : PSt w p bad L) (hs : s.data.toList ≠ []) : Calls Tryz.prog 107 #[.pointer (some ⟨p, 0, none⟩), .string s] w fun e w' => e = .returned (.bool (isT L s.data.toList)) ∧ PSt w' p bad (if isT L s.data.toList = true then L.tail else L) ∧ Only p (p + 1) w w' := by
  have H := Lib.hid h
  clear h
  cases ht : isT L s.data.toList
  · have hpk : (!((pkT L).toList == s.toList)) = true := pk_ne ht
    go_enter Tryz.func107, Tryz.ntmps107
    go_wp2_with fail
    refine Calls.mono (impl_peek H.out) ?_
    rintro e _ ⟨rfl, rfl⟩
    go_wp2
    go_ret
    exact ⟨rfl, by simpa using H.out, Only.refl _ _ _⟩
  · have hpk : (!((pkT L).toList == s.toList)) = false := pk_ne ht
    have hne := isT_len hs ht
    have hemp : (bad || L.isEmpty) = bad := by
      cases L with
      | nil => simp at hne
      | cons => simp
    have HT := Lib.hid (impl_take H.out)
    rw [hemp] at HT
    clear hne hemp ht
    go_enter Tryz.func107, Tryz.ntmps107
    go_wp2_with fail
    refine Calls.mono (impl_peek H.out) ?_
    rintro e _ ⟨rfl, rfl⟩
    go_wp2_with fail
    refine Calls.mono HT.out ?_
    rintro e w1 ⟨rfl, hp, ho⟩
    go_wp2
    go_ret
    exact ⟨rfl, by simpa using hp, ho⟩
set_option maxHeartbeats 1000000 in
theorem impl_expect {p : Nat} {bad : Bool} {L : List TR} {s : ByteArray} {w : World} (h : PSt w p bad L) (hs : s.data.toList ≠ []) : Calls Tryz.prog 104 #[.pointer (some ⟨p, 0, none⟩), .string s] w fun e w' => (∃ v, e = .returned v) ∧ PSt w' p (bad || !isT L s.data.toList) (if isT L s.data.toList = true then L.tail else L) ∧ Only p (p + 1) w w' := by
  have HA := Lib.hid (impl_accept h hs)
  clear h hs
  cases ht : isT L s.data.toList
  · rw [ht] at HA
    go_enter Tryz.func104, Tryz.ntmps104
    go_wp2_with fail
    refine Calls.mono HA.out ?_
    rintro e w1 ⟨rfl, ⟨ta, tn, tc, hp⟩, ho⟩
    simp only [Bool.false_eq_true, if_false] at hp
    have x1 := hp.x.cell 1
    have xl := hp.x.lt
    have xf := hp.x.free
    simp only [List.getElem?_toArray, List.getElem?_cons_zero, List.getElem?_cons_succ] at x1
    have HP := Lib.hid hp.wrong
    clear hp
    go_wp2
    refine bodyPost_end (results_none Tryz.results104 _ _ _) rfl ?_
    exact ⟨⟨_, rfl⟩, ⟨ta, tn, tc, HP.out⟩, ho.set ⟨Nat.le_refl _, Nat.lt_succ_self _⟩ 1 _⟩
  · rw [ht] at HA
    go_enter Tryz.func104, Tryz.ntmps104
    go_wp2_with fail
    refine Calls.mono HA.out ?_
    rintro e w1 ⟨rfl, hp, ho⟩
    go_wp2
    refine bodyPost_end (results_none Tryz.results104 _ _ _) rfl ?_
    exact ⟨⟨_, rfl⟩, by simpa using hp, ho⟩
def nmB (x : TR) : Bool := decide (x.k = 1) && decide (kwI x.t < 0)
set_option maxHeartbeats 1000000 in
theorem impl_name {p : Nat} {bad : Bool} {L : List TR} {w : World} (h : PSt w p bad L) (hT : Tab w 0 (strsCells kwNm)) (hg : 0 ≠ p) : Calls Tryz.prog 105 #[.pointer (some ⟨p, 0, none⟩)] w fun e w' => e = .returned (.string (tkOf L).t) ∧ PSt w' p ((bad || L.isEmpty) || !nmB (tkOf L)) L.tail ∧ Only p (p + 1) w w' := by
  have HT := Lib.hid (impl_take h)
  have HK := Lib.hid hT
  have HE := Lib.hid (show nmB (tkOf L) = (decide ((tkOf L).k = 1) && decide (kwI (tkOf L).t < 0)) from rfl)
  clear h hT
  generalize tkOf L = x at *
  obtain ⟨k, t⟩ := x
  dsimp only at HT HE ⊢
  go_enter Tryz.func105, Tryz.ntmps105
  go_wp2_with fail
  refine Calls.mono HT.out ?_
  rintro e w1 ⟨rfl, hp, ho⟩
  have hp2 := hp.keep (below_alloc1 (Below.refl _ _) (.cells #[.int .i64 k, .string t] 88))
  have hT2 : Tab (w1.alloc (.cells #[.int .i64 k, .string t] 88)) 0 (strsCells kwNm) := by
    have hx := HK.out
    refine Tab.keep (w := w1) ⟨Nat.lt_of_lt_of_le hx.1 ho.size, fun i v hv => (ocell ho _ i hx.1 (by omega)).trans (hx.2 i v hv)⟩ (below_alloc1 (Below.refl _ _) _)
  have hO := ho.alloc (.cells #[.int .i64 k, .string t] 88)
  have hB := Blk.made w1 #[.int .i64 k, .string t] 88
  have HP := Lib.hid hp2
  have HT2 := Lib.hid hT2
  have HO := Lib.hid hO
  obtain ⟨w2, hw2⟩ : ∃ v, v = w1.alloc (.cells #[.int .i64 k, .string t] 88) := ⟨_, rfl⟩
  rw [← hw2] at HP HT2 HO hB
  have HB := Lib.hid hB
  have hpw := hp.lt
  clear hp hp2 hT2 hO ho hB
  go_upto_region 2 with fail
  rw [← hw2]
  clear hw2
  have b0 := HB.out.cell 0
  have b1 := HB.out.cell 1
  have bl := HB.out.lt
  simp only [List.getElem?_toArray, List.getElem?_cons_zero, List.getElem?_cons_succ] at b0 b1
  clear HT HB HK
  have wr : ∀ q, q = false → ∃ ta tn tc, Hid (PS w2 p ta tn tc (bad || L.isEmpty) L.tail) := fun q _ => by obtain ⟨ta, tn, tc, h⟩ := HP.out; exact ⟨ta, tn, tc, Lib.hid h⟩
  by_cases hk : k = 1
  · subst hk
    have hk1 : ((1 : Int) != 1) = false := rfl
    go_wp2_with fail
    refine Calls.mono (impl_IsKeyword HT2.out) ?_
    rintro e _ ⟨rfl, rfl⟩
    cases hq : decide (0 ≤ kwI t)
    · have hq2 : ¬ 0 ≤ kwI t := of_decide_eq_false hq
      have HQ := Lib.hid (show nmB ⟨1, t⟩ = true by rw [HE.out, decide_eq_true (show kwI t < 0 by omega)]; rfl)
      clear hq hq2
      go_wp2
      go_ret
      exact ⟨rfl, by rw [HQ.out]; simpa using HP.out, HO.out⟩
    · have hq2 : 0 ≤ kwI t := of_decide_eq_true hq
      have HQ := Lib.hid (show nmB ⟨1, t⟩ = false by rw [HE.out, decide_eq_false (show ¬ kwI t < 0 by omega), Bool.and_false])
      obtain ⟨ta, tn, tc, P⟩ := wr false rfl
      have x1 := P.out.x.cell 1
      have xl := P.out.x.lt
      have xf := P.out.x.free
      simp only [List.getElem?_toArray, List.getElem?_cons_zero, List.getElem?_cons_succ] at x1
      have hne : p ≠ w1.heap.size := by omega
      clear hq hq2 wr
      go_wp2
      go_ret
      exact ⟨rfl, ⟨ta, tn, tc, by rw [HQ.out]; simpa using P.out.wrong⟩, HO.out.set ⟨Nat.le_refl _, Nat.lt_succ_self _⟩ 1 _⟩
  · have hk1 : (k != 1) = true := by simpa using hk
    have HQ := Lib.hid (show nmB ⟨k, t⟩ = false by rw [HE.out, decide_eq_false hk]; rfl)
    obtain ⟨ta, tn, tc, P⟩ := wr false rfl
    have x1 := P.out.x.cell 1
    have xl := P.out.x.lt
    have xf := P.out.x.free
    simp only [List.getElem?_toArray, List.getElem?_cons_zero, List.getElem?_cons_succ] at x1
    have hne : p ≠ w1.heap.size := by omega
    clear wr
    go_wp2
    go_ret
    exact ⟨rfl, ⟨ta, tn, tc, by rw [HQ.out]; simpa using P.out.wrong⟩, HO.out.set ⟨Nat.le_refl _, Nat.lt_succ_self _⟩ 1 _⟩
theorem var_only {P : Program} {n : String} {g p : Nat} {cs : Array Value} {w w' : World} (hg : P.globalNamed n = some g) (h : w.var? P n = some cs) (ho : Only p (p + 1) w w') (hp : g < p) : w'.var? P n = some cs := by
  unfold World.var? at h ⊢
  rw [hg] at h ⊢
  simp only [Option.bind_some] at h ⊢
  have hlt : g < w.heap.size := by
    apply Nat.lt_of_not_le
    intro hle
    rw [Array.getElem?_eq_none hle] at h
    simp at h
  rw [ho.block g hlt (.inl hp)]; exact h
/-- what the program's parser reads beside its tokens -/
structure EV (w : World) (p : Nat) : Prop where
  lv : LV w
  kw : Tab w 0 (strsCells kwNm)
  n1 : 0 < p
  n2 : 4 < p
  n3 : 5 < p
  n4 : 6 < p
theorem EV.only {w w' : World} {p : Nat} (h : EV w p) (ho : Only p (p + 1) w w') : EV w' p := by
  obtain ⟨t1, p1, h1⟩ := h.lv.s
  obtain ⟨t2, p2, h2⟩ := h.lv.r
  refine ⟨⟨var_only (g := 4) (by kernel_rfl) h.lv.t ho h.n2, ⟨t1, p1, var_only (g := 5) (by kernel_rfl) h1 ho h.n3⟩, ⟨t2, p2, var_only (g := 6) (by kernel_rfl) h2 ho h.n4⟩⟩, ⟨Nat.lt_of_lt_of_le h.kw.1 ho.size, fun i v hv => (ocell ho _ i h.kw.1 (.inl h.n1)).trans (h.kw.2 i v hv)⟩, h.n1, h.n2, h.n3, h.n4⟩
theorem EV.keep {w w' : World} {p : Nat} (h : EV w p) (hb : Below w.heap.size w w') : EV w' p := ⟨h.lv.keep hb, h.kw.keep hb, h.n1, h.n2, h.n3, h.n4⟩
theorem Only.thenB {lo hi B : Nat} {w w' w'' : World} (h : Only lo hi w w') (hb : Below B w' w'') (hB : w.heap.size ≤ B) : Only lo hi w w'' :=
  ⟨hb.os.trans h.os, hb.tape.trans h.tape, hb.output.trans h.output, Nat.le_trans h.size hb.size, fun k hk hr => (hb.block k (by omega)).trans (h.block k hk hr)⟩
theorem PSt.keepB {w w' : World} {p B : Nat} {bad : Bool} {L : List TR} (h : PSt w p bad L) (hb : Below B w w') (hB : p < B) : PSt w' p bad L := by
  obtain ⟨ta, tn, tc, h⟩ := h
  exact ⟨ta, tn, tc, h.x.keepB hb hB, h.t.only (lo := B) (hi := w.heap.size) (Below.onlyE hb) (fun g o e => by have := h.ne g o e; omega), h.ne, h.n8, h.sz, h.tk⟩
theorem impl_arguments {k : Int} {w : World} : Calls Tryz.prog 87 #[.int .i64 k] w fun e w' => e = .returned (.int .i64 (tkA k : Int)) ∧ w = w' := by
  have H := Lib.hid (show tkA k = if k = 1 ∨ k = 2 ∨ k = 3 then 0 else if k = 4 ∨ k = 7 ∨ k = 8 ∨ k = 9 then 1 else 2 from rfl)
  have fin : ∀ n : Nat, tkA k = n → Ending.returned (.int .i64 (n : Int)) = .returned (.int .i64 (tkA k : Int)) := fun n h => by rw [h]
  have HF := Lib.hid fin
  clear fin
  by_cases h1 : k = 1
  · subst h1
    go_enter Tryz.func87, Tryz.ntmps87
    go_wp2
    go_ret
    exact ⟨HF.out 0 (by decide), rfl⟩
  by_cases h2 : k = 2
  · subst h2
    go_enter Tryz.func87, Tryz.ntmps87
    go_wp2
    go_ret
    exact ⟨HF.out 0 (by decide), rfl⟩
  by_cases h3 : k = 3
  · subst h3
    go_enter Tryz.func87, Tryz.ntmps87
    go_wp2
    go_ret
    exact ⟨HF.out 0 (by decide), rfl⟩
  by_cases h4 : k = 4
  · subst h4
    go_enter Tryz.func87, Tryz.ntmps87
    go_wp2
    go_ret
    exact ⟨HF.out 1 (by decide), rfl⟩
  by_cases h7 : k = 7
  · subst h7
    go_enter Tryz.func87, Tryz.ntmps87
    go_wp2
    go_ret
    exact ⟨HF.out 1 (by decide), rfl⟩
  by_cases h8 : k = 8
  · subst h8
    go_enter Tryz.func87, Tryz.ntmps87
    go_wp2
    go_ret
    exact ⟨HF.out 1 (by decide), rfl⟩
  by_cases h9 : k = 9
  · subst h9
    go_enter Tryz.func87, Tryz.ntmps87
    go_wp2
    go_ret
    exact ⟨HF.out 1 (by decide), rfl⟩
  · have e1 : (k == 1) = false := by simpa using h1
    have e2 : (k == 2) = false := by simpa using h2
    have e3 : (k == 3) = false := by simpa using h3
    have e4 : (k == 4) = false := by simpa using h4
    have e7 : (k == 7) = false := by simpa using h7
    have e8 : (k == 8) = false := by simpa using h8
    have e9 : (k == 9) = false := by simpa using h9
    have HG := Lib.hid (show tkA k = 2 by rw [H.out, if_neg (by omega), if_neg (by omega)])
    go_enter Tryz.func87, Tryz.ntmps87
    go_wp2
    go_ret
    exact ⟨HF.out 2 HG.out, rfl⟩
theorem impl_isNumbered {k : Int} {w : World} : Calls Tryz.prog 160 #[.int .i64 k] w fun e w' => e = .returned (.bool (numK k)) ∧ w = w' := by
  have H := Lib.hid (show numK k = decide (k = 7 ∨ k = 8 ∨ k = 11 ∨ k = 12) from rfl)
  by_cases h1 : k = 7
  · subst h1
    go_enter Tryz.func160, Tryz.ntmps160
    go_wp2
    go_ret
    exact ⟨rfl, rfl⟩
  by_cases h2 : k = 8
  · subst h2
    go_enter Tryz.func160, Tryz.ntmps160
    go_wp2
    go_ret
    exact ⟨rfl, rfl⟩
  by_cases h3 : k = 11
  · subst h3
    go_enter Tryz.func160, Tryz.ntmps160
    go_wp2
    go_ret
    exact ⟨rfl, rfl⟩
  · have e1 : (k == 7) = false := by simpa using h1
    have e2 : (k == 8) = false := by simpa using h2
    have e3 : (k == 11) = false := by simpa using h3
    have HG := Lib.hid (show numK k = (k == 12) by
      rw [H.out]
      by_cases h4 : k = 12
      · rw [h4]; rfl
      · have : (k == 12) = false := by simpa using h4
        rw [this, decide_eq_false (by omega)])
    go_enter Tryz.func160, Tryz.ntmps160
    go_wp2
    go_ret
    exact ⟨by rw [HG.out]; rfl, rfl⟩
theorem kw_block (t : ByteArray) : ((kwBs.drop 11).any fun y => t.toList == y.toList) = decide (11 ≤ kwI t) ∧ (11 ≤ kwI t → idxF (fun y => t.toList == y.toList) (kwBs.drop 11) = kwI t - 11) := by
  have hb : ∀ a b : ByteArray, (a.toList == b.toList) = decide (a = b) := fun a b => by
    rw [str_eq]
    congr 1
    refine propext ⟨fun h => ?_, fun h => by rw [h]⟩
    cases a; cases b; simp at h; simp [h]
  have e : (fun y => t.toList == y.toList) = fun y => decide (t = y) := funext fun y => hb t y
  unfold kwI
  rw [e]
  by_cases h : t ∈ kwBs
  · have : ∀ u ∈ kwBs, ((kwBs.drop 11).any fun y => decide (u = y)) = decide (11 ≤ idxF (fun y => decide (u = y)) kwBs) ∧ (11 ≤ idxF (fun y => decide (u = y)) kwBs → idxF (fun y => decide (u = y)) (kwBs.drop 11) = idxF (fun y => decide (u = y)) kwBs - 11) := by decide +kernel
    exact this t h
  · have h1 : (kwBs.any fun y => decide (t = y)) = false := by
      rw [List.any_eq_false]
      intro y hy
      simp only [decide_eq_true_eq]
      intro e; exact h (e ▸ hy)
    have h2 : ((kwBs.drop 11).any fun y => decide (t = y)) = false := by
      rw [List.any_eq_false] at h1 ⊢
      exact fun y hy => h1 y (List.mem_of_mem_drop hy)
    rw [h2, idxF_miss h1]
    exact ⟨by decide, fun h => by omega⟩
theorem impl_isBlockWord {s : ByteArray} {w : World} (hT : Tab w 0 (strsCells kwNm)) : Calls Tryz.prog 137 #[.string s] w fun e w' => e = .returned (.bool (decide (11 ≤ kwI s))) ∧ w = w' := by
  have hf := fs_cells hT.1 hT.2 (n := 17) rfl (by decide)
  have hc := slices_Contains_str (v := s) (hf.sub (k := 11) (by decide)) (by decide)
  rw [show (kwNm.map fun z => (⟨z.toArray⟩ : ByteArray)) = kwBs from rfl, (kw_block s).1] at hc
  have HC := Lib.hid hc
  clear hT hc hf
  generalize decide (11 ≤ kwI s) = q at *
  go_enter Tryz.func137, Tryz.ntmps137
  go_wp2_with fail
  refine Calls.mono HC.out ?_
  rintro e _ ⟨rfl, rfl⟩
  go_wp2
  go_ret
  exact ⟨rfl, rfl⟩
set_option maxHeartbeats 1000000 in
theorem impl_number {p : Nat} {bad : Bool} {L : List TR} {w : World} (h : PSt w p bad L) (hE : EV w p) (hK : ∀ x ∈ L, TkB x) : Calls Tryz.prog 186 #[.pointer (some ⟨p, 0, none⟩)] w fun e w' => (∃ n : Int, e = .returned (.int .i64 n) ∧ ((tkOf L).k = 2 → n = (valA 0 (tkOf L).t.data.toList : Int))) ∧ PSt w' p ((bad || L.isEmpty) || !decide ((tkOf L).k = 2)) L.tail ∧ Only p (p + 1) w w' := by
  have HT := Lib.hid (impl_take h)
  have HV := Lib.hid hE
  have HZ := Lib.hid (show (tkOf L).t.size ≤ 6000 ∧ ((tkOf L).k = 2 → numB (tkOf L).t.data.toList = true) by
    cases L with
    | nil => exact ⟨by decide, fun h => by simp [tkOf] at h⟩
    | cons x r =>
      refine ⟨h.sz x (List.mem_cons_self ..), fun hk => ?_⟩
      rcases hK x (List.mem_cons_self ..) with h1 | h1 | h1
      · have : x.k = 2 := hk
        omega
      · exact h1.2
      · have : x.k = 2 := hk
        omega)
  clear h hE hK
  generalize tkOf L = x at *
  obtain ⟨k, t⟩ := x
  dsimp only at HT HZ ⊢
  go_enter Tryz.func186, Tryz.ntmps186
  go_wp2_with fail
  refine Calls.mono HT.out ?_
  rintro e w1 ⟨rfl, hp, ho⟩
  have hbb : Below w1.heap.size w1 (w1.alloc (.cells #[.int .i64 k, .string t] 88)) := below_alloc1 (Below.refl _ _) _
  have HP := Lib.hid (hp.keep hbb)
  have HV2 := Lib.hid ((HV.out.only ho).keep hbb)
  have HO := Lib.hid (ho.alloc (.cells #[.int .i64 k, .string t] 88))
  have HB := Lib.hid (Blk.made w1 #[.int .i64 k, .string t] 88)
  have hpw := hp.lt
  clear hp ho hbb
  go_upto_region 2 with fail
  obtain ⟨w2, hw2⟩ : ∃ v, v = w1.alloc (.cells #[.int .i64 k, .string t] 88) := ⟨_, rfl⟩
  rw [← hw2] at HP HV2 HO HB ⊢
  clear hw2 HT HV
  have b0 := HB.out.cell 0
  have b1 := HB.out.cell 1
  have bl := HB.out.lt
  simp only [List.getElem?_toArray, List.getElem?_cons_zero, List.getElem?_cons_succ] at b0 b1
  have KR := fun (wx : World) (hv : LV wx) => impl_readNumber (s := t) (w := wx) hv (by have := HZ.out.1; omega)
  by_cases hk : k = 2
  · subst hk
    have hnum := parse_num (HZ.out.2 rfl)
    have hok : okN t.data.toList = true := by
      have hn := HZ.out.2 rfl
      rw [num_iff hnum] at hn
      simp only [Bool.and_eq_true] at hn
      simp only [okN, hnum]
      exact hn.1
    have HN := Lib.hid hnum
    have HOK := Lib.hid hok
    have HKR := Lib.hid KR
    clear hnum hok KR
    go_wp2_with fail
    refine Calls.mono (HKR.out _ HV2.out.lv) ?_
    rintro e w3 ⟨n, rfl, hn, hb3⟩
    have h3 := hn HOK.out
    rw [HN.out] at h3
    have HN3 := Lib.hid (show n = (valA 0 t.data.toList : Int) by cases h3; rfl)
    have HP3 := Lib.hid (HP.out.keep hb3)
    have HO3 := Lib.hid (HO.out.then hb3)
    clear hn hb3 h3
    go_wp2
    go_ret
    refine ⟨?_, by simpa using HP3.out, HO3.out⟩
    rw [HN3.out]; rfl
  · have hk1 : (k != 2) = true := by simpa using hk
    have HQ := Lib.hid (show decide (k = 2) = false from decide_eq_false hk)
    obtain ⟨ta, tn, tc, P⟩ := HP.out
    have x1 := P.x.cell 1
    have xl := P.x.lt
    have xf := P.x.free
    simp only [List.getElem?_toArray, List.getElem?_cons_zero, List.getElem?_cons_succ] at x1
    have hne : p ≠ w1.heap.size := by omega
    have HPW := Lib.hid P.wrong
    have HV3 := Lib.hid (HV2.out.only (only_p (p := p) (w := w2) 1 (.bool true)))
    have HO3 := Lib.hid (HO.out.set ⟨Nat.le_refl _, Nat.lt_succ_self _⟩ 1 (.bool true))
    have HKR := Lib.hid KR
    clear P HP HV2 HO KR
    go_wp2_with fail
    refine Calls.mono (HKR.out _ HV3.out.lv) ?_
    rintro e w3 ⟨n, rfl, hn, hb3⟩
    have HP3 := Lib.hid (HPW.out.keepB hb3)
    have HO4 := Lib.hid (HO3.out.then hb3)
    clear hn hb3
    go_wp2
    go_ret
    exact ⟨⟨n, rfl, fun h => absurd h hk⟩, ⟨ta, tn, tc, by rw [HQ.out]; simpa using HP3.out⟩, HO4.out⟩
end Go.Proofs.YtjneodmohkpckaaGreatDoor
namespace Go.Proofs.YtjneodmohkpckaaGreatDoor
open Go.RowKit
set_option linter.unusedVariables false
set_option linter.unusedSimpArgs false
attribute [local go_sem ↓] Go.wp_at_zero Go.wp_at_succ
abbrev OwnTm := OwnF 3 TM.enc (fun _ => True) 55
theorem Tryz.infoTerm : (Tryz.prog.info? 55).map (fun i => (i.zero, i.size, i.bytes)) = some (some (.agg #[.int .i64 0, .string ⟨#[]⟩, .int .i64 0]), 3, 32) := by kernel_rfl
theorem TM.one (y : TM) : ∀ u ∈ y.enc, u.oneCell' = true := fun u hu => by
  simp only [TM.enc, List.mem_cons, List.not_mem_nil, or_false] at hu
  rcases hu with rfl | rfl | rfl <;> rfl
theorem OwnTm.nil (w : World) (base : Nat) : OwnTm w base none 0 0 [] := ⟨World.ownsRow_nil w _ _ _, (fun _ h => by cases h), rfl, fun _ => rfl⟩
theorem OwnTm.lit (w : World) (x : TM) (cs : Array Value) (hc : cs = x.enc.toArray) : OwnTm (w.alloc (.cells cs 55)) w.heap.size (some ⟨w.heap.size, 0, none⟩) 1 1 [x] :=
  OwnF.lit w [x] (Nat.le_refl _) rfl (by decide) (fun _ => rfl) (fun _ _ => trivial) (by rw [hc]; simp)
/-- what a function of the parser leaves -/
def PRt (o : Option (List TM × List TR)) (p m : Nat) (w : World) (e : Ending) (w' : World) : Prop := ∃ (a : Option Addr) (n c : Nat) (ts : List TM) (bad : Bool) (L : List TR), e = .returned (.slice a n c) ∧ OwnTm w' w.heap.size a n c ts ∧ PSt w' p bad L ∧ Only p (p + 1) w w' ∧ n + 2 * L.length ≤ 2 * m + 1 ∧ o = (if bad = true then none else some (ts, L))
/-- the four functions at a number of steps -/
structure PAll (f : Nat) : Prop where
  fc : ∀ (w : World) (p : Nat) (L : List TR), PSt w p false L → EV w p → (∀ x ∈ L, TkB x) → 8 * L.length + 1 ≤ f → Calls Tryz.prog 162 #[.pointer (some ⟨p, 0, none⟩)] w (PRt (prs f .fc L) p L.length w)
  pt : ∀ (w : World) (p : Nat) (L : List TR), PSt w p false L → EV w p → (∀ x ∈ L, TkB x) → 8 * L.length + 3 ≤ f → Calls Tryz.prog 133 #[.pointer (some ⟨p, 0, none⟩)] w (PRt (prs f .pt L) p L.length w)
  ex : ∀ (w : World) (p : Nat) (L : List TR), PSt w p false L → EV w p → (∀ x ∈ L, TkB x) → 8 * L.length + 5 ≤ f → Calls Tryz.prog 82 #[.pointer (some ⟨p, 0, none⟩)] w (PRt (prs f .ex L) p L.length w)
  bl : ∀ (w : World) (p : Nat) (L : List TR) (k : Int), PSt w p false L → EV w p → (∀ x ∈ L, TkB x) → 8 * L.length + 6 ≤ f → 7 ≤ k → k ≤ 12 → Calls Tryz.prog 178 #[.pointer (some ⟨p, 0, none⟩), .int .i64 k] w (PRt (prs f (.bl k) L) p L.length w)
theorem PSt.bd {w : World} {p : Nat} {bad : Bool} {L : List TR} (h : PSt w p bad L) : ∃ ta tn tc, w.cell? ⟨p, 0, none⟩ = some (.slice ta tn tc) ∧ w.cell? ⟨p, 1, none⟩ = some (.bool bad) ∧ p < w.heap.size ∧ tn = L.length := by
  obtain ⟨ta, tn, tc, h⟩ := h
  exact ⟨ta, tn, tc, h.x.cell 0, h.x.cell 1, h.x.lt, h.t.len.symm⟩
theorem impl_factor_bad {p : Nat} {L : List TR} {w : World} (h : PSt w p true L) : Calls Tryz.prog 162 #[.pointer (some ⟨p, 0, none⟩)] w fun e w' => e = .returned (.slice none 0 0) ∧ w = w' := by
  obtain ⟨ta, tn, tc, x0, x1, xl, hl⟩ := h.bd
  clear h hl
  go_enter Tryz.func162, Tryz.ntmps162
  go_wp2
  go_ret
  exact ⟨rfl, rfl⟩
theorem impl_part_bad {p : Nat} {L : List TR} {w : World} (h : PSt w p true L) : Calls Tryz.prog 133 #[.pointer (some ⟨p, 0, none⟩)] w fun e w' => e = .returned (.slice none 0 0) ∧ w = w' := by
  obtain ⟨ta, tn, tc, x0, x1, xl, hl⟩ := h.bd
  have H := Lib.hid (impl_factor_bad h)
  clear h hl
  go_enter Tryz.func133, Tryz.ntmps133
  go_wp2_with fail
  refine Calls.mono (H.out) ?_
  rintro e _ ⟨rfl, rfl⟩
  go_wp2_with fail
  go_loop [3] (fun s3 => s3 = .slice none 0 0) (fun s3 => 0)
  case atStart => rfl
  case round =>
    obtain rfl := hrel
    go_wp2
    go_ret
    exact ⟨rfl, rfl⟩
theorem impl_expression_bad {p : Nat} {L : List TR} {w : World} (h : PSt w p true L) : Calls Tryz.prog 82 #[.pointer (some ⟨p, 0, none⟩)] w fun e w' => e = .returned (.slice none 0 0) ∧ w = w' := by
  obtain ⟨ta, tn, tc, x0, x1, xl, hl⟩ := h.bd
  have H := Lib.hid (impl_part_bad h)
  clear h hl
  go_enter Tryz.func82, Tryz.ntmps82
  go_wp2_with fail
  refine Calls.mono (H.out) ?_
  rintro e _ ⟨rfl, rfl⟩
  go_wp2_with fail
  go_loop [3] (fun s3 => s3 = .slice none 0 0) (fun s3 => 0)
  case atStart => rfl
  case round =>
    obtain rfl := hrel
    go_wp2
    go_ret
    exact ⟨rfl, rfl⟩
end Go.Proofs.YtjneodmohkpckaaGreatDoor
