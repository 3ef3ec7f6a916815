/- Faults of sensors, walked. -/
import Derived.Test.YtoaccicfmfiemaaFl
import Derived.Test.YtoaccicfmfiemaaL01
import Derived.Test.YtoaccicfmfiemaaL10
import Derived.Test.YtoaccicfmfiemaaL24c
namespace Go.Proofs.Ytoaccicfmfiemaa
open Go.RowKit
set_option linter.unusedVariables false
set_option linter.unusedSimpArgs false
def sameS (f o : I3) : Bool := o.a == f.a && o.b == f.b
def tolHit0 (f o : I3) : Bool := o.a == f.a && (o.c == 0 && f.c == 0)
def tolAt0 (l : List I3) (i : Nat) : Bool :=
  match l[i]? with
  | some x => !((l.take i).any (tolHit0 x))
  | none => true
def tolB0 (l : List I3) : Bool := upB (tolAt0 l) l.length
theorem tolAt0_eq {l : List I3} {i : Nat} {x : I3} (hx : l[i]? = some x) : tolAt0 l i = !((l.take i).any (tolHit0 x)) := by simp only [tolAt0, hx]
def stuck0 (l : List I3) : List Int := (l.filter fun f => f.c == 0).map I3.a
theorem tol_stuck0 (l : List I3) (x : I3) : (l.any (tolHit0 x)) = (x.c == 0 && (stuck0 l).any fun y => x.a == y) := by
  induction l with
  | nil => simp [stuck0]
  | cons y r ih =>
    have hs : stuck0 (y :: r) = if y.c == 0 then y.a :: stuck0 r else stuck0 r := by
      simp only [stuck0, List.filter_cons]
      split <;> simp
    rw [List.any_cons, ih, hs]
    have he : (y.a == x.a) = (x.a == y.a) := Bool.eq_iff_iff.2 (by rw [beq_iff_eq, beq_iff_eq]; exact eq_comm)
    unfold tolHit0
    rw [he]
    cases hy : (y.c == 0)
    · simp only [Bool.false_and, Bool.and_false, Bool.false_or, if_false, Bool.false_eq_true]
    · simp only [Bool.true_and, if_true, List.any_cons]
      cases (x.c == 0) <;> simp only [Bool.and_true, Bool.and_false, Bool.true_and, Bool.false_and, Bool.or_false]
set_option maxHeartbeats 2000000 in
theorem impl_areTolerated {a : Option Addr} {n c : Nat} {l : List I3} {w : World} (hI : F3 w a n c l) (hn : n ≤ 1048576) :
    Calls Try.prog 119 #[.slice a n c] w fun e w' => e = .returned (.bool (tolB0 l)) ∧ Below w.heap.size w w' := by
  have HI := Lib.hid hI
  clear hI
  go_enter Try.func119, Try.ntmps119
  go_wp2
  go_loopw [3, 5, 8] (fun s3 _ s8 wr => ∃ (k : Nat) (a1 : Option Addr) (n1 c1 : Nat), k ≤ n ∧ n1 ≤ k ∧ s3 = .slice a1 n1 c1 ∧ s8 = .int .i64 k ∧ Below w.heap.size w wr ∧ Hid (upB (tolAt0 l) k = true) ∧ Hid (OwnI 2 wr w.heap.size a1 n1 c1 (stuck0 (l.take k)))) (fun _ _ i _ => n - (intOf i).toNat)
  case atStart => exact ⟨0, none, 0, 0, Nat.zero_le _, Nat.le_refl _, rfl, rfl, Below.refl _ _, upB_zero _, OwnI.nil _ _ _⟩
  case round =>
    obtain ⟨k, a1, n1, c1, hk, hn1, rfl, rfl, hbl, A, HO⟩ := hrel
    have hsz := hbl.size
    by_cases hlt : k < n
    · obtain ⟨b, off, x, rfl, hb, hx, hwf, hc0, hc1, hc2⟩ := F3.get (HI.out.keep hbl) hlt
      have Hx := Lib.hid hx
      clear hx
      have Htk := Lib.hid (take_at Hx.out)
      cases hc : (x.c == 0)
      · have Hs := Lib.hid (show tolAt0 l k = true by rw [tolAt0_eq Hx.out, tol_stuck0, hc]; rfl)
        have Hst := Lib.hid (show stuck0 (l.take (k + 1)) = stuck0 (l.take k) by rw [Htk.out, stuck0, List.filter_append]; simp [hc, stuck0])
        go_wp2
        go_roundw
        case rel => exact ⟨k + 1, a1, n1, c1, by omega, by omega, rfl, by go_num, by repeat (first | exact Below.refl _ _ | assumption | refine below_allocS ?_ _ | refine below_callS ?_ (by assumption) | (refine Below.alloc ?_ (by first | omega | (simp; done) | (simp; omega)) _) | (refine Below.setCell ?_ (by first | omega | (simp; done) | (simp; omega)) _) | refine Below.drew ?_ | refine below_drewN ?_ _ | (refine below_call ?_ (by assumption) (by first | omega | (simp; done) | (simp; omega))) | (refine Below.trans ?_ (by assumption))), upB_step A.out Hs.out, by rw [Hst.out]; exact HO.out.keep (by repeat (first | exact Below.refl _ _ | assumption | refine below_allocS ?_ _ | refine below_callS ?_ (by assumption) | (refine Below.alloc ?_ (by first | omega | (simp; done) | (simp; omega)) _) | (refine Below.setCell ?_ (by first | omega | (simp; done) | (simp; omega)) _) | refine Below.drew ?_ | refine below_drewN ?_ _ | (refine below_call ?_ (by assumption) (by first | omega | (simp; done) | (simp; omega))) | (refine Below.trans ?_ (by assumption))))⟩
        case measure => simp [intOf]; omega
      · have Hst := Lib.hid (show stuck0 (l.take (k + 1)) = stuck0 (l.take k) ++ [x.a] by rw [Htk.out, stuck0, List.filter_append]; simp [hc, stuck0])
        have Heq := Lib.hid (show tolAt0 l k = !((stuck0 (l.take k)).any fun y => x.a == y) by rw [tolAt0_eq Hx.out, tol_stuck0, hc]; rfl)
        have hcon := fun (wx : World) (hw : Below wr.heap.size wr wx) => slices_Contains_i64 (v := x.a) (w := wx) (HO.out.ints.keep hw) (by omega)
        cases hany : ((stuck0 (l.take k)).any fun y => x.a == y)
        all_goals
          rw [hany] at hcon
          have Hany := Lib.hid hany
          have Hcon := Lib.hid hcon
          clear hany hcon
          go_wp2_with fail
          refine Calls.mono (Hcon.out _ (by repeat (first | exact Below.refl _ _ | assumption | refine below_allocS ?_ _ | refine below_callS ?_ (by assumption) | (refine Below.alloc ?_ (by first | omega | (simp; done) | (simp; omega)) _) | (refine Below.setCell ?_ (by first | omega | (simp; done) | (simp; omega)) _) | refine Below.drew ?_ | refine below_drewN ?_ _ | (refine below_call ?_ (by assumption) (by first | omega | (simp; done) | (simp; omega))) | (refine Below.trans ?_ (by assumption))))) ?_
          rintro e _ ⟨rfl, rfl⟩
        · go_wp2_with (at_builtin; refine append1_i64 rfl _ _ 32 2 rfl Try.underlying32 Try.infoi64 w.heap.size _ _ _ _ (((HO.out.keep ((Below.refl _ _).alloc (Nat.le_refl _) (.cells #[.int .i64 x.a, .int .i64 x.b, .int .i64 x.c] 138)))).keep ((Below.refl _ _).alloc (Nat.le_refl _) (.cells #[.int .i64 x.a] 2))) rfl (wr.heap.size + 1) x.a rfl (by simp) hwf.1 (by omega) (by simp; omega) ?_; intro a2 c2 w2 hown2 hb2 hg2)
          have Hown2 := Lib.hid hown2
          clear hown2
          go_roundw
          case rel => exact ⟨k + 1, a2, n1 + 1, c2, by omega, by omega, rfl, by go_num, Below.trans (by repeat (first | exact Below.refl _ _ | assumption | refine below_allocS ?_ _ | refine below_callS ?_ (by assumption) | (refine Below.alloc ?_ (by first | omega | (simp; done) | (simp; omega)) _) | (refine Below.setCell ?_ (by first | omega | (simp; done) | (simp; omega)) _) | refine Below.drew ?_ | refine below_drewN ?_ _ | (refine below_call ?_ (by assumption) (by first | omega | (simp; done) | (simp; omega))) | (refine Below.trans ?_ (by assumption)))) hb2, upB_step A.out (by rw [Heq.out, Hany.out]; rfl), by rw [Hst.out]; exact Hown2.out⟩
          case measure => simp [intOf]; omega
        · go_wp2
          go_ret
          exact ⟨ret_bool (by rw [tolB0, upB_false (k := k) (by rw [HI.out.len]; exact hlt) (by rw [Heq.out, Hany.out]; rfl)]), by repeat (first | exact Below.refl _ _ | assumption | refine below_allocS ?_ _ | refine below_callS ?_ (by assumption) | (refine Below.alloc ?_ (by first | omega | (simp; done) | (simp; omega)) _) | (refine Below.setCell ?_ (by first | omega | (simp; done) | (simp; omega)) _) | refine Below.drew ?_ | refine below_drewN ?_ _ | (refine below_call ?_ (by assumption) (by first | omega | (simp; done) | (simp; omega))) | (refine Below.trans ?_ (by assumption)))⟩
    · go_wp2
      go_ret
      have e : k = n := by omega
      have h1 := A.out
      rw [e, ← HI.out.len] at h1
      exact ⟨ret_bool (by rw [tolB0, h1]), hbl⟩
theorem pair_any {R : I3 → I3 → Bool} {l : List I3} (h : l.Pairwise fun o f => R f o = false) {i : Nat} {x : I3} (hx : l[i]? = some x) : (l.take i).any (R x) = false := by
  rw [List.any_eq_false]
  intro o ho
  obtain ⟨j, hj⟩ := List.getElem?_of_mem ho
  rw [List.getElem?_take] at hj
  split at hj
  · rename_i hji
    obtain ⟨hi, e1⟩ := List.getElem?_eq_some_iff.1 hx
    obtain ⟨hjl, e2⟩ := List.getElem?_eq_some_iff.1 hj
    have := List.pairwise_iff_getElem.1 h j i hjl hi hji
    rw [e1, e2] at this
    simp [this]
  · cases hj
theorem tolB0_iff (l : List I3) : tolB0 l = true ↔ l.Pairwise fun o f => tolHit0 f o = false := by
  rw [tolB0, upB, List.all_eq_true, List.pairwise_iff_getElem]
  constructor
  · intro h i j hi hj hij
    have h1 := h j (by simpa using hj)
    rw [tolAt0_eq (List.getElem?_eq_getElem hj)] at h1
    simp only [Bool.not_eq_true', List.any_eq_false] at h1
    have h2 := h1 l[i] (List.mem_of_getElem? (i := i) (by rw [List.getElem?_take, if_pos hij]; exact List.getElem?_eq_getElem hi))
    simpa using h2
  · intro h j hj
    have hj' : j < l.length := by simpa using hj
    rw [tolAt0_eq (List.getElem?_eq_getElem hj')]
    simp only [Bool.not_eq_true', List.any_eq_false]
    intro o ho
    obtain ⟨i, hi⟩ := List.getElem?_of_mem ho
    rw [List.getElem?_take] at hi
    split at hi
    · rename_i hij
      obtain ⟨hil, e⟩ := List.getElem?_eq_some_iff.1 hi
      have := h i j hil hj' hij
      rw [e] at this
      simp [this]
    · cases hi
theorem flAt_mem {i : Nat} {x : Int} {y : I3} (h : y ∈ flAt i x) : y.a = i ∧ (y.b = 0 ∨ y.b = 1) ∧ (y.c = 0 ∨ y.c = 1) := by
  unfold flAt at h
  repeat' split at h
  all_goals simp at h
  all_goals first | (subst h; simp) | (rcases h with rfl | rfl <;> simp)
theorem fls_good (l : List Int) : ∀ k, k ≤ l.length → (∀ y ∈ flsOf (l.take k), 0 ≤ y.a ∧ y.a < k ∧ (y.b = 0 ∨ y.b = 1) ∧ (y.c = 0 ∨ y.c = 1)) ∧ (flsOf (l.take k)).Pairwise (fun o f => sameS f o = false) ∧ ((flsOf (l.take k)).Pairwise (fun o f => tolHit0 f o = false) ↔ (l.take k).any (fun x => x == 3) = false)
  | 0, _ => by simp [flsOf]
  | k + 1, hk => by
    have hx : l[k]? = some l[k] := List.getElem?_eq_getElem (by omega)
    obtain ⟨h1, h2, h3⟩ := fls_good l k (by omega)
    rw [flsOf_step hx, take_at hx]
    generalize l[k] = x at *
    refine ⟨fun y hy => ?_, ?_, ?_⟩
    · rcases List.mem_append.1 hy with h | h
      · have := h1 y h; exact ⟨this.1, by omega, this.2.2⟩
      · have := flAt_mem h; exact ⟨by omega, by omega, this.2⟩
    · rw [List.pairwise_append]
      refine ⟨h2, ?_, fun o ho f hf => ?_⟩
      · unfold flAt
        repeat' split
        all_goals simp [sameS]
      · have ha := h1 o ho
        have hb := flAt_mem hf
        have : (o.a == f.a) = false := by rw [beq_eq_false_iff_ne]; omega
        rw [sameS, this]; rfl
    · rw [List.pairwise_append, List.any_append, Bool.or_eq_false_iff, ← h3]
      have hx3 : (flAt k x).Pairwise (fun o f => tolHit0 f o = false) ↔ ([x].any fun x => x == 3) = false := by
        unfold flAt
        by_cases e1 : x = 1
        · subst e1; simp
        · by_cases e2 : x = 2
          · subst e2; simp
          · by_cases e3 : x = 3
            · subst e3; simp [tolHit0]
            · simp [e1, e2, e3]
      rw [hx3]
      constructor
      · rintro ⟨a, b, _⟩; exact ⟨a, b⟩
      · rintro ⟨a, b⟩
        refine ⟨a, b, fun o ho f hf => ?_⟩
        have ha := h1 o ho
        have hb := flAt_mem hf
        have : (o.a == f.a) = false := by rw [beq_eq_false_iff_ne]; omega
        rw [tolHit0, this]; rfl
theorem tol_fls (l : List Int) : tolB0 (flsOf l) = !(l.any fun x => x == 3) := by
  obtain ⟨_, _, h⟩ := fls_good l l.length (Nat.le_refl _)
  rw [List.take_length, ← tolB0_iff] at h
  cases hb : (l.any fun x => x == 3)
  · rw [h.2 hb]; rfl
  · cases ht : tolB0 (flsOf l)
    · rfl
    · rw [h.1 ht] at hb; cases hb
theorem impl_isReportValue_ok {x : Int} {w : World} (hx : x = 0 ∨ x = 1) : Calls Try.prog 144 #[.int .i64 x] w fun e w' => e = .returned (.bool true) ∧ w = w' := by
  rcases hx with rfl | rfl
  all_goals
    go_enter Try.func144, Try.ntmps144
    go_wp2
    go_ret
    exact ⟨rfl, rfl⟩
theorem impl_areFaults_1 {f o : I3} {g : Nat} {w : World} (h0 : w.cell? ⟨g, 0, none⟩ = some (.int .i64 f.a)) (h1 : w.cell? ⟨g, 1, none⟩ = some (.int .i64 f.b)) (hg : g < w.heap.size) :
    Calls Try.prog 146 #[.agg #[.int .i64 o.a, .int .i64 o.b, .int .i64 o.c], .pointer (some ⟨g, 0, none⟩)] w fun e w' => e = .returned (.bool (sameS f o)) ∧ Below w.heap.size w w' := by
  cases ha : (o.a == f.a)
  all_goals cases hb : (o.b == f.b)
  all_goals
    have Ha := Lib.hid ha
    have Hb := Lib.hid hb
    go_enter Try.func146, Try.ntmps146
    go_wp2
    go_ret
    exact ⟨ret_bool (by rw [sameS, Ha.out, Hb.out]; rfl), by repeat (first | exact Below.refl _ _ | assumption | refine below_allocS ?_ _ | refine below_callS ?_ (by assumption) | (refine Below.alloc ?_ (by first | omega | (simp; done) | (simp; omega)) _) | (refine Below.setCell ?_ (by first | omega | (simp; done) | (simp; omega)) _) | refine Below.drew ?_ | refine below_drewN ?_ _ | (refine below_call ?_ (by assumption) (by first | omega | (simp; done) | (simp; omega))) | (refine Below.trans ?_ (by assumption)))⟩
set_option maxHeartbeats 2000000 in
theorem impl_areFaults_ok {rows : Int} {a : Option Addr} {n c : Nat} {l : List I3} {w : World} (hI : F3 w a n c l) (hn : n ≤ 8) (hr : 2 ≤ rows ∧ rows ≤ 8) (hg : ∀ y ∈ l, 0 ≤ y.a ∧ y.a < rows ∧ (y.b = 0 ∨ y.b = 1) ∧ (y.c = 0 ∨ y.c = 1)) (hd : l.Pairwise fun o f => sameS f o = false) :
    Calls Try.prog 118 #[.int .i64 rows, .slice a n c] w fun e w' => e = .returned (.bool true) ∧ Below w.heap.size w w' := by
  have HI := Lib.hid hI
  have HG := Lib.hid hg
  have HD := Lib.hid hd
  obtain ⟨hr0, hr1⟩ := hr
  clear hI hg hd
  go_enter Try.func118, Try.ntmps118
  go_wp2_with fail
  go_loopw [5, 6, 9] (fun _ _ s9 wr => ∃ k : Nat, k ≤ n ∧ s9 = .int .i64 k ∧ Below w.heap.size w wr) (fun _ _ i _ => n - (intOf i).toNat)
  case atStart => exact ⟨0, Nat.zero_le _, rfl, Below.refl _ _⟩
  case round =>
    obtain ⟨k, hk, rfl, hbl⟩ := hrel
    have hsz := hbl.size
    by_cases hlt : k < n
    · obtain ⟨b, off, x, rfl, hb, hx, hwf, hc0, hc1, hc2⟩ := F3.get (HI.out.keep hbl) hlt
      have Hx := Lib.hid hx
      clear hx
      obtain ⟨xa, xb, xc⟩ := x
      obtain ⟨g0, g1, g2, g3⟩ := HG.out _ (List.mem_of_getElem? Hx.out)
      simp only at g0 g1 g2 g3 hc0 hc1 hc2
      have h1 : inB xa 0 (rows - 1) = true := by simp [inB]; omega
      have H1 := Lib.hid h1
      clear h1
      have hlk : (k : Int) ≤ (c : Int) := by have := HI.out.cap; omega
      have Hany := Lib.hid (pair_any HD.out Hx.out)
      have G3 := Lib.hid g3
      clear g3
      rcases g2 with rfl | rfl
      all_goals
        go_wp2_with fail
        refine Calls.mono (impl_within) ?_
        rintro e _ ⟨rfl, rfl⟩
        rw [H1.out]
        go_wp2_with fail
        refine Calls.mono (impl_isReportValue_ok G3.out) ?_
        rintro e _ ⟨rfl, rfl⟩
        go_wp2_with fail
      · have hIt : F3 (wr.alloc (.cells #[.int .i64 xa, .int .i64 0, .int .i64 xc] 138)) (some ⟨b, off, none⟩) k c (l.take k) := (HI.out.keep (hbl.alloc hbl.size _)).take hk
        have hcf := slices_ContainsFunc_SensorFault (g := 146) (lb := #[.pointer (some ⟨wr.heap.size, 0, none⟩)]) (p := sameS ⟨xa, 0, xc⟩) (enters_of Try.func146 (by kernel_rfl) rfl)
          (fun W o _ hbW => impl_areFaults_1 (f := ⟨xa, 0, xc⟩) (o := o) (g := wr.heap.size) (w := W) ((hbW.cell (p := ⟨wr.heap.size, 0, none⟩) (by simp)).trans (by simp)) ((hbW.cell (p := ⟨wr.heap.size, 1, none⟩) (by simp)).trans (by simp)) (by have := hbW.size; simp at this; omega)) hIt (by omega)
        rw [Hany.out] at hcf
        refine Calls.mono hcf ?_
        rintro e w1 ⟨rfl, hb1⟩
        have hs1 := hb1.size
        simp at hs1
        clear hcf hIt
        go_wp2
        go_roundw
        case rel => exact ⟨k + 1, by omega, by go_num, by repeat (first | exact Below.refl _ _ | assumption | refine below_allocS ?_ _ | refine below_callS ?_ (by assumption) | (refine Below.alloc ?_ (by first | omega | (simp; done) | (simp; omega)) _) | (refine Below.setCell ?_ (by first | omega | (simp; done) | (simp; omega)) _) | refine Below.drew ?_ | refine below_drewN ?_ _ | (refine below_call ?_ (by assumption) (by first | omega | (simp; done) | (simp; omega))) | (refine Below.trans ?_ (by assumption)))⟩
        case measure => simp [intOf]; omega
      · have hIt : F3 (wr.alloc (.cells #[.int .i64 xa, .int .i64 1, .int .i64 xc] 138)) (some ⟨b, off, none⟩) k c (l.take k) := (HI.out.keep (hbl.alloc hbl.size _)).take hk
        have hcf := slices_ContainsFunc_SensorFault (g := 146) (lb := #[.pointer (some ⟨wr.heap.size, 0, none⟩)]) (p := sameS ⟨xa, 1, xc⟩) (enters_of Try.func146 (by kernel_rfl) rfl)
          (fun W o _ hbW => impl_areFaults_1 (f := ⟨xa, 1, xc⟩) (o := o) (g := wr.heap.size) (w := W) ((hbW.cell (p := ⟨wr.heap.size, 0, none⟩) (by simp)).trans (by simp)) ((hbW.cell (p := ⟨wr.heap.size, 1, none⟩) (by simp)).trans (by simp)) (by have := hbW.size; simp at this; omega)) hIt (by omega)
        rw [Hany.out] at hcf
        refine Calls.mono hcf ?_
        rintro e w1 ⟨rfl, hb1⟩
        have hs1 := hb1.size
        simp at hs1
        clear hcf hIt
        go_wp2
        go_roundw
        case rel => exact ⟨k + 1, by omega, by go_num, by repeat (first | exact Below.refl _ _ | assumption | refine below_allocS ?_ _ | refine below_callS ?_ (by assumption) | (refine Below.alloc ?_ (by first | omega | (simp; done) | (simp; omega)) _) | (refine Below.setCell ?_ (by first | omega | (simp; done) | (simp; omega)) _) | refine Below.drew ?_ | refine below_drewN ?_ _ | (refine below_call ?_ (by assumption) (by first | omega | (simp; done) | (simp; omega))) | (refine Below.trans ?_ (by assumption)))⟩
        case measure => simp [intOf]; omega
    · have h8 : (n : Int) ≤ 8 := by omega
      go_wp2
      go_ret
      exact ⟨rfl, hbl⟩
theorem impl_AreFaults_ok {rows : Int} {a : Option Addr} {n c : Nat} {l : List I3} {w : World} (hI : F3 w a n c l) (hn : n ≤ 8) (hr : 2 ≤ rows ∧ rows ≤ 8) (hg : ∀ y ∈ l, 0 ≤ y.a ∧ y.a < rows ∧ (y.b = 0 ∨ y.b = 1) ∧ (y.c = 0 ∨ y.c = 1)) (hd : l.Pairwise fun o f => sameS f o = false) :
    Calls Try.prog 62 #[.int .i64 rows, .slice a n c] w fun e w' => e = .returned (.bool true) ∧ Below w.heap.size w w' := by
  have H1 := Lib.hid (fun (wx : World) (hb : Below w.heap.size w wx) => impl_areFaults_ok (hI.keep hb) hn hr hg hd)
  have H2 := Lib.hid (show inB rows 2 8 = true by simp [inB]; omega)
  clear hI hg hd
  go_enter Try.func62, Try.ntmps62
  go_wp2_with fail
  refine Calls.mono (impl_isBlockCount) ?_
  rintro e _ ⟨rfl, rfl⟩
  rw [H2.out]
  go_wp2_with fail
  refine Calls.mono (H1.out _ (by repeat (first | exact Below.refl _ _ | assumption | refine below_allocS ?_ _ | refine below_callS ?_ (by assumption) | (refine Below.alloc ?_ (by first | omega | (simp; done) | (simp; omega)) _) | (refine Below.setCell ?_ (by first | omega | (simp; done) | (simp; omega)) _) | refine Below.drew ?_ | refine below_drewN ?_ _ | (refine below_call ?_ (by assumption) (by first | omega | (simp; done) | (simp; omega))) | (refine Below.trans ?_ (by assumption))))) ?_
  rintro e w1 ⟨rfl, hb_w1⟩
  obtain ⟨hc_w1, hf_w1⟩ := bcell hb_w1
  have hs_w1 := hb_w1.size
  go_wp2
  go_ret
  exact ⟨rfl, by repeat (first | exact Below.refl _ _ | assumption | refine below_allocS ?_ _ | refine below_callS ?_ (by assumption) | (refine Below.alloc ?_ (by first | omega | (simp; done) | (simp; omega)) _) | (refine Below.setCell ?_ (by first | omega | (simp; done) | (simp; omega)) _) | refine Below.drew ?_ | refine below_drewN ?_ _ | (refine below_call ?_ (by assumption) (by first | omega | (simp; done) | (simp; omega))) | (refine Below.trans ?_ (by assumption)))⟩
theorem impl_AreTolerated_ok {rows : Int} {a : Option Addr} {n c : Nat} {l : List I3} {w : World} (hI : F3 w a n c l) (hn : n ≤ 8) (hr : 2 ≤ rows ∧ rows ≤ 8) (hg : ∀ y ∈ l, 0 ≤ y.a ∧ y.a < rows ∧ (y.b = 0 ∨ y.b = 1) ∧ (y.c = 0 ∨ y.c = 1)) (hd : l.Pairwise fun o f => sameS f o = false) :
    Calls Try.prog 63 #[.int .i64 rows, .slice a n c] w fun e w' => e = .returned (.bool (tolB0 l)) ∧ Below w.heap.size w w' := by
  have H1 := Lib.hid (fun (wx : World) (hb : Below w.heap.size w wx) => impl_AreFaults_ok (hI.keep hb) hn hr hg hd)
  have H2 := Lib.hid (fun (wx : World) (hb : Below w.heap.size w wx) => impl_areTolerated (hI.keep hb) (by omega))
  clear hI hg hd
  generalize tolB0 l = T at *
  go_enter Try.func63, Try.ntmps63
  go_wp2_with fail
  refine Calls.mono (H1.out _ (by repeat (first | exact Below.refl _ _ | assumption | refine below_allocS ?_ _ | refine below_callS ?_ (by assumption) | (refine Below.alloc ?_ (by first | omega | (simp; done) | (simp; omega)) _) | (refine Below.setCell ?_ (by first | omega | (simp; done) | (simp; omega)) _) | refine Below.drew ?_ | refine below_drewN ?_ _ | (refine below_call ?_ (by assumption) (by first | omega | (simp; done) | (simp; omega))) | (refine Below.trans ?_ (by assumption))))) ?_
  rintro e w1 ⟨rfl, hb_w1⟩
  obtain ⟨hc_w1, hf_w1⟩ := bcell hb_w1
  have hs_w1 := hb_w1.size
  go_wp2_with fail
  refine Calls.mono (H2.out _ (by repeat (first | exact Below.refl _ _ | assumption | refine below_allocS ?_ _ | refine below_callS ?_ (by assumption) | (refine Below.alloc ?_ (by first | omega | (simp; done) | (simp; omega)) _) | (refine Below.setCell ?_ (by first | omega | (simp; done) | (simp; omega)) _) | refine Below.drew ?_ | refine below_drewN ?_ _ | (refine below_call ?_ (by assumption) (by first | omega | (simp; done) | (simp; omega))) | (refine Below.trans ?_ (by assumption))))) ?_
  rintro e w2 ⟨rfl, hb_w2⟩
  obtain ⟨hc_w2, hf_w2⟩ := bcell hb_w2
  have hs_w2 := hb_w2.size
  go_wp2
  go_ret
  exact ⟨rfl, by repeat (first | exact Below.refl _ _ | assumption | refine below_allocS ?_ _ | refine below_callS ?_ (by assumption) | (refine Below.alloc ?_ (by first | omega | (simp; done) | (simp; omega)) _) | (refine Below.setCell ?_ (by first | omega | (simp; done) | (simp; omega)) _) | refine Below.drew ?_ | refine below_drewN ?_ _ | (refine below_call ?_ (by assumption) (by first | omega | (simp; done) | (simp; omega))) | (refine Below.trans ?_ (by assumption)))⟩
end Go.Proofs.Ytoaccicfmfiemaa
