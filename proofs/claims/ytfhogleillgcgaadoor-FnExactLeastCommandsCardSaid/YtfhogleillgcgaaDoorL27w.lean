/- The shortest ways between modes: the two searches as functions, and that they agree; the reference's search, walked. -/
import Derived.Test.YtfhogleillgcgaaDoorL27b
import Derived.Test.YtfhogleillgcgaaDoorAt
import Derived.Test.YtfhogleillgcgaaDoorFl
namespace Go.Proofs.YtfhogleillgcgaaDoor
open Go.RowKit
set_option linter.unusedVariables false
set_option linter.unusedSimpArgs false
def srchF (r : Int) (key : Bool) (tt : Int) : Nat → Int → Option (List Int)
  | 0, m => if m == tt then some [] else none
  | n + 1, m => (List.range 10).findSome? fun (k : Nat) => if cVerd m (k : Int) r key = 0 then (srchF r key tt n (toR k)).map ((k : Int) :: ·) else none
def leastF (r : Int) (key : Bool) (tt m : Int) : Option (List Int) := (List.range 6).findSome? fun n => srchF r key tt n m
structure BF where
  out : List (Option (List Int))
  que : List Int
def bfK (r : Int) (key : Bool) (mode : Int) (st : BF) (k : Nat) : BF :=
  match st.out.getD (cNext mode (k : Int) r key).toNat none with
  | some _ => st
  | none => ⟨st.out.set (cNext mode (k : Int) r key).toNat (some ((st.out.getD mode.toNat none).getD [] ++ [(k : Int)])), st.que ++ [cNext mode (k : Int) r key]⟩
def bfR (r : Int) (key : Bool) (mode : Int) (st : BF) (q : Nat) : BF := (List.range q).foldl (bfK r key mode) st
def bfS (r : Int) (key : Bool) (st : BF) : BF := match st.que with
  | [] => st
  | m :: _ => ⟨(bfR r key m st 10).out, (bfR r key m st 10).que.tail⟩
def bfN (r : Int) (key : Bool) (from' : Int) : Nat → BF
  | 0 => ⟨(List.replicate 6 none).set from'.toNat (some []), [from']⟩
  | p + 1 => bfS r key (bfN r key from' p)
def okB (r : Int) (key : Bool) (m : Int) (st : BF) : Bool := decide (st.out.length = 6) && decide (1 ≤ st.que.length) && decide (st.que.length ≤ 6) && st.que.all (fun x => inB x 0 5) && (st.out.getD m.toNat none).isSome && st.out.all (fun o => (o.getD []).all (fun x => inB x 0 9) && decide ((o.getD []).length ≤ 6))
def rowOk (r : Int) (key : Bool) (f : Int) : Bool :=
  (bfN r key f 6).que.isEmpty && (List.range 6).all (fun t => (bfN r key f 6).out.getD t none == leastF r key (t : Int) f) && decide ((bfN r key f 6).out.length = 6) &&
  (bfN r key f 6).out.all (fun o => (o.getD []).all (fun x => inB x 0 9) && decide ((o.getD []).length ≤ 6)) &&
  (List.range 6).all (fun p => match (bfN r key f p).que with
    | [] => true
    | m :: _ => (List.range 11).all fun q => okB r key m (bfR r key m (bfN r key f p) q) && (bfR r key m (bfN r key f p) q).que.head? == some m)
def allOk : Bool := (List.range 6).all fun f => (List.range 4).all fun r => rowOk (r : Int) true (f : Int) && rowOk (r : Int) false (f : Int)
set_option maxRecDepth 100000 in
theorem allOk_true : allOk = true := by decide +kernel
theorem rowOk_at {r f : Int} {key : Bool} (hr : inB r 0 3 = true) (hf : inB f 0 5 = true) : rowOk r key f = true := by
  simp [inB] at hr hf
  obtain ⟨f', rfl⟩ := Int.eq_ofNat_of_zero_le hf.1
  obtain ⟨r', rfl⟩ := Int.eq_ofNat_of_zero_le hr.1
  have h := allOk_true
  unfold allOk at h
  rw [List.all_eq_true] at h
  have h1 := h f' (by simp; omega)
  rw [List.all_eq_true] at h1
  have h2 := h1 r' (by simp; omega)
  simp only [Bool.and_eq_true] at h2
  cases key
  · exact h2.2
  · exact h2.1
theorem next_mode {m k r : Int} {key : Bool} (hk : inB k 0 9 = true) (hm : inB m 0 5 = true) : inB (cNext m k r key) 0 5 = true := by
  unfold cNext
  split
  · rcases cmd_cases hk with rfl | rfl | rfl | rfl | rfl | rfl | rfl | rfl | rfl | rfl <;> decide
  · exact hm
theorem toR_mode {k : Int} (hk : inB k 0 9 = true) : inB (toR k) 0 5 = true := by
  rcases cmd_cases hk with rfl | rfl | rfl | rfl | rfl | rfl | rfl | rfl | rfl | rfl <;> decide
/-- the first of the kinds below q that leads on -/
def srchQ (r : Int) (key : Bool) (tt : Int) (n : Nat) (m : Int) (q : Nat) : Option (List Int) := (List.range q).findSome? fun (k : Nat) => if cVerd m (k : Int) r key = 0 then (srchF r key tt n (toR k)).map ((k : Int) :: ·) else none
theorem find_one {α β : Type} (f : α → Option β) (x : α) : List.findSome? f [x] = f x := by simp only [List.findSome?]; cases f x <;> rfl
theorem srchQ_full (r : Int) (key : Bool) (tt : Int) (n : Nat) (m : Int) : srchF r key tt (n + 1) m = srchQ r key tt n m 10 := rfl
theorem srchQ_snoc (r : Int) (key : Bool) (tt : Int) (n : Nat) (m : Int) (q : Nat) : srchQ r key tt n m (q + 1) = (srchQ r key tt n m q).or (if cVerd m (q : Int) r key = 0 then (srchF r key tt n (toR q)).map ((q : Int) :: ·) else none) := by
  rw [srchQ, List.range_succ, List.findSome?_append, find_one]; rfl
theorem srchQ_skip {r : Int} {key : Bool} {tt : Int} {n : Nat} {m : Int} {q : Nat} (h : srchQ r key tt n m q = none) (h2 : ¬ cVerd m (q : Int) r key = 0) : srchQ r key tt n m (q + 1) = none := by
  rw [srchQ_snoc, h, if_neg h2]; rfl
theorem srchQ_miss {r : Int} {key : Bool} {tt : Int} {n : Nat} {m : Int} {q : Nat} (h : srchQ r key tt n m q = none) (h2 : cVerd m (q : Int) r key = 0) (h3 : srchF r key tt n (toR q) = none) : srchQ r key tt n m (q + 1) = none := by
  rw [srchQ_snoc, h, if_pos h2, h3]; rfl
theorem srchQ_stay {r : Int} {key : Bool} {tt : Int} {n : Nat} {m : Int} {q : Nat} {x : List Int} (h : srchQ r key tt n m q = some x) : ∀ d, srchQ r key tt n m (q + d) = some x
  | 0 => h
  | d + 1 => by rw [← Nat.add_assoc, srchQ_snoc, srchQ_stay h d]; rfl
theorem srchQ_hit {r : Int} {key : Bool} {tt : Int} {n : Nat} {m : Int} {q : Nat} {x : List Int} (h : srchQ r key tt n m q = none) (h2 : cVerd m (q : Int) r key = 0) (h3 : srchF r key tt n (toR q) = some x) (hq : q < 10) : srchF r key tt (n + 1) m = some ((q : Int) :: x) := by
  have h4 : srchQ r key tt n m (q + 1) = some ((q : Int) :: x) := by rw [srchQ_snoc, h, if_pos h2, h3]; rfl
  have := srchQ_stay h4 (10 - (q + 1))
  rw [srchQ_full, ← this]; congr 1; omega
def leastQ (r : Int) (key : Bool) (tt m : Int) (q : Nat) : Option (List Int) := (List.range q).findSome? fun n => srchF r key tt n m
theorem leastQ_snoc (r : Int) (key : Bool) (tt m : Int) (q : Nat) : leastQ r key tt m (q + 1) = (leastQ r key tt m q).or (srchF r key tt q m) := by
  rw [leastQ, List.range_succ, List.findSome?_append, find_one]; rfl
theorem leastQ_stay {r : Int} {key : Bool} {tt m : Int} {q : Nat} {x : List Int} (h : leastQ r key tt m q = some x) : ∀ d, leastQ r key tt m (q + d) = some x
  | 0 => h
  | d + 1 => by rw [← Nat.add_assoc, leastQ_snoc, leastQ_stay h d]; rfl
theorem leastQ_hit {r : Int} {key : Bool} {tt m : Int} {q : Nat} {x : List Int} (h : leastQ r key tt m q = none) (h2 : srchF r key tt q m = some x) (hq : q < 6) : leastF r key tt m = some x := by
  have h4 : leastQ r key tt m (q + 1) = some x := by rw [leastQ_snoc, h, h2]; rfl
  have := leastQ_stay h4 (6 - (q + 1))
  show leastQ r key tt m 6 = _
  rw [← this]; congr 1; omega
theorem leastQ_miss {r : Int} {key : Bool} {tt m : Int} {q : Nat} (h : leastQ r key tt m q = none) (h2 : srchF r key tt q m = none) : leastQ r key tt m (q + 1) = none := by
  rw [leastQ_snoc, h, h2]; rfl
theorem srchF_len {r : Int} {key : Bool} {tt : Int} : ∀ {n : Nat} {m : Int} {x : List Int}, srchF r key tt n m = some x → x.length = n
  | 0, m, x, h => by
    unfold srchF at h
    split at h
    · cases h; rfl
    · cases h
  | n + 1, m, x, h => by
    unfold srchF at h
    obtain ⟨k, _, hk⟩ := List.exists_of_findSome?_eq_some h
    split at hk
    · cases hs : srchF r key tt n (toR k) with
      | none => rw [hs] at hk; cases hk
      | some y => rw [hs] at hk; cases hk; rw [List.length_cons, srchF_len hs]
    · cases hk
theorem srchF_i64 {r : Int} {key : Bool} {tt : Int} : ∀ {n : Nat} {m : Int} {x : List Int}, srchF r key tt n m = some x → ∀ y ∈ x, I64 y
  | 0, m, x, h => by
    unfold srchF at h
    split at h
    · cases h; intro y hy; cases hy
    · cases h
  | n + 1, m, x, h => by
    unfold srchF at h
    obtain ⟨k, hk9, hk⟩ := List.exists_of_findSome?_eq_some h
    simp at hk9
    split at hk
    · cases hs : srchF r key tt n (toR k) with
      | none => rw [hs] at hk; cases hk
      | some z =>
        rw [hs] at hk; cases hk
        intro y hy
        rcases List.mem_cons.1 hy with rfl | hy
        · exact ⟨by omega, by omega⟩
        · exact srchF_i64 hs y hy
    · cases hk
theorem OwnI.one {E : TypeId} {base : Nat} {z : Int} (w : World) (h : base ≤ w.heap.size) (hz : I64 z) : OwnI E (w.alloc (.cells #[.int .i64 z] E)) base (some ⟨w.heap.size, 0, none⟩) 1 1 [z] := by
  refine ⟨?_, fun x hx => ?_⟩
  · have := World.ownsRow_lit (base := base) (e := E) (size := 1) w #[.int .i64 z] 1 h (by decide) (by simp)
    simpa using this
  · simp at hx; rw [hx]; exact hz
def SrRet (w : World) (o : Option (List Int)) (e : Ending) (w' : World) : Prop := ∃ a n c, Below w.heap.size w w' ∧ (match o with
  | some x => e = .returned (.tuple #[.slice a n c, .bool true]) ∧ OwnI 2 w' w.heap.size a n c x ∧ n = x.length
  | none => e = .returned (.tuple #[.slice a n c, .bool false]))
set_option maxRecDepth 100000 in
set_option maxHeartbeats 2000000 in
theorem spec_l27Search {r tt : Int} {key : Bool} : ∀ {n : Nat} {m : Int} {w : World}, n < 6 → inB m 0 5 = true →
    Calls Tryd.prog 45 #[.int .i64 m, .int .i64 tt, .int .i64 r, .bool key, .int .i64 (n : Int)] w (SrRet w (srchF r key tt n m))
  | 0, m, w, _, hm => by
    have hs : srchF r key tt 0 m = if m == tt then some [] else none := rfl
    rw [hs]
    by_cases h : m = tt
    · subst h
      rw [if_pos (by simp)]
      have h1 : (m == m) = true := by simp
      clear hs
      go_enter Tryd.func45, Tryd.ntmps45
      go_wp2_with fail
      exact bodyPost_ret (v := .tuple #[.slice (some ⟨w.heap.size, 0, none⟩) 0 0, .bool true]) (by simp [results, Tryd.results45, go_sem]) rfl ⟨_, _, _, by repeat (first | exact Below.refl _ _ | assumption | refine below_allocS ?_ _ | refine below_callS ?_ (by assumption) | (refine Below.alloc ?_ (by first | omega | (simp; done) | (simp; omega)) _) | (refine Below.setCell ?_ (by first | omega | (simp; done) | (simp; omega)) _) | refine Below.drew ?_ | refine below_drewN ?_ _ | (refine below_call ?_ (by assumption) (by first | omega | (simp; done) | (simp; omega))) | (refine Below.trans ?_ (by assumption))), rfl, OwnI.empty _ (Nat.le_refl _), rfl⟩
    · have h1 : (m == tt) = false := by simpa using h
      rw [if_neg (by simpa using h)]
      clear h hs
      go_enter Tryd.func45, Tryd.ntmps45
      go_wp2_with fail
      exact bodyPost_ret (v := .tuple #[.slice (some ⟨w.heap.size, 0, none⟩) 0 0, .bool false]) (by simp [results, Tryd.results45, go_sem]) rfl ⟨_, _, _, by repeat (first | exact Below.refl _ _ | assumption | refine below_allocS ?_ _ | refine below_callS ?_ (by assumption) | (refine Below.alloc ?_ (by first | omega | (simp; done) | (simp; omega)) _) | (refine Below.setCell ?_ (by first | omega | (simp; done) | (simp; omega)) _) | refine Below.drew ?_ | refine below_drewN ?_ _ | (refine below_call ?_ (by assumption) (by first | omega | (simp; done) | (simp; omega))) | (refine Below.trans ?_ (by assumption))), rfl⟩
  | n + 1, m, w, hn, hm => by
    have ih := fun (k : Int) (wx : World) (hk : inB k 0 9 = true) => spec_l27Search (r := r) (tt := tt) (key := key) (n := n) (m := toR k) (w := wx) (by omega) (toR_mode hk)
    have IH := Lib.hid ih
    have HM := Lib.hid hm
    have hq0 := srchQ_full r key tt n m
    obtain ⟨S, hS⟩ : ∃ S, S = srchF r key tt (n + 1) m := ⟨_, rfl⟩
    rw [← hS]
    have HS := Lib.hid hS
    have hn1 : ((n + 1 : Nat) : Int) = (n : Int) + 1 := by omega
    have hne : ((n : Int) + 1 == 0) = false := by rw [beq_eq_false_iff_ne]; omega
    rw [hn1]
    clear ih hm hS hq0 hn1
    go_enter Tryd.func45, Tryd.ntmps45
    go_wp2_with fail
    go_loopw [12] (fun s12 wr => ∃ q : Nat, s12 = .int .i64 q ∧ q ≤ 10 ∧ Below w.heap.size w wr ∧ Hid (srchQ r key tt n m q = none)) (fun s12 _ => 10 - (intOf s12).toNat)
    case atStart => exact ⟨0, rfl, by omega, Below.refl _ _, Lib.hid rfl⟩
    case round =>
      obtain ⟨q, rfl, hq, hbl, A⟩ := hrel
      by_cases hlt : q < 10
      · have hlt' : (q : Int) < 10 := by omega
        have hk : inB (q : Int) 0 9 = true := by simp [inB]; omega
        have HK := Lib.hid hk
        have hv := fun (wx : World) => spec_l27Verdict (m := m) (k := (q : Int)) (r := r) (key := key) (w := wx) HK.out
        by_cases hc : cVerd m (q : Int) r key = 0
        · rw [hc] at hv
          have HV := Lib.hid hv
          have HC := Lib.hid hc
          clear hv hc hk
          go_wp2_with fail
          refine Calls.mono (HV.out _) ?_
          rintro e w1 ⟨rfl, hb1⟩
          have hs1 := hb1.size
          simp at hs1
          replace hbl : Below w.heap.size w w1 := by repeat (first | exact Below.refl _ _ | assumption | refine below_allocS ?_ _ | refine below_callS ?_ (by assumption) | (refine Below.alloc ?_ (by first | omega | (simp; done) | (simp; omega)) _) | (refine Below.setCell ?_ (by first | omega | (simp; done) | (simp; omega)) _) | refine Below.drew ?_ | refine below_drewN ?_ _ | (refine below_call ?_ (by assumption) (by first | omega | (simp; done) | (simp; omega))) | (refine Below.trans ?_ (by assumption)))
          clear hb1
          go_wp2_with fail
          refine Calls.mono (spec_l27To HK.out) ?_
          rintro e w2 ⟨rfl, hb2⟩
          have hs2 := hb2.size
          replace hbl : Below w.heap.size w w2 := by repeat (first | exact Below.refl _ _ | assumption | refine below_allocS ?_ _ | refine below_callS ?_ (by assumption) | (refine Below.alloc ?_ (by first | omega | (simp; done) | (simp; omega)) _) | (refine Below.setCell ?_ (by first | omega | (simp; done) | (simp; omega)) _) | refine Below.drew ?_ | refine below_drewN ?_ _ | (refine below_call ?_ (by assumption) (by first | omega | (simp; done) | (simp; omega))) | (refine Below.trans ?_ (by assumption)))
          clear hb2
          go_wp2_with fail
          refine Calls.mono (IH.out _ _ HK.out) ?_
          rintro e w3 ⟨a3, n3, c3, hb3, hr3⟩
          have hs3 := hb3.size
          replace hbl : Below w.heap.size w w3 := by repeat (first | exact Below.refl _ _ | assumption | refine below_allocS ?_ _ | refine below_callS ?_ (by assumption) | (refine Below.alloc ?_ (by first | omega | (simp; done) | (simp; omega)) _) | (refine Below.setCell ?_ (by first | omega | (simp; done) | (simp; omega)) _) | refine Below.drew ?_ | refine below_drewN ?_ _ | (refine below_call ?_ (by assumption) (by first | omega | (simp; done) | (simp; omega))) | (refine Below.trans ?_ (by assumption)))
          clear hb3
          cases hx : srchF r key tt n (toR (q : Int)) with
          | none =>
            rw [hx] at hr3
            obtain rfl := hr3
            have HX := Lib.hid hx
            clear hx
            go_wp2_with fail
            go_roundw
            case rel => exact ⟨q + 1, by go_num, by omega, hbl, Lib.hid (srchQ_miss A.out HC.out HX.out)⟩
            case measure => simp [intOf]; omega
          | some x =>
            rw [hx] at hr3
            obtain ⟨rfl, ho, rfl⟩ := hr3
            have HO := Lib.hid ho
            have HX := Lib.hid hx
            have hl := srchF_len hx
            have HL := Lib.hid (show x.length = n from hl)
            clear hx ho hl
            have hl2 : x.length ≤ 100 := by have := HL.out; omega
            have hS2 : S = some ((q : Int) :: x) := HS.out.trans (srchQ_hit A.out HC.out HX.out hlt)
            subst hS2
            have hsz := hbl.size
            go_wp2_with (at_builtin; refine appendL_i64 rfl _ _ 22 2 rfl Tryd.underlying22 Tryd.infoi64 w.heap.size _ 1 1 [(q : Int)] (by exact OwnI.one w3 (by omega) (by unfold I64; omega)) rfl _ _ _ x rfl (HO.out.ints.keep ((Below.refl _ _).alloc (Nat.le_refl _) _)) (by omega) (by omega) (by (try simp); omega) ?_; intro a' c' wn ho hb hg hnl; have HO2 := Lib.hid ho; clear ho hg hnl)
            exact bodyPost_ret (v := .tuple #[.slice a' (1 + x.length) c', .bool true]) (by simp [results, Tryd.results45, go_sem]) rfl ⟨_, _, _, Below.trans (show Below w.heap.size w _ by repeat (first | exact Below.refl _ _ | assumption | refine below_allocS ?_ _ | refine below_callS ?_ (by assumption) | (refine Below.alloc ?_ (by first | omega | (simp; done) | (simp; omega)) _) | (refine Below.setCell ?_ (by first | omega | (simp; done) | (simp; omega)) _) | refine Below.drew ?_ | refine below_drewN ?_ _ | (refine below_call ?_ (by assumption) (by first | omega | (simp; done) | (simp; omega))) | (refine Below.trans ?_ (by assumption)))) hb, rfl, HO2.out, by simp; omega⟩
        · have hne2 : (cVerd m (q : Int) r key != 0) = true := by simpa using hc
          have HC := Lib.hid hc
          generalize hvv : cVerd m (q : Int) r key = v at hv hne2
          have HVV := Lib.hid hvv
          have HV := Lib.hid hv
          clear hv hc hk hvv
          go_wp2_with fail
          refine Calls.mono (HV.out _) ?_
          rintro e w1 ⟨rfl, hb1⟩
          have hs1 := hb1.size
          simp at hs1
          replace hbl : Below w.heap.size w w1 := by repeat (first | exact Below.refl _ _ | assumption | refine below_allocS ?_ _ | refine below_callS ?_ (by assumption) | (refine Below.alloc ?_ (by first | omega | (simp; done) | (simp; omega)) _) | (refine Below.setCell ?_ (by first | omega | (simp; done) | (simp; omega)) _) | refine Below.drew ?_ | refine below_drewN ?_ _ | (refine below_call ?_ (by assumption) (by first | omega | (simp; done) | (simp; omega))) | (refine Below.trans ?_ (by assumption)))
          clear hb1
          go_wp2_with fail
          go_roundw
          case rel => exact ⟨q + 1, by go_num, by omega, hbl, Lib.hid (srchQ_skip A.out HC.out)⟩
          case measure => simp [intOf]; omega
      · obtain rfl : q = 10 := by omega
        have hS2 : S = none := HS.out.trans A.out
        subst hS2
        go_wp2_with fail
        exact bodyPost_ret (v := .tuple #[.slice none 0 0, .bool false]) (by simp [results, Tryd.results45, go_sem]) rfl ⟨_, _, _, hbl, rfl⟩
end Go.Proofs.YtfhogleillgcgaaDoor
