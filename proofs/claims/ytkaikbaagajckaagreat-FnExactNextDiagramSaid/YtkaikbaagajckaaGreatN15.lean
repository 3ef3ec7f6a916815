/- The binary search in an ascending list of states, and what the reference's search keeps: plain laws.; Comparing and sorting states: the library's functions, walked.; Rows of states: slices of slices of numbers that are the call's own; what the reference's search keeps.; Different states, sorted and made compact: the same number of them.; Different states, sorted and made compact by the program: as many of them as before.; Decision diagrams: what is valid, and that both ways to tell agree: plain laws. -/
import Derived.Test.YtkaikbaagajckaaGreatN14
import Derived.Test.YtkaikbaagajckaaGreatN11
import Derived.BigQuiet
import Derived.Test.YtkaikbaagajckaaGreatN12
import Derived.Test.YtkaikbaagajckaaGreatSs
import Derived.Test.YtkaikbaagajckaaGreatN10
namespace Go.Proofs.YtkaikbaagajckaaGreat
open Go.RowKit
set_option linter.unusedVariables false
set_option linter.unusedSimpArgs false
theorem plc_up {m : Nat} {l : List (List Int)} {x a : List Int} {k : Nat} (h : AscS m l) (hx : x.length = m) (ha : l[k]? = some a) (hc : cmpL a x < 0) : ∀ (i : Nat) (b : List Int), l[i]? = some b → i < k + 1 → cmpL b x < 0 := by
  intro i b hb hi
  by_cases e : i = k
  · subst e; rw [ha] at hb; cases hb; exact hc
  · have l1 := h.1 b (List.mem_of_getElem? hb)
    have l2 := h.1 a (List.mem_of_getElem? ha)
    exact cmpL_trans (by rw [l1, l2]) (by rw [l2, hx]) (asc_lt h hb ha (by omega)) hc
theorem plc_dn {m : Nat} {l : List (List Int)} {x a : List Int} {k : Nat} (h : AscS m l) (hx : x.length = m) (ha : l[k]? = some a) (hc : ¬ cmpL a x < 0) : ∀ (i : Nat) (b : List Int), l[i]? = some b → k ≤ i → 0 ≤ cmpL b x := by
  intro i b hb hi
  by_cases e : k = i
  · subst e; rw [ha] at hb; cases hb; omega
  · refine Int.not_lt.1 fun hlt => hc ?_
    have l1 := h.1 b (List.mem_of_getElem? hb)
    have l2 := h.1 a (List.mem_of_getElem? ha)
    exact cmpL_trans (by rw [l1, l2]) (by rw [l1, hx]) (asc_lt h ha hb (by omega)) hlt
theorem cmpL_done {a b : List Int} {k : Nat} (h : a.take k = b.take k) (ha : a.length ≤ k) (hb : b.length ≤ k) : cmpL a b = 0 := by
  rw [List.take_of_length_le ha, List.take_of_length_le hb] at h
  rw [h, cmpL_self]
theorem take_eq_step {a b : List Int} {k : Nat} {x : Int} (h : a.take k = b.take k) (ha : a[k]? = some x) (hb : b[k]? = some x) : a.take (k + 1) = b.take (k + 1) := by rw [take_at ha, take_at hb, h]
theorem cmpL_lt {a b : List Int} {k : Nat} (h : a.take k = b.take k) {x y : Int} (ha : a[k]? = some x) (hb : b[k]? = some y) (hxy : x < y) : cmpL a b = -1 := by rw [cmpL_at h ha hb, if_pos hxy]
theorem cmpL_gt {a b : List Int} {k : Nat} (h : a.take k = b.take k) {x y : Int} (ha : a[k]? = some x) (hb : b[k]? = some y) (hxy : y < x) : cmpL a b = 1 := by rw [cmpL_at h ha hb, if_neg (by omega), if_pos hxy]
theorem expN_len {rs : List RuD} {i : Nat} {x : SN} {L : List SN} {j : Nat} : (expT rs i x L j).length ≤ (expN rs i x L).length := by
  have h : expN rs i x L = ((nextP rs x.v).drop j).foldl (addN i x) (expT rs i x L j) := by
    rw [expT, expN, ← List.foldl_append, List.take_append_drop]
  rw [h]
  obtain ⟨t, ht, _⟩ := foldN_pre i x ((nextP rs x.v).drop j) (expT rs i x L j)
  rw [ht, List.length_append]; omega
theorem exp_over {rs : List RuD} {i : Nat} {x : SN} {L : List SN} {j : Nat} {q : Nat × List Int} (h : (nextP rs x.v)[j]? = some q) (hl : 4000 ≤ (expT rs i x L j).length) (hn : (expT rs i x L j).any (fun y => y.v == q.2) = false) : 4000 < (expN rs i x L).length := by
  have h1 := expN_len (rs := rs) (i := i) (x := x) (L := L) (j := j + 1)
  rw [expT_step h, addN_new hn, List.length_append] at h1
  simp at h1; omega
theorem isNaN_i64c {x : Int} {w : World} : Calls Tryz.prog 215 #[.int .i64 x] w fun e w' => e = .returned (.bool false) ∧ w = w' := by
  have hx : (x != x) = false := by simp
  go_enter Tryz.func215, Tryz.ntmps215
  go_wp2
  go_ret
  exact ⟨by first | rfl | simp, rfl⟩
theorem cmp_Compare_i64 {x y : Int} {w : World} : Calls Tryz.prog 202 #[.int .i64 x, .int .i64 y] w fun e w' => e = .returned (.int .i64 (if x < y then -1 else if y < x then 1 else 0)) ∧ w = w' := by
  by_cases h1 : x < y
  · rw [if_pos h1]
    go_enter Tryz.func202, Tryz.ntmps202
    go_wp2_with fail
    refine Calls.mono (isNaN_i64c) ?_
    rintro e _ ⟨rfl, rfl⟩
    go_wp2_with fail
    refine Calls.mono (isNaN_i64c) ?_
    rintro e _ ⟨rfl, rfl⟩
    go_wp2
    go_ret
    exact ⟨rfl, rfl⟩
  · rw [if_neg h1]
    by_cases h2 : y < x
    · rw [if_pos h2]
      go_enter Tryz.func202, Tryz.ntmps202
      go_wp2_with fail
      refine Calls.mono (isNaN_i64c) ?_
      rintro e _ ⟨rfl, rfl⟩
      go_wp2_with fail
      refine Calls.mono (isNaN_i64c) ?_
      rintro e _ ⟨rfl, rfl⟩
      go_wp2
      go_ret
      exact ⟨rfl, rfl⟩
    · rw [if_neg h2]
      go_enter Tryz.func202, Tryz.ntmps202
      go_wp2_with fail
      refine Calls.mono (isNaN_i64c) ?_
      rintro e _ ⟨rfl, rfl⟩
      go_wp2_with fail
      refine Calls.mono (isNaN_i64c) ?_
      rintro e _ ⟨rfl, rfl⟩
      go_wp2
      go_ret
      exact ⟨rfl, rfl⟩
set_option maxHeartbeats 1000000 in
theorem slices_Compare_i64 {xa ya : Option Addr} {n xc yc : Nat} {x y : List Int} {w : World} (hX : Ints w xa n xc x) (hY : Ints w ya n yc y) (hn : n ≤ 1048576) :
    Calls Tryz.prog 185 #[.slice xa n xc, .slice ya n yc] w fun e w' => e = .returned (.int .i64 (cmpL x y)) ∧ w = w' := by
  have HX := Lib.hid hX
  have HY := Lib.hid hY
  clear hX hY
  go_enter Tryz.func185, Tryz.ntmps185
  go_wp2_with fail
  go_loop [11] (fun s11 => ∃ j : Nat, s11 = .int .i64 j ∧ j ≤ n ∧ Hid (x.take j = y.take j)) (fun s11 => n - (intOf s11).toNat)
  case atStart => exact ⟨0, rfl, by omega, Lib.hid rfl⟩
  case round =>
    obtain ⟨j, rfl, hj, A⟩ := hrel
    by_cases hlt : j < n
    · have hlt' : (j : Int) < (n : Int) := by omega
      have hge : ¬ (n : Int) ≤ (j : Int) := by omega
      have hj0 : (0 : Int) ≤ (j : Int) := by omega
      obtain ⟨b1, o1, u, rfl, hb1, hu, hc1, huw⟩ := HX.out.at hlt
      obtain ⟨b2, o2, v, rfl, hb2, hv, hc2, hvw⟩ := HY.out.at hlt
      have HU := Lib.hid hu
      have HV := Lib.hid hv
      have KC := cmp_Compare_i64 (x := u) (y := v) (w := w)
      clear hu hv
      by_cases h1 : u < v
      · have HQ := Lib.hid (cmpL_lt A.out HU.out HV.out h1)
        rw [if_pos h1] at KC
        go_wp2_with fail
        refine Calls.mono KC ?_
        rintro e _ ⟨rfl, rfl⟩
        go_wp2
        go_ret
        exact ⟨ret_int HQ.out.symm, rfl⟩
      · rw [if_neg h1] at KC
        by_cases h2 : v < u
        · have HQ := Lib.hid (cmpL_gt A.out HU.out HV.out h2)
          rw [if_pos h2] at KC
          go_wp2_with fail
          refine Calls.mono KC ?_
          rintro e _ ⟨rfl, rfl⟩
          go_wp2
          go_ret
          exact ⟨ret_int HQ.out.symm, rfl⟩
        · have HQ := Lib.hid (take_eq_step A.out HU.out (show y[j]? = some u by rw [HV.out]; congr 1; omega))
          rw [if_neg h2] at KC
          go_wp2_with fail
          refine Calls.mono KC ?_
          rintro e _ ⟨rfl, rfl⟩
          go_wp2
          go_round
          case rel => exact ⟨j + 1, by go_num, by omega, HQ⟩
          case measure => simp [intOf]; omega
    · obtain rfl : n = j := by omega
      have hlt' : ¬ (n : Int) < (n : Int) := by omega
      have HQ := Lib.hid (cmpL_done A.out (by rw [HX.out.len]; exact Nat.le_refl _) (by rw [HY.out.len]; exact Nat.le_refl _))
      go_wp2
      go_ret
      exact ⟨ret_int HQ.out.symm, rfl⟩
set_option maxHeartbeats 1000000 in
theorem slices_Equal_i64 {xa ya : Option Addr} {n xc yc : Nat} {x y : List Int} {w : World} (hX : Ints w xa n xc x) (hY : Ints w ya n yc y) (hn : n ≤ 1048576) :
    Calls Tryz.prog 187 #[.slice xa n xc, .slice ya n yc] w fun e w' => e = .returned (.bool (x == y)) ∧ Below w.heap.size w w' := by
  have HX := Lib.hid hX
  have HY := Lib.hid hY
  have hd : ((n : Int) != (n : Int)) = false := by simp
  clear hX hY
  go_enter Tryz.func187, Tryz.ntmps187
  go_wp2_with fail
  go_loopw [13] (fun s13 wr => ∃ j : Nat, s13 = .int .i64 j ∧ j ≤ n ∧ Below w.heap.size w wr ∧ Hid (x.take j = y.take j)) (fun s13 _ => n - (intOf s13).toNat)
  case atStart => exact ⟨0, rfl, by omega, Below.refl _ _, Lib.hid rfl⟩
  case round =>
    obtain ⟨j, rfl, hj, hbl, A⟩ := hrel
    by_cases hlt : j < n
    · have hlt' : (j : Int) < (n : Int) := by omega
      have hj0 : (0 : Int) ≤ (j : Int) := by omega
      obtain ⟨b1, o1, u, rfl, hb1, hu, hc1, huw⟩ := (HX.out.keep hbl).at hlt
      obtain ⟨b2, o2, v, rfl, hb2, hv, hc2, hvw⟩ := (HY.out.keep hbl).at hlt
      have HU := Lib.hid hu
      have HV := Lib.hid hv
      clear hu hv
      by_cases h1 : u = v
      · subst h1
        have hd2 : (u != u) = false := by simp
        have HQ := Lib.hid (take_eq_step A.out HU.out HV.out)
        go_wp2
        go_quiet (fail)
        go_wp2
        go_roundw
        case rel => exact ⟨j + 1, by go_num, by omega, bel, HQ⟩
        case measure => simp [intOf]; omega
      · have hd2 : (u != v) = true := by simpa using h1
        have HQ := Lib.hid (show (x == y) = false by
          rw [beq_eq_false_iff_ne]
          rintro rfl
          have := HU.out
          rw [HV.out] at this
          exact h1 (by simpa using this.symm))
        go_wp2
        go_quiet (fail)
        go_wp2
        go_ret
        exact ⟨ret_bool HQ.out.symm, bel⟩
    · obtain rfl : n = j := by omega
      have hlt' : ¬ (n : Int) < (n : Int) := by omega
      have HQ := Lib.hid (show (x == y) = true by
        have h := A.out
        rw [List.take_of_length_le (by rw [HX.out.len]; exact Nat.le_refl _), List.take_of_length_le (by rw [HY.out.len]; exact Nat.le_refl _)] at h
        simpa using h)
      go_wp2
      go_ret
      exact ⟨ret_bool HQ.out.symm, hbl⟩
def encS (x : QM × List Int) : List Value := [.slice x.1.a x.1.n x.1.c]
theorem encS_len (x : QM × List Int) : (encS x).length = 1 := rfl
theorem encS_one (y : QM × List Int) : ∀ u ∈ encS y, u.oneCell' = true := fun u hu => by simp [encS] at hu; subst hu; rfl
theorem Tryz.infosl : (Tryz.prog.info? 22).map (fun i => (i.zero, i.size, i.bytes)) = some (some (.slice none 0 0), 1, 24) := by kernel_rfl
/-- a row of states that is the call's own -/
structure SRow (w : World) (lo l2 : Nat) (a : Option Addr) (n c : Nat) (l : List (QM × List Int)) : Prop where
  row : OwnF 1 encS (fun _ => True) 22 w lo a n c l
  each : ∀ x ∈ l, OwnI 2 w l2 x.1.a x.1.n x.1.c x.2
theorem SRow.keep {w w' : World} {lo l2 : Nat} {a : Option Addr} {n c : Nat} {l : List (QM × List Int)} (h : SRow w lo l2 a n c l) (hb : Below w.heap.size w w') : SRow w' lo l2 a n c l :=
  ⟨h.row.keep hb, fun x hx => (h.each x hx).keep hb⟩
theorem SRow.le {w : World} {lo lo' l2 l2' : Nat} {a : Option Addr} {n c : Nat} {l : List (QM × List Int)} (h : SRow w lo l2 a n c l) (hl : lo' ≤ lo) (hl2 : l2' ≤ l2) : SRow w lo' l2' a n c l :=
  ⟨h.row.le hl, fun x hx => (h.each x hx).le hl2⟩
theorem SRow.keepG {w w' : World} {lo l2 b : Nat} {a : Option Addr} {n c : Nat} {l : List (QM × List Int)} (h : SRow w lo l2 a n c l) (hg : w.grownBy w' (some b)) (hb : ∀ (cur : Array Value) (E : TypeId), w.heap[b]? = some (.cells cur E (0, 0)) → E ≠ 22 ∧ E ≠ 2) : SRow w' lo l2 a n c l :=
  ⟨h.row.keepG hg fun g e e' => by
      cases e'
      obtain ⟨cur, h1⟩ := h.row.typ e
      exact (hb _ _ h1).1 rfl,
   fun x hx => (h.each x hx).keepG hg fun g e e' => by
      cases e'
      obtain ⟨cur, h1⟩ := (h.each x hx).typ e
      exact (hb _ _ h1).2 rfl⟩
theorem SRow.get {w : World} {lo l2 : Nat} {a : Option Addr} {n c : Nat} {l : List (QM × List Int)} (h : SRow w lo l2 a n c l) {i : Nat} (hi : i < n) :
    ∃ b off R v, a = some ⟨b, off, none⟩ ∧ b < w.heap.size ∧ l[i]? = some (R, v) ∧ OwnI 2 w l2 R.a R.n R.c v ∧ w.cell? ⟨b, off + i, none⟩ = some (.slice R.a R.n R.c) := by
  obtain ⟨b, off, x, h1, h2, h3, _, h5⟩ := h.row.flats.at hi
  have := h5 0 _ rfl
  rw [Nat.mul_one] at this
  exact ⟨b, off, x.1, x.2, h1, h2, h3, h.each x (List.mem_of_getElem? h3), this⟩
theorem SRow.len {w : World} {lo l2 : Nat} {a : Option Addr} {n c : Nat} {l : List (QM × List Int)} (h : SRow w lo l2 a n c l) : l.length = n := h.row.flats.len
theorem SRow.nil (w : World) (lo l2 : Nat) : SRow w lo l2 none 0 0 [] := ⟨⟨World.ownsRow_nil w lo _ 1, (fun _ h => by cases h), rfl, encS_len⟩, fun _ h => by cases h⟩
theorem Flats.part {α : Type} {k : Nat} {enc : α → List Value} {ok : α → Prop} {w : World} {a : Option Addr} {n c : Nat} {l : List α} (h : Flats k enc ok w a n c l) {lo hi : Nat} (h1 : lo ≤ hi) (h2 : hi ≤ n) : Flats k enc ok w (if c = lo then a else a.map (·.add (lo * k))) (hi - lo) (c - lo) ((l.drop lo).take (hi - lo)) := by
  have hc := h.cap
  have hl := h.len
  refine ⟨by rw [List.length_take, List.length_drop, hl]; omega, by omega, ?_, fun x hx => h.wf x (List.mem_of_mem_drop (List.mem_of_mem_take hx)), fun e => ?_⟩
  · by_cases h0 : hi - lo = 0
    · exact .inl h0
    · obtain ⟨b, off, ha, hlt, hx⟩ := h.pos.resolve_left (by omega)
      subst ha
      refine .inr ⟨b, off + lo * k, ?_, hlt, fun i x hi' j v hv => ?_⟩
      · rw [if_neg (by omega), Option.map_some]
        congr 1
        by_cases h0 : lo * k = 0 <;> simp [Addr.add, h0]
      · rw [List.getElem?_take] at hi'
        split at hi'
        · rw [List.getElem?_drop] at hi'
          have := hx _ _ hi' j v hv
          rw [Nat.add_mul] at this
          rw [show off + lo * k + i * k + j = off + (lo * k + i * k) + j by omega]; exact this
        · cases hi'
  · have ha : a = none := by
      split at e
      · exact e
      · cases a with
        | none => rfl
        | some => cases e
    have := h.nil ha
    omega
/-- from w to w' nothing that was there is written but block b and rows of states -/
structure StepW (b : Nat) (w w' : World) : Prop where
  os : w'.os = w.os
  tape : w'.tape = w.tape
  output : w'.output = w.output
  size : w.heap.size ≤ w'.heap.size
  block : ∀ k, k < w.heap.size → k ≠ b → (∀ cur, w.heap[k]? ≠ some (.cells cur 22 (0, 0))) → w'.heap[k]? = w.heap[k]?
theorem StepW.refl (b : Nat) (w : World) : StepW b w w := ⟨rfl, rfl, rfl, Nat.le_refl _, fun _ _ _ _ => rfl⟩
theorem StepW.trans {b : Nat} {w w' w'' : World} (h : StepW b w w') (h' : StepW b w' w'') : StepW b w w'' :=
  ⟨h'.os.trans h.os, h'.tape.trans h.tape, h'.output.trans h.output, Nat.le_trans h.size h'.size, fun k hk hr ht => by
    have e := h.block k hk hr ht
    rw [h'.block k (Nat.lt_of_lt_of_le hk h.size) hr (fun cur => by rw [e]; exact ht cur), e]⟩
theorem StepW.below {b : Nat} {w w' : World} (h : Below w.heap.size w w') : StepW b w w' := ⟨h.os, h.tape, h.output, h.size, fun k hk _ _ => h.block k hk⟩
theorem StepW.set (b : Nat) (w : World) (j : Nat) (u : Value) : StepW b w (w.setCell ⟨b, j, none⟩ u) :=
  have h := set_grown (w := w) b j u
  ⟨h.os, h.tape, h.output, h.size, fun k hk hr _ => h.block k hk (fun e => hr (by cases e; rfl))⟩
theorem StepW.touch {b n' lo l2 : Nat} {w w' : World} {a : Option Addr} {n c : Nat} {l : List (QM × List Int)} (h : SRow w lo l2 a n c l) (ht : Touch w w' n' a) : StepW b w w' := by
  obtain ⟨r, hg, hr⟩ := ht
  refine ⟨hg.os, hg.tape, hg.output, hg.size, fun k hk _ hn => hg.block k hk fun e => ?_⟩
  obtain ⟨_, ha⟩ := hr k e.symm
  obtain ⟨cur, h1⟩ := h.row.typ ha
  exact hn _ h1
theorem Blk.keepS {b g : Nat} {w w' : World} {cs : Array Value} {T : TypeId} (h : Blk w g cs T) (hs : StepW b w w') (hg : g ≠ b) (hT : T ≠ 22) : Blk w' g cs T :=
  (hs.block g h.lt hg fun cur e => by rw [Blk] at h; rw [h] at e; simp only [Option.some.injEq, Obj.cells.injEq] at e; exact hT e.2.1).trans h
theorem OwnI.keepS {b lo : Nat} {w w' : World} {a : Option Addr} {n c : Nat} {l : List Int} {T : TypeId} {cs : Array Value} (h : OwnI 2 w lo a n c l) (hB : Blk w b cs T) (hT : T ≠ 2) (hs : StepW b w w') : OwnI 2 w' lo a n c l := by
  have hty := fun g e => h.typ (g := g) e
  obtain ⟨⟨hl, h2⟩, hw⟩ := h
  refine ⟨⟨hl, ?_⟩, hw⟩
  rcases h2 with h2 | ⟨g, cap, cur, he, hbs, hg, r⟩
  · exact .inl h2
  · have hlt : g < w.heap.size := Nat.lt_of_not_le fun h => by rw [Array.getElem?_eq_none h] at hg; cases hg
    refine .inr ⟨g, cap, cur, he, hbs, ?_, r⟩
    rw [hs.block g hlt (fun e => ?_) (fun cur' e => ?_)]; exact hg
    · subst e
      rw [Blk] at hB
      rw [hB] at hg
      simp only [Option.some.injEq, Obj.cells.injEq] at hg
      exact hT hg.2.1
    · rw [hg] at e
      simp only [Option.some.injEq, Obj.cells.injEq] at e
      exact absurd e.2.1 (by decide)
/-- append of one state to a row -/
theorem appS {w : World} {ops : Array Oper} {rest : List Oper} {o : Oper} {act : Act} {Q : Exit → Act → World → Prop} (hgd : o.guard = none) (s x : Operand)
    (ho : o.op = .call { callee := .builtin .append, args := #[s, x], argTypes := #[31, 31] })
    (base b2 : Nat) (a : Option Addr) (n c : Nat) (l : List (QM × List Int)) (hown : SRow w base b2 a n c l) (hs : act.eval s = .slice a n c) (gx : Nat) (hx : act.eval x = .slice (some ⟨gx, 0, none⟩) 1 1) (hg : gx = w.heap.size) (y : QM × List Int) (hy : OwnI 2 w b2 y.1.a y.1.n y.1.c y.2) (cs : Array Value) (hcs : cs = #[.slice y.1.a y.1.n y.1.c])
    (hn : n ≤ 4194304) (hbase : base ≤ w.heap.size)
    (K : ∀ g' c' w', SRow w' base b2 (some ⟨g', 0, none⟩) (n + 1) c' (l ++ [y]) → Below base w w' → Touch w w' 1 a → (a = some ⟨g', 0, none⟩ ∨ g' = w.heap.size + 1) → w.heap.size + 1 ≤ w'.heap.size → wpList Tryz.prog ops Q rest (act.put o.dst (.slice (some ⟨g', 0, none⟩) (n + 1) c')) w') : wpList Tryz.prog ops Q (o :: rest) act (w.alloc (.cells cs 22)) := by
  refine appAtL (k := 1) (m := 1) (enc := encS) (ok := fun _ => True) hgd s x ho Tryz.underlying31 Tryz.infosl rfl (by decide) (by decide) encS_one base a n c l [y] hown.row hs gx hx hg (by rw [hcs]; rfl) rfl (fun _ _ => trivial) (by decide) hn (by decide) hbase ?_
  intro g' c' w' h1 h2 h3 h4 h5
  have ht : Touch w w' 1 a := ⟨_, h3, fun b e => ⟨by decide, own_block hown.row.1 b e⟩⟩
  refine K g' c' w' ⟨h1, fun z hz => ?_⟩ h2 ht h4 h5
  have hz' : OwnI 2 w b2 z.1.a z.1.n z.1.c z.2 := by
    rcases List.mem_append.1 hz with hz | hz
    · exact hown.each z hz
    · simp at hz; rw [hz]; exact hy
  exact hz'.keepT ht fun g e e' => typ_apart (fun {g} e => hz'.typ e) (fun {g} e => hown.row.typ e) (by decide) g e e'
/-- append of a part of a row to a row -/
theorem appSL {w : World} {ops : Array Oper} {rest : List Oper} {o : Oper} {act : Act} {Q : Exit → Act → World → Prop} (hgd : o.guard = none) (s x : Operand)
    (ho : o.op = .call { callee := .builtin .append, args := #[s, x], argTypes := #[31, 31] })
    (base b2 : Nat) (a : Option Addr) (n c : Nat) (l : List (QM × List Int)) (hown : SRow w base b2 a n c l) (hs : act.eval s = .slice a n c) (a2 : Option Addr) (m c2 : Nat) (l2 : List (QM × List Int)) (hx : act.eval x = .slice a2 m c2) (hsrc : Flats 1 encS (fun _ => True) w a2 m c2 l2) (hy : ∀ y ∈ l2, OwnI 2 w b2 y.1.a y.1.n y.1.c y.2)
    (hn : n ≤ 4194304) (hm : m ≤ 4194304) (hbase : base ≤ w.heap.size)
    (K : ∀ a' c' w', SRow w' base b2 a' (n + m) c' (l ++ l2) → Below base w w' → Touch w w' 1 a → wpList Tryz.prog ops Q rest (act.put o.dst (.slice a' (n + m) c')) w') : wpList Tryz.prog ops Q (o :: rest) act w := by
  refine appendL_F (k := 1) (enc := encS) (ok := fun _ => True) hgd s x _ _ ho Tryz.underlying31 Tryz.infosl rfl (by decide) (by decide) encS_one base a n c l hown.row hs a2 m c2 l2 hx hsrc hn hm hbase ?_
  intro a' c' w' h1 h2 h3 h4
  have ht : Touch w w' 1 a := ⟨_, h3, fun b e => ⟨by decide, own_block hown.row.1 b e⟩⟩
  refine K a' c' w' ⟨h1, fun z hz => ?_⟩ h2 ht
  have hz' : OwnI 2 w b2 z.1.a z.1.n z.1.c z.2 := by
    rcases List.mem_append.1 hz with hz | hz
    · exact hown.each z hz
    · exact hy z hz
  exact hz'.keepT ht fun g e e' => typ_apart (fun {g} e => hz'.typ e) (fun {g} e => hown.row.typ e) (by decide) g e e'
open Go.Shelf Go.Lib Go.Sort in
theorem grownBy_sortWorld {α : Type} [Inhabited α] (enc : α → Value) (w : World) (blk off n : Nat) (d : Array α) (os : Array Obj) : w.grownBy (sortWorld enc w blk off n d os) (some blk) := by
  refine ⟨rfl, rfl, rfl, ?_, fun k hk hne => ?_⟩
  · simp [sortWorld, grow, putRow, mapBlock, ahead]
  · have hkb : blk ≠ k := fun e => hne (by rw [e])
    simp only [sortWorld, grow, putRow, mapBlock, ahead]
    rw [Array.getElem?_append_left (by simpa using hk), Array.getElem?_modify, if_neg hkb]
    rfl
/-- a state that lies in another block than the row -/
abbrev Item (w : World) (blk m : Nat) : Type := {x : QM × List Int // Ints w x.1.a m x.1.c x.2 ∧ x.2.length = m ∧ ∀ g off, x.1.a = some ⟨g, off, none⟩ → g ≠ blk}
def encI9 {w : World} {blk m : Nat} (x : Item w blk m) : Value := .slice x.1.1.a m x.1.1.c
def cmpI9 {w : World} {blk m : Nat} (x y : Item w blk m) : Int := cmpL x.1.2 y.1.2
open Go.Shelf Go.Lib Go.Sort in
theorem swo9 {w : World} {blk m : Nat} : SWO (ltOf (cmpI9 (w := w) (blk := blk) (m := m))) := by
  refine ⟨fun x => ?_, fun x y z h1 h2 => ?_, fun x y z h1 h2 => ?_⟩
  · exact decide_eq_false (by rw [cmpI9, cmpL_self]; omega)
  · have h1 := of_decide_eq_true h1
    have h2 := of_decide_eq_true h2
    exact decide_eq_true (cmpL_trans (by rw [x.2.2.1, y.2.2.1]) (by rw [y.2.2.1, z.2.2.1]) h1 h2)
  · have h1 := of_decide_eq_false h1
    have h2 := of_decide_eq_false h2
    rw [cmpI9] at h1 h2
    refine decide_eq_false fun h3 => ?_
    rw [cmpI9] at h3
    have a1 := cmpL_anti x.1.2 y.1.2
    rcases cmpL_range y.1.2 x.1.2 with h | h | h
    · have := cmpL_trans (by rw [y.2.2.1, x.2.2.1]) (by rw [x.2.2.1, z.2.2.1]) (show cmpL y.1.2 x.1.2 < 0 by omega) h3
      omega
    · have e := cmpL_eq (by rw [y.2.2.1, x.2.2.1]) h
      rw [← e] at h3; omega
    · omega
theorem Ints.keepG {w w' : World} {blk : Nat} {a : Option Addr} {n c : Nat} {l : List Int} (h : Ints w a n c l) (hg : w.grownBy w' (some blk)) (hb : ∀ g off, a = some ⟨g, off, none⟩ → g ≠ blk) : Ints w' a n c l := by
  refine ⟨h.len, h.cap, ?_, h.wf, h.nil⟩
  rcases h.pos with h0 | ⟨b, off, ha, hlt, hc⟩
  · exact .inl h0
  · refine .inr ⟨b, off, ha, Nat.lt_of_lt_of_le hlt hg.size, fun i x hx => ?_⟩
    rw [World.cell?_of_block (a := ⟨b, off + i, none⟩) (hg.block b hlt (fun e => hb b off ha (by cases e; rfl)))]
    exact hc i x hx
open Go.Shelf Go.Lib Go.Sort in
theorem cmpReads9 {w : World} {blk off m size : Nat} [Inhabited (Item w blk m)] (hm : m ≤ 1048576) : CmpReads Tryz.prog 185 #[] (encI9 (w := w) (blk := blk) (m := m)) cmpI9 blk off size w := fun k os dk hs x y => by
  have hg := grownBy_sortWorld encI9 w blk off k dk os
  have h := slices_Compare_i64 (x.2.1.keepG hg x.2.2.2) (y.2.1.keepG hg y.2.2.2) hm
  rw [Array.append_empty]
  exact Calls.mono h fun e w' ⟨h1, h2⟩ => ⟨h1, 0, h2.symm⟩
open Go.Shelf Go.Lib Go.Sort in
theorem perm9 {α : Type} [Inhabited α] {d d' : Array α} (h : PermIn 0 d.size d d') : d'.size = d.size ∧ d'.toList.Perm d.toList := by
  obtain ⟨h1, _, h3⟩ := h
  refine ⟨h1, ?_⟩
  have e1 : d.extract 0 d.size = d := by simp
  have e2 : d'.extract 0 d.size = d' := by rw [← h1]; simp
  rw [e1, e2] at h3
  exact h3
theorem wlk_nodup {N : List I3} : ∀ (f r : Nat) (D : List I3) (P : Nms), D.Nodup → (wlkN mkN N f (D, P) r).1.Nodup := by
  intro f
  induction f with
  | zero => intro r D P h; exact h
  | succ f ih =>
    intro r D P h
    rw [wlkN]
    split
    · exact h
    · split
      · exact h
      · split
        · exact h
        · rename_i x hx
          exact mkN_nodup (ih _ _ _ (ih _ _ _ h)) _ _ _
/-- the canonical nodes of a root, and the root's reference -/
def canN (mkf : List I3 → Int → Int → Int → List I3 × Int) (N : List I3) (root : Int) : List I3 × Int :=
  ((wlkN mkf N root.toNat ([], fun _ => 0) root.toNat).1, (wlkN mkf N root.toNat ([], fun _ => 0) root.toNat).2.2)
/-- different nodes with different branches, each behind those that it refers to -/
structure Redu (L : List I3) : Prop where
  nodup : L.Nodup
  frst : Frst L
  diff : ∀ x ∈ L, x.b ≠ x.c
theorem Redu.nil : Redu [] := ⟨List.nodup_nil, Frst.nil, fun x h => by cases h⟩
theorem Redu.add {L : List I3} (h : Redu L) {i lo hi : Int} (hl : RefB lo L.length) (hh : RefB hi L.length) : Redu (mkN L i lo hi).1 := by
  refine ⟨mkN_nodup h.nodup _ _ _, (h.frst.add hl hh).1, fun x hx => ?_⟩
  unfold mkN at hx
  split at hx
  · exact h.diff x hx
  · rename_i hne
    split at hx
    · exact h.diff x hx
    · rcases List.mem_append.1 hx with h1 | h1
      · exact h.diff x h1
      · simp at h1
        rw [h1]; exact hne
theorem can_same {N : List I3} (h : Redu N) {root : Int} (hr : RefB root N.length) : canN mkN N root = canN appN N root := by
  obtain ⟨h1, _⟩ := wlk_same h.nodup h.frst h.diff root.toNat root.toNat [] (fun _ => 0) (Nat.le_refl _) (by unfold RefB at hr; omega) (WkI.start N)
  rw [canN, canN, h1]
/-- the input of a reference, n for a constant -/
def lvlN (n : Int) (L : List I3) (r : Int) : Int := if r < 2 then n else (L.getD (r - 2).toNat ⟨0, 0, 0⟩).a
def ndB (n : Int) (L : List I3) (i : Nat) : Bool := inB (L.getD i ⟨0, 0, 0⟩).a 0 (n - 1) && inB (L.getD i ⟨0, 0, 0⟩).b 0 ((i : Int) + 1) && inB (L.getD i ⟨0, 0, 0⟩).c 0 ((i : Int) + 1) && ((L.getD i ⟨0, 0, 0⟩).b != (L.getD i ⟨0, 0, 0⟩).c) && decide ((L.getD i ⟨0, 0, 0⟩).a < lvlN n L (L.getD i ⟨0, 0, 0⟩).b) && decide ((L.getD i ⟨0, 0, 0⟩).a < lvlN n L (L.getD i ⟨0, 0, 0⟩).c)
def dia0 (n : Int) (L : List I3) (root : Int) : Bool := inB n 0 20 && decide (L.length ≤ 2000) && inB root 0 ((L.length : Int) + 1)
/-- a valid diagram -/
def diaB (n : Int) (L : List I3) (root : Int) : Bool := dia0 n L root && upB (ndB n L) L.length && decide (canN mkN L root = (L, root))
structure NdOk (n : Int) (L : List I3) (i : Nat) (x : I3) : Prop where
  inp : 0 ≤ x.a ∧ x.a ≤ n - 1
  low : 0 ≤ x.b ∧ x.b ≤ (i : Int) + 1
  high : 0 ≤ x.c ∧ x.c ≤ (i : Int) + 1
  ne : x.b ≠ x.c
  lb : x.a < lvlN n L x.b
  lc : x.a < lvlN n L x.c
theorem ndB_iff {n : Int} {L : List I3} {i : Nat} {x : I3} (hx : L[i]? = some x) : ndB n L i = true ↔ NdOk n L i x := by
  have e : L.getD i ⟨0, 0, 0⟩ = x := by rw [List.getD_eq_getElem?_getD, hx]; rfl
  rw [ndB, e]
  simp only [Bool.and_eq_true, inB, decide_eq_true_eq, bne_iff_ne]
  constructor
  · rintro ⟨⟨⟨⟨⟨h1, h2⟩, h3⟩, h4⟩, h5⟩, h6⟩
    exact ⟨h1, h2, h3, h4, h5, h6⟩
  · rintro ⟨h1, h2, h3, h4, h5, h6⟩
    exact ⟨⟨⟨⟨⟨h1, h2⟩, h3⟩, h4⟩, h5⟩, h6⟩
theorem upB_at {p : Nat → Bool} {n i : Nat} (h : upB p n = true) (hi : i < n) : p i = true := by
  rw [upB, List.all_eq_true] at h
  exact h i (List.mem_range.2 hi)
theorem nds_frst {n : Int} {L : List I3} (h : upB (ndB n L) L.length = true) : Frst L ∧ ∀ x ∈ L, x.b ≠ x.c := by
  refine ⟨⟨fun i x hx => ?_, fun i x hx => ?_⟩, fun x hx => ?_⟩
  · have := (ndB_iff hx).1 (upB_at h (List.getElem?_eq_some_iff.1 hx).1)
    exact ⟨this.low.1, by have := this.low.2; omega⟩
  · have := (ndB_iff hx).1 (upB_at h (List.getElem?_eq_some_iff.1 hx).1)
    exact ⟨this.high.1, by have := this.high.2; omega⟩
  · obtain ⟨i, hi⟩ := List.getElem?_of_mem hx
    exact ((ndB_iff hi).1 (upB_at h (List.getElem?_eq_some_iff.1 hi).1)).ne
/-- the program's way: nodes are different, and the walk appends -/
theorem dia_impl {n : Int} {L : List I3} {root : Int} : diaB n L root = (dia0 n L root && upB (ndB n L) L.length && decide L.Nodup && decide (canN appN L root = (L, root))) := by
  rw [diaB]
  cases h0 : dia0 n L root
  · rfl
  cases h1 : upB (ndB n L) L.length
  · rfl
  obtain ⟨hF, hR⟩ := nds_frst h1
  simp only [Bool.true_and]
  by_cases hd : L.Nodup
  · rw [decide_eq_true hd, Bool.true_and]
    have hr : RefB root L.length := by
      have h9 := h0
      rw [dia0, Bool.and_eq_true, Bool.and_eq_true, inB, inB, Bool.and_eq_true, Bool.and_eq_true] at h9
      simp only [decide_eq_true_eq] at h9
      exact ⟨h9.2.1, by have := h9.2.2; omega⟩
    rw [can_same ⟨hd, hF, hR⟩ hr]
  · rw [decide_eq_false hd, Bool.false_and, decide_eq_false]
    intro e
    have := wlk_nodup (N := L) root.toNat root.toNat [] (fun _ => 0) List.nodup_nil
    rw [canN, Prod.mk.injEq] at e
    rw [e.1] at this
    exact hd this
theorem dia_redu {n : Int} {L : List I3} {root : Int} (h : diaB n L root = true) : Redu L ∧ RefB root L.length ∧ 0 ≤ n ∧ n ≤ 20 ∧ L.length ≤ 2000 ∧ canN mkN L root = (L, root) ∧ ∀ (i : Nat) (x : I3), L[i]? = some x → NdOk n L i x := by
  rw [dia_impl] at h
  simp only [Bool.and_eq_true, decide_eq_true_eq] at h
  obtain ⟨⟨⟨h0, h1⟩, h2⟩, h3⟩ := h
  obtain ⟨hF, hR⟩ := nds_frst h1
  have h00 := h0
  rw [dia0, Bool.and_eq_true, Bool.and_eq_true, inB, inB, Bool.and_eq_true, Bool.and_eq_true] at h0
  simp only [decide_eq_true_eq] at h0
  obtain ⟨⟨h4, h5⟩, h6⟩ := h0
  have hr : RefB root L.length := ⟨h6.1, by have := h6.2; omega⟩
  exact ⟨⟨h2, hF, hR⟩, hr, h4.1, h4.2, h5, by rw [can_same ⟨h2, hF, hR⟩ hr]; exact h3, fun i x hx => (ndB_iff hx).1 (upB_at h1 (List.getElem?_eq_some_iff.1 hx).1)⟩
end Go.Proofs.YtkaikbaagajckaaGreat
