/- The reference's insertion of a state into an ascending list, walked.; The reference's search: its state, and how one state is added, walked.; Ride states of layer 24, walked. -/
import Derived.Test.YtkaikbaagajckaaGreatN20
import Derived.Test.YtkaikbaagajckaaGreatN08
import Derived.Test.YtkaikbaagajckaaGreatN01
namespace Go.Proofs.YtkaikbaagajckaaGreat
open Go.RowKit
set_option linter.unusedVariables false
set_option linter.unusedSimpArgs false
/-- 'append(out, xs...)' of records to a row of the call's own, at a step of a region -/
theorem wp_appendL_F {α : Type} {k : Nat} {enc : α → List Value} {ok : α → Prop} {z : Value} {by' : Nat} {P : Program} {w : World} {o : Oper} {act : Act} {K : Act → World → Prop} {Q : Exit → Act → World → Prop} (s x : Operand) (t e : TypeId)
    (ho : o.op = .call { callee := .builtin .append, args := #[s, x], argTypes := #[t, t] }) (ht : P.underlying t = some (.slice e)) (hinfo : (P.info? e).map (fun i => (i.zero, i.size, i.bytes)) = some (some z, k, by'))
    (hzs : z.cells.size = k) (hk : 0 < k) (hby : by' ≤ 128) (hone : ∀ y : α, ∀ u ∈ enc y, u.oneCell' = true)
    (base : Nat) (a : Option Addr) (n c : Nat) (l : List α) (hown : OwnF k enc ok e w base a n c l) (hs : act.eval s = .slice a n c) (a2 : Option Addr) (m c2 : Nat) (l2 : List α) (hx : act.eval x = .slice a2 m c2) (hsrc : Flats k enc ok w a2 m c2 l2)
    (hn : n ≤ 4194304) (hm : m ≤ 4194304) (hbase : base ≤ w.heap.size)
    (K' : ∀ a' c' w', OwnF k enc ok e w' base a' (n + m) c' (l ++ l2) → Below base w w' → w.grownBy w' (Value.slice a n c).ownBlock → K (act.put o.dst (.slice a' (n + m) c')) w') : o.wp P act w K Q := by
  obtain ⟨i, hi, hz0, hz1, hz2⟩ := info_parts hinfo
  obtain ⟨hown1, hok, hlen, henc⟩ := hown
  have hmul : ∀ q : List α, (q.flatMap enc).length = q.length * k := fun q => by
    induction q with
    | nil => simp
    | cons y r ih => rw [List.flatMap_cons, List.length_append, ih, henc, List.length_cons, Nat.succ_mul, Nat.add_comm]
  cases a2 with
  | none =>
    obtain ⟨rfl, rfl⟩ := hsrc.nil rfl
    have hl2 : l2 = [] := List.length_eq_zero_iff.1 hsrc.len
    subst hl2
    have hrun := run_append_owned_none (P := P) (w := w) base t o.type e i k ht hi (.slice a n c) n _ hown1
    unfold Oper.wp
    simp [execOp, ho, resolve, invoke, builtin, hs, hx, hrun, Result.andThen]
    refine K' a c w ?_ (Below.refl _ _) (grownBy_refl _ _)
    rw [List.append_nil]; exact ⟨hown1, hok, hlen, henc⟩
  | some ad =>
    refine wp_append_own w s x t ho base e i z k by' ht hi hz0 hz1 hz2 hzs hk (.slice a n c) n _ hs hown1 ad m c2 (l2.flatMap enc) hx (by rw [hmul, hsrc.len]) ?_ ?_ (by unfold maxLen; omega) (Nat.le_trans (Nat.mul_le_mul_left (n + m) hby) (by omega)) hbase ?_
    · intro j u hj
      obtain ⟨x, h1, h2⟩ := flat_inv henc hk hj
      have hjm : j / k < m := by rw [← hsrc.len]; exact (List.getElem?_eq_some_iff.1 h1).1
      obtain ⟨b, off, he, _, hc⟩ := hsrc.pos.resolve_left (Nat.ne_of_gt (Nat.lt_of_le_of_lt (Nat.zero_le _) hjm))
      simp only [Option.some.injEq] at he
      subst he
      have e1 : (⟨b, off, none⟩ : Addr).add j = ⟨b, off + j, none⟩ := by by_cases h0 : j = 0 <;> simp [Addr.add, h0]
      have := hc _ x h1 _ u h2
      rw [Nat.add_assoc, Nat.mul_comm, Nat.div_add_mod] at this
      rw [e1]; exact this
    · intro u hu
      obtain ⟨y, _, hy⟩ := List.mem_flatMap.1 hu
      exact hone y u hy
    · intro v' w' hown' hg hnil
      have hform := Joins.ownsRow_forms hown'
      have hb : Below base w w' := (Below.refl _ _).grown hg hbase fun k hk => (hown1.lt k hk).1
      have hmap : l.flatMap enc ++ l2.flatMap enc = (l ++ l2).flatMap enc := (List.flatMap_append ..).symm
      have hw : ∀ y ∈ l ++ l2, ok y := fun y hy => by
        rcases List.mem_append.1 hy with h | h
        · exact hok y h
        · exact hsrc.wf y h
      have hll : (l ++ l2).length = n + m := by rw [List.length_append, hlen, hsrc.len]
      rw [hmap] at hown'
      rcases hform with ⟨hv, h0⟩ | ⟨g, cap, hv⟩
      · rw [hv] at hown' ⊢
        have h2 := K' none 0 w' (by rw [h0] at hown' hll ⊢; exact ⟨hown', hw, hll, henc⟩) hb hg
        rw [h0] at h2; exact h2
      · rw [hv] at hown' ⊢
        exact K' _ _ _ ⟨hown', hw, hll, henc⟩ hb hg
/-- append of states to a row, at a step of a region -/
theorem wp_appSL {w : World} {o : Oper} {act : Act} {K : Act → World → Prop} {Q : Exit → Act → World → Prop} (s x : Operand)
    (ho : o.op = .call { callee := .builtin .append, args := #[s, x], argTypes := #[31, 31] })
    (base b2 : Nat) (a : Option Addr) (n c : Nat) (l : List (QM × List Int)) (hown : SRow w base b2 a n c l) (hs : act.eval s = .slice a n c) (a2 : Option Addr) (m c2 : Nat) (l2 : List (QM × List Int)) (hx : act.eval x = .slice a2 m c2) (hsrc : Flats 1 encS (fun _ => True) w a2 m c2 l2) (hy : ∀ y ∈ l2, OwnI 2 w b2 y.1.a y.1.n y.1.c y.2)
    (hn : n ≤ 4194304) (hm : m ≤ 4194304) (hbase : base ≤ w.heap.size)
    (K' : ∀ a' c' w', SRow w' base b2 a' (n + m) c' (l ++ l2) → Below base w w' → Touch w w' 1 a → K (act.put o.dst (.slice a' (n + m) c')) w') : o.wp Tryz.prog act w K Q := by
  refine wp_appendL_F (k := 1) (enc := encS) (ok := fun _ => True) s x _ _ ho Tryz.underlying31 Tryz.infosl rfl (by decide) (by decide) encS_one base a n c l hown.row hs a2 m c2 l2 hx hsrc hn hm hbase ?_
  intro a' c' w' h1 h2 h3
  have ht : Touch w w' 1 a := ⟨_, h3, fun b e => ⟨by decide, own_block hown.row.1 b e⟩⟩
  refine K' a' c' w' ⟨h1, fun z hz => ?_⟩ h2 ht
  have hz' : OwnI 2 w b2 z.1.a z.1.n z.1.c z.2 := by
    rcases List.mem_append.1 hz with hz | hz
    · exact hown.each z hz
    · exact hy z hz
  exact hz'.keepT ht fun g e e' => typ_apart (fun {g} e => hz'.typ e) (fun {g} e => hown.row.typ e) (by decide) g e e'
/-- an empty row, laid first, before or behind a literal of one state -/
theorem SRow.e1 {w : World} {l2 : Nat} : SRow (w.alloc (.cells #[] 22)) w.heap.size l2 (some ⟨w.heap.size, 0, none⟩) 0 0 [] :=
  ⟨⟨World.ownsRow_lit w #[] 0 (Nat.le_refl _) (Nat.zero_le _) rfl, (fun _ h => by cases h), rfl, encS_len⟩, fun _ h => by cases h⟩
theorem SRow.e2 {w : World} {l2 : Nat} {o : Obj} : SRow ((w.alloc (.cells #[] 22)).alloc o) w.heap.size l2 (some ⟨w.heap.size, 0, none⟩) 0 0 [] :=
  SRow.e1.keep ((Below.refl _ _).alloc (Nat.le_refl _) _)
theorem SRow.e3 {w : World} {l2 : Nat} {o : Obj} : SRow ((w.alloc o).alloc (.cells #[] 22)) w.heap.size l2 (some ⟨w.heap.size + 1, 0, none⟩) 0 0 [] := by
  have h := (SRow.e1 (w := w.alloc o) (l2 := l2)).le (lo' := w.heap.size) (l2' := l2) (by simp) (Nat.le_refl _)
  simpa using h
theorem SRow.lit {w : World} {R : QM} {v : List Int} {l2 : Nat} (hy : OwnI 2 w l2 R.a R.n R.c v) : SRow (w.alloc (.cells #[.slice R.a R.n R.c] 22)) w.heap.size l2 (some ⟨w.heap.size, 0, none⟩) 1 1 [(R, v)] :=
  ⟨OwnF.lit w [(R, v)] (Nat.le_refl _) rfl (by decide) encS_len (fun _ _ => trivial) rfl, fun x hx => by
    simp at hx; rw [hx]; exact hy.keep ((Below.refl _ _).alloc (Nat.le_refl _) _)⟩
theorem SRow.tail {w : World} {lo l2 n c p : Nat} {a : Option Addr} {l : List (QM × List Int)} (h : SRow w lo l2 a n c l) (hp : p ≤ n) : Flats 1 encS (fun _ => True) w (if c = p then a else Option.map (fun x => x.add p) a) (n - p) (c - p) (l.drop p) := by
  have h1 := h.row.flats.part (lo := p) (hi := n) hp (Nat.le_refl _)
  rw [show (l.drop p).take (n - p) = l.drop p from List.take_of_length_le (by rw [List.length_drop, h.len]; exact Nat.le_refl _), Nat.mul_one] at h1
  exact h1
theorem Flats.lit1 {w : World} {a : Option Addr} {n c : Nat} {v : List Int} : Flats 1 encS (fun _ => True) (w.alloc (.cells #[.slice a n c] 22)) (some ⟨w.heap.size, 0, none⟩) 1 1 [(⟨a, n, c⟩, v)] :=
  lit_flats w 22 ([((⟨a, n, c⟩ : QM), v)] : List (QM × List Int)) #[.slice a n c] encS_len (by decide) rfl (fun _ _ => trivial)
theorem SRow.keepA {w w' : World} {lo l2 n' : Nat} {a a' : Option Addr} {n c : Nat} {l : List (QM × List Int)} (h : SRow w lo l2 a n c l) (ht : Touch w w' n' a') (ty : ∀ {g : Nat}, a' = some ⟨g, 0, none⟩ → ∃ cur, w.heap[g]? = some (.cells cur 22 (0, 0))) (hap : ∀ g, a = some ⟨g, 0, none⟩ → a' = some ⟨g, 0, none⟩ → False) : SRow w' lo l2 a n c l :=
  ⟨h.row.keepT ht hap, fun x hx => (h.each x hx).keepT ht fun g e e' => typ_apart (fun {g} e => (h.each x hx).typ e) ty (by decide) g e e'⟩
theorem Touch.undrew {w w' : World} {n : Nat} {a : Option Addr} (h : Touch w.drew w' n a) : Touch w w' n a := by
  obtain ⟨r, hg, hr⟩ := h
  exact ⟨r, ⟨hg.os, hg.tape, hg.output, hg.size, hg.block⟩, hr⟩
theorem lit_keepE {wE wn : World} {a : Option Addr} {n c : Nat} {v : List Int} {base l2 g i : Nat} (hi : i = wE.heap.size) (hE : SRow wE base l2 (some ⟨g, 0, none⟩) 0 0 []) (hy : OwnI 2 wE l2 a n c v) (ht : Touch (wE.alloc (.cells #[.slice a n c] 22)) wn 1 (some ⟨g, 0, none⟩)) : SRow wn i l2 (some ⟨i, 0, none⟩) 1 1 [(⟨a, n, c⟩, v)] := by
  subst hi
  have hE' := hE.keep ((Below.refl _ _).alloc (Nat.le_refl _) (.cells #[.slice a n c] 22))
  have hg := (hE.row.blk g rfl).2
  exact (SRow.lit (R := ⟨a, n, c⟩) hy).keepA ht (fun e => hE'.row.typ e) (fun g' e e' => by simp at e e'; omega)
theorem lit_keepF {w wn : World} {a : Option Addr} {n c : Nat} {v : List Int} {l2 : Nat} (hy : OwnI 2 w l2 a n c v) (ht : Touch ((w.alloc (.cells #[.slice a n c] 22)).alloc (.cells #[] 22)) wn 1 (some ⟨w.heap.size + 1, 0, none⟩)) : SRow wn w.heap.size l2 (some ⟨w.heap.size, 0, none⟩) 1 1 [(⟨a, n, c⟩, v)] := by
  have h := (SRow.lit (R := ⟨a, n, c⟩) hy).keep (w' := (w.alloc (.cells #[.slice a n c] 22)).alloc (.cells #[] 22)) ((Below.refl _ _).alloc (Nat.le_refl _) _)
  exact h.keepA ht (fun e => (SRow.e3 (l2 := l2)).row.typ e) (fun g e e' => by simp at e e'; omega)
set_option maxHeartbeats 4000000 in
theorem spec_l20Insert {lo l2 n c m vn vc : Nat} {a va : Option Addr} {l : List (QM × List Int)} {v : List Int} {w : World} (hL : SRow w lo l2 a n c l) (hV : OwnI 2 w l2 va vn vc v) (hA : AscS m (l.map (·.2))) (hvm : v.length = m) (hm : m ≤ 1048576) (hn : n ≤ 1048576) (hno : v ∉ l.map (·.2)) :
    Calls Tryz.prog 94 #[.slice a n c, .slice va vn vc] w fun e w' => ∃ (p : Nat) (a' : Option Addr) (c' : Nat), e = .returned (.slice a' (n + 1) c') ∧ Plc (l.map (·.2)) v p ∧ SRow w' w.heap.size l2 a' (n + 1) c' (l.take p ++ [(⟨va, vn, vc⟩, v)] ++ l.drop p) ∧ Below w.heap.size w w' := by
  have K1 := Lib.hid (spec_l20Place hL hV.ints hA hvm hm hn)
  have HL := Lib.hid hL
  have HV := Lib.hid hV
  have HNO := Lib.hid (show decide (v ∈ l.map (·.2)) = false from decide_eq_false hno)
  have hlen := hL.len
  have hcap := hL.row.flats.cap
  clear hL hV hA hvm hno
  go_enter Tryz.func94, Tryz.ntmps94
  go_wp2_with fail
  refine Calls.mono K1.out ?_
  rintro e w1 ⟨p, rfl, hp, hb1⟩
  rw [HNO.out]
  have hpn : p ≤ n := by have := hp.1; rw [List.length_map, hlen] at this; exact this
  have HP := Lib.hid hp
  have L1 := Lib.hid (HL.out.keep hb1)
  have V1 := Lib.hid (HV.out.keep hb1)
  have hs1 := hb1.size
  have HB1 := Lib.hid hb1
  have hp0 : (0 : Int) ≤ (p : Int) := by omega
  have hpn' : (p : Int) ≤ (n : Int) := by omega
  have hpc : (p : Int) ≤ (c : Int) := by omega
  have hnc : (n : Int) ≤ (c : Int) := by omega
  clear hp hb1 K1
  go_wp2_with fail
  go_region_held3 (fun wx => Below w1.heap.size w1 wx) (((try go_split_ands); exact bel)) (first
    | (have hq22 := S22; refine wp_appSL _ _ rfl w1.heap.size l2 _ _ _ _ ((S22.out _ (by omega)).keep bel) rfl _ _ _ (l.drop p) rfl ((L1.out.keep bel).tail hpn) (fun y hy => (L1.out.each y (List.mem_of_mem_drop hy)).keep bel) (by omega) (by omega) ((show Below w1.heap.size w1 _ from bel).size) ?_; intro a26 c26 w26 ho26 hb26 ht26; have S26 := Lib.hid (show SRow w26 w1.heap.size l2 a26 (n + 1) c26 (l.take p ++ [((⟨va, vn, vc⟩ : QM), v)] ++ l.drop p) from (by have e : p + 1 + (n - p) = n + 1 := (by omega); simpa [e] using ho26)); have hk26 : Below w1.heap.size w1 w26 := Below.trans bel hb26)
    | (have hq19 := S19; refine wp_appSL _ _ rfl w1.heap.size l2 _ _ _ _ ((S19.out _ (by omega)).keep bel) rfl _ _ _ [(⟨va, vn, vc⟩, v)] rfl (by first | exact HLIT.out.row.flats | (have hh := (HLIT.out.keep bel).row.flats; simpa using hh) | exact Flats.lit1) (fun y hy => by simp at hy; rw [hy]; exact V1.out.keep bel) (by omega) (by omega) ((show Below w1.heap.size w1 _ from bel).size) ?_; intro a22 c22 w22 ho22 hb22 ht22; have S22 := Lib.hid (show ∀ k, k = p + 1 → SRow w22 w1.heap.size l2 a22 k c22 (l.take p ++ [((⟨va, vn, vc⟩ : QM), v)]) from (by intro k hk; rw [hk]; simpa using ho22)); have hk22 : Below w1.heap.size w1 w22 := Below.trans bel hb22)
    | (refine wp_appSL _ _ rfl w1.heap.size l2 _ _ _ [] (SRow.e1.keep (w := w1.alloc (.cells #[] 22)) (by first | exact Below.refl _ _ | exact (Below.refl _ _).drew | exact (below_allocS (Below.refl _ _) _).drew | exact below_allocS ((Below.refl _ _).drew) _)) rfl _ _ _ (l.take p) rfl ((L1.out.row.flats.keep bel).take hpn) (fun y hy => (L1.out.each y (List.mem_of_mem_take hy)).keep bel) (by omega) (by omega) ((show Below w1.heap.size w1 _ from bel).size) ?_; intro a19 c19 w19 ho19 hb19 ht19; have S19 := Lib.hid (show ∀ k, k = p → SRow w19 w1.heap.size l2 a19 k c19 (l.take p) from (by intro k hk; rw [hk]; simpa using ho19)); (try (have HLIT := Lib.hid (lit_keepE (wE := w1.alloc (.cells #[] 22)) (i := w1.heap.size + 1) (by simp) (SRow.e1.keep (w := w1.alloc (.cells #[] 22)) (by first | exact Below.refl _ _ | exact (Below.refl _ _).drew | exact (below_allocS (Below.refl _ _) _).drew | exact below_allocS ((Below.refl _ _).drew) _)) (V1.out.keep bel) (Touch.undrew ht19)))); have hk19 : Below w1.heap.size w1 w19 := Below.trans bel hb19)
    | (refine wp_appSL _ _ rfl w1.heap.size l2 _ _ _ [] ((SRow.e3 (w := w1) (o := .cells #[.slice va vn vc] 22)).keep (by first | exact Below.refl _ _ | exact (Below.refl _ _).drew)) rfl _ _ _ (l.take p) rfl ((L1.out.row.flats.keep bel).take hpn) (fun y hy => (L1.out.each y (List.mem_of_mem_take hy)).keep bel) (by omega) (by omega) ((show Below w1.heap.size w1 _ from bel).size) ?_; intro a19 c19 w19 ho19 hb19 ht19; have S19 := Lib.hid (show ∀ k, k = p → SRow w19 w1.heap.size l2 a19 k c19 (l.take p) from (by intro k hk; rw [hk]; simpa using ho19)); have HLIT := Lib.hid (lit_keepF V1.out (Touch.undrew ht19)); have hk19 : Below w1.heap.size w1 w19 := Below.trans bel hb19))
  all_goals
    go_split_ands
    go_wp2
    all_goals
      have hS26 := S26.out.le hs1 (Nat.le_refl _)
      go_ret
      exact ⟨p, a26, c26, by show Ending.returned (.slice a26 (p + 1 + (n - p)) c26) = _; rw [show p + 1 + (n - p) = n + 1 from by omega], HP.out, by simpa using hS26, below_callS HB1.out (by assumption)⟩
/-- block b is a search that has found the states of L; m values each -/
def SpSt (w : World) (lo b m : Nat) (L : List SN) (ov : Bool) : Prop :=
  ∃ (oa : Option Addr) (oc : Nat) (ta : Option Addr) (tc : Nat) (ka : Option Addr) (kc : Nat) (lo' lt lk : List (QM × List Int)),
    Blk w b #[.slice oa L.length oc, .slice ta L.length tc, .slice ka L.length kc, .bool ov] 93 ∧ lo ≤ b ∧
    SRow w lo lo oa L.length oc lo' ∧ SRow w lo lo ta L.length tc lt ∧ SRow w lo lo ka L.length kc lk ∧ (Apart oa ta ∧ Apart oa ka ∧ Apart ta ka) ∧
    lo'.map (·.2) = L.map (·.v) ∧ lt.map (·.2) = L.map (·.tr) ∧ AscS m (lk.map (·.2)) ∧ ∀ y, y ∈ lk.map (·.2) ↔ y ∈ L.map (·.v)
theorem SpSt.keep {w w' : World} {lo b m : Nat} {L : List SN} {ov : Bool} (h : SpSt w lo b m L ov) (hb : Below w.heap.size w w') : SpSt w' lo b m L ov := by
  obtain ⟨oa, oc, ta, tc, ka, kc, l1, l2, l3, h1, h2, h3, h4, h5, h6, h7⟩ := h
  exact ⟨oa, oc, ta, tc, ka, kc, l1, l2, l3, h1.keep hb, h2, h3.keep hb, h4.keep hb, h5.keep hb, h6, h7⟩
theorem SRow.typ {w : World} {lo l2 : Nat} {a : Option Addr} {n c : Nat} {l : List (QM × List Int)} (h : SRow w lo l2 a n c l) {g : Nat} (e : a = some ⟨g, 0, none⟩) : ∃ cur, w.heap[g]? = some (.cells cur 22 (0, 0)) := h.row.typ e
/-- what adding a state leaves -/
def addS (L : List SN) (x : SN) : List SN := if L.any (fun y => y.v == x.v) then L else if L.length = 4000 then L else L ++ [x]
def addO (L : List SN) (x : SN) : Bool := !(L.any fun y => y.v == x.v) && decide (L.length = 4000)
theorem addS_old {L : List SN} {x : SN} (h : L.any (fun y => y.v == x.v) = true) : addS L x = L ∧ addO L x = false := by rw [addS, addO, h]; exact ⟨rfl, rfl⟩
theorem addS_full {L : List SN} {x : SN} (h : L.any (fun y => y.v == x.v) = false) (hl : L.length = 4000) : addS L x = L ∧ addO L x = true := by rw [addS, addO, h, hl]; exact ⟨rfl, rfl⟩
theorem addS_new {L : List SN} {x : SN} (h : L.any (fun y => y.v == x.v) = false) (hl : L.length ≠ 4000) : addS L x = L ++ [x] ∧ addO L x = false := by rw [addS, addO, h]; simp [hl]

end Go.Proofs.YtkaikbaagajckaaGreat
