/- A region that draws its order and in which one operation changes what the loads before it read: operations that read nothing, at any time.; The join of two diagrams: the program, walked: a pair of references.; The join of two diagrams: the program, walked: the visit of a pair.; All lists of bits for which a diagram has the value 1: the program, walked. -/
import Derived.Test.YtkaikbaagajckaaGreatK08
import Derived.Test.YtkaikbaagajckaaGreatK07
import Derived.Test.YtkaikbaagajckaaGreatK09
import Derived.Deep.DrawnRows
import Derived.Test.YtkaikbaagajckaaGreatK02
namespace Go.Proofs.YtkaikbaagajckaaGreat
open Go.RowKit
set_option linter.unusedVariables false
set_option linter.unusedSimpArgs false
theorem cell_of_keep {w w' : World} {b o : Nat} {v : Value} (hb : Below w.heap.size w w') (h : w.cell? ⟨b, o, none⟩ = some v) : w'.cell? ⟨b, o, none⟩ = some v :=
  (hb.cell (p := ⟨b, o, none⟩) (World.block_lt_of_cell? w _ h)).trans h
section
variable {P : Program} {ops : Array Oper} {Q : Exit → Act → World → Prop} {md : Region.Mode} {S : World → Prop}
theorem wpAnyM_firstP {i L : Nat} {oi : Oper} {v : Value} (hi : ops[i]? = some oi) (hsel : ∀ (j : Nat) (o : Oper) cs b, ops[j]? = some o → o.op ≠ .select cs b) (hiL : i ≠ L)
    (hQ : ∀ c a w, Q (.panic c) (a.put oi.dst v) w → Q (.panic c) a w) :
    ∀ (fuel : Nat) (listed : Array Bool) (a : Act) (w : World), dcL md ops listed →
      (∀ j oj, ops[j]? = some oj → j ≠ i → listed.getD j true = false → (∀ e ∈ oj.after, Region.binds md e = true → e.on ≠ i) → oi.apart ops oj = true) →
      i ∈ Region.ready md ops listed → YieldsIf P ops (fun _ => True) oi v a → (listed.getD L true = false → S w) →
      wpAnyM P md ops Q S L fuel (listed.setIfInBounds i true) (a.put oi.dst v) w → wpAnyM P md ops Q S L (fuel + 1) listed a w := by
  intro fuel
  induction fuel with
  | zero =>
    intro listed a w _ _ hr hy hS H
    refine ⟨fun h => (by rw [h] at hr; cases hr), fun j hj => ?_⟩
    by_cases hji : j = i
    · subst hji; exact hy.wpOp hi trivial ⟨fun _ hl => hS hl, H⟩
    · have := ready_mono hj hji
      rw [H.1] at this
      cases this
  | succ fuel ih =>
    intro listed a w hdc hfree hr hy hS H
    refine ⟨fun h => (by rw [h] at hr; cases hr), fun j hj => ?_⟩
    by_cases hji : j = i
    · subst hji; exact hy.wpOp hi trivial ⟨fun _ hl => hS hl, H⟩
    · have hgL : (listed.setIfInBounds i true).getD L true = listed.getD L true := getD_set_ne true hiL
      have h1 := H.2 j (ready_mono hj hji)
      obtain ⟨hjun, oj, hoj, hall⟩ := mem_ready.1 hj
      have hnot : ∀ e ∈ oj.after, Region.binds md e = true → e.on ≠ i := fun e he hb heq => by
        have h1 := hall e he hb
        have h0 := (mem_ready.1 hr).1
        rw [heq] at h1
        rcases Nat.lt_or_ge i listed.size with h' | h'
        · simp [h'] at h0 h1; rw [h0] at h1; cases h1
        · simp [Array.getElem?_eq_none h'] at h1
      have h2 := wpOp_putIf hoj (hfree j oj hoj hji hjun hnot) (fun cs b => hsel i oi cs b hi) (fun cs b => hsel j oj cs b hoj) hQ hy h1
      have hfree' : ∀ k ok, ops[k]? = some ok → k ≠ i → (listed.setIfInBounds j true).getD k true = false →
          (∀ e ∈ ok.after, Region.binds md e = true → e.on ≠ i) → oi.apart ops ok = true := fun k ok hk hki hun hno => by
        refine hfree k ok hk hki ?_ hno
        by_cases hjk : j = k
        · subst hjk; exact hjun
        · rw [getD_set_ne true hjk] at hun; exact hun
      refine wpOp_mono (fun a' w' h3 => ⟨fun hjL hl => h3.2.1 hjL (by rw [hgL]; exact hl), ih (listed.setIfInBounds j true) a' w' (dcL_set hdc hj) hfree' (ready_mono hr (Ne.symm hji)) h3.1 ?_ ?_⟩) h2
      · intro hl
        by_cases hjL : j = L
        · subst hjL
          rcases Nat.lt_or_ge j listed.size with h' | h'
          · simp [h'] at hl
          · simp [Array.getElem?_eq_none h'] at hl
        · rw [getD_set_ne true hjL] at hl
          exact h3.2.1 hjL (by rw [hgL]; exact hl)
      · rw [Array.setIfInBounds_comm _ _ hji]
        exact h3.2.2
theorem wpAnyM_takeP {i L : Nat} {oi : Oper} {v : Value} {fuel : Nat} {listed : Array Bool} {a : Act} {w : World} (hi : ops[i]? = some oi) (hiL : i ≠ L) (hdc : dcB md ops listed = true)
    (hs : Region.noSelect ops = true) (hf : Region.free md ops listed i = true) (hr : (Region.ready md ops listed).contains i = true)
    (hQ : ∀ c a w, Q (.panic c) (a.put oi.dst v) w → Q (.panic c) a w) (hy : YieldsIf P ops (fun _ => True) oi v a) (hS : listed.getD L true = false → S w)
    (h : wpAnyM P md ops Q S L fuel (listed.setIfInBounds i true) (a.put oi.dst v) w) : wpAnyM P md ops Q S L (fuel + 1) listed a w :=
  wpAnyM_firstP hi (Region.noSelect_spec hs) hiL hQ fuel listed a w (dcB_spec hdc) (Region.free_spec hi hf) (by simpa using hr) hy hS h
theorem tkP0 (i : Nat) {L : Nat} {oi : Oper} {v : Value} {fuel : Nat} {listed : Array Bool} {a : Act} {w : World} (hy : ∀ w, True → (execOp a.eval oi).run P w = .ok (.value v) w) (h : wpAnyM P md ops Q S L fuel (listed.setIfInBounds i true) (a.put oi.dst v) w)
    (hi : ops[i]? = some oi := by simp only [List.getElem?_toArray, List.getElem?_cons_succ, List.getElem?_cons_zero] <;> rfl) (hiL : i ≠ L := by decide) (hdc : dcB md ops listed = true := by kernel_rfl) (hs : Region.noSelect ops = true := by kernel_rfl) (hf : Region.free md ops listed i = true := by kernel_rfl) (hr : (Region.ready md ops listed).contains i = true := by kernel_rfl)
    (hw : Region.wanted oi (yielded ops a.tmps) = true := by rfl)
    (hQ : ∀ c a w, Q (.panic c) (a.put oi.dst v) w → Q (.panic c) a w := by exact fun _ _ _ h => h) (hS : listed.getD L true = false → S w := by first | exact (fun _ => by assumption) | exact (fun h => by cases h)) : wpAnyM P md ops Q S L (fuel + 1) listed a w :=
  wpAnyM_takeP hi hiL hdc hs hf hr hQ (Or.inl ⟨hw, hy⟩) hS h
theorem tkP (i : Nat) {L : Nat} {oi : Oper} {v : Value} {fuel : Nat} {listed : Array Bool} {a : Act} {w : World} (h : wpAnyM P md ops Q S L fuel (listed.setIfInBounds i true) (a.put oi.dst v) w)
    (hi : ops[i]? = some oi := by simp only [List.getElem?_toArray, List.getElem?_cons_succ, List.getElem?_cons_zero] <;> rfl) (hiL : i ≠ L := by decide) (hdc : dcB md ops listed = true := by kernel_rfl) (hs : Region.noSelect ops = true := by kernel_rfl) (hf : Region.free md ops listed i = true := by kernel_rfl) (hr : (Region.ready md ops listed).contains i = true := by kernel_rfl)
    (hw : Region.wanted oi (yielded ops a.tmps) = true := by rfl)
    (hy : ∀ w, True → (execOp a.eval oi).run P w = .ok (.value v) w := by intro wv hSw; clear hSw; go_simp; try with_reducible rfl) (hQ : ∀ c a w, Q (.panic c) (a.put oi.dst v) w → Q (.panic c) a w := by exact fun _ _ _ h => h) (hS : listed.getD L true = false → S w := by first | exact (fun _ => by assumption) | exact (fun h => by cases h)) : wpAnyM P md ops Q S L (fuel + 1) listed a w :=
  wpAnyM_takeP hi hiL hdc hs hf hr hQ (Or.inl ⟨hw, hy⟩) hS h
end
end Go.Proofs.YtkaikbaagajckaaGreat
namespace Go.Proofs.YtkaikbaagajckaaGreat
open Go.RowKit
set_option linter.unusedVariables false
set_option linter.unusedSimpArgs false
attribute [local go_sem ↓] Go.wp_at_zero Go.wp_at_succ
instance I2.dec : DecidableEq I2 := fun x y =>
  if h : x.a = y.a ∧ x.b = y.b then .isTrue (by cases x; cases y; obtain ⟨h1, h2⟩ := h; simp only at h1 h2; subst h1 h2; rfl)
  else .isFalse (fun e => h (by subst e; exact ⟨rfl, rfl⟩))
def encK2 (x : I2) : Value := .agg #[.int .i64 x.a, .int .i64 x.b]
def litK2 (x : I2) : Lit := .string (keyBytes [.int .i64 x.a, .int .i64 x.b])
theorem key2_at {P : Program} {Kt I m : Nat} (hu : P.underlying Kt = some (.array 2 I)) (hI : P.underlying I = some (.int .i64)) (hk : P.keyType Kt = true) (hm : P.types.size = m + 1) (hc : P.cellsOf Kt = 2) (hcI : P.cellsOf I = 1) (x : I2) (h : x.ok) : keyOf P Kt (encK2 x) = some (litK2 x) := by
  have h1 := h.1.wf
  have h2 := h.2.wf
  simp [keyOf, hu, hk, encK2, Value.formed, hc, Program.keyLits, hm, Value.cells, hcI, hI, h1, h2, litK2, List.range_succ]
theorem Tryz.rowP : (182 : TypeId) < Tryz.prog.types.size := of_decide_eq_true (by kernel_rfl)
theorem Tryz.deepP : Tryz.prog.keyTypeAt 3 182 = true := by kernel_rfl
theorem keyedP : Maps.Keyed Tryz.prog 182 := Maps.Keyed.of_law (deep_law_laid Tryz.laidV (m := 3) (by omega) Tryz.rowP Tryz.deepP (by rw [Tryz.underlying182]))
theorem Tryz.cellsP : Tryz.prog.cellsOf 182 = 2 := by kernel_rfl
theorem Tryz.keyP : Tryz.prog.keyType 182 = true := by kernel_rfl
theorem keyP : KeyA 182 encK2 I2.ok litK2 := ⟨keyedP, fun x h => by
  obtain ⟨m, hm⟩ : ∃ m, Tryz.prog.types.size = m + 1 := ⟨Tryz.prog.types.size - 1, by have := Tryz.someTypes; omega⟩
  exact key2_at Tryz.underlying182 Tryz.underlying2 Tryz.keyP hm Tryz.cellsP Tryz.cellsI x h, fun x y h => by
  simp [encK2] at h
  cases x; cases y; simp only at h; rw [h.1, h.2]⟩
theorem MapA.updL {α : Type} {Kt : TypeId} {enc : α → Value} {ok : α → Prop} {lit : α → Lit} [DecidableEq α] {w : World} {b n : Nat} {f : α → Option Int} (h : MapA Kt ok lit w b n f) (hK : KeyA Kt enc ok lit) {t : TypeId} (ht : Tryz.prog.underlying t = some (.map Kt 2)) (hn : n < maxLen) {x : α} (hx : ok x) {v : Int} (hv : I64 v)
    {o : Oper} {ops : Array Oper} {rest : List Oper} {act : Act} {Q : Exit → Act → World → Prop} (hgd : o.guard = none) (m y z : Operand) (hop : o.op = Op.mapUpdate t m y z) (hm : act.eval m = .map (some b)) (hy : act.eval y = enc x) (hz : act.eval z = .int .i64 v)
    (hk : ∀ w', MapA Kt ok lit w' b (n + 1) (fun y => if y = x then some v else f y) → w.grownBy w' (some b) → wpList Tryz.prog ops Q rest (act.put o.dst undef) w') : wpList Tryz.prog ops Q (o :: rest) act w :=
  wpList_plain hgd fun K hKK => h.wp hK ht hn hx hv m y z hop hm hy hz fun w' h1 h2 => hKK _ _ (hk w' h1 h2)
set_option maxHeartbeats 1000000 in
theorem impl_joined {j x y : Int} {w : World} (hx : x = 0 ∨ x = 1) (hy : y = 0 ∨ y = 1) : Calls Tryz.prog 138 #[.int .i64 j, .int .i64 x, .int .i64 y] w fun e w' => e = .returned (.int .i64 (jopN j x y)) ∧ w = w' := by
  by_cases h0 : j = 0
  · subst h0
    rcases hx with rfl | rfl <;> rcases hy with rfl | rfl
    all_goals
      go_enter Tryz.func138, Tryz.ntmps138
      go_wp2
      go_ret
      exact ⟨rfl, rfl⟩
  · have e0 : (j == 0) = false := by simpa using h0
    by_cases h1 : j = 1
    · subst h1
      rcases hx with rfl | rfl <;> rcases hy with rfl | rfl
      all_goals
        go_enter Tryz.func138, Tryz.ntmps138
        go_wp2
        go_ret
        exact ⟨rfl, rfl⟩
    · have e1 : (j == 1) = false := by simpa using h1
      have HJ := Lib.hid (show ∀ x y : Int, jopN j x y = if xor (x == 1) (y == 1) = true then 1 else 0 from fun x y => by rw [jopN, bopN, if_neg h0, if_neg h1])
      clear h0 h1
      rcases hx with rfl | rfl <;> rcases hy with rfl | rfl
      all_goals
        go_enter Tryz.func138, Tryz.ntmps138
        go_wp2
        go_ret
        exact ⟨by rw [HJ.out]; rfl, rfl⟩
set_option maxHeartbeats 2000000 in
theorem impl_children {a : Option Addr} {n c : Nat} {L : List I3} {inp root r input : Int} {w : World} (hI : F3 w a n c L) (hn : n ≤ 4190000) (hr : RefB r L.length) (hin : r < 2 → inp ≠ input) :
    Calls Tryz.prog 140 #[.agg #[.int .i64 inp, .slice a n c, .int .i64 root], .int .i64 r, .int .i64 input] w fun e w' => e = .returned (.tuple #[.int .i64 (chN inp L r input).1, .int .i64 (chN inp L r input).2]) ∧ Below w.heap.size w w' := by
  have hb0 : Below w.heap.size w (w.alloc (.cells #[.int .i64 inp, .slice a n c, .int .i64 root] 40)) := bel
  have X := Lib.hid (Blk.made w #[.int .i64 inp, .slice a n c, .int .i64 root] 40)
  have HC := Lib.hid (impl_inputOf (inp := inp) (root := root) (hI.keep hb0) hn hr)
  by_cases hl : lvlN inp L r = input
  · have h2 : ¬ r < 2 := fun h => by
      rw [lvl_low h] at hl
      exact hin h hl
    obtain ⟨k, rfl⟩ : ∃ k : Nat, r = (k : Int) + 2 := ⟨(r - 2).toNat, by omega⟩
    have hkn : k < n := by rw [← hI.len]; have := hr.2; omega
    obtain ⟨b, off, x, rfl, hb, hx, hwf, hc0, hc1, hc2⟩ := F3.get hI hkn
    have hk0 : (0 : Int) ≤ (k : Int) := by omega
    have hkn' : (k : Int) < (n : Int) := by omega
    have i1 : IntKind.i64.wrap ((k : Int) + 2 - 2) = (k : Int) := by rw [IntWalk.i64_in _ (by omega)]; omega
    have HX := Lib.hid (ch_node (n := inp) hx (show x.a = input by rw [← hl, lvl_node hx]))
    have HL := Lib.hid hl
    have e1 : (input != input) = false := by simp
    clear hl hx hin hI
    go_enter Tryz.func140, Tryz.ntmps140
    go_wp2_with fail
    refine Calls.mono HC.out ?_
    rintro e w1 ⟨rfl, hb1⟩
    rw [HL.out]
    have x1 := (X.out.keep hb1).cell 1
    have xl := (X.out.keep hb1).lt
    simp only [List.getElem?_toArray, List.getElem?_cons_succ, List.getElem?_cons_zero] at x1
    have hb01 := below_callS hb0 hb1
    have c0 := cell_of_keep hb01 hc0
    have c1 := cell_of_keep hb01 hc1
    have c2 := cell_of_keep hb01 hc2
    have bl := Nat.lt_of_lt_of_le hb hb01.size
    go_wp2_with fail
    go_quiet (fail)
    have hbe := below_drewN (below_alloc1 hb01 (.cells #[.int .i64 x.a, .int .i64 x.b, .int .i64 x.c] 117)) nq
    go_wp2
    go_ret2
    exact ⟨by rw [HX.out]; rfl, hbe⟩
  · have HF := Lib.hid (show chN inp L r input = (r, r) from ch_skip (.inl hl))
    have e1 : (lvlN inp L r == input) = false := by simpa using hl
    have e2 : (lvlN inp L r != input) = true := by simpa using hl
    clear hI hl hin
    go_enter Tryz.func140, Tryz.ntmps140
    go_wp2_with fail
    refine Calls.mono HC.out ?_
    rintro e w1 ⟨rfl, hb1⟩
    go_wp2
    go_ret2
    exact ⟨by rw [HF.out]; rfl, below_callS hb0 hb1⟩
end Go.Proofs.YtkaikbaagajckaaGreat
namespace Go.Proofs.YtkaikbaagajckaaGreat
open Go.RowKit
set_option linter.unusedVariables false
set_option linter.unusedSimpArgs false
attribute [local go_sem ↓] Go.wp_at_zero Go.wp_at_succ
theorem blk_map_ne {w : World} {b m : Nat} {cs : Array Value} {T : TypeId} (h : Blk w b cs T) (hm : ∃ es clock, w.heap[m]? = some (.map es clock)) : b ≠ m := fun e => by
  obtain ⟨es, cl, hm⟩ := hm
  rw [Blk, e, hm] at h
  cases h
theorem blk_typ_ne {w : World} {b p : Nat} {cs cs' : Array Value} {T T' : TypeId} (h : Blk w b cs T) (h' : Blk w p cs' T') (hT : T ≠ T') : b ≠ p := fun e => by
  rw [Blk] at h h'
  rw [e, h'] at h
  simp only [Option.some.injEq, Obj.cells.injEq] at h
  exact hT h.2.1.symm
/-- the box of the visit, and all that it has caught -/
abbrev vFun (bJ bM bA bB bF bV : Nat) : Value := .func (.func 137) #[] #[.pointer (some ⟨bJ, 0, none⟩), .pointer (some ⟨bM, 0, none⟩), .pointer (some ⟨bA, 0, none⟩), .pointer (some ⟨bB, 0, none⟩), .pointer (some ⟨bF, 0, none⟩), .pointer (some ⟨bV, 0, none⟩)]
/-- what the program's walk over two diagrams has at hand -/
structure JnW (w : World) (lo bJ bM mm bA bB bF p mb bV : Nat) (j n : Int) (aA aB : Option Addr) (cA cB : Nat) (A B : List I3) (rA rB : Int) (L : List I3) (M : Mem) : Prop where
  jx : Blk w bJ #[.int .i64 j] 2
  m : Blk w bM #[.map (some mm)] 178
  pl : ∃ cnt S, MapA 182 I2.ok litK2 w mm cnt (fun x => M x.a x.b) ∧ JnK A B L M S ∧ cnt ≤ S.length
  a : Blk w bA #[.int .i64 n, .slice aA A.length cA, .int .i64 rA] 40
  b : Blk w bB #[.int .i64 n, .slice aB B.length cB, .int .i64 rB] 40
  f : Blk w bF #[.pointer (some ⟨p, 0, none⟩)] 101
  fo : ∃ na nc mn, ForA w lo p mb n na nc mn L
  v : Blk w bV #[vFun bJ bM bA bB bF bV] 179
  nA : F3 w aA A.length cA A
  nB : F3 w aB B.length cB B
  inv : JnI j n A B L M
  lows : lo ≤ w.heap.size ∧ lo ≤ mm ∧ mm ≠ mb
  lA : A.length = 0 ∨ ∀ g off, aA = some ⟨g, off, none⟩ → g < lo
  lB : B.length = 0 ∨ ∀ g off, aB = some ⟨g, off, none⟩ → g < lo
section
variable {w w' : World} {lo bJ bM mm bA bB bF p mb bV : Nat} {j n : Int} {aA aB : Option Addr} {cA cB : Nat} {A B : List I3} {rA rB : Int} {L : List I3} {M : Mem}
theorem JnW.keep (h : JnW w lo bJ bM mm bA bB bF p mb bV j n aA aB cA cB A B rA rB L M) (hb : Below w.heap.size w w') : JnW w' lo bJ bM mm bA bB bF p mb bV j n aA aB cA cB A B rA rB L M := by
  obtain ⟨cnt, S, h1, h2, h3⟩ := h.pl
  obtain ⟨na, nc, mn, h4⟩ := h.fo
  exact ⟨h.jx.keep hb, h.m.keep hb, ⟨cnt, S, h1.keep hb, h2, h3⟩, h.a.keep hb, h.b.keep hb, h.f.keep hb, ⟨na, nc, mn, h4.keep hb⟩, h.v.keep hb, h.nA.keep hb, h.nB.keep hb, h.inv, ⟨Nat.le_trans h.lows.1 hb.size, h.lows.2⟩, h.lA, h.lB⟩
end
set_option maxRecDepth 100000 in
set_option maxHeartbeats 2000000 in
theorem impl_join_low {f lo bJ bM mm bA bB bF p mb bV : Nat} {j n : Int} {aA aB : Option Addr} {cA cB : Nat} {A B : List I3} {rA rB : Int} {L : List I3} {M : Mem} {w : World} {a b : Int} (hW : JnW w lo bJ bM mm bA bB bF p mb bV j n aA aB cA cB A B rA rB L M) (ha : RefB a A.length) (hb : RefB b B.length) (h : a < 2 ∧ b < 2) :
    Calls Tryz.prog 137 #[.int .i64 a, .int .i64 b, .pointer (some ⟨bJ, 0, none⟩), .pointer (some ⟨bM, 0, none⟩), .pointer (some ⟨bA, 0, none⟩), .pointer (some ⟨bB, 0, none⟩), .pointer (some ⟨bF, 0, none⟩), .pointer (some ⟨bV, 0, none⟩)] w fun e w' => e = .returned (.int .i64 (jnF j n A B f (L, M) a b).2.2) ∧ JnW w' lo bJ bM mm bA bB bF p mb bV j n aA aB cA cB A B rA rB (jnF j n A B f (L, M) a b).1 (jnF j n A B f (L, M) a b).2.1 ∧ Below lo w w' := by
  have HJ := Lib.hid (jn_low (j := j) (n := n) (A := A) (B := B) f (L, M) h)
  have HW := Lib.hid hW
  have j0 := hW.jx.cell 0
  have jl := hW.jx.lt
  simp at j0
  have h1 := h.1
  have h2 := h.2
  have ha0 := ha.1
  have hb0 := hb.1
  clear hW ha hb h
  go_enter Tryz.func137, Tryz.ntmps137
  go_wp2_with fail
  go_wp2_with fail
  refine Calls.mono ((impl_joined (j := j) (by omega) (by omega))) ?_
  rintro e _ ⟨rfl, rfl⟩
  go_wp2
  go_ret
  exact ⟨by rw [HJ.out]; rfl, by rw [HJ.out]; exact HW.out, Below.refl _ _⟩
set_option maxRecDepth 100000 in
set_option maxHeartbeats 2000000 in
theorem impl_join_old {f lo bJ bM mm bA bB bF p mb bV : Nat} {j n : Int} {aA aB : Option Addr} {cA cB : Nat} {A B : List I3} {rA rB : Int} {L : List I3} {M : Mem} {w : World} {a b r : Int} (hW : JnW w lo bJ bM mm bA bB bF p mb bV j n aA aB cA cB A B rA rB L M) (ha : I64 a) (hb : I64 b) (h : ¬ (a < 2 ∧ b < 2)) (hr : M a b = some r) :
    Calls Tryz.prog 137 #[.int .i64 a, .int .i64 b, .pointer (some ⟨bJ, 0, none⟩), .pointer (some ⟨bM, 0, none⟩), .pointer (some ⟨bA, 0, none⟩), .pointer (some ⟨bB, 0, none⟩), .pointer (some ⟨bF, 0, none⟩), .pointer (some ⟨bV, 0, none⟩)] w fun e w' => e = .returned (.int .i64 (jnF j n A B (f + 1) (L, M) a b).2.2) ∧ JnW w' lo bJ bM mm bA bB bF p mb bV j n aA aB cA cB A B rA rB (jnF j n A B (f + 1) (L, M) a b).1 (jnF j n A B (f + 1) (L, M) a b).2.1 ∧ Below lo w w' := by
  have HJ := Lib.hid (jn_old (j := j) (n := n) (A := A) (B := B) f (L, M) h hr)
  have HW := Lib.hid hW
  have m0 := hW.m.cell 0
  have ml := hW.m.lt
  simp at m0
  obtain ⟨cnt, S, hpl, _, _⟩ := hW.pl
  have hl := hpl.look keyP Tryz.underlying178 (x := ⟨a, b⟩) ⟨ha, hb⟩ true
  simp only [hr] at hl
  have hlk := (show (Instr.lookup 178 (.map (some mm)) (.agg #[.int .i64 a, .int .i64 b]) true).run Tryz.prog w = .ok (.tuple #[.int .i64 r, .bool true]) w from hl)
  have hcase : ¬ a < 2 ∨ (a < 2 ∧ ¬ b < 2) := by omega
  clear hW hpl hl hr h
  rcases hcase with h1 | ⟨h1, h2⟩
  · go_enter Tryz.func137, Tryz.ntmps137
    go_wp2
    go_ret
    exact ⟨by rw [HJ.out]; rfl, by rw [HJ.out]; exact HW.out, Below.refl _ _⟩
  · go_enter Tryz.func137, Tryz.ntmps137
    go_wp2
    go_ret
    exact ⟨by rw [HJ.out]; rfl, by rw [HJ.out]; exact HW.out, Below.refl _ _⟩
end Go.Proofs.YtkaikbaagajckaaGreat
namespace Go.Proofs.YtkaikbaagajckaaGreat
open Go.RowKit
set_option linter.unusedVariables false
set_option linter.unusedSimpArgs false
attribute [local go_sem ↓] Go.wp_at_zero Go.wp_at_succ
theorem enc1_one9 (y : Int) : ∀ u ∈ enc1 y, u.oneCell' = true := fun u hu => by simp [enc1] at hu; subst hu; rfl
theorem own_lit9 {w : World} {T : TypeId} {z : Int} (hz : I64 z) : OwnI T (w.alloc (.cells #[.int .i64 z] T)) w.heap.size (some ⟨w.heap.size, 0, none⟩) 1 1 [z] :=
  OwnF.i1 (OwnF.lit w [z] (Nat.le_refl _) rfl (by decide) (fun _ => rfl) (fun y hy => by simp at hy; rw [hy]; exact hz) rfl)
theorem lit9_of {w w0 : World} {B : Nat} {T : TypeId} {z : Int} (_ : Below B w0 (w.alloc (.cells #[.int .i64 z] T))) (hz : I64 z) : OwnI T (w.alloc (.cells #[.int .i64 z] T)) w.heap.size (some ⟨w.heap.size, 0, none⟩) 1 1 [z] := own_lit9 hz
theorem lit9_ofd {w w0 : World} {B : Nat} {T : TypeId} {z : Int} (_ : Below B w0 (w.alloc (.cells #[.int .i64 z] T)).drew) (hz : I64 z) : OwnI T (w.alloc (.cells #[.int .i64 z] T)).drew w.heap.size (some ⟨w.heap.size, 0, none⟩) 1 1 [z] := (own_lit9 hz).keep (Below.refl _ _).drew
theorem OwnI.al9 {E : TypeId} {w w0 : World} {o : Obj} {B base : Nat} {a : Option Addr} {n c : Nat} {l : List Int} (h : OwnI E w base a n c l) (_ : Below B w0 (w.alloc o)) : OwnI E (w.alloc o) base a n c l := h.keep ((Below.refl _ _).alloc (Nat.le_refl _) o)
theorem ls_zero (n : Int) (L : List I3) (k : Nat) : lsN n L k 0 = [] := by cases k <;> simp [lsN]
theorem ls_next {n : Nat} {L : List I3} {k m : Nat} {r : Int} (h : r ≠ 0) (hm : m + (k + 1) = n) : lsN (n : Int) L (k + 1) r = (lsN (n : Int) L k (chN (n : Int) L r (m : Int)).1).map (0 :: ·) ++ (lsN (n : Int) L k (chN (n : Int) L r (m : Int)).2).map (1 :: ·) := by
  rw [lsN, if_neg h, show (n : Int) - ((k : Int) + 1) = (m : Int) by omega]
theorem SRow.setB9 {w : World} {lo l2 b : Nat} {a : Option Addr} {n c : Nat} {l : List (QM × List Int)} {cs : Array Value} {T : TypeId} (h : SRow w lo l2 a n c l) (hB : Blk w b cs T) (h1 : T ≠ 22) (h2 : T ≠ 2) (j : Nat) (u : Value) : SRow (w.setCell ⟨b, j, none⟩ u) lo l2 a n c l :=
  h.keepG (set_grown b j u) fun cur E e => by
    rw [Blk] at hB
    rw [hB] at e
    simp only [Option.some.injEq, Obj.cells.injEq] at e
    rw [← e.2.1]
    exact ⟨h1, h2⟩
abbrev lFun (bD bO bV : Nat) : Value := .func (.func 174) #[] #[.pointer (some ⟨bD, 0, none⟩), .pointer (some ⟨bO, 0, none⟩), .pointer (some ⟨bV, 0, none⟩)]
/-- what the walk over a diagram has at hand -/
structure LsW (w : World) (lo bD bO bV n : Nat) (aN : Option Addr) (cN : Nat) (N : List I3) (root : Int) (out : List (List Int)) : Prop where
  d : Blk w bD #[.int .i64 (n : Int), .slice aN N.length cN, .int .i64 root] 40
  v : Blk w bV #[lFun bD bO bV] 215
  o : ∃ a m c l, Blk w bO #[.slice a m c] 31 ∧ SRow w lo lo a m c l ∧ l.map (·.2) = out
  nN : F3 w aN N.length cN N
  lN : N.length = 0 ∨ ∀ g off, aN = some ⟨g, off, none⟩ → g < lo
  ob : lo ≤ bO
  low : lo ≤ w.heap.size
theorem LsW.keep {w w' : World} {lo bD bO bV n : Nat} {aN : Option Addr} {cN : Nat} {N : List I3} {root : Int} {out : List (List Int)} (h : LsW w lo bD bO bV n aN cN N root out) (hb : Below w.heap.size w w') : LsW w' lo bD bO bV n aN cN N root out := by
  obtain ⟨a, m, c, l, h1, h2, h3⟩ := h.o
  exact ⟨h.d.keep hb, h.v.keep hb, ⟨a, m, c, l, h1.keep hb, h2.keep hb, h3⟩, h.nN.keep hb, h.lN, h.ob, Nat.le_trans h.low hb.size⟩
theorem Blk.put8 {w : World} {b : Nat} {cs : Array Value} {T : TypeId} (h : Blk w b cs T) (i : Nat) (v : Value) : Blk (w.setCell ⟨b, i, none⟩ v) b (cs.setIfInBounds i v) T := heap_setCell_same w b i cs T v h
theorem blk_two {w : World} {b : Nat} {cs cs' : Array Value} {T T' : TypeId} (h : Blk w b cs T) (h' : Blk w b cs' T') (hT : T ≠ T') : False := by
  rw [Blk] at h h'
  rw [h] at h'
  simp only [Option.some.injEq, Obj.cells.injEq] at h'
  exact hT h'.2.1
theorem map_map_app (c : List Int) (x : Int) (L : List (List Int)) : (L.map (x :: ·)).map (c ++ ·) = L.map ((c ++ [x]) ++ ·) := by
  rw [List.map_map]; apply List.map_congr_left; intro y _; simp
set_option maxRecDepth 100000 in
set_option maxHeartbeats 8000000 in
theorem impl_lists_1 {lo bD bO bV n : Nat} {aN : Option Addr} {cN : Nat} {N : List I3} {root : Int} (hS : Snd (n : Int) N) (hn20 : n ≤ 20) (hN : N.length ≤ 4190000) :
    ∀ (k m : Nat) (r : Int) (c : List Int) (out : List (List Int)) (la : Option Addr) (lc : Nat) (w : World), LsW w lo bD bO bV n aN cN N root out → OwnI 2 w lo la m lc c → c.length = m → m + k = n → RefB r N.length → (m : Int) ≤ lvlN (n : Int) N r → out.length + (lsN (n : Int) N k r).length ≤ 4194304 →
    Calls Tryz.prog 174 #[.int .i64 r, .slice la m lc, .pointer (some ⟨bD, 0, none⟩), .pointer (some ⟨bO, 0, none⟩), .pointer (some ⟨bV, 0, none⟩)] w fun e w' => e = .returned (.tuple #[]) ∧ LsW w' lo bD bO bV n aN cN N root (out ++ (lsN (n : Int) N k r).map (c ++ ·)) ∧ StepW bO w w' ∧ Below lo w w' := by
  intro k
  induction k with
  | zero =>
    intro m r c out la lc w hW hO hcm hmk hr hl hlen
    have HW := Lib.hid hW
    have HO := Lib.hid hO
    have d0 := hW.d.cell 0
    have dl := hW.d.lt
    simp only [List.getElem?_toArray, List.getElem?_cons_zero] at d0
    have hlow := hW.low
    by_cases h0 : r = 0
    · subst h0
      clear hW hO hr
      go_enter Tryz.func174, Tryz.ntmps174
      go_wp2_with fail
      refine Calls.mono (impl_length_i64) ?_
      rintro e _ ⟨rfl, rfl⟩
      go_wp2
      exact bodyPost_end (by simp [results, Tryz.results174, go_sem]) rfl ⟨rfl, by rw [ls_zero, List.map_nil, List.append_nil]; exact HW.out, StepW.refl _ _, Below.refl _ _⟩
    · have HL := Lib.hid (show lsN (n : Int) N 0 r = [[]] by rw [lsN, if_neg h0])
      obtain ⟨a, q, cq, l, hB, hRow, hmap⟩ := hW.o
      have hq : q ≤ 4194304 := by
        have := hRow.len
        rw [HL.out, ← hmap, List.length_map] at hlen
        omega
      have o0 := hB.cell 0
      have ol := hB.lt
      have ofr := hB.free
      simp at o0
      have HB := Lib.hid hB
      have HR := Lib.hid hRow
      have HM := Lib.hid hmap
      have hmn : (m : Int) = (n : Int) := by omega
      have r0 : (r == 0) = false := by simpa using h0
      clear hW hO hr hB hRow hmap hlen hl
      go_enter Tryz.func174, Tryz.ntmps174
      go_wp2_with fail
      refine Calls.mono (impl_length_i64) ?_
      rintro e _ ⟨rfl, rfl⟩
      go_wp2_with (at_builtin; refine appS rfl _ _ rfl lo lo _ _ _ _ HR.out rfl _ rfl rfl (⟨la, m, lc⟩, c) HO.out _ rfl (by omega) (by omega) ?_; intro g2 oc2 w2 ho2 hb2 ht2 hat2 hs2; refine Hid.out ?_)
      have B2 := Lib.hid (HB.out.keepA ht2 (blk_ne HB.out (fun {g} e => HR.out.row.typ e) (by decide)))
      have O2 := Lib.hid ho2
      have ST2 := Lib.hid (StepW.touch (b := bO) HR.out ht2)
      have BL2 := Lib.hid hb2
      clear ho2 hb2 ht2 hat2 o0 ofr d0 dl ol
      have b2l := B2.out.lt
      have b2f := B2.out.free
      have b20 := B2.out.cell 0
      simp at b20
      have hob := HW.out.ob
      refine Lib.hid ?_
      go_wp2
      have hB3 := B2.out.put8 0 (.slice (some ⟨g2, 0, none⟩) (q + 1) oc2)
      have hST := ST2.out.trans (StepW.set bO w2 0 (.slice (some ⟨g2, 0, none⟩) (q + 1) oc2))
      have hBL := BL2.out.setCell (show lo ≤ (⟨bO, 0, none⟩ : Addr).block from hob) (.slice (some ⟨g2, 0, none⟩) (q + 1) oc2)
      refine bodyPost_end (by simp [results, Tryz.results174, go_sem]) rfl ⟨rfl, ?_, hST, hBL⟩
      rw [HL.out]
      exact ⟨HW.out.d.keepS hST (fun e => by have := HW.out.d; rw [e] at this; exact blk_two this HB.out (by decide)) (by decide), HW.out.v.keepS hST (fun e => by have := HW.out.v; rw [e] at this; exact blk_two this HB.out (by decide)) (by decide), ⟨_, _, _, _, hB3, O2.out.setB9 B2.out (by decide) (by decide) _ _, by rw [List.map_append, HM.out]; simp⟩, HW.out.nN.keepB hBL HW.out.lN, HW.out.lN, hob, by have := hBL.size; omega⟩
  | succ k ih =>
    intro m r c out la lc w hW hO hcm hmk hr hl hlen
    have HW := Lib.hid hW
    have HO := Lib.hid hO
    have d0 := hW.d.cell 0
    have d1 := hW.d.cell 1
    have d2 := hW.d.cell 2
    have dl := hW.d.lt
    simp only [List.getElem?_toArray, List.getElem?_cons_zero, List.getElem?_cons_succ] at d0 d1 d2
    have hlow := hW.low
    by_cases h0 : r = 0
    · subst h0
      clear hW hO hr
      go_enter Tryz.func174, Tryz.ntmps174
      go_wp2_with fail
      refine Calls.mono (impl_length_i64) ?_
      rintro e _ ⟨rfl, rfl⟩
      go_wp2
      exact bodyPost_end (by simp [results, Tryz.results174, go_sem]) rfl ⟨rfl, by rw [ls_zero, List.map_nil, List.append_nil]; exact HW.out, StepW.refl _ _, Below.refl _ _⟩
    · have hL := ls_next (n := n) (L := N) (k := k) (m := m) h0 hmk
      have LN := Lib.hid (show out.length + (lsN (n : Int) N k (chN (n : Int) N r (m : Int)).1).length + (lsN (n : Int) N k (chN (n : Int) N r (m : Int)).2).length ≤ 4194304 by rw [hL, List.length_append, List.length_map, List.length_map] at hlen; omega)
      have HL := Lib.hid hL
      have CH := Lib.hid (ch_all hS.redu.frst hS.ord hr hl (by omega))
      have KCh := Lib.hid (fun (wx : World) (h : Below w.heap.size w wx) => impl_children (inp := (n : Int)) (root := root) (input := (m : Int)) (hW.nN.keep h) hN hr (fun _ => by omega))
      have hmn : ((m : Int) == (n : Int)) = false := by simp; omega
      have r0 : (r == 0) = false := by simpa using h0
      have h64 : I64 (m : Int) := by unfold I64; omega
      clear hW hO hr hlen hl hL
      go_enter Tryz.func174, Tryz.ntmps174
      go_wp2_with fail
      refine Calls.mono (impl_length_i64) ?_
      rintro e _ ⟨rfl, rfl⟩
      go_wp2_with fail
      refine Calls.mono (KCh.out _ (Below.refl _ _)) ?_
      rintro e wr ⟨rfl, hbr⟩
      have S0 := Lib.hid (HW.out.keep hbr)
      have STa := Lib.hid (StepW.below (b := bO) hbr)
      have BLa := Lib.hid (Below.mono hbr hlow)
      replace HO := Lib.hid (HO.out.keep hbr)
      clear hbr d0 d1 d2 dl HW KCh
      obtain ⟨ax, mx, cx, lx, hBx, _, _⟩ := S0.out.o
      have HBx := Lib.hid hBx
      clear hBx
      have hlowr := S0.out.low
      have v0 := S0.out.v.cell 0
      have vl := S0.out.v.lt
      simp only [List.getElem?_toArray, List.getElem?_cons_zero] at v0
      have KC := Lib.hid (fun (wx : World) (h : Below wr.heap.size wr wx) => slices_Clone_i64 (HO.out.ints.keep h) (by omega))
      have KS := Lib.hid (fun (wx : World) (a' : Option Addr) (c' : Nat) (h : Below wr.heap.size wr wx) (o : OwnI 2 wx lo a' (m + 1) c' (c ++ [0])) => ih (m + 1) (chN (n : Int) N r (m : Int)).1 (c ++ [0]) _ a' c' wx (S0.out.keep h) o (by simp; omega) (by omega) CH.out.1 (by have := CH.out.2.2.1; omega) (by have := LN.out; omega))
      have hb64 : I64 (0 : Int) := by unfold I64; omega
      go_wp2_with fail
      refine wp_region_noPanic ?_
      refine wp_region_L (L := 6) (S := fun wx => Below wr.heap.size wr wx) (by kernel_rfl) ?_ (fun hHeld => ?_)
      · exact (Below.refl _ _).drew
      refine wpAnyL_take (i := 0) (v := ?_) (by simp only [List.getElem?_toArray, List.getElem?_cons_succ, List.getElem?_cons_zero] <;> rfl) (by kernel_rfl) (by decide) (by kernel_rfl) (by kernel_rfl) (by kernel_rfl) (by kernel_rfl) (fun _ _ _ h => h) (Or.inl ⟨by rfl, ?_⟩) (by assumption) ?_
      rotate_left
      · (intro wv hSw; (try dsimp only at hSw); obtain ⟨hcq, _⟩ := bcell hSw; have hsq := Below.size hSw; have p0 := (hcq _ _ vl).trans v0; have pl := Nat.lt_of_lt_of_le vl hsq; go_simp; try with_reducible rfl)
      try simp only [Act.put, s1, s2, s3]
      refine wpAnyL_take (i := 1) (v := ?_) (by simp only [List.getElem?_toArray, List.getElem?_cons_succ, List.getElem?_cons_zero] <;> rfl) (by kernel_rfl) (by decide) (by kernel_rfl) (by kernel_rfl) (by kernel_rfl) (by kernel_rfl) (fun _ _ _ h => h) (Or.inl ⟨by rfl, ?_⟩) (by assumption) ?_
      rotate_left
      · (intro wv hSw; (try dsimp only at hSw); obtain ⟨hcq, _⟩ := bcell hSw; have hsq := Below.size hSw; go_simp; try with_reducible rfl)
      try simp only [Act.put, s1, s2, s3]
      refine wpAnyL_take (i := 2) (v := ?_) (by simp only [List.getElem?_toArray, List.getElem?_cons_succ, List.getElem?_cons_zero] <;> rfl) (by kernel_rfl) (by decide) (by kernel_rfl) (by kernel_rfl) (by kernel_rfl) (by kernel_rfl) (fun _ _ _ h => h) (Or.inl ⟨by rfl, ?_⟩) (by assumption) ?_
      rotate_left
      · (intro wv hSw; (try dsimp only at hSw); obtain ⟨hcq, _⟩ := bcell hSw; have hsq := Below.size hSw; go_simp; try with_reducible rfl)
      try simp only [Act.put, s1, s2, s3]
      refine wpAnyL_ready (rs := [3, 4]) (by kernel_rfl) (by simp) ?_
      refine AllReadyL.cons rfl (fun K hK => ?_) ?_
      · go_simp
        refine Calls.mono (KC.out _ hHeld) ?_
        rintro e wn ⟨a3, c3, rfl, hbn, ho, hnl⟩
        have hst : Below wr.heap.size wr wn := below_callS hHeld hbn
        (try replace HLt := Lib.hid (HLt.out.keep hbn))
        have HT := Lib.hid (ho.le (show wr.heap.size ≤ _ from Below.size hHeld))
        clear ho hbn hnl
        go_wp2_with fail
        refine hK.out _ _ hst (fun hHeld => ?_)
        clear hst
        clear hK K
        try simp only [Act.put, s1, s2, s3]
        refine wpAnyL_ready (rs := [4]) (by kernel_rfl) (by simp) ?_
        refine AllReadyL.cons rfl (fun K hK => ?_) ?_
        · go_simp
          refine hK.out _ _ bel (fun hHeld => ?_)
          have HLt := Lib.hid (by first | exact lit9_of (show Below _ _ (World.alloc _ (.cells #[.int .i64 0] 2)) from hHeld) hb64 | exact lit9_ofd (show Below _ _ (World.drew (World.alloc _ (.cells #[.int .i64 0] 2))) from hHeld) hb64)
          (try replace HT := Lib.hid (HT.out.al9 (show Below _ _ (World.alloc _ _) from hHeld)))
          clear hK K
          try simp only [Act.put, s1, s2, s3]
          refine wpAnyL_ready (rs := [5]) (by kernel_rfl) (by simp) ?_
          refine AllReadyL.cons rfl (fun K hK => ?_) ?_
          · refine wp_appendL_F (k := 1) (enc := enc1) (ok := I64) _ _ 22 2 rfl Tryz.underlying22 Tryz.infoi64 rfl (by decide) (by decide) enc1_one9 wr.heap.size _ _ _ _ HT.out.f1 rfl _ _ _ [(0 : Int)] rfl HLt.out.f1.flats (by omega) (by omega) (Below.size hHeld) ?_
            intro aT2 cT2 wn ho hbB hgB
            have hst : Below wr.heap.size wr wn := Below.trans hHeld hbB
            have HT2 := Lib.hid (ho.i1.le hlowr)
            clear ho hbB hgB HLt HT
            refine hK.out _ _ hst (fun hHeld => ?_)
            clear hst
            clear hK K
            try simp only [Act.put, s1, s2, s3]
            refine wpAnyL_ready (rs := [6]) (by kernel_rfl) (by simp) ?_
            refine AllReadyL.last rfl (fun K hK => ?_)
            go_simp
            refine Calls.mono (KS.out _ _ _ hHeld HT2.out) ?_
            rintro e wz ⟨rfl, hS3, hst3, hbl3⟩
            have hstz : StepW bO wr wz := (StepW.below hHeld).trans hst3
            have hblz : Below lo wr wz := Below.trans (Below.mono hHeld hlowr) hbl3
            have S3 := Lib.hid hS3
            clear hst3 hbl3 hS3 HT2 hHeld
            go_wp2_with fail
            refine hK.out _ _ ?_
            clear hK K
            refine wpAnyL_done (by kernel_rfl) ?_ _
            refine NoPanic.normal ?_
            have HC2 := Lib.hid (HO.out.keepS HBx.out (by decide) hstz)
            have ST2 := Lib.hid (STa.out.trans hstz)
            have BL2 := Lib.hid (BLa.out.trans hblz)
            clear hstz hblz KC KS v0 vl hlowr
            obtain ⟨wr2, hwr2⟩ : ∃ W, W = wz := ⟨_, rfl⟩
            rw [← hwr2] at S3 HC2 ST2 BL2 ⊢
            clear hwr2
            clear S0 STa BLa HO HBx
            have hlowr := S3.out.low
            have v0 := S3.out.v.cell 0
            have vl := S3.out.v.lt
            simp only [List.getElem?_toArray, List.getElem?_cons_zero] at v0
            have KC := Lib.hid (fun (wx : World) (h : Below wr2.heap.size wr2 wx) => slices_Clone_i64 (HC2.out.ints.keep h) (by omega))
            have KS := Lib.hid (fun (wx : World) (a' : Option Addr) (c' : Nat) (h : Below wr2.heap.size wr2 wx) (o : OwnI 2 wx lo a' (m + 1) c' (c ++ [1])) => ih (m + 1) (chN (n : Int) N r (m : Int)).2 (c ++ [1]) _ a' c' wx (S3.out.keep h) o (by simp; omega) (by omega) CH.out.2.1 (by have := CH.out.2.2.2.1; omega) (by rw [List.length_append, List.length_map]; have := LN.out; omega))
            have hb64 : I64 (1 : Int) := by unfold I64; omega
            go_wp2_with fail
            refine wp_region_noPanic ?_
            refine wp_region_L (L := 6) (S := fun wx => Below wr2.heap.size wr2 wx) (by kernel_rfl) ?_ (fun hHeld => ?_)
            · exact (Below.refl _ _).drew
            refine wpAnyL_take (i := 0) (v := ?_) (by simp only [List.getElem?_toArray, List.getElem?_cons_succ, List.getElem?_cons_zero] <;> rfl) (by kernel_rfl) (by decide) (by kernel_rfl) (by kernel_rfl) (by kernel_rfl) (by kernel_rfl) (fun _ _ _ h => h) (Or.inl ⟨by rfl, ?_⟩) (by assumption) ?_
            rotate_left
            · (intro wv hSw; (try dsimp only at hSw); obtain ⟨hcq, _⟩ := bcell hSw; have hsq := Below.size hSw; have p0 := (hcq _ _ vl).trans v0; have pl := Nat.lt_of_lt_of_le vl hsq; go_simp; try with_reducible rfl)
            try simp only [Act.put, s1, s2, s3]
            refine wpAnyL_take (i := 1) (v := ?_) (by simp only [List.getElem?_toArray, List.getElem?_cons_succ, List.getElem?_cons_zero] <;> rfl) (by kernel_rfl) (by decide) (by kernel_rfl) (by kernel_rfl) (by kernel_rfl) (by kernel_rfl) (fun _ _ _ h => h) (Or.inl ⟨by rfl, ?_⟩) (by assumption) ?_
            rotate_left
            · (intro wv hSw; (try dsimp only at hSw); obtain ⟨hcq, _⟩ := bcell hSw; have hsq := Below.size hSw; go_simp; try with_reducible rfl)
            try simp only [Act.put, s1, s2, s3]
            refine wpAnyL_take (i := 2) (v := ?_) (by simp only [List.getElem?_toArray, List.getElem?_cons_succ, List.getElem?_cons_zero] <;> rfl) (by kernel_rfl) (by decide) (by kernel_rfl) (by kernel_rfl) (by kernel_rfl) (by kernel_rfl) (fun _ _ _ h => h) (Or.inl ⟨by rfl, ?_⟩) (by assumption) ?_
            rotate_left
            · (intro wv hSw; (try dsimp only at hSw); obtain ⟨hcq, _⟩ := bcell hSw; have hsq := Below.size hSw; go_simp; try with_reducible rfl)
            try simp only [Act.put, s1, s2, s3]
            refine wpAnyL_ready (rs := [3, 4]) (by kernel_rfl) (by simp) ?_
            refine AllReadyL.cons rfl (fun K hK => ?_) ?_
            · go_simp
              refine Calls.mono (KC.out _ hHeld) ?_
              rintro e wn ⟨a3, c3, rfl, hbn, ho, hnl⟩
              have hst : Below wr2.heap.size wr2 wn := below_callS hHeld hbn
              (try replace HLt := Lib.hid (HLt.out.keep hbn))
              have HT := Lib.hid (ho.le (show wr2.heap.size ≤ _ from Below.size hHeld))
              clear ho hbn hnl
              go_wp2_with fail
              refine hK.out _ _ hst (fun hHeld => ?_)
              clear hst
              clear hK K
              try simp only [Act.put, s1, s2, s3]
              refine wpAnyL_ready (rs := [4]) (by kernel_rfl) (by simp) ?_
              refine AllReadyL.cons rfl (fun K hK => ?_) ?_
              · go_simp
                refine hK.out _ _ bel (fun hHeld => ?_)
                have HLt := Lib.hid (by first | exact lit9_of (show Below _ _ (World.alloc _ (.cells #[.int .i64 1] 2)) from hHeld) hb64 | exact lit9_ofd (show Below _ _ (World.drew (World.alloc _ (.cells #[.int .i64 1] 2))) from hHeld) hb64)
                (try replace HT := Lib.hid (HT.out.al9 (show Below _ _ (World.alloc _ _) from hHeld)))
                clear hK K
                try simp only [Act.put, s1, s2, s3]
                refine wpAnyL_ready (rs := [5]) (by kernel_rfl) (by simp) ?_
                refine AllReadyL.cons rfl (fun K hK => ?_) ?_
                · refine wp_appendL_F (k := 1) (enc := enc1) (ok := I64) _ _ 22 2 rfl Tryz.underlying22 Tryz.infoi64 rfl (by decide) (by decide) enc1_one9 wr2.heap.size _ _ _ _ HT.out.f1 rfl _ _ _ [(1 : Int)] rfl HLt.out.f1.flats (by omega) (by omega) (Below.size hHeld) ?_
                  intro aT2 cT2 wn ho hbB hgB
                  have hst : Below wr2.heap.size wr2 wn := Below.trans hHeld hbB
                  have HT2 := Lib.hid (ho.i1.le hlowr)
                  clear ho hbB hgB HLt HT
                  refine hK.out _ _ hst (fun hHeld => ?_)
                  clear hst
                  clear hK K
                  try simp only [Act.put, s1, s2, s3]
                  refine wpAnyL_ready (rs := [6]) (by kernel_rfl) (by simp) ?_
                  refine AllReadyL.last rfl (fun K hK => ?_)
                  go_simp
                  refine Calls.mono (KS.out _ _ _ hHeld HT2.out) ?_
                  rintro e wz ⟨rfl, hS3, hst3, hbl3⟩
                  have hstz : StepW bO wr2 wz := (StepW.below hHeld).trans hst3
                  have hblz : Below lo wr2 wz := Below.trans (Below.mono hHeld hlowr) hbl3
                  have S3 := Lib.hid hS3
                  clear hst3 hbl3 hS3 HT2 hHeld
                  go_wp2_with fail
                  refine hK.out _ _ ?_
                  clear hK K
                  refine wpAnyL_done (by kernel_rfl) ?_ _
                  refine NoPanic.normal ?_
                  go_wp2
                  refine bodyPost_end (by simp [results, Tryz.results174, go_sem]) rfl ⟨rfl, ?_, ST2.out.trans hstz, BL2.out.trans hblz⟩
                  rw [HL.out, List.map_append, map_map_app, map_map_app, ← List.append_assoc]
                  exact S3.out
                exact AllReadyL.nil
              exact AllReadyL.nil
            refine AllReadyL.cons rfl (fun K hK => ?_) ?_
            · go_simp
              refine hK.out _ _ bel (fun hHeld => ?_)
              have HLt := Lib.hid (by first | exact lit9_of (show Below _ _ (World.alloc _ (.cells #[.int .i64 1] 2)) from hHeld) hb64 | exact lit9_ofd (show Below _ _ (World.drew (World.alloc _ (.cells #[.int .i64 1] 2))) from hHeld) hb64)
              (try replace HT := Lib.hid (HT.out.al9 (show Below _ _ (World.alloc _ _) from hHeld)))
              clear hK K
              try simp only [Act.put, s1, s2, s3]
              refine wpAnyL_ready (rs := [3]) (by kernel_rfl) (by simp) ?_
              refine AllReadyL.cons rfl (fun K hK => ?_) ?_
              · go_simp
                refine Calls.mono (KC.out _ hHeld) ?_
                rintro e wn ⟨a3, c3, rfl, hbn, ho, hnl⟩
                have hst : Below wr2.heap.size wr2 wn := below_callS hHeld hbn
                (try replace HLt := Lib.hid (HLt.out.keep hbn))
                have HT := Lib.hid (ho.le (show wr2.heap.size ≤ _ from Below.size hHeld))
                clear ho hbn hnl
                go_wp2_with fail
                refine hK.out _ _ hst (fun hHeld => ?_)
                clear hst
                clear hK K
                try simp only [Act.put, s1, s2, s3]
                refine wpAnyL_ready (rs := [5]) (by kernel_rfl) (by simp) ?_
                refine AllReadyL.cons rfl (fun K hK => ?_) ?_
                · refine wp_appendL_F (k := 1) (enc := enc1) (ok := I64) _ _ 22 2 rfl Tryz.underlying22 Tryz.infoi64 rfl (by decide) (by decide) enc1_one9 wr2.heap.size _ _ _ _ HT.out.f1 rfl _ _ _ [(1 : Int)] rfl HLt.out.f1.flats (by omega) (by omega) (Below.size hHeld) ?_
                  intro aT2 cT2 wn ho hbB hgB
                  have hst : Below wr2.heap.size wr2 wn := Below.trans hHeld hbB
                  have HT2 := Lib.hid (ho.i1.le hlowr)
                  clear ho hbB hgB HLt HT
                  refine hK.out _ _ hst (fun hHeld => ?_)
                  clear hst
                  clear hK K
                  try simp only [Act.put, s1, s2, s3]
                  refine wpAnyL_ready (rs := [6]) (by kernel_rfl) (by simp) ?_
                  refine AllReadyL.last rfl (fun K hK => ?_)
                  go_simp
                  refine Calls.mono (KS.out _ _ _ hHeld HT2.out) ?_
                  rintro e wz ⟨rfl, hS3, hst3, hbl3⟩
                  have hstz : StepW bO wr2 wz := (StepW.below hHeld).trans hst3
                  have hblz : Below lo wr2 wz := Below.trans (Below.mono hHeld hlowr) hbl3
                  have S3 := Lib.hid hS3
                  clear hst3 hbl3 hS3 HT2 hHeld
                  go_wp2_with fail
                  refine hK.out _ _ ?_
                  clear hK K
                  refine wpAnyL_done (by kernel_rfl) ?_ _
                  refine NoPanic.normal ?_
                  go_wp2
                  refine bodyPost_end (by simp [results, Tryz.results174, go_sem]) rfl ⟨rfl, ?_, ST2.out.trans hstz, BL2.out.trans hblz⟩
                  rw [HL.out, List.map_append, map_map_app, map_map_app, ← List.append_assoc]
                  exact S3.out
                exact AllReadyL.nil
              exact AllReadyL.nil
            exact AllReadyL.nil
          exact AllReadyL.nil
        exact AllReadyL.nil
      refine AllReadyL.cons rfl (fun K hK => ?_) ?_
      · go_simp
        refine hK.out _ _ bel (fun hHeld => ?_)
        have HLt := Lib.hid (by first | exact lit9_of (show Below _ _ (World.alloc _ (.cells #[.int .i64 0] 2)) from hHeld) hb64 | exact lit9_ofd (show Below _ _ (World.drew (World.alloc _ (.cells #[.int .i64 0] 2))) from hHeld) hb64)
        (try replace HT := Lib.hid (HT.out.al9 (show Below _ _ (World.alloc _ _) from hHeld)))
        clear hK K
        try simp only [Act.put, s1, s2, s3]
        refine wpAnyL_ready (rs := [3]) (by kernel_rfl) (by simp) ?_
        refine AllReadyL.cons rfl (fun K hK => ?_) ?_
        · go_simp
          refine Calls.mono (KC.out _ hHeld) ?_
          rintro e wn ⟨a3, c3, rfl, hbn, ho, hnl⟩
          have hst : Below wr.heap.size wr wn := below_callS hHeld hbn
          (try replace HLt := Lib.hid (HLt.out.keep hbn))
          have HT := Lib.hid (ho.le (show wr.heap.size ≤ _ from Below.size hHeld))
          clear ho hbn hnl
          go_wp2_with fail
          refine hK.out _ _ hst (fun hHeld => ?_)
          clear hst
          clear hK K
          try simp only [Act.put, s1, s2, s3]
          refine wpAnyL_ready (rs := [5]) (by kernel_rfl) (by simp) ?_
          refine AllReadyL.cons rfl (fun K hK => ?_) ?_
          · refine wp_appendL_F (k := 1) (enc := enc1) (ok := I64) _ _ 22 2 rfl Tryz.underlying22 Tryz.infoi64 rfl (by decide) (by decide) enc1_one9 wr.heap.size _ _ _ _ HT.out.f1 rfl _ _ _ [(0 : Int)] rfl HLt.out.f1.flats (by omega) (by omega) (Below.size hHeld) ?_
            intro aT2 cT2 wn ho hbB hgB
            have hst : Below wr.heap.size wr wn := Below.trans hHeld hbB
            have HT2 := Lib.hid (ho.i1.le hlowr)
            clear ho hbB hgB HLt HT
            refine hK.out _ _ hst (fun hHeld => ?_)
            clear hst
            clear hK K
            try simp only [Act.put, s1, s2, s3]
            refine wpAnyL_ready (rs := [6]) (by kernel_rfl) (by simp) ?_
            refine AllReadyL.last rfl (fun K hK => ?_)
            go_simp
            refine Calls.mono (KS.out _ _ _ hHeld HT2.out) ?_
            rintro e wz ⟨rfl, hS3, hst3, hbl3⟩
            have hstz : StepW bO wr wz := (StepW.below hHeld).trans hst3
            have hblz : Below lo wr wz := Below.trans (Below.mono hHeld hlowr) hbl3
            have S3 := Lib.hid hS3
            clear hst3 hbl3 hS3 HT2 hHeld
            go_wp2_with fail
            refine hK.out _ _ ?_
            clear hK K
            refine wpAnyL_done (by kernel_rfl) ?_ _
            refine NoPanic.normal ?_
            have HC2 := Lib.hid (HO.out.keepS HBx.out (by decide) hstz)
            have ST2 := Lib.hid (STa.out.trans hstz)
            have BL2 := Lib.hid (BLa.out.trans hblz)
            clear hstz hblz KC KS v0 vl hlowr
            obtain ⟨wr2, hwr2⟩ : ∃ W, W = wz := ⟨_, rfl⟩
            rw [← hwr2] at S3 HC2 ST2 BL2 ⊢
            clear hwr2
            clear S0 STa BLa HO HBx
            have hlowr := S3.out.low
            have v0 := S3.out.v.cell 0
            have vl := S3.out.v.lt
            simp only [List.getElem?_toArray, List.getElem?_cons_zero] at v0
            have KC := Lib.hid (fun (wx : World) (h : Below wr2.heap.size wr2 wx) => slices_Clone_i64 (HC2.out.ints.keep h) (by omega))
            have KS := Lib.hid (fun (wx : World) (a' : Option Addr) (c' : Nat) (h : Below wr2.heap.size wr2 wx) (o : OwnI 2 wx lo a' (m + 1) c' (c ++ [1])) => ih (m + 1) (chN (n : Int) N r (m : Int)).2 (c ++ [1]) _ a' c' wx (S3.out.keep h) o (by simp; omega) (by omega) CH.out.2.1 (by have := CH.out.2.2.2.1; omega) (by rw [List.length_append, List.length_map]; have := LN.out; omega))
            have hb64 : I64 (1 : Int) := by unfold I64; omega
            go_wp2_with fail
            refine wp_region_noPanic ?_
            refine wp_region_L (L := 6) (S := fun wx => Below wr2.heap.size wr2 wx) (by kernel_rfl) ?_ (fun hHeld => ?_)
            · exact (Below.refl _ _).drew
            refine wpAnyL_take (i := 0) (v := ?_) (by simp only [List.getElem?_toArray, List.getElem?_cons_succ, List.getElem?_cons_zero] <;> rfl) (by kernel_rfl) (by decide) (by kernel_rfl) (by kernel_rfl) (by kernel_rfl) (by kernel_rfl) (fun _ _ _ h => h) (Or.inl ⟨by rfl, ?_⟩) (by assumption) ?_
            rotate_left
            · (intro wv hSw; (try dsimp only at hSw); obtain ⟨hcq, _⟩ := bcell hSw; have hsq := Below.size hSw; have p0 := (hcq _ _ vl).trans v0; have pl := Nat.lt_of_lt_of_le vl hsq; go_simp; try with_reducible rfl)
            try simp only [Act.put, s1, s2, s3]
            refine wpAnyL_take (i := 1) (v := ?_) (by simp only [List.getElem?_toArray, List.getElem?_cons_succ, List.getElem?_cons_zero] <;> rfl) (by kernel_rfl) (by decide) (by kernel_rfl) (by kernel_rfl) (by kernel_rfl) (by kernel_rfl) (fun _ _ _ h => h) (Or.inl ⟨by rfl, ?_⟩) (by assumption) ?_
            rotate_left
            · (intro wv hSw; (try dsimp only at hSw); obtain ⟨hcq, _⟩ := bcell hSw; have hsq := Below.size hSw; go_simp; try with_reducible rfl)
            try simp only [Act.put, s1, s2, s3]
            refine wpAnyL_take (i := 2) (v := ?_) (by simp only [List.getElem?_toArray, List.getElem?_cons_succ, List.getElem?_cons_zero] <;> rfl) (by kernel_rfl) (by decide) (by kernel_rfl) (by kernel_rfl) (by kernel_rfl) (by kernel_rfl) (fun _ _ _ h => h) (Or.inl ⟨by rfl, ?_⟩) (by assumption) ?_
            rotate_left
            · (intro wv hSw; (try dsimp only at hSw); obtain ⟨hcq, _⟩ := bcell hSw; have hsq := Below.size hSw; go_simp; try with_reducible rfl)
            try simp only [Act.put, s1, s2, s3]
            refine wpAnyL_ready (rs := [3, 4]) (by kernel_rfl) (by simp) ?_
            refine AllReadyL.cons rfl (fun K hK => ?_) ?_
            · go_simp
              refine Calls.mono (KC.out _ hHeld) ?_
              rintro e wn ⟨a3, c3, rfl, hbn, ho, hnl⟩
              have hst : Below wr2.heap.size wr2 wn := below_callS hHeld hbn
              (try replace HLt := Lib.hid (HLt.out.keep hbn))
              have HT := Lib.hid (ho.le (show wr2.heap.size ≤ _ from Below.size hHeld))
              clear ho hbn hnl
              go_wp2_with fail
              refine hK.out _ _ hst (fun hHeld => ?_)
              clear hst
              clear hK K
              try simp only [Act.put, s1, s2, s3]
              refine wpAnyL_ready (rs := [4]) (by kernel_rfl) (by simp) ?_
              refine AllReadyL.cons rfl (fun K hK => ?_) ?_
              · go_simp
                refine hK.out _ _ bel (fun hHeld => ?_)
                have HLt := Lib.hid (by first | exact lit9_of (show Below _ _ (World.alloc _ (.cells #[.int .i64 1] 2)) from hHeld) hb64 | exact lit9_ofd (show Below _ _ (World.drew (World.alloc _ (.cells #[.int .i64 1] 2))) from hHeld) hb64)
                (try replace HT := Lib.hid (HT.out.al9 (show Below _ _ (World.alloc _ _) from hHeld)))
                clear hK K
                try simp only [Act.put, s1, s2, s3]
                refine wpAnyL_ready (rs := [5]) (by kernel_rfl) (by simp) ?_
                refine AllReadyL.cons rfl (fun K hK => ?_) ?_
                · refine wp_appendL_F (k := 1) (enc := enc1) (ok := I64) _ _ 22 2 rfl Tryz.underlying22 Tryz.infoi64 rfl (by decide) (by decide) enc1_one9 wr2.heap.size _ _ _ _ HT.out.f1 rfl _ _ _ [(1 : Int)] rfl HLt.out.f1.flats (by omega) (by omega) (Below.size hHeld) ?_
                  intro aT2 cT2 wn ho hbB hgB
                  have hst : Below wr2.heap.size wr2 wn := Below.trans hHeld hbB
                  have HT2 := Lib.hid (ho.i1.le hlowr)
                  clear ho hbB hgB HLt HT
                  refine hK.out _ _ hst (fun hHeld => ?_)
                  clear hst
                  clear hK K
                  try simp only [Act.put, s1, s2, s3]
                  refine wpAnyL_ready (rs := [6]) (by kernel_rfl) (by simp) ?_
                  refine AllReadyL.last rfl (fun K hK => ?_)
                  go_simp
                  refine Calls.mono (KS.out _ _ _ hHeld HT2.out) ?_
                  rintro e wz ⟨rfl, hS3, hst3, hbl3⟩
                  have hstz : StepW bO wr2 wz := (StepW.below hHeld).trans hst3
                  have hblz : Below lo wr2 wz := Below.trans (Below.mono hHeld hlowr) hbl3
                  have S3 := Lib.hid hS3
                  clear hst3 hbl3 hS3 HT2 hHeld
                  go_wp2_with fail
                  refine hK.out _ _ ?_
                  clear hK K
                  refine wpAnyL_done (by kernel_rfl) ?_ _
                  refine NoPanic.normal ?_
                  go_wp2
                  refine bodyPost_end (by simp [results, Tryz.results174, go_sem]) rfl ⟨rfl, ?_, ST2.out.trans hstz, BL2.out.trans hblz⟩
                  rw [HL.out, List.map_append, map_map_app, map_map_app, ← List.append_assoc]
                  exact S3.out
                exact AllReadyL.nil
              exact AllReadyL.nil
            refine AllReadyL.cons rfl (fun K hK => ?_) ?_
            · go_simp
              refine hK.out _ _ bel (fun hHeld => ?_)
              have HLt := Lib.hid (by first | exact lit9_of (show Below _ _ (World.alloc _ (.cells #[.int .i64 1] 2)) from hHeld) hb64 | exact lit9_ofd (show Below _ _ (World.drew (World.alloc _ (.cells #[.int .i64 1] 2))) from hHeld) hb64)
              (try replace HT := Lib.hid (HT.out.al9 (show Below _ _ (World.alloc _ _) from hHeld)))
              clear hK K
              try simp only [Act.put, s1, s2, s3]
              refine wpAnyL_ready (rs := [3]) (by kernel_rfl) (by simp) ?_
              refine AllReadyL.cons rfl (fun K hK => ?_) ?_
              · go_simp
                refine Calls.mono (KC.out _ hHeld) ?_
                rintro e wn ⟨a3, c3, rfl, hbn, ho, hnl⟩
                have hst : Below wr2.heap.size wr2 wn := below_callS hHeld hbn
                (try replace HLt := Lib.hid (HLt.out.keep hbn))
                have HT := Lib.hid (ho.le (show wr2.heap.size ≤ _ from Below.size hHeld))
                clear ho hbn hnl
                go_wp2_with fail
                refine hK.out _ _ hst (fun hHeld => ?_)
                clear hst
                clear hK K
                try simp only [Act.put, s1, s2, s3]
                refine wpAnyL_ready (rs := [5]) (by kernel_rfl) (by simp) ?_
                refine AllReadyL.cons rfl (fun K hK => ?_) ?_
                · refine wp_appendL_F (k := 1) (enc := enc1) (ok := I64) _ _ 22 2 rfl Tryz.underlying22 Tryz.infoi64 rfl (by decide) (by decide) enc1_one9 wr2.heap.size _ _ _ _ HT.out.f1 rfl _ _ _ [(1 : Int)] rfl HLt.out.f1.flats (by omega) (by omega) (Below.size hHeld) ?_
                  intro aT2 cT2 wn ho hbB hgB
                  have hst : Below wr2.heap.size wr2 wn := Below.trans hHeld hbB
                  have HT2 := Lib.hid (ho.i1.le hlowr)
                  clear ho hbB hgB HLt HT
                  refine hK.out _ _ hst (fun hHeld => ?_)
                  clear hst
                  clear hK K
                  try simp only [Act.put, s1, s2, s3]
                  refine wpAnyL_ready (rs := [6]) (by kernel_rfl) (by simp) ?_
                  refine AllReadyL.last rfl (fun K hK => ?_)
                  go_simp
                  refine Calls.mono (KS.out _ _ _ hHeld HT2.out) ?_
                  rintro e wz ⟨rfl, hS3, hst3, hbl3⟩
                  have hstz : StepW bO wr2 wz := (StepW.below hHeld).trans hst3
                  have hblz : Below lo wr2 wz := Below.trans (Below.mono hHeld hlowr) hbl3
                  have S3 := Lib.hid hS3
                  clear hst3 hbl3 hS3 HT2 hHeld
                  go_wp2_with fail
                  refine hK.out _ _ ?_
                  clear hK K
                  refine wpAnyL_done (by kernel_rfl) ?_ _
                  refine NoPanic.normal ?_
                  go_wp2
                  refine bodyPost_end (by simp [results, Tryz.results174, go_sem]) rfl ⟨rfl, ?_, ST2.out.trans hstz, BL2.out.trans hblz⟩
                  rw [HL.out, List.map_append, map_map_app, map_map_app, ← List.append_assoc]
                  exact S3.out
                exact AllReadyL.nil
              exact AllReadyL.nil
            exact AllReadyL.nil
          exact AllReadyL.nil
        exact AllReadyL.nil
      exact AllReadyL.nil
set_option maxRecDepth 100000 in
set_option maxHeartbeats 4000000 in
theorem impl_lists {n : Nat} {aN : Option Addr} {cN : Nat} {N : List I3} {root : Int} {w : World} (hI : F3 w aN N.length cN N) (hS : Snd (n : Int) N) (hn20 : n ≤ 20) (hN : N.length ≤ 4190000) (hr : RefB root N.length) (hlen : (lsN (n : Int) N n root).length ≤ 4194304) :
    Calls Tryz.prog 110 #[.agg #[.int .i64 (n : Int), .slice aN N.length cN, .int .i64 root]] w fun e w' => ∃ a q c l, e = .returned (.slice a q c) ∧ SRow w' w.heap.size w.heap.size a q c l ∧ l.map (·.2) = lsN (n : Int) N n root ∧ Below w.heap.size w w' := by
  obtain ⟨lo, hlo⟩ : ∃ lo, lo = w.heap.size := ⟨_, rfl⟩
  obtain ⟨w0, hw0⟩ : ∃ w0, w0 = w.alloc (.cells #[.int .i64 (n : Int), .slice aN N.length cN, .int .i64 root] 40) := ⟨_, rfl⟩
  obtain ⟨w1, hw1⟩ : ∃ w1, w1 = w0.alloc (.cells #[.slice none 0 0] 31) := ⟨_, rfl⟩
  obtain ⟨w2, hw2⟩ : ∃ w2, w2 = w1.alloc (.cells #[lFun lo (lo + 1) (lo + 1 + 1)] 215) := ⟨_, rfl⟩
  have hs0 : w0.heap.size = lo + 1 := by rw [hw0]; simp [hlo]
  have hs1 : w1.heap.size = lo + 1 + 1 := by rw [hw1]; simp [hs0]
  have hb0 : Below w.heap.size w w0 := by rw [hw0]; exact below_alloc1 (Below.refl _ _) _
  have hb1 : Below w0.heap.size w0 w1 := by rw [hw1]; exact below_alloc1 (Below.refl _ _) _
  have hb2 : Below w1.heap.size w1 w2 := by rw [hw2]; exact below_alloc1 (Below.refl _ _) _
  have hb12 := below_callS hb1 hb2
  have hb02 := below_callS hb0 hb12
  have hlies := hI.lies
  have HLW := Lib.hid (show LsW w2 lo lo (lo + 1) (lo + 1 + 1) n aN cN N root [] from
    ⟨(show Blk w0 lo #[.int .i64 (n : Int), .slice aN N.length cN, .int .i64 root] 40 by rw [hw0, hlo]; exact Blk.made _ _ _).keep hb12, by rw [hw2, ← hs1]; exact Blk.made _ _ _, ⟨none, 0, 0, [], (show Blk w1 (lo + 1) #[.slice none 0 0] 31 by rw [hw1, ← hs0]; exact Blk.made _ _ _).keep hb2, SRow.nil _ _ _, rfl⟩, hI.keep hb02, by rw [hlo]; exact hlies, by omega, by have := hb02.size; omega⟩)
  have KL := Lib.hid (impl_lists_1 hS hn20 hN n 0 root [] [] none 0 w2 HLW.out (OwnF.i1 ⟨World.ownsRow_nil _ _ _ 1, (fun _ h => by cases h), rfl, fun _ => rfl⟩) rfl (by omega) hr (by have := hr.1; exact lvl_pos hS.ord (by omega) hr) (by simpa using hlen))
  have HB := Lib.hid hb02
  have d2 := HLW.out.d.cell 2
  have dl := HLW.out.d.lt
  have v0 := HLW.out.v.cell 0
  have vl := HLW.out.v.lt
  simp only [List.getElem?_toArray, List.getElem?_cons_zero, List.getElem?_cons_succ] at d2 v0
  clear hI hS hr hlen hb0 hb1 hb2 hb12 hb02 hlies hs0 hs1
  subst hw2 hw1 hw0 hlo
  have hmf : ∀ (fn : Fn) (first cap : Array Value) (w : World), (Instr.makeFunc fn first cap).run Tryz.prog w = .ok (.func fn first cap) w := fun _ _ _ _ => rfl
  go_enter Tryz.func110, Tryz.ntmps110
  go_wp2_with fail
  refine Calls.mono KL.out ?_
  rintro e w5 ⟨rfl, hS5, hst5, hb5⟩
  have HS5 := Lib.hid hS5
  have HB5 := Lib.hid (HB.out.trans hb5)
  clear hS5 hst5 hb5 HLW KL d2 dl v0 vl
  obtain ⟨a, q, c, l, hB, hRow, hmap⟩ := HS5.out.o
  have o0 := hB.cell 0
  have ol := hB.lt
  simp at o0
  go_wp2
  go_ret
  exact ⟨a, q, c, l, rfl, hRow, by rw [hmap]; simp, HB5.out⟩
end Go.Proofs.YtkaikbaagajckaaGreat
