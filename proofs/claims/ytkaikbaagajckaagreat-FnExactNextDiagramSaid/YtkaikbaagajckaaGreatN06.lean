/- Valid models, walked: the program.; Rules and models of the exact laws: sizes of lists of rules.; Models that came in.; Rules and models of the exact laws: comparisons.; Rules and models of the exact laws: the size of a model.; Rules and models of the exact laws: copies.; Rules of the call's own: blocks apart, and what a write in one of them leaves.; Rules of the exact laws: the copy of a list of rules. -/
import Derived.Test.YtkaikbaagajckaaGreatN05
import Derived.Test.YtkaikbaagajckaaGreatN02
import Derived.Test.YtkaikbaagajckaaGreatN01
namespace Go.Proofs.YtkaikbaagajckaaGreat
open Go.RowKit
set_option linter.unusedVariables false
set_option linter.unusedSimpArgs false
/-- a rule in memory reads as a rule, in the world w0 -/
def RuM (w0 : World) (x : RM × RuD) : Prop := x.1.nm = x.2.nm ∧ x.2.nm.size ≤ maxLen ∧ F2b w0 x.1.ga x.1.gn x.1.gc x.2.g ∧ x.1.gn ≤ 1048576 ∧ F2 w0 x.1.ea x.1.en x.1.ec x.2.e ∧ x.1.en ≤ 1048576
def encR (x : RM × RuD) : List Value := x.1.enc
/-- a slice of rules: its cells in w, what they point at in w0 -/
abbrev FR (w0 : World) := Flats 3 encR (RuM w0)
theorem FR.get {w0 w : World} {a : Option Addr} {n c : Nat} {l : List (RM × RuD)} (h : FR w0 w a n c l) {i : Nat} (hi : i < n) :
    ∃ b off R r, a = some ⟨b, off, none⟩ ∧ b < w.heap.size ∧ l[i]? = some (R, r) ∧ RuM w0 (R, r) ∧ w.cell? ⟨b, off + i * 3, none⟩ = some (.string R.nm) ∧ w.cell? ⟨b, off + i * 3 + 1, none⟩ = some (.slice R.ga R.gn R.gc) ∧ w.cell? ⟨b, off + i * 3 + 2, none⟩ = some (.slice R.ea R.en R.ec) := by
  obtain ⟨b, off, x, h1, h2, h3, h4, h5⟩ := h.at hi
  exact ⟨b, off, x.1, x.2, h1, h2, h3, h4, h5 0 _ rfl, h5 1 _ rfl, h5 2 _ rfl⟩
def rulesB (sz : List Int) (l : List (RM × RuD)) : Bool := l.all fun x => ruleB sz x.2
def modelB (sz st : List Int) (l : List (RM × RuD)) : Bool := inB (sz.length : Int) 1 16 && (allIn 1 32 sz && (stateB sz st && (decide (l.length ≤ 200) && rulesB sz l)))
theorem rulesB_any {sz : List Int} {l : List (RM × RuD)} : rulesB sz l = !(l.any fun x => !ruleB sz x.2) := by
  rw [rulesB, List.not_any_eq_all_not]; simp
theorem allIn_any {lo hi : Int} {l : List Int} : (l.any fun x => !inB x lo hi) = !allIn lo hi l := by
  rw [allIn, List.not_all_eq_any_not]
theorem impl_IsModel_1 {x : Int} {w : World} : Calls Tryz.prog 125 #[.int .i64 x] w fun e w' => e = .returned (.bool (!inB x 1 32)) ∧ w = w' := by
  go_enter Tryz.func125, Tryz.ntmps125
  go_wp2_with fail
  refine Calls.mono (impl_within) ?_
  rintro e _ ⟨rfl, rfl⟩
  go_wp2
  go_ret
  exact ⟨rfl, rfl⟩
set_option maxHeartbeats 1000000 in
theorem impl_IsModel_2 {x : RM × RuD} {B : Nat} {sa ta ra : Option Addr} {sn sc tn tc rn rc : Nat} {sz : List Int} {w0 w : World} (hB : Blk w B #[.slice sa sn sc, .slice ta tn tc, .slice ra rn rc] 36) (hI : Ints w sa sn sc sz) (hn : sn ≤ 1048576) (hs : allIn 1 32 sz = true) (hR : RuM w0 x) (hb0 : Below w0.heap.size w0 w) :
    Calls Tryz.prog 128 (#[.agg (encR x).toArray] ++ #[.pointer (some ⟨B, 0, none⟩)]) w fun e w' => e = .returned (.bool (!ruleB sz x.2)) ∧ Below w.heap.size w w' := by
  obtain ⟨R, r⟩ := x
  obtain ⟨e1, h2, hg, hgn, he, hen⟩ := hR
  simp only at e1 h2 hg hgn he hen
  have x0 := hB.cell 0
  have x1 := hB.cell 1
  have x2 := hB.cell 2
  have xl := hB.lt
  simp at x0 x1 x2
  have h := fun (wx : World) (hb : Below w.heap.size w wx) => impl_isRule (r := r) (ta := ta) (tn := tn) (tc := tc) (ra := ra) (rn := rn) (rc := rc) (hI.keep hb) hn hs ((hg.keep hb0).keep hb) hgn ((he.keep hb0).keep hb) hen
  rw [← e1] at h
  have H := Lib.hid h
  clear h hI hB hs hg he hb0 e1 h2
  show Calls _ _ #[.agg #[.string R.nm, .slice R.ga R.gn R.gc, .slice R.ea R.en R.ec], .pointer (some ⟨B, 0, none⟩)] _ _
  go_enter Tryz.func128, Tryz.ntmps128
  go_wp2_with fail
  refine Calls.mono (H.out _ bel) ?_
  rintro e w1 ⟨rfl, hb_w1⟩
  obtain ⟨hc_w1, hf_w1⟩ := bcell hb_w1
  have hs_w1 := hb_w1.size
  go_wp2
  go_ret
  exact ⟨rfl, bel⟩
set_option maxHeartbeats 1000000 in
theorem slices_IndexFunc_Rule {g : Nat} {lb : Array Value} {p : RM × RuD → Bool} {a : Option Addr} {n c : Nat} {l : List (RM × RuD)} {w0 w : World}
    (eg : ∀ args w, (callFunc g args).run Tryz.prog w = .ok (.enter g args) w) (hp : PredF Tryz.prog g lb encR (RuM w0) p w) (hI : FR w0 w a n c l) (hn : n ≤ 1048576) :
    Calls Tryz.prog 181 #[.slice a n c, .func (.func g) #[] lb] w fun e w' => e = .returned (.int .i64 (idxF p l)) ∧ Below w.heap.size w w' := by
  have HP := Lib.hid hp
  clear hp
  go_enter Tryz.func181, Tryz.ntmps181
  go_wp2
  go_loopg [5, 8] n (fun gg _ s8 wr => ∃ kk : Nat, kk ≤ n ∧ n - kk ≤ gg ∧ s8 = .int .i64 kk ∧ Below w.heap.size w wr ∧ Hid ((l.take kk).any p = false))
  case atStart => exact ⟨0, Nat.zero_le _, by omega, rfl, Below.refl _ _, rfl⟩
  case round =>
    obtain ⟨kk, hkk, hg, rfl, hbl, A⟩ := hrel
    have HI := Lib.hid hI
    by_cases hlt : kk < n
    · obtain ⟨b, off, R, r, rfl, hb, hx, hwf, c0, c1, c2⟩ := FR.get (hI.keep hbl) hlt
      have Hx := Lib.hid hx
      have hcall := HP.out _ (R, r) hwf hbl
      clear hx hI hwf
      cases hq : p (R, r) with
      | true =>
        have Hq := Lib.hid hq
        rw [hq] at hcall
        clear hq
        go_wp2_with (go_at_fn g; refine hcall.mono ?_; rintro e w1 ⟨rfl, hb1⟩)
        go_ret
        exact ⟨ret_int (by rw [idxF_hit Hx.out Hq.out A.out]), below_call hbl hb1 hbl.size⟩
      | false =>
        have Hq := Lib.hid hq
        rw [hq] at hcall
        clear hq
        go_wp2_with (go_at_fn g; refine hcall.mono ?_; rintro e w1 ⟨rfl, hb1⟩)
        go_roundg (n - (kk + 1))
        case measure => omega
        case rel => exact ⟨kk + 1, by omega, by omega, by go_num, below_call hbl hb1 hbl.size, any_take_step Hx.out A.out Hq.out⟩
    · clear hI
      go_wp2
      go_ret
      have e : l.take kk = l := take_len (by have := HI.out.len; omega)
      have h1 := A.out
      rw [e] at h1
      exact ⟨ret_int (by rw [idxF_miss h1]), hbl⟩
theorem slices_ContainsFunc_Rule {g : Nat} {lb : Array Value} {p : RM × RuD → Bool} {a : Option Addr} {n c : Nat} {l : List (RM × RuD)} {w0 w : World}
    (eg : ∀ args w, (callFunc g args).run Tryz.prog w = .ok (.enter g args) w) (hp : PredF Tryz.prog g lb encR (RuM w0) p w) (hI : FR w0 w a n c l) (hn : n ≤ 1048576) :
    Calls Tryz.prog 127 #[.slice a n c, .func (.func g) #[] lb] w fun e w' => e = .returned (.bool (l.any p)) ∧ Below w.heap.size w w' := by
  have h := idxF_nonneg p l
  have hc := slices_IndexFunc_Rule eg hp hI hn
  generalize idxF p l = r at h hc
  have H := Lib.hid h
  have HI := Lib.hid hI
  have HP := Lib.hid hp
  clear h hI hp
  go_enter Tryz.func127, Tryz.ntmps127
  go_wp2_with fail
  refine Calls.mono hc ?_
  rintro e w1 ⟨rfl, hb1⟩
  go_wp2
  go_ret
  exact ⟨ret_bool H.out, hb1⟩
/-- a rule in memory reads as a rule, of any size -/
def RuX (w0 : World) (x : RM × RuD) : Prop := x.1.nm = x.2.nm ∧ x.2.nm.size ≤ maxLen ∧ F2b w0 x.1.ga x.1.gn x.1.gc x.2.g ∧ x.1.gn ≤ maxLen ∧ F2 w0 x.1.ea x.1.en x.1.ec x.2.e ∧ x.1.en ≤ maxLen
abbrev FX (w0 : World) := Flats 3 encR (RuX w0)
theorem FX.get {w0 w : World} {a : Option Addr} {n c : Nat} {l : List (RM × RuD)} (h : FX w0 w a n c l) {i : Nat} (hi : i < n) :
    ∃ b off R r, a = some ⟨b, off, none⟩ ∧ b < w.heap.size ∧ l[i]? = some (R, r) ∧ RuX w0 (R, r) ∧ w.cell? ⟨b, off + i * 3, none⟩ = some (.string R.nm) ∧ w.cell? ⟨b, off + i * 3 + 1, none⟩ = some (.slice R.ga R.gn R.gc) ∧ w.cell? ⟨b, off + i * 3 + 2, none⟩ = some (.slice R.ea R.en R.ec) := by
  obtain ⟨b, off, x, h1, h2, h3, h4, h5⟩ := h.at hi
  exact ⟨b, off, x.1, x.2, h1, h2, h3, h4, h5 0 _ rfl, h5 1 _ rfl, h5 2 _ rfl⟩
def need1 (x : RM × RuD) : Nat := x.1.nm.size + x.1.gn + x.1.en
def need (l : List (RM × RuD)) : Nat := (l.map need1).sum
theorem need_take {l : List (RM × RuD)} {k : Nat} {x : RM × RuD} (h : l[k]? = some x) : need (l.take (k + 1)) = need (l.take k) + need1 x := by
  rw [need, take_at h, List.map_append, List.sum_append]; simp [need]
theorem need_le {l : List (RM × RuD)} {k : Nat} {x : RM × RuD} (h : l[k]? = some x) : need (l.take k) + need1 x ≤ need l := by
  rw [← need_take h]
  have : need l = need (l.take (k + 1)) + need (l.drop (k + 1)) := by
    rw [need, need, need, ← List.sum_append, ← List.map_append, List.take_append_drop]
  omega
set_option maxHeartbeats 1000000 in
theorem laws_szRuleS {a : Option Addr} {n c : Nat} {l : List (RM × RuD)} {m : Int} {w : World} (hI : FX w w a n c l) (hn : (n : Int) ≤ 9223372036854775807) (hm : 0 ≤ m) (hm' : m ≤ 1048576) :
    Calls Tryz.prog 47 #[.slice a n c, .int .i64 m] w fun e w' => e = .returned (.int .i64 (szN m (n + need l))) ∧ Below w.heap.size w w' := by
  by_cases h1 : m < (n : Int)
  · have h1' : m - (n : Int) < 0 := by omega
    have HR := Lib.hid (szN_lt (m := m) (x := n + need l) (by omega))
    clear hI
    go_enter Tryz.func47, Tryz.ntmps47
    go_wp2
    go_ret
    exact ⟨ret_int HR.out.symm, bel⟩
  · have h1' : ¬ m - (n : Int) < 0 := by omega
    have HI := Lib.hid hI
    clear hI
    go_enter Tryz.func47, Tryz.ntmps47
    go_wp2_with fail
    go_loopw [1, 5] (fun s1 s5 wr => ∃ (k : Nat) (q : Int), k ≤ n ∧ s1 = .int .i64 q ∧ s5 = .int .i64 k ∧ 0 ≤ q ∧ q ≤ 1048576 ∧ Below w.heap.size w wr ∧ Hid (q = m - n - need (l.take k))) (fun _ s5 _ => n - (intOf s5).toNat)
    case atStart => exact ⟨0, m - n, Nat.zero_le _, rfl, rfl, by omega, by omega, Below.refl _ _, Lib.hid (by simp [need])⟩
    case round =>
      obtain ⟨k, q, hk, rfl, rfl, hq0, hq1, hbl, A⟩ := hrel
      by_cases hlt : k < n
      · have hlt' : (k : Int) < (n : Int) := by omega
        have hk0 : (0 : Int) ≤ (k : Int) := by omega
        obtain ⟨b, off, R, r, rfl, hb, hx, hwf, c0, c1, c2⟩ := FX.get (HI.out.keep hbl) hlt
        obtain ⟨e1, hs2, hg, hgn, he, hen⟩ := hwf
        simp only at e1 hs2 hgn hen
        have hcall := laws_szRule (nm := R.nm) (ga := R.ga) (gn := R.gn) (gc := R.gc) (ea := R.ea) (en := R.en) (ec := R.ec) (m := q) (w := wr) (by rw [e1]; exact hs2) (by have : R.gn ≤ 9223372036854775807 := hgn; omega) (by have : R.en ≤ 9223372036854775807 := hen; omega) hq0 hq1
        have Hn1 := Lib.hid (show need1 (R, r) = R.nm.size + R.gn + R.en from rfl)
        have Hle := Lib.hid (need_le hx)
        have Htk := Lib.hid (need_take hx)
        clear hx hg he e1 hs2 hgn hen
        by_cases h2 : q < ((R.nm.size + R.gn + R.en : Nat) : Int)
        · rw [szN_lt h2] at hcall
          have HC := Lib.hid hcall
          have HR := Lib.hid (szN_lt (m := m) (x := n + need l) (by have h3 := A.out; have h4 := Hle.out; rw [Hn1.out] at h4; omega))
          clear hcall h2
          go_wp2_with fail
          refine Calls.mono HC.out ?_
          rintro e w1 ⟨rfl, hb1⟩
          go_wp2
          go_ret
          exact ⟨ret_int HR.out.symm, below_callS hbl hb1⟩
        · rw [szN_ge h2] at hcall
          obtain ⟨q2, hq2⟩ : ∃ q2 : Int, q2 = q - ((R.nm.size + R.gn + R.en : Nat) : Int) := ⟨_, rfl⟩
          rw [← hq2] at hcall
          have HC := Lib.hid hcall
          have hq20 : 0 ≤ q2 := by omega
          have hq21 : q2 ≤ 1048576 := by omega
          have hq22 : ¬ q2 < 0 := by omega
          have Hq2 := Lib.hid hq2
          clear hcall h2 hq2
          go_wp2_with fail
          refine Calls.mono HC.out ?_
          rintro e w1 ⟨rfl, hb1⟩
          go_wp2_with fail
          go_roundw
          case rel => exact ⟨k + 1, q2, by omega, rfl, by go_num, hq20, hq21, below_callS hbl hb1, Lib.hid (by rw [Htk.out, Hq2.out, A.out, Hn1.out]; omega)⟩
          case measure => simp [intOf]; omega
      · obtain rfl : n = k := by omega
        have hlt' : ¬ (n : Int) < (n : Int) := by omega
        have HR := Lib.hid (show szN m (n + need l) = q by
          have h3 := A.out
          rw [take_len HI.out.len] at h3
          rw [szN_ge (by omega)]; omega)
        go_wp2
        go_ret
        exact ⟨ret_int HR.out.symm, hbl⟩
end Go.Proofs.YtkaikbaagajckaaGreat
namespace Go.Proofs.YtkaikbaagajckaaGreat
open Go.ChangeShapes Go.WideShapes Go.ChangeAt Go.RowKit Go.Joins
set_option linter.unusedVariables false
set_option linter.unusedSimpArgs false
instance : Inhabited (RM × RuD) := ⟨(⟨⟨#[]⟩, none, 0, 0, none, 0, 0⟩, ⟨⟨#[]⟩, [], []⟩)⟩
section
variable {H : Type} {enc : TypeId × Value → H} {P : Program} {W : World} {base : Nat} {held : Bool}
theorem read_Rule {e te ae : TypeId} {f0 f1 f2 : Field} (he : P.underlying e = some (.struct #[f0, f1, f2])) (o0 : f0.offset = 0) (o1 : f1.offset = 1) (o2 : f2.offset = 2) (c0 : P.cellsOf f0.type = 1) (c1 : P.cellsOf f1.type = 1) (c2 : P.cellsOf f2.type = 1)
    (t0 : P.underlying f0.type = some .string) (t1 : P.underlying f1.type = some (.slice te)) (t2 : P.underlying f2.type = some (.slice ae)) (k1 : P.cellsOf te = 3) (k2 : P.cellsOf ae = 2)
    (r1 : ∀ m cs x, cs.length = 3 → DataW.trod enc P W base (fun _ => true) held m te cs = some x → ∃ y : I2b, cs = y.enc ∧ y.ok) (r2 : ∀ m cs x, cs.length = 2 → DataW.trod enc P W base (fun _ => true) held m ae cs = some x → ∃ y : I2, cs = y.enc ∧ y.ok)
    (m : Nat) (cs : List Value) (x : DataW H × List MemPlace) (hl : cs.length = 3) (h : DataW.trod enc P W base (fun _ => true) held m e cs = some x) : ∃ y : RM × RuD, cs = encR y ∧ RuX W y := by
  obtain ⟨y0, y1, y2, n, _, _, h0, h1, h2⟩ := Deep.trod_struct3 he h
  match cs, hl with
  | [v0, v1, v2], _ =>
    rw [o0, c0] at h0; rw [o1, c1] at h1; rw [o2, c2] at h2
    obtain ⟨s, e0, _, hs⟩ := DataW.trod_string t0 h0
    obtain ⟨ga, gn, gc, e1, hg⟩ := slice_part (v := v1) t1 h1
    obtain ⟨ea, en, ec, e2, hea⟩ := slice_part (v := v2) t2 h2
    simp at e0
    subst e0 e1 e2
    obtain ⟨g, wg⟩ := open_Flats (encf := I2b.enc) (ok := I2b.ok) (by decide) t1 k1 r1 hg
    obtain ⟨l, wl⟩ := open_Flats (encf := I2.enc) (ok := I2.ok) (by decide) t2 k2 r2 hea
    have bg : gn ≤ maxLen := by obtain ⟨_, hf⟩ := hg; exact len_le t1 hf
    have bl : en ≤ maxLen := by obtain ⟨_, hf⟩ := hea; exact len_le t2 hf
    exact ⟨(⟨s, ga, gn, gc, ea, en, ec⟩, ⟨s, g, l⟩), rfl, rfl, hs, wg, bg, wl, bl⟩
end
theorem open_Rules {H : Type} {enc : TypeId × Value → H} {W : World} {base : Nat} {held : Bool} {d : DataW H} {p : List MemPlace} {a : Option Addr} {n c : Nat} (h : DataW.Trod enc Tryz.prog W base (fun _ => true) held 23 (.slice a n c) d p) : ∃ l, FX W W a n c l :=
  open_Flats (encf := encR) (ok := RuX W) (by decide) Tryz.underlying23 (by kernel_rfl)
    (read_Rule Tryz.underlying143 rfl rfl rfl (by kernel_rfl) (by kernel_rfl) (by kernel_rfl) Tryz.underlying9 Tryz.underlying64 Tryz.underlying141 (by kernel_rfl) (by kernel_rfl)
      (read_I2b Tryz.underlying129 rfl rfl rfl (by kernel_rfl) (by kernel_rfl) (by kernel_rfl) Tryz.underlying2 Tryz.underlying2 Tryz.underlying4)
      (read_I2 Tryz.underlying234 rfl rfl (by kernel_rfl) (by kernel_rfl) Tryz.underlying2 Tryz.underlying2)) h
end Go.Proofs.YtkaikbaagajckaaGreat
namespace Go.Proofs.YtkaikbaagajckaaGreat
open Go.RowKit
set_option linter.unusedVariables false
set_option linter.unusedSimpArgs false
set_option maxHeartbeats 1000000 in
theorem laws_eqRule {R R' : RM} {r : RuD} {w : World} (h : RuM w (R, r)) (h' : RuM w (R', r)) :
    Calls Tryz.prog 112 #[.agg #[.string R.nm, .slice R.ga R.gn R.gc, .slice R.ea R.en R.ec], .agg #[.string R'.nm, .slice R'.ga R'.gn R'.gc, .slice R'.ea R'.en R'.ec]] w fun e w' => e = .returned (.bool true) ∧ Below w.heap.size w w' := by
  obtain ⟨nm, ga, gn, gc, ea, en, ec⟩ := R
  obtain ⟨nm', ga', gn', gc', ea', en', ec'⟩ := R'
  obtain ⟨e1, h2, hg, hgn, he, hen⟩ := h
  obtain ⟨e1', _, hg', _, he', _⟩ := h'
  simp only at e1 h2 hg hgn he hen e1' hg' he' ⊢
  have e2 : nm' = nm := e1'.trans e1.symm
  have e3 : gn' = gn := hg'.len.symm.trans hg.len
  have e4 : en' = en := he'.len.symm.trans he.len
  subst e2 e3 e4
  have K1 := Lib.hid (fun (wx : World) (hb : Below w.heap.size w wx) => laws_eqTestS (hg.keep hb) (hg'.keep hb) hgn)
  have K2 := Lib.hid (fun (wx : World) (hb : Below w.heap.size w wx) => laws_eqAssignS (he.keep hb) (he'.keep hb) hen)
  have hq : (nm'.toList == nm'.toList) = true := by simp
  have hq2 : (nm'.toList != nm'.toList) = false := by simp
  clear e1 e1' h2 hg he hg' he'
  go_enter Tryz.func112, Tryz.ntmps112
  go_wp2_with fail
  refine Calls.mono (K1.out _ bel) ?_
  rintro e w1 ⟨rfl, hb_w1⟩
  obtain ⟨hc_w1, hf_w1⟩ := bcell hb_w1
  have hs_w1 := hb_w1.size
  go_wp2_with fail
  refine Calls.mono (K2.out _ bel) ?_
  rintro e w2 ⟨rfl, hb_w2⟩
  obtain ⟨hc_w2, hf_w2⟩ := bcell hb_w2
  have hs_w2 := hb_w2.size
  go_wp2
  go_ret
  exact ⟨rfl, bel⟩
theorem RuM.keep {w0 w : World} {x : RM × RuD} (h : RuM w0 x) (hb : Below w0.heap.size w0 w) : RuM w x := by
  obtain ⟨q1, q2, q3, q4, q5, q6⟩ := h
  exact ⟨q1, q2, q3.keep hb, q4, q5.keep hb, q6⟩
set_option maxHeartbeats 4000000 in
theorem laws_eqRuleS {a a' : Option Addr} {n c c' : Nat} {l l' : List (RM × RuD)} {w : World} (hI : FR w w a n c l) (hI' : FR w w a' n c' l') (hl : l.map (·.2) = l'.map (·.2)) (hn : n ≤ 1048576) :
    Calls Tryz.prog 55 #[.slice a n c, .slice a' n c'] w fun e w' => e = .returned (.bool true) ∧ Below w.heap.size w w' := by
  have HI := Lib.hid hI
  have HI' := Lib.hid hI'
  have HL := Lib.hid hl
  clear hI hI' hl
  have hq : ((n : Int) != (n : Int)) = false := by simp
  go_enter Tryz.func55, Tryz.ntmps55
  go_wp2
  go_loopw [5] (fun i wr => ∃ k : Nat, k ≤ n ∧ i = .int .i64 k ∧ Below w.heap.size w wr) (fun i _ => n - (intOf i).toNat)
  case atStart => exact ⟨0, Nat.zero_le _, rfl, Below.refl _ _⟩
  case round =>
    obtain ⟨k, hk, rfl, hbl⟩ := hrel
    by_cases hlt : k < n
    · obtain ⟨b, off, R, r, rfl, hb, hx, hwf, c0, c1, c2⟩ := FR.get (HI.out.keep hbl) hlt
      obtain ⟨b', off', R', r', rfl, hb', hx', hwf', d0, d1, d2⟩ := FR.get (HI'.out.keep hbl) hlt
      obtain rfl : r = r' := by
        have h1 := congrArg (fun z => z[k]?) HL.out
        simp [hx, hx'] at h1
        exact h1
      have HC := Lib.hid (fun (wx : World) (hb : Below w.heap.size w wx) => laws_eqRule (hwf.keep hb) (hwf'.keep hb))
      clear hx hx' hwf hwf'
      have hlt' : (k : Int) < (n : Int) := by omega
      have hpos : (0 : Int) ≤ (k : Int) := by omega
      go_wp2
      go_region_held3 (fun wx => wx.cell? ⟨b, off + k * 3, none⟩ = some (.string R.nm) ∧ wx.cell? ⟨b, off + k * 3 + 1, none⟩ = some (.slice R.ga R.gn R.gc) ∧ wx.cell? ⟨b, off + k * 3 + 2, none⟩ = some (.slice R.ea R.en R.ec) ∧ wx.cell? ⟨b', off' + k * 3, none⟩ = some (.string R'.nm) ∧ wx.cell? ⟨b', off' + k * 3 + 1, none⟩ = some (.slice R'.ga R'.gn R'.gc) ∧ wx.cell? ⟨b', off' + k * 3 + 2, none⟩ = some (.slice R'.ea R'.en R'.ec) ∧ b < wx.heap.size ∧ b' < wx.heap.size ∧ Below w.heap.size w wx) (((try go_split_ands); (repeat' apply And.intro) <;> first | assumption | exact Blk.keep (by assumption) hbx | exact Blk.drew (by assumption) | exact Blk.drew (Blk.made _ _ _) | exact Below.drew (by assumption) | exact Below.drew (below_allocS (by first | exact Below.refl _ _ | assumption) _) | exact below_callS (by assumption) hbx | exact below_call (by assumption) hbx (Below.size (by assumption)) | exact (hcx _ _ (by assumption)).trans (by assumption) | omega | (simp [*]; done) | (simp; omega))) (first | (go_at_call 112; refine Calls.mono (HC.out _ (by first | assumption | (go_split_ands; assumption))) ?_; rintro e wx2 ⟨rfl, hbx⟩; obtain ⟨hcx, hfx⟩ := bcell hbx; have hsx := hbx.size))
      go_split_ands
      go_wp2
      go_roundw
      case rel => exact ⟨k + 1, by omega, by go_num, by assumption⟩
      case measure => simp [intOf]; omega
    · go_wp2
      go_ret
      exact ⟨rfl, hbl⟩
theorem laws_szInt64S {a : Option Addr} {n c : Nat} {m : Int} {w : World} (hn : (n : Int) ≤ 9223372036854775807) (hm : 0 ≤ m) (hm' : m ≤ 1048576) : Calls Tryz.prog 46 #[.slice a n c, .int .i64 m] w fun e w' => e = .returned (.int .i64 (if m < n then -1 else m - n)) ∧ w = w' := by
  by_cases h : m < (n : Int)
  · rw [if_pos h]
    have h' : m - (n : Int) < 0 := by omega
    go_enter Tryz.func46, Tryz.ntmps46
    go_wp2
    go_ret
    exact ⟨rfl, rfl⟩
  · rw [if_neg h]
    have h' : ¬ m - (n : Int) < 0 := by omega
    go_enter Tryz.func46, Tryz.ntmps46
    go_wp2
    go_ret
    exact ⟨rfl, rfl⟩
set_option maxHeartbeats 1000000 in
theorem laws_szModel {sa ta ra : Option Addr} {sn sc tn tc rn rc : Nat} {l : List (RM × RuD)} {m : Int} {w : World} (hR : FX w w ra rn rc l) (hs : (sn : Int) ≤ 9223372036854775807) (ht : (tn : Int) ≤ 9223372036854775807) (hr : (rn : Int) ≤ 9223372036854775807) (hm : 0 ≤ m) (hm' : m ≤ 1048576) :
    Calls Tryz.prog 9 #[.agg #[.slice sa sn sc, .slice ta tn tc, .slice ra rn rc], .int .i64 m] w fun e w' => e = .returned (.int .i64 (szN m (sn + tn + (rn + need l)))) ∧ Below w.heap.size w w' := by
  have k1 := fun (wx : World) => laws_szInt64S (a := sa) (n := sn) (c := sc) (m := m) (w := wx) hs hm hm'
  by_cases h1 : m < (sn : Int)
  · have HR := Lib.hid (szN_lt (m := m) (x := sn + tn + (rn + need l)) (by omega))
    simp only [if_pos h1] at k1
    have K1 := Lib.hid k1
    clear k1 hR
    go_enter Tryz.func9, Tryz.ntmps9
    go_wp2_with fail
    go_wp2_with fail
    refine Calls.mono ((K1.out _)) ?_
    rintro e _ ⟨rfl, rfl⟩
    go_wp2
    go_ret
    exact ⟨ret_int HR.out.symm, bel⟩
  · simp only [if_neg h1] at k1
    have K1 := Lib.hid k1
    have h1' : ¬ m - (sn : Int) < 0 := by omega
    have k2 := fun (wx : World) => laws_szInt64S (a := ta) (n := tn) (c := tc) (m := m - sn) (w := wx) ht (by omega) (by omega)
    clear k1
    by_cases h2 : m - (sn : Int) < (tn : Int)
    · have HR := Lib.hid (szN_lt (m := m) (x := sn + tn + (rn + need l)) (by omega))
      simp only [if_pos h2] at k2
      have K2 := Lib.hid k2
      clear k2 hR
      go_enter Tryz.func9, Tryz.ntmps9
      go_wp2_with fail
      go_wp2_with fail
      refine Calls.mono ((K1.out _)) ?_
      rintro e _ ⟨rfl, rfl⟩
      go_wp2_with fail
      go_wp2_with fail
      refine Calls.mono ((K2.out _)) ?_
      rintro e _ ⟨rfl, rfl⟩
      go_wp2
      go_ret
      exact ⟨ret_int HR.out.symm, bel⟩
    · simp only [if_neg h2] at k2
      have K2 := Lib.hid k2
      have h2' : ¬ m - (sn : Int) - (tn : Int) < 0 := by omega
      have hFX := hR.keep ((Below.refl _ _).alloc (Nat.le_refl _) (.cells #[.slice sa sn sc, .slice ta tn tc, .slice ra rn rc] 25))
      have hFX2 : FX (w.alloc (.cells #[.slice sa sn sc, .slice ta tn tc, .slice ra rn rc] 25)) (w.alloc (.cells #[.slice sa sn sc, .slice ta tn tc, .slice ra rn rc] 25)) ra rn rc l := by
        refine ⟨hFX.len, hFX.cap, hFX.pos, fun x hx => ?_, hFX.nil⟩
        obtain ⟨q1, q2, q3, q4, q5, q6⟩ := hFX.wf x hx
        exact ⟨q1, q2, q3.keep ((Below.refl _ _).alloc (Nat.le_refl _) _), q4, q5.keep ((Below.refl _ _).alloc (Nat.le_refl _) _), q6⟩
      have k3 := laws_szRuleS (m := m - sn - tn) hFX2 hr (by omega) (by omega)
      have HR := Lib.hid (show szN m (sn + tn + (rn + need l)) = szN (m - sn - tn) (rn + need l) by unfold szN; split <;> split <;> omega)
      have hneg : szN (m - sn - tn) (rn + need l) < 0 ∨ ¬ szN (m - sn - tn) (rn + need l) < 0 := by omega
      have hneg2 : szN (m - sn - tn) (rn + need l) < 0 → szN (m - sn - tn) (rn + need l) = -1 := by unfold szN; split <;> omega
      generalize szN (m - sn - tn) (rn + need l) = q at *
      have K3 := Lib.hid k3
      clear k2 k3 hR hFX hFX2
      rcases hneg with hq | hq
      · obtain rfl := hneg2 hq
        clear hneg2 hq
        go_enter Tryz.func9, Tryz.ntmps9
        go_wp2_with fail
        go_wp2_with fail
        refine Calls.mono ((K1.out _)) ?_
        rintro e _ ⟨rfl, rfl⟩
        go_wp2_with fail
        go_wp2_with fail
        refine Calls.mono ((K2.out _)) ?_
        rintro e _ ⟨rfl, rfl⟩
        go_wp2_with fail
        refine Calls.mono K3.out ?_
        rintro e w1 ⟨rfl, hb1⟩
        go_wp2
        go_ret
        exact ⟨ret_int HR.out.symm, bel⟩
      · clear hneg2
        go_enter Tryz.func9, Tryz.ntmps9
        go_wp2_with fail
        go_wp2_with fail
        refine Calls.mono ((K1.out _)) ?_
        rintro e _ ⟨rfl, rfl⟩
        go_wp2_with fail
        go_wp2_with fail
        refine Calls.mono ((K2.out _)) ?_
        rintro e _ ⟨rfl, rfl⟩
        go_wp2_with fail
        refine Calls.mono K3.out ?_
        rintro e w1 ⟨rfl, hb1⟩
        go_wp2
        go_ret
        exact ⟨ret_int HR.out.symm, bel⟩
set_option maxHeartbeats 2000000 in
theorem laws_toRule {R : RM} {r : RuD} {w : World} (h : RuM w (R, r)) :
    Calls Tryz.prog 106 #[.agg #[.string R.nm, .slice R.ga R.gn R.gc, .slice R.ea R.en R.ec]] w fun e w' => ∃ R' : RM, e = .returned (.agg #[.string R'.nm, .slice R'.ga R'.gn R'.gc, .slice R'.ea R'.en R'.ec]) ∧ Below w.heap.size w w' ∧ R'.nm = r.nm ∧ OwnF 3 I2b.enc I2b.ok 127 w' w.heap.size R'.ga R'.gn R'.gc r.g ∧ OwnF 2 I2.enc I2.ok 199 w' w.heap.size R'.ea R'.en R'.ec r.e := by
  obtain ⟨nm, ga, gn, gc, ea, en, ec⟩ := R
  obtain ⟨e1, h2, hg, hgn, he, hen⟩ := h
  simp only at e1 h2 hg hgn he hen ⊢
  have HG := Lib.hid hg
  have HE := Lib.hid he
  have HN := Lib.hid e1
  clear hg he e1 h2
  go_enter Tryz.func106, Tryz.ntmps106
  go_wp2_with fail
  refine Calls.mono (laws_toTestS (HG.out.keep bel) hgn) ?_
  rintro e w1 ⟨rfl, hb_w1, ho⟩
  obtain ⟨hc_w1, hf_w1⟩ := bcell hb_w1
  have hs_w1 := hb_w1.size
  simp at hs_w1
  have HO := Lib.hid ho
  clear ho
  have hz1 : w.heap.size < w1.heap.size := by omega
  have hz2 : w.heap.size + 1 < w1.heap.size := by omega
  have hz3 : w.heap.size + 1 + 1 < w1.heap.size := by omega
  go_wp2_with fail
  obtain ⟨wB, hwB⟩ : ∃ wB : World, wB = w1.setCell ⟨w.heap.size + 1 + 1, 1, none⟩ (.slice (some ⟨w.heap.size + 1 + 1 + 1, 0, none⟩) gn gn) := ⟨_, rfl⟩
  have hbB : Below w.heap.size w wB := by rw [hwB]; exact bel
  have hsB : wB.heap.size = w1.heap.size := by rw [hwB]; simp
  have ho1 := HO.out
  simp at ho1
  refine Calls.mono (laws_toAssignS (HE.out.keep (by rw [hwB] at hbB; exact hbB)) hen) ?_
  rintro e w2 ⟨rfl, hb_w2, ho2⟩
  obtain ⟨hc_w2, hf_w2⟩ := bcell hb_w2
  have hs_w2 := hb_w2.size
  simp at hs_w2
  have HO2 := Lib.hid ho2
  clear ho2
  go_wp2
  have hz4 : w.heap.size + 1 < w2.heap.size := by omega
  have hz5 : w.heap.size + 1 + 1 < w2.heap.size := by omega
  have hz6 : w.heap.size < w2.heap.size := by omega
  refine bodyPost_ret (v := .agg #[.string nm, .slice (some ⟨w.heap.size + 1 + 1 + 1, 0, none⟩) gn gn, .slice (some ⟨w1.heap.size, 0, none⟩) en en]) (by simp [results, Tryz.results106, go_sem, hc_w1, hf_w1, hc_w2, hf_w2, hz1, hz2, hz3, hz4, hz5, hz6]) rfl ⟨⟨nm, some ⟨w.heap.size + 1 + 1 + 1, 0, none⟩, gn, gn, some ⟨w1.heap.size, 0, none⟩, en, en⟩, rfl, bel, HN.out, ?_, ?_⟩
  · refine OwnF.le (base := w.heap.size + 1 + 1 + 1) ?_ (by omega)
    repeat (refine OwnF.keepG ?_ (set_grown _ _ _) (by intro g hg; simp at hg ⊢; omega))
    refine OwnF.keep ?_ hb_w2
    repeat (refine OwnF.keepG ?_ (set_grown _ _ _) (by intro g hg; simp at hg ⊢; omega))
    exact ho1
  · have h := HO2.out
    simp at h
    refine OwnF.le (base := w1.heap.size) ?_ (by omega)
    repeat (refine OwnF.keepG ?_ (set_grown _ _ _) (by intro g hg; simp at hg ⊢; omega))
    exact h
theorem OwnF.typ {α : Type} {k : Nat} {enc : α → List Value} {ok : α → Prop} {E : TypeId} {w : World} {base : Nat} {a : Option Addr} {n c : Nat} {l : List α} (h : OwnF k enc ok E w base a n c l) {g : Nat} (e : a = some ⟨g, 0, none⟩) : ∃ cur, w.heap[g]? = some (.cells cur E (0, 0)) := by
  subst e
  rcases h.1.2 with ⟨he, _⟩ | ⟨g', cap, cur, he, hb, hg, _⟩
  · simp only [Value.slice.injEq] at he; cases he.1
  · simp only [Value.slice.injEq, Option.some.injEq, Addr.mk.injEq] at he
    obtain ⟨⟨rfl, _⟩, _⟩ := he
    exact ⟨cur, hg⟩
theorem OwnI.typ {E : TypeId} {w : World} {base : Nat} {a : Option Addr} {n c : Nat} {l : List Int} (h : OwnI E w base a n c l) {g : Nat} (e : a = some ⟨g, 0, none⟩) : ∃ cur, w.heap[g]? = some (.cells cur E (0, 0)) := by
  subst e
  rcases h.1.2 with ⟨he, _⟩ | ⟨g', cap, cur, he, hb, hg, _⟩
  · simp only [Value.slice.injEq] at he; cases he.1
  · simp only [Value.slice.injEq, Option.some.injEq, Addr.mk.injEq] at he
    obtain ⟨⟨rfl, _⟩, _⟩ := he
    exact ⟨cur, hg⟩
theorem typ_apart {w : World} {a a' : Option Addr} {E E' : TypeId} (h : ∀ {g : Nat}, a = some ⟨g, 0, none⟩ → ∃ cur, w.heap[g]? = some (.cells cur E (0, 0))) (h' : ∀ {g : Nat}, a' = some ⟨g, 0, none⟩ → ∃ cur, w.heap[g]? = some (.cells cur E' (0, 0))) (hE : E ≠ E') : Apart a a' := fun g e e' => by
  obtain ⟨c1, h1⟩ := h e
  obtain ⟨c2, h2⟩ := h' e'
  rw [h1] at h2
  simp at h2
  exact hE h2.2
theorem flat_set31 {α : Type} {enc : α → List Value} (hk : ∀ x, (enc x).length = 3) {l : List α} {i : Nat} {x y : α} {u0 v0 v1 v2 : Value} (hy : l[i]? = some y) (he : enc y = [u0, v1, v2]) (hx : enc x = [v0, v1, v2]) :
    (l.flatMap enc).set (i * 3) v0 = (l.set i x).flatMap enc := by
  have hi : i < l.length := (List.getElem?_eq_some_iff.1 hy).1
  obtain ⟨h1, h2, h3⟩ := flat_set hk hi x y hy
  rw [h1, h2, he, hx, List.set_append_right _ _ (by omega), h3]; simp
theorem OwnF.set31 {α : Type} {enc : α → List Value} {ok : α → Prop} {E : TypeId} {w : World} {base g : Nat} {n c : Nat} {l : List α} (h : OwnF 3 enc ok E w base (some ⟨g, 0, none⟩) n c l) {i : Nat} {x y : α} {u0 v0 v1 v2 : Value} (hy : l[i]? = some y) (he : enc y = [u0, v1, v2]) (hx : enc x = [v0, v1, v2]) (hok : ok x) :
    OwnF 3 enc ok E (w.setCell ⟨g, i * 3, none⟩ v0) base (some ⟨g, 0, none⟩) n c (l.set i x) := by
  obtain ⟨h1, h2, h3, h4⟩ := h
  refine ⟨?_, fun z hz => ?_, by simpa using h3, h4⟩
  · rw [← flat_set31 h4 hy he hx]
    exact (h1.stored (i * 3) v0).1
  · rcases List.mem_or_eq_of_mem_set hz with h1 | h1
    · exact h2 z h1
    · rw [h1]; exact hok
abbrev OwnT := OwnF 3 I2b.enc I2b.ok 127
abbrev OwnA := OwnF 2 I2.enc I2.ok 199
/-- a rule whose parts are the call's own -/
structure RO (w : World) (lo : Nat) (x : RM × RuD) : Prop where
  nm : x.1.nm = x.2.nm
  nms : x.2.nm.size ≤ maxLen
  g : OwnT w lo x.1.ga x.1.gn x.1.gc x.2.g
  gn : x.1.gn ≤ 1048576
  e : OwnA w lo x.1.ea x.1.en x.1.ec x.2.e
  en : x.1.en ≤ 1048576
/-- a slice of rules that is the call's own -/
structure ROwn (w : World) (lo : Nat) (a : Option Addr) (n c : Nat) (l : List (RM × RuD)) : Prop where
  row : OwnF 3 encR (fun _ => True) 149 w lo a n c l
  each : ∀ x ∈ l, RO w lo x
  apart : ∀ (i j : Nat) (x y : RM × RuD), l[i]? = some x → l[j]? = some y → i ≠ j → Apart x.1.ga y.1.ga ∧ Apart x.1.ea y.1.ea
theorem RO.rum {w : World} {lo : Nat} {x : RM × RuD} (h : RO w lo x) : RuM w x := ⟨h.nm, h.nms, h.g.flats, h.gn, h.e.flats, h.en⟩
theorem ROwn.fr {w : World} {lo : Nat} {a : Option Addr} {n c : Nat} {l : List (RM × RuD)} (h : ROwn w lo a n c l) : FR w w a n c l := by
  have hf := h.row.flats
  exact ⟨hf.len, hf.cap, hf.pos, fun x hx => (h.each x hx).rum, hf.nil⟩
theorem RO.keep {w w' : World} {lo : Nat} {x : RM × RuD} (h : RO w lo x) (hb : Below w.heap.size w w') : RO w' lo x := ⟨h.nm, h.nms, h.g.keep hb, h.gn, h.e.keep hb, h.en⟩
theorem ROwn.keep {w w' : World} {lo : Nat} {a : Option Addr} {n c : Nat} {l : List (RM × RuD)} (h : ROwn w lo a n c l) (hb : Below w.heap.size w w') : ROwn w' lo a n c l :=
  ⟨h.row.keep hb, fun x hx => (h.each x hx).keep hb, h.apart⟩
theorem RO.le {w : World} {lo lo' : Nat} {x : RM × RuD} (h : RO w lo x) (hl : lo' ≤ lo) : RO w lo' x := ⟨h.nm, h.nms, h.g.le hl, h.gn, h.e.le hl, h.en⟩
theorem ROwn.le {w : World} {lo lo' : Nat} {a : Option Addr} {n c : Nat} {l : List (RM × RuD)} (h : ROwn w lo a n c l) (hl : lo' ≤ lo) : ROwn w lo' a n c l :=
  ⟨h.row.le hl, fun x hx => (h.each x hx).le hl, h.apart⟩
/-- all blocks of a slice of rules lie from lo on below hi -/
def inI (lo hi : Nat) (a : Option Addr) : Prop := ∀ g, a = some ⟨g, 0, none⟩ → lo ≤ g ∧ g < hi
def RBd (lo hi : Nat) (a : Option Addr) (l : List (RM × RuD)) : Prop := inI lo hi a ∧ ∀ x ∈ l, inI lo hi x.1.ga ∧ inI lo hi x.1.ea
theorem ROwn.bd {w : World} {lo : Nat} {a : Option Addr} {n c : Nat} {l : List (RM × RuD)} (h : ROwn w lo a n c l) : RBd lo w.heap.size a l :=
  ⟨h.row.blk, fun x hx => ⟨(h.each x hx).g.blk, (h.each x hx).e.blk⟩⟩
theorem ROwn.here {lo lo' hi : Nat} {a : Option Addr} {n c : Nat} {l : List (RM × RuD)} (bd : RBd lo' hi a l) (w1 w2 : World) (hk : ∀ k, lo' ≤ k → k < hi → w2.heap[k]? = w1.heap[k]?) (h : ROwn w1 lo a n c l) : ROwn w2 lo a n c l :=
  ⟨OwnF.here bd.1 w1 w2 hk h.row, fun x hx => by
    have hh := h.each x hx
    exact ⟨hh.nm, hh.nms, OwnF.here (bd.2 x hx).1 w1 w2 hk hh.g, hh.gn, OwnF.here (bd.2 x hx).2 w1 w2 hk hh.e, hh.en⟩, h.apart⟩
theorem ROwn.own {w : World} {lo : Nat} {a : Option Addr} {n c : Nat} {l : List (RM × RuD)} (h : ROwn w lo a n c l) : Own (fun w => ROwn w lo a n c l) lo w.heap.size w := ⟨h, Nat.le_refl _, ROwn.here h.bd⟩
theorem encR_len (x : RM × RuD) : (encR x).length = 3 := rfl
theorem get_set {α : Type} {l : List α} {i j : Nat} {x y : α} (h : (l.set i x)[j]? = some y) : (j = i ∧ y = x) ∨ (j ≠ i ∧ l[j]? = some y) := by
  rw [List.getElem?_set] at h
  split at h
  · split at h
    · rename_i e _
      exact .inl ⟨e.symm, by simpa using h.symm⟩
    · cases h
  · rename_i e
    exact .inr ⟨fun e' => e e'.symm, h⟩
/-- the blocks of a row of rules stay apart where a rule changes in what it means alone -/
theorem apart_set {l : List (RM × RuD)} {i : Nat} {x y : RM × RuD} (hy : l[i]? = some y) (hg : x.1.ga = y.1.ga) (he : x.1.ea = y.1.ea)
    (h : ∀ (i j : Nat) (x y : RM × RuD), l[i]? = some x → l[j]? = some y → i ≠ j → Apart x.1.ga y.1.ga ∧ Apart x.1.ea y.1.ea) :
    ∀ (i' j : Nat) (x' y' : RM × RuD), (l.set i x)[i']? = some x' → (l.set i x)[j]? = some y' → i' ≠ j → Apart x'.1.ga y'.1.ga ∧ Apart x'.1.ea y'.1.ea := by
  intro i' j x' y' h1 h2 hij
  rcases get_set h1 with ⟨rfl, rfl⟩ | ⟨e1, k1⟩ <;> rcases get_set h2 with ⟨rfl, rfl⟩ | ⟨e2, k2⟩
  · exact absurd rfl hij
  · rw [hg, he]; exact h _ _ _ _ hy k2 hij
  · rw [hg, he]; exact h _ _ _ _ k1 hy hij
  · exact h _ _ _ _ k1 k2 hij
theorem bd_set {lo hi : Nat} {a : Option Addr} {l : List (RM × RuD)} {i : Nat} {x y : RM × RuD} (hy : l[i]? = some y) (hg : x.1.ga = y.1.ga) (he : x.1.ea = y.1.ea) (h : RBd lo hi a l) : RBd lo hi a (l.set i x) :=
  ⟨h.1, fun z hz => by
    rcases List.mem_or_eq_of_mem_set hz with h1 | h1
    · exact h.2 z h1
    · subst h1; rw [hg, he]; exact h.2 y (List.mem_of_getElem? hy)⟩
/-- a rule's name is written -/
theorem ROwn.setNm {w : World} {lo g : Nat} {n c : Nat} {l : List (RM × RuD)} (h : ROwn w lo (some ⟨g, 0, none⟩) n c l) {i : Nat} {R : RM} {r : RuD} (hy : l[i]? = some (R, r)) (s : ByteArray) (hs : s.size ≤ maxLen) :
    ROwn (w.setCell ⟨g, i * 3, none⟩ (.string s)) lo (some ⟨g, 0, none⟩) n c (l.set i ({ R with nm := s }, { r with nm := s })) := by
  have hm := List.mem_of_getElem? hy
  have sg := set_grown (w := w) g (i * 3) (.string s)
  have hG : ∀ x ∈ l, OwnT (w.setCell ⟨g, i * 3, none⟩ (.string s)) lo x.1.ga x.1.gn x.1.gc x.2.g := fun x hx => (h.each x hx).g.keepG sg fun g' e' e'' => by
    cases e''; exact typ_apart h.row.typ (h.each x hx).g.typ (by decide) g rfl e'
  have hE : ∀ x ∈ l, OwnA (w.setCell ⟨g, i * 3, none⟩ (.string s)) lo x.1.ea x.1.en x.1.ec x.2.e := fun x hx => (h.each x hx).e.keepG sg fun g' e' e'' => by
    cases e''; exact typ_apart h.row.typ (h.each x hx).e.typ (by decide) g rfl e'
  refine ⟨h.row.set31 hy (show encR (R, r) = [_, _, _] from rfl) rfl trivial, fun x hx => ?_, apart_set hy rfl rfl h.apart⟩
  rcases List.mem_or_eq_of_mem_set hx with h1 | h1
  · exact ⟨(h.each x h1).nm, (h.each x h1).nms, hG x h1, (h.each x h1).gn, hE x h1, (h.each x h1).en⟩
  · subst h1
    exact ⟨rfl, hs, hG (R, r) hm, (h.each _ hm).gn, hE (R, r) hm, (h.each _ hm).en⟩
/-- a rule's guard is written -/
theorem ROwn.setG {w w' : World} {lo : Nat} {a : Option Addr} {n c m : Nat} {l : List (RM × RuD)} (h : ROwn w lo a n c l) {i : Nat} {R : RM} {r : RuD} (hy : l[i]? = some (R, r)) (ht : Touch w w' m R.ga) {g' : List I2b} (hg : OwnT w' lo R.ga R.gn R.gc g') :
    ROwn w' lo a n c (l.set i (R, { r with g := g' })) := by
  have hm := List.mem_of_getElem? hy
  have hr : OwnF 3 encR (fun _ => True) 149 w' lo a n c l := h.row.keepT ht (typ_apart h.row.typ (h.each _ hm).g.typ (by decide))
  have hE : ∀ x ∈ l, OwnA w' lo x.1.ea x.1.en x.1.ec x.2.e := fun x hx => (h.each x hx).e.keepT ht (typ_apart (h.each x hx).e.typ (h.each _ hm).g.typ (by decide))
  have hfl : (l.set i (R, { r with g := g' })).flatMap encR = l.flatMap encR := by
    obtain ⟨h1, h2, _⟩ := flat_set encR_len (List.getElem?_eq_some_iff.1 hy).1 (R, { r with g := g' }) (R, r) hy
    rw [h1, h2]; rfl
  refine ⟨⟨by rw [hfl]; exact hr.1, fun _ _ => trivial, by rw [List.length_set]; exact hr.2.2.1, hr.2.2.2⟩, fun x hx => ?_, apart_set hy rfl rfl h.apart⟩
  obtain ⟨j, hj⟩ := List.getElem?_of_mem hx
  rcases get_set hj with ⟨rfl, rfl⟩ | ⟨e1, h1⟩
  · have hh := h.each _ hm
    exact ⟨hh.nm, hh.nms, hg, hh.gn, hE (R, r) hm, hh.en⟩
  · have hmx := List.mem_of_getElem? h1
    have hh := h.each _ hmx
    exact ⟨hh.nm, hh.nms, hh.g.keepT ht (h.apart _ _ _ _ h1 hy e1).1, hh.gn, hE _ hmx, hh.en⟩
/-- a rule's effect is written -/
theorem ROwn.setE {w w' : World} {lo : Nat} {a : Option Addr} {n c m : Nat} {l : List (RM × RuD)} (h : ROwn w lo a n c l) {i : Nat} {R : RM} {r : RuD} (hy : l[i]? = some (R, r)) (ht : Touch w w' m R.ea) {e' : List I2} (he : OwnA w' lo R.ea R.en R.ec e') :
    ROwn w' lo a n c (l.set i (R, { r with e := e' })) := by
  have hm := List.mem_of_getElem? hy
  have hr : OwnF 3 encR (fun _ => True) 149 w' lo a n c l := h.row.keepT ht (typ_apart h.row.typ (h.each _ hm).e.typ (by decide))
  have hG : ∀ x ∈ l, OwnT w' lo x.1.ga x.1.gn x.1.gc x.2.g := fun x hx => (h.each x hx).g.keepT ht (typ_apart (h.each x hx).g.typ (h.each _ hm).e.typ (by decide))
  have hfl : (l.set i (R, { r with e := e' })).flatMap encR = l.flatMap encR := by
    obtain ⟨h1, h2, _⟩ := flat_set encR_len (List.getElem?_eq_some_iff.1 hy).1 (R, { r with e := e' }) (R, r) hy
    rw [h1, h2]; rfl
  refine ⟨⟨by rw [hfl]; exact hr.1, fun _ _ => trivial, by rw [List.length_set]; exact hr.2.2.1, hr.2.2.2⟩, fun x hx => ?_, apart_set hy rfl rfl h.apart⟩
  obtain ⟨j, hj⟩ := List.getElem?_of_mem hx
  rcases get_set hj with ⟨rfl, rfl⟩ | ⟨e1, h1⟩
  · have hh := h.each _ hm
    exact ⟨hh.nm, hh.nms, hG (R, r) hm, hh.gn, he, hh.en⟩
  · have hmx := List.mem_of_getElem? h1
    have hh := h.each _ hmx
    exact ⟨hh.nm, hh.nms, hG _ hmx, hh.gn, hh.e.keepT ht (h.apart _ _ _ _ h1 hy e1).2, hh.en⟩
/-- a rule made since is laid in -/
theorem ROwn.put {w w' : World} {lo g : Nat} {n c : Nat} {l : List (RM × RuD)} (h : ROwn w lo (some ⟨g, 0, none⟩) n c l) (hb : Below w.heap.size w w') {i : Nat} (hi : i < n) {x : RM × RuD} (hx : RO w' w.heap.size x) (hlo : lo ≤ w.heap.size) {v0 v1 v2 : Value} (he : encR x = [v0, v1, v2]) :
    ROwn (((w'.setCell ⟨g, i * 3, none⟩ v0).setCell ⟨g, i * 3 + 1, none⟩ v1).setCell ⟨g, i * 3 + 2, none⟩ v2) lo (some ⟨g, 0, none⟩) n c (l.set i x) := by
  have h' := h.keep hb
  have hg := h'.row.blk g rfl
  have hg0 := h.row.blk g rfl
  have sg : w'.grownBy (((w'.setCell ⟨g, i * 3, none⟩ v0).setCell ⟨g, i * 3 + 1, none⟩ v1).setCell ⟨g, i * 3 + 2, none⟩ v2) (some g) := grownBy_set (grownBy_set (set_grown g _ _) _ _) _ _
  refine ⟨h'.row.set3 hi trivial he, fun y hy => ?_, ?_⟩
  · rcases List.mem_or_eq_of_mem_set hy with h1 | h1
    · have hh := h'.each y h1
      exact ⟨hh.nm, hh.nms, hh.g.keepG sg fun g' e' e'' => by cases e''; exact typ_apart h'.row.typ hh.g.typ (by decide) g rfl e', hh.gn, hh.e.keepG sg fun g' e' e'' => by cases e''; exact typ_apart h'.row.typ hh.e.typ (by decide) g rfl e', hh.en⟩
    · subst h1
      have hx' := hx.le hlo
      exact ⟨hx.nm, hx.nms, hx'.g.keepG sg fun g' e' e'' => by cases e''; have := (hx.g.blk g e').1; omega, hx.gn, hx'.e.keepG sg fun g' e' e'' => by cases e''; have := (hx.e.blk g e').1; omega, hx.en⟩
  · intro i' j x' y' h1 h2 hij
    rcases get_set h1 with ⟨rfl, rfl⟩ | ⟨e1, k1⟩ <;> rcases get_set h2 with ⟨rfl, rfl⟩ | ⟨e2, k2⟩
    · exact absurd rfl hij
    · have hh := h.each _ (List.mem_of_getElem? k2)
      exact ⟨Apart.symm (Apart.of (fun q e => (hh.g.blk q e).2) (fun q e => (hx.g.blk q e).1)), Apart.symm (Apart.of (fun q e => (hh.e.blk q e).2) (fun q e => (hx.e.blk q e).1))⟩
    · have hh := h.each _ (List.mem_of_getElem? k1)
      exact ⟨Apart.of (fun q e => (hh.g.blk q e).2) (fun q e => (hx.g.blk q e).1), Apart.of (fun q e => (hh.e.blk q e).2) (fun q e => (hx.e.blk q e).1)⟩
    · exact h.apart _ _ _ _ k1 k2 hij
theorem Tryz.infoRule : (Tryz.prog.info? 149).map (fun i => (i.zero, i.size, i.bytes)) = some (some (.agg #[.string ⟨#[]⟩, .slice none 0 0, .slice none 0 0]), 3, 64) := by kernel_rfl
def zR : RM × RuD := (⟨⟨#[]⟩, none, 0, 0, none, 0, 0⟩, ⟨⟨#[]⟩, [], []⟩)
theorem OwnF.nil {α : Type} {k : Nat} {enc : α → List Value} {ok : α → Prop} (hk : ∀ x, (enc x).length = k) (E : TypeId) (w : World) (base : Nat) : OwnF k enc ok E w base none 0 0 [] := ⟨World.ownsRow_nil w base E k, (fun _ h => by cases h), rfl, hk⟩
theorem RO.zero (w : World) (lo : Nat) : RO w lo zR := ⟨rfl, Nat.zero_le _, OwnF.nil (enc := I2b.enc) (fun _ => rfl) _ _ _, Nat.zero_le _, OwnF.nil (enc := I2.enc) (fun _ => rfl) _ _ _, Nat.zero_le _⟩
theorem fill_set {α : Type} {l' : List α} {k n : Nat} {x z : α} (hl : l'.length = k) (hk : k < n) : (l' ++ List.replicate (n - k) z).set k x = (l' ++ [x]) ++ List.replicate (n - (k + 1)) z := by
  rw [List.set_append_right _ _ (by omega), hl, Nat.sub_self, show n - k = (n - (k + 1)) + 1 from by omega, List.replicate_succ]
  simp
set_option maxHeartbeats 2000000 in
theorem laws_toRuleS {a : Option Addr} {n c : Nat} {l : List (RM × RuD)} {w : World} (hI : FR w w a n c l) (hn : n ≤ 1048576) :
    Calls Tryz.prog 51 #[.slice a n c] w fun e w' => ∃ l', e = .returned (.slice (some ⟨w.heap.size, 0, none⟩) n n) ∧ Below w.heap.size w w' ∧ ROwn w' w.heap.size (some ⟨w.heap.size, 0, none⟩) n n l' ∧ l'.map (·.2) = l.map (·.2) := by
  obtain ⟨i0, hi, hz0, hz1, hz2⟩ := info_parts Tryz.infoRule
  obtain ⟨w1, hmk, hown, hgr⟩ := run_make_full (P := Tryz.prog) w w.heap.size 34 149 i0 (.agg #[.string ⟨#[]⟩, .slice none 0 0, .slice none 0 0]) 3 Tryz.underlying34 hi hz0 hz1 .i64 .i64 n (by rw [hz2]; omega) (by unfold maxLen; omega) (Nat.le_refl _)
  have hb1 : Below w.heap.size w w1 := (Below.refl _ _).grown hgr (Nat.le_refl _) (fun k h => by cases h)
  have ho : ROwn w1 w.heap.size (some ⟨w.heap.size, 0, none⟩) n n ([] ++ List.replicate (n - 0) zR) := by
    refine ⟨⟨?_, fun _ _ => trivial, by simp, encR_len⟩, fun x hx => ?_, fun i j x y hx hy _ => ?_⟩
    · rw [show n * 3 = n * (Value.cells (.agg #[.string ⟨#[]⟩, .slice none 0 0, .slice none 0 0])).size from rfl, flat_replicate (enc := encR) (z := zR) (zc := Value.cells (.agg #[.string ⟨#[]⟩, .slice none 0 0, .slice none 0 0])) rfl (by decide)] at hown
      simpa using hown
    · simp at hx; rw [hx.2]; exact RO.zero _ _
    · have h1 := List.mem_of_getElem? hx
      simp at h1
      rw [h1.2]
      exact ⟨(fun g e _ => by cases e), (fun g e _ => by cases e)⟩
  have HI := Lib.hid hI
  have HO := Lib.hid ho
  clear hI ho hown hgr hi hz0 hz1 hz2
  go_enter Tryz.func51, Tryz.ntmps51
  go_wp2
  clear hmk
  go_loopw [4] (fun i wr => ∃ (k : Nat) (l' : List (RM × RuD)), k ≤ n ∧ i = .int .i64 k ∧ Below w.heap.size w wr ∧ Hid (l'.length = k ∧ l'.map (·.2) = (l.take k).map (·.2)) ∧ Hid (ROwn wr w.heap.size (some ⟨w.heap.size, 0, none⟩) n n (l' ++ List.replicate (n - k) zR))) (fun i _ => n - (intOf i).toNat)
  case atStart => exact ⟨0, [], Nat.zero_le _, rfl, hb1, ⟨rfl, by simp⟩, HO.out⟩
  case round =>
    obtain ⟨k, l', hk, rfl, hbl, hL, hO⟩ := hrel
    by_cases hlt : k < n
    · obtain ⟨b, off, R, r, rfl, hb, hx, hwf, c0, c1, c2⟩ := FR.get (HI.out.keep hbl) hlt
      have Hx := Lib.hid hx
      have hne : b ≠ w.heap.size := by
        have := HI.out.pos
        rcases this with h0 | ⟨b', off', he, hb', _⟩
        · omega
        · simp at he; omega
      have HR := Lib.hid (hwf.keep hbl)
      have hgn : R.gn = r.g.length := hwf.2.2.1.len.symm
      have hen : R.en = r.e.length := hwf.2.2.2.2.1.len.symm
      have HN := Lib.hid (show R.gn ≤ 1048576 ∧ R.en ≤ 1048576 ∧ r.nm.size ≤ maxLen ∧ R.gn = r.g.length ∧ R.en = r.e.length from ⟨hwf.2.2.2.1, hwf.2.2.2.2.2, hwf.2.1, hgn, hen⟩)
      clear hx hwf hgn hen
      go_wp2_with fail
      refine Calls.mono (laws_toRule HR.out) ?_
      rintro e w2 ⟨R', rfl, hb2, en', og, oe⟩
      have hx' : RO w2 wr.heap.size (R', r) := ⟨en', HN.out.2.2.1, og, by have h1 := og.len; have h2 := HN.out; simp only; omega, oe, by have h1 := oe.len; have h2 := HN.out; simp only; omega⟩
      have HX := Lib.hid hx'
      have HP := Lib.hid (fun v0 v1 v2 he => hO.out.put hb2 hlt hx' hbl.size (v0 := v0) (v1 := v1) (v2 := v2) he)
      have hO2 := Lib.hid (hO.out.keep hb2)
      have hbl2 := below_call hbl hb2 hbl.size
      have hl9 := hO2.out.row.flats
      obtain ⟨_, _, y, h1, _, _, _, hcs⟩ := hl9.at hlt
      simp only [Option.some.injEq, Addr.mk.injEq, and_true] at h1
      obtain ⟨rfl, rfl⟩ := h1
      have d0 := hcs 0 _ rfl
      have d1 := hcs 1 _ rfl
      have d2 := hcs 2 _ rfl
      simp only [Nat.zero_add, Nat.add_zero] at d0 d1 d2
      have hfz := hO2.out.row.free
      have hlt2 := (hO2.out.row.blk _ rfl).2
      clear hb2 hx' og oe hcs hl9 en'
      go_wp2
      go_roundw
      case rel => exact ⟨k + 1, l' ++ [(R', r)], by omega, by go_num, bel, ⟨by have := hL.out.1; simp; omega, by rw [take_at Hx.out, List.map_append, List.map_append, hL.out.2]; rfl⟩, by have := HP.out _ _ _ rfl; rw [fill_set hL.out.1 hlt] at this; exact this⟩
      case measure => simp [intOf]; omega
    · go_wp2
      go_ret
      have e : k = n := by omega
      have h1 := hO.out
      have h2 := hL.out
      rw [e, Nat.sub_self, List.replicate_zero, List.append_nil] at h1
      rw [e, take_len HI.out.len] at h2
      exact ⟨rfl, hbl, l', h1, h2.2⟩
set_option maxHeartbeats 1000000 in
theorem laws_markTestS {a : Option Addr} {n c base : Nat} {l : List I2b} {q : Int} {w : World} (hI : OwnT w base a n c l) (hn : n ≤ 1048576) (hq0 : 0 ≤ q) (hq1 : q ≤ 1099511627776) :
    Calls Tryz.prog 115 #[.slice a n c, .int .i64 q] w fun e w' => e = .returned (.int .i64 (q + 3 * n)) ∧ Touch w w' n a ∧ OwnT w' base a n c (marks2b q n) := by
  by_cases hn0 : n = 0
  · subst hn0
    have HI := Lib.hid hI
    have hl : l = marks2b q 0 := by have := hI.len; cases l with | nil => rfl | cons => simp at this
    subst hl
    clear hI
    go_enter Tryz.func115, Tryz.ntmps115
    go_wp2
    go_loopw [1, 5] (fun s1 s5 wr => s1 = .int .i64 q ∧ s5 = .int .i64 0 ∧ wr = w) (fun _ _ _ => 0)
    case atStart => exact ⟨rfl, rfl, rfl⟩
    case round =>
      obtain ⟨rfl, rfl, rfl⟩ := hrel
      go_wp2
      go_ret
      exact ⟨ret_int (by omega), ⟨none, grownBy_refl _ _, fun _ h => by cases h⟩, HI.out⟩
  · obtain ⟨g, rfl⟩ := hI.shape (by omega)
    have HI := Lib.hid (show OwnT w base (some ⟨g, 0, none⟩) n c ((marks2b q n).take 0 ++ l.drop 0) by simpa using hI)
    have hlen := hI.len
    have Hlen := Lib.hid hlen
    clear hI hlen
    go_enter Tryz.func115, Tryz.ntmps115
    go_wp2
    go_loopw [1, 5] (fun s1 s5 wr => ∃ j : Nat, j ≤ n ∧ s1 = .int .i64 (q + 3 * j) ∧ s5 = .int .i64 j ∧ w.grownBy wr (some g) ∧ Hid (OwnT wr base (some ⟨g, 0, none⟩) n c ((marks2b q n).take j ++ l.drop j))) (fun _ s5 _ => n - (intOf s5).toNat)
    case atStart => exact ⟨0, Nat.zero_le _, by simp, rfl, grownBy_refl _ _, HI.out⟩
    case round =>
      obtain ⟨j, hj, rfl, rfl, hg, hO⟩ := hrel
      by_cases hlt : j < n
      · obtain ⟨_, _, y, h1, _, _, _, hc0, hc1, hc2⟩ := F2b.get hO.out.flats hlt
        simp only [Option.some.injEq, Addr.mk.injEq, and_true] at h1
        obtain ⟨rfl, rfl⟩ := h1
        simp only [Nat.zero_add] at hc0 hc1 hc2
        have hfz := hO.out.free
        go_wp2
        go_roundw
        case rel =>
          refine ⟨j + 1, by omega, by go_num, by go_num, ?_, ?_⟩
          · repeat (first | exact hg | refine grownBy_set ?_ _ _)
          · have := OwnF.set3 hO.out hlt (x := ⟨q + 3 * (j : Int), q + 3 * (j : Int) + 1, (q + 3 * (j : Int) + 1 + 1) % 3 == 0⟩) (by simp only [I2b.ok, I64]; omega) rfl
            rw [show (⟨q + 3 * (j : Int), q + 3 * (j : Int) + 1, (q + 3 * (j : Int) + 1 + 1) % 3 == 0⟩ : I2b) = (fun i : Nat => (⟨q + 3 * (i : Int), q + 3 * (i : Int) + 1, (q + 3 * (i : Int) + 1 + 1) % 3 == 0⟩ : I2b)) j from rfl, marks2b, mix_set hlt Hlen.out] at this
            exact this
        case measure => simp [intOf]; omega
      · go_wp2
        go_ret
        have e : j = n := by omega
        have h1 := hO.out
        rw [e, List.drop_of_length_le (by have := Hlen.out; omega), List.append_nil, List.take_of_length_le (by simp [marks2b])] at h1
        exact ⟨ret_int (by rw [e]), ⟨_, hg, fun b hb => by cases hb; exact ⟨by omega, rfl⟩⟩, h1⟩
end Go.Proofs.YtkaikbaagajckaaGreat
