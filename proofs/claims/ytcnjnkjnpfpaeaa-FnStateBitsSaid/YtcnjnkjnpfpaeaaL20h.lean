/- Valid models, walked: the program. -/
import Derived.Test.YtcnjnkjnpfpaeaaL20g
namespace Go.Proofs.Ytcnjnkjnpfpaeaa
open Go.RowKit
set_option linter.unusedVariables false
set_option linter.unusedSimpArgs false
/-- a rule in memory reads as a rule, in the world w0 -/
def RuM (w0 : World) (x : RM × RuD) : Prop := x.1.nm = x.2.nm ∧ x.2.nm.size ≤ maxLen ∧ F2b w0 x.1.ga x.1.gn x.1.gc x.2.g ∧ x.1.gn ≤ 1048576 ∧ F2 w0 x.1.ea x.1.en x.1.ec x.2.e ∧ x.1.en ≤ 1048576
def encR (x : RM × RuD) : List Value := x.1.enc
/-- a slice of rules: its cells in w, what they point at in w0 -/
abbrev FR (w0 : World) := Flats 3 encR (RuM w0)
theorem FR.get {w0 w : World} {a : Option Addr} {n c : Nat} {l : List (RM × RuD)} (h : FR w0 w a n c l) {i : Nat} (hi : i < n) :
    ∃ b off R r, a = some ⟨b, off, none⟩ ∧ b < w.heap.size ∧ l[i]? = some (R, r) ∧ RuM w0 (R, r) ∧ w.cell? ⟨b, off + i * 3, none⟩ = some (.string R.nm) ∧ w.cell? ⟨b, off + i * 3 + 1, none⟩ = some (.slice R.ga R.gn R.gc) ∧ w.cell? ⟨b, off + i * 3 + 2, none⟩ = some (.slice R.ea R.en R.ec) := by
  obtain ⟨b, off, x, h1, h2, h3, h4, h5⟩ := h.at hi
  exact ⟨b, off, x.1, x.2, h1, h2, h3, h4, h5 0 _ rfl, h5 1 _ rfl, h5 2 _ rfl⟩
def rulesB (sz : List Int) (l : List (RM × RuD)) : Bool := l.all fun x => ruleB sz x.2
def modelB (sz st : List Int) (l : List (RM × RuD)) : Bool := inB (sz.length : Int) 1 16 && (allIn 1 32 sz && (stateB sz st && (decide (l.length ≤ 200) && rulesB sz l)))
theorem rulesB_any {sz : List Int} {l : List (RM × RuD)} : rulesB sz l = !(l.any fun x => !ruleB sz x.2) := by
  rw [rulesB, List.not_any_eq_all_not]; simp
theorem allIn_any {lo hi : Int} {l : List Int} : (l.any fun x => !inB x lo hi) = !allIn lo hi l := by
  rw [allIn, List.not_all_eq_any_not]
theorem impl_IsModel_1 {x : Int} {w : World} : Calls Try.prog 44 #[.int .i64 x] w fun e w' => e = .returned (.bool (!inB x 1 32)) ∧ w = w' := by
  go_enter Try.func44, Try.ntmps44
  go_wp2_with fail
  refine Calls.mono (impl_within) ?_
  rintro e _ ⟨rfl, rfl⟩
  go_wp2
  go_ret
  exact ⟨rfl, rfl⟩
set_option maxHeartbeats 1000000 in
theorem impl_IsModel_2 {x : RM × RuD} {B : Nat} {sa ta ra : Option Addr} {sn sc tn tc rn rc : Nat} {sz : List Int} {w0 w : World} (hB : Blk w B #[.slice sa sn sc, .slice ta tn tc, .slice ra rn rc] 27) (hI : Ints w sa sn sc sz) (hn : sn ≤ 1048576) (hs : allIn 1 32 sz = true) (hR : RuM w0 x) (hb0 : Below w0.heap.size w0 w) :
    Calls Try.prog 46 (#[.agg (encR x).toArray] ++ #[.pointer (some ⟨B, 0, none⟩)]) w fun e w' => e = .returned (.bool (!ruleB sz x.2)) ∧ Below w.heap.size w w' := by
  obtain ⟨R, r⟩ := x
  obtain ⟨e1, h2, hg, hgn, he, hen⟩ := hR
  simp only at e1 h2 hg hgn he hen
  have x0 := hB.cell 0
  have x1 := hB.cell 1
  have x2 := hB.cell 2
  have xl := hB.lt
  simp at x0 x1 x2
  have h := fun (wx : World) (hb : Below w.heap.size w wx) => impl_isRule (r := r) (ta := ta) (tn := tn) (tc := tc) (ra := ra) (rn := rn) (rc := rc) (hI.keep hb) hn hs ((hg.keep hb0).keep hb) hgn ((he.keep hb0).keep hb) hen
  rw [← e1] at h
  have H := Lib.hid h
  clear h hI hB hs hg he hb0 e1 h2
  show Calls _ _ #[.agg #[.string R.nm, .slice R.ga R.gn R.gc, .slice R.ea R.en R.ec], .pointer (some ⟨B, 0, none⟩)] _ _
  go_enter Try.func46, Try.ntmps46
  go_wp2_with fail
  refine Calls.mono (H.out _ bel) ?_
  rintro e w1 ⟨rfl, hb_w1⟩
  obtain ⟨hc_w1, hf_w1⟩ := bcell hb_w1
  have hs_w1 := hb_w1.size
  go_wp2
  go_ret
  exact ⟨rfl, bel⟩
set_option maxHeartbeats 1000000 in
theorem slices_IndexFunc_Rule {g : Nat} {lb : Array Value} {p : RM × RuD → Bool} {a : Option Addr} {n c : Nat} {l : List (RM × RuD)} {w0 w : World}
    (eg : ∀ args w, (callFunc g args).run Try.prog w = .ok (.enter g args) w) (hp : PredF Try.prog g lb encR (RuM w0) p w) (hI : FR w0 w a n c l) (hn : n ≤ 1048576) :
    Calls Try.prog 57 #[.slice a n c, .func (.func g) #[] lb] w fun e w' => e = .returned (.int .i64 (idxF p l)) ∧ Below w.heap.size w w' := by
  have HP := Lib.hid hp
  clear hp
  go_enter Try.func57, Try.ntmps57
  go_wp2
  go_loopg [5, 8] n (fun gg _ s8 wr => ∃ kk : Nat, kk ≤ n ∧ n - kk ≤ gg ∧ s8 = .int .i64 kk ∧ Below w.heap.size w wr ∧ Hid ((l.take kk).any p = false))
  case atStart => exact ⟨0, Nat.zero_le _, by omega, rfl, Below.refl _ _, rfl⟩
  case round =>
    obtain ⟨kk, hkk, hg, rfl, hbl, A⟩ := hrel
    have HI := Lib.hid hI
    by_cases hlt : kk < n
    · obtain ⟨b, off, R, r, rfl, hb, hx, hwf, c0, c1, c2⟩ := FR.get (hI.keep hbl) hlt
      have Hx := Lib.hid hx
      have hcall := HP.out _ (R, r) hwf hbl
      clear hx hI hwf
      cases hq : p (R, r) with
      | true =>
        have Hq := Lib.hid hq
        rw [hq] at hcall
        clear hq
        go_wp2_with (go_at_fn g; refine hcall.mono ?_; rintro e w1 ⟨rfl, hb1⟩)
        go_ret
        exact ⟨ret_int (by rw [idxF_hit Hx.out Hq.out A.out]), below_call hbl hb1 hbl.size⟩
      | false =>
        have Hq := Lib.hid hq
        rw [hq] at hcall
        clear hq
        go_wp2_with (go_at_fn g; refine hcall.mono ?_; rintro e w1 ⟨rfl, hb1⟩)
        go_roundg (n - (kk + 1))
        case measure => omega
        case rel => exact ⟨kk + 1, by omega, by omega, by go_num, below_call hbl hb1 hbl.size, any_take_step Hx.out A.out Hq.out⟩
    · clear hI
      go_wp2
      go_ret
      have e : l.take kk = l := take_len (by have := HI.out.len; omega)
      have h1 := A.out
      rw [e] at h1
      exact ⟨ret_int (by rw [idxF_miss h1]), hbl⟩
theorem slices_ContainsFunc_Rule {g : Nat} {lb : Array Value} {p : RM × RuD → Bool} {a : Option Addr} {n c : Nat} {l : List (RM × RuD)} {w0 w : World}
    (eg : ∀ args w, (callFunc g args).run Try.prog w = .ok (.enter g args) w) (hp : PredF Try.prog g lb encR (RuM w0) p w) (hI : FR w0 w a n c l) (hn : n ≤ 1048576) :
    Calls Try.prog 45 #[.slice a n c, .func (.func g) #[] lb] w fun e w' => e = .returned (.bool (l.any p)) ∧ Below w.heap.size w w' := by
  have h := idxF_nonneg p l
  have hc := slices_IndexFunc_Rule eg hp hI hn
  generalize idxF p l = r at h hc
  have H := Lib.hid h
  have HI := Lib.hid hI
  have HP := Lib.hid hp
  clear h hI hp
  go_enter Try.func45, Try.ntmps45
  go_wp2_with fail
  refine Calls.mono hc ?_
  rintro e w1 ⟨rfl, hb1⟩
  go_wp2
  go_ret
  exact ⟨ret_bool H.out, hb1⟩
end Go.Proofs.Ytcnjnkjnpfpaeaa
