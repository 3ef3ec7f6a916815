/- Models: variables, states and tests, walked.; The search through the states of a model: plain laws.; Ascending lists of states: plain laws.; Tests, rules and states of models: what the search of the program calls, walked.; Facts that hang on an interval of blocks: what a law keeps while it writes marks elsewhere.; The source of drawn numbers, walked.; What a draw leaves: the source alone has moved, all that is new is the call's own. -/
import Derived.Test.YtkaikbaagajckaaGreatK02
import Derived.Test.YtkaikbaagajckaaGreatFl
import Derived.Laws.BytesArg
import Derived.Test.YtkaikbaagajckaaGreatBase
import Derived.RegionTactic
import Derived.BigRegion
namespace Go.Proofs.YtkaikbaagajckaaGreat
open Go.RowKit
set_option linter.unusedVariables false
set_option linter.unusedSimpArgs false
/-- a rule and a model as they are meant -/
structure RuD where
  nm : ByteArray
  g : List I2b
  e : List I2
structure MoD where
  sz : List Int
  st : List Int
  ru : List RuD
/-- a rule as it lies in memory -/
structure RM where
  nm : ByteArray
  ga : Option Addr
  gn : Nat
  gc : Nat
  ea : Option Addr
  en : Nat
  ec : Nat
def RM.enc (r : RM) : List Value := [.string r.nm, .slice r.ga r.gn r.gc, .slice r.ea r.en r.ec]
def hasB (sz : List Int) (v x : Int) : Bool := inB v 0 ((sz.length : Int) - 1) && inB x 0 (sz.getD v.toNat 0 - 1)
theorem hasB_no {sz : List Int} {v x : Int} (h : inB v 0 ((sz.length : Int) - 1) = false) : hasB sz v x = false := by rw [hasB, h]; rfl
theorem hasB_yes {sz : List Int} {v : Nat} {x z : Int} (hz : sz[v]? = some z) : hasB sz (v : Int) x = inB x 0 (z - 1) := by
  have h1 : v < sz.length := (List.getElem?_eq_some_iff.1 hz).1
  have h2 : inB (v : Int) 0 ((sz.length : Int) - 1) = true := by simp [inB]; omega
  rw [hasB, h2, Int.toNat_natCast, List.getD_eq_getElem?_getD, hz]; rfl
theorem allIn_at {lo hi : Int} {l : List Int} {k : Nat} {z : Int} (h : allIn lo hi l = true) (hz : l[k]? = some z) : lo ≤ z ∧ z ≤ hi := by
  have := List.all_eq_true.1 h z (List.mem_of_getElem? hz)
  simpa [inB] using this
set_option maxHeartbeats 1000000 in
theorem impl_has {v x : Int} {sa ta ra : Option Addr} {sn sc tn tc rn rc : Nat} {sz : List Int} {w : World} (hI : Ints w sa sn sc sz) (hn : sn ≤ 1048576) (hs : allIn 1 32 sz = true) :
    Calls Tryz.prog 144 #[.agg #[.slice sa sn sc, .slice ta tn tc, .slice ra rn rc], .int .i64 v, .int .i64 x] w fun e w' => e = .returned (.bool (hasB sz v x)) ∧ Below w.heap.size w w' := by
  have hl := hI.len
  have e1 : IntKind.i64.wrap ((sn : Int) - 1) = (sn : Int) - 1 := IntWalk.i64_in _ (by omega)
  cases hv : inB v 0 ((sn : Int) - 1)
  · have HB := Lib.hid (hasB_no (x := x) (show inB v 0 ((sz.length : Int) - 1) = false by rw [hl]; exact hv))
    have HV := Lib.hid hv
    clear hv hI hl
    go_enter Tryz.func144, Tryz.ntmps144
    go_wp2_with fail
    refine Calls.mono (impl_length_i64) ?_
    rintro e _ ⟨rfl, rfl⟩
    go_wp2_with fail
    refine Calls.mono (impl_within) ?_
    rintro e _ ⟨rfl, rfl⟩
    rw [HV.out]
    go_wp2
    go_ret
    exact ⟨ret_bool HB.out.symm, bel⟩
  · have HV := Lib.hid hv
    have hv2 := hv
    simp [inB] at hv2
    obtain ⟨q, rfl⟩ := Int.eq_ofNat_of_zero_le hv2.1
    obtain ⟨b, off, z, rfl, hb, hz, hcell, hwf⟩ := hI.at (k := q) (by omega)
    have HB := Lib.hid (hasB_yes (x := x) hz)
    have hq0 : (0 : Int) ≤ (q : Int) := by omega
    have hq1 : (q : Int) < (sn : Int) := by omega
    have hz12 := allIn_at hs hz
    have hz1 := hz12.1
    have hz2 := hz12.2
    have e2 : IntKind.i64.wrap (z - 1) = z - 1 := IntWalk.i64_in _ (by omega)
    clear hv hI hl hz hs hz12
    go_enter Tryz.func144, Tryz.ntmps144
    go_wp2_with fail
    refine Calls.mono (impl_length_i64) ?_
    rintro e _ ⟨rfl, rfl⟩
    go_wp2_with fail
    refine Calls.mono (impl_within) ?_
    rintro e _ ⟨rfl, rfl⟩
    rw [HV.out]
    go_wp2_with fail
    refine Calls.mono (impl_within) ?_
    rintro e _ ⟨rfl, rfl⟩
    go_wp2
    go_ret
    exact ⟨ret_bool HB.out.symm, bel⟩
set_option maxHeartbeats 1000000 in
theorem spec_l20Has {v x : Int} {sa ta ra : Option Addr} {sn sc tn tc rn rc : Nat} {sz : List Int} {w : World} (hI : Ints w sa sn sc sz) (hn : sn ≤ 1048576) (hs : allIn 1 32 sz = true) :
    Calls Tryz.prog 148 #[.agg #[.slice sa sn sc, .slice ta tn tc, .slice ra rn rc], .int .i64 v, .int .i64 x] w fun e w' => e = .returned (.bool (hasB sz v x)) ∧ Below w.heap.size w w' := by
  have hl := hI.len
  have e1 : IntKind.i64.wrap ((sn : Int) - 1) = (sn : Int) - 1 := IntWalk.i64_in _ (by omega)
  cases hv : inB v 0 ((sn : Int) - 1)
  · have HB := Lib.hid (hasB_no (x := x) (show inB v 0 ((sz.length : Int) - 1) = false by rw [hl]; exact hv))
    have HV := Lib.hid hv
    clear hv hI hl
    go_enter Tryz.func148, Tryz.ntmps148
    go_wp2_with fail
    refine Calls.mono (spec_l01In) ?_
    rintro e _ ⟨rfl, rfl⟩
    rw [HV.out]
    go_wp2
    go_ret
    exact ⟨ret_bool HB.out.symm, bel⟩
  · have HV := Lib.hid hv
    have hv2 := hv
    simp [inB] at hv2
    obtain ⟨q, rfl⟩ := Int.eq_ofNat_of_zero_le hv2.1
    obtain ⟨b, off, z, rfl, hb, hz, hcell, hwf⟩ := hI.at (k := q) (by omega)
    have HB := Lib.hid (hasB_yes (x := x) hz)
    have hq0 : (0 : Int) ≤ (q : Int) := by omega
    have hq1 : (q : Int) < (sn : Int) := by omega
    have hz12 := allIn_at hs hz
    have hz1 := hz12.1
    have hz2 := hz12.2
    have e2 : IntKind.i64.wrap (z - 1) = z - 1 := IntWalk.i64_in _ (by omega)
    clear hv hI hl hz hs hz12
    go_enter Tryz.func148, Tryz.ntmps148
    go_wp2_with fail
    refine Calls.mono (spec_l01In) ?_
    rintro e _ ⟨rfl, rfl⟩
    rw [HV.out]
    go_wp2_with fail
    refine Calls.mono (spec_l01In) ?_
    rintro e _ ⟨rfl, rfl⟩
    go_wp2
    go_ret
    exact ⟨ret_bool HB.out.symm, bel⟩
end Go.Proofs.YtkaikbaagajckaaGreat
namespace Go.Proofs.YtkaikbaagajckaaGreat
open Go.RowKit
set_option linter.unusedVariables false
set_option linter.unusedSimpArgs false
/-- a state that was found: the state, the place of the state from which it was found, the rule, how many rules, the rules -/
structure SN where
  v : List Int
  fr : Int
  ru : Int
  dp : Int
  tr : List Int
def holdsP (v : List Int) (g : List I2b) : Bool := g.all fun t => (v.getD t.a.toNat 0 == t.b) == t.c
def zRu : RuD := ⟨⟨#[]⟩, [], []⟩
def enabP (rs : List RuD) (v : List Int) : List Nat := (List.range rs.length).filter fun i => holdsP v (rs.getD i zRu).g
def applyP (v : List Int) (e : List I2) : List Int := e.foldl (fun u a => u.set a.a.toNat a.b) v
def nextP (rs : List RuD) (v : List Int) : List (Nat × List Int) := (enabP rs v).map fun i => (i, applyP v (rs.getD i zRu).e)
def addN (i : Nat) (x : SN) (L : List SN) (r : Nat × List Int) : List SN :=
  if L.any (fun y => y.v == r.2) then L else L ++ [⟨r.2, i, r.1, x.dp + 1, x.tr ++ [(r.1 : Int)]⟩]
def expN (rs : List RuD) (i : Nat) (x : SN) (L : List SN) : List SN := (nextP rs x.v).foldl (addN i x) L
def runN9 (rs : List RuD) : Nat → Nat → List SN → Option (List SN)
  | 0, _, _ => none
  | f + 1, i, L => match L[i]? with
    | none => some L
    | some x => if 4000 < (expN rs i x L).length then none else runN9 rs f (i + 1) (expN rs i x L)
def bfsP (rs : List RuD) (st : List Int) : Option (List SN) := runN9 rs 4002 0 [⟨st, -1, 0, 0, []⟩]
theorem addN_pre (i : Nat) (x : SN) (L : List SN) (r : Nat × List Int) : ∃ t, addN i x L r = L ++ t ∧ t.length ≤ 1 := by
  rw [addN]
  split
  · exact ⟨[], by simp, by simp⟩
  · exact ⟨_, rfl, by simp⟩
theorem foldN_pre (i : Nat) (x : SN) : ∀ (l : List (Nat × List Int)) (L : List SN), ∃ t, l.foldl (addN i x) L = L ++ t ∧ t.length ≤ l.length
  | [], L => ⟨[], by simp, by simp⟩
  | r :: l, L => by
    obtain ⟨t1, h1, h2⟩ := addN_pre i x L r
    obtain ⟨t2, h3, h4⟩ := foldN_pre i x l (addN i x L r)
    exact ⟨t1 ++ t2, by rw [List.foldl_cons, h3, h1, List.append_assoc], by rw [List.length_append, List.length_cons]; omega⟩
theorem runN9_done {rs : List RuD} {f i : Nat} {L : List SN} (h : L[i]? = none) : runN9 rs (f + 1) i L = some L := by rw [runN9, h]
theorem runN9_over {rs : List RuD} {f i : Nat} {L : List SN} {x : SN} (h : L[i]? = some x) (ho : 4000 < (expN rs i x L).length) : runN9 rs (f + 1) i L = none := by rw [runN9, h]; simp [ho]
theorem runN9_step {rs : List RuD} {f i : Nat} {L : List SN} {x : SN} (h : L[i]? = some x) (ho : ¬ 4000 < (expN rs i x L).length) : runN9 rs (f + 1) i L = runN9 rs f (i + 1) (expN rs i x L) := by rw [runN9, h]; simp [ho]
/-- a state's values lie in the sizes -/
def SV (sz v : List Int) : Prop := v.length = sz.length ∧ ∀ (k : Nat) (x z : Int), v[k]? = some x → sz[k]? = some z → 0 ≤ x ∧ x < z
def RuV (sz : List Int) (r : RuD) : Prop := (∀ t ∈ r.g, 0 ≤ t.a ∧ t.a < sz.length) ∧ (∀ a ∈ r.e, 0 ≤ a.a ∧ a.a < sz.length ∧ ∀ z, sz[a.a.toNat]? = some z → 0 ≤ a.b ∧ a.b < z)
theorem sv_set {sz v : List Int} (h : SV sz v) {k : Nat} {x : Int} (hx : ∀ z, sz[k]? = some z → 0 ≤ x ∧ x < z) : SV sz (v.set k x) := by
  refine ⟨by rw [List.length_set]; exact h.1, fun j y z hy hz => ?_⟩
  rw [List.getElem?_set] at hy
  split at hy
  · rename_i e
    subst e
    split at hy
    · cases hy; exact hx z hz
    · cases hy
  · exact h.2 j y z hy hz
theorem sv_apply {sz : List Int} : ∀ {e : List I2} {v : List Int}, SV sz v → (∀ a ∈ e, ∀ z, sz[a.a.toNat]? = some z → 0 ≤ a.b ∧ a.b < z) → SV sz (applyP v e)
  | [], v, h, _ => h
  | a :: e, v, h, he => by
    rw [applyP, List.foldl_cons]
    exact sv_apply (sv_set h (he a (List.mem_cons_self ..))) fun b hb => he b (List.mem_cons_of_mem _ hb)
/-- all states that were found are states; no state stands twice; each but the first was found from one before it -/
structure SNs (sz : List Int) (L : List SN) : Prop where
  sv : ∀ y ∈ L, SV sz y.v
  nd : (L.map (·.v)).Nodup
  fr : ∀ (j : Nat) (y : SN), L[j]? = some y → (y.fr = -1 ∧ y.tr = []) ∨ ∃ (k : Nat) (z : SN), y.fr = (k : Int) ∧ k < j ∧ L[k]? = some z ∧ y.tr = z.tr ++ [y.ru]
theorem SNs.start {sz st : List Int} (h : SV sz st) : SNs sz [⟨st, -1, 0, 0, []⟩] := by
  refine ⟨fun y hy => ?_, by simp, fun j y hy => ?_⟩
  · simp at hy; rw [hy]; exact h
  · cases j with
    | zero => simp at hy; subst hy; exact .inl ⟨rfl, rfl⟩
    | succ j => simp at hy
theorem SNs.add {sz : List Int} {L : List SN} (h : SNs sz L) {i : Nat} {x : SN} (hx : L[i]? = some x) {r : Nat × List Int} (hr : SV sz r.2) : SNs sz (addN i x L r) := by
  rw [addN]
  split
  · exact h
  · rename_i hn
    have hi : i < L.length := (List.getElem?_eq_some_iff.1 hx).1
    refine ⟨fun y hy => ?_, ?_, fun j y hy => ?_⟩
    · rcases List.mem_append.1 hy with hy | hy
      · exact h.sv y hy
      · simp at hy; rw [hy]; exact hr
    · rw [List.map_append, List.nodup_append]
      refine ⟨h.nd, by simp, fun a ha b hb => ?_⟩
      simp at hb
      subst hb
      rintro rfl
      obtain ⟨y, hy, hyv⟩ := List.mem_map.1 ha
      exact hn (List.any_eq_true.2 ⟨y, hy, by simp [hyv]⟩)
    · by_cases hj : j < L.length
      · rw [List.getElem?_append_left hj] at hy
        rcases h.fr j y hy with h1 | ⟨k, z, h1, h2, h3, h4⟩
        · exact .inl h1
        · exact .inr ⟨k, z, h1, h2, by rw [List.getElem?_append_left (by omega)]; exact h3, h4⟩
      · rw [List.getElem?_append_right (by omega)] at hy
        have hj0 : j = L.length := by
          have := (List.getElem?_eq_some_iff.1 hy).1
          simp at this; omega
        subst hj0
        simp at hy
        subst hy
        exact .inr ⟨i, x, rfl, hi, by rw [List.getElem?_append_left hi]; exact hx, rfl⟩
theorem SNs.fold {sz : List Int} {i : Nat} {x : SN} : ∀ {l : List (Nat × List Int)} {L : List SN}, SNs sz L → L[i]? = some x → (∀ r ∈ l, SV sz r.2) → SNs sz (l.foldl (addN i x) L)
  | [], L, h, _, _ => h
  | r :: l, L, h, hx, hl => by
    rw [List.foldl_cons]
    refine SNs.fold (h.add hx (hl r (List.mem_cons_self ..))) ?_ fun q hq => hl q (List.mem_cons_of_mem _ hq)
    obtain ⟨t, ht, _⟩ := addN_pre i x L r
    rw [ht, List.getElem?_append_left (List.getElem?_eq_some_iff.1 hx).1]
    exact hx
theorem next_sv {sz : List Int} {rs : List RuD} {v : List Int} (hr : ∀ r ∈ rs, RuV sz r) (hv : SV sz v) : ∀ q ∈ nextP rs v, SV sz q.2 := by
  intro q hq
  rw [nextP] at hq
  obtain ⟨i, hi, rfl⟩ := List.mem_map.1 hq
  refine sv_apply hv fun a ha z hz => ?_
  by_cases h : i < rs.length
  · have hm : rs.getD i zRu ∈ rs := by rw [List.getD_eq_getElem?_getD, List.getElem?_eq_getElem h]; exact List.getElem_mem h
    exact ((hr _ hm).2 a ha).2.2 z hz
  · rw [List.getD_eq_getElem?_getD, List.getElem?_eq_none (by omega)] at ha
    cases ha
theorem SNs.exp {sz : List Int} {rs : List RuD} {i : Nat} {x : SN} {L : List SN} (hr : ∀ r ∈ rs, RuV sz r) (h : SNs sz L) (hx : L[i]? = some x) : SNs sz (expN rs i x L) :=
  h.fold hx (next_sv hr (h.sv x (List.mem_of_getElem? hx)))
theorem SNs.run {sz : List Int} {rs : List RuD} (hr : ∀ r ∈ rs, RuV sz r) : ∀ (f i : Nat) {L M : List SN}, SNs sz L → runN9 rs f i L = some M → SNs sz M
  | 0, _, _, _, _, h => by cases h
  | f + 1, i, L, M, hL, h => by
    rw [runN9] at h
    split at h
    · cases h; exact hL
    · rename_i x hx
      split at h
      · cases h
      · exact SNs.run hr f (i + 1) (hL.exp hr hx) h
/-- a state as a text -/
def keyL (v : List Int) : List UInt8 := v.map fun x => UInt8.ofNat x.toNat
theorem keyL_inj {sz : List Int} (hz : ∀ z ∈ sz, z ≤ 256) : ∀ {v u : List Int}, SV sz v → SV sz u → keyL v = keyL u → v = u := by
  intro v u hv hu h
  apply List.ext_getElem?
  intro k
  have h1 : (keyL v)[k]? = (keyL u)[k]? := by rw [h]
  rw [keyL, keyL, List.getElem?_map, List.getElem?_map] at h1
  by_cases hk : k < sz.length
  · have e1 := List.getElem?_eq_getElem (show k < v.length by rw [hv.1]; exact hk)
    have e2 := List.getElem?_eq_getElem (show k < u.length by rw [hu.1]; exact hk)
    have e3 := List.getElem?_eq_getElem hk
    have b1 := hv.2 k _ _ e1 e3
    have b2 := hu.2 k _ _ e2 e3
    have b3 := hz _ (List.getElem_mem hk)
    rw [e1, e2] at h1
    simp only [Option.map_some, Option.some.injEq] at h1
    have h2 := congrArg UInt8.toNat h1
    rw [UInt8.toNat_ofNat_of_lt' (by simp only [UInt8.size]; omega), UInt8.toNat_ofNat_of_lt' (by simp only [UInt8.size]; omega)] at h2
    rw [e1, e2]
    congr 1
    omega
  · rw [List.getElem?_eq_none (by rw [hv.1]; omega), List.getElem?_eq_none (by rw [hu.1]; omega)]
end Go.Proofs.YtkaikbaagajckaaGreat
namespace Go.Proofs.YtkaikbaagajckaaGreat
open Go.RowKit
set_option linter.unusedVariables false
set_option linter.unusedSimpArgs false
def cmpL : List Int → List Int → Int
  | a :: r, b :: q => if a < b then -1 else if b < a then 1 else cmpL r q
  | _, _ => 0
theorem cmpL_self : ∀ a : List Int, cmpL a a = 0
  | [] => rfl
  | x :: a => by rw [cmpL, if_neg (by omega), if_neg (by omega)]; exact cmpL_self a
theorem cmpL_eq : ∀ {a b : List Int}, a.length = b.length → cmpL a b = 0 → a = b
  | [], [], _, _ => rfl
  | x :: a, y :: b, hl, h => by
    rw [cmpL] at h
    split at h
    · omega
    · split at h
      · omega
      · rw [cmpL_eq (by simpa using hl) h, show x = y by omega]
  | [], _ :: _, hl, _ => by simp at hl
  | _ :: _, [], hl, _ => by simp at hl
theorem cmpL_range : ∀ (a b : List Int), cmpL a b = -1 ∨ cmpL a b = 0 ∨ cmpL a b = 1
  | [], b => by simp [cmpL]
  | x :: a, [] => by simp [cmpL]
  | x :: a, y :: b => by
    rw [cmpL]
    split
    · exact .inl rfl
    · split
      · exact .inr (.inr rfl)
      · exact cmpL_range a b
theorem cmpL_anti : ∀ (a b : List Int), cmpL b a = - cmpL a b
  | [], b => by cases b <;> simp [cmpL]
  | x :: a, [] => by simp [cmpL]
  | x :: a, y :: b => by
    rw [cmpL, cmpL]
    by_cases h1 : x < y
    · rw [if_pos h1, if_neg (by omega), if_pos h1]; omega
    · by_cases h2 : y < x
      · rw [if_pos h2, if_neg h1, if_pos h2]
      · rw [if_neg h1, if_neg h2, if_neg h2, if_neg h1]; exact cmpL_anti a b
theorem cmpL_trans : ∀ {a b c : List Int}, a.length = b.length → b.length = c.length → cmpL a b < 0 → cmpL b c < 0 → cmpL a c < 0
  | [], [], _, _, _, h, _ => by simp [cmpL] at h
  | x :: a, y :: b, z :: c, h1, h2, h3, h4 => by
    rw [cmpL] at h3 h4 ⊢
    by_cases q1 : x < y
    · by_cases q2 : y < z
      · rw [if_pos (by omega)]; omega
      · rw [if_neg q2] at h4
        by_cases q3 : z < y
        · rw [if_pos q3] at h4; omega
        · rw [if_pos (by omega)]; omega
    · rw [if_neg q1] at h3
      by_cases q2 : y < x
      · rw [if_pos q2] at h3; omega
      · rw [if_neg q2] at h3
        by_cases q3 : y < z
        · rw [if_pos (by omega)]; omega
        · rw [if_neg q3] at h4
          by_cases q4 : z < y
          · rw [if_pos q4] at h4; omega
          · rw [if_neg q4] at h4
            rw [if_neg (by omega), if_neg (by omega)]
            exact cmpL_trans (by simpa using h1) (by simpa using h2) h3 h4
  | [], _ :: _, _, h, _, _, _ => by simp at h
  | _ :: _, [], _, h, _, _, _ => by simp at h
  | _ :: _, _ :: _, [], _, h, _, _ => by simp at h
/-- the comparison, place by place -/
theorem cmpL_at : ∀ {a b : List Int} {k : Nat}, a.take k = b.take k → ∀ {x y : Int}, a[k]? = some x → b[k]? = some y → cmpL a b = if x < y then -1 else if y < x then 1 else cmpL (a.drop (k + 1)) (b.drop (k + 1))
  | x' :: a, y' :: b, 0, _, x, y, h1, h2 => by
    simp at h1 h2
    subst h1 h2
    rw [cmpL]; rfl
  | x' :: a, y' :: b, k + 1, h, x, y, h1, h2 => by
    simp at h h1 h2
    obtain ⟨rfl, h⟩ := h
    rw [cmpL, if_neg (by omega), if_neg (by omega), cmpL_at h h1 h2]; rfl
  | [], _, k, _, _, _, h1, _ => by simp at h1
  | _ :: _, [], k, _, _, _, _, h2 => by simp at h2
/-- states of one length, ascending -/
def AscS (m : Nat) (l : List (List Int)) : Prop := (∀ x ∈ l, x.length = m) ∧ l.Pairwise fun a b => cmpL a b < 0
theorem asc_lt {m : Nat} {l : List (List Int)} (h : AscS m l) {i j : Nat} {a b : List Int} (hi : l[i]? = some a) (hj : l[j]? = some b) (hij : i < j) : cmpL a b < 0 := by
  have h1 := List.pairwise_iff_getElem.1 h.2
  obtain ⟨i1, i2⟩ := List.getElem?_eq_some_iff.1 hi
  obtain ⟨j1, j2⟩ := List.getElem?_eq_some_iff.1 hj
  have := h1 i j i1 j1 hij
  rw [i2, j2] at this
  exact this
/-- where a state belongs: before it what is less, from it on what is not -/
def Plc (l : List (List Int)) (x : List Int) (p : Nat) : Prop := p ≤ l.length ∧ (∀ (i : Nat) (a : List Int), l[i]? = some a → i < p → cmpL a x < 0) ∧ ∀ (i : Nat) (a : List Int), l[i]? = some a → p ≤ i → 0 ≤ cmpL a x
theorem plc_mem {m : Nat} {l : List (List Int)} {x : List Int} {p : Nat} (h : AscS m l) (hx : x.length = m) (hp : Plc l x p) : (∃ a, l[p]? = some a ∧ cmpL a x = 0) ↔ x ∈ l := by
  constructor
  · rintro ⟨a, ha, h0⟩
    have hm := List.mem_of_getElem? ha
    have := cmpL_eq (by rw [h.1 a hm, hx]) h0
    rw [← this]; exact hm
  · intro hm
    obtain ⟨i, hi⟩ := List.getElem?_of_mem hm
    have h1 : p ≤ i := Nat.le_of_not_lt fun hlt => by have := hp.2.1 i x hi hlt; rw [cmpL_self] at this; omega
    have hil : i < l.length := (List.getElem?_eq_some_iff.1 hi).1
    have hpl : p < l.length := by omega
    refine ⟨l[p], List.getElem?_eq_getElem hpl, ?_⟩
    have h2 := hp.2.2 p _ (List.getElem?_eq_getElem hpl) (Nat.le_refl _)
    rcases Nat.lt_or_ge p i with h3 | h3
    · have := asc_lt h (List.getElem?_eq_getElem hpl) hi h3; omega
    · have e : p = i := by omega
      have h4 := List.getElem?_eq_getElem hpl
      subst e
      rw [h4] at hi
      cases hi
      exact cmpL_self _
theorem asc_insert {m : Nat} {l : List (List Int)} {x : List Int} {p : Nat} (h : AscS m l) (hx : x.length = m) (hp : Plc l x p) (hn : x ∉ l) : AscS m (l.take p ++ [x] ++ l.drop p) ∧ ∀ y, y ∈ l.take p ++ [x] ++ l.drop p ↔ y = x ∨ y ∈ l := by
  have hmem : ∀ y, y ∈ l.take p ++ [x] ++ l.drop p ↔ y = x ∨ y ∈ l := fun y => by
    have e : y ∈ l ↔ y ∈ l.take p ∨ y ∈ l.drop p := by
      conv => lhs; rw [← List.take_append_drop p l]
      exact List.mem_append
    simp only [List.mem_append, List.mem_singleton, e]
    constructor
    · rintro ((h | h) | h)
      · exact .inr (.inl h)
      · exact .inl h
      · exact .inr (.inr h)
    · rintro (h | h | h)
      · exact .inl (.inr h)
      · exact .inl (.inl h)
      · exact .inr h
  refine ⟨⟨fun y hy => ?_, ?_⟩, hmem⟩
  · rcases (hmem y).1 hy with h1 | h1
    · rw [h1]; exact hx
    · exact h.1 y h1
  · have hlo : ∀ a ∈ l.take p, cmpL a x < 0 := fun a ha => by
      obtain ⟨i, hi⟩ := List.getElem?_of_mem ha
      rw [List.getElem?_take] at hi
      split at hi
      · exact hp.2.1 i a hi (by assumption)
      · cases hi
    have hhi : ∀ a ∈ l.drop p, cmpL x a < 0 := fun a ha => by
      obtain ⟨i, hi⟩ := List.getElem?_of_mem ha
      rw [List.getElem?_drop] at hi
      have h1 := hp.2.2 (p + i) a hi (by omega)
      have hm := List.mem_of_getElem? hi
      have h2 : cmpL a x ≠ 0 := fun h0 => hn (by rw [← cmpL_eq (by rw [h.1 a hm, hx]) h0]; exact hm)
      have h3 := cmpL_anti a x
      omega
    have hpt : (l.take p).Pairwise (fun a b => cmpL a b < 0) := h.2.sublist (List.take_sublist _ _)
    have hpd : (l.drop p).Pairwise (fun a b => cmpL a b < 0) := h.2.sublist (List.drop_sublist _ _)
    rw [List.append_assoc, List.pairwise_append]
    refine ⟨hpt, ?_, fun a ha b hb => ?_⟩
    · rw [List.singleton_append, List.pairwise_cons]
      exact ⟨hhi, hpd⟩
    · rw [List.singleton_append] at hb
      rcases List.mem_cons.1 hb with rfl | hb
      · exact hlo a ha
      · have l1 := h.1 a (List.mem_of_mem_take ha)
        have l2 := h.1 b (List.mem_of_mem_drop hb)
        exact cmpL_trans (by rw [l1, hx]) (by rw [hx, l2]) (hlo a ha) (hhi b hb)
end Go.Proofs.YtkaikbaagajckaaGreat
namespace Go.Proofs.YtkaikbaagajckaaGreat
open Go.RowKit
set_option linter.unusedVariables false
set_option linter.unusedSimpArgs false
/-- a test that looks at one of m variables -/
def okV (m : Nat) (x : I2b) : Prop := x.ok ∧ 0 ≤ x.a ∧ x.a < (m : Int)
theorem FV.get {m : Nat} {w : World} {a : Option Addr} {n c : Nat} {l : List I2b} (h : Flats 3 I2b.enc (okV m) w a n c l) {i : Nat} (hi : i < n) :
    ∃ b off x, a = some ⟨b, off, none⟩ ∧ b < w.heap.size ∧ l[i]? = some x ∧ okV m x ∧ w.cell? ⟨b, off + i * 3, none⟩ = some (.int .i64 x.a) ∧ w.cell? ⟨b, off + i * 3 + 1, none⟩ = some (.int .i64 x.b) ∧ w.cell? ⟨b, off + i * 3 + 2, none⟩ = some (.bool x.c) := by
  obtain ⟨b, off, x, h1, h2, h3, h4, h5⟩ := h.at hi
  exact ⟨b, off, x, h1, h2, h3, h4, h5 0 _ rfl, h5 1 _ rfl, h5 2 _ rfl⟩
theorem F2b.toV {m : Nat} {w : World} {a : Option Addr} {n c : Nat} {l : List I2b} (h : F2b w a n c l) (hv : ∀ t ∈ l, 0 ≤ t.a ∧ t.a < (m : Int)) : Flats 3 I2b.enc (okV m) w a n c l :=
  ⟨h.len, h.cap, h.pos, fun x hx => ⟨h.wf x hx, hv x hx⟩, h.nil⟩
set_option maxHeartbeats 1000000 in
theorem slices_IndexFunc_TestV {m g : Nat} {lb : Array Value} {p : I2b → Bool} {a : Option Addr} {n c : Nat} {l : List I2b} {w : World}
    (eg : ∀ args w, (callFunc g args).run Tryz.prog w = .ok (.enter g args) w) (hp : PredF Tryz.prog g lb I2b.enc (okV m) p w) (hI : Flats 3 I2b.enc (okV m) w a n c l) (hn : n ≤ 1048576) :
    Calls Tryz.prog 192 #[.slice a n c, .func (.func g) #[] lb] w fun e w' => e = .returned (.int .i64 (idxF p l)) ∧ Below w.heap.size w w' := by
  have HP := Lib.hid hp
  clear hp
  go_enter Tryz.func192, Tryz.ntmps192
  go_wp2
  go_loopg [5, 8] n (fun gg _ s8 wr => ∃ kk : Nat, kk ≤ n ∧ n - kk ≤ gg ∧ s8 = .int .i64 kk ∧ Below w.heap.size w wr ∧ Hid ((l.take kk).any p = false))
  case atStart => exact ⟨0, Nat.zero_le _, by omega, rfl, Below.refl _ _, rfl⟩
  case round =>
    obtain ⟨kk, hkk, hg, rfl, hbl, A⟩ := hrel
    have HI := Lib.hid hI
    by_cases hlt : kk < n
    · obtain ⟨b, off, x, rfl, hb, hx, hwf, hc0, hc1, hc2⟩ := FV.get (hI.keep hbl) hlt
      have Hx := Lib.hid hx
      have hcall := HP.out _ x hwf hbl
      clear hx hI hwf
      cases hq : p x with
      | true =>
        have Hq := Lib.hid hq
        rw [hq] at hcall
        clear hq
        go_wp2_with (go_at_fn g; refine hcall.mono ?_; rintro e w1 ⟨rfl, hb1⟩)
        go_ret
        exact ⟨ret_int (by rw [idxF_hit Hx.out Hq.out A.out]), below_call hbl hb1 hbl.size⟩
      | false =>
        have Hq := Lib.hid hq
        rw [hq] at hcall
        clear hq
        go_wp2_with (go_at_fn g; refine hcall.mono ?_; rintro e w1 ⟨rfl, hb1⟩)
        go_roundg (n - (kk + 1))
        case measure => omega
        case rel => exact ⟨kk + 1, by omega, by omega, by go_num, below_call hbl hb1 hbl.size, any_take_step Hx.out A.out Hq.out⟩
    · clear hI
      go_wp2
      go_ret
      have e : l.take kk = l := take_len (by have := HI.out.len; omega)
      have h1 := A.out
      rw [e] at h1
      exact ⟨ret_int (by rw [idxF_miss h1]), hbl⟩
theorem slices_ContainsFunc_TestV {m g : Nat} {lb : Array Value} {p : I2b → Bool} {a : Option Addr} {n c : Nat} {l : List I2b} {w : World}
    (eg : ∀ args w, (callFunc g args).run Tryz.prog w = .ok (.enter g args) w) (hp : PredF Tryz.prog g lb I2b.enc (okV m) p w) (hI : Flats 3 I2b.enc (okV m) w a n c l) (hn : n ≤ 1048576) :
    Calls Tryz.prog 142 #[.slice a n c, .func (.func g) #[] lb] w fun e w' => e = .returned (.bool (l.any p)) ∧ Below w.heap.size w w' := by
  have h := idxF_nonneg p l
  have hc := slices_IndexFunc_TestV eg hp hI hn
  generalize idxF p l = r at h hc
  have H := Lib.hid h
  have HI := Lib.hid hI
  have HP := Lib.hid hp
  clear h hI hp
  go_enter Tryz.func142, Tryz.ntmps142
  go_wp2_with fail
  refine Calls.mono hc ?_
  rintro e w1 ⟨rfl, hb1⟩
  go_wp2
  go_ret
  exact ⟨ret_bool H.out, hb1⟩
def tstP (v : List Int) (t : I2b) : Bool := (v.getD t.a.toNat 0 == t.b) != t.c
theorem holdsP_any {v : List Int} {g : List I2b} : holdsP v g = !(g.any (tstP v)) := by
  rw [holdsP, List.not_any_eq_all_not]
  congr 1
  funext t
  rw [tstP]
  cases (v.getD t.a.toNat 0 == t.b) <;> cases t.c <;> rfl
set_option maxHeartbeats 1000000 in
theorem impl_holds_1 {x : I2b} {p : Nat} {a : Option Addr} {n c : Nat} {v : List Int} {w : World} (hx : okV n x) (hB : Blk w p #[.slice a n c] 22) (hI : Ints w a n c v) :
    Calls Tryz.prog 154 #[.agg #[.int .i64 x.a, .int .i64 x.b, .bool x.c], .pointer (some ⟨p, 0, none⟩)] w fun e w' => e = .returned (.bool (tstP v x)) ∧ Below w.heap.size w w' := by
  obtain ⟨⟨xa, xb⟩, h0, h1⟩ := hx
  obtain ⟨x1, x2, x3⟩ := x
  simp only at xa xb h0 h1
  obtain ⟨q, rfl⟩ := Int.eq_ofNat_of_zero_le h0
  obtain ⟨b, off, y, rfl, hb, hy, hcell, hyw⟩ := hI.at (k := q) (by omega)
  have hq1 : (q : Int) < (n : Int) := by omega
  have HT := Lib.hid (show tstP v ⟨(q : Int), x2, x3⟩ = ((y == x2) != x3) by rw [tstP, Int.toNat_natCast, List.getD_eq_getElem?_getD, hy]; rfl)
  have c0 := hB.cell 0
  have cl := hB.lt
  simp at c0
  clear hy hI hB
  go_enter Tryz.func154, Tryz.ntmps154
  go_wp2
  go_quiet (fail)
  go_wp2
  go_ret
  exact ⟨ret_bool (by rw [HT.out]; rfl), bel⟩
set_option maxHeartbeats 1000000 in
theorem impl_holds {va ga : Option Addr} {vn vc gn gc : Nat} {v : List Int} {g : List I2b} {w : World} (hI : Ints w va vn vc v) (hG : F2b w ga gn gc g) (hg : gn ≤ 1048576) (hv : ∀ t ∈ g, 0 ≤ t.a ∧ t.a < (vn : Int)) :
    Calls Tryz.prog 85 #[.slice va vn vc, .slice ga gn gc] w fun e w' => e = .returned (.bool (holdsP v g)) ∧ Below w.heap.size w w' := by
  have hb0 : Below w.heap.size w (w.alloc (.cells #[.slice va vn vc] 22)) := bel
  have hp : PredF Tryz.prog 154 #[.pointer (some ⟨w.heap.size, 0, none⟩)] I2b.enc (okV vn) (tstP v) (w.alloc (.cells #[.slice va vn vc] 22)) := fun W x hx hb =>
    impl_holds_1 hx ((Blk.made w #[.slice va vn vc] 22).keep hb) ((hI.keep hb0).keep hb)
  have hc := slices_ContainsFunc_TestV (m := vn) (fun _ _ => by kernel_rfl) hp ((hG.toV hv).keep hb0) hg
  have HC := Lib.hid hc
  have HH := Lib.hid (holdsP_any (v := v) (g := g))
  clear hc hp hI hG hv
  go_enter Tryz.func85, Tryz.ntmps85
  go_wp2_with fail
  refine Calls.mono HC.out ?_
  rintro e w1 ⟨rfl, hb1⟩
  go_wp2
  go_ret
  exact ⟨ret_bool (by rw [HH.out]), bel⟩
end Go.Proofs.YtkaikbaagajckaaGreat
namespace Go.Proofs.YtkaikbaagajckaaGreat
open Go.RowKit
set_option linter.unusedVariables false
set_option linter.unusedSimpArgs false
/-- nothing that was there is written but in the blocks from lo on below hi -/
structure Only (lo hi : Nat) (w w' : World) : Prop where
  os : w'.os = w.os
  tape : w'.tape = w.tape
  output : w'.output = w.output
  size : w.heap.size ≤ w'.heap.size
  block : ∀ k, k < w.heap.size → (k < lo ∨ hi ≤ k) → w'.heap[k]? = w.heap[k]?
theorem Only.below {lo hi B : Nat} {w w' w0 : World} (h : Only lo hi w w') (h0 : Below B w0 w) (hB : B ≤ lo) (hw : B ≤ w.heap.size) : Below B w0 w' :=
  ⟨h.os.trans h0.os, h.tape.trans h0.tape, h.output.trans h0.output, Nat.le_trans h0.size h.size, fun k hk => (h.block k (by omega) (.inl (by omega))).trans (h0.block k hk)⟩
theorem Only.trans {lo hi : Nat} {w w' w'' : World} (h : Only lo hi w w') (h' : Only lo hi w' w'') : Only lo hi w w'' :=
  ⟨h'.os.trans h.os, h'.tape.trans h.tape, h'.output.trans h.output, Nat.le_trans h.size h'.size, fun k hk hr => (h'.block k (Nat.lt_of_lt_of_le hk h.size) hr).trans (h.block k hk hr)⟩
theorem Only.mono {lo hi lo' hi' : Nat} {w w' : World} (h : Only lo hi w w') (h1 : lo' ≤ lo) (h2 : hi ≤ hi') : Only lo' hi' w w' :=
  ⟨h.os, h.tape, h.output, h.size, fun k hk hr => h.block k hk (by omega)⟩
theorem Only.of_below {lo hi : Nat} {w w' : World} (h : Below w.heap.size w w') : Only lo hi w w' := ⟨h.os, h.tape, h.output, h.size, fun k hk _ => h.block k hk⟩
theorem Touch.only {w w' : World} {n lo hi : Nat} {a : Option Addr} (h : Touch w w' n a) (ha : ∀ g, a = some ⟨g, 0, none⟩ → lo ≤ g ∧ g < hi) : Only lo hi w w' := by
  obtain ⟨r, hg, hr⟩ := h
  refine ⟨hg.os, hg.tape, hg.output, hg.size, fun k hk hd => hg.block k hk fun e => ?_⟩
  have := ha k (hr k e.symm).2
  omega
theorem ocell {lo hi : Nat} {W w1 : World} (h : Only lo hi W w1) : ∀ b o, b < W.heap.size → (b < lo ∨ hi ≤ b) → w1.cell? ⟨b, o, none⟩ = W.cell? ⟨b, o, none⟩ :=
  fun b o hb hd => World.cell?_of_block (a := ⟨b, o, none⟩) (h.block b hb hd)
theorem Only.refl (lo hi : Nat) (w : World) : Only lo hi w w := ⟨rfl, rfl, rfl, Nat.le_refl _, fun _ _ _ => rfl⟩
theorem Only.set {lo hi b : Nat} {w w' : World} (h : Only lo hi w w') (hb : lo ≤ b ∧ b < hi) (i : Nat) (v : Value) : Only lo hi w (w'.setCell ⟨b, i, none⟩ v) :=
  h.trans ⟨rfl, rfl, rfl, by simp [World.setCell], fun k _ hk => Below.heap_setCell _ _ _ _ (fun e => by simp at e; omega)⟩
theorem Only.setN {lo hi b : Nat} {w w' : World} (h : Only lo hi w w') (hb : w.heap.size ≤ b) (i : Nat) (v : Value) : Only lo hi w (w'.setCell ⟨b, i, none⟩ v) :=
  ⟨h.os, h.tape, h.output, by have := h.size; simp [World.setCell]; exact this, fun k hk hr => (Below.heap_setCell _ _ _ _ (fun e => by simp at e; omega)).trans (h.block k hk hr)⟩
theorem Only.drew {lo hi : Nat} {w w' : World} (h : Only lo hi w w') : Only lo hi w w'.drew := h.trans ⟨rfl, rfl, rfl, Nat.le_refl _, fun _ _ _ => rfl⟩
theorem Only.drewN {lo hi : Nat} {w w' : World} (h : Only lo hi w w') (n : Nat) : Only lo hi w (w'.drewN n) := h.trans ⟨rfl, rfl, rfl, Nat.le_refl _, fun _ _ _ => rfl⟩
theorem Only.then {lo hi : Nat} {w w' w'' : World} (h : Only lo hi w w') (hb : Below w'.heap.size w' w'') : Only lo hi w w'' := h.trans (Only.of_below hb)
theorem Only.alloc {lo hi : Nat} {w w' : World} (h : Only lo hi w w') (o : Obj) : Only lo hi w (w'.alloc o) := h.then ((Below.refl _ _).alloc (Nat.le_refl _) o)
theorem Only.grown {lo hi : Nat} {w w' w'' : World} {r : Option Nat} (h : Only lo hi w w') (hg : w'.grownBy w'' r) (hr : ∀ k, r = some k → lo ≤ k ∧ k < hi) : Only lo hi w w'' :=
  h.trans ⟨hg.os, hg.tape, hg.output, hg.size, fun k hk hd => hg.block k hk fun e => by have := hr k e.symm; omega⟩
theorem Below.only {lo hi B : Nat} {w0 w w' : World} (h0 : Below B w0 w) (h : Only lo hi w w') (hB : B ≤ lo) (hw : B ≤ w.heap.size) : Below B w0 w' := h.below h0 hB hw
theorem OwnI.only {E : TypeId} {w w' : World} {base lo hi : Nat} {a : Option Addr} {n c : Nat} {l : List Int} (h : OwnI E w base a n c l) (ho : Only lo hi w w') (hd : ∀ g, a = some ⟨g, 0, none⟩ → g < lo ∨ hi ≤ g) : OwnI E w' base a n c l := by
  obtain ⟨⟨hl, h2⟩, hw⟩ := h
  refine ⟨⟨hl, ?_⟩, hw⟩
  rcases h2 with h2 | ⟨g, cap, cur, he, hbs, hg, r⟩
  · exact .inl h2
  · have hlt : g < w.heap.size := Nat.lt_of_not_le fun h => by rw [Array.getElem?_eq_none h] at hg; cases hg
    have he' := he
    simp only [Value.slice.injEq] at he'
    exact .inr ⟨g, cap, cur, he, hbs, by rw [ho.block g hlt (hd g he'.1)]; exact hg, r⟩
theorem OwnF.only {α : Type} {k : Nat} {enc : α → List Value} {ok : α → Prop} {E : TypeId} {w w' : World} {base lo hi : Nat} {a : Option Addr} {n c : Nat} {l : List α} (h : OwnF k enc ok E w base a n c l) (ho : Only lo hi w w') (hd : ∀ g, a = some ⟨g, 0, none⟩ → g < lo ∨ hi ≤ g) : OwnF k enc ok E w' base a n c l := by
  obtain ⟨⟨hl, h2⟩, hw⟩ := h
  refine ⟨⟨hl, ?_⟩, hw⟩
  rcases h2 with h2 | ⟨g, cap, cur, he, hbs, hg, r⟩
  · exact .inl h2
  · have hlt : g < w.heap.size := Nat.lt_of_not_le fun h => by rw [Array.getElem?_eq_none h] at hg; cases hg
    have he' := he
    simp only [Value.slice.injEq] at he'
    exact .inr ⟨g, cap, cur, he, hbs, by rw [ho.block g hlt (hd g he'.1)]; exact hg, r⟩
theorem Ints.only {w w' : World} {lo hi : Nat} {a : Option Addr} {n c : Nat} {l : List Int} (h : Ints w a n c l) (ho : Only lo hi w w') (hd : ∀ g off, a = some ⟨g, off, none⟩ → g < lo ∨ hi ≤ g) : Ints w' a n c l := by
  refine ⟨h.len, h.cap, ?_, h.wf, h.nil⟩
  rcases h.pos with h0 | ⟨b, off, ha, hlt, hc⟩
  · exact .inl h0
  · exact .inr ⟨b, off, ha, Nat.lt_of_lt_of_le hlt ho.size, fun i x hx => (World.cell?_of_block (a := ⟨b, off + i, none⟩) (ho.block b hlt (hd b off ha))).trans (hc i x hx)⟩
theorem Flats.only {α : Type} {k : Nat} {enc : α → List Value} {ok : α → Prop} {w w' : World} {lo hi : Nat} {a : Option Addr} {n c : Nat} {l : List α} (h : Flats k enc ok w a n c l) (ho : Only lo hi w w') (hd : ∀ g off, a = some ⟨g, off, none⟩ → g < lo ∨ hi ≤ g) : Flats k enc ok w' a n c l := by
  refine ⟨h.len, h.cap, ?_, h.wf, h.nil⟩
  rcases h.pos with h0 | ⟨b, off, ha, hlt, hc⟩
  · exact .inl h0
  · exact .inr ⟨b, off, ha, Nat.lt_of_lt_of_le hlt ho.size, fun i x hx j v hv => (World.cell?_of_block (a := ⟨b, off + i * k + j, none⟩) (ho.block b hlt (hd b off ha))).trans (hc i x hx j v hv)⟩
structure Own (P : World → Prop) (lo hi : Nat) (w : World) : Prop where
  fact : P w
  upto : hi ≤ w.heap.size
  here : ∀ w1 w2 : World, (∀ k, lo ≤ k → k < hi → w2.heap[k]? = w1.heap[k]?) → P w1 → P w2
theorem Own.keep {P : World → Prop} {lo hi : Nat} {w w' : World} (h : Own P lo hi w) (hb : Below w.heap.size w w') : Own P lo hi w' :=
  ⟨h.here w w' (fun k _ hk => hb.block k (Nat.lt_of_lt_of_le hk h.upto)) h.fact, Nat.le_trans h.upto hb.size, h.here⟩
theorem Own.apart {P : World → Prop} {lo hi lo' hi' : Nat} {w w' : World} (h : Own P lo hi w) (ho : Only lo' hi' w w') (hd : hi ≤ lo' ∨ hi' ≤ lo) : Own P lo hi w' :=
  ⟨h.here w w' (fun k h1 h2 => ho.block k (Nat.lt_of_lt_of_le h2 h.upto) (by omega)) h.fact, Nat.le_trans h.upto ho.size, h.here⟩
theorem Own.turn {P Q : World → Prop} {lo hi : Nat} {w w' : World} (h : Own P lo hi w) (hs : w.heap.size ≤ w'.heap.size) (hq : Q w') (hh : ∀ w1 w2 : World, (∀ k, lo ≤ k → k < hi → w2.heap[k]? = w1.heap[k]?) → Q w1 → Q w2) : Own Q lo hi w' :=
  ⟨hq, Nat.le_trans h.upto hs, hh⟩
theorem Blk.apart {w w' : World} {b lo hi : Nat} {cs : Array Value} {T : TypeId} (h : Blk w b cs T) (ho : Only lo hi w w') (hd : b < lo ∨ hi ≤ b) : Blk w' b cs T := (ho.block b h.lt hd).trans h
theorem OwnI.here {E : TypeId} {base lo hi : Nat} {a : Option Addr} {n c : Nat} {l : List Int} (ha : ∀ g, a = some ⟨g, 0, none⟩ → lo ≤ g ∧ g < hi) (w1 w2 : World) (hk : ∀ k, lo ≤ k → k < hi → w2.heap[k]? = w1.heap[k]?) (h : OwnI E w1 base a n c l) : OwnI E w2 base a n c l := by
  obtain ⟨⟨hl, h2⟩, hw⟩ := h
  refine ⟨⟨hl, ?_⟩, hw⟩
  rcases h2 with h2 | ⟨g, cap, cur, he, hbs, hg, r⟩
  · exact .inl h2
  · simp only [Value.slice.injEq] at he
    obtain ⟨h1, h2⟩ := ha g he.1
    exact .inr ⟨g, cap, cur, by simp only [Value.slice.injEq]; exact he, hbs, by rw [hk g h1 h2]; exact hg, r⟩
theorem OwnF.here {α : Type} {k' : Nat} {enc : α → List Value} {ok : α → Prop} {E : TypeId} {base lo hi : Nat} {a : Option Addr} {n c : Nat} {l : List α} (ha : ∀ g, a = some ⟨g, 0, none⟩ → lo ≤ g ∧ g < hi) (w1 w2 : World) (hk : ∀ k, lo ≤ k → k < hi → w2.heap[k]? = w1.heap[k]?) (h : OwnF k' enc ok E w1 base a n c l) : OwnF k' enc ok E w2 base a n c l := by
  obtain ⟨⟨hl, h2⟩, hw⟩ := h
  refine ⟨⟨hl, ?_⟩, hw⟩
  rcases h2 with h2 | ⟨g, cap, cur, he, hbs, hg, r⟩
  · exact .inl h2
  · simp only [Value.slice.injEq] at he
    obtain ⟨h1, h2⟩ := ha g he.1
    exact .inr ⟨g, cap, cur, by simp only [Value.slice.injEq]; exact he, hbs, by rw [hk g h1 h2]; exact hg, r⟩
theorem OwnI.own {E : TypeId} {w : World} {base : Nat} {a : Option Addr} {n c : Nat} {l : List Int} (h : OwnI E w base a n c l) : Own (fun w => OwnI E w base a n c l) base w.heap.size w := ⟨h, Nat.le_refl _, OwnI.here h.blk⟩
theorem OwnF.own {α : Type} {k' : Nat} {enc : α → List Value} {ok : α → Prop} {E : TypeId} {w : World} {base : Nat} {a : Option Addr} {n c : Nat} {l : List α} (h : OwnF k' enc ok E w base a n c l) : Own (fun w => OwnF k' enc ok E w base a n c l) base w.heap.size w := ⟨h, Nat.le_refl _, OwnF.here h.blk⟩
end Go.Proofs.YtkaikbaagajckaaGreat
namespace Go.Proofs.YtkaikbaagajckaaGreat
open Go.RowKit
set_option linter.unusedVariables false
set_option linter.unusedSimpArgs false
instance I64.dec (x : Int) : Decidable (I64 x) := inferInstanceAs (Decidable (_ ∧ _))
/-- bytes that are read: '.slice a n c' -/
structure Byts (w : World) (a : Option Addr) (n c : Nat) : Prop where
  cap : n ≤ c
  pos : n = 0 ∨ ∃ b off, a = some ⟨b, off, none⟩ ∧ b < w.heap.size ∧ ∀ i, i < n → ∃ x : Int, 0 ≤ x ∧ x ≤ 255 ∧ w.cell? ⟨b, off + i, none⟩ = some (.int .u8 x)
theorem Byts.keep {w w' : World} {a : Option Addr} {n c : Nat} (h : Byts w a n c) (hb : Below w.heap.size w w') : Byts w' a n c := by
  refine ⟨h.cap, ?_⟩
  rcases h.pos with h0 | ⟨b, off, ha, hlt, hc⟩
  · exact .inl h0
  · exact .inr ⟨b, off, ha, Nat.lt_of_lt_of_le hlt hb.size, fun i hi => by obtain ⟨x, h1, h2, h3⟩ := hc i hi; exact ⟨x, h1, h2, (hb.cell (p := ⟨b, off + i, none⟩) hlt).trans h3⟩⟩
theorem Byts.at {w : World} {a : Option Addr} {n c : Nat} (h : Byts w a n c) {k : Nat} (hk : k < n) : ∃ b off x, a = some ⟨b, off, none⟩ ∧ b < w.heap.size ∧ (0 : Int) ≤ x ∧ x ≤ 255 ∧ w.cell? ⟨b, off + k, none⟩ = some (.int .u8 x) := by
  obtain ⟨b, off, ha, hlt, hc⟩ := h.pos.resolve_left (by omega)
  obtain ⟨x, h1, h2, h3⟩ := hc k hk
  exact ⟨b, off, x, ha, hlt, h1, h2, h3⟩
/-- bytes in blocks below lo -/
def BytsLo (w : World) (lo : Nat) (a : Option Addr) (n c : Nat) : Prop := Byts w a n c ∧ lo ≤ w.heap.size ∧ (n = 0 ∨ ∃ b off, a = some ⟨b, off, none⟩ ∧ b < lo)
theorem Byts.lo {w : World} {a : Option Addr} {n c : Nat} (h : Byts w a n c) : BytsLo w w.heap.size a n c :=
  ⟨h, Nat.le_refl _, h.pos.imp_right fun ⟨b, off, ha, hlt, _⟩ => ⟨b, off, ha, hlt⟩⟩
theorem BytsLo.below {w w' : World} {lo : Nat} {a : Option Addr} {n c : Nat} (h : BytsLo w lo a n c) (hb : Below lo w w') : BytsLo w' lo a n c := by
  obtain ⟨h1, h2, h3⟩ := h
  refine ⟨⟨h1.cap, ?_⟩, Nat.le_trans h2 hb.size, h3⟩
  rcases h3 with h0 | ⟨b, off, ha, hlt⟩
  · exact .inl h0
  · rcases h1.pos with h0 | ⟨b', off', ha', hlt', hc⟩
    · exact .inl h0
    · rw [ha] at ha'
      simp only [Option.some.injEq, Addr.mk.injEq, and_true] at ha'
      obtain ⟨rfl, rfl⟩ := ha'
      exact .inr ⟨b, off, ha, Nat.lt_of_lt_of_le hlt' hb.size, fun i hi => by obtain ⟨x, h1, h2, h3⟩ := hc i hi; exact ⟨x, h1, h2, (hb.cell (p := ⟨b, off + i, none⟩) hlt).trans h3⟩⟩
/-- block b is a source whose bytes lie below lo -/
def Src (T : TypeId) (w : World) (lo b : Nat) : Prop :=
  ∃ a n c p s, Blk w b #[.slice a n c, .int .i64 p, .int .i64 s] T ∧ BytsLo w lo a n c ∧ n ≤ 4096 ∧ 0 ≤ p ∧ p ≤ n ∧ 0 ≤ s ∧ s < 2147483647 ∧ lo ≤ b
theorem Src.lt {T : TypeId} {w : World} {lo b : Nat} (h : Src T w lo b) : lo ≤ b ∧ b < w.heap.size := by
  obtain ⟨a, n, c, p, s, h1, _, _, _, _, _, _, h2⟩ := h
  exact ⟨h2, h1.lt⟩
theorem Only.lower {lo hi : Nat} {w w' : World} (h : Only lo hi w w') (hl : lo ≤ w.heap.size) : Below lo w w' :=
  ⟨h.os, h.tape, h.output, h.size, fun k hk => h.block k (by omega) (.inl hk)⟩
/-- the source stays where other blocks from lo on are written -/
theorem Src.apart {T : TypeId} {w w' : World} {lo b l2 h2 : Nat} (h : Src T w lo b) (ho : Only l2 h2 w w') (hd : b < l2 ∨ h2 ≤ b) (hl : lo ≤ l2) : Src T w' lo b := by
  have hlt := h.lt
  obtain ⟨a, n, c, p, s, h1, h3, r⟩ := h
  refine ⟨a, n, c, p, s, h1.apart ho hd, h3.below ?_, r⟩
  exact ⟨ho.os, ho.tape, ho.output, ho.size, fun k hk => ho.block k (by omega) (.inl (by omega))⟩
theorem Src.keep {T : TypeId} {w w' : World} {lo b : Nat} (h : Src T w lo b) (hb : Below w.heap.size w w') : Src T w' lo b :=
  h.apart (Only.of_below (lo := w.heap.size) (hi := w.heap.size) hb) (.inl h.lt.2) (Nat.le_of_lt (Nat.lt_of_le_of_lt h.lt.1 h.lt.2))
theorem Src.alloc {T : TypeId} {w : World} {lo b : Nat} (h : Src T w lo b) (o : Obj) : Src T (w.alloc o) lo b := h.keep ((Below.refl _ _).alloc (Nat.le_refl _) o)
theorem Src.drewN {T : TypeId} {w : World} {lo b : Nat} (h : Src T w lo b) (n : Nat) : Src T (w.drewN n) lo b := h.keep ⟨rfl, rfl, rfl, Nat.le_refl _, fun _ _ => rfl⟩
theorem Src.drew {T : TypeId} {w : World} {lo b : Nat} (h : Src T w lo b) : Src T w.drew lo b := h.keep ⟨rfl, rfl, rfl, Nat.le_refl _, fun _ _ => rfl⟩
theorem Src.set {T : TypeId} {w : World} {lo b b' : Nat} (h : Src T w lo b) (hb : b' ≠ b) (hl : lo ≤ b') (i : Nat) (v : Value) : Src T (w.setCell ⟨b', i, none⟩ v) lo b := by
  have := (Only.refl b' (b' + 1) w).set ⟨Nat.le_refl _, Nat.lt_succ_self _⟩ i v
  exact h.apart this (by omega) hl
theorem Blk.set {w : World} {b : Nat} {cs : Array Value} {T : TypeId} (h : Blk w b cs T) (i : Nat) (v : Value) : Blk (w.setCell ⟨b, i, none⟩ v) b (cs.setIfInBounds i v) T := by
  exact heap_setCell_same w b i cs T v h
set_option maxHeartbeats 1000000 in
theorem spec_l01From {lo : Nat} {a : Option Addr} {n c : Nat} {w : World} (hB : Byts w a n c) (hn : n ≤ 4096) (hl : n = 0 ∨ ∃ b off, a = some ⟨b, off, none⟩ ∧ b < lo) (hlw : lo ≤ w.heap.size) :
    Calls Tryz.prog 98 #[.slice a n c] w fun e w' => ∃ b, e = .returned (.pointer (some ⟨b, 0, none⟩)) ∧ Below w.heap.size w w' ∧ w.heap.size ≤ b ∧ Src 203 w' lo b := by
  have HL := Lib.hid hl
  clear hl
  have HB := Lib.hid hB
  clear hB
  go_enter Tryz.func98, Tryz.ntmps98
  have B0 := Lib.hid (Blk.made w #[.slice a n c, .int .i64 0, .int .i64 52021] 203)
  have hb0 : Below w.heap.size w (w.alloc (.cells #[.slice a n c, .int .i64 0, .int .i64 52021] 203)) := bel
  go_wp2
  go_loopw [4] (fun s4 wr => ∃ (k : Nat) (sd : Int), k ≤ n ∧ s4 = .int .i64 k ∧ 0 ≤ sd ∧ sd < 2147483647 ∧ Below w.heap.size w wr ∧ Hid (Blk wr w.heap.size #[.slice a n c, .int .i64 0, .int .i64 sd] 203)) (fun s4 _ => n - (intOf s4).toNat)
  case atStart => exact ⟨0, 52021, Nat.zero_le _, rfl, by omega, by omega, hb0, B0⟩
  case round =>
    clear B0 hb0
    obtain ⟨k, sd, hk, rfl, h0, h1, hbl, B⟩ := hrel
    have hk0 : (0 : Int) ≤ (k : Int) := by omega
    have c0 := B.out.cell 0
    have c1 := B.out.cell 1
    have c2 := B.out.cell 2
    have z1 := B.out.lt
    have hfz := B.out.free
    simp at c0 c1 c2
    by_cases hlt : k < n ∧ k < 64
    · obtain ⟨b, off, x, rfl, hb, hx0, hx1, hcell⟩ := (HB.out.keep hbl).at hlt.1
      have hk1 : (k : Int) < (n : Int) := by omega
      have hk2 : (k : Int) < 64 := by omega
      have e1 : IntKind.i64.wrap (sd * 59) = sd * 59 := IntWalk.i64_in _ (by omega)
      have e2 : IntKind.i64.wrap x = x := IntWalk.i64_in _ (by omega)
      have e3 : IntKind.i64.wrap (sd * 59 + x) = sd * 59 + x := IntWalk.i64_in _ (by omega)
      go_wp2
      go_region
      go_wp2
      go_roundw
      case rel => exact ⟨k + 1, (sd * 59 + x) % 2147483647, by omega, by go_num, by omega, by omega, bel, Blk.drew (B.out.set 2 _)⟩
      case measure => simp [intOf]; omega
    · by_cases hlt2 : k < n
      · have hk1 : (k : Int) < (n : Int) := by omega
        have hk2 : ¬ (k : Int) < 64 := by omega
        go_wp2
        go_ret
        exact ⟨w.heap.size, rfl, hbl, Nat.le_refl _, a, n, c, 0, sd, B.out, ⟨HB.out.keep hbl, Nat.le_trans hlw hbl.size, HL.out⟩, hn, by omega, by omega, h0, h1, hlw⟩
      · have hk1 : ¬ (k : Int) < (n : Int) := by omega
        go_wp2
        go_ret
        exact ⟨w.heap.size, rfl, hbl, Nat.le_refl _, a, n, c, 0, sd, B.out, ⟨HB.out.keep hbl, Nat.le_trans hlw hbl.size, HL.out⟩, hn, by omega, by omega, h0, h1, hlw⟩
def allI64 : List Int → Prop
  | [] => True
  | x :: r => I64 x ∧ allI64 r
theorem allI64.mem : ∀ {l : List Int}, allI64 l → ∀ x ∈ l, I64 x
  | [], _, x, h => by cases h
  | y :: r, h, x, hx => by
    rcases List.mem_cons.1 hx with rfl | hx
    · exact h.1
    · exact allI64.mem h.2 x hx
theorem ints_lit (w : World) (T : TypeId) (l : List Int) (hw : allI64 l) : Ints (w.alloc (.cells (l.map (Value.int .i64)).toArray T)) (some ⟨w.heap.size, 0, none⟩) l.length l.length l := by
  refine ⟨rfl, Nat.le_refl _, .inr ⟨w.heap.size, 0, rfl, by simp, fun i x hx => ?_⟩, hw.mem, fun h => by cases h⟩
  have := (Blk.made w (l.map (Value.int .i64)).toArray T).cell i
  rw [Nat.zero_add, this]
  simp [hx]
/-- what l01Next answers -/
def NextIn (n r : Int) : Prop := 0 ≤ r ∧ (n ≤ 1 → r = 0) ∧ (1 < n → r < n)
theorem NextIn.i64 {n r : Int} (h : NextIn n r) (hn : I64 n) : I64 r := by
  obtain ⟨h1, h2, h3⟩ := h
  unfold I64 at hn ⊢
  by_cases h : n ≤ 1
  · have := h2 h; omega
  · have := h3 (by omega); omega
theorem NextIn.mod {n x : Int} (hn : 1 < n) : NextIn n (x % n) := ⟨Int.emod_nonneg _ (by omega), fun h => by omega, fun _ => Int.emod_lt_of_pos _ (by omega)⟩
set_option maxHeartbeats 1000000 in
theorem spec_l01Next {b lo : Nat} {n : Int} {w : World} (hS : Src 203 w lo b) (hn : I64 n) :
    Calls Tryz.prog 134 #[.pointer (some ⟨b, 0, none⟩), .int .i64 n] w fun e w' => ∃ r, e = .returned (.int .i64 r) ∧ NextIn n r ∧ Only b (b + 1) w w' ∧ Src 203 w' lo b := by
  by_cases hn1 : n ≤ 1
  · have HS := Lib.hid hS
    clear hS
    go_enter Tryz.func134, Tryz.ntmps134
    go_wp2
    go_ret
    exact ⟨0, rfl, ⟨by omega, fun _ => rfl, fun h => by omega⟩, by repeat (first | with_reducible exact Only.refl _ _ _ | with_reducible assumption | with_reducible refine Only.set ?_ (by first | omega | (simp; omega)) _ _ | with_reducible refine Only.setN ?_ (by first | omega | (simp; omega)) _ _ | with_reducible refine Only.alloc ?_ _ | with_reducible refine Only.drew ?_ | with_reducible refine Only.drewN ?_ _ | with_reducible refine Only.then ?_ (by assumption) | with_reducible refine Only.trans ?_ (by assumption)), HS.out⟩
  · obtain ⟨a, m, c, p, sd, B, hBy, hm, hp0, hp1, hs0, hs1, hlo⟩ := hS
    have HB := Lib.hid B
    have HY := Lib.hid hBy
    have hfz := B.free
    have c0 := B.cell 0
    have c1 := B.cell 1
    have c2 := B.cell 2
    have z1 := B.lt
    simp at c0 c1 c2
    clear B hBy
    have e1 : IntKind.i64.wrap (sd * 48271) = sd * 48271 := IntWalk.i64_in _ (by omega)
    have e2 : IntKind.i64.wrap (sd * 48271 + 29) = sd * 48271 + 29 := IntWalk.i64_in _ (by omega)
    have e4 : IntKind.i64.wrap (p + 1) = p + 1 := IntWalk.i64_in _ (by omega)
    have e5 : ¬ n = 0 := by omega
    by_cases hpm : p < m
    · obtain ⟨p', rfl⟩ := Int.eq_ofNat_of_zero_le hp0
      obtain ⟨b', off, x, rfl, hb', hx0, hx1, hcell⟩ := HY.out.1.at (k := p') (by omega)
      have e3 : IntKind.i64.wrap x = x := IntWalk.i64_in _ (by omega)
      have hne : b' ≠ b := by
        rcases HY.out.2.2 with h | ⟨q, o, h1, h2⟩
        · omega
        · simp at h1; omega
      have hBY : ∀ w', Only b (b + 1) w w' → BytsLo w' lo (some ⟨b', off, none⟩) m c := fun w' ho => HY.out.below (ho.below (Below.refl _ _) hlo (Nat.le_of_lt (Nat.lt_of_le_of_lt hlo z1)))
      have HBY := Lib.hid hBY
      clear hBY
      by_cases hn2 : n ≤ 256
      · by_cases hn3 : (p' + 1) % 2 = 0
        · have e7 : ((p' : Int) + 1) % 2 = 0 := by omega
          go_enter Tryz.func134, Tryz.ntmps134
          go_wp2
          go_quiet (fail)
          go_wp2
          go_quiet (fail)
          go_wp2
          go_quiet (fail)
          go_wp2
          go_ret
          exact ⟨_, rfl, NextIn.mod (by omega), by repeat (first | with_reducible exact Only.refl _ _ _ | with_reducible assumption | with_reducible refine Only.set ?_ (by first | omega | (simp; omega)) _ _ | with_reducible refine Only.setN ?_ (by first | omega | (simp; omega)) _ _ | with_reducible refine Only.alloc ?_ _ | with_reducible refine Only.drew ?_ | with_reducible refine Only.drewN ?_ _ | with_reducible refine Only.then ?_ (by assumption) | with_reducible refine Only.trans ?_ (by assumption)), _, _, _, _, _, (HB.out.set 2 _).set 1 _, HBY.out _ (by repeat (first | with_reducible exact Only.refl _ _ _ | with_reducible assumption | with_reducible refine Only.set ?_ (by first | omega | (simp; omega)) _ _ | with_reducible refine Only.setN ?_ (by first | omega | (simp; omega)) _ _ | with_reducible refine Only.alloc ?_ _ | with_reducible refine Only.drew ?_ | with_reducible refine Only.drewN ?_ _ | with_reducible refine Only.then ?_ (by assumption) | with_reducible refine Only.trans ?_ (by assumption))), hm, by omega, by omega, Int.emod_nonneg _ (by omega), Int.emod_lt_of_pos _ (by omega), hlo⟩
        · have e7 : ¬ ((p' : Int) + 1) % 2 = 0 := by omega
          go_enter Tryz.func134, Tryz.ntmps134
          go_wp2
          go_quiet (fail)
          go_wp2
          go_quiet (fail)
          go_wp2
          go_ret
          exact ⟨_, rfl, NextIn.mod (by omega), by repeat (first | with_reducible exact Only.refl _ _ _ | with_reducible assumption | with_reducible refine Only.set ?_ (by first | omega | (simp; omega)) _ _ | with_reducible refine Only.setN ?_ (by first | omega | (simp; omega)) _ _ | with_reducible refine Only.alloc ?_ _ | with_reducible refine Only.drew ?_ | with_reducible refine Only.drewN ?_ _ | with_reducible refine Only.then ?_ (by assumption) | with_reducible refine Only.trans ?_ (by assumption)), _, _, _, _, _, (HB.out.set 2 _).set 1 _, HBY.out _ (by repeat (first | with_reducible exact Only.refl _ _ _ | with_reducible assumption | with_reducible refine Only.set ?_ (by first | omega | (simp; omega)) _ _ | with_reducible refine Only.setN ?_ (by first | omega | (simp; omega)) _ _ | with_reducible refine Only.alloc ?_ _ | with_reducible refine Only.drew ?_ | with_reducible refine Only.drewN ?_ _ | with_reducible refine Only.then ?_ (by assumption) | with_reducible refine Only.trans ?_ (by assumption))), hm, by omega, by omega, Int.emod_nonneg _ (by omega), Int.emod_lt_of_pos _ (by omega), hlo⟩
      · go_enter Tryz.func134, Tryz.ntmps134
        go_wp2
        go_quiet (fail)
        go_wp2
        go_quiet (fail)
        go_wp2
        go_ret
        exact ⟨_, rfl, NextIn.mod (by omega), by repeat (first | with_reducible exact Only.refl _ _ _ | with_reducible assumption | with_reducible refine Only.set ?_ (by first | omega | (simp; omega)) _ _ | with_reducible refine Only.setN ?_ (by first | omega | (simp; omega)) _ _ | with_reducible refine Only.alloc ?_ _ | with_reducible refine Only.drew ?_ | with_reducible refine Only.drewN ?_ _ | with_reducible refine Only.then ?_ (by assumption) | with_reducible refine Only.trans ?_ (by assumption)), _, _, _, _, _, (HB.out.set 2 _).set 1 _, HBY.out _ (by repeat (first | with_reducible exact Only.refl _ _ _ | with_reducible assumption | with_reducible refine Only.set ?_ (by first | omega | (simp; omega)) _ _ | with_reducible refine Only.setN ?_ (by first | omega | (simp; omega)) _ _ | with_reducible refine Only.alloc ?_ _ | with_reducible refine Only.drew ?_ | with_reducible refine Only.drewN ?_ _ | with_reducible refine Only.then ?_ (by assumption) | with_reducible refine Only.trans ?_ (by assumption))), hm, by omega, by omega, Int.emod_nonneg _ (by omega), Int.emod_lt_of_pos _ (by omega), hlo⟩
    · have hBY : ∀ w', Only b (b + 1) w w' → BytsLo w' lo a m c := fun w' ho => HY.out.below (ho.below (Below.refl _ _) hlo (Nat.le_of_lt (Nat.lt_of_le_of_lt hlo z1)))
      have HBY := Lib.hid hBY
      clear hBY
      go_enter Tryz.func134, Tryz.ntmps134
      go_wp2
      go_quiet (fail)
      go_wp2
      go_ret
      exact ⟨_, rfl, NextIn.mod (by omega), by repeat (first | with_reducible exact Only.refl _ _ _ | with_reducible assumption | with_reducible refine Only.set ?_ (by first | omega | (simp; omega)) _ _ | with_reducible refine Only.setN ?_ (by first | omega | (simp; omega)) _ _ | with_reducible refine Only.alloc ?_ _ | with_reducible refine Only.drew ?_ | with_reducible refine Only.drewN ?_ _ | with_reducible refine Only.then ?_ (by assumption) | with_reducible refine Only.trans ?_ (by assumption)), _, _, _, _, _, HB.out.set 2 _, HBY.out _ (by repeat (first | with_reducible exact Only.refl _ _ _ | with_reducible assumption | with_reducible refine Only.set ?_ (by first | omega | (simp; omega)) _ _ | with_reducible refine Only.setN ?_ (by first | omega | (simp; omega)) _ _ | with_reducible refine Only.alloc ?_ _ | with_reducible refine Only.drew ?_ | with_reducible refine Only.drewN ?_ _ | with_reducible refine Only.then ?_ (by assumption) | with_reducible refine Only.trans ?_ (by assumption))), hm, by omega, by omega, Int.emod_nonneg _ (by omega), Int.emod_lt_of_pos _ (by omega), hlo⟩
set_option maxHeartbeats 1000000 in
theorem spec_l01Pick {b lo : Nat} {a : Option Addr} {n c : Nat} {l : List Int} {w : World} (hS : Src 203 w lo b) (hI : Ints w a n c l) (hn : n ≤ 1048576) (h0 : 0 < n) (hb : ∀ g off, a = some ⟨g, off, none⟩ → g ≠ b) :
    Calls Tryz.prog 191 #[.pointer (some ⟨b, 0, none⟩), .slice a n c] w fun e w' => ∃ r, e = .returned (.int .i64 r) ∧ r ∈ l ∧ I64 r ∧ Only b (b + 1) w w' ∧ Src 203 w' lo b := by
  have HI := Lib.hid hI
  have hS' := Lib.hid hS
  clear hS hI
  have hni : I64 (n : Int) := ⟨by omega, by omega⟩
  go_enter Tryz.func191, Tryz.ntmps191
  go_wp2_with fail
  refine Calls.mono (spec_l01Next hS'.out hni) ?_
  rintro e w1 ⟨r, rfl, hr, ho, hS1⟩
  have hr0 := hr.1
  have hrn : r < (n : Int) := by
    by_cases h1 : (n : Int) ≤ 1
    · have := hr.2.1 h1; omega
    · exact hr.2.2 (by omega)
  obtain ⟨q, rfl⟩ := Int.eq_ofNat_of_zero_le hr0
  obtain ⟨g, off, x, rfl, hg, hx, hcell, hwf⟩ := (HI.out.only ho (fun g off e => by have := hb g off e; omega)).at (k := q) (by omega)
  have Hx := Lib.hid (List.mem_of_getElem? hx)
  clear hx
  have HS1 := Lib.hid hS1
  clear hS1 hr
  go_wp2
  go_ret
  exact ⟨x, rfl, Hx.out, hwf, ho, HS1.out⟩
end Go.Proofs.YtkaikbaagajckaaGreat
namespace Go.Proofs.YtkaikbaagajckaaGreat
open Go.RowKit
set_option linter.unusedVariables false
set_option linter.unusedSimpArgs false
def Sm (x : Int) : Prop := -1000000 ≤ x ∧ x ≤ 1000000
theorem Sm.i64 {x : Int} (h : Sm x) : I64 x := ⟨by have := h.1; omega, by have := h.2; omega⟩
def Sm5 (x : Int) : Prop := -100000 ≤ x ∧ x ≤ 100000
theorem Sm5.i64 {x : Int} (h : Sm5 x) : I64 x := ⟨by have := h.1; omega, by have := h.2; omega⟩
/-- from w to w' only the source b is written, and it is a source there -/
structure Dw (T : TypeId) (lo b : Nat) (w w' : World) : Prop where
  only : Only b (b + 1) w w'
  src : Src T w' lo b
  lt : b < w.heap.size
theorem Dw.start {T : TypeId} {lo b : Nat} {w w' : World} (h : Dw T lo b w w') : Dw T lo b w' w' := ⟨Only.refl _ _ _, h.src, h.src.lt.2⟩
theorem Dw.of {T : TypeId} {lo b : Nat} {w : World} (h : Src T w lo b) : Dw T lo b w w := ⟨Only.refl _ _ _, h, h.lt.2⟩
theorem Dw.trans {T : TypeId} {lo b : Nat} {w w' w'' : World} (h : Dw T lo b w w') (h' : Dw T lo b w' w'') : Dw T lo b w w'' := ⟨h.only.trans h'.only, h'.src, h.lt⟩
theorem Dw.belowG {T : TypeId} {lo b B : Nat} {w w' w'' : World} (h : Dw T lo b w w') (hb : Below B w' w'') (hB : w.heap.size ≤ B) : Dw T lo b w w'' := by
  have hlt := h.src.lt
  have hb0 := h.lt
  have hs := h.only.size
  refine ⟨⟨hb.os.trans h.only.os, hb.tape.trans h.only.tape, hb.output.trans h.only.output, Nat.le_trans hs hb.size, fun k hk hr => (hb.block k (by omega)).trans (h.only.block k hk hr)⟩, ?_, h.lt⟩
  refine h.src.apart (l2 := B) (h2 := w'.heap.size) ⟨hb.os, hb.tape, hb.output, hb.size, fun k hk hr => hb.block k (by omega)⟩ (.inl (by omega)) (by omega)
theorem Dw.below {T : TypeId} {lo b : Nat} {w w' w'' : World} (h : Dw T lo b w w') (hb : Below w'.heap.size w' w'') : Dw T lo b w w'' := h.belowG hb h.only.size
theorem Dw.alloc {T : TypeId} {lo b : Nat} {w w' : World} (h : Dw T lo b w w') (o : Obj) : Dw T lo b w (w'.alloc o) := h.below ((Below.refl _ _).alloc (Nat.le_refl _) o)
theorem Dw.drewN {T : TypeId} {lo b : Nat} {w w' : World} (h : Dw T lo b w w') (n : Nat) : Dw T lo b w (w'.drewN n) := h.below ⟨rfl, rfl, rfl, Nat.le_refl _, fun _ _ => rfl⟩
theorem Dw.drew {T : TypeId} {lo b : Nat} {w w' : World} (h : Dw T lo b w w') : Dw T lo b w w'.drew := h.below ⟨rfl, rfl, rfl, Nat.le_refl _, fun _ _ => rfl⟩
theorem Dw.set {T : TypeId} {lo b g : Nat} {w w' : World} (h : Dw T lo b w w') (hg : w.heap.size ≤ g) (i : Nat) (v : Value) : Dw T lo b w (w'.setCell ⟨g, i, none⟩ v) :=
  h.belowG ((Below.refl w.heap.size w').setCell (p := ⟨g, i, none⟩) hg v) (Nat.le_refl _)
theorem Dw.size {T : TypeId} {lo b : Nat} {w w' : World} (h : Dw T lo b w w') : w.heap.size ≤ w'.heap.size := h.only.size
theorem Dw.out {T : TypeId} {b : Nat} {w w1 w' : World} (h : Dw T w.heap.size b w1 w') (h0 : Below w.heap.size w w1) : Below w.heap.size w w' := by
  have := (h.src.lt).1
  exact h.only.below h0 this h0.size
theorem Dw.fin {T : TypeId} {lo b B : Nat} {w w1 w' : World} (h : Dw T lo b w1 w') (h0 : Below B w w1) (hB : B ≤ b) : Below B w w' := h.only.below h0 hB (by have := h.lt; omega)
theorem Dw.frz {T : TypeId} {lo b g : Nat} {w w' : World} (h : Dw T lo b w w') (hf : ∀ i, w.frozen? ⟨g, i, none⟩ = false) (hg : g < w.heap.size) (hne : g ≠ b) : ∀ i, w'.frozen? ⟨g, i, none⟩ = false := fun i => by
  have := h.only.block g hg (by omega)
  have h1 := hf i
  unfold World.frozen? at h1 ⊢
  simp only at h1 ⊢
  rw [this]; exact h1
/-- what a cell that is there holds -/
def valAt (w : World) (g i : Nat) : Value := (w.cell? ⟨g, i, none⟩).getD undef
theorem valAt_of {w : World} {g i : Nat} (h : (w.cell? ⟨g, i, none⟩).isSome = true) : w.cell? ⟨g, i, none⟩ = some (valAt w g i) := by
  obtain ⟨v, hv⟩ := Option.isSome_iff_exists.1 h
  rw [valAt, hv]; rfl
theorem some_is {w : World} {a : Addr} {v : Value} (h : w.cell? a = some v) : (w.cell? a).isSome = true := by rw [h]; rfl
theorem Dw.has {T : TypeId} {lo b g o : Nat} {w w' : World} (h : Dw T lo b w w') {u : Value} (hc : w.cell? ⟨g, o, none⟩ = some u) (hne : g ≠ b) : w'.cell? ⟨g, o, none⟩ = some (valAt w' g o) := by
  have hlt := World.block_lt_of_cell? w _ hc
  refine valAt_of ?_
  rw [ocell h.only g o hlt (by omega), hc]; rfl
theorem isSome_set {w : World} {p a : Addr} {v : Value} (h : (w.cell? a).isSome = true) : ((w.setCell p v).cell? a).isSome = true := by
  by_cases e : p = a
  · subst e
    obtain ⟨u, hu⟩ := Option.isSome_iff_exists.1 h
    obtain ⟨v', hy'⟩ := cell?_setCell_some (w := w) (p := p) (x := v) (q := p) (v := u) hu
    rw [hy']; rfl
  · rw [World.cell?_setCell_other w p a v e]; exact h
theorem cell_drew {w : World} {a : Addr} {u : Value} (h : w.cell? a = some u) : w.drew.cell? a = some u := h
theorem lt_drew {w : World} {g : Nat} (h : g < w.heap.size) : g < w.drew.heap.size := h
theorem frz_drew {w : World} {g : Nat} (h : ∀ i, w.frozen? ⟨g, i, none⟩ = false) : ∀ i, w.drew.frozen? ⟨g, i, none⟩ = false := h
theorem val_drew {w : World} {g i : Nat} {u : Value} (h : w.cell? ⟨g, i, none⟩ = some u) : w.drew.cell? ⟨g, i, none⟩ = some (valAt w.drew g i) := valAt_of (some_is (w := w.drew) h)
theorem lt_set {w : World} {g : Nat} {p : Addr} {v : Value} (h : g < w.heap.size) : g < (w.setCell p v).heap.size := by simpa [World.setCell] using h
theorem frz_set {w : World} {g : Nat} {p : Addr} {v : Value} (h : ∀ i, w.frozen? ⟨g, i, none⟩ = false) : ∀ i, (w.setCell p v).frozen? ⟨g, i, none⟩ = false := fun i => (World.frozen?_setCell ..).trans (h i)
theorem cell_set {w : World} {g g' i i' : Nat} {u v : Value} (h : w.cell? ⟨g, i, none⟩ = some u) (hne : g' ≠ g) : (w.setCell ⟨g', i', none⟩ v).cell? ⟨g, i, none⟩ = some u := (World.cell?_setCell_far _ _ _ _ hne).trans h
theorem cell_alloc {w : World} {a : Addr} {u : Value} {o : Obj} (h : w.cell? a = some u) : (w.alloc o).cell? a = some u := (World.cell?_alloc_some _ _ _ (some_is h)).trans h
theorem lt_alloc {w : World} {g : Nat} {o : Obj} (h : g < w.heap.size) : g < (w.alloc o).heap.size := by simp; omega
theorem frz_alloc {w : World} {g : Nat} {o : Obj} (h : ∀ i, w.frozen? ⟨g, i, none⟩ = false) (hg : g < w.heap.size) : ∀ i, (w.alloc o).frozen? ⟨g, i, none⟩ = false := fun i => (((Below.refl _ _).alloc (Nat.le_refl _) o).frozen (p := ⟨g, i, none⟩) hg).trans (h i)
theorem Blk.has {w : World} {b : Nat} {cs : Array Value} {T : TypeId} (h : Blk w b cs T) {i : Nat} (hi : i < cs.size) : w.cell? ⟨b, i, none⟩ = some (valAt w b i) := by
  refine valAt_of ?_
  rw [h.cell i]; simp [hi]
theorem Blk.dw {T T' : TypeId} {lo b g : Nat} {w w' : World} {cs : Array Value} (h : Blk w g cs T') (hd : Dw T lo b w w') (hne : g ≠ b) : Blk w' g cs T' := h.apart hd.only (by omega)
theorem OwnI.dw {E T : TypeId} {lo b B : Nat} {w w' : World} {a : Option Addr} {n c : Nat} {l : List Int} (h : OwnI E w B a n c l) (hd : Dw T lo b w w') (hB : b < B) : OwnI E w' B a n c l :=
  h.only hd.only fun g hg => by have := (h.blk g hg).1; omega
theorem OwnF.dw {α : Type} {k : Nat} {enc : α → List Value} {ok : α → Prop} {E T : TypeId} {lo b B : Nat} {w w' : World} {a : Option Addr} {n c : Nat} {l : List α} (h : OwnF k enc ok E w B a n c l) (hd : Dw T lo b w w') (hB : b < B) : OwnF k enc ok E w' B a n c l :=
  h.only hd.only fun g hg => by have := (h.blk g hg).1; omega
theorem Ints.dw {T : TypeId} {lo b : Nat} {w w' : World} {a : Option Addr} {n c : Nat} {l : List Int} (h : Ints w a n c l) (hd : Dw T lo b w w') (hne : ∀ g off, a = some ⟨g, off, none⟩ → g ≠ b) : Ints w' a n c l :=
  h.only hd.only fun g off e => by have := hne g off e; omega
theorem OwnI.ne {E : TypeId} {w : World} {B b : Nat} {a : Option Addr} {n c : Nat} {l : List Int} (h : OwnI E w B a n c l) (hB : b < B) : ∀ g off, a = some ⟨g, off, none⟩ → g ≠ b := fun g off e => by
  rcases h.form with ⟨h1, _⟩ | ⟨q, h1⟩
  · rw [h1] at e; cases e
  · have := (h.blk q h1).1
    rw [h1] at e; simp only [Option.some.injEq, Addr.mk.injEq] at e; omega
set_option maxHeartbeats 1000000 in
theorem dw_l01From {w1 : World} {a : Option Addr} {n c : Nat} {w : World} (hB : Byts w1 a n c) (hb : Below w1.heap.size w1 w) (hn : n ≤ 4096) :
    Calls Tryz.prog 98 #[.slice a n c] w fun e w' => ∃ b, e = .returned (.pointer (some ⟨b, 0, none⟩)) ∧ Below w.heap.size w w' ∧ w.heap.size ≤ b ∧ Dw 203 w1.heap.size b w' w' :=
  (spec_l01From (hB.keep hb) hn hB.lo.2.2 hb.size).mono fun e w' ⟨b, h1, h2, h4, h3⟩ => ⟨b, h1, h2, h4, Dw.of h3⟩
theorem dw_l01Next {b lo : Nat} {n : Int} {w0 w : World} (hS : Dw 203 lo b w0 w) (hn : I64 n) :
    Calls Tryz.prog 134 #[.pointer (some ⟨b, 0, none⟩), .int .i64 n] w fun e w' => ∃ r, e = .returned (.int .i64 r) ∧ NextIn n r ∧ Dw 203 lo b w w' :=
  (spec_l01Next hS.src hn).mono fun e w' ⟨r, h1, h2, h3, h4⟩ => ⟨r, h1, h2, h3, h4, hS.src.lt.2⟩
theorem dw_l01Pick {b lo : Nat} {a : Option Addr} {n c : Nat} {l : List Int} {w0 w : World} (hS : Dw 203 lo b w0 w) (hI : Ints w a n c l) (hn : n ≤ 1048576) (h0 : 0 < n) (hb : ∀ g off, a = some ⟨g, off, none⟩ → g ≠ b) :
    Calls Tryz.prog 191 #[.pointer (some ⟨b, 0, none⟩), .slice a n c] w fun e w' => ∃ r, e = .returned (.int .i64 r) ∧ r ∈ l ∧ I64 r ∧ Dw 203 lo b w w' :=
  (spec_l01Pick hS.src hI hn h0 hb).mono fun e w' ⟨r, h1, h2, h3, h4, h5⟩ => ⟨r, h1, h2, h3, h4, h5, hS.src.lt.2⟩
end Go.Proofs.YtkaikbaagajckaaGreat
