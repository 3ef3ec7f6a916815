/- Models: variables, states and tests, walked.; The search through the states of a model: plain laws.; Ascending lists of states: plain laws. -/
import Derived.Test.YtfnamjkmkoldeaaGreatDoorQa
import Derived.Test.YtfnamjkmkoldeaaGreatDoorFl
namespace Go.Proofs.YtfnamjkmkoldeaaGreatDoor
open Go.RowKit
set_option linter.unusedVariables false
set_option linter.unusedSimpArgs false
/-- a rule and a model as they are meant -/
structure RuD where
  nm : ByteArray
  g : List I2b
  e : List I2
structure MoD where
  sz : List Int
  st : List Int
  ru : List RuD
/-- a rule as it lies in memory -/
structure RM where
  nm : ByteArray
  ga : Option Addr
  gn : Nat
  gc : Nat
  ea : Option Addr
  en : Nat
  ec : Nat
def RM.enc (r : RM) : List Value := [.string r.nm, .slice r.ga r.gn r.gc, .slice r.ea r.en r.ec]
def hasB (sz : List Int) (v x : Int) : Bool := inB v 0 ((sz.length : Int) - 1) && inB x 0 (sz.getD v.toNat 0 - 1)
theorem hasB_no {sz : List Int} {v x : Int} (h : inB v 0 ((sz.length : Int) - 1) = false) : hasB sz v x = false := by rw [hasB, h]; rfl
theorem hasB_yes {sz : List Int} {v : Nat} {x z : Int} (hz : sz[v]? = some z) : hasB sz (v : Int) x = inB x 0 (z - 1) := by
  have h1 : v < sz.length := (List.getElem?_eq_some_iff.1 hz).1
  have h2 : inB (v : Int) 0 ((sz.length : Int) - 1) = true := by simp [inB]; omega
  rw [hasB, h2, Int.toNat_natCast, List.getD_eq_getElem?_getD, hz]; rfl
theorem allIn_at {lo hi : Int} {l : List Int} {k : Nat} {z : Int} (h : allIn lo hi l = true) (hz : l[k]? = some z) : lo ≤ z ∧ z ≤ hi := by
  have := List.all_eq_true.1 h z (List.mem_of_getElem? hz)
  simpa [inB] using this
set_option maxHeartbeats 1000000 in
theorem impl_has {v x : Int} {sa ta ra : Option Addr} {sn sc tn tc rn rc : Nat} {sz : List Int} {w : World} (hI : Ints w sa sn sc sz) (hn : sn ≤ 1048576) (hs : allIn 1 32 sz = true) :
    Calls Tryz.prog 128 #[.agg #[.slice sa sn sc, .slice ta tn tc, .slice ra rn rc], .int .i64 v, .int .i64 x] w fun e w' => e = .returned (.bool (hasB sz v x)) ∧ Below w.heap.size w w' := by
  have hl := hI.len
  have e1 : IntKind.i64.wrap ((sn : Int) - 1) = (sn : Int) - 1 := IntWalk.i64_in _ (by omega)
  cases hv : inB v 0 ((sn : Int) - 1)
  · have HB := Lib.hid (hasB_no (x := x) (show inB v 0 ((sz.length : Int) - 1) = false by rw [hl]; exact hv))
    have HV := Lib.hid hv
    clear hv hI hl
    go_enter Tryz.func128, Tryz.ntmps128
    go_wp2_with fail
    refine Calls.mono (impl_length_i64) ?_
    rintro e _ ⟨rfl, rfl⟩
    go_wp2_with fail
    refine Calls.mono (impl_within) ?_
    rintro e _ ⟨rfl, rfl⟩
    rw [HV.out]
    go_wp2
    go_ret
    exact ⟨ret_bool HB.out.symm, by repeat (first | exact Below.refl _ _ | assumption | refine below_allocS ?_ _ | refine below_callS ?_ (by assumption) | (refine Below.alloc ?_ (by first | omega | (simp; done) | (simp; omega)) _) | (refine Below.setCell ?_ (by first | omega | (simp; done) | (simp; omega)) _) | refine Below.drew ?_ | refine below_drewN ?_ _ | (refine below_call ?_ (by assumption) (by first | omega | (simp; done) | (simp; omega))) | (refine Below.trans ?_ (by assumption)))⟩
  · have HV := Lib.hid hv
    have hv2 := hv
    simp [inB] at hv2
    obtain ⟨q, rfl⟩ := Int.eq_ofNat_of_zero_le hv2.1
    obtain ⟨b, off, z, rfl, hb, hz, hcell, hwf⟩ := hI.at (k := q) (by omega)
    have HB := Lib.hid (hasB_yes (x := x) hz)
    have hq0 : (0 : Int) ≤ (q : Int) := by omega
    have hq1 : (q : Int) < (sn : Int) := by omega
    have hz12 := allIn_at hs hz
    have hz1 := hz12.1
    have hz2 := hz12.2
    have e2 : IntKind.i64.wrap (z - 1) = z - 1 := IntWalk.i64_in _ (by omega)
    clear hv hI hl hz hs hz12
    go_enter Tryz.func128, Tryz.ntmps128
    go_wp2_with fail
    refine Calls.mono (impl_length_i64) ?_
    rintro e _ ⟨rfl, rfl⟩
    go_wp2_with fail
    refine Calls.mono (impl_within) ?_
    rintro e _ ⟨rfl, rfl⟩
    rw [HV.out]
    go_wp2_with fail
    refine Calls.mono (impl_within) ?_
    rintro e _ ⟨rfl, rfl⟩
    go_wp2
    go_ret
    exact ⟨ret_bool HB.out.symm, by repeat (first | exact Below.refl _ _ | assumption | refine below_allocS ?_ _ | refine below_callS ?_ (by assumption) | (refine Below.alloc ?_ (by first | omega | (simp; done) | (simp; omega)) _) | (refine Below.setCell ?_ (by first | omega | (simp; done) | (simp; omega)) _) | refine Below.drew ?_ | refine below_drewN ?_ _ | (refine below_call ?_ (by assumption) (by first | omega | (simp; done) | (simp; omega))) | (refine Below.trans ?_ (by assumption)))⟩
set_option maxHeartbeats 1000000 in
theorem spec_l20Has {v x : Int} {sa ta ra : Option Addr} {sn sc tn tc rn rc : Nat} {sz : List Int} {w : World} (hI : Ints w sa sn sc sz) (hn : sn ≤ 1048576) (hs : allIn 1 32 sz = true) :
    Calls Tryz.prog 143 #[.agg #[.slice sa sn sc, .slice ta tn tc, .slice ra rn rc], .int .i64 v, .int .i64 x] w fun e w' => e = .returned (.bool (hasB sz v x)) ∧ Below w.heap.size w w' := by
  have hl := hI.len
  have e1 : IntKind.i64.wrap ((sn : Int) - 1) = (sn : Int) - 1 := IntWalk.i64_in _ (by omega)
  cases hv : inB v 0 ((sn : Int) - 1)
  · have HB := Lib.hid (hasB_no (x := x) (show inB v 0 ((sz.length : Int) - 1) = false by rw [hl]; exact hv))
    have HV := Lib.hid hv
    clear hv hI hl
    go_enter Tryz.func143, Tryz.ntmps143
    go_wp2_with fail
    refine Calls.mono (spec_l01In) ?_
    rintro e _ ⟨rfl, rfl⟩
    rw [HV.out]
    go_wp2
    go_ret
    exact ⟨ret_bool HB.out.symm, by repeat (first | exact Below.refl _ _ | assumption | refine below_allocS ?_ _ | refine below_callS ?_ (by assumption) | (refine Below.alloc ?_ (by first | omega | (simp; done) | (simp; omega)) _) | (refine Below.setCell ?_ (by first | omega | (simp; done) | (simp; omega)) _) | refine Below.drew ?_ | refine below_drewN ?_ _ | (refine below_call ?_ (by assumption) (by first | omega | (simp; done) | (simp; omega))) | (refine Below.trans ?_ (by assumption)))⟩
  · have HV := Lib.hid hv
    have hv2 := hv
    simp [inB] at hv2
    obtain ⟨q, rfl⟩ := Int.eq_ofNat_of_zero_le hv2.1
    obtain ⟨b, off, z, rfl, hb, hz, hcell, hwf⟩ := hI.at (k := q) (by omega)
    have HB := Lib.hid (hasB_yes (x := x) hz)
    have hq0 : (0 : Int) ≤ (q : Int) := by omega
    have hq1 : (q : Int) < (sn : Int) := by omega
    have hz12 := allIn_at hs hz
    have hz1 := hz12.1
    have hz2 := hz12.2
    have e2 : IntKind.i64.wrap (z - 1) = z - 1 := IntWalk.i64_in _ (by omega)
    clear hv hI hl hz hs hz12
    go_enter Tryz.func143, Tryz.ntmps143
    go_wp2_with fail
    refine Calls.mono (spec_l01In) ?_
    rintro e _ ⟨rfl, rfl⟩
    rw [HV.out]
    go_wp2_with fail
    refine Calls.mono (spec_l01In) ?_
    rintro e _ ⟨rfl, rfl⟩
    go_wp2
    go_ret
    exact ⟨ret_bool HB.out.symm, by repeat (first | exact Below.refl _ _ | assumption | refine below_allocS ?_ _ | refine below_callS ?_ (by assumption) | (refine Below.alloc ?_ (by first | omega | (simp; done) | (simp; omega)) _) | (refine Below.setCell ?_ (by first | omega | (simp; done) | (simp; omega)) _) | refine Below.drew ?_ | refine below_drewN ?_ _ | (refine below_call ?_ (by assumption) (by first | omega | (simp; done) | (simp; omega))) | (refine Below.trans ?_ (by assumption)))⟩
end Go.Proofs.YtfnamjkmkoldeaaGreatDoor
namespace Go.Proofs.YtfnamjkmkoldeaaGreatDoor
open Go.RowKit
set_option linter.unusedVariables false
set_option linter.unusedSimpArgs false
/-- a state that was found: the state, the place of the state from which it was found, the rule, how many rules, the rules -/
structure SN where
  v : List Int
  fr : Int
  ru : Int
  dp : Int
  tr : List Int
def holdsP (v : List Int) (g : List I2b) : Bool := g.all fun t => (v.getD t.a.toNat 0 == t.b) == t.c
def zRu : RuD := ⟨⟨#[]⟩, [], []⟩
def enabP (rs : List RuD) (v : List Int) : List Nat := (List.range rs.length).filter fun i => holdsP v (rs.getD i zRu).g
def applyP (v : List Int) (e : List I2) : List Int := e.foldl (fun u a => u.set a.a.toNat a.b) v
def nextP (rs : List RuD) (v : List Int) : List (Nat × List Int) := (enabP rs v).map fun i => (i, applyP v (rs.getD i zRu).e)
def addN (i : Nat) (x : SN) (L : List SN) (r : Nat × List Int) : List SN :=
  if L.any (fun y => y.v == r.2) then L else L ++ [⟨r.2, i, r.1, x.dp + 1, x.tr ++ [(r.1 : Int)]⟩]
def expN (rs : List RuD) (i : Nat) (x : SN) (L : List SN) : List SN := (nextP rs x.v).foldl (addN i x) L
def runN9 (rs : List RuD) : Nat → Nat → List SN → Option (List SN)
  | 0, _, _ => none
  | f + 1, i, L => match L[i]? with
    | none => some L
    | some x => if 4000 < (expN rs i x L).length then none else runN9 rs f (i + 1) (expN rs i x L)
def bfsP (rs : List RuD) (st : List Int) : Option (List SN) := runN9 rs 4002 0 [⟨st, -1, 0, 0, []⟩]
theorem addN_pre (i : Nat) (x : SN) (L : List SN) (r : Nat × List Int) : ∃ t, addN i x L r = L ++ t ∧ t.length ≤ 1 := by
  rw [addN]
  split
  · exact ⟨[], by simp, by simp⟩
  · exact ⟨_, rfl, by simp⟩
theorem foldN_pre (i : Nat) (x : SN) : ∀ (l : List (Nat × List Int)) (L : List SN), ∃ t, l.foldl (addN i x) L = L ++ t ∧ t.length ≤ l.length
  | [], L => ⟨[], by simp, by simp⟩
  | r :: l, L => by
    obtain ⟨t1, h1, h2⟩ := addN_pre i x L r
    obtain ⟨t2, h3, h4⟩ := foldN_pre i x l (addN i x L r)
    exact ⟨t1 ++ t2, by rw [List.foldl_cons, h3, h1, List.append_assoc], by rw [List.length_append, List.length_cons]; omega⟩
theorem runN9_done {rs : List RuD} {f i : Nat} {L : List SN} (h : L[i]? = none) : runN9 rs (f + 1) i L = some L := by rw [runN9, h]
theorem runN9_over {rs : List RuD} {f i : Nat} {L : List SN} {x : SN} (h : L[i]? = some x) (ho : 4000 < (expN rs i x L).length) : runN9 rs (f + 1) i L = none := by rw [runN9, h]; simp [ho]
theorem runN9_step {rs : List RuD} {f i : Nat} {L : List SN} {x : SN} (h : L[i]? = some x) (ho : ¬ 4000 < (expN rs i x L).length) : runN9 rs (f + 1) i L = runN9 rs f (i + 1) (expN rs i x L) := by rw [runN9, h]; simp [ho]
/-- a state's values lie in the sizes -/
def SV (sz v : List Int) : Prop := v.length = sz.length ∧ ∀ (k : Nat) (x z : Int), v[k]? = some x → sz[k]? = some z → 0 ≤ x ∧ x < z
def RuV (sz : List Int) (r : RuD) : Prop := (∀ t ∈ r.g, 0 ≤ t.a ∧ t.a < sz.length) ∧ (∀ a ∈ r.e, 0 ≤ a.a ∧ a.a < sz.length ∧ ∀ z, sz[a.a.toNat]? = some z → 0 ≤ a.b ∧ a.b < z)
theorem sv_set {sz v : List Int} (h : SV sz v) {k : Nat} {x : Int} (hx : ∀ z, sz[k]? = some z → 0 ≤ x ∧ x < z) : SV sz (v.set k x) := by
  refine ⟨by rw [List.length_set]; exact h.1, fun j y z hy hz => ?_⟩
  rw [List.getElem?_set] at hy
  split at hy
  · rename_i e
    subst e
    split at hy
    · cases hy; exact hx z hz
    · cases hy
  · exact h.2 j y z hy hz
theorem sv_apply {sz : List Int} : ∀ {e : List I2} {v : List Int}, SV sz v → (∀ a ∈ e, ∀ z, sz[a.a.toNat]? = some z → 0 ≤ a.b ∧ a.b < z) → SV sz (applyP v e)
  | [], v, h, _ => h
  | a :: e, v, h, he => by
    rw [applyP, List.foldl_cons]
    exact sv_apply (sv_set h (he a (List.mem_cons_self ..))) fun b hb => he b (List.mem_cons_of_mem _ hb)
/-- all states that were found are states; no state stands twice; each but the first was found from one before it -/
structure SNs (sz : List Int) (L : List SN) : Prop where
  sv : ∀ y ∈ L, SV sz y.v
  nd : (L.map (·.v)).Nodup
  fr : ∀ (j : Nat) (y : SN), L[j]? = some y → (y.fr = -1 ∧ y.tr = []) ∨ ∃ (k : Nat) (z : SN), y.fr = (k : Int) ∧ k < j ∧ L[k]? = some z ∧ y.tr = z.tr ++ [y.ru]
theorem SNs.start {sz st : List Int} (h : SV sz st) : SNs sz [⟨st, -1, 0, 0, []⟩] := by
  refine ⟨fun y hy => ?_, by simp, fun j y hy => ?_⟩
  · simp at hy; rw [hy]; exact h
  · cases j with
    | zero => simp at hy; subst hy; exact .inl ⟨rfl, rfl⟩
    | succ j => simp at hy
theorem SNs.add {sz : List Int} {L : List SN} (h : SNs sz L) {i : Nat} {x : SN} (hx : L[i]? = some x) {r : Nat × List Int} (hr : SV sz r.2) : SNs sz (addN i x L r) := by
  rw [addN]
  split
  · exact h
  · rename_i hn
    have hi : i < L.length := (List.getElem?_eq_some_iff.1 hx).1
    refine ⟨fun y hy => ?_, ?_, fun j y hy => ?_⟩
    · rcases List.mem_append.1 hy with hy | hy
      · exact h.sv y hy
      · simp at hy; rw [hy]; exact hr
    · rw [List.map_append, List.nodup_append]
      refine ⟨h.nd, by simp, fun a ha b hb => ?_⟩
      simp at hb
      subst hb
      rintro rfl
      obtain ⟨y, hy, hyv⟩ := List.mem_map.1 ha
      exact hn (List.any_eq_true.2 ⟨y, hy, by simp [hyv]⟩)
    · by_cases hj : j < L.length
      · rw [List.getElem?_append_left hj] at hy
        rcases h.fr j y hy with h1 | ⟨k, z, h1, h2, h3, h4⟩
        · exact .inl h1
        · exact .inr ⟨k, z, h1, h2, by rw [List.getElem?_append_left (by omega)]; exact h3, h4⟩
      · rw [List.getElem?_append_right (by omega)] at hy
        have hj0 : j = L.length := by
          have := (List.getElem?_eq_some_iff.1 hy).1
          simp at this; omega
        subst hj0
        simp at hy
        subst hy
        exact .inr ⟨i, x, rfl, hi, by rw [List.getElem?_append_left hi]; exact hx, rfl⟩
theorem SNs.fold {sz : List Int} {i : Nat} {x : SN} : ∀ {l : List (Nat × List Int)} {L : List SN}, SNs sz L → L[i]? = some x → (∀ r ∈ l, SV sz r.2) → SNs sz (l.foldl (addN i x) L)
  | [], L, h, _, _ => h
  | r :: l, L, h, hx, hl => by
    rw [List.foldl_cons]
    refine SNs.fold (h.add hx (hl r (List.mem_cons_self ..))) ?_ fun q hq => hl q (List.mem_cons_of_mem _ hq)
    obtain ⟨t, ht, _⟩ := addN_pre i x L r
    rw [ht, List.getElem?_append_left (List.getElem?_eq_some_iff.1 hx).1]
    exact hx
theorem next_sv {sz : List Int} {rs : List RuD} {v : List Int} (hr : ∀ r ∈ rs, RuV sz r) (hv : SV sz v) : ∀ q ∈ nextP rs v, SV sz q.2 := by
  intro q hq
  rw [nextP] at hq
  obtain ⟨i, hi, rfl⟩ := List.mem_map.1 hq
  refine sv_apply hv fun a ha z hz => ?_
  by_cases h : i < rs.length
  · have hm : rs.getD i zRu ∈ rs := by rw [List.getD_eq_getElem?_getD, List.getElem?_eq_getElem h]; exact List.getElem_mem h
    exact ((hr _ hm).2 a ha).2.2 z hz
  · rw [List.getD_eq_getElem?_getD, List.getElem?_eq_none (by omega)] at ha
    cases ha
theorem SNs.exp {sz : List Int} {rs : List RuD} {i : Nat} {x : SN} {L : List SN} (hr : ∀ r ∈ rs, RuV sz r) (h : SNs sz L) (hx : L[i]? = some x) : SNs sz (expN rs i x L) :=
  h.fold hx (next_sv hr (h.sv x (List.mem_of_getElem? hx)))
theorem SNs.run {sz : List Int} {rs : List RuD} (hr : ∀ r ∈ rs, RuV sz r) : ∀ (f i : Nat) {L M : List SN}, SNs sz L → runN9 rs f i L = some M → SNs sz M
  | 0, _, _, _, _, h => by cases h
  | f + 1, i, L, M, hL, h => by
    rw [runN9] at h
    split at h
    · cases h; exact hL
    · rename_i x hx
      split at h
      · cases h
      · exact SNs.run hr f (i + 1) (hL.exp hr hx) h
/-- a state as a text -/
def keyL (v : List Int) : List UInt8 := v.map fun x => UInt8.ofNat x.toNat
theorem keyL_inj {sz : List Int} (hz : ∀ z ∈ sz, z ≤ 256) : ∀ {v u : List Int}, SV sz v → SV sz u → keyL v = keyL u → v = u := by
  intro v u hv hu h
  apply List.ext_getElem?
  intro k
  have h1 : (keyL v)[k]? = (keyL u)[k]? := by rw [h]
  rw [keyL, keyL, List.getElem?_map, List.getElem?_map] at h1
  by_cases hk : k < sz.length
  · have e1 := List.getElem?_eq_getElem (show k < v.length by rw [hv.1]; exact hk)
    have e2 := List.getElem?_eq_getElem (show k < u.length by rw [hu.1]; exact hk)
    have e3 := List.getElem?_eq_getElem hk
    have b1 := hv.2 k _ _ e1 e3
    have b2 := hu.2 k _ _ e2 e3
    have b3 := hz _ (List.getElem_mem hk)
    rw [e1, e2] at h1
    simp only [Option.map_some, Option.some.injEq] at h1
    have h2 := congrArg UInt8.toNat h1
    rw [UInt8.toNat_ofNat_of_lt' (by simp only [UInt8.size]; omega), UInt8.toNat_ofNat_of_lt' (by simp only [UInt8.size]; omega)] at h2
    rw [e1, e2]
    congr 1
    omega
  · rw [List.getElem?_eq_none (by rw [hv.1]; omega), List.getElem?_eq_none (by rw [hu.1]; omega)]
end Go.Proofs.YtfnamjkmkoldeaaGreatDoor
namespace Go.Proofs.YtfnamjkmkoldeaaGreatDoor
open Go.RowKit
set_option linter.unusedVariables false
set_option linter.unusedSimpArgs false
def cmpL : List Int → List Int → Int
  | a :: r, b :: q => if a < b then -1 else if b < a then 1 else cmpL r q
  | _, _ => 0
theorem cmpL_self : ∀ a : List Int, cmpL a a = 0
  | [] => rfl
  | x :: a => by rw [cmpL, if_neg (by omega), if_neg (by omega)]; exact cmpL_self a
theorem cmpL_eq : ∀ {a b : List Int}, a.length = b.length → cmpL a b = 0 → a = b
  | [], [], _, _ => rfl
  | x :: a, y :: b, hl, h => by
    rw [cmpL] at h
    split at h
    · omega
    · split at h
      · omega
      · rw [cmpL_eq (by simpa using hl) h, show x = y by omega]
  | [], _ :: _, hl, _ => by simp at hl
  | _ :: _, [], hl, _ => by simp at hl
theorem cmpL_range : ∀ (a b : List Int), cmpL a b = -1 ∨ cmpL a b = 0 ∨ cmpL a b = 1
  | [], b => by simp [cmpL]
  | x :: a, [] => by simp [cmpL]
  | x :: a, y :: b => by
    rw [cmpL]
    split
    · exact .inl rfl
    · split
      · exact .inr (.inr rfl)
      · exact cmpL_range a b
theorem cmpL_anti : ∀ (a b : List Int), cmpL b a = - cmpL a b
  | [], b => by cases b <;> simp [cmpL]
  | x :: a, [] => by simp [cmpL]
  | x :: a, y :: b => by
    rw [cmpL, cmpL]
    by_cases h1 : x < y
    · rw [if_pos h1, if_neg (by omega), if_pos h1]; omega
    · by_cases h2 : y < x
      · rw [if_pos h2, if_neg h1, if_pos h2]
      · rw [if_neg h1, if_neg h2, if_neg h2, if_neg h1]; exact cmpL_anti a b
theorem cmpL_trans : ∀ {a b c : List Int}, a.length = b.length → b.length = c.length → cmpL a b < 0 → cmpL b c < 0 → cmpL a c < 0
  | [], [], _, _, _, h, _ => by simp [cmpL] at h
  | x :: a, y :: b, z :: c, h1, h2, h3, h4 => by
    rw [cmpL] at h3 h4 ⊢
    by_cases q1 : x < y
    · by_cases q2 : y < z
      · rw [if_pos (by omega)]; omega
      · rw [if_neg q2] at h4
        by_cases q3 : z < y
        · rw [if_pos q3] at h4; omega
        · rw [if_pos (by omega)]; omega
    · rw [if_neg q1] at h3
      by_cases q2 : y < x
      · rw [if_pos q2] at h3; omega
      · rw [if_neg q2] at h3
        by_cases q3 : y < z
        · rw [if_pos (by omega)]; omega
        · rw [if_neg q3] at h4
          by_cases q4 : z < y
          · rw [if_pos q4] at h4; omega
          · rw [if_neg q4] at h4
            rw [if_neg (by omega), if_neg (by omega)]
            exact cmpL_trans (by simpa using h1) (by simpa using h2) h3 h4
  | [], _ :: _, _, h, _, _, _ => by simp at h
  | _ :: _, [], _, h, _, _, _ => by simp at h
  | _ :: _, _ :: _, [], _, h, _, _ => by simp at h
/-- the comparison, place by place -/
theorem cmpL_at : ∀ {a b : List Int} {k : Nat}, a.take k = b.take k → ∀ {x y : Int}, a[k]? = some x → b[k]? = some y → cmpL a b = if x < y then -1 else if y < x then 1 else cmpL (a.drop (k + 1)) (b.drop (k + 1))
  | x' :: a, y' :: b, 0, _, x, y, h1, h2 => by
    simp at h1 h2
    subst h1 h2
    rw [cmpL]; rfl
  | x' :: a, y' :: b, k + 1, h, x, y, h1, h2 => by
    simp at h h1 h2
    obtain ⟨rfl, h⟩ := h
    rw [cmpL, if_neg (by omega), if_neg (by omega), cmpL_at h h1 h2]; rfl
  | [], _, k, _, _, _, h1, _ => by simp at h1
  | _ :: _, [], k, _, _, _, _, h2 => by simp at h2
/-- states of one length, ascending -/
def AscS (m : Nat) (l : List (List Int)) : Prop := (∀ x ∈ l, x.length = m) ∧ l.Pairwise fun a b => cmpL a b < 0
theorem asc_lt {m : Nat} {l : List (List Int)} (h : AscS m l) {i j : Nat} {a b : List Int} (hi : l[i]? = some a) (hj : l[j]? = some b) (hij : i < j) : cmpL a b < 0 := by
  have h1 := List.pairwise_iff_getElem.1 h.2
  obtain ⟨i1, i2⟩ := List.getElem?_eq_some_iff.1 hi
  obtain ⟨j1, j2⟩ := List.getElem?_eq_some_iff.1 hj
  have := h1 i j i1 j1 hij
  rw [i2, j2] at this
  exact this
/-- where a state belongs: before it what is less, from it on what is not -/
def Plc (l : List (List Int)) (x : List Int) (p : Nat) : Prop := p ≤ l.length ∧ (∀ (i : Nat) (a : List Int), l[i]? = some a → i < p → cmpL a x < 0) ∧ ∀ (i : Nat) (a : List Int), l[i]? = some a → p ≤ i → 0 ≤ cmpL a x
theorem plc_mem {m : Nat} {l : List (List Int)} {x : List Int} {p : Nat} (h : AscS m l) (hx : x.length = m) (hp : Plc l x p) : (∃ a, l[p]? = some a ∧ cmpL a x = 0) ↔ x ∈ l := by
  constructor
  · rintro ⟨a, ha, h0⟩
    have hm := List.mem_of_getElem? ha
    have := cmpL_eq (by rw [h.1 a hm, hx]) h0
    rw [← this]; exact hm
  · intro hm
    obtain ⟨i, hi⟩ := List.getElem?_of_mem hm
    have h1 : p ≤ i := Nat.le_of_not_lt fun hlt => by have := hp.2.1 i x hi hlt; rw [cmpL_self] at this; omega
    have hil : i < l.length := (List.getElem?_eq_some_iff.1 hi).1
    have hpl : p < l.length := by omega
    refine ⟨l[p], List.getElem?_eq_getElem hpl, ?_⟩
    have h2 := hp.2.2 p _ (List.getElem?_eq_getElem hpl) (Nat.le_refl _)
    rcases Nat.lt_or_ge p i with h3 | h3
    · have := asc_lt h (List.getElem?_eq_getElem hpl) hi h3; omega
    · have e : p = i := by omega
      have h4 := List.getElem?_eq_getElem hpl
      subst e
      rw [h4] at hi
      cases hi
      exact cmpL_self _
theorem asc_insert {m : Nat} {l : List (List Int)} {x : List Int} {p : Nat} (h : AscS m l) (hx : x.length = m) (hp : Plc l x p) (hn : x ∉ l) : AscS m (l.take p ++ [x] ++ l.drop p) ∧ ∀ y, y ∈ l.take p ++ [x] ++ l.drop p ↔ y = x ∨ y ∈ l := by
  have hmem : ∀ y, y ∈ l.take p ++ [x] ++ l.drop p ↔ y = x ∨ y ∈ l := fun y => by
    have e : y ∈ l ↔ y ∈ l.take p ∨ y ∈ l.drop p := by
      conv => lhs; rw [← List.take_append_drop p l]
      exact List.mem_append
    simp only [List.mem_append, List.mem_singleton, e]
    constructor
    · rintro ((h | h) | h)
      · exact .inr (.inl h)
      · exact .inl h
      · exact .inr (.inr h)
    · rintro (h | h | h)
      · exact .inl (.inr h)
      · exact .inl (.inl h)
      · exact .inr h
  refine ⟨⟨fun y hy => ?_, ?_⟩, hmem⟩
  · rcases (hmem y).1 hy with h1 | h1
    · rw [h1]; exact hx
    · exact h.1 y h1
  · have hlo : ∀ a ∈ l.take p, cmpL a x < 0 := fun a ha => by
      obtain ⟨i, hi⟩ := List.getElem?_of_mem ha
      rw [List.getElem?_take] at hi
      split at hi
      · exact hp.2.1 i a hi (by assumption)
      · cases hi
    have hhi : ∀ a ∈ l.drop p, cmpL x a < 0 := fun a ha => by
      obtain ⟨i, hi⟩ := List.getElem?_of_mem ha
      rw [List.getElem?_drop] at hi
      have h1 := hp.2.2 (p + i) a hi (by omega)
      have hm := List.mem_of_getElem? hi
      have h2 : cmpL a x ≠ 0 := fun h0 => hn (by rw [← cmpL_eq (by rw [h.1 a hm, hx]) h0]; exact hm)
      have h3 := cmpL_anti a x
      omega
    have hpt : (l.take p).Pairwise (fun a b => cmpL a b < 0) := h.2.sublist (List.take_sublist _ _)
    have hpd : (l.drop p).Pairwise (fun a b => cmpL a b < 0) := h.2.sublist (List.drop_sublist _ _)
    rw [List.append_assoc, List.pairwise_append]
    refine ⟨hpt, ?_, fun a ha b hb => ?_⟩
    · rw [List.singleton_append, List.pairwise_cons]
      exact ⟨hhi, hpd⟩
    · rw [List.singleton_append] at hb
      rcases List.mem_cons.1 hb with rfl | hb
      · exact hlo a ha
      · have l1 := h.1 a (List.mem_of_mem_take ha)
        have l2 := h.1 b (List.mem_of_mem_drop hb)
        exact cmpL_trans (by rw [l1, hx]) (by rw [hx, l2]) (hlo a ha) (hhi b hb)
end Go.Proofs.YtfnamjkmkoldeaaGreatDoor
