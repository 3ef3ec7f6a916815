/- StateOfBits of the reference and the program, walked.; BitsOfState and StateOfBits by what the model means.; Diagrams with a code, as calls return them.; Decision diagrams: nodes that are made once, and the canonical order of those that a root reaches: plain laws. -/
import Derived.Test.YtkaikbaagajckaaGreatN09
import Derived.Test.YtkaikbaagajckaaGreatN08
import Derived.Test.YtkaikbaagajckaaGreatBase
namespace Go.Proofs.YtkaikbaagajckaaGreat
open Go.RowKit
set_option linter.unusedVariables false
set_option linter.unusedSimpArgs false
set_option maxHeartbeats 2000000 in
theorem spec_l23State {sa ta ra va : Option Addr} {sn sc tn tc rn rc vn vc : Nat} {sz bs : List Int} {w : World} (hI : Ints w sa sn sc sz) (hV : Ints w va vn vc bs) (hn : sn ≤ 16) (hs : allIn 1 32 sz = true) (hb : allIn 0 1 bs = true) (hl : vn = offN sz sn) :
    Calls Tryz.prog 167 #[.agg #[.slice sa sn sc, .slice ta tn tc, .slice ra rn rc], .slice va vn vc] w fun e w' => ∃ a c, e = .returned (.tuple #[.slice a sn c, .bool (stateB sz (stV sz bs))]) ∧ Below w.heap.size w w' ∧ OwnI 2 w' w.heap.size a sn c (stV sz bs) := by
  have HI := Lib.hid hI
  have HV := Lib.hid hV
  have HS := Lib.hid hs
  have HB := Lib.hid hb
  have HL := Lib.hid hl
  clear hI hs hV hb hl
  have X := Lib.hid (Blk.made w #[.slice sa sn sc, .slice ta tn tc, .slice ra rn rc] 36)
  have hbA : Below w.heap.size w (w.alloc (.cells #[.slice sa sn sc, .slice ta tn tc, .slice ra rn rc] 36)) := bel
  obtain ⟨wA, hwA⟩ : ∃ wA : World, wA = w.alloc (.cells #[.slice sa sn sc, .slice ta tn tc, .slice ra rn rc] 36) := ⟨_, rfl⟩
  rw [← hwA] at X hbA
  have HwA := Lib.hid hwA
  have O1 := Lib.hid (show OwnI 2 (wA.alloc (.cells #[] 2)) wA.heap.size (some ⟨w.heap.size + 1, 0, none⟩) 0 0 [] by have h := OwnI.empty (E := 2) (base := wA.heap.size) wA (Nat.le_refl _); have e : wA.heap.size = w.heap.size + 1 := (by rw [hwA]; simp); rw [e] at h ⊢; exact h)
  have hbB : Below w.heap.size w (wA.alloc (.cells #[] 2)) := bel
  have X1 := Lib.hid (X.out.keep ((Below.refl _ _).alloc (Nat.le_refl _) (.cells #[] 2)))
  have hxl := X.out.lt
  clear hwA X
  go_enter Tryz.func167, Tryz.ntmps167
  go_wp2_with fail
  rw [← HwA.out]
  go_loopw [6, 7, 8, 9, 10] (fun s6 s7 s8 _ _ wr => ∃ (k f : Nat) (a1 : Option Addr) (c1 : Nat), k ≤ sn ∧ s6 = .slice a1 k c1 ∧ s7 = .int .i64 f ∧ s8 = .int .i64 k ∧ f ≤ 5 * k ∧ Below wA.heap.size wA wr ∧ Hid (f = offN sz k) ∧ Hid (OwnI 2 wr wA.heap.size a1 k c1 ((stV sz bs).take k)) ∧ Hid (Blk wr w.heap.size #[.slice sa sn sc, .slice ta tn tc, .slice ra rn rc] 36)) (fun _ _ s8 _ _ _ => sn - (intOf s8).toNat)
  case atStart => exact ⟨0, 0, _, 0, Nat.zero_le _, rfl, rfl, rfl, by omega, bel, Lib.hid (by simp [offN]), O1, X1⟩
  case round =>
    clear O1 X1 hbB
    obtain ⟨k, f, a1, c1, hk, rfl, rfl, rfl, hf, hbw, HF, HO, X⟩ := hrel
    have hbl : Below w.heap.size w wr := below_call hbA hbw hbA.size
    have hsz := hbw.size
    have x0 := X.out.cell 0
    have x1 := X.out.cell 1
    have x2 := X.out.cell 2
    have xl := X.out.lt
    simp at x0 x1 x2
    by_cases hlt : k < sn
    · have hlt' : (k : Int) < (sn : Int) := by omega
      have hk0 : (0 : Int) ≤ (k : Int) := by omega
      obtain ⟨b', off', z, rfl, hb', hz, hcell', _⟩ := (HI.out.keep hbl).at hlt
      have hz2 := allIn_at HS.out hz
      have hz0 := hz2.1
      have hz1 := hz2.2
      have hw2 := wN_in hz2.1 hz2.2
      obtain ⟨W, hW⟩ : ∃ W : Nat, wN z = (W : Int) := ⟨(wN z).toNat, by omega⟩
      have hst := offN_step hz
      have hsv := stV_at (bits := bs) hz
      rw [hW, Int.toNat_natCast] at hst hsv
      have hle := offN_le (sz := sz) (k := k + 1) (by rw [HI.out.len]; omega)
      have hl9 := HL.out
      have hf9 := HF.out
      rw [HI.out.len] at hle
      have hWm : f + W ≤ vn := by omega
      have hW5 : W ≤ 5 := by omega
      have HST := Lib.hid hst
      have HSV := Lib.hid hsv
      have HWd := Lib.hid (fun wx => spec_l23Width (z := z) (w := wx) hz0 hz1)
      rw [hW] at HWd
      have HP := Lib.hid (allIn_part HB.out (offN sz k) W)
      clear hz hz2 hw2 hW hst hsv hle hl9 hf9 hz0 hz1
      go_wp2_with fail
      go_wp2_with fail
      refine Calls.mono ((HWd.out _)) ?_
      rintro e _ ⟨rfl, rfl⟩
      go_wp2_with fail
      go_loop [7, 9, 10] (fun s7 s9 s10 => ∃ (i : Nat) (v bt : Int), i ≤ W ∧ s7 = .int .i64 ((f + i : Nat) : Int) ∧ s9 = .int .i64 v ∧ s10 = .int .i64 bt ∧ bt = (W : Int) - i ∧ 0 ≤ v ∧ v ≤ 31 ∧ Hid (v = valOf (((bs.drop (offN sz k)).take W).take i))) (fun _ _ s10 => (intOf s10).toNat)
      case atStart => exact ⟨0, 0, _, Nat.zero_le _, by simp, rfl, rfl, by omega, by omega, by omega, Lib.hid (by simp [valOf])⟩
      case round =>
        obtain ⟨i, v, bt, hi, rfl, rfl, rfl, hbt, hv0, hv1, HVv⟩ := hrel
        by_cases hlti : i < W
        · have hbt0 : 0 < bt := by omega
          have hfi : f + i < vn := by omega
          have hfi' : ((f + i : Nat) : Int) < (vn : Int) := by omega
          have hfi0 : (0 : Int) ≤ ((f + i : Nat) : Int) := by omega
          obtain ⟨b, off, x, rfl, hb, hx, hcell, hwf⟩ := (HV.out.keep hbl).at hfi
          have hx3 : ((bs.drop (offN sz k)).take W)[i]? = some x := by rw [List.getElem?_take, if_pos hlti, List.getElem?_drop, ← HF.out]; exact hx
          have hx2 := allIn_at HP.out hx3
          have hx0 := hx2.1
          have hx1 := hx2.2
          have Hn := Lib.hid (valOf_step hx3)
          have Hn3 := Lib.hid (valOf_31 HP.out (show i + 1 ≤ 5 by omega))
          clear hx hx2 hx3
          go_wp2
          go_round
          case rel => exact ⟨i + 1, 2 * v + x, _, by omega, by rw [show ((f + (i + 1) : Nat) : Int) = (f : Int) + i + 1 by omega], rfl, rfl, by omega, by omega, by have h1 := Hn.out; have h2 := Hn3.out; rw [← HVv.out] at h1; omega, Lib.hid (by rw [Hn.out, HVv.out])⟩
          case measure => simp [intOf]; omega
        · obtain rfl : i = W := by omega
          have hbt0 : ¬ 0 < bt := by omega
          have hv9 := HVv.out
          rw [List.take_take, Nat.min_self] at hv9
          have HV9 := Lib.hid hv9
          clear hv9
          go_wp2_with (at_builtin; refine append1_i64 rfl _ _ 22 2 rfl Tryz.underlying22 Tryz.infoi64 wA.heap.size _ _ _ _ (HO.out.keep ((Below.refl _ _).alloc (Nat.le_refl _) (.cells #[.int .i64 v] 2))) rfl wr.heap.size v rfl (by simp) (by unfold I64; omega) (by omega) (by simp; omega) ?_; intro a3 c3 w3 hown3 hb3 hg3)
          have Hown3 := Lib.hid hown3
          have X3 := Lib.hid (Blk.keepB (X.out.keep ((Below.refl _ _).alloc (Nat.le_refl _) (.cells #[.int .i64 v] 2))) hb3 hxl)
          clear hown3 hg3
          go_roundw
          case rel =>
            refine ⟨k + 1, f + i, a3, c3, by omega, rfl, rfl, by go_num, by omega, Below.trans bel hb3, Lib.hid (by rw [HST.out, HF.out]), Lib.hid (by rw [take_at HSV.out, ← HV9.out]; exact Hown3.out), X3⟩
          case measure => simp [intOf]; omega
    · obtain rfl : sn = k := by omega
      have hlt' : ¬ (sn : Int) < (sn : Int) := by omega
      have h1 := HO.out
      rw [List.take_of_length_le (by simp [stV]; rw [HI.out.len]; exact Nat.le_refl _)] at h1
      have HO2 := Lib.hid h1
      have K1 := Lib.hid (spec_l20State (ta := ta) (tn := tn) (tc := tc) (ra := ra) (rn := rn) (rc := rc) (HI.out.keep hbl) h1.ints (by omega) (by omega) HS.out)
      clear h1
      go_wp2_with fail
      refine Calls.mono K1.out ?_
      rintro e w5 ⟨rfl, hb5⟩
      go_wp2
      exact bodyPost_ret (v := .tuple #[.slice a1 sn c1, .bool (stateB sz (stV sz bs))]) (by simp [results, Tryz.results167, go_sem]) rfl ⟨a1, c1, rfl, below_callS hbl hb5, (HO2.out.keep hb5).le hbA.size⟩

/-- a diagram with its code that a call returns -/
def DgR (w : World) (C : Int × List I3 × Int × Int) (e : Ending) (w' : World) : Prop := ∃ da dc, e = .returned (.tuple #[.agg #[.int .i64 C.1, .slice da C.2.1.length dc, .int .i64 C.2.2.1], .int .i64 C.2.2.2]) ∧ OwnF 3 I3.enc I3.ok 117 w' w.heap.size da C.2.1.length dc C.2.1 ∧ Below w.heap.size w w'
/-- a diagram with a code that a call returns, as the laws want it -/
def DgQ (w : World) (i : Int) (L : List I3) (r code : Int) (e : Ending) (w' : World) : Prop := ∃ n a c, e = .returned (.tuple #[.agg #[.int .i64 i, .slice a n c, .int .i64 r], .int .i64 code]) ∧ Below w.heap.size w w' ∧ OwnF 3 I3.enc I3.ok 117 w' w.heap.size a n c L
theorem DgR.q {w w' : World} {C : Int × List I3 × Int × Int} {e : Ending} (h : DgR w C e w') : DgQ w C.1 C.2.1 C.2.2.1 C.2.2.2 e w' := by
  obtain ⟨da, dc, h1, h2, h3⟩ := h
  exact ⟨_, da, dc, h1, h3, h2⟩
theorem I3.eta (x : I3) : x = ⟨x.a, x.b, x.c⟩ := rfl
instance I3.dec : DecidableEq I3 := fun x y =>
  if h : x.a = y.a ∧ x.b = y.b ∧ x.c = y.c then .isTrue (by cases x; cases y; obtain ⟨h1, h2, h3⟩ := h; simp only at h1 h2 h3; subst h1 h2 h3; rfl)
  else .isFalse (fun e => h (by subst e; exact ⟨rfl, rfl, rfl⟩))
/-- the place of a node among nodes -/
def posN (x : I3) : List I3 → Option Nat
  | [] => none
  | y :: r => if y = x then some 0 else (posN x r).map (· + 1)
theorem posN_some {x : I3} : ∀ {L : List I3} {k : Nat}, posN x L = some k → L[k]? = some x ∧ ∀ j, j < k → L[j]? ≠ some x
  | [], k, h => by cases h
  | y :: r, k, h => by
    rw [posN] at h
    split at h
    · rename_i e
      cases h
      exact ⟨by rw [e]; rfl, fun j hj => by omega⟩
    · rename_i e
      cases hp : posN x r with
      | none => rw [hp] at h; cases h
      | some m =>
        rw [hp] at h
        simp only [Option.map_some, Option.some.injEq] at h
        subst h
        obtain ⟨h1, h2⟩ := posN_some hp
        refine ⟨by simpa using h1, fun j hj hc => ?_⟩
        cases j with
        | zero => simp at hc; exact e hc
        | succ j => exact h2 j (by omega) (by simpa using hc)
theorem posN_none {x : I3} : ∀ {L : List I3}, posN x L = none ↔ x ∉ L
  | [] => by simp [posN]
  | y :: r => by
    rw [posN]
    split
    · rename_i e; simp [e]
    · rename_i e
      rw [Option.map_eq_none_iff, posN_none, List.mem_cons, not_or]
      exact ⟨fun h => ⟨fun h2 => e h2.symm, h⟩, fun h => h.2⟩
theorem posN_hit {x : I3} {L : List I3} {k : Nat} (h : L[k]? = some x) (hf : ∀ j, j < k → L[j]? ≠ some x) : posN x L = some k := by
  cases hp : posN x L with
  | none => exact absurd (List.mem_of_getElem? h) (posN_none.1 hp)
  | some m =>
    obtain ⟨h1, h2⟩ := posN_some hp
    congr 1
    rcases Nat.lt_trichotomy m k with e | e | e
    · exact absurd h1 (hf m e)
    · exact e
    · exact absurd h (h2 k e)
/-- distinct nodes -/
theorem nodup_get {L : List I3} (h : L.Nodup) {i j : Nat} {x : I3} (hi : L[i]? = some x) (hj : L[j]? = some x) : i = j := by
  have h1 := (List.getElem?_eq_some_iff.1 hi)
  have h2 := (List.getElem?_eq_some_iff.1 hj)
  obtain ⟨l1, e1⟩ := h1
  obtain ⟨l2, e2⟩ := h2
  have hp := List.pairwise_iff_getElem.1 h
  rcases Nat.lt_trichotomy i j with e | e | e
  · exact absurd (e1.trans e2.symm) (hp i j l1 l2 e)
  · exact e
  · exact absurd (e2.trans e1.symm) (hp j i l2 l1 e)
/-- the reference to a node, which is added if it is not there -/
def mkN (L : List I3) (i lo hi : Int) : List I3 × Int :=
  if lo = hi then (L, lo) else match posN ⟨i, lo, hi⟩ L with
    | some k => (L, (k : Int) + 2)
    | none => (L ++ [⟨i, lo, hi⟩], (L.length : Int) + 2)
theorem mkN_eq {L : List I3} {i lo hi : Int} (h : lo = hi) : mkN L i lo hi = (L, lo) := if_pos h
theorem mkN_old {L : List I3} {i lo hi : Int} {k : Nat} (h : lo ≠ hi) (hp : posN ⟨i, lo, hi⟩ L = some k) : mkN L i lo hi = (L, (k : Int) + 2) := by rw [mkN, if_neg h, hp]
theorem mkN_new {L : List I3} {i lo hi : Int} (h : lo ≠ hi) (hp : (⟨i, lo, hi⟩ : I3) ∉ L) : mkN L i lo hi = (L ++ [⟨i, lo, hi⟩], (L.length : Int) + 2) := by rw [mkN, if_neg h, posN_none.2 hp]
theorem mkN_pre (L : List I3) (i lo hi : Int) : ∃ t, (mkN L i lo hi).1 = L ++ t ∧ t.length ≤ 1 := by
  unfold mkN
  split
  · exact ⟨[], by simp, by simp⟩
  · split
    · exact ⟨[], by simp, by simp⟩
    · exact ⟨[_], rfl, by simp⟩
theorem mkN_nodup {L : List I3} (h : L.Nodup) (i lo hi : Int) : (mkN L i lo hi).1.Nodup := by
  unfold mkN
  split
  · exact h
  · split
    · exact h
    · rename_i hp
      have := posN_none.1 hp
      rw [List.nodup_append]
      refine ⟨h, by simp, fun a ha b hb => ?_⟩
      simp at hb
      rw [hb]
      intro e; exact this (e ▸ ha)
/-- what a reference stands for -/
theorem mkN_is (L : List I3) {i lo hi : Int} (h : lo ≠ hi) : ∃ k : Nat, (mkN L i lo hi).2 = (k : Int) + 2 ∧ (mkN L i lo hi).1[k]? = some ⟨i, lo, hi⟩ := by
  unfold mkN
  rw [if_neg h]
  split
  · rename_i k hk
    exact ⟨k, rfl, (posN_some hk).1⟩
  · exact ⟨L.length, rfl, by simp⟩
/-- nodes of which each refers to earlier ones -/
def RefB (r : Int) (n : Nat) : Prop := 0 ≤ r ∧ r < (n : Int) + 2
structure Frst (L : List I3) : Prop where
  low : ∀ (i : Nat) (x : I3), L[i]? = some x → RefB x.b i
  high : ∀ (i : Nat) (x : I3), L[i]? = some x → RefB x.c i
theorem Frst.nil : Frst [] := ⟨fun i x h => by simp at h, fun i x h => by simp at h⟩
theorem RefB.mono {r : Int} {n m : Nat} (h : RefB r n) (hm : n ≤ m) : RefB r m := ⟨h.1, by have := h.2; omega⟩
theorem Frst.app {L : List I3} (h : Frst L) {i lo hi : Int} (hl : RefB lo L.length) (hh : RefB hi L.length) : Frst (L ++ [⟨i, lo, hi⟩]) := by
  refine ⟨fun j x hj => ?_, fun j x hj => ?_⟩
  · rw [List.getElem?_append] at hj
    split at hj
    · exact h.low j x hj
    · have hj2 : j = L.length := by
        have := (List.getElem?_eq_some_iff.1 hj).1
        simp at this; omega
      subst hj2
      simp at hj
      subst hj
      exact hl
  · rw [List.getElem?_append] at hj
    split at hj
    · exact h.high j x hj
    · have hj2 : j = L.length := by
        have := (List.getElem?_eq_some_iff.1 hj).1
        simp at this; omega
      subst hj2
      simp at hj
      subst hj
      exact hh
theorem Frst.add {L : List I3} (h : Frst L) {i lo hi : Int} (hl : RefB lo L.length) (hh : RefB hi L.length) : Frst (mkN L i lo hi).1 ∧ RefB (mkN L i lo hi).2 (mkN L i lo hi).1.length := by
  unfold mkN
  split
  · exact ⟨h, hl⟩
  · split
    · rename_i k hk
      have := (List.getElem?_eq_some_iff.1 (posN_some hk).1).1
      refine ⟨h, ?_, ?_⟩
      · simp only; omega
      · simp only; omega
    · refine ⟨⟨fun j x hj => ?_, fun j x hj => ?_⟩, ?_, ?_⟩
      · rw [List.getElem?_append] at hj
        split at hj
        · exact h.low j x hj
        · have hj2 : j = L.length := by
            have := (List.getElem?_eq_some_iff.1 hj).1
            simp at this; omega
          subst hj2
          simp at hj
          subst hj
          exact hl
      · rw [List.getElem?_append] at hj
        split at hj
        · exact h.high j x hj
        · have hj2 : j = L.length := by
            have := (List.getElem?_eq_some_iff.1 hj).1
            simp at this; omega
          subst hj2
          simp at hj
          subst hj
          exact hh
      · simp only; omega
      · simp only [List.length_append, List.length_cons, List.length_nil]; omega

/-! ### the nodes that a root reaches, in the order in which they are left -/
/-- new references: 0 where there is none yet -/
abbrev Nms := Nat → Int
/-- 'walk' with a rule that makes the node -/
def wlkN (mkf : List I3 → Int → Int → Int → List I3 × Int) (N : List I3) : Nat → List I3 × Nms → Nat → List I3 × Nms × Int
  | 0, s, r => (s.1, s.2, (r : Int))
  | f + 1, s, r =>
    if r < 2 then (s.1, s.2, (r : Int))
    else if s.2 r > 0 then (s.1, s.2, s.2 r)
    else match N[r - 2]? with
      | none => (s.1, s.2, (r : Int))
      | some x =>
        let a := wlkN mkf N f s x.b.toNat
        let b := wlkN mkf N f (a.1, a.2.1) x.c.toNat
        let m := mkf b.1 x.a a.2.2 b.2.2
        (m.1, fun q => if q = r then m.2 else b.2.1 q, m.2)
/-- appending, whatever stands there -/
def appN (L : List I3) (i lo hi : Int) : List I3 × Int := (L ++ [⟨i, lo, hi⟩], (L.length : Int) + 2)
theorem wlk_low (mkf : List I3 → Int → Int → Int → List I3 × Int) (N : List I3) (f : Nat) (s : List I3 × Nms) {r : Nat} (h : r < 2) : wlkN mkf N f s r = (s.1, s.2, (r : Int)) := by
  cases f with
  | zero => rfl
  | succ f => rw [wlkN, if_pos h]
theorem wlk_old (mkf : List I3 → Int → Int → Int → List I3 × Int) (N : List I3) (f : Nat) (s : List I3 × Nms) {r : Nat} (h : ¬ r < 2) (hp : s.2 r > 0) : wlkN mkf N (f + 1) s r = (s.1, s.2, s.2 r) := by
  rw [wlkN, if_neg h, if_pos hp]
theorem wlk_new (mkf : List I3 → Int → Int → Int → List I3 × Int) (N : List I3) (f : Nat) (s : List I3 × Nms) {r : Nat} {x : I3} (h : ¬ r < 2) (hp : ¬ s.2 r > 0) (hx : N[r - 2]? = some x) :
    wlkN mkf N (f + 1) s r = ((mkf (wlkN mkf N f ((wlkN mkf N f s x.b.toNat).1, (wlkN mkf N f s x.b.toNat).2.1) x.c.toNat).1 x.a (wlkN mkf N f s x.b.toNat).2.2 (wlkN mkf N f ((wlkN mkf N f s x.b.toNat).1, (wlkN mkf N f s x.b.toNat).2.1) x.c.toNat).2.2).1,
      (fun q => if q = r then (mkf (wlkN mkf N f ((wlkN mkf N f s x.b.toNat).1, (wlkN mkf N f s x.b.toNat).2.1) x.c.toNat).1 x.a (wlkN mkf N f s x.b.toNat).2.2 (wlkN mkf N f ((wlkN mkf N f s x.b.toNat).1, (wlkN mkf N f s x.b.toNat).2.1) x.c.toNat).2.2).2 else (wlkN mkf N f ((wlkN mkf N f s x.b.toNat).1, (wlkN mkf N f s x.b.toNat).2.1) x.c.toNat).2.1 q),
      (mkf (wlkN mkf N f ((wlkN mkf N f s x.b.toNat).1, (wlkN mkf N f s x.b.toNat).2.1) x.c.toNat).1 x.a (wlkN mkf N f s x.b.toNat).2.2 (wlkN mkf N f ((wlkN mkf N f s x.b.toNat).1, (wlkN mkf N f s x.b.toNat).2.1) x.c.toNat).2.2).2) := by
  rw [wlkN, if_neg h, if_neg hp, hx]
/-- what a walk keeps: the new nodes are the old ones with new references -/
structure WkI (N D : List I3) (P : Nms) : Prop where
  nodup : D.Nodup
  frst : Frst D
  at' : ∀ r : Nat, P r > 0 → 2 ≤ r ∧ ∃ (x : I3) (k : Nat), N[r - 2]? = some x ∧ P r = (k : Int) + 2 ∧ D[k]? = some ⟨x.a, (if x.b < 2 then x.b else P x.b.toNat), (if x.c < 2 then x.c else P x.c.toNat)⟩ ∧ (2 ≤ x.b → P x.b.toNat > 0) ∧ (2 ≤ x.c → P x.c.toNat > 0)
  from' : ∀ k : Nat, k < D.length → ∃ r : Nat, P r = (k : Int) + 2
  neg : ∀ r, 0 ≤ P r
theorem WkI.start (N : List I3) : WkI N [] (fun _ => 0) := ⟨List.nodup_nil, Frst.nil, fun r h => by simp at h, fun k h => by simp at h, fun r => by simp⟩
/-- the new reference of an old one -/
def rvN (P : Nms) (b : Int) : Int := if b < 2 then b else P b.toNat
def VisN (P : Nms) (b : Int) : Prop := 0 ≤ b ∧ (2 ≤ b → P b.toNat > 0)
theorem WkI.ge2 {N D : List I3} {P : Nms} (h : WkI N D P) {r : Nat} (hr : P r > 0) : 2 ≤ P r := by
  obtain ⟨_, x, k, _, e, _⟩ := h.at' r hr
  omega
theorem WkI.nodes {N D : List I3} {P : Nms} (h : WkI N D P) (hF : Frst N) {r : Nat} (hr : P r > 0) : 2 ≤ r ∧ ∃ (x : I3) (k : Nat), N[r - 2]? = some x ∧ P r = (k : Int) + 2 ∧ D[k]? = some ⟨x.a, rvN P x.b, rvN P x.c⟩ ∧ VisN P x.b ∧ VisN P x.c ∧ x.b.toNat < r ∧ x.c.toNat < r := by
  obtain ⟨h2, x, k, hx, hk, hd, hb, hc⟩ := h.at' r hr
  have h3 := hF.low _ _ hx
  have h4 := hF.high _ _ hx
  unfold RefB at h3 h4
  exact ⟨h2, x, k, hx, hk, hd, ⟨h3.1, hb⟩, ⟨h4.1, hc⟩, by omega, by omega⟩
theorem WkI.inj {N D : List I3} {P : Nms} (h : WkI N D P) (hN : N.Nodup) (hF : Frst N) : ∀ (m q1 q2 : Nat), q1 ≤ m → P q1 > 0 → P q1 = P q2 → q1 = q2 := by
  intro m
  induction m with
  | zero =>
    intro q1 q2 hm h1 _
    obtain ⟨h2, _⟩ := h.nodes hF h1
    omega
  | succ m ih =>
    intro q1 q2 hm h1 he
    obtain ⟨a1, x, k, hx, hk, hd, vb, vc, lb, lc⟩ := h.nodes hF h1
    obtain ⟨a2, y, j, hy, hj, he2, ub, uc, mb, mc⟩ := h.nodes hF (show P q2 > 0 by omega)
    have hkj : k = j := by omega
    subst hkj
    rw [hd] at he2
    simp only [Option.some.injEq, I3.mk.injEq] at he2
    obtain ⟨e1, e2, e3⟩ := he2
    have key : ∀ {b c : Int}, VisN P b → VisN P c → b.toNat ≤ m → rvN P b = rvN P c → b = c := by
      intro b c v1 v2 hb e
      unfold rvN at e
      by_cases b2 : b < 2
      · rw [if_pos b2] at e
        by_cases c2 : c < 2
        · rw [if_pos c2] at e; exact e
        · rw [if_neg c2] at e
          have := h.ge2 (v2.2 (by omega))
          omega
      · rw [if_neg b2] at e
        by_cases c2 : c < 2
        · rw [if_pos c2] at e
          have := h.ge2 (v1.2 (by omega))
          omega
        · rw [if_neg c2] at e
          have := ih b.toNat c.toNat hb (v1.2 (by omega)) e
          have h1 := v1.1
          have h2 := v2.1
          omega
    have eb := key vb ub (by omega) e2
    have ec := key vc uc (by omega) e3
    have exy : x = y := by rw [I3.eta x, I3.eta y, e1, eb, ec]
    subst exy
    have := nodup_get hN hx hy
    omega
theorem WkI.rinj {N D : List I3} {P : Nms} (h : WkI N D P) (hN : N.Nodup) (hF : Frst N) {b c : Int} (v1 : VisN P b) (v2 : VisN P c) (e : rvN P b = rvN P c) : b = c := by
  unfold rvN at e
  by_cases b2 : b < 2
  · rw [if_pos b2] at e
    by_cases c2 : c < 2
    · rw [if_pos c2] at e; exact e
    · rw [if_neg c2] at e
      have := h.ge2 (v2.2 (by omega))
      omega
  · rw [if_neg b2] at e
    by_cases c2 : c < 2
    · rw [if_pos c2] at e
      have := h.ge2 (v1.2 (by omega))
      omega
    · rw [if_neg c2] at e
      have := h.inj hN hF _ _ _ (Nat.le_refl _) (v1.2 (by omega)) e
      have h1 := v1.1
      have h2 := v2.1
      omega
/-- what a walk from a reference gives -/
structure WkR (N : List I3) (D : List I3) (P : Nms) (r : Nat) (A : List I3 × Nms × Int) : Prop where
  inv : WkI N A.1 A.2.1
  ref : A.2.2 = rvN A.2.1 (r : Int)
  vis : 2 ≤ r → A.2.1 r > 0
  old : ∀ q, P q > 0 → A.2.1 q = P q
  far : ∀ q, r < q → A.2.1 q = P q
  pre : ∃ t, A.1 = D ++ t
theorem wlk_same {N : List I3} (hN : N.Nodup) (hF : Frst N) (hR : ∀ x ∈ N, x.b ≠ x.c) : ∀ (f r : Nat) (D : List I3) (P : Nms), r ≤ f → r < N.length + 2 → WkI N D P →
    wlkN mkN N f (D, P) r = wlkN appN N f (D, P) r ∧ WkR N D P r (wlkN appN N f (D, P) r) := by
  intro f
  induction f with
  | zero =>
    intro r D P hr hrn h
    have hr0 : r < 2 := by omega
    rw [wlk_low _ _ _ _ hr0, wlk_low _ _ _ _ hr0]
    refine ⟨rfl, h, ?_, fun h2 => by omega, fun q _ => rfl, fun q _ => rfl, [], by simp⟩
    show (r : Int) = rvN P (r : Int)
    rw [rvN, if_pos (by omega)]
  | succ f ih =>
    intro r D P hr hrn h
    by_cases hr2 : r < 2
    · rw [wlk_low _ _ _ _ hr2, wlk_low _ _ _ _ hr2]
      refine ⟨rfl, h, ?_, fun h2 => by omega, fun q _ => rfl, fun q _ => rfl, [], by simp⟩
      show (r : Int) = rvN P (r : Int)
      rw [rvN, if_pos (by omega)]
    · by_cases hp : P r > 0
      · rw [wlk_old _ _ _ _ hr2 hp, wlk_old _ _ _ _ hr2 hp]
        refine ⟨rfl, h, ?_, fun h2 => hp, fun q _ => rfl, fun q _ => rfl, [], by simp⟩
        show P r = rvN P (r : Int)
        rw [rvN, if_neg (by omega), Int.toNat_natCast]
      · obtain ⟨x, hx⟩ : ∃ x, N[r - 2]? = some x := ⟨_, List.getElem?_eq_getElem (by omega)⟩
        have h3 := hF.low _ _ hx
        have h4 := hF.high _ _ hx
        unfold RefB at h3 h4
        have hb : x.b.toNat < r := by omega
        have hc : x.c.toNat < r := by omega
        rw [wlk_new _ _ _ _ hr2 hp hx, wlk_new _ _ _ _ hr2 hp hx]
        obtain ⟨s1, R1⟩ := ih x.b.toNat D P (by omega) (by omega) h
        rw [s1]
        generalize wlkN appN N f (D, P) x.b.toNat = A at *
        obtain ⟨D1, P1, r1⟩ := A
        obtain ⟨s2, R2⟩ := ih x.c.toNat D1 P1 (by omega) (by omega) R1.inv
        simp only
        rw [s2]
        generalize wlkN appN N f (D1, P1) x.c.toNat = B at *
        obtain ⟨D2, P2, r2⟩ := B
        have i1 := R1.inv
        have i2 := R2.inv
        have o2 := R2.old
        have f1 := R1.far
        have f2 := R2.far
        have v1 := R1.vis
        have v2 := R2.vis
        have e1 := R1.ref
        have e2 := R2.ref
        obtain ⟨t1, p1⟩ := R1.pre
        obtain ⟨t2, p2⟩ := R2.pre
        simp only at i1 i2 o2 f1 f2 v1 v2 e1 e2 p1 p2 ⊢
        have hb0 : (x.b.toNat : Int) = x.b := by omega
        have hc0 : (x.c.toNat : Int) = x.c := by omega
        rw [hb0] at e1
        rw [hc0] at e2
        have vb1 : VisN P1 x.b := ⟨h3.1, fun h => v1 (by omega)⟩
        have vb : VisN P2 x.b := ⟨h3.1, fun h => by rw [o2 _ (vb1.2 h)]; exact vb1.2 h⟩
        have vc : VisN P2 x.c := ⟨h4.1, fun h => v2 (by omega)⟩
        have e1' : r1 = rvN P2 x.b := by
          rw [e1, rvN, rvN]
          split
          · rfl
          · rw [o2 _ (vb1.2 (by omega))]
        have hr0 : P2 r = 0 := by
          have := f2 r hc
          have := f1 r hb
          have := h.neg r
          omega
        have hne : r1 ≠ r2 := fun e => by
          rw [e1', e2] at e
          exact hR x (List.mem_of_getElem? hx) (i2.rinj hN hF vb vc e)
        have hnot : (⟨x.a, r1, r2⟩ : I3) ∉ D2 := fun hm => by
          obtain ⟨k, hk⟩ := List.getElem?_of_mem hm
          obtain ⟨r', hr'⟩ := i2.from' k (List.getElem?_eq_some_iff.1 hk).1
          obtain ⟨g1, y, j, hy, hj, hd, ub, uc, _, _⟩ := i2.nodes hF (show P2 r' > 0 by omega)
          have hkj : k = j := by omega
          subst hkj
          rw [hk] at hd
          simp only [Option.some.injEq, I3.mk.injEq] at hd
          obtain ⟨d1, d2, d3⟩ := hd
          have eb := i2.rinj hN hF vb ub (by rw [← e1', d2])
          have ec := i2.rinj hN hF vc uc (by rw [← e2, d3])
          have exy : x = y := by rw [I3.eta x, I3.eta y, d1, eb, ec]
          subst exy
          have := nodup_get hN hx hy
          have : r = r' := by omega
          subst this
          omega
        rw [mkN_new hne hnot, appN]
        have hrb : ∀ {b : Int}, VisN P2 b → RefB (rvN P2 b) D2.length := by
          intro b vb
          rw [rvN]
          split
          · exact ⟨vb.1, by omega⟩
          · obtain ⟨_, _, k, _, hk, hd, _⟩ := i2.nodes hF (vb.2 (by omega))
            have := (List.getElem?_eq_some_iff.1 hd).1
            exact ⟨by omega, by omega⟩
        refine ⟨rfl, ⟨?_, i2.frst.app (e1' ▸ hrb vb) (e2 ▸ hrb vc), ?_, ?_, ?_⟩, ?_, ?_, ?_, ?_, ?_⟩
        · simp only
          rw [List.nodup_append]
          refine ⟨i2.nodup, by simp, fun a ha b hb => ?_⟩
          simp at hb
          rw [hb]
          intro e; exact hnot (e ▸ ha)
        · intro q hq
          simp only at hq ⊢
          by_cases hqr : q = r
          · subst hqr
            refine ⟨by omega, x, D2.length, hx, by rw [if_pos rfl], ?_, ?_, ?_⟩
            · rw [List.getElem?_append_right (Nat.le_refl _), Nat.sub_self, List.getElem?_cons_zero, e1', e2, rvN, rvN]
              rw [if_neg (show ¬ x.b.toNat = q by omega), if_neg (show ¬ x.c.toNat = q by omega)]
            · intro h2
              rw [if_neg (show ¬ x.b.toNat = q by omega)]; exact vb.2 h2
            · intro h2
              rw [if_neg (show ¬ x.c.toNat = q by omega)]; exact vc.2 h2
          · rw [if_neg hqr] at hq ⊢
            obtain ⟨g1, y, j, hy, hj, hd, ub, uc, lb, lc⟩ := i2.nodes hF hq
            have nb : 2 ≤ y.b → ¬ y.b.toNat = r := fun h2 e => by
              have := ub.2 h2
              rw [e, hr0] at this; omega
            have nc : 2 ≤ y.c → ¬ y.c.toNat = r := fun h2 e => by
              have := uc.2 h2
              rw [e, hr0] at this; omega
            refine ⟨g1, y, j, hy, hj, ?_, fun h2 => ?_, fun h2 => ?_⟩
            · rw [List.getElem?_append_left (List.getElem?_eq_some_iff.1 hd).1, hd, rvN, rvN]
              congr 2
              · by_cases b2 : y.b < 2
                · rw [if_pos b2, if_pos b2]
                · rw [if_neg b2, if_neg b2, if_neg (nb (by omega))]
              · by_cases c2 : y.c < 2
                · rw [if_pos c2, if_pos c2]
                · rw [if_neg c2, if_neg c2, if_neg (nc (by omega))]
            · rw [if_neg (nb h2)]; exact ub.2 h2
            · rw [if_neg (nc h2)]; exact uc.2 h2
        · intro k hk
          simp only [List.length_append, List.length_cons, List.length_nil] at hk ⊢
          by_cases hk2 : k < D2.length
          · obtain ⟨r', hr'⟩ := i2.from' k hk2
            have : r' ≠ r := fun e => by rw [e, hr0] at hr'; omega
            exact ⟨r', by rw [if_neg this]; exact hr'⟩
          · have : k = D2.length := by omega
            subst this
            exact ⟨r, by rw [if_pos rfl]⟩
        · intro q
          simp only
          split
          · omega
          · exact i2.neg q
        · simp only
          rw [rvN, if_neg (by omega), Int.toNat_natCast, if_pos rfl]
        · intro _
          show (if r = r then (D2.length : Int) + 2 else P2 r) > 0
          rw [if_pos rfl]; omega
        · intro q hq
          simp only
          have hqr : q ≠ r := fun e => hp (e ▸ hq)
          have h1 := R1.old q hq
          simp only at h1
          rw [if_neg hqr, o2 q (by omega), h1]
        · intro q hq
          simp only
          rw [if_neg (by omega), f2 q (by omega), f1 q (by omega)]
        · exact ⟨t1 ++ (t2 ++ [⟨x.a, r1, r2⟩]), by simp only; rw [p2, p1]; simp⟩
end Go.Proofs.YtkaikbaagajckaaGreat
