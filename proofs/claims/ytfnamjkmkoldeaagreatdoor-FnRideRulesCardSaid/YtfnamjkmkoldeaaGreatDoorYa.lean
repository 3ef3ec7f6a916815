/- The faults in a ride state, walked.; The faults in a ride state: the two functions, walked.; Faults of sensors, walked. -/
import Derived.Test.YtfnamjkmkoldeaaGreatDoorL24b
import Derived.Test.YtfnamjkmkoldeaaGreatDoorQc
import Derived.Test.YtfnamjkmkoldeaaGreatDoorFl
import Derived.Test.YtfnamjkmkoldeaaGreatDoorQa
import Derived.Test.YtfnamjkmkoldeaaGreatDoorQg
namespace Go.Proofs.YtfnamjkmkoldeaaGreatDoor
open Go.RowKit
set_option linter.unusedVariables false
set_option linter.unusedSimpArgs false
/-- the faults that a status x of block i stands for -/
def flAt (i : Nat) (x : Int) : List I3 := if x = 1 then [⟨i, 0, 0⟩] else if x = 2 then [⟨i, 1, 1⟩] else if x = 3 then [⟨i, 0, 0⟩, ⟨i, 1, 0⟩] else []
def flsOf (l : List Int) : List I3 := l.zipIdx.flatMap fun p => flAt p.2 p.1
theorem f3_lit (w : World) (T : TypeId) (l : List I3) (hw : ∀ x ∈ l, x.ok) : F3 (w.alloc (.cells (l.flatMap I3.enc).toArray T)) (some ⟨w.heap.size, 0, none⟩) l.length l.length l := by
  refine ⟨rfl, Nat.le_refl _, .inr ⟨w.heap.size, 0, rfl, by simp, fun i x hx j v hv => ?_⟩, hw, fun h => by cases h⟩
  have := (Blk.made w (l.flatMap I3.enc).toArray T).cell (i * 3 + j)
  rw [Nat.zero_add, this]
  have h2 := flat_get (k := 3) (enc := I3.enc) (fun _ => rfl) hx hv
  simpa using h2
def F3Ret (w : World) (l : List I3) (e : Ending) (w' : World) : Prop := ∃ n a c, e = .returned (.slice a n c) ∧ Below w.heap.size w w' ∧ F3 w' a n c l
theorem flAt_ok {i : Nat} (hi : i ≤ 1048576) (x : Int) : ∀ y ∈ flAt i x, y.ok := by
  intro y hy
  unfold flAt at hy
  have h0 : I64 (i : Int) := ⟨by omega, by omega⟩
  have h1 : I64 0 := ⟨by omega, by omega⟩
  have h2 : I64 1 := ⟨by omega, by omega⟩
  split at hy
  · simp at hy; subst hy; exact ⟨h0, h1, h1⟩
  · split at hy
    · simp at hy; subst hy; exact ⟨h0, h2, h2⟩
    · split at hy
      · simp at hy
        rcases hy with rfl | rfl
        · exact ⟨h0, h1, h1⟩
        · exact ⟨h0, h2, h1⟩
      · simp at hy
theorem flsOf_step {l : List Int} {k : Nat} {x : Int} (h : l[k]? = some x) : flsOf (l.take (k + 1)) = flsOf (l.take k) ++ flAt k x := by
  have hk : k < l.length := (List.getElem?_eq_some_iff.1 h).1
  rw [take_at h, flsOf, flsOf, List.zipIdx_append, List.flatMap_append]
  simp [Nat.min_eq_left (Nat.le_of_lt hk)]
theorem flAt_len (i : Nat) (x : Int) : (flAt i x).length ≤ 2 := by
  unfold flAt; split
  · simp
  · split
    · simp
    · split <;> simp
set_option maxHeartbeats 1000000 in
theorem impl_faultsOf {s : Option Addr} {m d : Nat} {st : List Int} {w : World} (hS : Ints w s m d st) (hm : m ≤ 1048576) :
    Calls Tryz.prog 75 #[.slice s m d] w fun e w' => ∃ n a c, e = .returned (.slice a n c) ∧ Below w.heap.size w w' ∧ OwnF 3 I3.enc I3.ok 153 w' w.heap.size a n c (flsOf st) := by
  have HS := Lib.hid hS
  clear hS
  have hone : ∀ y : I3, ∀ u ∈ y.enc, u.oneCell' = true := fun y u hu => by
    simp [I3.enc] at hu
    rcases hu with rfl | rfl | rfl <;> rfl
  have Hone := Lib.hid hone
  clear hone
  go_enter Tryz.func75, Tryz.ntmps75
  go_wp2
  go_loopw [3, 8] (fun s3 s8 wr => ∃ k n a c, k ≤ m ∧ s8 = .int .i64 (k : Nat) ∧ s3 = .slice a n c ∧ n ≤ 2 * k ∧ Below w.heap.size w wr ∧ Hid (OwnF 3 I3.enc I3.ok 153 wr w.heap.size a n c (flsOf (st.take k)))) (fun _ s8 _ => m - (intOf s8).toNat)
  case atStart => exact ⟨0, 0, none, 0, Nat.zero_le _, rfl, rfl, Nat.le_refl _, Below.refl _ _, ⟨World.ownsRow_nil _ _ _ _, (fun _ h => by cases h), rfl, fun _ => rfl⟩⟩
  case round =>
    obtain ⟨k, n, a, c, hk, rfl, rfl, hn, hbl, O⟩ := hrel
    by_cases hlt : k < m
    · obtain ⟨b, off, x, rfl, hb, hx, hcell, hwf⟩ := (HS.out.keep hbl).at hlt
      have Hst := Lib.hid (flsOf_step hx)
      have Hfo := Lib.hid (flAt_ok (show k ≤ 1048576 by omega) x)
      have hk0 : (0 : Int) ≤ (k : Int) := by omega
      have hk1 : (k : Int) < (m : Int) := by omega
      clear hx hwf
      have hbs := hbl.size
      by_cases h1 : x = 1
      · subst h1
        go_wp2_with (at_builtin; refine appendL_F rfl _ _ 54 153 rfl Tryz.underlying54 Tryz.infoSensorFault rfl (by decide) (by decide) Hone.out w.heap.size _ _ _ _ (O.out.keep (by repeat (first | exact Below.refl _ _ | assumption | refine below_allocS ?_ _ | refine below_callS ?_ (by assumption) | (refine Below.alloc ?_ (by first | omega | (simp; done) | (simp; omega)) _) | (refine Below.setCell ?_ (by first | omega | (simp; done) | (simp; omega)) _) | refine Below.drew ?_ | refine below_drewN ?_ _ | (refine below_call ?_ (by assumption) (by first | omega | (simp; done) | (simp; omega))) | (refine Below.trans ?_ (by assumption))))) rfl _ 1 1 [⟨k, 0, 0⟩] rfl (f3_lit _ 153 [⟨k, 0, 0⟩] Hfo.out) (by omega) (by omega) (by simp; omega) ?_; intro a1 c1 w1 hown1 hb1 hg1 hnil1)
        go_roundw
        case rel => exact ⟨k + 1, n + 1, a1, c1, by omega, by go_num, rfl, by omega, by repeat (first | exact Below.refl _ _ | assumption | refine below_allocS ?_ _ | refine below_callS ?_ (by assumption) | (refine Below.alloc ?_ (by first | omega | (simp; done) | (simp; omega)) _) | (refine Below.setCell ?_ (by first | omega | (simp; done) | (simp; omega)) _) | refine Below.drew ?_ | refine below_drewN ?_ _ | (refine below_call ?_ (by assumption) (by first | omega | (simp; done) | (simp; omega))) | (refine Below.trans ?_ (by assumption))), by show OwnF _ _ _ _ _ _ _ _ _ _; rw [Hst.out]; exact hown1⟩
        case measure => simp [intOf]; omega
      · by_cases h2 : x = 2
        · subst h2
          go_wp2_with (at_builtin; refine appendL_F rfl _ _ 54 153 rfl Tryz.underlying54 Tryz.infoSensorFault rfl (by decide) (by decide) Hone.out w.heap.size _ _ _ _ (O.out.keep (by repeat (first | exact Below.refl _ _ | assumption | refine below_allocS ?_ _ | refine below_callS ?_ (by assumption) | (refine Below.alloc ?_ (by first | omega | (simp; done) | (simp; omega)) _) | (refine Below.setCell ?_ (by first | omega | (simp; done) | (simp; omega)) _) | refine Below.drew ?_ | refine below_drewN ?_ _ | (refine below_call ?_ (by assumption) (by first | omega | (simp; done) | (simp; omega))) | (refine Below.trans ?_ (by assumption))))) rfl _ 1 1 [⟨k, 1, 1⟩] rfl (f3_lit _ 153 [⟨k, 1, 1⟩] Hfo.out) (by omega) (by omega) (by simp; omega) ?_; intro a1 c1 w1 hown1 hb1 hg1 hnil1)
          go_roundw
          case rel => exact ⟨k + 1, n + 1, a1, c1, by omega, by go_num, rfl, by omega, by repeat (first | exact Below.refl _ _ | assumption | refine below_allocS ?_ _ | refine below_callS ?_ (by assumption) | (refine Below.alloc ?_ (by first | omega | (simp; done) | (simp; omega)) _) | (refine Below.setCell ?_ (by first | omega | (simp; done) | (simp; omega)) _) | refine Below.drew ?_ | refine below_drewN ?_ _ | (refine below_call ?_ (by assumption) (by first | omega | (simp; done) | (simp; omega))) | (refine Below.trans ?_ (by assumption))), by show OwnF _ _ _ _ _ _ _ _ _ _; rw [Hst.out]; exact hown1⟩
          case measure => simp [intOf]; omega
        · by_cases h3 : x = 3
          · subst h3
            have Hf1 := Lib.hid (show ∀ y ∈ [(⟨k, 0, 0⟩ : I3)], y.ok from fun y hy => Hfo.out y (by simp [flAt] at hy ⊢; simp [hy]))
            have Hf2 := Lib.hid (show ∀ y ∈ [(⟨k, 1, 0⟩ : I3)], y.ok from fun y hy => Hfo.out y (by simp [flAt] at hy ⊢; simp [hy]))
            go_wp2_with (first | (at_builtin; refine appendL_F rfl _ _ 54 153 rfl Tryz.underlying54 Tryz.infoSensorFault rfl (by decide) (by decide) Hone.out w.heap.size _ _ _ _ (O.out.keep (by repeat (first | exact Below.refl _ _ | assumption | refine below_allocS ?_ _ | refine below_callS ?_ (by assumption) | (refine Below.alloc ?_ (by first | omega | (simp; done) | (simp; omega)) _) | (refine Below.setCell ?_ (by first | omega | (simp; done) | (simp; omega)) _) | refine Below.drew ?_ | refine below_drewN ?_ _ | (refine below_call ?_ (by assumption) (by first | omega | (simp; done) | (simp; omega))) | (refine Below.trans ?_ (by assumption))))) rfl _ 1 1 [⟨k, 0, 0⟩] rfl (f3_lit _ 153 [⟨k, 0, 0⟩] Hf1.out) (by omega) (by omega) (by simp; omega) ?_; intro a1 c1 w1 hown1 hb1 hg1 hnil1; have O1 := Lib.hid hown1; have hs1 := hb1.size; simp at hs1; clear hown1) | (at_builtin; refine appendL_F rfl _ _ 54 153 rfl Tryz.underlying54 Tryz.infoSensorFault rfl (by decide) (by decide) Hone.out w.heap.size _ _ _ _ (O1.out.keep (by repeat (first | exact Below.refl _ _ | assumption | refine below_allocS ?_ _ | refine below_callS ?_ (by assumption) | (refine Below.alloc ?_ (by first | omega | (simp; done) | (simp; omega)) _) | (refine Below.setCell ?_ (by first | omega | (simp; done) | (simp; omega)) _) | refine Below.drew ?_ | refine below_drewN ?_ _ | (refine below_call ?_ (by assumption) (by first | omega | (simp; done) | (simp; omega))) | (refine Below.trans ?_ (by assumption))))) rfl _ 1 1 [⟨k, 1, 0⟩] rfl (f3_lit _ 153 [⟨k, 1, 0⟩] Hf2.out) (by omega) (by omega) (by simp; omega) ?_; intro a2 c2 w2 hown2 hb2 hg2 hnil2))
            go_roundw
            case rel => exact ⟨k + 1, n + 2, a2, c2, by omega, by go_num, rfl, by omega, by repeat (first | exact Below.refl _ _ | assumption | refine below_allocS ?_ _ | refine below_callS ?_ (by assumption) | (refine Below.alloc ?_ (by first | omega | (simp; done) | (simp; omega)) _) | (refine Below.setCell ?_ (by first | omega | (simp; done) | (simp; omega)) _) | refine Below.drew ?_ | refine below_drewN ?_ _ | (refine below_call ?_ (by assumption) (by first | omega | (simp; done) | (simp; omega))) | (refine Below.trans ?_ (by assumption))), by show OwnF _ _ _ _ _ _ _ _ _ _; rw [Hst.out]; rw [show flAt k 3 = [⟨k, 0, 0⟩] ++ [⟨k, 1, 0⟩] from rfl, ← List.append_assoc]; exact hown2⟩
            case measure => simp [intOf]; omega
          · have HF := Lib.hid (show flAt k x = [] by rw [flAt, if_neg h1, if_neg h2, if_neg h3])
            have t1 : (x == 1) = false := by simpa using h1
            have t2 : (x == 2) = false := by simpa using h2
            have t3 : (x == 3) = false := by simpa using h3
            clear h1 h2 h3
            go_wp2
            go_roundw
            case rel => exact ⟨k + 1, n, a, c, by omega, by go_num, rfl, by omega, hbl, by show OwnF _ _ _ _ _ _ _ _ _ _; rw [Hst.out, HF.out, List.append_nil]; exact O.out⟩
            case measure => simp [intOf]; omega
    · go_wp2
      go_ret
      have e : st.take k = st := take_len (by have := HS.out.len; omega)
      have h1 := O.out
      rw [e] at h1
      exact ⟨n, a, c, rfl, hbl, h1⟩
end Go.Proofs.YtfnamjkmkoldeaaGreatDoor
namespace Go.Proofs.YtfnamjkmkoldeaaGreatDoor
open Go.RowKit
set_option linter.unusedVariables false
set_option linter.unusedSimpArgs false
def midOf (b : Int) (n : Nat) (st : List Int) : List Int := (st.drop n).take b.toNat
def fiC (b : Int) (l st : List Int) : Int := if rideCode b l st = 0 then (if (flsOf (midOf b l.length st)).length ≤ 8 then 0 else 3) else rideCode b l st
def fiL (b : Int) (l st : List Int) : List I3 := if fiC b l st = 0 then flsOf (midOf b l.length st) else []
theorem fiL_len {b : Int} {l st : List Int} : (fiL b l st).length ≤ 8 := by
  unfold fiL
  split
  · rename_i h
    unfold fiC at h
    split at h
    · split at h
      · assumption
      · cases h
    · exact absurd h (by assumption)
  · simp
def FaultsRet (E : TypeId) (w : World) (L : List I3) (code : Int) (e : Ending) (w' : World) : Prop :=
  ∃ n a c, e = .returned (.tuple #[.slice a n c, .int .i64 code]) ∧ Below w.heap.size w w' ∧ OwnF 3 I3.enc I3.ok E w' w.heap.size a n c L
theorem ownF_nil {α : Type} {k : Nat} {enc : α → List Value} {ok : α → Prop} (E : TypeId) (w : World) (base : Nat) (hk : ∀ x, (enc x).length = k) : OwnF k enc ok E w base none 0 0 [] := ⟨World.ownsRow_nil w base E k, (fun _ h => by cases h), rfl, hk⟩
theorem OwnF.form {α : Type} {k : Nat} {enc : α → List Value} {ok : α → Prop} {E : TypeId} {w : World} {base : Nat} {a : Option Addr} {n c : Nat} {l : List α} (h : OwnF k enc ok E w base a n c l) : (a = none ∧ n = 0 ∧ c = 0) ∨ ∃ g, a = some ⟨g, 0, none⟩ := by
  rcases h.1.2 with ⟨he, h0⟩ | ⟨g, cap, cur, he, _⟩
  · simp only [Value.slice.injEq] at he; exact .inl ⟨he.1, h0, he.2.2⟩
  · simp only [Value.slice.injEq] at he; exact .inr ⟨g, he.1⟩
theorem OwnF.empty3 {α : Type} {k : Nat} {enc : α → List Value} {ok : α → Prop} {E : TypeId} {base : Nat} (w : World) (h : base ≤ w.heap.size) (hk : ∀ x, (enc x).length = k) : OwnF k enc ok E (w.alloc (.cells #[] E)) base (some ⟨w.heap.size, 0, none⟩) 0 0 [] := by
  refine ⟨?_, (fun _ h => by cases h), rfl, hk⟩
  have := World.ownsRow_lit (base := base) (e := E) (size := k) w #[] 0 h (by omega) (by simp)
  simpa using this
set_option maxHeartbeats 1000000 in
theorem impl_FaultsIn {b : Int} {a s : Option Addr} {n c m d : Nat} {l st : List Int} {w : World} (hI : Ints w a n c l) (hS : Ints w s m d st) (hn : n ≤ 1048576) (hm : m ≤ 1048576) :
    Calls Tryz.prog 29 #[.agg #[.int .i64 b, .slice a n c], .slice s m d] w (FaultsRet 153 w (fiL b l st) (fiC b l st)) := by
  have HI := Lib.hid hI
  have HS := Lib.hid hS
  have h1 := fun (wx : World) (hb : Below w.heap.size w wx) => impl_rideStateCode (b := b) (hI.keep hb) (hS.keep hb) hn hm
  have HC := Lib.hid (show fiC b l st = if rideCode b l st = 0 then (if (flsOf (midOf b n st)).length ≤ 8 then 0 else 3) else rideCode b l st by rw [fiC, hI.len])
  have HL := Lib.hid (show fiL b l st = if fiC b l st = 0 then flsOf (midOf b n st) else [] by rw [fiL, hI.len])
  have hok := rideCode_ok (b := b) (l := l) (st := st)
  have hll := hI.len
  have hsl := hS.len
  have hcap := hS.cap
  rw [hll] at hok
  have hnm : rideCode b l st = 0 → (m : Int) = n + b + 1 ∧ 2 ≤ b ∧ b ≤ 8 ∧ n ≤ 4 := fun h => by
    have h2 := rideB_len (hok h).2
    have h3 := trafB_split (hok h).1
    omega
  clear hI hS hok hll hsl
  generalize rideCode b l st = code at *
  generalize fiC b l st = code2 at *
  generalize fiL b l st = L at *
  have H1 := Lib.hid h1
  have Hnm := Lib.hid hnm
  clear h1 hnm
  by_cases hv : code = 0
  · have HC' := Lib.hid (HC.out.trans (if_pos hv))
    obtain ⟨hmb, hb2, hb8, hn4⟩ := Hnm.out hv
    clear HC Hnm
    subst hv
    have e1 : (0 : Int) ≤ (n : Int) := by omega
    have e2 : (n : Int) ≤ (m : Int) - 1 := by omega
    have e3 : (m : Int) - 1 ≤ (d : Int) := by omega
    have e5 : IntKind.i64.wrap ((m : Int) - 1) = (m : Int) - 1 := IntWalk.i64_in _ (by omega)
    have hmid := fun (wx : World) (hb : Below w.heap.size w wx) => (HS.out.keep hb).part (lo := n) (hi := ((n : Int) + b).toNat) (by omega) (by omega)
    rw [if_neg (show ¬ d = n by omega), show (st.drop n).take (((n : Int) + b).toNat - n) = midOf b n st by rw [midOf, show b.toNat = ((n : Int) + b).toNat - n by omega]] at hmid
    have hm9 : ((n : Int) + b).toNat - n ≤ 1048576 := by omega
    have Hmid := Lib.hid hmid
    clear hmid
    go_enter Tryz.func29, Tryz.ntmps29
    go_wp2_with fail
    refine Calls.mono (H1.out _ (by repeat (first | exact Below.refl _ _ | assumption | refine below_allocS ?_ _ | refine below_callS ?_ (by assumption) | (refine Below.alloc ?_ (by first | omega | (simp; done) | (simp; omega)) _) | (refine Below.setCell ?_ (by first | omega | (simp; done) | (simp; omega)) _) | refine Below.drew ?_ | refine below_drewN ?_ _ | (refine below_call ?_ (by assumption) (by first | omega | (simp; done) | (simp; omega))) | (refine Below.trans ?_ (by assumption))))) ?_
    rintro e w1 ⟨rfl, hb_w1⟩
    obtain ⟨hc_w1, hf_w1⟩ := bcell hb_w1
    have hs_w1 := hb_w1.size
    simp at hs_w1
    have hz1 : w.heap.size < w1.heap.size := by omega
    have B1 := (Blk.made w #[.int .i64 b, .slice a n c] 28).keep hb_w1
    have c1 := B1.cell 1
    simp at c1
    go_wp2_with fail
    refine Calls.mono (impl_faultsOf (Hmid.out _ (by repeat (first | exact Below.refl _ _ | assumption | refine below_allocS ?_ _ | refine below_callS ?_ (by assumption) | (refine Below.alloc ?_ (by first | omega | (simp; done) | (simp; omega)) _) | (refine Below.setCell ?_ (by first | omega | (simp; done) | (simp; omega)) _) | refine Below.drew ?_ | refine below_drewN ?_ _ | (refine below_call ?_ (by assumption) (by first | omega | (simp; done) | (simp; omega))) | (refine Below.trans ?_ (by assumption))))) hm9) ?_
    rintro e w2 ⟨n2, a2, c2, rfl, hb_w2, ho2⟩
    have hs_w2 := hb_w2.size
    have hlen := ho2.len
    have HO2 := Lib.hid (ho2.le (base' := w.heap.size) (by omega))
    clear ho2
    rw [hlen] at HC'
    by_cases h8 : n2 ≤ 8
    · have HC2 := Lib.hid (HC'.out.trans (if_pos h8))
      have h8' : ¬ (8 : Int) < (n2 : Int) := by omega
      go_wp2
      go_ret2
      exact ⟨n2, a2, c2, by rw [HC2.out]; rfl, by repeat (first | exact Below.refl _ _ | assumption | refine below_allocS ?_ _ | refine below_callS ?_ (by assumption) | (refine Below.alloc ?_ (by first | omega | (simp; done) | (simp; omega)) _) | (refine Below.setCell ?_ (by first | omega | (simp; done) | (simp; omega)) _) | refine Below.drew ?_ | refine below_drewN ?_ _ | (refine below_call ?_ (by assumption) (by first | omega | (simp; done) | (simp; omega))) | (refine Below.trans ?_ (by assumption))), by rw [HL.out, HC2.out, if_pos rfl]; exact HO2.out⟩
    · have HC2 := Lib.hid (HC'.out.trans (if_neg h8))
      have h8' : (8 : Int) < (n2 : Int) := by omega
      go_wp2
      go_ret2
      exact ⟨0, none, 0, by rw [HC2.out]; rfl, by repeat (first | exact Below.refl _ _ | assumption | refine below_allocS ?_ _ | refine below_callS ?_ (by assumption) | (refine Below.alloc ?_ (by first | omega | (simp; done) | (simp; omega)) _) | (refine Below.setCell ?_ (by first | omega | (simp; done) | (simp; omega)) _) | refine Below.drew ?_ | refine below_drewN ?_ _ | (refine below_call ?_ (by assumption) (by first | omega | (simp; done) | (simp; omega))) | (refine Below.trans ?_ (by assumption))), by rw [HL.out, HC2.out, if_neg (by decide)]; exact ownF_nil _ _ _ (fun _ => rfl)⟩
  · have Hv := Lib.hid hv
    have hv' : (code != 0) = true := by simpa using hv
    clear hv
    go_enter Tryz.func29, Tryz.ntmps29
    go_wp2_with fail
    refine Calls.mono (H1.out _ (by repeat (first | exact Below.refl _ _ | assumption | refine below_allocS ?_ _ | refine below_callS ?_ (by assumption) | (refine Below.alloc ?_ (by first | omega | (simp; done) | (simp; omega)) _) | (refine Below.setCell ?_ (by first | omega | (simp; done) | (simp; omega)) _) | refine Below.drew ?_ | refine below_drewN ?_ _ | (refine below_call ?_ (by assumption) (by first | omega | (simp; done) | (simp; omega))) | (refine Below.trans ?_ (by assumption))))) ?_
    rintro e w1 ⟨rfl, hb_w1⟩
    obtain ⟨hc_w1, hf_w1⟩ := bcell hb_w1
    have hs_w1 := hb_w1.size
    go_wp2
    go_ret2
    exact ⟨0, none, 0, by rw [HC.out, if_neg Hv.out]; rfl, by repeat (first | exact Below.refl _ _ | assumption | refine below_allocS ?_ _ | refine below_callS ?_ (by assumption) | (refine Below.alloc ?_ (by first | omega | (simp; done) | (simp; omega)) _) | (refine Below.setCell ?_ (by first | omega | (simp; done) | (simp; omega)) _) | refine Below.drew ?_ | refine below_drewN ?_ _ | (refine below_call ?_ (by assumption) (by first | omega | (simp; done) | (simp; omega))) | (refine Below.trans ?_ (by assumption))), by rw [HL.out, HC.out, if_neg Hv.out, if_neg Hv.out]; exact ownF_nil _ _ _ (fun _ => rfl)⟩
end Go.Proofs.YtfnamjkmkoldeaaGreatDoor
namespace Go.Proofs.YtfnamjkmkoldeaaGreatDoor
open Go.RowKit
set_option linter.unusedVariables false
set_option linter.unusedSimpArgs false
def sameS (f o : I3) : Bool := o.a == f.a && o.b == f.b
def tolHit0 (f o : I3) : Bool := o.a == f.a && (o.c == 0 && f.c == 0)
def tolAt0 (l : List I3) (i : Nat) : Bool :=
  match l[i]? with
  | some x => !((l.take i).any (tolHit0 x))
  | none => true
def tolB0 (l : List I3) : Bool := upB (tolAt0 l) l.length
theorem tolAt0_eq {l : List I3} {i : Nat} {x : I3} (hx : l[i]? = some x) : tolAt0 l i = !((l.take i).any (tolHit0 x)) := by simp only [tolAt0, hx]
def stuck0 (l : List I3) : List Int := (l.filter fun f => f.c == 0).map I3.a
theorem tol_stuck0 (l : List I3) (x : I3) : (l.any (tolHit0 x)) = (x.c == 0 && (stuck0 l).any fun y => x.a == y) := by
  induction l with
  | nil => simp [stuck0]
  | cons y r ih =>
    have hs : stuck0 (y :: r) = if y.c == 0 then y.a :: stuck0 r else stuck0 r := by
      simp only [stuck0, List.filter_cons]
      split <;> simp
    rw [List.any_cons, ih, hs]
    have he : (y.a == x.a) = (x.a == y.a) := Bool.eq_iff_iff.2 (by rw [beq_iff_eq, beq_iff_eq]; exact eq_comm)
    unfold tolHit0
    rw [he]
    cases hy : (y.c == 0)
    · simp only [Bool.false_and, Bool.and_false, Bool.false_or, if_false, Bool.false_eq_true]
    · simp only [Bool.true_and, if_true, List.any_cons]
      cases (x.c == 0) <;> simp only [Bool.and_true, Bool.and_false, Bool.true_and, Bool.false_and, Bool.or_false]
theorem pair_any {R : I3 → I3 → Bool} {l : List I3} (h : l.Pairwise fun o f => R f o = false) {i : Nat} {x : I3} (hx : l[i]? = some x) : (l.take i).any (R x) = false := by
  rw [List.any_eq_false]
  intro o ho
  obtain ⟨j, hj⟩ := List.getElem?_of_mem ho
  rw [List.getElem?_take] at hj
  split at hj
  · rename_i hji
    obtain ⟨hi, e1⟩ := List.getElem?_eq_some_iff.1 hx
    obtain ⟨hjl, e2⟩ := List.getElem?_eq_some_iff.1 hj
    have := List.pairwise_iff_getElem.1 h j i hjl hi hji
    rw [e1, e2] at this
    simp [this]
  · cases hj
theorem tolB0_iff (l : List I3) : tolB0 l = true ↔ l.Pairwise fun o f => tolHit0 f o = false := by
  rw [tolB0, upB, List.all_eq_true, List.pairwise_iff_getElem]
  constructor
  · intro h i j hi hj hij
    have h1 := h j (by simpa using hj)
    rw [tolAt0_eq (List.getElem?_eq_getElem hj)] at h1
    simp only [Bool.not_eq_true', List.any_eq_false] at h1
    have h2 := h1 l[i] (List.mem_of_getElem? (i := i) (by rw [List.getElem?_take, if_pos hij]; exact List.getElem?_eq_getElem hi))
    simpa using h2
  · intro h j hj
    have hj' : j < l.length := by simpa using hj
    rw [tolAt0_eq (List.getElem?_eq_getElem hj')]
    simp only [Bool.not_eq_true', List.any_eq_false]
    intro o ho
    obtain ⟨i, hi⟩ := List.getElem?_of_mem ho
    rw [List.getElem?_take] at hi
    split at hi
    · rename_i hij
      obtain ⟨hil, e⟩ := List.getElem?_eq_some_iff.1 hi
      have := h i j hil hj' hij
      rw [e] at this
      simp [this]
    · cases hi
theorem flAt_mem {i : Nat} {x : Int} {y : I3} (h : y ∈ flAt i x) : y.a = i ∧ (y.b = 0 ∨ y.b = 1) ∧ (y.c = 0 ∨ y.c = 1) := by
  unfold flAt at h
  repeat' split at h
  all_goals simp at h
  all_goals first | (subst h; simp) | (rcases h with rfl | rfl <;> simp)
theorem fls_good (l : List Int) : ∀ k, k ≤ l.length → (∀ y ∈ flsOf (l.take k), 0 ≤ y.a ∧ y.a < k ∧ (y.b = 0 ∨ y.b = 1) ∧ (y.c = 0 ∨ y.c = 1)) ∧ (flsOf (l.take k)).Pairwise (fun o f => sameS f o = false) ∧ ((flsOf (l.take k)).Pairwise (fun o f => tolHit0 f o = false) ↔ (l.take k).any (fun x => x == 3) = false)
  | 0, _ => by simp [flsOf]
  | k + 1, hk => by
    have hx : l[k]? = some l[k] := List.getElem?_eq_getElem (by omega)
    obtain ⟨h1, h2, h3⟩ := fls_good l k (by omega)
    rw [flsOf_step hx, take_at hx]
    generalize l[k] = x at *
    refine ⟨fun y hy => ?_, ?_, ?_⟩
    · rcases List.mem_append.1 hy with h | h
      · have := h1 y h; exact ⟨this.1, by omega, this.2.2⟩
      · have := flAt_mem h; exact ⟨by omega, by omega, this.2⟩
    · rw [List.pairwise_append]
      refine ⟨h2, ?_, fun o ho f hf => ?_⟩
      · unfold flAt
        repeat' split
        all_goals simp [sameS]
      · have ha := h1 o ho
        have hb := flAt_mem hf
        have : (o.a == f.a) = false := by rw [beq_eq_false_iff_ne]; omega
        rw [sameS, this]; rfl
    · rw [List.pairwise_append, List.any_append, Bool.or_eq_false_iff, ← h3]
      have hx3 : (flAt k x).Pairwise (fun o f => tolHit0 f o = false) ↔ ([x].any fun x => x == 3) = false := by
        unfold flAt
        by_cases e1 : x = 1
        · subst e1; simp
        · by_cases e2 : x = 2
          · subst e2; simp
          · by_cases e3 : x = 3
            · subst e3; simp [tolHit0]
            · simp [e1, e2, e3]
      rw [hx3]
      constructor
      · rintro ⟨a, b, _⟩; exact ⟨a, b⟩
      · rintro ⟨a, b⟩
        refine ⟨a, b, fun o ho f hf => ?_⟩
        have ha := h1 o ho
        have hb := flAt_mem hf
        have : (o.a == f.a) = false := by rw [beq_eq_false_iff_ne]; omega
        rw [tolHit0, this]; rfl
theorem tol_fls (l : List Int) : tolB0 (flsOf l) = !(l.any fun x => x == 3) := by
  obtain ⟨_, _, h⟩ := fls_good l l.length (Nat.le_refl _)
  rw [List.take_length, ← tolB0_iff] at h
  cases hb : (l.any fun x => x == 3)
  · rw [h.2 hb]; rfl
  · cases ht : tolB0 (flsOf l)
    · rfl
    · rw [h.1 ht] at hb; cases hb
theorem impl_isReportValue_ok {x : Int} {w : World} (hx : x = 0 ∨ x = 1) : Calls Tryz.prog 119 #[.int .i64 x] w fun e w' => e = .returned (.bool true) ∧ w = w' := by
  rcases hx with rfl | rfl
  all_goals
    go_enter Tryz.func119, Tryz.ntmps119
    go_wp2
    go_ret
    exact ⟨rfl, rfl⟩
theorem impl_areFaults_1 {f o : I3} {g : Nat} {w : World} (h0 : w.cell? ⟨g, 0, none⟩ = some (.int .i64 f.a)) (h1 : w.cell? ⟨g, 1, none⟩ = some (.int .i64 f.b)) (hg : g < w.heap.size) :
    Calls Tryz.prog 121 #[.agg #[.int .i64 o.a, .int .i64 o.b, .int .i64 o.c], .pointer (some ⟨g, 0, none⟩)] w fun e w' => e = .returned (.bool (sameS f o)) ∧ Below w.heap.size w w' := by
  cases ha : (o.a == f.a)
  all_goals cases hb : (o.b == f.b)
  all_goals
    have Ha := Lib.hid ha
    have Hb := Lib.hid hb
    go_enter Tryz.func121, Tryz.ntmps121
    go_wp2
    go_ret
    exact ⟨ret_bool (by rw [sameS, Ha.out, Hb.out]; rfl), by repeat (first | exact Below.refl _ _ | assumption | refine below_allocS ?_ _ | refine below_callS ?_ (by assumption) | (refine Below.alloc ?_ (by first | omega | (simp; done) | (simp; omega)) _) | (refine Below.setCell ?_ (by first | omega | (simp; done) | (simp; omega)) _) | refine Below.drew ?_ | refine below_drewN ?_ _ | (refine below_call ?_ (by assumption) (by first | omega | (simp; done) | (simp; omega))) | (refine Below.trans ?_ (by assumption)))⟩
set_option maxHeartbeats 2000000 in
theorem impl_areFaults_ok {rows : Int} {a : Option Addr} {n c : Nat} {l : List I3} {w : World} (hI : F3 w a n c l) (hn : n ≤ 8) (hr : 2 ≤ rows ∧ rows ≤ 8) (hg : ∀ y ∈ l, 0 ≤ y.a ∧ y.a < rows ∧ (y.b = 0 ∨ y.b = 1) ∧ (y.c = 0 ∨ y.c = 1)) (hd : l.Pairwise fun o f => sameS f o = false) :
    Calls Tryz.prog 76 #[.int .i64 rows, .slice a n c] w fun e w' => e = .returned (.bool true) ∧ Below w.heap.size w w' := by
  have HI := Lib.hid hI
  have HG := Lib.hid hg
  have HD := Lib.hid hd
  obtain ⟨hr0, hr1⟩ := hr
  clear hI hg hd
  go_enter Tryz.func76, Tryz.ntmps76
  go_wp2_with fail
  go_loopw [5, 6, 9] (fun _ _ s9 wr => ∃ k : Nat, k ≤ n ∧ s9 = .int .i64 k ∧ Below w.heap.size w wr) (fun _ _ i _ => n - (intOf i).toNat)
  case atStart => exact ⟨0, Nat.zero_le _, rfl, Below.refl _ _⟩
  case round =>
    obtain ⟨k, hk, rfl, hbl⟩ := hrel
    have hsz := hbl.size
    by_cases hlt : k < n
    · obtain ⟨b, off, x, rfl, hb, hx, hwf, hc0, hc1, hc2⟩ := F3.get (HI.out.keep hbl) hlt
      have Hx := Lib.hid hx
      clear hx
      obtain ⟨xa, xb, xc⟩ := x
      obtain ⟨g0, g1, g2, g3⟩ := HG.out _ (List.mem_of_getElem? Hx.out)
      simp only at g0 g1 g2 g3 hc0 hc1 hc2
      have h1 : inB xa 0 (rows - 1) = true := by simp [inB]; omega
      have H1 := Lib.hid h1
      clear h1
      have hlk : (k : Int) ≤ (c : Int) := by have := HI.out.cap; omega
      have Hany := Lib.hid (pair_any HD.out Hx.out)
      have G3 := Lib.hid g3
      clear g3
      rcases g2 with rfl | rfl
      all_goals
        go_wp2_with fail
        refine Calls.mono (impl_within) ?_
        rintro e _ ⟨rfl, rfl⟩
        rw [H1.out]
        go_wp2_with fail
        refine Calls.mono (impl_isReportValue_ok G3.out) ?_
        rintro e _ ⟨rfl, rfl⟩
        go_wp2_with fail
      · have hIt : F3 (wr.alloc (.cells #[.int .i64 xa, .int .i64 0, .int .i64 xc] 153)) (some ⟨b, off, none⟩) k c (l.take k) := (HI.out.keep (hbl.alloc hbl.size _)).take hk
        have hcf := slices_ContainsFunc_SensorFault (g := 121) (lb := #[.pointer (some ⟨wr.heap.size, 0, none⟩)]) (p := sameS ⟨xa, 0, xc⟩) (enters_of Tryz.func121 (by kernel_rfl) rfl)
          (fun W o _ hbW => impl_areFaults_1 (f := ⟨xa, 0, xc⟩) (o := o) (g := wr.heap.size) (w := W) ((hbW.cell (p := ⟨wr.heap.size, 0, none⟩) (by simp)).trans (by simp)) ((hbW.cell (p := ⟨wr.heap.size, 1, none⟩) (by simp)).trans (by simp)) (by have := hbW.size; simp at this; omega)) hIt (by omega)
        rw [Hany.out] at hcf
        refine Calls.mono hcf ?_
        rintro e w1 ⟨rfl, hb1⟩
        have hs1 := hb1.size
        simp at hs1
        clear hcf hIt
        go_wp2
        go_roundw
        case rel => exact ⟨k + 1, by omega, by go_num, by repeat (first | exact Below.refl _ _ | assumption | refine below_allocS ?_ _ | refine below_callS ?_ (by assumption) | (refine Below.alloc ?_ (by first | omega | (simp; done) | (simp; omega)) _) | (refine Below.setCell ?_ (by first | omega | (simp; done) | (simp; omega)) _) | refine Below.drew ?_ | refine below_drewN ?_ _ | (refine below_call ?_ (by assumption) (by first | omega | (simp; done) | (simp; omega))) | (refine Below.trans ?_ (by assumption)))⟩
        case measure => simp [intOf]; omega
      · have hIt : F3 (wr.alloc (.cells #[.int .i64 xa, .int .i64 1, .int .i64 xc] 153)) (some ⟨b, off, none⟩) k c (l.take k) := (HI.out.keep (hbl.alloc hbl.size _)).take hk
        have hcf := slices_ContainsFunc_SensorFault (g := 121) (lb := #[.pointer (some ⟨wr.heap.size, 0, none⟩)]) (p := sameS ⟨xa, 1, xc⟩) (enters_of Tryz.func121 (by kernel_rfl) rfl)
          (fun W o _ hbW => impl_areFaults_1 (f := ⟨xa, 1, xc⟩) (o := o) (g := wr.heap.size) (w := W) ((hbW.cell (p := ⟨wr.heap.size, 0, none⟩) (by simp)).trans (by simp)) ((hbW.cell (p := ⟨wr.heap.size, 1, none⟩) (by simp)).trans (by simp)) (by have := hbW.size; simp at this; omega)) hIt (by omega)
        rw [Hany.out] at hcf
        refine Calls.mono hcf ?_
        rintro e w1 ⟨rfl, hb1⟩
        have hs1 := hb1.size
        simp at hs1
        clear hcf hIt
        go_wp2
        go_roundw
        case rel => exact ⟨k + 1, by omega, by go_num, by repeat (first | exact Below.refl _ _ | assumption | refine below_allocS ?_ _ | refine below_callS ?_ (by assumption) | (refine Below.alloc ?_ (by first | omega | (simp; done) | (simp; omega)) _) | (refine Below.setCell ?_ (by first | omega | (simp; done) | (simp; omega)) _) | refine Below.drew ?_ | refine below_drewN ?_ _ | (refine below_call ?_ (by assumption) (by first | omega | (simp; done) | (simp; omega))) | (refine Below.trans ?_ (by assumption)))⟩
        case measure => simp [intOf]; omega
    · have h8 : (n : Int) ≤ 8 := by omega
      go_wp2
      go_ret
      exact ⟨rfl, hbl⟩
end Go.Proofs.YtfnamjkmkoldeaaGreatDoor
