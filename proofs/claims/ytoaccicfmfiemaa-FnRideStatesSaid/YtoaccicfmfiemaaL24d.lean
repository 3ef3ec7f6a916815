/- The faults in a ride state: the two functions, walked. -/
import Derived.Test.YtoaccicfmfiemaaL24c
namespace Go.Proofs.Ytoaccicfmfiemaa
open Go.RowKit
set_option linter.unusedVariables false
set_option linter.unusedSimpArgs false
def midOf (b : Int) (n : Nat) (st : List Int) : List Int := (st.drop n).take b.toNat
def fiC (b : Int) (l st : List Int) : Int := if rideCode b l st = 0 then (if (flsOf (midOf b l.length st)).length ≤ 8 then 0 else 3) else rideCode b l st
def fiL (b : Int) (l st : List Int) : List I3 := if fiC b l st = 0 then flsOf (midOf b l.length st) else []
theorem fiL_len {b : Int} {l st : List Int} : (fiL b l st).length ≤ 8 := by
  unfold fiL
  split
  · rename_i h
    unfold fiC at h
    split at h
    · split at h
      · assumption
      · cases h
    · exact absurd h (by assumption)
  · simp
def FaultsRet (E : TypeId) (w : World) (L : List I3) (code : Int) (e : Ending) (w' : World) : Prop :=
  ∃ n a c, e = .returned (.tuple #[.slice a n c, .int .i64 code]) ∧ Below w.heap.size w w' ∧ OwnF 3 I3.enc I3.ok E w' w.heap.size a n c L
theorem ownF_nil {α : Type} {k : Nat} {enc : α → List Value} {ok : α → Prop} (E : TypeId) (w : World) (base : Nat) (hk : ∀ x, (enc x).length = k) : OwnF k enc ok E w base none 0 0 [] := ⟨World.ownsRow_nil w base E k, (fun _ h => by cases h), rfl, hk⟩
theorem OwnF.form {α : Type} {k : Nat} {enc : α → List Value} {ok : α → Prop} {E : TypeId} {w : World} {base : Nat} {a : Option Addr} {n c : Nat} {l : List α} (h : OwnF k enc ok E w base a n c l) : (a = none ∧ n = 0 ∧ c = 0) ∨ ∃ g, a = some ⟨g, 0, none⟩ := by
  rcases h.1.2 with ⟨he, h0⟩ | ⟨g, cap, cur, he, _⟩
  · simp only [Value.slice.injEq] at he; exact .inl ⟨he.1, h0, he.2.2⟩
  · simp only [Value.slice.injEq] at he; exact .inr ⟨g, he.1⟩
theorem OwnF.empty3 {α : Type} {k : Nat} {enc : α → List Value} {ok : α → Prop} {E : TypeId} {base : Nat} (w : World) (h : base ≤ w.heap.size) (hk : ∀ x, (enc x).length = k) : OwnF k enc ok E (w.alloc (.cells #[] E)) base (some ⟨w.heap.size, 0, none⟩) 0 0 [] := by
  refine ⟨?_, (fun _ h => by cases h), rfl, hk⟩
  have := World.ownsRow_lit (base := base) (e := E) (size := k) w #[] 0 h (by omega) (by simp)
  simpa using this
set_option maxHeartbeats 1000000 in
theorem impl_FaultsIn {b : Int} {a s : Option Addr} {n c m d : Nat} {l st : List Int} {w : World} (hI : Ints w a n c l) (hS : Ints w s m d st) (hn : n ≤ 1048576) (hm : m ≤ 1048576) :
    Calls Try.prog 55 #[.agg #[.int .i64 b, .slice a n c], .slice s m d] w (FaultsRet 138 w (fiL b l st) (fiC b l st)) := by
  have HI := Lib.hid hI
  have HS := Lib.hid hS
  have h1 := fun (wx : World) (hb : Below w.heap.size w wx) => impl_rideStateCode (b := b) (hI.keep hb) (hS.keep hb) hn hm
  have HC := Lib.hid (show fiC b l st = if rideCode b l st = 0 then (if (flsOf (midOf b n st)).length ≤ 8 then 0 else 3) else rideCode b l st by rw [fiC, hI.len])
  have HL := Lib.hid (show fiL b l st = if fiC b l st = 0 then flsOf (midOf b n st) else [] by rw [fiL, hI.len])
  have hok := rideCode_ok (b := b) (l := l) (st := st)
  have hll := hI.len
  have hsl := hS.len
  have hcap := hS.cap
  rw [hll] at hok
  have hnm : rideCode b l st = 0 → (m : Int) = n + b + 1 ∧ 2 ≤ b ∧ b ≤ 8 ∧ n ≤ 4 := fun h => by
    have h2 := rideB_len (hok h).2
    have h3 := trafB_split (hok h).1
    omega
  clear hI hS hok hll hsl
  generalize rideCode b l st = code at *
  generalize fiC b l st = code2 at *
  generalize fiL b l st = L at *
  have H1 := Lib.hid h1
  have Hnm := Lib.hid hnm
  clear h1 hnm
  by_cases hv : code = 0
  · have HC' := Lib.hid (HC.out.trans (if_pos hv))
    obtain ⟨hmb, hb2, hb8, hn4⟩ := Hnm.out hv
    clear HC Hnm
    subst hv
    have e1 : (0 : Int) ≤ (n : Int) := by omega
    have e2 : (n : Int) ≤ (m : Int) - 1 := by omega
    have e3 : (m : Int) - 1 ≤ (d : Int) := by omega
    have e5 : IntKind.i64.wrap ((m : Int) - 1) = (m : Int) - 1 := IntWalk.i64_in _ (by omega)
    have hmid := fun (wx : World) (hb : Below w.heap.size w wx) => (HS.out.keep hb).part (lo := n) (hi := ((n : Int) + b).toNat) (by omega) (by omega)
    rw [if_neg (show ¬ d = n by omega), show (st.drop n).take (((n : Int) + b).toNat - n) = midOf b n st by rw [midOf, show b.toNat = ((n : Int) + b).toNat - n by omega]] at hmid
    have hm9 : ((n : Int) + b).toNat - n ≤ 1048576 := by omega
    have Hmid := Lib.hid hmid
    clear hmid
    go_enter Try.func55, Try.ntmps55
    go_wp2_with fail
    refine Calls.mono (H1.out _ (by repeat (first | exact Below.refl _ _ | assumption | refine below_allocS ?_ _ | refine below_callS ?_ (by assumption) | (refine Below.alloc ?_ (by first | omega | (simp; done) | (simp; omega)) _) | (refine Below.setCell ?_ (by first | omega | (simp; done) | (simp; omega)) _) | refine Below.drew ?_ | refine below_drewN ?_ _ | (refine below_call ?_ (by assumption) (by first | omega | (simp; done) | (simp; omega))) | (refine Below.trans ?_ (by assumption))))) ?_
    rintro e w1 ⟨rfl, hb_w1⟩
    obtain ⟨hc_w1, hf_w1⟩ := bcell hb_w1
    have hs_w1 := hb_w1.size
    simp at hs_w1
    have hz1 : w.heap.size < w1.heap.size := by omega
    have B1 := (Blk.made w #[.int .i64 b, .slice a n c] 66).keep hb_w1
    have c1 := B1.cell 1
    simp at c1
    go_wp2_with fail
    refine Calls.mono (impl_faultsOf (Hmid.out _ (by repeat (first | exact Below.refl _ _ | assumption | refine below_allocS ?_ _ | refine below_callS ?_ (by assumption) | (refine Below.alloc ?_ (by first | omega | (simp; done) | (simp; omega)) _) | (refine Below.setCell ?_ (by first | omega | (simp; done) | (simp; omega)) _) | refine Below.drew ?_ | refine below_drewN ?_ _ | (refine below_call ?_ (by assumption) (by first | omega | (simp; done) | (simp; omega))) | (refine Below.trans ?_ (by assumption))))) hm9) ?_
    rintro e w2 ⟨n2, a2, c2, rfl, hb_w2, ho2⟩
    have hs_w2 := hb_w2.size
    have hlen := ho2.len
    have HO2 := Lib.hid (ho2.le (base' := w.heap.size) (by omega))
    clear ho2
    rw [hlen] at HC'
    by_cases h8 : n2 ≤ 8
    · have HC2 := Lib.hid (HC'.out.trans (if_pos h8))
      have h8' : ¬ (8 : Int) < (n2 : Int) := by omega
      go_wp2
      go_ret2
      exact ⟨n2, a2, c2, by rw [HC2.out]; rfl, by repeat (first | exact Below.refl _ _ | assumption | refine below_allocS ?_ _ | refine below_callS ?_ (by assumption) | (refine Below.alloc ?_ (by first | omega | (simp; done) | (simp; omega)) _) | (refine Below.setCell ?_ (by first | omega | (simp; done) | (simp; omega)) _) | refine Below.drew ?_ | refine below_drewN ?_ _ | (refine below_call ?_ (by assumption) (by first | omega | (simp; done) | (simp; omega))) | (refine Below.trans ?_ (by assumption))), by rw [HL.out, HC2.out, if_pos rfl]; exact HO2.out⟩
    · have HC2 := Lib.hid (HC'.out.trans (if_neg h8))
      have h8' : (8 : Int) < (n2 : Int) := by omega
      go_wp2
      go_ret2
      exact ⟨0, none, 0, by rw [HC2.out]; rfl, by repeat (first | exact Below.refl _ _ | assumption | refine below_allocS ?_ _ | refine below_callS ?_ (by assumption) | (refine Below.alloc ?_ (by first | omega | (simp; done) | (simp; omega)) _) | (refine Below.setCell ?_ (by first | omega | (simp; done) | (simp; omega)) _) | refine Below.drew ?_ | refine below_drewN ?_ _ | (refine below_call ?_ (by assumption) (by first | omega | (simp; done) | (simp; omega))) | (refine Below.trans ?_ (by assumption))), by rw [HL.out, HC2.out, if_neg (by decide)]; exact ownF_nil _ _ _ (fun _ => rfl)⟩
  · have Hv := Lib.hid hv
    have hv' : (code != 0) = true := by simpa using hv
    clear hv
    go_enter Try.func55, Try.ntmps55
    go_wp2_with fail
    refine Calls.mono (H1.out _ (by repeat (first | exact Below.refl _ _ | assumption | refine below_allocS ?_ _ | refine below_callS ?_ (by assumption) | (refine Below.alloc ?_ (by first | omega | (simp; done) | (simp; omega)) _) | (refine Below.setCell ?_ (by first | omega | (simp; done) | (simp; omega)) _) | refine Below.drew ?_ | refine below_drewN ?_ _ | (refine below_call ?_ (by assumption) (by first | omega | (simp; done) | (simp; omega))) | (refine Below.trans ?_ (by assumption))))) ?_
    rintro e w1 ⟨rfl, hb_w1⟩
    obtain ⟨hc_w1, hf_w1⟩ := bcell hb_w1
    have hs_w1 := hb_w1.size
    go_wp2
    go_ret2
    exact ⟨0, none, 0, by rw [HC.out, if_neg Hv.out]; rfl, by repeat (first | exact Below.refl _ _ | assumption | refine below_allocS ?_ _ | refine below_callS ?_ (by assumption) | (refine Below.alloc ?_ (by first | omega | (simp; done) | (simp; omega)) _) | (refine Below.setCell ?_ (by first | omega | (simp; done) | (simp; omega)) _) | refine Below.drew ?_ | refine below_drewN ?_ _ | (refine below_call ?_ (by assumption) (by first | omega | (simp; done) | (simp; omega))) | (refine Below.trans ?_ (by assumption))), by rw [HL.out, HC.out, if_neg Hv.out, if_neg Hv.out]; exact ownF_nil _ _ _ (fun _ => rfl)⟩
set_option maxHeartbeats 1000000 in
theorem spec_FaultsIn {b : Int} {a s : Option Addr} {n c m d : Nat} {l st : List Int} {w : World} (hI : Ints w a n c l) (hS : Ints w s m d st) (hn : n ≤ 1048576) (hm : m ≤ 1048576) :
    Calls Try.prog 54 #[.agg #[.int .i64 b, .slice a n c], .slice s m d] w (FaultsRet 138 w (fiL b l st) (fiC b l st)) := by
  have HI := Lib.hid hI
  have HS := Lib.hid hS
  have h1 := fun (wx : World) (hb : Below w.heap.size w wx) => spec_l24State (b := b) (hI.keep hb) (hS.keep hb) hn hm
  have HC := Lib.hid (show fiC b l st = if rideCode b l st = 0 then (if (flsOf (midOf b n st)).length ≤ 8 then 0 else 3) else rideCode b l st by rw [fiC, hI.len])
  have HL := Lib.hid (show fiL b l st = if fiC b l st = 0 then flsOf (midOf b n st) else [] by rw [fiL, hI.len])
  have hok := rideCode_ok (b := b) (l := l) (st := st)
  have hll := hI.len
  have hsl := hS.len
  rw [hll] at hok
  have hnm : rideCode b l st = 0 → (m : Int) = n + b + 1 ∧ 2 ≤ b ∧ b ≤ 8 ∧ n ≤ 4 := fun h => by
    have h2 := rideB_len (hok h).2
    have h3 := trafB_split (hok h).1
    omega
  have hone : ∀ y : I3, ∀ u ∈ y.enc, u.oneCell' = true := fun y u hu => by
    simp [I3.enc] at hu
    rcases hu with rfl | rfl | rfl <;> rfl
  have Hone := Lib.hid hone
  clear hI hS hok hll hsl hone
  generalize rideCode b l st = code at *
  generalize fiC b l st = code2 at *
  generalize fiL b l st = L at *
  have H1 := Lib.hid h1
  have Hnm := Lib.hid hnm
  clear h1 hnm
  by_cases hv : code = 0
  · have HC' := Lib.hid (HC.out.trans (if_pos hv))
    obtain ⟨hmb, hb2, hb8, hn4⟩ := Hnm.out hv
    clear HC Hnm
    subst hv
    generalize hq : midOf b n st = q at HC' HL
    have hql : q.length = b.toNat := by rw [← hq, midOf, List.length_take, List.length_drop, HS.out.len]; omega
    have hqg : ∀ k x, k < b.toNat → st[n + k]? = some x → q[k]? = some x := fun k x hk hx => by rw [← hq, midOf, List.getElem?_take, if_pos hk, List.getElem?_drop]; exact hx
    have Hql := Lib.hid hql
    have Hqg := Lib.hid hqg
    clear hq hql hqg
    have B0 := Lib.hid (Blk.made w #[.int .i64 b, .slice a n c] 66)
    go_enter Try.func54, Try.ntmps54
    go_wp2_with fail
    refine Calls.mono (H1.out _ (by repeat (first | exact Below.refl _ _ | assumption | refine below_allocS ?_ _ | refine below_callS ?_ (by assumption) | (refine Below.alloc ?_ (by first | omega | (simp; done) | (simp; omega)) _) | (refine Below.setCell ?_ (by first | omega | (simp; done) | (simp; omega)) _) | refine Below.drew ?_ | refine below_drewN ?_ _ | (refine below_call ?_ (by assumption) (by first | omega | (simp; done) | (simp; omega))) | (refine Below.trans ?_ (by assumption))))) ?_
    rintro e w1 ⟨rfl, hb_w1⟩
    obtain ⟨hc_w1, hf_w1⟩ := bcell hb_w1
    have hs_w1 := hb_w1.size
    simp at hs_w1
    have hz1 : w.heap.size < w1.heap.size := by omega
    have B1 := Lib.hid (B0.out.keep hb_w1)
    have hB1 : Below w.heap.size w w1 := by repeat (first | exact Below.refl _ _ | assumption | refine below_allocS ?_ _ | refine below_callS ?_ (by assumption) | (refine Below.alloc ?_ (by first | omega | (simp; done) | (simp; omega)) _) | (refine Below.setCell ?_ (by first | omega | (simp; done) | (simp; omega)) _) | refine Below.drew ?_ | refine below_drewN ?_ _ | (refine below_call ?_ (by assumption) (by first | omega | (simp; done) | (simp; omega))) | (refine Below.trans ?_ (by assumption)))
    have O0 := Lib.hid (OwnF.empty3 (k := 3) (enc := I3.enc) (ok := I3.ok) (E := 138) w1 (base := w.heap.size + 1) (by omega) (fun _ => rfl))
    have B1' := Lib.hid (B1.out.keep (show Below w1.heap.size w1 (w1.alloc (.cells #[] 138)) by repeat (first | exact Below.refl _ _ | assumption | refine below_allocS ?_ _ | refine below_callS ?_ (by assumption) | (refine Below.alloc ?_ (by first | omega | (simp; done) | (simp; omega)) _) | (refine Below.setCell ?_ (by first | omega | (simp; done) | (simp; omega)) _) | refine Below.drew ?_ | refine below_drewN ?_ _ | (refine below_call ?_ (by assumption) (by first | omega | (simp; done) | (simp; omega))) | (refine Below.trans ?_ (by assumption)))))
    have hbs : Below w.heap.size w (w1.alloc (.cells #[] 138)) := by repeat (first | exact Below.refl _ _ | assumption | refine below_allocS ?_ _ | refine below_callS ?_ (by assumption) | (refine Below.alloc ?_ (by first | omega | (simp; done) | (simp; omega)) _) | (refine Below.setCell ?_ (by first | omega | (simp; done) | (simp; omega)) _) | refine Below.drew ?_ | refine below_drewN ?_ _ | (refine below_call ?_ (by assumption) (by first | omega | (simp; done) | (simp; omega))) | (refine Below.trans ?_ (by assumption)))
    go_wp2_with fail
    go_loopw [7, 8] (fun s5 s9 wr => ∃ (k n2 : Nat) (a2 : Option Addr) (c2 : Nat), (k : Int) ≤ b ∧ s9 = .int .i64 (k : Nat) ∧ s5 = .slice a2 n2 c2 ∧ n2 ≤ 2 * k ∧ Below w.heap.size w wr ∧ Hid (Blk wr w.heap.size #[.int .i64 b, .slice a n c] 66) ∧ Hid (OwnF 3 I3.enc I3.ok 138 wr (w.heap.size + 1) a2 n2 c2 (flsOf (q.take k)))) (fun _ s9 _ => b.toNat - (intOf s9).toNat)
    case atStart => exact ⟨0, 0, _, 0, by omega, rfl, rfl, by omega, hbs, B1', O0.out⟩
    case round =>
      obtain ⟨k, n2, a2, c2, hk, rfl, rfl, hn2, hbl, B, O⟩ := hrel
      have c0 := B.out.cell 0
      have c1 := B.out.cell 1
      have z1 := B.out.lt
      simp at c0 c1
      have hk0 : (0 : Int) ≤ (k : Int) := by omega
      by_cases hlt : (k : Int) < b
      · obtain ⟨b', off, x, rfl, hb', hx, hcell, hwf⟩ := (HS.out.keep hbl).at (k := n + k) (by omega)
        have Hst := Lib.hid (flsOf_step (Hqg.out k x (by omega) hx))
        have e1 : IntKind.i64.wrap ((n : Int) + k) = (n : Int) + k := IntWalk.i64_in _ (by omega)
        have e2 : (0 : Int) ≤ (n : Int) + k := by omega
        have e3 : (n : Int) + k < (m : Int) := by omega
        have e4 : ((n : Int) + k).toNat = n + k := by omega
        clear hx hwf
        go_wp2_with fail
        refine Calls.mono (spec_l24Faults (i := k) (x := x) (by omega)) ?_
        rintro e w2 ⟨n3, a3, c3, rfl, hb_w2, hF⟩
        have hs_w2 := hb_w2.size
        have hn3 : n3 ≤ 2 := by have h1 := hF.len; have h2 := flAt_len k x; omega
        have hbs2 := hbl.size
        have HF := Lib.hid hF
        have B2 := Lib.hid (B.out.keep hb_w2)
        have hb02 : Below w.heap.size w w2 := below_callS hbl hb_w2
        clear hF
        go_wp2_with (at_builtin; refine appendL_F rfl _ _ 78 138 rfl Try.underlying78 Try.infoSensorFault rfl (by decide) (by decide) Hone.out (w.heap.size + 1) _ _ _ _ (O.out.keep hb_w2) rfl _ _ _ _ rfl HF.out (by omega) (by omega) (by omega) ?_; intro a4 c4 w4 hown4 hb4 hg4 hnil4)
        have B4 := Lib.hid (B2.out.keepG hg4 (by
          intro e
          have hblk := O.out.blk
          cases a2 with
          | none => cases e
          | some ad =>
            have h5 := O.out.form
            rcases h5 with ⟨h, _⟩ | ⟨g, h⟩
            · cases h
            · have := hblk g h
              cases h
              simp [Value.ownBlock] at e
              omega))
        go_roundw
        case rel => exact ⟨k + 1, n2 + n3, a4, c4, by omega, by go_num, rfl, by omega, hb02.trans (hb4.mono (by omega)), B4.out, by show OwnF _ _ _ _ _ _ _ _ _ _; rw [Hst.out]; exact hown4⟩
        case measure => simp [intOf]; omega
      · have hkb : b.toNat = k := by omega
        have hq : q.take k = q := take_len (by have := Hql.out; omega)
        rw [hq] at O
        have hlen := O.out.len
        rw [hlen] at HC'
        by_cases h8 : n2 ≤ 8
        · have HC2 := Lib.hid (HC'.out.trans (if_pos h8))
          have h8' : ¬ (8 : Int) < (n2 : Int) := by omega
          go_wp2
          go_ret2
          exact ⟨n2, a2, c2, by rw [HC2.out]; rfl, hbl, by rw [HL.out, HC2.out, if_pos rfl]; exact O.out.le (by omega)⟩
        · have HC2 := Lib.hid (HC'.out.trans (if_neg h8))
          have h8' : (8 : Int) < (n2 : Int) := by omega
          go_wp2
          go_ret2
          exact ⟨0, none, 0, by rw [HC2.out]; rfl, hbl, by rw [HL.out, HC2.out, if_neg (by decide)]; exact ownF_nil _ _ _ (fun _ => rfl)⟩
  · have Hv := Lib.hid hv
    have hv' : (code != 0) = true := by simpa using hv
    clear hv
    go_enter Try.func54, Try.ntmps54
    go_wp2_with fail
    refine Calls.mono (H1.out _ (by repeat (first | exact Below.refl _ _ | assumption | refine below_allocS ?_ _ | refine below_callS ?_ (by assumption) | (refine Below.alloc ?_ (by first | omega | (simp; done) | (simp; omega)) _) | (refine Below.setCell ?_ (by first | omega | (simp; done) | (simp; omega)) _) | refine Below.drew ?_ | refine below_drewN ?_ _ | (refine below_call ?_ (by assumption) (by first | omega | (simp; done) | (simp; omega))) | (refine Below.trans ?_ (by assumption))))) ?_
    rintro e w1 ⟨rfl, hb_w1⟩
    obtain ⟨hc_w1, hf_w1⟩ := bcell hb_w1
    have hs_w1 := hb_w1.size
    go_wp2
    go_ret2
    exact ⟨0, none, 0, by rw [HC.out, if_neg Hv.out]; rfl, by repeat (first | exact Below.refl _ _ | assumption | refine below_allocS ?_ _ | refine below_callS ?_ (by assumption) | (refine Below.alloc ?_ (by first | omega | (simp; done) | (simp; omega)) _) | (refine Below.setCell ?_ (by first | omega | (simp; done) | (simp; omega)) _) | refine Below.drew ?_ | refine below_drewN ?_ _ | (refine below_call ?_ (by assumption) (by first | omega | (simp; done) | (simp; omega))) | (refine Below.trans ?_ (by assumption))), by rw [HL.out, HC.out, if_neg Hv.out, if_neg Hv.out]; exact ownF_nil _ _ _ (fun _ => rfl)⟩
end Go.Proofs.Ytoaccicfmfiemaa
