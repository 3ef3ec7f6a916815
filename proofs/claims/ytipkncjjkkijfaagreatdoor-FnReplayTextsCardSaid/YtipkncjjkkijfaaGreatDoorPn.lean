/- Replays out of texts: what both functions compute. Plain laws. -/
import Derived.Test.YtipkncjjkkijfaaGreatDoorL25x
import Derived.Test.YtipkncjjkkijfaaGreatDoorPk
import Derived.Test.YtipkncjjkkijfaaGreatDoorT12i
namespace Go.Proofs.YtipkncjjkkijfaaGreatDoor
open Go.RowKit
set_option linter.unusedVariables false
set_option linter.unusedSimpArgs false
theorem joinP_pcs (c : UInt8) : ∀ s : List UInt8, joinP c (pcs c s) = s
  | [] => rfl
  | b :: r => by
    obtain ⟨p, q, hp⟩ := pcs_ne c r
    have ih := joinP_pcs c r
    by_cases hb : b = c
    · subst hb
      rw [pcs_hit, joinP_cons _ _ (by rw [hp]; simp), ih]; rfl
    · rw [pcs_go hb hp]
      rw [hp] at ih
      cases q with
      | nil =>
        have h : p = r := ih
        rw [h]; rfl
      | cons x y =>
        rw [joinP_cons _ _ (by simp)] at ih
        rw [joinP_cons _ _ (by simp), ← ih]; rfl
theorem pcs_free {c : UInt8} : ∀ {p : List UInt8}, (∀ b ∈ p, b ≠ c) → pcs c p = [p]
  | [], _ => rfl
  | b :: r, h => by
    have ih := pcs_free (c := c) (p := r) fun x hx => h x (List.mem_cons_of_mem _ hx)
    rw [pcs_go (h b (List.mem_cons_self ..)) ih]
theorem pcs_run {c : UInt8} : ∀ {p : List UInt8} (r : List UInt8), (∀ b ∈ p, b ≠ c) → pcs c (p ++ c :: r) = p :: pcs c r
  | [], r, _ => pcs_hit c r
  | b :: p, r, h => by
    have ih := pcs_run (c := c) (p := p) r fun x hx => h x (List.mem_cons_of_mem _ hx)
    rw [List.cons_append, pcs_go (h b (List.mem_cons_self ..)) ih]
theorem pcs_join {c : UInt8} : ∀ {l : List (List UInt8)}, l ≠ [] → (∀ p ∈ l, ∀ b ∈ p, b ≠ c) → pcs c (joinP c l) = l
  | [], h, _ => absurd rfl h
  | [p], _, h => pcs_free (h p (List.mem_cons_self ..))
  | p :: q :: r, _, h => by
    have ih := pcs_join (c := c) (l := q :: r) (by simp) fun x hx => h x (List.mem_cons_of_mem _ hx)
    rw [joinP_cons _ _ (by simp), pcs_run _ (h p (List.mem_cons_self ..)), ih]
theorem pcs_short {c : UInt8} : ∀ {s : List UInt8}, (∀ p ∈ pcs c s, p ≠ []) → 2 * (pcs c s).length ≤ s.length + 1
  | [], h => absurd rfl (h [] (by simp [pcs]))
  | b :: r, h => by
    obtain ⟨p, q, hp⟩ := pcs_ne c r
    by_cases hb : b = c
    · subst hb
      rw [pcs_hit] at h
      exact absurd rfl (h [] (List.mem_cons_self ..))
    · rw [pcs_go hb hp] at h ⊢
      by_cases hp0 : p = []
      · subst hp0
        cases r with
        | nil => rw [pcs] at hp; simp at hp; subst hp; simp
        | cons d t =>
          by_cases hd : d = c
          · subst hd
            rw [pcs_hit] at hp
            simp only [List.cons.injEq, true_and] at hp
            subst hp
            have ih := pcs_short (c := d) (s := t) fun x hx => h x (List.mem_cons_of_mem _ hx)
            simp only [List.length_cons]; omega
          · obtain ⟨p', q', hp'⟩ := pcs_ne c t
            rw [pcs_go hd hp'] at hp
            simp at hp
      · have ih := pcs_short (c := c) (s := r) (by
          rw [hp]
          intro x hx
          rcases List.mem_cons.1 hx with rfl | hx
          · exact hp0
          · exact h x (List.mem_cons_of_mem _ hx))
        rw [hp] at ih
        simp only [List.length_cons] at ih ⊢
        omega
/-- an event out of its text, as the reference reads it -/
def rdE (p : List UInt8) : Option I3 := match pcs 32 p with
  | [a, b] => if v01B b = true then (if a = [109, 111, 118, 101] then some ⟨0, (valA 0 b : Nat), 0⟩ else if a = [99, 108, 101, 97, 114] then some ⟨1, (valA 0 b : Nat), 1⟩ else if a = [111, 99, 99, 117, 112, 105, 101, 100] then some ⟨1, (valA 0 b : Nat), 2⟩ else if a = [98, 108, 105, 110, 100] then some ⟨1, (valA 0 b : Nat), 3⟩ else none) else none
  | _ => none
def stBs : List ByteArray := statusNm.map fun z => ⟨z.toArray⟩
/-- the place of a word among the words of events -/
def stI (a : List UInt8) : Int := idxF (fun y : ByteArray => decide (a = y.data.toList)) stBs
/-- the same as the program reads it -/
def rdI (p : List UInt8) : Option I3 := match Lib.parseIntB 64 (Lib.cut p [32]).2.1 with
  | .ok v => if okN (Lib.cut p [32]).2.1 = true ∧ 0 ≤ stI (Lib.cut p [32]).1 then some ⟨min (stI (Lib.cut p [32]).1) 1, v, stI (Lib.cut p [32]).1⟩ else none
  | _ => none
def rdAll (f : List UInt8 → Option I3) : List (List UInt8) → Option (List I3)
  | [] => some []
  | p :: r => match f p with
    | none => none
    | some e => match rdAll f r with
      | none => none
      | some l => some (e :: l)
theorem rdAll_some {f : List UInt8 → Option I3} : ∀ {ps : List (List UInt8)} {L : List I3}, rdAll f ps = some L ↔ ps.map f = L.map some
  | [], L => by cases L <;> simp [rdAll]
  | p :: r, L => by
    rw [rdAll]
    cases hf : f p with
    | none => cases L <;> simp [hf]
    | some e =>
      cases hr : rdAll f r with
      | none =>
        simp only [List.map_cons, hf, reduceCtorEq, false_iff]
        intro h
        cases L with
        | nil => simp at h
        | cons x t =>
          simp only [List.map_cons, List.cons.injEq, Option.some.injEq] at h
          rw [rdAll_some.2 h.2] at hr; cases hr
      | some l =>
        have h1 := rdAll_some.1 hr
        cases L with
        | nil => simp
        | cons x t =>
          simp only [List.map_cons, hf, Option.some.injEq, List.cons.injEq, h1]
          constructor
          · rintro ⟨rfl, rfl⟩; exact ⟨rfl, rfl⟩
          · rintro ⟨rfl, h⟩
            refine ⟨rfl, ?_⟩
            have := List.map_inj_right (f := (some : I3 → Option I3)) (fun x y h => Option.some.inj h) |>.1 h
            exact this
/-- the pieces of a text of a replay -/
def pcR (s : List UInt8) : List (List UInt8) := if s = [] then [] else pcs 59 s
/-- the replay with a text, by the reference -/
def rrO (b : Int) (l : List Int) (s : List UInt8) : Option (List I3) := match rdAll rdE (pcR s) with
  | none => none
  | some L => if rpC b l L = 0 then some L else none
def rrI (b : Int) (l : List Int) (s : List UInt8) : Option (List I3) := match rdAll rdI (pcR s) with
  | none => none
  | some L => if rpC b l L = 0 ∧ txL L = s then some L else none

def eqE (o : Option I3) (x : I3) : Bool := match o with
  | some y => decide (y.a = x.a) && (decide (y.b = x.b) && decide (y.c = x.c))
  | none => false
theorem eqE_of {o : Option I3} {x : I3} (h : eqE o x = true) : o = some x := by
  cases o with
  | none => cases h
  | some y =>
    obtain ⟨a, b, c⟩ := y
    obtain ⟨a', b', c'⟩ := x
    simp only [eqE, Bool.and_eq_true, decide_eq_true_eq] at h
    obtain ⟨rfl, rfl, rfl⟩ := h
    rfl
theorem ev_form {b : Int} {n : Nat} {x : I3} (hv : evB b n x = true) (hb : b ≤ 8) (hn : n ≤ 4) : ∃ (k : Fin 10) (c : Fin 4), x = ⟨if c.val = 0 then 0 else 1, (k.val : Int), (c.val : Int)⟩ := by
  have hp := evB_parts hv hb hn
  obtain ⟨xa, xb, xc⟩ := x
  simp only [evB, eventB] at hv
  simp only at hp
  refine ⟨⟨xb.toNat, by omega⟩, ⟨xc.toNat, by omega⟩, ?_⟩
  simp only
  split at hv
  · rename_i h0
    simp [inB] at hv
    have e1 : xc = 0 := by omega
    subst e1
    have e2 : (xb.toNat : Int) = xb := by omega
    rw [e2]
    simp; omega
  · split at hv
    · rename_i h0 h1
      simp [inB] at hv
      have e2 : (xb.toNat : Int) = xb := by omega
      have e3 : (xc.toNat : Int) = xc := by omega
      rw [e2, e3, if_neg (by omega)]
      simp; omega
    · cases hv
def evF (k : Fin 10) (c : Fin 4) : I3 := ⟨if c.val = 0 then 0 else 1, (k.val : Int), (c.val : Int)⟩
theorem fin_E : ∀ (k : Fin 10) (c : Fin 4), (eqE (rdE (evW (evF k c))) (evF k c) && (eqE (rdI (evW (evF k c))) (evF k c) && (evW (evF k c)).all fun b => decide (b ≠ 59))) = true := by decide +kernel
theorem ev_all {b : Int} {n : Nat} {x : I3} (hv : evB b n x = true) (hb : b ≤ 8) (hn : n ≤ 4) : rdE (evW x) = some x ∧ rdI (evW x) = some x ∧ ∀ b ∈ evW x, b ≠ 59 := by
  obtain ⟨k, c, e⟩ := ev_form hv hb hn
  have h := fin_E k c
  rw [show evF k c = x from e.symm] at h
  simp only [Bool.and_eq_true] at h
  exact ⟨eqE_of h.1, eqE_of h.2.1, fun b hb => of_decide_eq_true (List.all_eq_true.1 h.2.2 b hb)⟩
theorem rdE_inv {b : Int} {n : Nat} {x : I3} {p : List UInt8} (hr : rdE p = some x) (hv : evB b n x = true) (hb : b ≤ 8) (hn : n ≤ 4) : p = evW x := by
  have hp := evB_parts hv hb hn
  have hj := joinP_pcs 32 p
  rw [rdE] at hr
  split at hr
  · rename_i a d hps
    rw [hps] at hj
    split at hr
    · rename_i hd
      have hd1 : Lib.decDigits (valA 0 d) = d := by
        rw [v01B] at hd
        simp only [Bool.and_eq_true, decide_eq_true_eq] at hd
        exact hd.2.2
      have key : ∀ (w : List UInt8) (q : Int), x.b = (valA 0 d : Nat) → wdL x = w → a = w → p = evW x := by
        intro w q h1 h2 h3
        have h4 : valA 0 d < 10 := by omega
        have h5 : x.b.toNat = valA 0 d := by omega
        rw [evW, h2, h5, ← hj, h3]
        have h6 : d = [UInt8.ofNat (48 + valA 0 d)] := by
          conv => lhs; rw [← hd1, Lib.decDigits, dif_pos h4]
        conv => lhs; rw [h6]
        simp [joinP]
      split at hr
      · cases hr; exact key _ 0 rfl rfl (by assumption)
      · split at hr
        · cases hr; exact key _ 0 rfl rfl (by assumption)
        · split at hr
          · cases hr; exact key _ 0 rfl rfl (by assumption)
          · split at hr
            · cases hr; exact key _ 0 rfl rfl (by assumption)
            · cases hr
    · cases hr
  · cases hr
theorem map_some_evW {b : Int} {l : List Int} {L : List I3} (h : rpC b l L = 0) (f : List UInt8 → Option I3) : ∀ {ps : List (List UInt8)} {M : List I3}, (∀ x ∈ M, x ∈ L) → (ps.map rdE = M.map some) → ps = M.map evW
  | [], [], _, _ => rfl
  | [], x :: r, _, e => by simp at e
  | p :: q, [], _, e => by simp at e
  | p :: q, x :: r, hm, e => by
    obtain ⟨h1, h2, h3, h4, h5⟩ := rpC_ok h
    simp only [List.map_cons, List.cons.injEq] at e
    rw [List.map_cons, ← map_some_evW h f (fun y hy => hm y (List.mem_cons_of_mem _ hy)) e.2, ← rdE_inv e.1 (h5 x (hm x (List.mem_cons_self ..))) h2 h3]
theorem txL_join (L : List I3) : txL L = joinP 59 (L.map evW) := by
  rw [txL]; exact join_same 59 _
theorem rr_same (b : Int) (l : List Int) (s : List UInt8) : rrI b l s = rrO b l s := by
  have back : ∀ L, rpC b l L = 0 → pcR s = L.map evW → rdAll rdE (pcR s) = some L ∧ rdAll rdI (pcR s) = some L := by
    intro L hC he
    obtain ⟨h1, h2, h3, h4, h5⟩ := rpC_ok hC
    rw [he]
    refine ⟨rdAll_some.2 ?_, rdAll_some.2 ?_⟩
    · rw [List.map_map]; exact List.map_congr_left fun x hx => (ev_all (h5 x hx) h2 h3).1
    · rw [List.map_map]; exact List.map_congr_left fun x hx => (ev_all (h5 x hx) h2 h3).2.1
  have fwd : ∀ L, rpC b l L = 0 → txL L = s → pcR s = L.map evW := by
    intro L hC ht
    obtain ⟨h1, h2, h3, h4, h5⟩ := rpC_ok hC
    rw [txL_join] at ht
    cases L with
    | nil => rw [← ht]; rfl
    | cons x r =>
      have hne : s ≠ [] := by
        rw [← ht]
        have hx : (evW x) ≠ [] := by simp [evW]
        cases r with
        | nil => exact hx
        | cons y q => rw [List.map_cons, joinP_cons _ _ (by simp)]; simp
      rw [pcR, if_neg hne, ← ht]
      refine pcs_join (by simp) ?_
      intro p hp
      obtain ⟨y, hy, rfl⟩ := List.mem_map.1 hp
      exact (ev_all (h5 y hy) h2 h3).2.2
  have join : ∀ L, pcR s = L.map evW → txL L = s := by
    intro L he
    rw [txL_join, ← he, pcR]
    split
    · rename_i h; rw [h]; rfl
    · exact joinP_pcs 59 s
  rw [rrI, rrO]
  cases hE : rdAll rdE (pcR s) with
  | some L =>
    by_cases hC : rpC b l L = 0
    · have he := map_some_evW hC rdE (fun x hx => hx) (rdAll_some.1 hE)
      rw [(back L hC he).2]
      simp only [if_pos hC, if_pos (And.intro hC (join L he))]
    · simp only [if_neg hC]
      cases hI : rdAll rdI (pcR s) with
      | none => rfl
      | some M =>
        by_cases h : rpC b l M = 0 ∧ txL M = s
        · have := (back M h.1 (fwd M h.1 h.2)).1
          rw [hE] at this
          cases this
          exact absurd h.1 hC
        · simp only [if_neg h]
  | none =>
    cases hI : rdAll rdI (pcR s) with
    | none => rfl
    | some M =>
      by_cases h : rpC b l M = 0 ∧ txL M = s
      · have := (back M h.1 (fwd M h.1 h.2)).1
        rw [hE] at this
        cases this
      · simp only [if_neg h]
end Go.Proofs.YtipkncjjkkijfaaGreatDoor
