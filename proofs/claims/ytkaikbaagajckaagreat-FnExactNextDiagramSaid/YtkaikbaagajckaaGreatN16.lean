/- Decision diagrams: the values of references: plain laws.; Decision diagrams: the lists of bits with the value 1, and how many there are: plain laws.; Decision diagrams: joining two, fixing an input: plain laws.; Decision diagrams: a canonical diagram is valid, and canonical itself: plain laws. -/
import Derived.Test.YtkaikbaagajckaaGreatN15
namespace Go.Proofs.YtkaikbaagajckaaGreat
open Go.RowKit
set_option linter.unusedVariables false
set_option linter.unusedSimpArgs false
/-- the value of a reference -/
def evF (L : List I3) (β : Nat → Bool) : Nat → Int → Bool
  | 0, r => decide (r = 1)
  | f + 1, r => if r < 2 then decide (r = 1) else match L[(r - 2).toNat]? with
    | none => false
    | some x => evF L β f (if β x.a.toNat = true then x.c else x.b)
def evR (L : List I3) (β : Nat → Bool) (r : Int) : Bool := evF L β r.toNat r
theorem evF_low {L : List I3} {β : Nat → Bool} (f : Nat) {r : Int} (h : r < 2) : evF L β f r = decide (r = 1) := by
  cases f with
  | zero => rfl
  | succ f => rw [evF, if_pos h]
theorem evF_fuel {L : List I3} (hF : Frst L) {β : Nat → Bool} : ∀ (f g : Nat) (r : Int), r.toNat ≤ f → r.toNat ≤ g → evF L β f r = evF L β g r := by
  intro f
  induction f with
  | zero => intro g r hf hg; rw [evF_low _ (by omega), evF_low _ (by omega)]
  | succ f ih =>
    intro g r hf hg
    by_cases hr : r < 2
    · rw [evF_low _ hr, evF_low _ hr]
    · obtain ⟨g, rfl⟩ : ∃ g', g = g' + 1 := ⟨g - 1, by omega⟩
      rw [evF, evF, if_neg hr, if_neg hr]
      cases hx : L[(r - 2).toNat]? with
      | none => rfl
      | some x =>
        have h3 := hF.low _ _ hx
        have h4 := hF.high _ _ hx
        unfold RefB at h3 h4
        simp only
        split
        · exact ih g x.c (by omega) (by omega)
        · exact ih g x.b (by omega) (by omega)
theorem ev_low {L : List I3} {β : Nat → Bool} {r : Int} (h : r < 2) : evR L β r = decide (r = 1) := evF_low _ h
theorem ev_node {L : List I3} (hF : Frst L) {β : Nat → Bool} {k : Nat} {x : I3} (hx : L[k]? = some x) : evR L β ((k : Int) + 2) = evR L β (if β x.a.toNat = true then x.c else x.b) := by
  have h3 := hF.low _ _ hx
  have h4 := hF.high _ _ hx
  unfold RefB at h3 h4
  rw [evR, show ((k : Int) + 2).toNat = (k + 1) + 1 by omega, evF, if_neg (by omega), show ((k : Int) + 2 - 2).toNat = k by omega, hx]
  simp only
  split
  · exact evF_fuel hF _ _ _ (by omega) (Nat.le_refl _)
  · exact evF_fuel hF _ _ _ (by omega) (Nat.le_refl _)
/-- more nodes behind change nothing -/
theorem evF_app {L t : List I3} (hF : Frst L) {β : Nat → Bool} : ∀ (f : Nat) (r : Int), RefB r L.length → evF (L ++ t) β f r = evF L β f r := by
  intro f
  induction f with
  | zero => intro r _; rfl
  | succ f ih =>
    intro r hr
    rw [evF, evF]
    split
    · rfl
    · rename_i h2
      have hlt : (r - 2).toNat < L.length := by have := hr.2; have := hr.1; omega
      rw [List.getElem?_append_left hlt]
      have hx := List.getElem?_eq_getElem hlt
      rw [hx]
      simp only
      have h3 := (hF.low _ _ hx).mono (Nat.le_of_lt hlt)
      have h4 := (hF.high _ _ hx).mono (Nat.le_of_lt hlt)
      split
      · exact ih _ h4
      · exact ih _ h3
theorem ev_app {L t : List I3} (hF : Frst L) {β : Nat → Bool} {r : Int} (hr : RefB r L.length) : evR (L ++ t) β r = evR L β r := evF_app hF _ _ hr
theorem ev_mk {L : List I3} (hF : Frst L) {β : Nat → Bool} {i lo hi : Int} (hl : RefB lo L.length) (hh : RefB hi L.length) : evR (mkN L i lo hi).1 β (mkN L i lo hi).2 = if β i.toNat = true then evR L β hi else evR L β lo := by
  by_cases he : lo = hi
  · rw [mkN_eq he, he]; simp
  · obtain ⟨k, hk, hx⟩ := mkN_is L (i := i) he
    obtain ⟨hF2, hr2⟩ := hF.add (i := i) hl hh
    rw [hk, ev_node hF2 hx]
    obtain ⟨t, ht, _⟩ := mkN_pre L i lo hi
    rw [ht]
    simp only
    split
    · exact ev_app hF hh
    · exact ev_app hF hl
theorem ev_keep {L : List I3} (hF : Frst L) {β : Nat → Bool} {i lo hi r : Int} (hr : RefB r L.length) : evR (mkN L i lo hi).1 β r = evR L β r := by
  obtain ⟨t, ht, _⟩ := mkN_pre L i lo hi
  rw [ht]; exact ev_app hF hr
/-- the new references of a walk have the old values -/
theorem wk_ev {N D : List I3} {P : Nms} (h : WkI N D P) (hF : Frst N) {β : Nat → Bool} : ∀ (m : Nat) (r : Int), r.toNat ≤ m → VisN P r → evR D β (rvN P r) = evR N β r := by
  intro m
  induction m with
  | zero => intro r hm hv; rw [rvN, if_pos (by omega), ev_low (by omega), ev_low (by omega)]
  | succ m ih =>
    intro r hm hv
    by_cases h2 : r < 2
    · rw [rvN, if_pos h2, ev_low h2, ev_low h2]
    · obtain ⟨_, x, k, hx, hk, hd, vb, vc, lb, lc⟩ := h.nodes hF (hv.2 (by omega))
      rw [rvN, if_neg h2, hk, ev_node h.frst hd, show r = ((r.toNat - 2 : Nat) : Int) + 2 by omega, ev_node hF hx]
      simp only
      split
      · exact ih x.c (by omega) vc
      · exact ih x.b (by omega) vb
theorem can_walk {N : List I3} (h : Redu N) {root : Int} (hr : RefB root N.length) : ∃ P, WkI N (canN mkN N root).1 P ∧ (canN mkN N root).2 = rvN P root ∧ VisN P root := by
  obtain ⟨h1, R⟩ := wlk_same h.nodup h.frst h.diff root.toNat root.toNat [] (fun _ => 0) (Nat.le_refl _) (by unfold RefB at hr; omega) (WkI.start N)
  refine ⟨(wlkN appN N root.toNat ([], fun _ => 0) root.toNat).2.1, ?_, ?_, hr.1, fun h2 => R.vis (by omega)⟩
  · rw [canN, h1]; exact R.inv
  · have := R.ref
    rw [canN, h1, this]
    congr 1
    have := hr.1
    omega
theorem can_ev {N : List I3} (h : Redu N) {root : Int} (hr : RefB root N.length) (β : Nat → Bool) : evR (canN mkN N root).1 β (canN mkN N root).2 = evR N β root := by
  obtain ⟨P, h1, h2, h3⟩ := can_walk h hr
  rw [h2]
  exact wk_ev h1 h.frst _ _ (Nat.le_refl _) h3
/-- each node's input comes before those below it -/
def OrdN (n : Int) (L : List I3) : Prop := ∀ (i : Nat) (x : I3), L[i]? = some x → 0 ≤ x.a ∧ x.a < n ∧ x.a < lvlN n L x.b ∧ x.a < lvlN n L x.c
theorem lvl_node {n : Int} {L : List I3} {k : Nat} {x : I3} (hx : L[k]? = some x) : lvlN n L ((k : Int) + 2) = x.a := by
  rw [lvlN, if_neg (by omega), show ((k : Int) + 2 - 2).toNat = k by omega, List.getD_eq_getElem?_getD, hx]; rfl
theorem lvl_low {n : Int} {L : List I3} {r : Int} (h : r < 2) : lvlN n L r = n := if_pos h
theorem lvl_app {n : Int} {L t : List I3} {r : Int} (hr : RefB r L.length) : lvlN n (L ++ t) r = lvlN n L r := by
  rw [lvlN, lvlN]
  split
  · rfl
  · have := hr.1
    have := hr.2
    rw [List.getD_eq_getElem?_getD, List.getD_eq_getElem?_getD, List.getElem?_append_left (by omega)]
theorem OrdN.nil (n : Int) : OrdN n [] := fun i x h => by simp at h
theorem OrdN.add {n : Int} {L : List I3} (h : OrdN n L) (hF : Frst L) {i lo hi : Int} (hl : RefB lo L.length) (hh : RefB hi L.length) (h0 : 0 ≤ i) (hn : i < n) (h1 : i < lvlN n L lo) (h2 : i < lvlN n L hi) : OrdN n (mkN L i lo hi).1 ∧ i ≤ lvlN n (mkN L i lo hi).1 (mkN L i lo hi).2 := by
  unfold mkN
  split
  · exact ⟨h, by simp only; omega⟩
  · split
    · rename_i k hk
      refine ⟨h, ?_⟩
      simp only
      rw [lvl_node (posN_some hk).1]
      exact Int.le_refl _
    · refine ⟨fun j x hj => ?_, ?_⟩
      · simp only at hj ⊢
        by_cases hjl : j < L.length
        · rw [List.getElem?_append_left hjl] at hj
          have h3 := (hF.low _ _ hj).mono (Nat.le_of_lt hjl)
          have h4 := (hF.high _ _ hj).mono (Nat.le_of_lt hjl)
          rw [lvl_app h3, lvl_app h4]
          exact h j x hj
        · have hj2 : j = L.length := by
            have := (List.getElem?_eq_some_iff.1 hj).1
            simp at this; omega
          subst hj2
          simp at hj
          subst hj
          simp only
          rw [lvl_app hl, lvl_app hh]
          exact ⟨h0, hn, h1, h2⟩
      · simp only
        rw [lvl_node (x := ⟨i, lo, hi⟩) (by simp)]
        exact Int.le_refl _
/-- inputs before the reference's own do not matter -/
theorem ev_indep {n : Int} {L : List I3} (hF : Frst L) (hO : OrdN n L) {β γ : Nat → Bool} : ∀ (m : Nat) (r : Int), r.toNat ≤ m → RefB r L.length → (∀ i : Nat, lvlN n L r ≤ (i : Int) → (i : Int) < n → β i = γ i) → evR L β r = evR L γ r := by
  intro m
  induction m with
  | zero => intro r hm _ _; rw [ev_low (by omega), ev_low (by omega)]
  | succ m ih =>
    intro r hm hr hb
    by_cases h2 : r < 2
    · rw [ev_low h2, ev_low h2]
    · obtain ⟨k, rfl⟩ : ∃ k : Nat, r = (k : Int) + 2 := ⟨(r - 2).toNat, by omega⟩
      have hlt : k < L.length := by have := hr.2; omega
      obtain ⟨x, hx⟩ : ∃ x, L[k]? = some x := ⟨_, List.getElem?_eq_getElem hlt⟩
      obtain ⟨o1, o2, o3, o4⟩ := hO _ _ hx
      have h3 := hF.low _ _ hx
      have h4 := hF.high _ _ hx
      rw [lvl_node hx] at hb
      have hba : β x.a.toNat = γ x.a.toNat := hb _ (by omega) (by omega)
      rw [ev_node hF hx, ev_node hF hx, hba]
      have h3' := h3.2
      have h4' := h4.2
      split
      · exact ih _ (by omega) (h4.mono (Nat.le_of_lt hlt)) (fun i hi hn => hb i (by omega) hn)
      · exact ih _ (by omega) (h3.mono (Nat.le_of_lt hlt)) (fun i hi hn => hb i (by omega) hn)
theorem lvl_le {n : Int} {L : List I3} (hO : OrdN n L) {r : Int} (hr : RefB r L.length) : lvlN n L r ≤ n := by
  by_cases h2 : r < 2
  · rw [lvl_low h2]; exact Int.le_refl _
  · obtain ⟨k, rfl⟩ : ∃ k : Nat, r = (k : Int) + 2 := ⟨(r - 2).toNat, by omega⟩
    have hlt : k < L.length := by have := hr.2; omega
    obtain ⟨x, hx⟩ : ∃ x, L[k]? = some x := ⟨_, List.getElem?_eq_getElem hlt⟩
    rw [lvl_node hx]
    have := (hO _ _ hx).2.1
    omega
/-- an assignment with one input fixed -/
def fixB (β : Nat → Bool) (i : Nat) (b : Bool) : Nat → Bool := fun j => if j = i then b else β j
/-- all lists of so many bits, in lexicographic order -/
def allB : Nat → List (List Int)
  | 0 => [[]]
  | k + 1 => (allB k).map (0 :: ·) ++ (allB k).map (1 :: ·)
theorem allB_mem : ∀ {k : Nat} {s : List Int}, s ∈ allB k ↔ s.length = k ∧ ∀ x ∈ s, x = 0 ∨ x = 1
  | 0, s => by
    rw [allB, List.mem_singleton]
    constructor
    · rintro rfl; exact ⟨rfl, fun x h => by cases h⟩
    · rintro ⟨h, _⟩; exact List.length_eq_zero_iff.1 h
  | k + 1, s => by
    rw [allB, List.mem_append, List.mem_map, List.mem_map]
    constructor
    · rintro (⟨t, ht, rfl⟩ | ⟨t, ht, rfl⟩)
      · obtain ⟨h1, h2⟩ := allB_mem.1 ht
        exact ⟨by rw [List.length_cons, h1], fun x hx => by
          rcases List.mem_cons.1 hx with rfl | hx
          · exact .inl rfl
          · exact h2 x hx⟩
      · obtain ⟨h1, h2⟩ := allB_mem.1 ht
        exact ⟨by rw [List.length_cons, h1], fun x hx => by
          rcases List.mem_cons.1 hx with rfl | hx
          · exact .inr rfl
          · exact h2 x hx⟩
    · rintro ⟨h1, h2⟩
      cases s with
      | nil => cases h1
      | cons y t =>
        have ht : t ∈ allB k := allB_mem.2 ⟨by simpa using h1, fun x hx => h2 x (List.mem_cons_of_mem _ hx)⟩
        rcases h2 y (List.mem_cons_self ..) with rfl | rfl
        · exact .inl ⟨t, ht, rfl⟩
        · exact .inr ⟨t, ht, rfl⟩
/-- what a list of bits gives to the inputs from one on -/
def bitF (off : Nat) (s : List Int) : Nat → Bool := fun i => decide (off ≤ i) && (s.getD (i - off) 0 == 1)
theorem bitF_at (off : Nat) (b : Int) (t : List Int) : bitF off (b :: t) off = (b == 1) := by
  rw [bitF, decide_eq_true (Nat.le_refl _), Nat.sub_self]; rfl
theorem bitF_next (off : Nat) (b : Int) (t : List Int) {i : Nat} (h : off + 1 ≤ i) : bitF off (b :: t) i = bitF (off + 1) t i := by
  rw [bitF, bitF, decide_eq_true (show off ≤ i by omega), decide_eq_true h, show i - off = (i - (off + 1)) + 1 by omega]; rfl
/-- the branches of a reference at an input -/
def chN (n : Int) (L : List I3) (r : Int) (i : Int) : Int × Int := if lvlN n L r = i ∧ 2 ≤ r then ((L.getD (r - 2).toNat ⟨0, 0, 0⟩).b, (L.getD (r - 2).toNat ⟨0, 0, 0⟩).c) else (r, r)
theorem ch_skip {n : Int} {L : List I3} {r i : Int} (h : lvlN n L r ≠ i ∨ r < 2) : chN n L r i = (r, r) := if_neg (by omega)
theorem ch_node {n : Int} {L : List I3} {k : Nat} {x : I3} {i : Int} (hx : L[k]? = some x) (h : x.a = i) : chN n L ((k : Int) + 2) i = (x.b, x.c) := by
  rw [chN, if_pos ⟨(lvl_node hx).trans h, by omega⟩, show ((k : Int) + 2 - 2).toNat = k by omega, List.getD_eq_getElem?_getD, hx]; rfl
/-- both branches, and what they have to do with the value -/
theorem ch_all {n : Int} {L : List I3} (hF : Frst L) (hO : OrdN n L) {r : Int} (hr : RefB r L.length) {i : Nat} (hi : (i : Int) ≤ lvlN n L r) (hn : (i : Int) < n) :
    RefB (chN n L r i).1 L.length ∧ RefB (chN n L r i).2 L.length ∧ (i : Int) + 1 ≤ lvlN n L (chN n L r i).1 ∧ (i : Int) + 1 ≤ lvlN n L (chN n L r i).2 ∧ ∀ β : Nat → Bool, evR L β r = if β i = true then evR L β (chN n L r i).2 else evR L β (chN n L r i).1 := by
  by_cases h2 : r < 2
  · rw [ch_skip (.inr h2)]
    have := lvl_low (n := n) (L := L) h2
    exact ⟨hr, hr, by simp only; omega, by simp only; omega, fun β => by simp⟩
  · obtain ⟨k, rfl⟩ : ∃ k : Nat, r = (k : Int) + 2 := ⟨(r - 2).toNat, by omega⟩
    have hlt : k < L.length := by have := hr.2; omega
    obtain ⟨x, hx⟩ : ∃ x, L[k]? = some x := ⟨_, List.getElem?_eq_getElem hlt⟩
    obtain ⟨o1, o2, o3, o4⟩ := hO _ _ hx
    have hl := lvl_node (n := n) hx
    by_cases he : x.a = (i : Int)
    · rw [ch_node hx he]
      refine ⟨(hF.low _ _ hx).mono (Nat.le_of_lt hlt), (hF.high _ _ hx).mono (Nat.le_of_lt hlt), by simp only; omega, by simp only; omega, fun β => ?_⟩
      rw [ev_node hF hx, he, Int.toNat_natCast]
      simp only
      split <;> rfl
    · rw [ch_skip (.inl (by rw [hl]; exact he))]
      exact ⟨hr, hr, by simp only; omega, by simp only; omega, fun β => by simp⟩
/-- the lists of bits from an input on with the value 1 -/
def lsN (n : Int) (L : List I3) : Nat → Int → List (List Int)
  | 0, r => if r = 0 then [] else [[]]
  | k + 1, r => if r = 0 then [] else (lsN n L k (chN n L r (n - ((k : Int) + 1))).1).map (0 :: ·) ++ (lsN n L k (chN n L r (n - ((k : Int) + 1))).2).map (1 :: ·)
theorem ev_zero (L : List I3) (β : Nat → Bool) : evR L β 0 = false := by rw [ev_low (by omega)]; rfl
theorem ev_bit {n : Int} {L : List I3} (hF : Frst L) (hO : OrdN n L) {r : Int} (hr : RefB r L.length) {i : Nat} (hi : (i : Int) + 1 ≤ lvlN n L r) (b : Int) (t : List Int) : evR L (bitF i (b :: t)) r = evR L (bitF (i + 1) t) r :=
  ev_indep hF hO _ r (Nat.le_refl _) hr fun j hj _ => bitF_next i b t (by omega)
theorem ls_filter {n : Nat} {L : List I3} (hF : Frst L) (hO : OrdN (n : Int) L) : ∀ (k : Nat) (r : Int), k ≤ n → RefB r L.length → ((n - k : Nat) : Int) ≤ lvlN (n : Int) L r → lsN (n : Int) L k r = (allB k).filter fun s => evR L (bitF (n - k) s) r := by
  intro k
  induction k with
  | zero =>
    intro r _ hr hl
    have h2 : r < 2 := by
      by_cases h2 : r < 2
      · exact h2
      · obtain ⟨k, rfl⟩ : ∃ k : Nat, r = (k : Int) + 2 := ⟨(r - 2).toNat, by omega⟩
        have hlt : k < L.length := by have := hr.2; omega
        have hx := List.getElem?_eq_getElem hlt
        have h3 := (hO _ _ hx).2.1
        rw [lvl_node hx] at hl
        omega
    have h0 := hr.1
    rw [lsN, allB]
    by_cases h : r = 0
    · rw [if_pos h, h, List.filter_cons, ev_zero]; rfl
    · rw [if_neg h, List.filter_cons, ev_low h2, decide_eq_true (show r = 1 by omega)]; rfl
  | succ k ih =>
    intro r hk hr hl
    rw [lsN, allB]
    by_cases h : r = 0
    · rw [if_pos h, h]
      symm
      rw [List.filter_eq_nil_iff]
      intro s _
      rw [ev_zero]; decide
    · rw [if_neg h]
      have e1 : (n : Int) - ((k : Int) + 1) = ((n - (k + 1) : Nat) : Int) := by omega
      rw [e1]
      obtain ⟨c1, c2, c3, c4, c5⟩ := ch_all hF hO hr (i := n - (k + 1)) hl (by omega)
      have e2 : n - (k + 1) + 1 = n - k := by omega
      rw [ih _ (by omega) c1 (by omega), ih _ (by omega) c2 (by omega), List.filter_append, List.filter_map, List.filter_map]
      congr 2
      · apply List.filter_congr
        intro s _
        show evR L (bitF (n - k) s) _ = evR L (bitF (n - (k + 1)) (0 :: s)) r
        rw [c5, bitF_at, if_neg (by decide), ev_bit hF hO c1 c3, e2]
      · apply List.filter_congr
        intro s _
        show evR L (bitF (n - k) s) _ = evR L (bitF (n - (k + 1)) (1 :: s)) r
        rw [c5, bitF_at, if_pos (by decide), ev_bit hF hO c2 c4, e2]
/-- for how many lists of bits from its own input on a reference has the value 1 -/
def cntF (n : Int) (L : List I3) : Nat → Int → Nat
  | 0, r => if r = 0 then 0 else 1
  | f + 1, r => if r < 2 then (if r = 0 then 0 else 1) else match L[(r - 2).toNat]? with
    | none => 0
    | some x => cntF n L f x.b * 2 ^ (lvlN n L x.b - (x.a + 1)).toNat + cntF n L f x.c * 2 ^ (lvlN n L x.c - (x.a + 1)).toNat
def cntR (n : Int) (L : List I3) (r : Int) : Nat := cntF n L r.toNat r
theorem cntF_low {n : Int} {L : List I3} (f : Nat) {r : Int} (h : r < 2) : cntF n L f r = if r = 0 then 0 else 1 := by
  cases f with
  | zero => rfl
  | succ f => rw [cntF, if_pos h]
theorem cntF_fuel {n : Int} {L : List I3} (hF : Frst L) : ∀ (f g : Nat) (r : Int), r.toNat ≤ f → r.toNat ≤ g → cntF n L f r = cntF n L g r := by
  intro f
  induction f with
  | zero => intro g r hf hg; rw [cntF_low _ (by omega), cntF_low _ (by omega)]
  | succ f ih =>
    intro g r hf hg
    by_cases hr : r < 2
    · rw [cntF_low _ hr, cntF_low _ hr]
    · obtain ⟨g, rfl⟩ : ∃ g', g = g' + 1 := ⟨g - 1, by omega⟩
      rw [cntF, cntF, if_neg hr, if_neg hr]
      cases hx : L[(r - 2).toNat]? with
      | none => rfl
      | some x =>
        have h3 := hF.low _ _ hx
        have h4 := hF.high _ _ hx
        unfold RefB at h3 h4
        simp only
        rw [ih g x.b (by omega) (by omega), ih g x.c (by omega) (by omega)]
theorem cnt_low {n : Int} {L : List I3} {r : Int} (h : r < 2) : cntR n L r = if r = 0 then 0 else 1 := cntF_low _ h
theorem cnt_node {n : Int} {L : List I3} (hF : Frst L) {k : Nat} {x : I3} (hx : L[k]? = some x) : cntR n L ((k : Int) + 2) = cntR n L x.b * 2 ^ (lvlN n L x.b - (x.a + 1)).toNat + cntR n L x.c * 2 ^ (lvlN n L x.c - (x.a + 1)).toNat := by
  have h3 := hF.low _ _ hx
  have h4 := hF.high _ _ hx
  unfold RefB at h3 h4
  rw [cntR, show ((k : Int) + 2).toNat = (k + 1) + 1 by omega, cntF, if_neg (by omega), show ((k : Int) + 2 - 2).toNat = k by omega, hx]
  simp only
  rw [cntF_fuel hF (k + 1) x.b.toNat x.b (by omega) (Nat.le_refl _), cntF_fuel hF (k + 1) x.c.toNat x.c (by omega) (Nat.le_refl _)]
  rfl
/-- the count is that of the lists -/
theorem cnt_ls {n : Nat} {L : List I3} (hF : Frst L) (hO : OrdN (n : Int) L) : ∀ (k : Nat) (r : Int), k ≤ n → RefB r L.length → ((n - k : Nat) : Int) ≤ lvlN (n : Int) L r → (lsN (n : Int) L k r).length = cntR (n : Int) L r * 2 ^ (lvlN (n : Int) L r - ((n - k : Nat) : Int)).toNat := by
  intro k
  induction k with
  | zero =>
    intro r _ hr hl
    have h2 : r < 2 := by
      by_cases h2 : r < 2
      · exact h2
      · obtain ⟨k, rfl⟩ : ∃ k : Nat, r = (k : Int) + 2 := ⟨(r - 2).toNat, by omega⟩
        have hlt : k < L.length := by have := hr.2; omega
        have hx := List.getElem?_eq_getElem hlt
        have h3 := (hO _ _ hx).2.1
        rw [lvl_node hx] at hl
        omega
    rw [lsN, cnt_low h2, lvl_low h2, show ((n : Int) - ((n - 0 : Nat) : Int)).toNat = 0 by omega]
    split <;> rfl
  | succ k ih =>
    intro r hk hr hl
    rw [lsN]
    by_cases h : r = 0
    · rw [if_pos h, h, cnt_low (by omega)]; simp
    · rw [if_neg h, List.length_append, List.length_map, List.length_map]
      have e1 : (n : Int) - ((k : Int) + 1) = ((n - (k + 1) : Nat) : Int) := by omega
      rw [e1]
      obtain ⟨c1, c2, c3, c4, c5⟩ := ch_all hF hO hr (i := n - (k + 1)) hl (by omega)
      rw [ih _ (by omega) c1 (by omega), ih _ (by omega) c2 (by omega)]
      have e2 : ((n - k : Nat) : Int) = ((n - (k + 1) : Nat) : Int) + 1 := by omega
      by_cases hlv : lvlN (n : Int) L r = ((n - (k + 1) : Nat) : Int) ∧ 2 ≤ r
      · obtain ⟨q, rfl⟩ : ∃ q : Nat, r = (q : Int) + 2 := ⟨(r - 2).toNat, by omega⟩
        have hlt : q < L.length := by have := hr.2; omega
        obtain ⟨x, hx⟩ : ∃ x, L[q]? = some x := ⟨_, List.getElem?_eq_getElem hlt⟩
        have hxa : x.a = ((n - (k + 1) : Nat) : Int) := by rw [← lvl_node (n := (n : Int)) hx]; exact hlv.1
        rw [ch_node hx hxa, cnt_node hF hx, lvl_node hx, hxa, show (((n - (k + 1) : Nat) : Int) - ((n - (k + 1) : Nat) : Int)).toNat = 0 by omega, e2]
        simp
      · rw [ch_skip (by omega), e2]
        simp only
        have hl3 : ((n - (k + 1) : Nat) : Int) + 1 ≤ lvlN (n : Int) L r := by
          by_cases h2 : r < 2
          · rw [lvl_low h2]; omega
          · omega
        have e3 : (lvlN (n : Int) L r - ((n - (k + 1) : Nat) : Int)).toNat = (lvlN (n : Int) L r - (((n - (k + 1) : Nat) : Int) + 1)).toNat + 1 := by omega
        rw [e3, Nat.pow_succ]
        rw [← Nat.mul_assoc]; omega
/-- a sound forest: reduced and ordered -/
structure Snd (n : Int) (L : List I3) : Prop where
  redu : Redu L
  ord : OrdN n L
theorem Snd.nil (n : Int) : Snd n [] := ⟨Redu.nil, OrdN.nil n⟩
theorem Snd.add {n : Int} {L : List I3} (h : Snd n L) {i lo hi : Int} (hl : RefB lo L.length) (hh : RefB hi L.length) (h0 : 0 ≤ i) (hn : i < n) (h1 : i < lvlN n L lo) (h2 : i < lvlN n L hi) : Snd n (mkN L i lo hi).1 :=
  ⟨h.redu.add hl hh, (h.ord.add h.redu.frst hl hh h0 hn h1 h2).1⟩
theorem dia_snd {n : Int} {L : List I3} {root : Int} (h : diaB n L root = true) : Snd n L := by
  obtain ⟨h1, _, _, _, _, _, h2⟩ := dia_redu h
  exact ⟨h1, fun i x hx => by
    have := h2 i x hx
    exact ⟨this.inp.1, by have := this.inp.2; omega, this.lb, this.lc⟩⟩
/-- what joins two truth values -/
def bopN (j : Int) (a b : Bool) : Bool := if j = 0 then a && b else if j = 1 then a || b else xor a b
def jopN (j a b : Int) : Int := if bopN j (a == 1) (b == 1) = true then 1 else 0
theorem jop_low {j a b : Int} : jopN j a b < 2 ∧ 0 ≤ jopN j a b := by
  rw [jopN]; split <;> omega
/-- what is known of pairs -/
abbrev Mem := Int → Int → Option Int
def jnF (j n : Int) (A B : List I3) : Nat → List I3 × Mem → Int → Int → List I3 × Mem × Int
  | 0, s, a, b => (s.1, s.2, jopN j a b)
  | f + 1, s, a, b =>
    if a < 2 ∧ b < 2 then (s.1, s.2, jopN j a b)
    else match s.2 a b with
      | some r => (s.1, s.2, r)
      | none =>
        let i := min (lvlN n A a) (lvlN n B b)
        let u := jnF j n A B f s (chN n A a i).1 (chN n B b i).1
        let v := jnF j n A B f (u.1, u.2.1) (chN n A a i).2 (chN n B b i).2
        let m := mkN v.1 i u.2.2 v.2.2
        (m.1, fun x y => if x = a ∧ y = b then some m.2 else v.2.1 x y, m.2)
theorem jn_low {j n : Int} {A B : List I3} (f : Nat) (s : List I3 × Mem) {a b : Int} (h : a < 2 ∧ b < 2) : jnF j n A B f s a b = (s.1, s.2, jopN j a b) := by
  cases f with
  | zero => rfl
  | succ f => rw [jnF, if_pos h]
theorem jn_old {j n : Int} {A B : List I3} (f : Nat) (s : List I3 × Mem) {a b r : Int} (h : ¬ (a < 2 ∧ b < 2)) (hr : s.2 a b = some r) : jnF j n A B (f + 1) s a b = (s.1, s.2, r) := by
  rw [jnF, if_neg h, hr]
theorem jn_new {j n : Int} {A B : List I3} (f : Nat) (s : List I3 × Mem) {a b i : Int} (h : ¬ (a < 2 ∧ b < 2)) (hr : s.2 a b = none) (hi : min (lvlN n A a) (lvlN n B b) = i) {u v : List I3 × Mem × Int} (hu : jnF j n A B f s (chN n A a i).1 (chN n B b i).1 = u) (hv : jnF j n A B f (u.1, u.2.1) (chN n A a i).2 (chN n B b i).2 = v) :
    jnF j n A B (f + 1) s a b = ((mkN v.1 i u.2.2 v.2.2).1, (fun x y => if x = a ∧ y = b then some (mkN v.1 i u.2.2 v.2.2).2 else v.2.1 x y), (mkN v.1 i u.2.2 v.2.2).2) := by
  subst hi hu hv
  rw [jnF, if_neg h, hr]
/-- how far a pair still goes down -/
theorem ch_less {n : Int} {L : List I3} (hF : Frst L) {r i : Int} (hr : RefB r L.length) : (chN n L r i).1.toNat ≤ r.toNat ∧ (chN n L r i).2.toNat ≤ r.toNat ∧ (2 ≤ r → lvlN n L r = i → (chN n L r i).1.toNat < r.toNat ∧ (chN n L r i).2.toNat < r.toNat) ∧ RefB (chN n L r i).1 L.length ∧ RefB (chN n L r i).2 L.length := by
  by_cases hc : lvlN n L r = i ∧ 2 ≤ r
  · obtain ⟨k, rfl⟩ : ∃ k : Nat, r = (k : Int) + 2 := ⟨(r - 2).toNat, by omega⟩
    have hlt : k < L.length := by have := hr.2; omega
    obtain ⟨x, hx⟩ : ∃ x, L[k]? = some x := ⟨_, List.getElem?_eq_getElem hlt⟩
    have h3 := hF.low _ _ hx
    have h4 := hF.high _ _ hx
    have h3' := h3.2
    have h4' := h4.2
    have h3'' := h3.1
    have h4'' := h4.1
    rw [ch_node hx ((lvl_node hx).symm.trans hc.1)]
    refine ⟨?_, ?_, fun _ _ => ⟨?_, ?_⟩, h3.mono (Nat.le_of_lt hlt), h4.mono (Nat.le_of_lt hlt)⟩ <;> (simp only; omega)
  · rw [chN, if_neg hc]
    exact ⟨Nat.le_refl _, Nat.le_refl _, fun h1 h2 => absurd ⟨h2, h1⟩ hc, hr, hr⟩
/-- what is known is right -/
structure JnI (j n : Int) (A B : List I3) (L : List I3) (M : Mem) : Prop where
  snd : Snd n L
  mem : ∀ a b r, M a b = some r → RefB r L.length ∧ min (lvlN n A a) (lvlN n B b) ≤ lvlN n L r ∧ ∀ β, evR L β r = bopN j (evR A β a) (evR B β b)
theorem JnI.start (j n : Int) (A B : List I3) : JnI j n A B [] (fun _ _ => none) := ⟨Snd.nil n, fun a b r h => by cases h⟩
theorem jn_ev {j n : Int} {A B : List I3} (hA : Frst A) (hB : Frst B) (oA : OrdN n A) (oB : OrdN n B) (hn : 0 ≤ n) : ∀ (f : Nat) (L : List I3) (M : Mem) (a b : Int), RefB a A.length → RefB b B.length → a.toNat + b.toNat ≤ f → JnI j n A B L M →
    JnI j n A B (jnF j n A B f (L, M) a b).1 (jnF j n A B f (L, M) a b).2.1 ∧ RefB (jnF j n A B f (L, M) a b).2.2 (jnF j n A B f (L, M) a b).1.length ∧ min (lvlN n A a) (lvlN n B b) ≤ lvlN n (jnF j n A B f (L, M) a b).1 (jnF j n A B f (L, M) a b).2.2 ∧
    (∀ β, evR (jnF j n A B f (L, M) a b).1 β (jnF j n A B f (L, M) a b).2.2 = bopN j (evR A β a) (evR B β b)) ∧ ∃ t, (jnF j n A B f (L, M) a b).1 = L ++ t := by
  intro f
  induction f with
  | zero =>
    intro L M a b ha hb hf h
    have h0 : a < 2 ∧ b < 2 := by omega
    have ha0 := ha.1
    have hb0 := hb.1
    obtain ⟨j1, j2⟩ := jop_low (j := j) (a := a) (b := b)
    rw [jn_low _ _ h0]
    refine ⟨h, ⟨j2, by simp only; omega⟩, ?_, fun β => ?_, [], by simp⟩
    · simp only
      rw [lvl_low j1, lvl_low h0.1, lvl_low h0.2]; omega
    · simp only
      rw [ev_low j1, ev_low h0.1, ev_low h0.2, jopN]
      have e1 : (a == 1) = decide (a = 1) := rfl
      have e2 : (b == 1) = decide (b = 1) := rfl
      rw [e1, e2]
      cases bopN j (decide (a = 1)) (decide (b = 1)) <;> simp
  | succ f ih =>
    intro L M a b ha hb hf h
    by_cases h0 : a < 2 ∧ b < 2
    · have ha0 := ha.1
      have hb0 := hb.1
      obtain ⟨j1, j2⟩ := jop_low (j := j) (a := a) (b := b)
      rw [jn_low _ _ h0]
      refine ⟨h, ⟨j2, by simp only; omega⟩, ?_, fun β => ?_, [], by simp⟩
      · simp only
        rw [lvl_low j1, lvl_low h0.1, lvl_low h0.2]; omega
      · simp only
        rw [ev_low j1, ev_low h0.1, ev_low h0.2, jopN]
        have e1 : (a == 1) = decide (a = 1) := rfl
        have e2 : (b == 1) = decide (b = 1) := rfl
        rw [e1, e2]
        cases bopN j (decide (a = 1)) (decide (b = 1)) <;> simp
    · cases hm : M a b with
      | some r =>
        rw [jn_old _ _ h0 hm]
        obtain ⟨m1, m2, m3⟩ := h.mem a b r hm
        exact ⟨h, m1, m2, m3, [], by simp⟩
      | none =>
        have ea := lvl_le oA ha
        have eb := lvl_le oB hb
        have hlt : min (lvlN n A a) (lvlN n B b) < n := by
          by_cases h2 : a < 2
          · have hb2 : ¬ b < 2 := fun hb2 => h0 ⟨h2, hb2⟩
            obtain ⟨q, rfl⟩ : ∃ q : Nat, b = (q : Int) + 2 := ⟨(b - 2).toNat, by omega⟩
            have hq : q < B.length := by have := hb.2; omega
            have hx := List.getElem?_eq_getElem hq
            have := (oB _ _ hx).2.1
            rw [lvl_node hx]
            omega
          · obtain ⟨q, rfl⟩ : ∃ q : Nat, a = (q : Int) + 2 := ⟨(a - 2).toNat, by omega⟩
            have hq : q < A.length := by have := ha.2; omega
            have hx := List.getElem?_eq_getElem hq
            have := (oA _ _ hx).2.1
            rw [lvl_node hx]
            omega
        have h00 : 0 ≤ min (lvlN n A a) (lvlN n B b) := by
          have la : 0 ≤ lvlN n A a := by
            by_cases h2 : a < 2
            · rw [lvl_low h2]; exact hn
            · obtain ⟨q, rfl⟩ : ∃ q : Nat, a = (q : Int) + 2 := ⟨(a - 2).toNat, by omega⟩
              have hq : q < A.length := by have := ha.2; omega
              have hx := List.getElem?_eq_getElem hq
              rw [lvl_node hx]; exact (oA _ _ hx).1
          have lb : 0 ≤ lvlN n B b := by
            by_cases h2 : b < 2
            · rw [lvl_low h2]; exact hn
            · obtain ⟨q, rfl⟩ : ∃ q : Nat, b = (q : Int) + 2 := ⟨(b - 2).toNat, by omega⟩
              have hq : q < B.length := by have := hb.2; omega
              have hx := List.getElem?_eq_getElem hq
              rw [lvl_node hx]; exact (oB _ _ hx).1
          omega
        obtain ⟨i, hi⟩ : ∃ i : Nat, min (lvlN n A a) (lvlN n B b) = (i : Int) := ⟨(min (lvlN n A a) (lvlN n B b)).toNat, by omega⟩
        have hin : (i : Int) < n := by rw [← hi]; exact hlt
        obtain ⟨a1, a2, a3, a4, a5⟩ := ch_all hA oA ha (i := i) (by omega) (by omega)
        obtain ⟨b1, b2, b3, b4, b5⟩ := ch_all hB oB hb (i := i) (by omega) (by omega)
        have ka := ch_less (n := n) (i := (i : Int)) hA ha
        have kb := ch_less (n := n) (i := (i : Int)) hB hb
        have hd : (chN n A a i).1.toNat + (chN n B b i).1.toNat < a.toNat + b.toNat ∧ (chN n A a i).2.toNat + (chN n B b i).2.toNat < a.toNat + b.toNat := by
          rcases Int.le_total (lvlN n A a) (lvlN n B b) with e | e
          · have := ka.2.2.1 (by
              by_cases h2 : a < 2
              · rw [lvl_low h2] at e hi; omega
              · omega) (by omega)
            omega
          · have := kb.2.2.1 (by
              by_cases h2 : b < 2
              · rw [lvl_low h2] at e hi; omega
              · omega) (by omega)
            omega
        obtain ⟨u, hu⟩ : ∃ u, jnF j n A B f (L, M) (chN n A a i).1 (chN n B b i).1 = u := ⟨_, rfl⟩
        obtain ⟨v, hv⟩ : ∃ v, jnF j n A B f (u.1, u.2.1) (chN n A a i).2 (chN n B b i).2 = v := ⟨_, rfl⟩
        have R1 := ih L M _ _ a1 b1 (by omega) h
        rw [hu] at R1
        obtain ⟨i1, f1, l1, e1, t1, p1⟩ := R1
        have R2 := ih u.1 u.2.1 _ _ a2 b2 (by omega) i1
        rw [hv] at R2
        obtain ⟨i2, f2, l2, e2, t2, p2⟩ := R2
        rw [jn_new f (L, M) h0 hm hi hu hv]
        have hF1 := i1.snd.redu.frst
        have hF2 := i2.snd.redu.frst
        have hlen : u.1.length ≤ v.1.length := by rw [p2, List.length_append]; omega
        have f1' : RefB u.2.2 v.1.length := f1.mono hlen
        have e1' : ∀ β, evR v.1 β u.2.2 = bopN j (evR A β (chN n A a i).1) (evR B β (chN n B b i).1) := fun β => by rw [p2, ev_app hF1 f1]; exact e1 β
        have l1' : (i : Int) < lvlN n v.1 u.2.2 := by rw [p2, lvl_app f1]; omega
        have l2' : (i : Int) < lvlN n v.1 v.2.2 := by omega
        have hS := i2.snd.add (i := (i : Int)) f1' f2 (by omega) (by omega) l1' l2'
        have hO := i2.snd.ord.add hF2 (i := (i : Int)) f1' f2 (by omega) (by omega) l1' l2'
        have hR := (hF2.add (i := (i : Int)) f1' f2).2
        have hev : ∀ β, evR (mkN v.1 i u.2.2 v.2.2).1 β (mkN v.1 i u.2.2 v.2.2).2 = bopN j (evR A β a) (evR B β b) := fun β => by
          rw [ev_mk hF2 f1' f2, Int.toNat_natCast, e2, e1', a5, b5]
          split <;> rfl
        obtain ⟨t3, p3, _⟩ := mkN_pre v.1 i u.2.2 v.2.2
        refine ⟨⟨hS, fun x y r hr => ?_⟩, hR, by simp only; rw [hi]; exact hO.2, hev, ⟨t1 ++ (t2 ++ t3), by simp only; rw [p3, p2, p1]; simp⟩⟩
        simp only at hr ⊢
        split at hr
        · rename_i hxy
          obtain ⟨rfl, rfl⟩ := hxy
          cases hr
          exact ⟨hR, by rw [hi]; exact hO.2, hev⟩
        · obtain ⟨m1, m2, m3⟩ := i2.mem x y r hr
          refine ⟨?_, ?_, fun β => ?_⟩
          · rw [p3, List.length_append]; exact m1.mono (by omega)
          · rw [p3, lvl_app m1]; exact m2
          · rw [ev_keep hF2 m1]; exact m3 β
/-- the canonical nodes: sound, with the same inputs -/
theorem wk_lvl {n : Int} {N D : List I3} {P : Nms} (h : WkI N D P) (hF : Frst N) {b : Int} (hv : VisN P b) : lvlN n D (rvN P b) = lvlN n N b := by
  rw [rvN]
  split
  · rename_i h2
    rw [lvl_low h2, lvl_low h2]
  · rename_i h2
    obtain ⟨_, x, k, hx, hk, hd, _⟩ := h.nodes hF (hv.2 (by omega))
    rw [hk, lvl_node hd, show b = ((b.toNat - 2 : Nat) : Int) + 2 by omega, lvl_node hx]
theorem wk_snd {n : Int} {N D : List I3} {P : Nms} (h : WkI N D P) (hS : Snd n N) : Snd n D := by
  have hF := hS.redu.frst
  have H : ∀ (k : Nat) (y : I3), D[k]? = some y → ∃ x, x ∈ N ∧ y = ⟨x.a, rvN P x.b, rvN P x.c⟩ ∧ VisN P x.b ∧ VisN P x.c ∧ (0 ≤ x.a ∧ x.a < n ∧ x.a < lvlN n N x.b ∧ x.a < lvlN n N x.c) := fun k y hy => by
    obtain ⟨r, hr⟩ := h.from' k (List.getElem?_eq_some_iff.1 hy).1
    obtain ⟨_, x, j, hx, hj, hd, vb, vc, _⟩ := h.nodes hF (show P r > 0 by omega)
    have : k = j := by omega
    subst this
    rw [hy] at hd
    simp only [Option.some.injEq] at hd
    exact ⟨x, List.mem_of_getElem? hx, hd, vb, vc, hS.ord _ _ hx⟩
  refine ⟨⟨h.nodup, h.frst, fun y hy => ?_⟩, fun k y hy => ?_⟩
  · obtain ⟨k, hk⟩ := List.getElem?_of_mem hy
    obtain ⟨x, hx, rfl, vb, vc, _⟩ := H k y hk
    exact fun e => hS.redu.diff x hx (h.rinj hS.redu.nodup hF vb vc e)
  · obtain ⟨x, hx, rfl, vb, vc, o1, o2, o3, o4⟩ := H k y hy
    simp only
    rw [wk_lvl h hF vb, wk_lvl h hF vc]
    exact ⟨o1, o2, o3, o4⟩
theorem can_snd {n : Int} {N : List I3} (hS : Snd n N) {root : Int} (hr : RefB root N.length) : Snd n (canN mkN N root).1 ∧ RefB (canN mkN N root).2 (canN mkN N root).1.length ∧ lvlN n (canN mkN N root).1 (canN mkN N root).2 = lvlN n N root := by
  obtain ⟨P, h1, h2, h3⟩ := can_walk hS.redu hr
  refine ⟨wk_snd h1 hS, ?_, by rw [h2]; exact wk_lvl h1 hS.redu.frst h3⟩
  rw [h2, rvN]
  split
  · exact ⟨hr.1, by omega⟩
  · obtain ⟨_, x, k, _, hk, hd, _⟩ := h1.nodes hS.redu.frst (h3.2 (by omega))
    have := (List.getElem?_eq_some_iff.1 hd).1
    exact ⟨by omega, by omega⟩
/-- different numbers below n are at most n -/
theorem nodup_lt : ∀ (n : Nat) (S : List Nat), S.Nodup → (∀ s ∈ S, s < n) → S.length ≤ n := by
  intro n
  induction n with
  | zero =>
    intro S _ h
    cases S with
    | nil => exact Nat.le_refl _
    | cons x r => have := h x (List.mem_cons_self ..); omega
  | succ n ih =>
    intro S hn h
    by_cases hm : n ∈ S
    · have h1 := ih (S.erase n) (hn.erase n) fun s hs => by
        have h2 := (List.Nodup.mem_erase_iff hn).1 hs
        have := h s h2.2
        have := h2.1
        omega
      rw [List.length_erase_of_mem hm] at h1
      omega
    · have := ih S hn fun s hs => by
        have := h s hs
        have : s ≠ n := fun e => hm (e ▸ hs)
        omega
      omega
/-- no more canonical nodes than nodes -/
theorem can_length {N : List I3} (hR : Redu N) {root : Int} (hr : RefB root N.length) : (canN mkN N root).1.length ≤ N.length := by
  obtain ⟨P, h1, h2, h3⟩ := can_walk hR hr
  generalize (canN mkN N root).1 = D at *
  -- each new node comes from another old one
  have hch : ∀ k, k < D.length → ∃ r : Nat, P r = (k : Int) + 2 ∧ 2 ≤ r ∧ r - 2 < N.length := fun k hk => by
    obtain ⟨r, hr⟩ := h1.from' k hk
    obtain ⟨g, x, _, hx, _⟩ := h1.nodes hR.frst (show P r > 0 by omega)
    exact ⟨r, hr, g, (List.getElem?_eq_some_iff.1 hx).1⟩
  have key : ∀ m, m ≤ D.length → ∃ S : List Nat, S.length = m ∧ S.Nodup ∧ ∀ s ∈ S, s < N.length ∧ ∃ k, k < m ∧ P (s + 2) = (k : Int) + 2 := by
    intro m
    induction m with
    | zero => intro _; exact ⟨[], rfl, List.nodup_nil, fun s h => by cases h⟩
    | succ m ih =>
      intro hm
      obtain ⟨S, h1, h2, h3⟩ := ih (by omega)
      obtain ⟨r, hr, g, hl⟩ := hch m (by omega)
      refine ⟨(r - 2) :: S, by simp [h1], ?_, fun s hs => ?_⟩
      · rw [List.nodup_cons]
        refine ⟨fun hin => ?_, h2⟩
        obtain ⟨_, k, hk, hP⟩ := h3 _ hin
        rw [show r - 2 + 2 = r by omega, hr] at hP
        omega
      · rcases List.mem_cons.1 hs with rfl | hs
        · exact ⟨hl, m, by omega, by rw [show r - 2 + 2 = r by omega]; exact hr⟩
        · obtain ⟨g1, k, g2, g3⟩ := h3 s hs
          exact ⟨g1, k, by omega, g3⟩
  obtain ⟨S, s1, s2, s3⟩ := key D.length (Nat.le_refl _)
  have hsub := nodup_lt N.length S s2 fun s hs => (s3 s hs).1
  rw [s1] at hsub
  exact hsub
end Go.Proofs.YtkaikbaagajckaaGreat
