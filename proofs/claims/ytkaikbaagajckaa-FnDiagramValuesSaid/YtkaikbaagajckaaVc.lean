/- Decision diagrams: the values of references: plain laws. -/
import Derived.Test.YtkaikbaagajckaaVb
namespace Go.Proofs.Ytkaikbaagajckaa
open Go.RowKit
set_option linter.unusedVariables false
set_option linter.unusedSimpArgs false
/-- the value of a reference -/
def evF (L : List I3) (β : Nat → Bool) : Nat → Int → Bool
  | 0, r => decide (r = 1)
  | f + 1, r => if r < 2 then decide (r = 1) else match L[(r - 2).toNat]? with
    | none => false
    | some x => evF L β f (if β x.a.toNat = true then x.c else x.b)
def evR (L : List I3) (β : Nat → Bool) (r : Int) : Bool := evF L β r.toNat r
theorem evF_low {L : List I3} {β : Nat → Bool} (f : Nat) {r : Int} (h : r < 2) : evF L β f r = decide (r = 1) := by
  cases f with
  | zero => rfl
  | succ f => rw [evF, if_pos h]
theorem evF_fuel {L : List I3} (hF : Frst L) {β : Nat → Bool} : ∀ (f g : Nat) (r : Int), r.toNat ≤ f → r.toNat ≤ g → evF L β f r = evF L β g r := by
  intro f
  induction f with
  | zero => intro g r hf hg; rw [evF_low _ (by omega), evF_low _ (by omega)]
  | succ f ih =>
    intro g r hf hg
    by_cases hr : r < 2
    · rw [evF_low _ hr, evF_low _ hr]
    · obtain ⟨g, rfl⟩ : ∃ g', g = g' + 1 := ⟨g - 1, by omega⟩
      rw [evF, evF, if_neg hr, if_neg hr]
      cases hx : L[(r - 2).toNat]? with
      | none => rfl
      | some x =>
        have h3 := hF.low _ _ hx
        have h4 := hF.high _ _ hx
        unfold RefB at h3 h4
        simp only
        split
        · exact ih g x.c (by omega) (by omega)
        · exact ih g x.b (by omega) (by omega)
theorem ev_low {L : List I3} {β : Nat → Bool} {r : Int} (h : r < 2) : evR L β r = decide (r = 1) := evF_low _ h
theorem ev_node {L : List I3} (hF : Frst L) {β : Nat → Bool} {k : Nat} {x : I3} (hx : L[k]? = some x) : evR L β ((k : Int) + 2) = evR L β (if β x.a.toNat = true then x.c else x.b) := by
  have h3 := hF.low _ _ hx
  have h4 := hF.high _ _ hx
  unfold RefB at h3 h4
  rw [evR, show ((k : Int) + 2).toNat = (k + 1) + 1 by omega, evF, if_neg (by omega), show ((k : Int) + 2 - 2).toNat = k by omega, hx]
  simp only
  split
  · exact evF_fuel hF _ _ _ (by omega) (Nat.le_refl _)
  · exact evF_fuel hF _ _ _ (by omega) (Nat.le_refl _)
/-- more nodes behind change nothing -/
theorem evF_app {L t : List I3} (hF : Frst L) {β : Nat → Bool} : ∀ (f : Nat) (r : Int), RefB r L.length → evF (L ++ t) β f r = evF L β f r := by
  intro f
  induction f with
  | zero => intro r _; rfl
  | succ f ih =>
    intro r hr
    rw [evF, evF]
    split
    · rfl
    · rename_i h2
      have hlt : (r - 2).toNat < L.length := by have := hr.2; have := hr.1; omega
      rw [List.getElem?_append_left hlt]
      have hx := List.getElem?_eq_getElem hlt
      rw [hx]
      simp only
      have h3 := (hF.low _ _ hx).mono (Nat.le_of_lt hlt)
      have h4 := (hF.high _ _ hx).mono (Nat.le_of_lt hlt)
      split
      · exact ih _ h4
      · exact ih _ h3
theorem ev_app {L t : List I3} (hF : Frst L) {β : Nat → Bool} {r : Int} (hr : RefB r L.length) : evR (L ++ t) β r = evR L β r := evF_app hF _ _ hr
theorem ev_mk {L : List I3} (hF : Frst L) {β : Nat → Bool} {i lo hi : Int} (hl : RefB lo L.length) (hh : RefB hi L.length) : evR (mkN L i lo hi).1 β (mkN L i lo hi).2 = if β i.toNat = true then evR L β hi else evR L β lo := by
  by_cases he : lo = hi
  · rw [mkN_eq he, he]; simp
  · obtain ⟨k, hk, hx⟩ := mkN_is L (i := i) he
    obtain ⟨hF2, hr2⟩ := hF.add (i := i) hl hh
    rw [hk, ev_node hF2 hx]
    obtain ⟨t, ht, _⟩ := mkN_pre L i lo hi
    rw [ht]
    simp only
    split
    · exact ev_app hF hh
    · exact ev_app hF hl
theorem ev_keep {L : List I3} (hF : Frst L) {β : Nat → Bool} {i lo hi r : Int} (hr : RefB r L.length) : evR (mkN L i lo hi).1 β r = evR L β r := by
  obtain ⟨t, ht, _⟩ := mkN_pre L i lo hi
  rw [ht]; exact ev_app hF hr
/-- the new references of a walk have the old values -/
theorem wk_ev {N D : List I3} {P : Nms} (h : WkI N D P) (hF : Frst N) {β : Nat → Bool} : ∀ (m : Nat) (r : Int), r.toNat ≤ m → VisN P r → evR D β (rvN P r) = evR N β r := by
  intro m
  induction m with
  | zero => intro r hm hv; rw [rvN, if_pos (by omega), ev_low (by omega), ev_low (by omega)]
  | succ m ih =>
    intro r hm hv
    by_cases h2 : r < 2
    · rw [rvN, if_pos h2, ev_low h2, ev_low h2]
    · obtain ⟨_, x, k, hx, hk, hd, vb, vc, lb, lc⟩ := h.nodes hF (hv.2 (by omega))
      rw [rvN, if_neg h2, hk, ev_node h.frst hd, show r = ((r.toNat - 2 : Nat) : Int) + 2 by omega, ev_node hF hx]
      simp only
      split
      · exact ih x.c (by omega) vc
      · exact ih x.b (by omega) vb
theorem can_walk {N : List I3} (h : Redu N) {root : Int} (hr : RefB root N.length) : ∃ P, WkI N (canN mkN N root).1 P ∧ (canN mkN N root).2 = rvN P root ∧ VisN P root := by
  obtain ⟨h1, R⟩ := wlk_same h.nodup h.frst h.diff root.toNat root.toNat [] (fun _ => 0) (Nat.le_refl _) (by unfold RefB at hr; omega) (WkI.start N)
  refine ⟨(wlkN appN N root.toNat ([], fun _ => 0) root.toNat).2.1, ?_, ?_, hr.1, fun h2 => R.vis (by omega)⟩
  · rw [canN, h1]; exact R.inv
  · have := R.ref
    rw [canN, h1, this]
    congr 1
    have := hr.1
    omega
theorem can_ev {N : List I3} (h : Redu N) {root : Int} (hr : RefB root N.length) (β : Nat → Bool) : evR (canN mkN N root).1 β (canN mkN N root).2 = evR N β root := by
  obtain ⟨P, h1, h2, h3⟩ := can_walk h hr
  rw [h2]
  exact wk_ev h1 h.frst _ _ (Nat.le_refl _) h3
/-- each node's input comes before those below it -/
def OrdN (n : Int) (L : List I3) : Prop := ∀ (i : Nat) (x : I3), L[i]? = some x → 0 ≤ x.a ∧ x.a < n ∧ x.a < lvlN n L x.b ∧ x.a < lvlN n L x.c
theorem lvl_node {n : Int} {L : List I3} {k : Nat} {x : I3} (hx : L[k]? = some x) : lvlN n L ((k : Int) + 2) = x.a := by
  rw [lvlN, if_neg (by omega), show ((k : Int) + 2 - 2).toNat = k by omega, List.getD_eq_getElem?_getD, hx]; rfl
theorem lvl_low {n : Int} {L : List I3} {r : Int} (h : r < 2) : lvlN n L r = n := if_pos h
theorem lvl_app {n : Int} {L t : List I3} {r : Int} (hr : RefB r L.length) : lvlN n (L ++ t) r = lvlN n L r := by
  rw [lvlN, lvlN]
  split
  · rfl
  · have := hr.1
    have := hr.2
    rw [List.getD_eq_getElem?_getD, List.getD_eq_getElem?_getD, List.getElem?_append_left (by omega)]
theorem OrdN.nil (n : Int) : OrdN n [] := fun i x h => by simp at h
theorem OrdN.add {n : Int} {L : List I3} (h : OrdN n L) (hF : Frst L) {i lo hi : Int} (hl : RefB lo L.length) (hh : RefB hi L.length) (h0 : 0 ≤ i) (hn : i < n) (h1 : i < lvlN n L lo) (h2 : i < lvlN n L hi) : OrdN n (mkN L i lo hi).1 ∧ i ≤ lvlN n (mkN L i lo hi).1 (mkN L i lo hi).2 := by
  unfold mkN
  split
  · exact ⟨h, by simp only; omega⟩
  · split
    · rename_i k hk
      refine ⟨h, ?_⟩
      simp only
      rw [lvl_node (posN_some hk).1]
      exact Int.le_refl _
    · refine ⟨fun j x hj => ?_, ?_⟩
      · simp only at hj ⊢
        by_cases hjl : j < L.length
        · rw [List.getElem?_append_left hjl] at hj
          have h3 := (hF.low _ _ hj).mono (Nat.le_of_lt hjl)
          have h4 := (hF.high _ _ hj).mono (Nat.le_of_lt hjl)
          rw [lvl_app h3, lvl_app h4]
          exact h j x hj
        · have hj2 : j = L.length := by
            have := (List.getElem?_eq_some_iff.1 hj).1
            simp at this; omega
          subst hj2
          simp at hj
          subst hj
          simp only
          rw [lvl_app hl, lvl_app hh]
          exact ⟨h0, hn, h1, h2⟩
      · simp only
        rw [lvl_node (x := ⟨i, lo, hi⟩) (by simp)]
        exact Int.le_refl _
/-- inputs before the reference's own do not matter -/
theorem ev_indep {n : Int} {L : List I3} (hF : Frst L) (hO : OrdN n L) {β γ : Nat → Bool} : ∀ (m : Nat) (r : Int), r.toNat ≤ m → RefB r L.length → (∀ i : Nat, lvlN n L r ≤ (i : Int) → (i : Int) < n → β i = γ i) → evR L β r = evR L γ r := by
  intro m
  induction m with
  | zero => intro r hm _ _; rw [ev_low (by omega), ev_low (by omega)]
  | succ m ih =>
    intro r hm hr hb
    by_cases h2 : r < 2
    · rw [ev_low h2, ev_low h2]
    · obtain ⟨k, rfl⟩ : ∃ k : Nat, r = (k : Int) + 2 := ⟨(r - 2).toNat, by omega⟩
      have hlt : k < L.length := by have := hr.2; omega
      obtain ⟨x, hx⟩ : ∃ x, L[k]? = some x := ⟨_, List.getElem?_eq_getElem hlt⟩
      obtain ⟨o1, o2, o3, o4⟩ := hO _ _ hx
      have h3 := hF.low _ _ hx
      have h4 := hF.high _ _ hx
      rw [lvl_node hx] at hb
      have hba : β x.a.toNat = γ x.a.toNat := hb _ (by omega) (by omega)
      rw [ev_node hF hx, ev_node hF hx, hba]
      have h3' := h3.2
      have h4' := h4.2
      split
      · exact ih _ (by omega) (h4.mono (Nat.le_of_lt hlt)) (fun i hi hn => hb i (by omega) hn)
      · exact ih _ (by omega) (h3.mono (Nat.le_of_lt hlt)) (fun i hi hn => hb i (by omega) hn)
theorem lvl_le {n : Int} {L : List I3} (hO : OrdN n L) {r : Int} (hr : RefB r L.length) : lvlN n L r ≤ n := by
  by_cases h2 : r < 2
  · rw [lvl_low h2]; exact Int.le_refl _
  · obtain ⟨k, rfl⟩ : ∃ k : Nat, r = (k : Int) + 2 := ⟨(r - 2).toNat, by omega⟩
    have hlt : k < L.length := by have := hr.2; omega
    obtain ⟨x, hx⟩ : ∃ x, L[k]? = some x := ⟨_, List.getElem?_eq_getElem hlt⟩
    rw [lvl_node hx]
    have := (hO _ _ hx).2.1
    omega
/-- an assignment with one input fixed -/
def fixB (β : Nat → Bool) (i : Nat) (b : Bool) : Nat → Bool := fun j => if j = i then b else β j
theorem ev_fix {n : Int} {L : List I3} (hF : Frst L) (hO : OrdN n L) {β : Nat → Bool} {r : Int} (hr : RefB r L.length) {i : Nat} {b : Bool} (hi : (i : Int) < lvlN n L r) : evR L (fixB β i b) r = evR L β r :=
  ev_indep hF hO _ r (Nat.le_refl _) hr fun j hj _ => by
    rw [fixB, if_neg (by omega)]
/-- equal values, equal references: nodes are different and so are their branches -/
theorem ev_inj {n : Int} {L : List I3} (hR : Redu L) (hO : OrdN n L) : ∀ (m : Nat) (r s : Int), r.toNat + s.toNat ≤ m → RefB r L.length → RefB s L.length → (∀ β, evR L β r = evR L β s) → r = s := by
  have hF := hR.frst
  intro m
  induction m with
  | zero =>
    intro r s hm hr hs _
    have := hr.1
    have := hs.1
    omega
  | succ m ih =>
    intro r s hm hr hs he
    -- a node whose input comes first differs from what does not look at it
    have key : ∀ (k : Nat) (x : I3) (q : Int), L[k]? = some x → RefB q L.length → x.a < lvlN n L q → (k + 2 + q.toNat ≤ m + 1) → (∀ β, evR L β ((k : Int) + 2) = evR L β q) → False := by
      intro k x q hx hq hlv hsum he
      obtain ⟨o1, o2, o3, o4⟩ := hO _ _ hx
      have hkl := (List.getElem?_eq_some_iff.1 hx).1
      have h3 := hF.low _ _ hx
      have h4 := hF.high _ _ hx
      have h3' := h3.2
      have h4' := h4.2
      have h3m := h3.mono (Nat.le_of_lt hkl)
      have h4m := h4.mono (Nat.le_of_lt hkl)
      have eb : x.b = q := ih x.b q (by omega) h3m hq fun β => by
        have h := he (fixB β x.a.toNat false)
        rw [ev_node hF hx, if_neg (by rw [fixB, if_pos rfl]; decide), ev_fix hF hO h3m (by omega), ev_fix hF hO hq (by omega)] at h
        exact h
      have ec : x.c = q := ih x.c q (by omega) h4m hq fun β => by
        have h := he (fixB β x.a.toNat true)
        rw [ev_node hF hx, if_pos (by rw [fixB, if_pos rfl]), ev_fix hF hO h4m (by omega), ev_fix hF hO hq (by omega)] at h
        exact h
      exact hR.diff x (List.mem_of_getElem? hx) (eb.trans ec.symm)
    by_cases r2 : r < 2
    · by_cases s2 : s < 2
      · have h := he (fun _ => false)
        rw [ev_low r2, ev_low s2] at h
        have h1 := hr.1
        have h2 := hs.1
        by_cases e : r = 1
        · rw [decide_eq_true e] at h
          have := of_decide_eq_true h.symm
          omega
        · rw [decide_eq_false e] at h
          have := of_decide_eq_false h.symm
          omega
      · obtain ⟨k, rfl⟩ : ∃ k : Nat, s = (k : Int) + 2 := ⟨(s - 2).toNat, by omega⟩
        have hlt : k < L.length := by have := hs.2; omega
        obtain ⟨x, hx⟩ : ∃ x, L[k]? = some x := ⟨_, List.getElem?_eq_getElem hlt⟩
        exact (key k x r hx hr (by rw [lvl_low r2]; exact (hO _ _ hx).2.1) (by omega) (fun β => (he β).symm)).elim
    · obtain ⟨k, rfl⟩ : ∃ k : Nat, r = (k : Int) + 2 := ⟨(r - 2).toNat, by omega⟩
      have hlt : k < L.length := by have := hr.2; omega
      obtain ⟨x, hx⟩ : ∃ x, L[k]? = some x := ⟨_, List.getElem?_eq_getElem hlt⟩
      obtain ⟨o1, o2, o3, o4⟩ := hO _ _ hx
      by_cases s2 : s < 2
      · exact (key k x s hx hs (by rw [lvl_low s2]; exact o2) (by omega) he).elim
      · obtain ⟨j, rfl⟩ : ∃ j : Nat, s = (j : Int) + 2 := ⟨(s - 2).toNat, by omega⟩
        have hlt2 : j < L.length := by have := hs.2; omega
        obtain ⟨y, hy⟩ : ∃ y, L[j]? = some y := ⟨_, List.getElem?_eq_getElem hlt2⟩
        obtain ⟨p1, p2, p3, p4⟩ := hO _ _ hy
        rcases Int.lt_trichotomy x.a y.a with e | e | e
        · exact (key k x _ hx hs (by rw [lvl_node hy]; exact e) (by omega) he).elim
        · have g3 := hF.low _ _ hx
          have g4 := hF.high _ _ hx
          have f3 := hF.low _ _ hy
          have f4 := hF.high _ _ hy
          have g3' := g3.2
          have g4' := g4.2
          have f3' := f3.2
          have f4' := f4.2
          have g3m := g3.mono (Nat.le_of_lt hlt)
          have g4m := g4.mono (Nat.le_of_lt hlt)
          have f3m := f3.mono (Nat.le_of_lt hlt2)
          have f4m := f4.mono (Nat.le_of_lt hlt2)
          have eb : x.b = y.b := ih x.b y.b (by omega) g3m f3m fun β => by
            have h := he (fixB β x.a.toNat false)
            rw [ev_node hF hx, ev_node hF hy, ← e, if_neg (by rw [fixB, if_pos rfl]; decide), if_neg (by rw [fixB, if_pos rfl]; decide), ev_fix hF hO g3m (by omega), ev_fix hF hO f3m (by omega)] at h
            exact h
          have ec : x.c = y.c := ih x.c y.c (by omega) g4m f4m fun β => by
            have h := he (fixB β x.a.toNat true)
            rw [ev_node hF hx, ev_node hF hy, ← e, if_pos (by rw [fixB, if_pos rfl]), if_pos (by rw [fixB, if_pos rfl]), ev_fix hF hO g4m (by omega), ev_fix hF hO f4m (by omega)] at h
            exact h
          have exy : x = y := by rw [I3.eta x, I3.eta y, e, eb, ec]
          subst exy
          rw [nodup_get hR.nodup hx hy]
        · exact (key j y _ hy hr (by rw [lvl_node hx]; exact e) (by omega) (fun β => (he β).symm)).elim
end Go.Proofs.Ytkaikbaagajckaa
