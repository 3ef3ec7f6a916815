/- A region that draws its order: some steps in every order, then one proof for all of them. -/
import Derived.Test.YtjneodmohkpckaaDoorBase
import Derived.Deep.RegionHeld
namespace Go.Proofs.YtjneodmohkpckaaDoor
open Go.RowKit
set_option linter.unusedVariables false
set_option linter.unusedSimpArgs false
section
variable {P : Program} {ops : Array Oper} {Q : Exit → Act → World → Prop} {md : Region.Mode} {S : World → Prop}
/-- whatever order is picked for the next k steps: S holds behind each, and R behind the last -/
def wpK (P : Program) (md : Region.Mode) (ops : Array Oper) (Q : Exit → Act → World → Prop) (S : World → Prop) (R : Array Bool → Act → World → Prop) : Nat → Array Bool → Act → World → Prop
  | 0, listed, a, w => R listed a w
  | k + 1, listed, a, w => Region.ready md ops listed ≠ [] ∧ ∀ i ∈ Region.ready md ops listed, wpOp P ops Q i (fun a' w' => S w' ∧ wpK P md ops Q S R k (listed.setIfInBounds i true) a' w') a w
theorem wpAnyH_of_K {R : Array Bool → Act → World → Prop} {fuel : Nat} (h : ∀ l a w, S w → R l a w → wpAnyH P md ops Q S fuel l a w) : ∀ (k : Nat) (listed : Array Bool) (a : Act) (w : World), S w → wpK P md ops Q S R k listed a w → wpAnyH P md ops Q S (fuel + k) listed a w
  | 0, listed, a, w, hS, hk => h _ _ _ hS hk
  | k + 1, listed, a, w, hS, hk => ⟨fun h0 => absurd h0 hk.1, fun i hi => wpOp_mono (fun a' w' h' => ⟨h'.1, wpAnyH_of_K h k _ a' w' h'.1 h'.2⟩) (hk.2 i hi)⟩
def AllReadyK (P : Program) (md : Region.Mode) (ops : Array Oper) (Q : Exit → Act → World → Prop) (S : World → Prop) (R : Array Bool → Act → World → Prop) (k : Nat) (listed : Array Bool) (a : Act) (w : World) (rs : List Nat) : Prop :=
  ∀ i ∈ rs, wpOp P ops Q i (fun a' w' => S w' ∧ wpK P md ops Q S R k (listed.setIfInBounds i true) a' w') a w
theorem AllReadyK.nil {R : Array Bool → Act → World → Prop} {k : Nat} {listed : Array Bool} {a : Act} {w : World} : AllReadyK P md ops Q S R k listed a w [] := fun _ h => by cases h
theorem AllReadyK.cons {R : Array Bool → Act → World → Prop} {k : Nat} {listed : Array Bool} {a : Act} {w : World} {i : Nat} {o : Oper} {rs : List Nat} (ho : ops[i]? = some o)
    (h : ∀ K' : Act → World → Prop, Shut (∀ a w, S w → (S w → wpK P md ops Q S R k (listed.setIfInBounds i true) a w) → K' a w) → if Region.wanted o (yielded ops a.tmps) = true then Oper.wp P o a w K' Q else K' (a.put o.dst undef) w)
    (hs : AllReadyK P md ops Q S R k listed a w rs) : AllReadyK P md ops Q S R k listed a w (i :: rs) := fun j hj => by
  rcases List.mem_cons.1 hj with rfl | hj
  · exact wpOp_step ho (fun K' hK => h K' (fun a w hS hW => hK a w ⟨hS, hW hS⟩))
  · exact hs j hj
theorem wpK_ready {R : Array Bool → Act → World → Prop} {k : Nat} {rs : List Nat} {listed : Array Bool} {a : Act} {w : World} (hr : Region.ready md ops listed = rs) (hne : rs ≠ [])
    (h : AllReadyK P md ops Q S R k listed a w rs) : wpK P md ops Q S R (k + 1) listed a w := ⟨fun h0 => hne (hr ▸ h0), hr ▸ h⟩
/-- a call that yields a slice and a made slice of one element, in both orders -/
theorem wpAnyH_two {F : Option Addr → Nat → Nat → World → Prop} {i j n fuel : Nat} {di dj : Option Nat} {listed : Array Bool} {a : Act} {w : World} (hS : S w)
    (hk : wpK P md ops Q S (fun l a' wn => ∃ a3 c3 gx, l = (listed.setIfInBounds i true).setIfInBounds j true ∧ a' = (a.put di (.slice a3 n c3)).put dj (.slice (some ⟨gx, 0, none⟩) 1 1) ∧ F a3 c3 gx wn) 2 listed a w)
    (h : ∀ a3 c3 gx wn, S wn → F a3 c3 gx wn → wpAnyH P md ops Q S fuel ((listed.setIfInBounds i true).setIfInBounds j true) ((a.put di (.slice a3 n c3)).put dj (.slice (some ⟨gx, 0, none⟩) 1 1)) wn) : wpAnyH P md ops Q S (fuel + 2) listed a w :=
  wpAnyH_of_K (fun l a' wn hSn hR => by
    obtain ⟨a3, c3, gx, rfl, rfl, hF⟩ := hR
    exact h a3 c3 gx wn hSn hF) 2 listed a w hS hk
/-- .. and a call that yields v before the first -/
theorem wpAnyH_three {F : Option Addr → Nat → Nat → World → Prop} {i0 i j n fuel : Nat} {d0 di dj : Option Nat} {v : Value} {listed : Array Bool} {a : Act} {w : World} (hS : S w)
    (hk : wpK P md ops Q S (fun l a' wn => ∃ a3 c3 gx, l = ((listed.setIfInBounds i0 true).setIfInBounds i true).setIfInBounds j true ∧ a' = ((a.put d0 v).put di (.slice a3 n c3)).put dj (.slice (some ⟨gx, 0, none⟩) 1 1) ∧ F a3 c3 gx wn) 3 listed a w)
    (h : ∀ a3 c3 gx wn, S wn → F a3 c3 gx wn → wpAnyH P md ops Q S fuel (((listed.setIfInBounds i0 true).setIfInBounds i true).setIfInBounds j true) (((a.put d0 v).put di (.slice a3 n c3)).put dj (.slice (some ⟨gx, 0, none⟩) 1 1)) wn) : wpAnyH P md ops Q S (fuel + 3) listed a w :=
  wpAnyH_of_K (fun l a' wn hSn hR => by
    obtain ⟨a3, c3, gx, rfl, rfl, hF⟩ := hR
    exact h a3 c3 gx wn hSn hF) 3 listed a w hS hk
end
end Go.Proofs.YtjneodmohkpckaaDoor
