/- The program's parser of expressions, walked. -/
import Derived.Test.YtjneodmohkpckaaDoorEe
import Derived.Test.YtjneodmohkpckaaDoorAt
namespace Go.Proofs.YtjneodmohkpckaaDoor
open Go.RowKit
set_option linter.unusedVariables false
set_option linter.unusedSimpArgs false
attribute [local go_sem ↓] Go.wp_at_zero Go.wp_at_succ
abbrev OwnTm := OwnF 3 TM.enc (fun _ => True) 66
theorem Tryd.infoTerm : (Tryd.prog.info? 66).map (fun i => (i.zero, i.size, i.bytes)) = some (some (.agg #[.int .i64 0, .string ⟨#[]⟩, .int .i64 0]), 3, 32) := by kernel_rfl
theorem TM.one (y : TM) : ∀ u ∈ y.enc, u.oneCell' = true := fun u hu => by
  simp only [TM.enc, List.mem_cons, List.not_mem_nil, or_false] at hu
  rcases hu with rfl | rfl | rfl <;> rfl
theorem OwnTm.nil (w : World) (base : Nat) : OwnTm w base none 0 0 [] := ⟨World.ownsRow_nil w _ _ _, (fun _ h => by cases h), rfl, fun _ => rfl⟩
theorem OwnTm.lit (w : World) (x : TM) (cs : Array Value) (hc : cs = x.enc.toArray) : OwnTm (w.alloc (.cells cs 66)) w.heap.size (some ⟨w.heap.size, 0, none⟩) 1 1 [x] :=
  OwnF.lit w [x] (Nat.le_refl _) rfl (by decide) (fun _ => rfl) (fun _ _ => trivial) (by rw [hc]; simp)
/-- what a function of the parser leaves -/
def PRt (o : Option (List TM × List TR)) (p m : Nat) (w : World) (e : Ending) (w' : World) : Prop := ∃ (a : Option Addr) (n c : Nat) (ts : List TM) (bad : Bool) (L : List TR), e = .returned (.slice a n c) ∧ OwnTm w' w.heap.size a n c ts ∧ PSt w' p bad L ∧ Only p (p + 1) w w' ∧ n + 2 * L.length ≤ 2 * m + 1 ∧ o = (if bad = true then none else some (ts, L))
/-- the four functions at a number of steps -/
structure PAll (f : Nat) : Prop where
  fc : ∀ (w : World) (p : Nat) (L : List TR), PSt w p false L → EV w p → (∀ x ∈ L, TkB x) → 8 * L.length + 1 ≤ f → Calls Tryd.prog 85 #[.pointer (some ⟨p, 0, none⟩)] w (PRt (prs f .fc L) p L.length w)
  pt : ∀ (w : World) (p : Nat) (L : List TR), PSt w p false L → EV w p → (∀ x ∈ L, TkB x) → 8 * L.length + 3 ≤ f → Calls Tryd.prog 69 #[.pointer (some ⟨p, 0, none⟩)] w (PRt (prs f .pt L) p L.length w)
  ex : ∀ (w : World) (p : Nat) (L : List TR), PSt w p false L → EV w p → (∀ x ∈ L, TkB x) → 8 * L.length + 5 ≤ f → Calls Tryd.prog 42 #[.pointer (some ⟨p, 0, none⟩)] w (PRt (prs f .ex L) p L.length w)
  bl : ∀ (w : World) (p : Nat) (L : List TR) (k : Int), PSt w p false L → EV w p → (∀ x ∈ L, TkB x) → 8 * L.length + 6 ≤ f → 7 ≤ k → k ≤ 12 → Calls Tryd.prog 105 #[.pointer (some ⟨p, 0, none⟩), .int .i64 k] w (PRt (prs f (.bl k) L) p L.length w)
theorem PSt.bd {w : World} {p : Nat} {bad : Bool} {L : List TR} (h : PSt w p bad L) : ∃ ta tn tc, w.cell? ⟨p, 0, none⟩ = some (.slice ta tn tc) ∧ w.cell? ⟨p, 1, none⟩ = some (.bool bad) ∧ p < w.heap.size ∧ tn = L.length := by
  obtain ⟨ta, tn, tc, h⟩ := h
  exact ⟨ta, tn, tc, h.x.cell 0, h.x.cell 1, h.x.lt, h.t.len.symm⟩
theorem impl_factor_bad {p : Nat} {L : List TR} {w : World} (h : PSt w p true L) : Calls Tryd.prog 85 #[.pointer (some ⟨p, 0, none⟩)] w fun e w' => e = .returned (.slice none 0 0) ∧ w = w' := by
  obtain ⟨ta, tn, tc, x0, x1, xl, hl⟩ := h.bd
  clear h hl
  go_enter Tryd.func85, Tryd.ntmps85
  go_wp2
  go_ret
  exact ⟨rfl, rfl⟩
theorem impl_part_bad {p : Nat} {L : List TR} {w : World} (h : PSt w p true L) : Calls Tryd.prog 69 #[.pointer (some ⟨p, 0, none⟩)] w fun e w' => e = .returned (.slice none 0 0) ∧ w = w' := by
  obtain ⟨ta, tn, tc, x0, x1, xl, hl⟩ := h.bd
  have H := Lib.hid (impl_factor_bad h)
  clear h hl
  go_enter Tryd.func69, Tryd.ntmps69
  go_wp2_with fail
  refine Calls.mono (H.out) ?_
  rintro e _ ⟨rfl, rfl⟩
  go_wp2_with fail
  go_loop [3] (fun s3 => s3 = .slice none 0 0) (fun s3 => 0)
  case atStart => rfl
  case round =>
    obtain rfl := hrel
    go_wp2
    go_ret
    exact ⟨rfl, rfl⟩
theorem impl_expression_bad {p : Nat} {L : List TR} {w : World} (h : PSt w p true L) : Calls Tryd.prog 42 #[.pointer (some ⟨p, 0, none⟩)] w fun e w' => e = .returned (.slice none 0 0) ∧ w = w' := by
  obtain ⟨ta, tn, tc, x0, x1, xl, hl⟩ := h.bd
  have H := Lib.hid (impl_part_bad h)
  clear h hl
  go_enter Tryd.func42, Tryd.ntmps42
  go_wp2_with fail
  refine Calls.mono (H.out) ?_
  rintro e _ ⟨rfl, rfl⟩
  go_wp2_with fail
  go_loop [3] (fun s3 => s3 = .slice none 0 0) (fun s3 => 0)
  case atStart => rfl
  case round =>
    obtain rfl := hrel
    go_wp2
    go_ret
    exact ⟨rfl, rfl⟩
end Go.Proofs.YtjneodmohkpckaaDoor
