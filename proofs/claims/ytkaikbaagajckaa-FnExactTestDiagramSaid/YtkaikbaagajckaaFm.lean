/- Models that came in. -/
import Derived.Test.YtkaikbaagajckaaFr
import Derived.Test.YtkaikbaagajckaaLd
import Derived.Test.YtkaikbaagajckaaJe
namespace Go.Proofs.Ytkaikbaagajckaa
open Go.ChangeShapes Go.WideShapes Go.ChangeAt Go.RowKit Go.Joins
set_option linter.unusedVariables false
set_option linter.unusedSimpArgs false
instance : Inhabited (RM × RuD) := ⟨(⟨⟨#[]⟩, none, 0, 0, none, 0, 0⟩, ⟨⟨#[]⟩, [], []⟩)⟩
section
variable {H : Type} {enc : TypeId × Value → H} {P : Program} {W : World} {base : Nat} {held : Bool}
theorem read_Rule {e te ae : TypeId} {f0 f1 f2 : Field} (he : P.underlying e = some (.struct #[f0, f1, f2])) (o0 : f0.offset = 0) (o1 : f1.offset = 1) (o2 : f2.offset = 2) (c0 : P.cellsOf f0.type = 1) (c1 : P.cellsOf f1.type = 1) (c2 : P.cellsOf f2.type = 1)
    (t0 : P.underlying f0.type = some .string) (t1 : P.underlying f1.type = some (.slice te)) (t2 : P.underlying f2.type = some (.slice ae)) (k1 : P.cellsOf te = 3) (k2 : P.cellsOf ae = 2)
    (r1 : ∀ m cs x, cs.length = 3 → DataW.trod enc P W base (fun _ => true) held m te cs = some x → ∃ y : I2b, cs = y.enc ∧ y.ok) (r2 : ∀ m cs x, cs.length = 2 → DataW.trod enc P W base (fun _ => true) held m ae cs = some x → ∃ y : I2, cs = y.enc ∧ y.ok)
    (m : Nat) (cs : List Value) (x : DataW H × List MemPlace) (hl : cs.length = 3) (h : DataW.trod enc P W base (fun _ => true) held m e cs = some x) : ∃ y : RM × RuD, cs = encR y ∧ RuX W y := by
  obtain ⟨y0, y1, y2, n, _, _, h0, h1, h2⟩ := Deep.trod_struct3 he h
  match cs, hl with
  | [v0, v1, v2], _ =>
    rw [o0, c0] at h0; rw [o1, c1] at h1; rw [o2, c2] at h2
    obtain ⟨s, e0, _, hs⟩ := DataW.trod_string t0 h0
    obtain ⟨ga, gn, gc, e1, hg⟩ := slice_part (v := v1) t1 h1
    obtain ⟨ea, en, ec, e2, hea⟩ := slice_part (v := v2) t2 h2
    simp at e0
    subst e0 e1 e2
    obtain ⟨g, wg⟩ := open_Flats (encf := I2b.enc) (ok := I2b.ok) (by decide) t1 k1 r1 hg
    obtain ⟨l, wl⟩ := open_Flats (encf := I2.enc) (ok := I2.ok) (by decide) t2 k2 r2 hea
    have bg : gn ≤ maxLen := by obtain ⟨_, hf⟩ := hg; exact len_le t1 hf
    have bl : en ≤ maxLen := by obtain ⟨_, hf⟩ := hea; exact len_le t2 hf
    exact ⟨(⟨s, ga, gn, gc, ea, en, ec⟩, ⟨s, g, l⟩), rfl, rfl, hs, wg, bg, wl, bl⟩
end
theorem open_Rules {H : Type} {enc : TypeId × Value → H} {W : World} {base : Nat} {held : Bool} {d : DataW H} {p : List MemPlace} {a : Option Addr} {n c : Nat} (h : DataW.Trod enc Try.prog W base (fun _ => true) held 50 (.slice a n c) d p) : ∃ l, FX W W a n c l :=
  open_Flats (encf := encR) (ok := RuX W) (by decide) Try.underlying50 (by kernel_rfl)
    (read_Rule Try.underlying147 rfl rfl rfl (by kernel_rfl) (by kernel_rfl) (by kernel_rfl) Try.underlying9 Try.underlying53 Try.underlying145 (by kernel_rfl) (by kernel_rfl)
      (read_I2b Try.underlying117 rfl rfl rfl (by kernel_rfl) (by kernel_rfl) (by kernel_rfl) Try.underlying2 Try.underlying2 Try.underlying4)
      (read_I2 Try.underlying181 rfl rfl (by kernel_rfl) (by kernel_rfl) Try.underlying2 Try.underlying2)) h
end Go.Proofs.Ytkaikbaagajckaa
