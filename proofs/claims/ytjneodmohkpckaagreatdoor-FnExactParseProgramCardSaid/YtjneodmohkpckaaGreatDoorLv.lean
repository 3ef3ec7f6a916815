/- What the listed variables of Go's library hold: the table of powers, the two errors of strconv. -/
import Derived.Test.YtjneodmohkpckaaGreatDoorLd
import Derived.Test.YtjneodmohkpckaaGreatDoorT12i
import Derived.LaidLaws
namespace Go.Proofs.YtjneodmohkpckaaGreatDoor
open Go.RowKit Go.ChangeShapes Go.Joins
set_option linter.unusedVariables false
set_option linter.unusedSimpArgs false
theorem lv_pow {l : List (String × DataW Unit)} {W : World} (h : laidMet Tryz.prog l W) (hm : ("internal/strconv.uint64pow10", Rows.laid_internal_strconv_uint64pow10) ∈ l) : Lib.TabIs Tryz.prog W "internal/strconv.uint64pow10" .u64 Lib.pow10Tab := by
  obtain ⟨ps, hv, _⟩ := h
  obtain ⟨g, t, cs, fuel, p, h1, h2, h3, h4⟩ := laidVars_mem hv hm
  obtain rfl := Option.some.inj ((show Tryz.prog.globalNamed "internal/strconv.uint64pow10" = some 4 by kernel_rfl).symm.trans h1)
  obtain rfl := Option.some.inj ((show (Tryz.prog.globals[4]?).map (·.type) = some 207 by kernel_rfl).symm.trans h2)
  have h5 := Lib.cells_of_tab (zs := Lib.pow10Tab) (k := .u64) Tryz.underlying207 Tryz.underlying195 (by kernel_rfl) (by kernel_rfl) h4
  unfold Lib.TabIs
  rw [h3, ← h5]
theorem lv_err {l : List (String × DataW Unit)} {W : World} {n nm : String} {g : Nat} {d : DataW Unit} {dd : DataW Unit} (h : laidMet Tryz.prog l W) (hg : Tryz.prog.globalNamed n = some g) (ht : (Tryz.prog.globals[g]?).map (·.type) = some 113) (hd : d = .iface nm dd) (hm : (n, d) ∈ l) : ∃ tp p, W.var? Tryz.prog n = some #[.iface tp p] := by
  subst hd
  obtain ⟨ps, hv, _⟩ := h
  obtain ⟨g', t, cs, fuel, p, h1, h2, h3, h4⟩ := laidVars_mem hv hm
  obtain rfl := Option.some.inj (hg.symm.trans h1)
  obtain rfl := Option.some.inj (ht.symm.trans h2)
  obtain ⟨f1, u, v, h5, _, _⟩ := iface_of_trod Tryz.underlying113 h4
  refine ⟨u, v, ?_⟩
  rw [h3, ← h5]
theorem lv_of {l : List (String × DataW Unit)} {W : World} (h : laidMet Tryz.prog l W) (m1 : ("internal/strconv.uint64pow10", Rows.laid_internal_strconv_uint64pow10) ∈ l) (m2 : ("strconv.ErrSyntax", Rows.laid_strconv_ErrSyntax) ∈ l) (m3 : ("strconv.ErrRange", Rows.laid_strconv_ErrRange) ∈ l) : LV W :=
  ⟨lv_pow h m1, lv_err (g := 5) h (by kernel_rfl) (by kernel_rfl) rfl m2, lv_err (g := 6) h (by kernel_rfl) (by kernel_rfl) rfl m3⟩
end Go.Proofs.YtjneodmohkpckaaGreatDoor
