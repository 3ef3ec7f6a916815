/- Keywords: the table, and both ways to look a word up. -/
import Derived.Test.YtjneodmohkpckaaGreatDoorLd
import Derived.Test.YtjneodmohkpckaaGreatDoorL01
import Derived.Test.YtjneodmohkpckaaGreatDoorSt
import Derived.Test.YtjneodmohkpckaaGreatDoorY8
import Derived.Test.YtjneodmohkpckaaGreatDoorT12s
namespace Go.Proofs.YtjneodmohkpckaaGreatDoor
open Go.RowKit
set_option linter.unusedVariables false
set_option linter.unusedSimpArgs false
def kwNm : List (List UInt8) := [[112, 114, 111, 103, 114, 97, 109], [105, 110], [118, 97, 114], [111, 117, 116], [103, 117, 97, 114, 100], [101, 110, 100], [97, 110, 100], [111, 114], [110, 111, 116], [116, 114, 117, 101], [102, 97, 108, 115, 101], [111, 110], [111, 102, 102], [114, 105, 115, 101], [108, 97, 116, 99, 104], [99, 111, 117, 110, 116], [112, 97, 105, 114]]
def kwBs : List ByteArray := kwNm.map fun z => ⟨z.toArray⟩
/-- the index of a keyword, or -1 -/
def kwI (t : ByteArray) : Int := idxF (fun y => t.toList == y.toList) kwBs
theorem kw_len : kwBs.length = 17 := rfl
theorem kwI_lo (t : ByteArray) : -1 ≤ kwI t := by have := idxF_ge (fun y => t.toList == y.toList) kwBs; unfold kwI; omega
theorem kwI_hi (t : ByteArray) : kwI t < 17 := by have := idxF_lt (fun y => t.toList == y.toList) kwBs; rw [kw_len] at this; unfold kwI; omega
theorem kw_any (t : ByteArray) : (kwBs.any fun y => t.toList == y.toList) = decide (0 ≤ kwI t) := (idxF_nonneg (fun y => t.toList == y.toList) kwBs).symm
theorem strs_eqK (l : List (List UInt8)) : strsCells l = l.map fun z => .string ⟨z.toArray⟩ := by
  unfold strsCells
  induction l with
  | nil => rfl
  | cons y r ih => rw [List.flatMap_cons, List.map_cons, ih]; rfl
/-- cells of strings are a slice of strings -/
theorem fs_cells {w : World} {g n : Nat} {nm : List (List UInt8)} (hg : g < w.heap.size) (hc : ∀ i v, (strsCells nm)[i]? = some v → w.cell? ⟨g, i, none⟩ = some v) (hn : nm.length = n) (hz : ∀ z ∈ nm, z.length ≤ 1000) : FS w (some ⟨g, 0, none⟩) n n (nm.map fun z => ⟨z.toArray⟩) := by
  refine ⟨by rw [List.length_map]; exact hn, Nat.le_refl _, .inr ⟨g, 0, rfl, hg, fun i x hx j v hv => ?_⟩, fun x hx => ?_, fun h => by cases h⟩
  · obtain ⟨rfl⟩ : j = 0 := by
      cases j with
      | zero => rfl
      | succ j => simp at hv
    simp only [List.getElem?_cons_zero, Option.some.injEq] at hv
    subst hv
    have := hc i (.string x) ?_
    · simpa using this
    · rw [strs_eqK, List.getElem?_map]
      rw [List.getElem?_map] at hx
      cases h : nm[i]? with
      | none => rw [h] at hx; cases hx
      | some z => rw [h] at hx; simp at hx; simp [hx]
  · obtain ⟨z, hz1, rfl⟩ := List.mem_map.1 hx
    have := hz z hz1
    simp [ByteArray.size, maxLen]; omega
theorem FS.sub {w : World} {g n : Nat} {l : List ByteArray} (h : FS w (some ⟨g, 0, none⟩) n n l) {k : Nat} (hk : k < n) : FS w (some ⟨g, k, none⟩) (n - k) (n - k) (l.drop k) := by
  obtain ⟨b, off, e, hb, hc⟩ := h.pos.resolve_left (by omega)
  simp only [Option.some.injEq, Addr.mk.injEq, and_true] at e
  obtain ⟨rfl, rfl⟩ := e
  refine ⟨by rw [List.length_drop, h.len], Nat.le_refl _, .inr ⟨g, k, rfl, hb, fun i x hx j v hv => ?_⟩, fun x hx => h.wf x (List.mem_of_mem_drop hx), fun h => by cases h⟩
  rw [List.getElem?_drop] at hx
  have := hc _ x hx j v hv
  simp only [Nat.mul_one, Nat.zero_add] at this ⊢
  exact this
theorem tab_keywords {l : List (String × DataW Unit)} {W : World} (h : laidMet Tryz.prog l W) (hm : ("loop.example/g00916/impl.keywords", Rows.laid_loop_example_g00916_impl_keywords) ∈ l) : Tab W 0 (strsCells kwNm) := by
  obtain ⟨ps, hv, _⟩ := h
  obtain ⟨g, t, cs, fuel, p, h1, h2, h3, h4⟩ := laidVars_mem hv hm
  obtain rfl := Option.some.inj ((show Tryz.prog.globalNamed "loop.example/g00916/impl.keywords" = some 0 by kernel_rfl).symm.trans h1)
  obtain rfl := Option.some.inj ((show (Tryz.prog.globals[0]?).map (·.type) = some 90 by kernel_rfl).symm.trans h2)
  have h5 := cells_of_arr (zs := kwNm) (encd := fun z => .lit (.string z)) (encf := fun z => [.string ⟨z.toArray⟩]) Tryz.underlying90 (show Tryz.prog.cellsOf 9 = 1 by kernel_rfl) (by kernel_rfl) (fun m cs z p hl h => str_cell Tryz.underlying9 hl h) h4
  have h6 := Tab.of_var h1 h3
  rw [h5] at h6
  exact h6
theorem slices_Contains_str {v : ByteArray} {a : Option Addr} {n c : Nat} {l : List ByteArray} {w : World} (hI : FS w a n c l) (hn : n ≤ 1048576) :
    Calls Tryz.prog 71 #[.slice a n c, .string v] w fun e w' => e = .returned (.bool (l.any fun y => v.toList == y.toList)) ∧ w = w' := by
  have h := idxF_nonneg (fun y => v.toList == y.toList) l
  have hc := slices_Index_str (v := v) hI hn
  generalize idxF (fun y => v.toList == y.toList) l = r at h hc
  have H := Lib.hid h
  have HI := Lib.hid hI
  clear h hI
  go_enter Tryz.func71, Tryz.ntmps71
  go_wp2_with fail
  refine Calls.mono hc ?_
  rintro e _ ⟨rfl, rfl⟩
  go_wp2
  go_ret
  exact ⟨ret_bool H.out, rfl⟩
theorem impl_IsKeyword {s : ByteArray} {w : World} (hT : Tab w 0 (strsCells kwNm)) : Calls Tryz.prog 25 #[.string s] w fun e w' => e = .returned (.bool (decide (0 ≤ kwI s))) ∧ w = w' := by
  have hc := slices_Contains_str (v := s) (fs_cells hT.1 hT.2 (n := 17) rfl (by decide)) (by decide)
  rw [show (kwNm.map fun z => (⟨z.toArray⟩ : ByteArray)) = kwBs from rfl, kw_any] at hc
  have HC := Lib.hid hc
  clear hT hc
  generalize decide (0 ≤ kwI s) = q at *
  go_enter Tryz.func25, Tryz.ntmps25
  go_wp2_with fail
  refine Calls.mono HC.out ?_
  rintro e _ ⟨rfl, rfl⟩
  go_wp2
  go_ret
  exact ⟨rfl, rfl⟩
theorem spec_l12Keywords {w : World} : Calls Tryz.prog 69 #[] w fun e w' => e = .returned (.slice (some ⟨w.heap.size, 0, none⟩) 17 17) ∧ Below w.heap.size w w' ∧ FS w' (some ⟨w.heap.size, 0, none⟩) 17 17 kwBs := by
  have hB := Lib.hid (Blk.made w #[.string ⟨#[112, 114, 111, 103, 114, 97, 109]⟩, .string ⟨#[105, 110]⟩, .string ⟨#[118, 97, 114]⟩, .string ⟨#[111, 117, 116]⟩, .string ⟨#[103, 117, 97, 114, 100]⟩, .string ⟨#[101, 110, 100]⟩, .string ⟨#[97, 110, 100]⟩, .string ⟨#[111, 114]⟩, .string ⟨#[110, 111, 116]⟩, .string ⟨#[116, 114, 117, 101]⟩, .string ⟨#[102, 97, 108, 115, 101]⟩, .string ⟨#[111, 110]⟩, .string ⟨#[111, 102, 102]⟩, .string ⟨#[114, 105, 115, 101]⟩, .string ⟨#[108, 97, 116, 99, 104]⟩, .string ⟨#[99, 111, 117, 110, 116]⟩, .string ⟨#[112, 97, 105, 114]⟩] 9)
  go_enter Tryz.func69, Tryz.ntmps69
  go_wp2
  go_ret
  refine ⟨rfl, below_alloc1 (Below.refl _ _) _, fs_cells hB.out.lt (fun i v hv => ?_) (n := 17) rfl (by decide)⟩
  rw [hB.out.cell i]
  rw [strs_eqK] at hv
  simpa [kwNm] using hv
set_option maxHeartbeats 1000000 in
theorem spec_l12Keyword {s : ByteArray} {w : World} : Calls Tryz.prog 72 #[.string s] w fun e w' => e = .returned (.int .i64 (kwI s)) ∧ Below w.heap.size w w' := by
  have HK := Lib.hid (show kwI s = idxF (fun y => s.toList == y.toList) kwBs from rfl)
  go_enter Tryz.func72, Tryz.ntmps72
  go_wp2_with fail
  refine Calls.mono spec_l12Keywords ?_
  rintro e w1 ⟨rfl, hb1, hf⟩
  have F1 := Lib.hid hf
  clear hf
  go_wp2_with fail
  go_loop [4] (fun s4 => ∃ k : Nat, k ≤ 17 ∧ s4 = .int .i64 (k : Int) ∧ Hid ((kwBs.take k).any (fun y => s.toList == y.toList) = false)) (fun s4 => 17 - (intOf s4).toNat)
  case atStart => exact ⟨0, Nat.zero_le _, rfl, Lib.hid rfl⟩
  case round =>
    obtain ⟨k, hk, rfl, A⟩ := hrel
    by_cases hlt : k < 17
    · have hlt' : (k : Int) < 17 := by omega
      have hk0 : (0 : Int) ≤ (k : Int) := by omega
      have ek : IntKind.i64.wrap ((k : Int) + 1) = (k : Int) + 1 := IntWalk.i64_in _ (by omega)
      obtain ⟨b, off, x, e0, hb, hx, hwf, hcell⟩ := FS.get F1.out hlt
      simp only [Option.some.injEq, Addr.mk.injEq, and_true] at e0
      obtain ⟨rfl, rfl⟩ := e0
      simp only [Nat.zero_add] at hcell
      have Hx := Lib.hid hx
      have hsw : (x.toList == s.toList) = (s.toList == x.toList) := by rw [str_eq, str_eq]; congr 1; exact propext eq_comm
      clear hx
      cases hq : (s.toList == x.toList)
      · rw [hq] at hsw
        have Hq := Lib.hid hq
        clear hq
        go_wp2
        go_round
        case rel => exact ⟨k + 1, by omega, by go_num, any_take_step Hx.out A.out Hq.out⟩
        case measure => simp [intOf]; omega
      · rw [hq] at hsw
        have Hq := Lib.hid hq
        clear hq
        go_wp2
        go_ret
        exact ⟨ret_int (by rw [HK.out, idxF_hit Hx.out Hq.out A.out]), hb1⟩
    · have hlt' : ¬ (k : Int) < 17 := by omega
      go_wp2
      go_ret
      have e : kwBs.take k = kwBs := take_len (by rw [kw_len]; omega)
      have h1 := A.out
      rw [e] at h1
      exact ⟨ret_int (by rw [HK.out, idxF_miss h1]), hb1⟩
theorem spec_IsKeyword {s : ByteArray} {w : World} : Calls Tryz.prog 26 #[.string s] w fun e w' => e = .returned (.bool (decide (0 ≤ kwI s))) ∧ Below w.heap.size w w' := by
  go_enter Tryz.func26, Tryz.ntmps26
  go_wp2_with fail
  refine Calls.mono spec_l12Keyword ?_
  rintro e w1 ⟨rfl, hb1⟩
  go_wp2
  go_ret
  exact ⟨rfl, hb1⟩
end Go.Proofs.YtjneodmohkpckaaGreatDoor
