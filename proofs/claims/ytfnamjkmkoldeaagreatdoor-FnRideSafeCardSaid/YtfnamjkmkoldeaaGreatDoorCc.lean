/- Different states, sorted and made compact by the program: as many of them as before. -/
import Derived.Test.YtfnamjkmkoldeaaGreatDoorQt
import Derived.Test.YtfnamjkmkoldeaaGreatDoorQc
namespace Go.Proofs.YtfnamjkmkoldeaaGreatDoor
open Go.RowKit
set_option linter.unusedVariables false
set_option linter.unusedSimpArgs false
open Go.Shelf Go.Lib Go.Sort in
theorem perm9 {α : Type} [Inhabited α] {d d' : Array α} (h : PermIn 0 d.size d d') : d'.size = d.size ∧ d'.toList.Perm d.toList := by
  obtain ⟨h1, _, h3⟩ := h
  refine ⟨h1, ?_⟩
  have e1 : d.extract 0 d.size = d := by simp
  have e2 : d'.extract 0 d.size = d' := by rw [← h1]; simp
  rw [e1, e2] at h3
  exact h3
open Go.Shelf Go.Lib Go.Sort in
theorem sort_S {m lo g n c : Nat} {l : List (QM × List Int)} {w : World} (hO : OwnF 1 encS (fun _ => True) 22 w lo (some ⟨g, 0, none⟩) n c l) (hE : ∀ x ∈ l, Ints w x.1.a m x.1.c x.2 ∧ x.1.n = m ∧ ∀ q off, x.1.a = some ⟨q, off, none⟩ → q ≠ g) (hd : (l.map (·.2)).Nodup) (h0 : 0 < n) (hn : n ≤ 1048576) (hm : m ≤ 1048576) :
    Calls Tryz.prog 135 #[.slice (some ⟨g, 0, none⟩) n c, .func (.func 136) #[] #[]] w fun e w' => e = .returned (.tuple #[]) ∧ ∃ l', Flats 1 encS (fun x => Ints w' x.1.a m x.1.c x.2 ∧ x.1.n = m) w' (some ⟨g, 0, none⟩) n c l' ∧ (l'.map (·.2)).Nodup ∧ Below lo w w' := by
  have hP : ∀ x ∈ l, Ints w x.1.a m x.1.c x.2 ∧ x.2.length = m ∧ ∀ q off, x.1.a = some ⟨q, off, none⟩ → q ≠ g := fun x hx => ⟨(hE x hx).1, (hE x hx).1.len, (hE x hx).2.2⟩
  have hln := hO.len
  obtain ⟨x0, hx0⟩ : ∃ x, x ∈ l := List.exists_mem_of_length_pos (by omega)
  letI : Inhabited (Item w g m) := ⟨⟨x0, hP x0 hx0⟩⟩
  obtain ⟨d, hdl⟩ : ∃ d : Array (Item w g m), d.toList.map (·.1) = l := ⟨(l.attachWith _ hP).toArray, by rw [List.toList_toArray]; exact List.attachWith_map_subtype_val hP⟩
  have hds : d.size = n := by rw [← hln, ← hdl]; simp
  have hblk := hO.blk g rfl
  have hH : Holds (encI9 (w := w) (blk := g) (m := m)) w g 0 d := fun j hj => by
    refine ⟨?_, hO.free _⟩
    obtain ⟨b, off, x, he, _, hx, _, hc⟩ := hO.flats.at (show j < n by omega)
    simp only [Option.some.injEq, Addr.mk.injEq, and_true] at he
    obtain ⟨rfl, rfl⟩ := he
    have h1 := hc 0 _ rfl
    rw [Nat.mul_one, Nat.add_zero] at h1
    rw [h1]
    have h2 : l[j]? = some (d[j]!).1 := by
      rw [← hdl, List.getElem?_map, Array.getElem?_toList, Array.getElem?_eq_getElem hj, getElem!_pos d j hj]; rfl
    rw [hx] at h2
    have h3 := (hE x (List.mem_of_getElem? hx)).2.1
    simp only [Option.some.injEq] at h2
    rw [encI9, ← h2, h3]
  have hcmp := (cmpReads9 (w := w) (blk := g) (off := 0) (m := m) (size := d.size) hm).lays
  rw [← hds]
  refine Calls.mono (Tryz.slices_SortFunc (encI9 (w := w) (blk := g) (m := m)) (fun _ => rfl) cmpI9 swo9 136 #[] g 0 c d w (fun _ _ => by kernel_rfl) hcmp hH hblk.2 (by omega)) ?_
  rintro e w' ⟨rfl, d', k, os, hp, _, rfl⟩
  obtain ⟨hs', hperm⟩ := perm9 hp
  have hg := grownBy_sortWorld (encI9 (w := w) (blk := g) (m := m)) w g 0 k d' os
  have hH' := holds_sortWorld (encI9 (w := w) (blk := g) (m := m)) w g 0 k d d' os hblk.2 hH hs'
  have hlt' := lt_sortWorld (encI9 (w := w) (blk := g) (m := m)) w g 0 k d' os hblk.2
  refine ⟨rfl, d'.toList.map fun x => (⟨x.1.1.a, m, x.1.1.c⟩, x.1.2), ⟨by simp [hs'], by have := hO.flats.cap; omega, .inr ⟨g, 0, rfl, hlt', fun i x hx j v hv => ?_⟩, fun x hx => ?_, fun e => by cases e⟩, ?_, (Below.refl _ _).grown hg (Nat.le_trans hblk.1 (Nat.le_of_lt hblk.2)) (fun q e => by cases e; exact hblk.1)⟩
  · rw [List.getElem?_map] at hx
    cases hy : d'.toList[i]? with
    | none => rw [hy] at hx; cases hx
    | some y =>
      rw [hy] at hx
      simp only [Option.map_some, Option.some.injEq] at hx
      subst hx
      have hi : i < d'.size := by have := (List.getElem?_eq_some_iff.1 hy).1; simpa using this
      have e : d'[i]! = y := by
        rw [getElem!_pos d' i hi]
        rw [Array.getElem?_toList, Array.getElem?_eq_getElem hi] at hy
        simpa using hy
      cases j with
      | zero =>
        simp only [encS, List.getElem?_cons_zero, Option.some.injEq] at hv
        subst hv
        have := (hH' i hi).1
        rw [e, encI9] at this
        simpa using this
      | succ j => simp [encS] at hv
  · obtain ⟨y, hy, rfl⟩ := List.mem_map.1 hx
    exact ⟨y.2.1.keepG hg y.2.2.2, rfl⟩
  · have h1 : (d'.toList.map fun x : Item w g m => x.1.2).Perm (d.toList.map fun x => x.1.2) := hperm.map _
    have h2 : (d.toList.map fun x : Item w g m => x.1.2) = l.map (·.2) := by rw [← hdl, List.map_map]; rfl
    rw [List.map_map]
    exact (h1.trans (List.Perm.of_eq h2)).nodup_iff.2 hd
theorem nodup_succ {l : List (QM × List Int)} (h : (l.map (·.2)).Nodup) : ∀ (i : Nat) (x y : QM × List Int), l[i]? = some x → l[i + 1]? = some y → x.2 ≠ y.2 := by
  intro i x y hx hy e
  have h1 : (l.map (·.2))[i]? = some x.2 := by rw [List.getElem?_map, hx]; rfl
  have h2 : (l.map (·.2))[i + 1]? = some y.2 := by rw [List.getElem?_map, hy]; rfl
  have l1 := (List.getElem?_eq_some_iff.1 h1).1
  have h9 : i = i + 1 := (List.getElem?_inj l1 h).1 (by rw [h1, e, ← h2])
  omega
set_option maxHeartbeats 1000000 in
theorem impl_sorted {m lo n c : Nat} {a : Option Addr} {l : List (QM × List Int)} {w : World} (hO : OwnF 1 encS (fun _ => True) 22 w lo a n c l) (hE : ∀ x ∈ l, Ints w x.1.a m x.1.c x.2 ∧ x.1.n = m ∧ ∀ q off, x.1.a = some ⟨q, off, none⟩ → a ≠ some ⟨q, 0, none⟩) (hd : (l.map (·.2)).Nodup) (hn : n ≤ 1048576) (hm : m ≤ 1048576) (hlo : lo ≤ w.heap.size) :
    Calls Tryz.prog 100 #[.slice a n c] w fun e w' => e = .returned (.slice a n c) ∧ Below lo w w' := by
  by_cases h0 : 0 < n
  · obtain ⟨g, rfl⟩ := hO.shape h0
    have K1 := Lib.hid (sort_S hO (fun x hx => ⟨(hE x hx).1, (hE x hx).2.1, fun q off e e2 => (hE x hx).2.2 q off e (by rw [e2])⟩) hd h0 hn hm)
    clear hO hE hd
    go_enter Tryz.func100, Tryz.ntmps100
    go_wp2_with fail
    refine Calls.mono K1.out ?_
    rintro e w1 ⟨rfl, l', hF, hnd, hb1⟩
    have K2 := Lib.hid (slices_CompactFunc_S hF hn hm (nodup_succ hnd))
    have hs1 := hb1.size
    clear hF hnd K1
    go_wp2_with fail
    refine Calls.mono K2.out ?_
    rintro e w2 ⟨rfl, hb2⟩
    have hb3 := below_call hb1 hb2 (Nat.le_trans hlo hs1)
    go_wp2
    go_ret
    exact ⟨rfl, hb3⟩
  · obtain rfl : n = 0 := by omega
    have hl : l = [] := List.eq_nil_of_length_eq_zero hO.len
    subst hl
    have hF : Flats 1 encS (fun x => Ints w x.1.a m x.1.c x.2 ∧ x.1.n = m) w a 0 c [] := ⟨rfl, Nat.zero_le _, .inl rfl, (fun x hx => by cases hx), hO.flats.nil⟩
    have K2 := Lib.hid (slices_CompactFunc_S hF hn hm (fun i x y h => by cases h))
    have K1 := Lib.hid (Tryz.slices_SortFunc_none (α := Nat) a c (.func (.func 136) #[] #[]) w)
    clear hF hO hE hd
    go_enter Tryz.func100, Tryz.ntmps100
    go_wp2_with fail
    refine Calls.mono K1.out ?_
    rintro e _ ⟨rfl, rfl⟩
    go_wp2_with fail
    refine Calls.mono K2.out ?_
    rintro e w2 ⟨rfl, hb2⟩
    have hb3 := hb2.mono hlo
    go_wp2
    go_ret
    exact ⟨rfl, hb3⟩
theorem impl_length_sl {a : Option Addr} {n c : Nat} {w : World} : Calls Tryz.prog 46 #[.slice a n c] w fun e w' => e = .returned (.int .i64 n) ∧ w = w' := by
  go_enter Tryz.func46, Tryz.ntmps46
  go_wp2
  go_ret
  exact ⟨rfl, rfl⟩
end Go.Proofs.YtfnamjkmkoldeaaGreatDoor
