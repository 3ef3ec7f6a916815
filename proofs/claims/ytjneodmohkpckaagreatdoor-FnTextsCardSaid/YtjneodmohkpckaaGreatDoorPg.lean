/- StripComments of the program, walked: it cuts the text into lines, each line at its first '#', and joins them. -/
import Derived.Test.YtjneodmohkpckaaGreatDoorPf
import Derived.Test.YtjneodmohkpckaaGreatDoorSp
import Derived.Lib.CutLaws
namespace Go.Proofs.YtjneodmohkpckaaGreatDoor
open Go.RowKit
set_option linter.unusedVariables false
set_option linter.unusedSimpArgs false
/-- what stands ahead of the first such byte -/
theorem cut_take (c : UInt8) (p : UInt8 → Bool) (hp : ∀ b, p b = false ↔ b = c) : ∀ s : List UInt8, (Lib.cut s [c]).1 = s.takeWhile p := by
  have key : ∀ s : List UInt8, if Lib.index s [c] = -1 then s.takeWhile p = s else s.takeWhile p = s.take (Lib.index s [c]).toNat := by
    intro s
    induction s with
    | nil => rfl
    | cons b r ih =>
      by_cases hb : b = c
      · subst hb
        rw [idx_hit, if_neg (by decide), List.takeWhile_cons, if_neg (by rw [(hp b).2 rfl]; exact Bool.false_ne_true)]
        rfl
      · have hpb : p b = true := by
          cases h : p b with
          | true => rfl
          | false => exact absurd ((hp b).1 h) hb
        rw [idx_go r hb, List.takeWhile_cons, if_pos hpb]
        have hg := idx_ge c r
        by_cases hi : Lib.index r [c] = -1
        · rw [if_pos hi] at ih
          rw [if_pos (by rw [if_pos (by rw [hi]; rfl)]), ih]
        · rw [if_neg hi] at ih
          have e : (Lib.index r [c] == -1) = false := by simpa using hi
          rw [if_neg (by rw [e, if_neg Bool.false_ne_true]; omega), e, if_neg Bool.false_ne_true, ih]
          have e2 : (Lib.index r [c] + 1).toNat = (Lib.index r [c]).toNat + 1 := by omega
          rw [e2]; rfl
  intro s
  have h := key s
  have hg := idx_ge c s
  rw [Lib.cut]
  by_cases hi : Lib.index s [c] = -1
  · rw [if_pos hi] at h
    rw [if_neg (by omega)]
    exact h.symm
  · rw [if_neg hi] at h
    rw [if_pos (by omega)]
    exact h.symm
theorem no35_iff (b : UInt8) : no35 b = false ↔ b = 35 := by
  rw [no35, decide_eq_false_iff_not, Classical.not_not]
  exact ⟨fun h => UInt8.toNat_inj.1 h, fun h => by rw [h]; rfl⟩
/-- a line without its comment -/
def cutB (t : ByteArray) : ByteArray := ⟨(t.data.toList.takeWhile no35).toArray⟩
theorem cutB_list (t : ByteArray) : (cutB t).data.toList = t.data.toList.takeWhile no35 := by simp [cutB]
theorem cutB_of (t : ByteArray) : (⟨(Lib.cut t.data.toList (⟨#[35]⟩ : ByteArray).data.toList).1.toArray⟩ : ByteArray) = cutB t := by
  rw [show (⟨#[35]⟩ : ByteArray).data.toList = [35] from rfl, cut_take 35 no35 no35_iff]; rfl
theorem split_pcs (s : ByteArray) (c : UInt8) : (Lib.splitB ⟨#[c]⟩ 0 (Lib.countB s ⟨#[c]⟩) s).map (·.data.toList) = pcs c s.data.toList := by
  rw [Lib.splitB_data]
  have e : Lib.countB s ⟨#[c]⟩ = s.data.toList.count c := Lib.count_one c s.data.toList
  exact splitK_one c _ _ e.symm
theorem join_same (c : UInt8) : ∀ l : List (List UInt8), Lib.join l [c] = joinP c l
  | [] => rfl
  | [p] => by simp [Lib.join, joinP]
  | p :: q :: r => by
    have ih := join_same c (q :: r)
    rw [joinP_cons c p (by simp), ← ih]
    simp [Lib.join]
theorem pcs_all (c : UInt8) : ∀ s : List UInt8, ∀ p ∈ pcs c s, p.length ≤ s.length := by
  intro s
  induction s with
  | nil => intro p hp; simp [pcs] at hp; subst hp; simp
  | cons b r ih =>
    by_cases hb : b = c
    · subst hb
      rw [pcs_hit]
      intro p hp
      rcases List.mem_cons.1 hp with rfl | hp
      · simp
      · have := ih p hp; simp; omega
    · obtain ⟨x, q, hq⟩ := pcs_ne c r
      rw [hq] at ih
      rw [pcs_go hb hq]
      intro p hp
      rcases List.mem_cons.1 hp with rfl | hp
      · have := ih x (List.mem_cons_self ..); simp; omega
      · have := ih p (List.mem_cons_of_mem _ hp); simp; omega
/-- the library's largest length is some number -/
def MLc (w : World) : Prop := ∃ m, w.cell? ⟨1, 0, none⟩ = some (.int .i64 m)
theorem MLc.keep {w w' : World} (h : MLc w) (hb : Below w.heap.size w w') : MLc w' := by
  obtain ⟨m, hm⟩ := h
  exact ⟨m, (hb.cell (p := ⟨1, 0, none⟩) (World.block_lt_of_cell? _ _ hm)).trans hm⟩
set_option maxHeartbeats 2000000 in
theorem impl_StripComments {s : ByteArray} {w : World} (hM : MLc w) (hz : s.size ≤ 1048576) : Calls Tryz.prog 21 #[.string s] w fun e w' => e = .returned (.tuple #[.string (scS s), .int .i64 (scC s)]) ∧ Below w.heap.size w w' := by
  by_cases h6 : 6000 < s.size
  · have H := Lib.hid (show scS s = ⟨#[]⟩ ∧ scC s = 3 from ⟨if_pos h6, if_pos h6⟩)
    have h6' : 6000 < (s.size : Int) := by omega
    clear hM
    go_enter Tryz.func21, Tryz.ntmps21
    go_wp2
    exact bodyPost_ret (v := .tuple #[.string ⟨#[]⟩, .int .i64 3]) (by simp [results, Tryz.results21, go_sem]) rfl ⟨by rw [H.out.1, H.out.2], Below.refl _ _⟩
  · have H := Lib.hid (show scS s = ⟨(stF false s.data.toList).toArray⟩ ∧ scC s = 0 from ⟨if_neg h6, if_neg h6⟩)
    have h6' : ¬ 6000 < (s.size : Int) := by omega
    have HM := Lib.hid hM
    obtain ⟨m0, hm0⟩ := hM
    have KS := Lib.hid (Tryz.strings_Split s ⟨#[10]⟩ m0 w (by omega) hm0 (by decide))
    have hlen := Lib.splitB_all ⟨#[10]⟩ (by decide) 0 _ s rfl
    have hps := split_pcs s 10
    generalize Lib.splitB ⟨#[10]⟩ 0 (Lib.countB s ⟨#[10]⟩) s = ps at *
    generalize Lib.countB s ⟨#[10]⟩ = cn at *
    have hle : cn + 1 ≤ s.size + 1 := by
      have h1 := pcs_len 10 s.data.toList
      rw [← hps, List.length_map, hlen] at h1
      have h2 := List.count_le_length (l := s.data.toList) (a := (10 : UInt8))
      rw [str_len] at h2
      omega
    have hall : ∀ p ∈ ps, p.size ≤ s.size := by
      intro p hp
      have h1 := pcs_all 10 s.data.toList p.data.toList (by rw [← hps]; exact List.mem_map_of_mem hp)
      rw [str_len, str_len] at h1
      exact h1
    have HPS := Lib.hid hps
    have HLEN := Lib.hid hlen
    have HALL := Lib.hid hall
    clear hm0 hps hlen hall
    go_enter Tryz.func21, Tryz.ntmps21
    go_wp2_with fail
    refine Calls.mono KS.out ?_
    rintro e w1 ⟨rfl, hw1⟩
    have hb1 : Below w.heap.size w w1 := by rw [hw1]; exact below_alloc1 (Below.refl _ _) _
    have B1 := Lib.hid (show Blk w1 w.heap.size ((ps.take 0).map (fun t => Value.string (cutB t)) ++ (ps.drop 0).map Value.string).toArray 9 by rw [hw1]; exact Blk.made w _ _)
    clear hw1 KS
    go_wp2_with fail
    go_loopw [14] (fun s14 wr => ∃ k : Nat, s14 = .int .i64 (k : Int) ∧ k ≤ cn + 1 ∧ Below w.heap.size w wr ∧ Hid (Blk wr w.heap.size ((ps.take k).map (fun t => Value.string (cutB t)) ++ (ps.drop k).map Value.string).toArray 9)) (fun s14 _ => cn + 1 - (intOf s14).toNat)
    case atStart => exact ⟨0, rfl, by omega, hb1, B1⟩
    case round =>
      clear B1 hb1
      obtain ⟨k, rfl, hk, hbl, B⟩ := hrel
      by_cases hlt : k < cn + 1
      · have hk0 : (0 : Int) ≤ (k : Int) := by omega
        have hlt' : (k : Int) < (cn : Int) + 1 := by omega
        have hlt2 : (k : Int) < ((cn + 1 : Nat) : Int) := by omega
        have hlt3 : k < ps.length := by rw [HLEN.out]; exact hlt
        obtain ⟨t, ht⟩ : ∃ t, ps[k]? = some t := ⟨_, List.getElem?_eq_getElem hlt3⟩
        have hts := HALL.out t (List.mem_of_getElem? ht)
        have htl : ((ps.take k).map (fun t => Value.string (cutB t))).length = k := by rw [List.length_map, List.length_take]; omega
        have hc : wr.cell? ⟨w.heap.size, k, none⟩ = some (.string t) := by
          rw [B.out.cell k, List.getElem?_toArray, List.getElem?_append_right (by omega), htl, Nat.sub_self, List.getElem?_map, List.getElem?_drop, Nat.add_zero, ht]; rfl
        have hfz := B.out.free
        have hbz := B.out.lt
        have hst : ((ps.take k).map (fun t => Value.string (cutB t)) ++ (ps.drop k).map Value.string).toArray.setIfInBounds k (.string (cutB t)) = ((ps.take (k + 1)).map (fun t => Value.string (cutB t)) ++ (ps.drop (k + 1)).map Value.string).toArray := by
          rw [List.setIfInBounds_toArray, List.set_append_right _ _ (by omega), htl, Nat.sub_self, List.drop_eq_getElem_cons hlt3, List.map_cons, List.set_cons_zero, take_at ht, List.map_append, List.append_assoc]; rfl
        have HST := Lib.hid hst
        obtain ⟨m1, hm1⟩ := HM.out.keep hbl
        have KC := Tryz.strings_Cut t ⟨#[35]⟩ m1 wr (by omega) hm1
        rw [cutB_of] at KC
        have KC := Lib.hid KC
        clear hm1 hst ht htl
        go_wp2_with fail
        refine Calls.mono KC.out ?_
        rintro e w2 ⟨rfl, nn, hw2⟩
        have hb2 : Below wr.heap.size wr w2 := by rw [hw2]; exact below_drewN (Below.refl _ _) _
        have B2 := Lib.hid (B.out.keep hb2)
        have hbl2 := below_callS hbl hb2
        have hc2 := (hb2.cell (p := ⟨w.heap.size, k, none⟩) hbz).trans hc
        have hfz2 := B2.out.free
        have hbz2 := B2.out.lt
        clear hw2 hb2 hc hfz
        go_wp2_with fail
        go_roundw
        case rel => exact ⟨k + 1, by go_num, by omega, Below.setCell hbl2 (show w.heap.size ≤ (⟨w.heap.size, k, none⟩ : Addr).block from Nat.le_refl _) _, Lib.hid (by rw [← HST.out]; exact B2.out.set k _)⟩
        case measure => simp only [intOf]; omega
      · have hlt' : ¬ (k : Int) < (cn : Int) + 1 := by omega
        have hlt2 : ¬ (k : Int) < ((cn + 1 : Nat) : Int) := by omega
        obtain rfl : k = cn + 1 := by omega
        have hl2 : (ps.map cutB).length = cn + 1 := by rw [List.length_map, HLEN.out]
        have hbx : Blk wr w.heap.size ((ps.map cutB).map Value.string).toArray 9 := by
          have h := B.out
          rw [List.take_of_length_le (by rw [HLEN.out]; exact Nat.le_refl _), List.drop_of_length_le (by rw [HLEN.out]; exact Nat.le_refl _), List.map_nil, List.append_nil] at h
          rw [List.map_map]; exact h
        have hlist : (ps.map cutB).map (·.data.toList) = (pcs 10 s.data.toList).map fun (p : List UInt8) => p.takeWhile no35 := by
          rw [← HPS.out, List.map_map, List.map_map]
          exact List.map_congr_left fun t _ => cutB_list t
        have hjoin : Lib.join ((ps.map cutB).map (·.data.toList)) (⟨#[10]⟩ : ByteArray).data.toList = stF false s.data.toList := by
          rw [hlist, show (⟨#[10]⟩ : ByteArray).data.toList = [10] from rfl, join_same, (stF_join s.data.toList).1]
        have hsl := stF_len s.data.toList false
        have hj := Tryz.strings_Join w.heap.size 0 (cn + 1) (ps.map cutB) ⟨#[10]⟩ wr (fun j x hx => by
          rw [Nat.zero_add, hbx.cell j, List.getElem?_toArray, List.getElem?_map, hx]; rfl) hbx.lt (by rw [hl2]; omega) (by rw [hl2]; exact Nat.le_refl _) (by rw [hjoin]; rw [str_len] at hsl; omega)
        rw [hjoin, hl2] at hj
        have HJ := Lib.hid hj
        clear hj hjoin hlist hbx hl2 hsl B
        go_wp2_with fail
        refine Calls.mono HJ.out ?_
        rintro e w2 ⟨rfl, hb2⟩
        go_wp2
        exact bodyPost_ret (v := .tuple #[.string ⟨(stF false s.data.toList).toArray⟩, .int .i64 0]) (by simp [results, Tryz.results21, go_sem]) rfl ⟨by rw [H.out.1, H.out.2], below_callS hbl hb2⟩
end Go.Proofs.YtjneodmohkpckaaGreatDoor
