/- Draws of layer 27, walked. -/
import Derived.Test.YtoaccicfmfiemaaDoorDa
namespace Go.Proofs.YtoaccicfmfiemaaDoor
open Go.RowKit
set_option linter.unusedVariables false
set_option linter.unusedSimpArgs false
set_option maxRecDepth 100000 in
set_option maxHeartbeats 1000000 in
theorem spec_l27DrawMode {b lo : Nat} {w0 w : World} (hS : Dw 89 lo b w0 w) :
    Calls Tryd.prog 31 #[.pointer (some ⟨b, 0, none⟩)] w fun e w' => ∃ r, e = .returned (.int .i64 r) ∧ I64 r ∧ Dw 89 lo b w w' := by
  have HD := Lib.hid hS.start
  have hbw := hS.src.lt.2
  clear hS
  go_enter Tryd.func31, Tryd.ntmps31
  go_wp2_with (first | (go_at_call 52; refine Calls.mono (dw_next (b := b) (lo := lo) (by repeat (first | exact HD.out.src | with_reducible refine Src.alloc ?_ _ | with_reducible refine Src.drew ?_ | with_reducible refine Src.drewN ?_ _)) (by first | assumption | decide | (unfold I64; omega))) ?_; rintro e wn ⟨r, rfl, h0, h1, hd⟩; (try replace h1 := h1.resolve_right (by decide)); replace HD := Lib.hid ((HD.out.below (by repeat (first | exact Below.refl _ _ | assumption | refine below_allocS ?_ _ | refine below_callS ?_ (by assumption) | (refine Below.alloc ?_ (by first | omega | (simp; done) | (simp; omega)) _) | (refine Below.setCell ?_ (by first | omega | (simp; done) | (simp; omega)) _) | refine Below.drew ?_ | refine below_drewN ?_ _ | (refine below_call ?_ (by assumption) (by first | omega | (simp; done) | (simp; omega))) | (refine Below.trans ?_ (by assumption))))).trans hd); have hsz := HD.out.size; clear hd) | (go_at_call 53; (first | ((with_reducible show Calls _ _ #[_, Value.slice _ 2 2] _ _); refine Calls.mono (dw_pick2 (b := b) (lo := lo) (by repeat (first | exact HD.out.src | with_reducible refine Src.alloc ?_ _ | with_reducible refine Src.drew ?_ | with_reducible refine Src.drewN ?_ _)) (by first | rfl | (simp; done)) (by first | assumption | decide | (unfold I64; omega)) (by first | assumption | decide | (unfold I64; omega))) ?_) | ((with_reducible show Calls _ _ #[_, Value.slice _ 3 3] _ _); refine Calls.mono (dw_pick3 (b := b) (lo := lo) (by repeat (first | exact HD.out.src | with_reducible refine Src.alloc ?_ _ | with_reducible refine Src.drew ?_ | with_reducible refine Src.drewN ?_ _)) (by first | rfl | (simp; done)) (by first | assumption | decide | (unfold I64; omega)) (by first | assumption | decide | (unfold I64; omega)) (by first | assumption | decide | (unfold I64; omega))) ?_) | ((with_reducible show Calls _ _ #[_, Value.slice _ 4 4] _ _); refine Calls.mono (dw_pick4 (b := b) (lo := lo) (by repeat (first | exact HD.out.src | with_reducible refine Src.alloc ?_ _ | with_reducible refine Src.drew ?_ | with_reducible refine Src.drewN ?_ _)) (by first | rfl | (simp; done)) (by first | assumption | decide | (unfold I64; omega)) (by first | assumption | decide | (unfold I64; omega)) (by first | assumption | decide | (unfold I64; omega)) (by first | assumption | decide | (unfold I64; omega))) ?_) | ((with_reducible show Calls _ _ #[_, Value.slice _ 5 5] _ _); refine Calls.mono (dw_pick5 (b := b) (lo := lo) (by repeat (first | exact HD.out.src | with_reducible refine Src.alloc ?_ _ | with_reducible refine Src.drew ?_ | with_reducible refine Src.drewN ?_ _)) (by first | rfl | (simp; done)) (by first | assumption | decide | (unfold I64; omega)) (by first | assumption | decide | (unfold I64; omega)) (by first | assumption | decide | (unfold I64; omega)) (by first | assumption | decide | (unfold I64; omega)) (by first | assumption | decide | (unfold I64; omega))) ?_)); rintro e wn ⟨r, rfl, hm, hi, hd⟩; clear hm; replace HD := Lib.hid ((HD.out.below (by repeat (first | exact Below.refl _ _ | assumption | refine below_allocS ?_ _ | refine below_callS ?_ (by assumption) | (refine Below.alloc ?_ (by first | omega | (simp; done) | (simp; omega)) _) | (refine Below.setCell ?_ (by first | omega | (simp; done) | (simp; omega)) _) | refine Below.drew ?_ | refine below_drewN ?_ _ | (refine below_call ?_ (by assumption) (by first | omega | (simp; done) | (simp; omega))) | (refine Below.trans ?_ (by assumption))))).trans hd); have hsz := HD.out.size; clear hd))
  all_goals
    go_ret
    exact ⟨_, rfl, (by first | assumption | decide | (unfold I64; omega)), HD.out⟩
set_option maxRecDepth 100000 in
set_option maxHeartbeats 1000000 in
theorem spec_l01Damage {b lo : Nat} {s : ByteArray} {w0 w : World} (hS : Dw 89 lo b w0 w) (hs : s.size ≤ 1000000) :
    Calls Tryd.prog 35 #[.pointer (some ⟨b, 0, none⟩), .string s] w fun e w' => ∃ r : ByteArray, e = .returned (.string r) ∧ Dw 89 lo b w w' := by
  have HD := Lib.hid hS.start
  have hbw := hS.src.lt.2
  clear hS
  go_enter Tryd.func35, Tryd.ntmps35
  go_wp2_with fail
  (go_at_call 52; refine Calls.mono (dw_next (b := b) (lo := lo) (by repeat (first | exact HD.out.src | with_reducible refine Src.alloc ?_ _ | with_reducible refine Src.drew ?_ | with_reducible refine Src.drewN ?_ _)) (by first | assumption | decide | (unfold I64; omega))) ?_; rintro e wn ⟨r, rfl, h0, h1, hd⟩; (try replace h1 := h1.resolve_right (by decide)); replace HD := Lib.hid ((HD.out.below (by repeat (first | exact Below.refl _ _ | assumption | refine below_allocS ?_ _ | refine below_callS ?_ (by assumption) | (refine Below.alloc ?_ (by first | omega | (simp; done) | (simp; omega)) _) | (refine Below.setCell ?_ (by first | omega | (simp; done) | (simp; omega)) _) | refine Below.drew ?_ | refine below_drewN ?_ _ | (refine below_call ?_ (by assumption) (by first | omega | (simp; done) | (simp; omega))) | (refine Below.trans ?_ (by assumption))))).trans hd); have hsz := HD.out.size; clear hd)
  obtain ⟨k, rfl⟩ := Int.eq_ofNat_of_zero_le h0
  have hk : (k : Int) ≤ (s.size : Int) := by omega
  clear h1
  go_wp2_with fail
  (go_at_call 52; refine Calls.mono (dw_next (b := b) (lo := lo) (by repeat (first | exact HD.out.src | with_reducible refine Src.alloc ?_ _ | with_reducible refine Src.drew ?_ | with_reducible refine Src.drewN ?_ _)) (by first | assumption | decide | (unfold I64; omega))) ?_; rintro e wn ⟨r, rfl, h0, h1, hd⟩; (try replace h1 := h1.resolve_right (by decide)); replace HD := Lib.hid ((HD.out.below (by repeat (first | exact Below.refl _ _ | assumption | refine below_allocS ?_ _ | refine below_callS ?_ (by assumption) | (refine Below.alloc ?_ (by first | omega | (simp; done) | (simp; omega)) _) | (refine Below.setCell ?_ (by first | omega | (simp; done) | (simp; omega)) _) | refine Below.drew ?_ | refine below_drewN ?_ _ | (refine below_call ?_ (by assumption) (by first | omega | (simp; done) | (simp; omega))) | (refine Below.trans ?_ (by assumption))))).trans hd); have hsz := HD.out.size; clear hd)
  by_cases q0 : r = 0
  · subst q0
    go_wp2_with fail
    go_ret
    exact ⟨_, rfl, HD.out⟩
  · have q0' : (r == 0) = false := by simpa using q0
    by_cases q1 : r = 1
    · subst q1
      clear q0
      go_wp2_with fail
      have hd0 : Dw 89 lo b wn wn := HD.out.start
      have g1 : ¬ 9223372036854775807 < min k s.size + 1 := by omega
      have g2 : ¬ 9223372036854775807 < min k s.size + 1 + (s.size - k) := by omega
      refine wp_region_noPanic ?_
      refine wp_region_held_drew (S := fun wx => Dw 89 lo b wn wx) (by kernel_rfl) (Dw.drew hd0) (fun hHeld => ?_)
      refine wpAnyH_take (i := 0) (v := ?_) (by simp only [List.getElem?_toArray, List.getElem?_cons_succ, List.getElem?_cons_zero] <;> rfl) (by kernel_rfl) (by kernel_rfl) (by kernel_rfl) (fun _ _ _ h => h) (Or.inl ⟨by rfl, ?_⟩) (by assumption) ?_
      rotate_left
      · (intro wq hSw; (try dsimp only at hSw); go_simp; try with_reducible rfl)
      try simp only [Act.put, List.setIfInBounds_toArray, List.set_cons_zero, List.set_cons_succ]
      refine wpAnyH_take (i := 1) (v := ?_) (by simp only [List.getElem?_toArray, List.getElem?_cons_succ, List.getElem?_cons_zero] <;> rfl) (by kernel_rfl) (by kernel_rfl) (by kernel_rfl) (fun _ _ _ h => h) (Or.inl ⟨by rfl, ?_⟩) (by assumption) ?_
      rotate_left
      · (intro wq hSw; (try dsimp only at hSw); go_simp; try with_reducible rfl)
      try simp only [Act.put, List.setIfInBounds_toArray, List.set_cons_zero, List.set_cons_succ]
      refine wpAnyH_take (i := 2) (v := ?_) (by simp only [List.getElem?_toArray, List.getElem?_cons_succ, List.getElem?_cons_zero] <;> rfl) (by kernel_rfl) (by kernel_rfl) (by kernel_rfl) (fun _ _ _ h => h) (Or.inl ⟨by rfl, ?_⟩) (by assumption) ?_
      rotate_left
      · (intro wq hSw; (try dsimp only at hSw); go_simp; try with_reducible rfl)
      try simp only [Act.put, List.setIfInBounds_toArray, List.set_cons_zero, List.set_cons_succ]
      refine wpAnyH_take (i := 4) (v := ?_) (by simp only [List.getElem?_toArray, List.getElem?_cons_succ, List.getElem?_cons_zero] <;> rfl) (by kernel_rfl) (by kernel_rfl) (by kernel_rfl) (fun _ _ _ h => h) (Or.inl ⟨by rfl, ?_⟩) (by assumption) ?_
      rotate_left
      · (intro wq hSw; (try dsimp only at hSw); go_simp; try with_reducible rfl)
      try simp only [Act.put, List.setIfInBounds_toArray, List.set_cons_zero, List.set_cons_succ]
      refine wpAnyH_take (i := 9) (v := ?_) (by simp only [List.getElem?_toArray, List.getElem?_cons_succ, List.getElem?_cons_zero] <;> rfl) (by kernel_rfl) (by kernel_rfl) (by kernel_rfl) (fun _ _ _ h => h) (Or.inl ⟨by rfl, ?_⟩) (by assumption) ?_
      rotate_left
      · (intro wq hSw; (try dsimp only at hSw); go_simp; try with_reducible rfl)
      try simp only [Act.put, List.setIfInBounds_toArray, List.set_cons_zero, List.set_cons_succ]
      refine wpAnyH_take (i := 10) (v := ?_) (by simp only [List.getElem?_toArray, List.getElem?_cons_succ, List.getElem?_cons_zero] <;> rfl) (by kernel_rfl) (by kernel_rfl) (by kernel_rfl) (fun _ _ _ h => h) (Or.inl ⟨by rfl, ?_⟩) (by assumption) ?_
      rotate_left
      · (intro wq hSw; (try dsimp only at hSw); go_simp; try with_reducible rfl)
      try simp only [Act.put, List.setIfInBounds_toArray, List.set_cons_zero, List.set_cons_succ]
      refine wpAnyH_take (i := 11) (v := ?_) (by simp only [List.getElem?_toArray, List.getElem?_cons_succ, List.getElem?_cons_zero] <;> rfl) (by kernel_rfl) (by kernel_rfl) (by kernel_rfl) (fun _ _ _ h => h) (Or.inl ⟨by rfl, ?_⟩) (by assumption) ?_
      rotate_left
      · (intro wq hSw; (try dsimp only at hSw); go_simp; try with_reducible rfl)
      try simp only [Act.put, List.setIfInBounds_toArray, List.set_cons_zero, List.set_cons_succ]
      refine wpAnyH_ready (rs := [3, 5]) (by kernel_rfl) (by simp) ?_
      refine AllReadyH.cons rfl (fun K hK => ?_) (AllReadyH.cons rfl (fun K hK => ?_) AllReadyH.nil)
      · go_simp
        refine hK.out _ _ (Dw.drew (Dw.alloc hd0 _)) (fun hHeld => ?_)
        clear hK K
        try simp only [Act.put, List.setIfInBounds_toArray, List.set_cons_zero, List.set_cons_succ]
        refine wpAnyH_ready (rs := [5]) (by kernel_rfl) (by simp) ?_
        refine AllReadyH.cons rfl (fun K hK => ?_) AllReadyH.nil
        go_simp
        refine Calls.mono (dw_next (b := b) (lo := lo) hHeld.src (by decide)) ?_
        rintro e w2 ⟨r2, rfl, h02, h12, hdx⟩
        have hnb : wn.heap.size ≠ b := by omega
        have hB : Blk w2 wn.heap.size #[.string ⟨#[48]⟩, .string ⟨#[49]⟩, .string ⟨#[32]⟩, .string ⟨#[45]⟩, .string ⟨#[46]⟩, .string ⟨#[97]⟩, .string ⟨#[10]⟩, .string ⟨#[58]⟩] 9 := ((Blk.made wn #[.string ⟨#[48]⟩, .string ⟨#[49]⟩, .string ⟨#[32]⟩, .string ⟨#[45]⟩, .string ⟨#[46]⟩, .string ⟨#[97]⟩, .string ⟨#[10]⟩, .string ⟨#[58]⟩] 9).drew).dw hdx hnb
        go_wp2_with fail
        refine hK.out _ _ (hHeld.trans hdx) (fun hHeld => ?_)
        clear hK K
        try simp only [Act.put, List.setIfInBounds_toArray, List.set_cons_zero, List.set_cons_succ]
        have h8 : r2 = 0 ∨ r2 = 1 ∨ r2 = 2 ∨ r2 = 3 ∨ r2 = 4 ∨ r2 = 5 ∨ r2 = 6 ∨ r2 = 7 := by omega
        have c0 := hB.cell 0
        have c1 := hB.cell 1
        have c2 := hB.cell 2
        have c3 := hB.cell 3
        have c4 := hB.cell 4
        have c5 := hB.cell 5
        have c6 := hB.cell 6
        have c7 := hB.cell 7
        simp at c0 c1 c2 c3 c4 c5 c6 c7
        clear hB h02 h12
        rcases h8 with rfl | rfl | rfl | rfl | rfl | rfl | rfl | rfl
        all_goals
          refine wpAnyH_take (i := 6) (v := ?_) (by simp only [List.getElem?_toArray, List.getElem?_cons_succ, List.getElem?_cons_zero] <;> rfl) (by kernel_rfl) (by kernel_rfl) (by kernel_rfl) (fun _ _ _ h => h) (Or.inl ⟨by rfl, ?_⟩) (by assumption) ?_
          rotate_left
          · (intro wq hSw; (try dsimp only at hSw); go_simp; try with_reducible rfl)
          try simp only [Act.put, List.setIfInBounds_toArray, List.set_cons_zero, List.set_cons_succ]
          refine wpAnyH_ready (rs := [7]) (by kernel_rfl) (by simp) ?_
          refine AllReadyH.cons rfl (fun K hK => ?_) AllReadyH.nil
          go_simp
          refine hK.out _ _ hHeld (fun hHeld => ?_)
          clear hK K
          try simp only [Act.put, List.setIfInBounds_toArray, List.set_cons_zero, List.set_cons_succ]
          refine wpAnyH_take (i := 8) (v := ?_) (by simp only [List.getElem?_toArray, List.getElem?_cons_succ, List.getElem?_cons_zero] <;> rfl) (by kernel_rfl) (by kernel_rfl) (by kernel_rfl) (fun _ _ _ h => h) (Or.inl ⟨by rfl, ?_⟩) (by assumption) ?_
          rotate_left
          · (intro wq hSw; (try dsimp only at hSw); go_simp; try with_reducible rfl)
          try simp only [Act.put, List.setIfInBounds_toArray, List.set_cons_zero, List.set_cons_succ]
          refine wpAnyH_take (i := 12) (v := ?_) (by simp only [List.getElem?_toArray, List.getElem?_cons_succ, List.getElem?_cons_zero] <;> rfl) (by kernel_rfl) (by kernel_rfl) (by kernel_rfl) (fun _ _ _ h => h) (Or.inl ⟨by rfl, ?_⟩) (by assumption) ?_
          rotate_left
          · (intro wq hSw; (try dsimp only at hSw); go_simp; try with_reducible rfl)
          try simp only [Act.put, List.setIfInBounds_toArray, List.set_cons_zero, List.set_cons_succ]
          refine wpAnyH_take (i := 13) (v := ?_) (by simp only [List.getElem?_toArray, List.getElem?_cons_succ, List.getElem?_cons_zero] <;> rfl) (by kernel_rfl) (by kernel_rfl) (by kernel_rfl) (fun _ _ _ h => h) (Or.inl ⟨by rfl, ?_⟩) (by assumption) ?_
          rotate_left
          · (intro wq hSw; (try dsimp only at hSw); go_simp; try with_reducible rfl)
          try simp only [Act.put, List.setIfInBounds_toArray, List.set_cons_zero, List.set_cons_succ]
          refine wpAnyH_done (by kernel_rfl) ?_ _
          refine NoPanic.normal ?_
          go_wp2
          go_ret
          exact ⟨_, rfl, HD.out.trans hHeld⟩
      · go_simp
        refine Calls.mono (dw_next (b := b) (lo := lo) hHeld.src (by decide)) ?_
        rintro e w2 ⟨r2, rfl, h02, h12, hdx⟩
        have hB : Blk (w2.alloc (.cells #[.string ⟨#[48]⟩, .string ⟨#[49]⟩, .string ⟨#[32]⟩, .string ⟨#[45]⟩, .string ⟨#[46]⟩, .string ⟨#[97]⟩, .string ⟨#[10]⟩, .string ⟨#[58]⟩] 9)) w2.heap.size #[.string ⟨#[48]⟩, .string ⟨#[49]⟩, .string ⟨#[32]⟩, .string ⟨#[45]⟩, .string ⟨#[46]⟩, .string ⟨#[97]⟩, .string ⟨#[10]⟩, .string ⟨#[58]⟩] 9 := Blk.made w2 #[.string ⟨#[48]⟩, .string ⟨#[49]⟩, .string ⟨#[32]⟩, .string ⟨#[45]⟩, .string ⟨#[46]⟩, .string ⟨#[97]⟩, .string ⟨#[10]⟩, .string ⟨#[58]⟩] 9
        go_wp2_with fail
        refine hK.out _ _ (hHeld.trans hdx) (fun hHeld => ?_)
        clear hK K
        try simp only [Act.put, List.setIfInBounds_toArray, List.set_cons_zero, List.set_cons_succ]
        refine wpAnyH_ready (rs := [3]) (by kernel_rfl) (by simp) ?_
        refine AllReadyH.cons rfl (fun K hK => ?_) AllReadyH.nil
        go_simp
        refine hK.out _ _ (hHeld.alloc _) (fun hHeld => ?_)
        clear hK K
        try simp only [Act.put, List.setIfInBounds_toArray, List.set_cons_zero, List.set_cons_succ]
        have h8 : r2 = 0 ∨ r2 = 1 ∨ r2 = 2 ∨ r2 = 3 ∨ r2 = 4 ∨ r2 = 5 ∨ r2 = 6 ∨ r2 = 7 := by omega
        have c0 := hB.cell 0
        have c1 := hB.cell 1
        have c2 := hB.cell 2
        have c3 := hB.cell 3
        have c4 := hB.cell 4
        have c5 := hB.cell 5
        have c6 := hB.cell 6
        have c7 := hB.cell 7
        simp at c0 c1 c2 c3 c4 c5 c6 c7
        clear hB h02 h12
        rcases h8 with rfl | rfl | rfl | rfl | rfl | rfl | rfl | rfl
        all_goals
          refine wpAnyH_take (i := 6) (v := ?_) (by simp only [List.getElem?_toArray, List.getElem?_cons_succ, List.getElem?_cons_zero] <;> rfl) (by kernel_rfl) (by kernel_rfl) (by kernel_rfl) (fun _ _ _ h => h) (Or.inl ⟨by rfl, ?_⟩) (by assumption) ?_
          rotate_left
          · (intro wq hSw; (try dsimp only at hSw); go_simp; try with_reducible rfl)
          try simp only [Act.put, List.setIfInBounds_toArray, List.set_cons_zero, List.set_cons_succ]
          refine wpAnyH_ready (rs := [7]) (by kernel_rfl) (by simp) ?_
          refine AllReadyH.cons rfl (fun K hK => ?_) AllReadyH.nil
          go_simp
          refine hK.out _ _ hHeld (fun hHeld => ?_)
          clear hK K
          try simp only [Act.put, List.setIfInBounds_toArray, List.set_cons_zero, List.set_cons_succ]
          refine wpAnyH_take (i := 8) (v := ?_) (by simp only [List.getElem?_toArray, List.getElem?_cons_succ, List.getElem?_cons_zero] <;> rfl) (by kernel_rfl) (by kernel_rfl) (by kernel_rfl) (fun _ _ _ h => h) (Or.inl ⟨by rfl, ?_⟩) (by assumption) ?_
          rotate_left
          · (intro wq hSw; (try dsimp only at hSw); go_simp; try with_reducible rfl)
          try simp only [Act.put, List.setIfInBounds_toArray, List.set_cons_zero, List.set_cons_succ]
          refine wpAnyH_take (i := 12) (v := ?_) (by simp only [List.getElem?_toArray, List.getElem?_cons_succ, List.getElem?_cons_zero] <;> rfl) (by kernel_rfl) (by kernel_rfl) (by kernel_rfl) (fun _ _ _ h => h) (Or.inl ⟨by rfl, ?_⟩) (by assumption) ?_
          rotate_left
          · (intro wq hSw; (try dsimp only at hSw); go_simp; try with_reducible rfl)
          try simp only [Act.put, List.setIfInBounds_toArray, List.set_cons_zero, List.set_cons_succ]
          refine wpAnyH_take (i := 13) (v := ?_) (by simp only [List.getElem?_toArray, List.getElem?_cons_succ, List.getElem?_cons_zero] <;> rfl) (by kernel_rfl) (by kernel_rfl) (by kernel_rfl) (fun _ _ _ h => h) (Or.inl ⟨by rfl, ?_⟩) (by assumption) ?_
          rotate_left
          · (intro wq hSw; (try dsimp only at hSw); go_simp; try with_reducible rfl)
          try simp only [Act.put, List.setIfInBounds_toArray, List.set_cons_zero, List.set_cons_succ]
          refine wpAnyH_done (by kernel_rfl) ?_ _
          refine NoPanic.normal ?_
          go_wp2
          go_ret
          exact ⟨_, rfl, HD.out.trans hHeld⟩
    · have q1' : (r == 1) = false := by simpa using q1
      by_cases q2 : r = 2
      · subst q2
        clear q0 q1
        by_cases hlt : k < s.size
        · have hlt' : (k : Int) < (s.size : Int) := by omega
          go_wp2_with fail
          go_quiet (fail)
          go_wp2
          go_ret
          exact ⟨_, rfl, HD.out.drewN _⟩
        · have hlt' : ¬ (k : Int) < (s.size : Int) := by omega
          go_wp2_with fail
          go_ret
          exact ⟨_, rfl, HD.out⟩
      · have q2' : (r == 2) = false := by simpa using q2
        clear q0 q1 q2
        go_wp2_with fail
        go_ret
        exact ⟨_, rfl, HD.out⟩
end Go.Proofs.YtoaccicfmfiemaaDoor
