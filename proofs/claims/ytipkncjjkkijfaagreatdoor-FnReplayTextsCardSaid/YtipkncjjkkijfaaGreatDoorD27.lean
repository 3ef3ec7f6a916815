/- Draws of layer 27, walked. -/
import Derived.Test.YtipkncjjkkijfaaGreatDoorZ7
namespace Go.Proofs.YtipkncjjkkijfaaGreatDoor
open Go.RowKit
set_option linter.unusedVariables false
set_option linter.unusedSimpArgs false
theorem b1D (x : UInt8) : (⟨#[x]⟩ : ByteArray).size = 1 := rfl
set_option maxRecDepth 100000 in
set_option maxHeartbeats 1000000 in
theorem spec_l01Damage_z {b lo : Nat} {s : ByteArray} {w0 w : World} (hS : Dw 65 lo b w0 w) (hs : s.size ≤ 1000000) :
    Calls Tryz.prog 20 #[.pointer (some ⟨b, 0, none⟩), .string s] w fun e w' => ∃ r : ByteArray, e = .returned (.string r) ∧ Dw 65 lo b w w' ∧ r.size ≤ s.size + 1 := by
  have HD := Lib.hid hS.start
  have hbw := hS.src.lt.2
  clear hS
  go_enter Tryz.func20, Tryz.ntmps20
  go_wp2_with fail
  (go_at_call 19; refine Calls.mono (dw_next (b := b) (lo := lo) (by repeat (first | exact HD.out.src | with_reducible refine Src.alloc ?_ _ | with_reducible refine Src.drew ?_ | with_reducible refine Src.drewN ?_ _)) (by first | assumption | decide | (unfold I64; omega))) ?_; rintro e wn ⟨r, rfl, h0, h1, hd⟩; (try replace h1 := h1.resolve_right (by decide)); replace HD := Lib.hid ((HD.out.below bel).trans hd); have hsz := HD.out.size; clear hd)
  obtain ⟨k, rfl⟩ := Int.eq_ofNat_of_zero_le h0
  have hk : (k : Int) ≤ (s.size : Int) := by omega
  clear h1
  go_wp2_with fail
  (go_at_call 19; refine Calls.mono (dw_next (b := b) (lo := lo) (by repeat (first | exact HD.out.src | with_reducible refine Src.alloc ?_ _ | with_reducible refine Src.drew ?_ | with_reducible refine Src.drewN ?_ _)) (by first | assumption | decide | (unfold I64; omega))) ?_; rintro e wn ⟨r, rfl, h0, h1, hd⟩; (try replace h1 := h1.resolve_right (by decide)); replace HD := Lib.hid ((HD.out.below bel).trans hd); have hsz := HD.out.size; clear hd)
  by_cases q0 : r = 0
  · subst q0
    go_wp2_with fail
    go_ret
    exact ⟨_, rfl, HD.out, by first | omega | (simp [b1D]; done) | (simp [b1D]; omega)⟩
  · have q0' : (r == 0) = false := by simpa using q0
    by_cases q1 : r = 1
    · subst q1
      clear q0
      go_wp2_with fail
      have hd0 : Dw 65 lo b wn wn := HD.out.start
      have g1 : ¬ 9223372036854775807 < min k s.size + 1 := by omega
      have g2 : ¬ 9223372036854775807 < min k s.size + 1 + (s.size - k) := by omega
      refine wp_region_noPanic ?_
      refine wp_region_held_drew (S := fun wx => Dw 65 lo b wn wx) (by kernel_rfl) (Dw.drew hd0) (fun hHeld => ?_)
      refine tkH 0 ?_
      try simp only [Act.put, s1, s2, s3]
      refine tkH 1 ?_
      try simp only [Act.put, s1, s2, s3]
      refine tkH 2 ?_
      try simp only [Act.put, s1, s2, s3]
      refine tkH 4 ?_
      try simp only [Act.put, s1, s2, s3]
      refine tkH 9 ?_
      try simp only [Act.put, s1, s2, s3]
      refine tkH 10 ?_
      try simp only [Act.put, s1, s2, s3]
      refine tkH 11 ?_
      try simp only [Act.put, s1, s2, s3]
      refine wpAnyH_ready (rs := [3, 5]) (by kernel_rfl) (by simp) ?_
      refine AllReadyH.cons rfl (fun K hK => ?_) (AllReadyH.cons rfl (fun K hK => ?_) AllReadyH.nil)
      · go_simp
        refine hK.out _ _ (Dw.drew (Dw.alloc hd0 _)) (fun hHeld => ?_)
        clear hK K
        try simp only [Act.put, s1, s2, s3]
        refine wpAnyH_ready (rs := [5]) (by kernel_rfl) (by simp) ?_
        refine AllReadyH.cons rfl (fun K hK => ?_) AllReadyH.nil
        go_simp
        refine Calls.mono (dw_next (b := b) (lo := lo) hHeld.src (by decide)) ?_
        rintro e w2 ⟨r2, rfl, h02, h12, hdx⟩
        have hnb : wn.heap.size ≠ b := by omega
        have hB : Blk w2 wn.heap.size #[.string ⟨#[48]⟩, .string ⟨#[49]⟩, .string ⟨#[32]⟩, .string ⟨#[45]⟩, .string ⟨#[46]⟩, .string ⟨#[97]⟩, .string ⟨#[10]⟩, .string ⟨#[58]⟩] 9 := ((Blk.made wn #[.string ⟨#[48]⟩, .string ⟨#[49]⟩, .string ⟨#[32]⟩, .string ⟨#[45]⟩, .string ⟨#[46]⟩, .string ⟨#[97]⟩, .string ⟨#[10]⟩, .string ⟨#[58]⟩] 9).drew).dw hdx hnb
        go_wp2_with fail
        refine hK.out _ _ (hHeld.trans hdx) (fun hHeld => ?_)
        clear hK K
        try simp only [Act.put, s1, s2, s3]
        have h8 : r2 = 0 ∨ r2 = 1 ∨ r2 = 2 ∨ r2 = 3 ∨ r2 = 4 ∨ r2 = 5 ∨ r2 = 6 ∨ r2 = 7 := by omega
        have c0 := hB.cell 0
        have c1 := hB.cell 1
        have c2 := hB.cell 2
        have c3 := hB.cell 3
        have c4 := hB.cell 4
        have c5 := hB.cell 5
        have c6 := hB.cell 6
        have c7 := hB.cell 7
        simp at c0 c1 c2 c3 c4 c5 c6 c7
        clear hB h02 h12
        rcases h8 with rfl | rfl | rfl | rfl | rfl | rfl | rfl | rfl
        all_goals
          refine tkH 6 ?_
          try simp only [Act.put, s1, s2, s3]
          refine wpAnyH_ready (rs := [7]) (by kernel_rfl) (by simp) ?_
          refine AllReadyH.cons rfl (fun K hK => ?_) AllReadyH.nil
          go_simp
          refine hK.out _ _ hHeld (fun hHeld => ?_)
          clear hK K
          try simp only [Act.put, s1, s2, s3]
          refine tkH 8 ?_
          try simp only [Act.put, s1, s2, s3]
          refine tkH 12 ?_
          try simp only [Act.put, s1, s2, s3]
          refine tkH 13 ?_
          try simp only [Act.put, s1, s2, s3]
          refine wpAnyH_done (by kernel_rfl) ?_ _
          refine NoPanic.normal ?_
          go_wp2
          go_ret
          exact ⟨_, rfl, HD.out.trans hHeld, by first | omega | (simp [b1D]; done) | (simp [b1D]; omega)⟩
      · go_simp
        refine Calls.mono (dw_next (b := b) (lo := lo) hHeld.src (by decide)) ?_
        rintro e w2 ⟨r2, rfl, h02, h12, hdx⟩
        have hB : Blk (w2.alloc (.cells #[.string ⟨#[48]⟩, .string ⟨#[49]⟩, .string ⟨#[32]⟩, .string ⟨#[45]⟩, .string ⟨#[46]⟩, .string ⟨#[97]⟩, .string ⟨#[10]⟩, .string ⟨#[58]⟩] 9)) w2.heap.size #[.string ⟨#[48]⟩, .string ⟨#[49]⟩, .string ⟨#[32]⟩, .string ⟨#[45]⟩, .string ⟨#[46]⟩, .string ⟨#[97]⟩, .string ⟨#[10]⟩, .string ⟨#[58]⟩] 9 := Blk.made w2 #[.string ⟨#[48]⟩, .string ⟨#[49]⟩, .string ⟨#[32]⟩, .string ⟨#[45]⟩, .string ⟨#[46]⟩, .string ⟨#[97]⟩, .string ⟨#[10]⟩, .string ⟨#[58]⟩] 9
        go_wp2_with fail
        refine hK.out _ _ (hHeld.trans hdx) (fun hHeld => ?_)
        clear hK K
        try simp only [Act.put, s1, s2, s3]
        refine wpAnyH_ready (rs := [3]) (by kernel_rfl) (by simp) ?_
        refine AllReadyH.cons rfl (fun K hK => ?_) AllReadyH.nil
        go_simp
        refine hK.out _ _ (hHeld.alloc _) (fun hHeld => ?_)
        clear hK K
        try simp only [Act.put, s1, s2, s3]
        have h8 : r2 = 0 ∨ r2 = 1 ∨ r2 = 2 ∨ r2 = 3 ∨ r2 = 4 ∨ r2 = 5 ∨ r2 = 6 ∨ r2 = 7 := by omega
        have c0 := hB.cell 0
        have c1 := hB.cell 1
        have c2 := hB.cell 2
        have c3 := hB.cell 3
        have c4 := hB.cell 4
        have c5 := hB.cell 5
        have c6 := hB.cell 6
        have c7 := hB.cell 7
        simp at c0 c1 c2 c3 c4 c5 c6 c7
        clear hB h02 h12
        rcases h8 with rfl | rfl | rfl | rfl | rfl | rfl | rfl | rfl
        all_goals
          refine tkH 6 ?_
          try simp only [Act.put, s1, s2, s3]
          refine wpAnyH_ready (rs := [7]) (by kernel_rfl) (by simp) ?_
          refine AllReadyH.cons rfl (fun K hK => ?_) AllReadyH.nil
          go_simp
          refine hK.out _ _ hHeld (fun hHeld => ?_)
          clear hK K
          try simp only [Act.put, s1, s2, s3]
          refine tkH 8 ?_
          try simp only [Act.put, s1, s2, s3]
          refine tkH 12 ?_
          try simp only [Act.put, s1, s2, s3]
          refine tkH 13 ?_
          try simp only [Act.put, s1, s2, s3]
          refine wpAnyH_done (by kernel_rfl) ?_ _
          refine NoPanic.normal ?_
          go_wp2
          go_ret
          exact ⟨_, rfl, HD.out.trans hHeld, by first | omega | (simp [b1D]; done) | (simp [b1D]; omega)⟩
    · have q1' : (r == 1) = false := by simpa using q1
      by_cases q2 : r = 2
      · subst q2
        clear q0 q1
        by_cases hlt : k < s.size
        · have hlt' : (k : Int) < (s.size : Int) := by omega
          go_wp2_with fail
          go_quiet (fail)
          go_wp2
          go_ret
          exact ⟨_, rfl, HD.out.drewN _, by first | omega | (simp [b1D]; done) | (simp [b1D]; omega)⟩
        · have hlt' : ¬ (k : Int) < (s.size : Int) := by omega
          go_wp2_with fail
          go_ret
          exact ⟨_, rfl, HD.out, by first | omega | (simp [b1D]; done) | (simp [b1D]; omega)⟩
      · have q2' : (r == 2) = false := by simpa using q2
        clear q0 q1 q2
        go_wp2_with fail
        go_ret
        exact ⟨_, rfl, HD.out, by first | omega | (simp [b1D]; done) | (simp [b1D]; omega)⟩
theorem spec_l01Damage {b lo : Nat} {s : ByteArray} {w0 w : World} (hS : Dw 65 lo b w0 w) (hs : s.size ≤ 1000000) :
    Calls Tryz.prog 20 #[.pointer (some ⟨b, 0, none⟩), .string s] w fun e w' => ∃ r : ByteArray, e = .returned (.string r) ∧ Dw 65 lo b w w' :=
  (spec_l01Damage_z hS hs).mono fun e w' ⟨r, h1, h2, _⟩ => ⟨r, h1, h2⟩
end Go.Proofs.YtipkncjjkkijfaaGreatDoor
