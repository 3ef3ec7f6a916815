/- Draws of lists of tokens, walked. -/
import Derived.Test.YtjneodmohkpckaaDoorEt
import Derived.Test.YtjneodmohkpckaaDoorT12l
namespace Go.Proofs.YtjneodmohkpckaaDoor
open Go.RowKit
set_option linter.unusedVariables false
set_option linter.unusedSimpArgs false
set_option maxHeartbeats 2000000 in
theorem spec_l12DrawList {b lo : Nat} {w : World} (hS : Src 69 w lo b) :
    Calls Tryd.prog 22 #[.pointer (some ⟨b, 0, none⟩)] w fun e w' => ∃ (a : Option Addr) (n c : Nat) (l : List TR), e = .returned (.slice a n c) ∧ OwnTk w' w.heap.size a n c l ∧ n ≤ 801 ∧ (∀ x ∈ l, x.t.size ≤ 13) ∧ Dw 69 lo b w w' := by
  have HS := Lib.hid hS
  clear hS
  go_enter Tryd.func22, Tryd.ntmps22
  go_wp2_with fail
  obtain ⟨wA, hwA⟩ : ∃ v, v = w.alloc (.cells #[] 33) := ⟨_, rfl⟩
  have hbA : Below w.heap.size w wA := by rw [hwA]; exact below_alloc1 (Below.refl _ _) _
  have O0 := Lib.hid (show OwnTk wA w.heap.size (some ⟨w.heap.size, 0, none⟩) 0 0 [] by rw [hwA]; exact OwnF.emp w (Nat.le_refl _) (fun _ => rfl))
  have D0 := Lib.hid ((Dw.of HS.out).below hbA)
  have hbl := HS.out.lt.2
  rw [← hwA]
  clear hwA hbA HS
  refine Calls.mono (dw_next D0.out.src (by decide)) ?_
  rintro e w1 ⟨y, rfl, hy0, hy1, hd⟩
  have D1 := Lib.hid (D0.out.trans hd)
  have O1 := Lib.hid (O0.out.dw hd (by omega))
  have hs1 := hd.size
  clear hd D0 O0
  go_wp2_with fail
  go_loopw [3, 4] (fun s3 s4 wr => ∃ (a : Option Addr) (q c : Nat) (l : List TR) (k : Int), s3 = .slice a q c ∧ s4 = .int .i64 k ∧ 0 ≤ k ∧ (q : Int) + k ≤ 12 ∧ w.heap.size ≤ wr.heap.size ∧ Hid (Dw 69 lo b w wr) ∧ Hid (OwnTk wr w.heap.size a q c l) ∧ Hid (∀ x ∈ l, x.t.size ≤ 13)) (fun _ s4 _ => (intOf s4).toNat)
  case atStart => exact ⟨_, 0, 0, [], y, rfl, rfl, hy0, by omega, D1.out.size, D1, O1, Lib.hid (fun x h => by cases h)⟩
  case round =>
    clear O1 D1
    obtain ⟨a, q, c, l, k, rfl, rfl, hk0, hqk, hsr, D, O, HA⟩ := hrel
    by_cases hk : 0 < k
    · go_wp2_with fail
      refine Calls.mono (spec_l12DrawToken D.out.src) ?_
      rintro e w2 ⟨tk, t, rfl, htk, ht, hd⟩
      have D2 := Lib.hid (D.out.trans hd)
      have O2 := Lib.hid (O.out.dw hd hbl)
      have hs2 := hd.size
      have HX := Lib.hid (show TR.ok ⟨tk, t⟩ from ⟨htk, by show t.size ≤ maxLen; unfold maxLen; omega⟩)
      have HA2 := Lib.hid (show ∀ x ∈ l ++ [⟨tk, t⟩], x.t.size ≤ 13 by
        intro x hx
        rcases List.mem_append.1 hx with hx | hx
        · exact HA.out x hx
        · simp at hx; subst hx; exact ht)
      have ek : IntKind.i64.wrap (k - 1) = k - 1 := IntWalk.i64_in _ (by omega)
      clear hd D O HA
      go_wp2_with (at_builtin; refine appF (k := 2) (m := 1) (enc := TR.enc) (ok := TR.ok) (l2 := [⟨tk, t⟩]) rfl _ _ rfl Tryd.underlying24 Tryd.infoTk rfl (by decide) (by decide) TR.one w.heap.size _ _ _ _ O2.out rfl _ rfl rfl rfl rfl (by intro x hx; simp at hx; subst hx; exact HX.out) (by omega) (by decide) D2.out (Nat.le_refl _) (by omega) ?_; intro a3 c3 w3 ho3 hb3 hd3; refine Hid.out ?_)
      have O3 := Lib.hid ho3
      have D3 := Lib.hid hd3
      have hs3 := hd3.size
      clear ho3 hb3 hd3 D2 O2
      refine Lib.hid ?_
      go_wp2_with fail
      go_roundw
      case rel => exact ⟨a3, q + 1, c3, _, k - 1, rfl, rfl, by omega, by omega, hs3, D3, O3, HA2⟩
      case measure => simp only [intOf]; omega
    · obtain rfl : k = 0 := by omega
      have hq12 : q ≤ 12 := by omega
      go_wp2_with fail
      refine Calls.mono (dw_next D.out.src (by decide)) ?_
      rintro e w2 ⟨z, rfl, hz0, hz1, hd⟩
      have D2 := Lib.hid (D.out.trans hd)
      have O2 := Lib.hid (O.out.dw hd hbl)
      have hs2 := hd.size
      clear hd D O hqk
      by_cases z0 : z = 0
      · subst z0
        go_wp2_with fail
        go_loopw [3] (fun s3 wr => ∃ (a : Option Addr) (q c : Nat) (l : List TR), s3 = .slice a q c ∧ q ≤ 801 ∧ w.heap.size ≤ wr.heap.size ∧ Hid (Dw 69 lo b w wr) ∧ Hid (OwnTk wr w.heap.size a q c l) ∧ Hid (∀ x ∈ l, x.t.size ≤ 13)) (fun s3 _ => 900 - (match s3 with | .slice _ n _ => n | _ => 0))
        case atStart => exact ⟨a, q, c, l, rfl, by omega, D2.out.size, D2, O2, HA⟩
        case round =>
          clear O2 D2 HA
          obtain ⟨a, q, c, l, rfl, hq, hsr, D, O, HA⟩ := hrel
          go_wp2_with fail
          refine Calls.mono (dw_next D.out.src (by decide)) ?_
          rintro e w2 ⟨z, rfl, hz0, hz1, hd⟩
          have D2 := Lib.hid (D.out.trans hd)
          have O2 := Lib.hid (O.out.dw hd hbl)
          have hs2 := hd.size
          clear hd D O
          have ez : IntKind.i64.wrap (800 + z) = 800 + z := IntWalk.i64_in _ (by omega)
          by_cases hz : (q : Int) < 800 + z
          · have HX := Lib.hid (show TR.ok ⟨3, ⟨#[59]⟩⟩ from ⟨by decide, by decide⟩)
            have HA2 := Lib.hid (show ∀ x ∈ l ++ [⟨3, ⟨#[59]⟩⟩], x.t.size ≤ 13 by
              intro x hx
              rcases List.mem_append.1 hx with hx | hx
              · exact HA.out x hx
              · simp at hx; subst hx; decide)
            go_wp2_with (at_builtin; refine appF (k := 2) (m := 1) (enc := TR.enc) (ok := TR.ok) (l2 := [⟨3, ⟨#[59]⟩⟩]) rfl _ _ rfl Tryd.underlying24 Tryd.infoTk rfl (by decide) (by decide) TR.one w.heap.size _ _ _ _ O2.out rfl _ rfl rfl rfl rfl (by intro x hx; simp at hx; subst hx; exact HX.out) (by omega) (by decide) D2.out (Nat.le_refl _) (by omega) ?_; intro a3 c3 w3 ho3 hb3 hd3; refine Hid.out ?_)
            have O3 := Lib.hid ho3
            have D3 := Lib.hid hd3
            have hs3 := hd3.size
            clear ho3 hb3 hd3 D2 O2
            refine Lib.hid ?_
            go_wp2_with fail
            go_roundw
            case rel => exact ⟨a3, q + 1, c3, _, rfl, by omega, hs3, D3, O3, HA2⟩
            case measure => show 900 - (q + 1) < 900 - q; omega
          · go_wp2
            go_ret
            exact ⟨a, q, c, l, rfl, O2.out, by omega, HA.out, D2.out⟩
      · have z0' : (z == 0) = false := by simpa using z0
        go_wp2
        go_ret
        exact ⟨a, q, c, l, rfl, O2.out, by omega, HA.out, D2.out⟩
end Go.Proofs.YtjneodmohkpckaaDoor
