/- Draws of texts, walked. -/
import Derived.Test.YtjneodmohkpckaaGreatDoorEu
namespace Go.Proofs.YtjneodmohkpckaaGreatDoor
open Go.RowKit
set_option linter.unusedVariables false
set_option linter.unusedSimpArgs false
set_option maxRecDepth 100000 in
set_option maxHeartbeats 4000000 in
theorem spec_l12Draw {b lo : Nat} {w : World} (hS : Src 107 w lo b) :
    Calls Tryz.prog 63 #[.pointer (some ⟨b, 0, none⟩)] w fun e w' => ∃ t, e = .returned (.string t) ∧ t.size ≤ 6001 ∧ Dw 107 lo b w w' := by
  have HS := Lib.hid hS
  clear hS
  go_enter Tryz.func63, Tryz.ntmps63
  go_wp2_with fail
  have hbl := HS.out.lt.2
  refine Calls.mono (dw_next HS.out (by decide)) ?_
  rintro e w1 ⟨y, rfl, hy0, hy1, hd⟩
  have D1 := Lib.hid hd
  have hs1 := hd.size
  clear hd HS
  go_wp2_with fail
  go_loopw [3, 4] (fun s3 s4 wr => ∃ (o : ByteArray) (k : Int), s3 = .string o ∧ s4 = .int .i64 k ∧ 0 ≤ k ∧ (o.size : Int) + 18 * k ≤ 216 ∧ w.heap.size ≤ wr.heap.size ∧ Hid (Dw 107 lo b w wr)) (fun _ s4 _ => (intOf s4).toNat)
  case atStart => exact ⟨⟨#[]⟩, y, rfl, rfl, hy0, by show (0 : Int) + 18 * y ≤ 216; omega, by omega, D1⟩
  case round =>
    clear D1
    obtain ⟨o, k, rfl, rfl, hk0, hok, hsr, D⟩ := hrel
    by_cases hk : 0 < k
    · go_wp2_with fail
      refine Calls.mono (spec_l12DrawToken D.out.src) ?_
      rintro e w2 ⟨tk, t, rfl, htk, ht, hd⟩
      have D2 := Lib.hid (D.out.trans hd)
      have hs2 := hd.size
      have f1 : ¬ 9223372036854775807 < o.size + t.size := by omega
      have ek : IntKind.i64.wrap (k - 1) = k - 1 := IntWalk.i64_in _ (by omega)
      have hfl : ∀ wx : World, (Instr.field 88 (.agg #[.int .i64 tk, .string t]) 1).run Tryz.prog wx = .ok (.string t) wx := fun wx => by kernel_rfl
      clear hd D htk
      go_wp2_with fail
      refine Calls.mono (dw_strs (k := 5) (m := 6) D2.out.src rfl (by decide +kernel) rfl (by decide) (by decide) rfl) ?_
      rintro e w3 ⟨q, u, rfl, hq, hc, hu, hl, hd⟩
      have D3 := Lib.hid (D2.out.trans hd)
      have hs3 := hd.size
      have hq0 : (0 : Int) ≤ (q : Int) := by omega
      have hq1 : (q : Int) < 6 := by omega
      have hsz : (o ++ t).size = o.size + t.size := ByteArray.size_append
      have hsz2 : (o ++ t ++ u).size = o.size + t.size + u.size := by rw [ByteArray.size_append, ByteArray.size_append]
      have f2 : ¬ 9223372036854775807 < o.size + t.size + u.size := by omega
      clear hd D2
      go_wp2_with fail
      go_roundw
      case rel => exact ⟨o ++ t ++ u, k - 1, rfl, rfl, by omega, by omega, by omega, D3⟩
      case measure => simp only [intOf]; omega
    · obtain rfl : k = 0 := by omega
      have ho : o.size ≤ 216 := by omega
      go_wp2_with fail
      refine Calls.mono (dw_next D.out.src (by decide)) ?_
      rintro e w2 ⟨z, rfl, hz0, hz1, hd⟩
      have D2 := Lib.hid (D.out.trans hd)
      have hs2 := hd.size
      clear hd D hok
      by_cases z0 : z = 0
      · subst z0
        go_wp2_with fail
        refine Calls.mono (dw_strs (k := 5) (m := 4) D2.out.src rfl (by decide +kernel) rfl (by decide) (by decide) rfl) ?_
        rintro e w3 ⟨q, u, rfl, hq, hc, hu, hl, hd⟩
        have D3 := Lib.hid (D2.out.trans hd)
        have hq0 : (0 : Int) ≤ (q : Int) := by omega
        have hq1 : (q : Int) < 4 := by omega
        have hsz : (o ++ u).size = o.size + u.size := ByteArray.size_append
        have f2 : ¬ 9223372036854775807 < o.size + u.size := by omega
        clear hd D2
        go_wp2
        go_ret
        exact ⟨o ++ u, rfl, by omega, D3.out⟩
      have z0' : (z == 0) = false := by simpa using z0
      by_cases z1 : z = 1
      · subst z1
        go_wp2_with fail
        go_loopw [3] (fun s3 wr => ∃ (o : ByteArray), s3 = .string o ∧ o.size ≤ 801 ∧ w.heap.size ≤ wr.heap.size ∧ Hid (Dw 107 lo b w wr)) (fun s3 _ => 900 - (match s3 with | .string s => s.size | _ => 0))
        case atStart => exact ⟨o, rfl, by omega, by omega, D2⟩
        case round =>
          clear D2
          obtain ⟨o, rfl, hq, hsr, D⟩ := hrel
          go_wp2_with fail
          refine Calls.mono (dw_next D.out.src (by decide)) ?_
          rintro e w3 ⟨v, rfl, hv0, hv1, hd⟩
          have D3 := Lib.hid (D.out.trans hd)
          have hs3 := hd.size
          clear hd D
          have ev : IntKind.i64.wrap (800 + v) = 800 + v := IntWalk.i64_in _ (by omega)
          have f2 : ¬ 9223372036854775807 < o.size + 1 := by omega
          by_cases hv : (o.size : Int) < 800 + v
          · have hsz : (o ++ ⟨#[59]⟩).size = o.size + 1 := ByteArray.size_append
            go_wp2_with fail
            go_roundw
            case rel => exact ⟨o ++ ⟨#[59]⟩, rfl, by omega, by omega, D3⟩
            case measure => show 900 - (o ++ ⟨#[59]⟩).size < 900 - o.size; omega
          · go_wp2
            go_ret
            exact ⟨o, rfl, by omega, D3.out⟩
      have z1' : (z == 1) = false := by simpa using z1
      by_cases z2 : z = 2
      · subst z2
        go_wp2_with fail
        go_loopw [3] (fun s3 wr => ∃ (o : ByteArray), s3 = .string o ∧ o.size ≤ 6001 ∧ w.heap.size ≤ wr.heap.size ∧ Hid (Dw 107 lo b w wr)) (fun s3 _ => 6100 - (match s3 with | .string s => s.size | _ => 0))
        case atStart => exact ⟨o, rfl, by omega, by omega, D2⟩
        case round =>
          clear D2
          obtain ⟨o, rfl, hq, hsr, D⟩ := hrel
          go_wp2_with fail
          refine Calls.mono (dw_next D.out.src (by decide)) ?_
          rintro e w3 ⟨v, rfl, hv0, hv1, hd⟩
          have D3 := Lib.hid (D.out.trans hd)
          have hs3 := hd.size
          clear hd D
          have ev : IntKind.i64.wrap (6000 + v) = 6000 + v := IntWalk.i64_in _ (by omega)
          have f2 : ¬ 9223372036854775807 < o.size + 1 := by omega
          by_cases hv : (o.size : Int) < 6000 + v
          · have hsz : (o ++ ⟨#[32]⟩).size = o.size + 1 := ByteArray.size_append
            go_wp2_with fail
            go_roundw
            case rel => exact ⟨o ++ ⟨#[32]⟩, rfl, by omega, by omega, D3⟩
            case measure => show 6100 - (o ++ ⟨#[32]⟩).size < 6100 - o.size; omega
          · go_wp2
            go_ret
            exact ⟨o, rfl, by omega, D3.out⟩
      have z2' : (z == 2) = false := by simpa using z2
      go_wp2
      go_ret
      exact ⟨o, rfl, by omega, D2.out⟩
theorem spec_DrawReadTokens {a : Option Addr} {n c : Nat} {w : World} (hB : Byts w a n c) (hn : n ≤ 4096) :
    Calls Tryz.prog 16 #[.slice a n c] w fun e w' => ∃ t, e = .returned (.string t) ∧ t.size ≤ 6001 ∧ Below w.heap.size w w' := by
  have K := Lib.hid (spec_l01From hB hn hB.lo.2.2 (Nat.le_refl _))
  clear hB
  go_enter Tryz.func16, Tryz.ntmps16
  go_wp2_with fail
  refine Calls.mono K.out ?_
  rintro e w1 ⟨b, rfl, hb1, hb, hS⟩
  have KL := Lib.hid (spec_l12Draw hS)
  clear hS
  go_wp2_with fail
  refine Calls.mono KL.out ?_
  rintro e w2 ⟨t, rfl, ht, hd⟩
  have H := Lib.hid (hd.fin hb1 hb)
  clear hd
  go_wp2
  go_ret
  exact ⟨t, rfl, ht, H.out⟩
set_option maxHeartbeats 1000000 in
theorem spec_DrawIsKeyword {a : Option Addr} {n c : Nat} {w : World} (hB : Byts w a n c) (hn : n ≤ 4096) :
    Calls Tryz.prog 23 #[.slice a n c] w fun e w' => ∃ t, e = .returned (.string t) ∧ t.size ≤ 13 ∧ Below w.heap.size w w' := by
  have K := Lib.hid (spec_l01From hB hn hB.lo.2.2 (Nat.le_refl _))
  clear hB
  go_enter Tryz.func23, Tryz.ntmps23
  go_wp2_with fail
  refine Calls.mono K.out ?_
  rintro e w1 ⟨b, rfl, hb1, hb, hS⟩
  have hbl := hS.lt.2
  have HS := Lib.hid hS
  clear hS
  go_wp2_with fail
  refine Calls.mono (dw_next HS.out (by decide)) ?_
  rintro e w2 ⟨y, rfl, hy0, hy1, hd⟩
  have D2 := Lib.hid hd
  have hs2 := hd.size
  clear hd HS
  by_cases y0 : y = 0
  · subst y0
    go_wp2_with fail
    refine Calls.mono spec_l12Keywords ?_
    rintro e w3 ⟨rfl, hb3, hF⟩
    have D3 := Lib.hid (D2.out.below hb3)
    have HF := Lib.hid hF
    have hs3 := hb3.size
    clear hb3 hF D2
    go_wp2_with fail
    refine Calls.mono (dw_next D3.out.src (by decide)) ?_
    rintro e w4 ⟨z, rfl, hz0, hz1, hd⟩
    have D4 := Lib.hid (D3.out.trans hd)
    obtain ⟨q, rfl⟩ := Int.eq_ofNat_of_zero_le hz0
    obtain ⟨g, off, x, e, hg, hx, hok, hc⟩ := (HF.out.only hd.only (fun g off e => by cases e; omega)).at (i := q) (by omega)
    cases e
    have hc0 := hc 0 _ rfl
    have hx13 : x.size ≤ 13 := by
      have h : (kwBs.all fun t => decide (t.size ≤ 13)) = true := by decide +kernel
      exact of_decide_eq_true (List.all_eq_true.1 h x (List.mem_of_getElem? hx))
    have H := Lib.hid (D4.out.fin hb1 hb)
    have hq0 : (0 : Int) ≤ (q : Int) := by omega
    have hq1 : (q : Int) < 17 := by omega
    simp only [Nat.mul_one, Nat.add_zero, Nat.zero_add] at hc0
    clear hd hc hx hok D3 D4 HF
    go_wp2
    go_ret
    exact ⟨x, rfl, hx13, H.out⟩
  · have y0' : (y == 0) = false := by simpa using y0
    go_wp2_with fail
    refine Calls.mono (spec_l12DrawWord D2.out.src) ?_
    rintro e w3 ⟨t, rfl, ht, hd⟩
    have H := Lib.hid ((D2.out.trans hd).fin hb1 hb)
    clear hd D2
    go_wp2
    go_ret
    exact ⟨t, rfl, ht, H.out⟩
end Go.Proofs.YtjneodmohkpckaaGreatDoor
