/- CountWords, both sides, walked. -/
import Derived.Test.YtjneodmohkpckaaDoorEw
namespace Go.Proofs.YtjneodmohkpckaaDoor
open Go.RowKit
set_option linter.unusedVariables false
set_option linter.unusedSimpArgs false
def cntW (s : ByteArray) (l : List TR) : Nat := (l.filter fun x => x.t.toList == s.toList).length
theorem cntW_le (s : ByteArray) (l : List TR) : cntW s l ≤ l.length := List.length_filter_le _ _
theorem cntW_step {s : ByteArray} {l : List TR} {k : Nat} {x : TR} (h : l[k]? = some x) : cntW s (l.take (k + 1)) = cntW s (l.take k) + (if (x.t.toList == s.toList) = true then 1 else 0) := by
  rw [take_at h, cntW, cntW, List.filter_append, List.length_append]
  congr 1
  rw [List.filter_cons]
  split <;> simp_all
def cwC (l : List TR) (s : ByteArray) : Int := if tksC l ≠ 0 then tksC l else if wrdB s.data.toList = true then 0 else 2
def cwN (l : List TR) (s : ByteArray) : Int := if cwC l s = 0 then (cntW s l : Int) else 0
set_option maxHeartbeats 1000000 in
theorem spec_CountWords {a : Option Addr} {n c : Nat} {l : List TR} {s : ByteArray} {w : World} (hI : FW w a n c l) (hn : n ≤ 1048576) (hz : s.size ≤ 1048576) : Calls Tryd.prog 11 #[.slice a n c, .string s] w fun e w' => e = .returned (.tuple #[.int .i64 (cwN l s), .int .i64 (cwC l s)]) ∧ Below w.heap.size w w' := by
  have K := Lib.hid (spec_l12List hI hn)
  have KW := Lib.hid (fun (wx : World) => spec_l12Word (s := s) (w := wx) hz)
  have HC := Lib.hid (show cwC l s = if tksC l ≠ 0 then tksC l else if wrdB s.data.toList = true then 0 else 2 from rfl)
  have HN := Lib.hid (show cwN l s = if cwC l s = 0 then (cntW s l : Int) else 0 from rfl)
  have HI := Lib.hid hI
  have HLEN := Lib.hid hI.len
  clear hI hz
  generalize cwC l s = C at *
  generalize cwN l s = NN at *
  generalize tksC l = t at *
  by_cases ht : t = 0
  · subst ht
    cases hw : wrdB s.data.toList
    · rw [hw] at KW
      have H := Lib.hid (show C = 2 ∧ NN = 0 by
        have h1 : C = 2 := by rw [HC.out, hw]; rfl
        exact ⟨h1, by rw [HN.out, h1]; rfl⟩)
      clear hw
      go_enter Tryd.func11, Tryd.ntmps11
      go_wp2_with fail
      refine Calls.mono K.out ?_
      rintro e w1 ⟨rfl, hb1⟩
      go_wp2_with fail
      go_wp2_with fail
      refine Calls.mono (KW.out _) ?_
      rintro e _ ⟨rfl, rfl⟩
      go_wp2
      exact bodyPost_ret (v := .tuple #[.int .i64 0, .int .i64 2]) (by simp [results, Tryd.results11, go_sem]) rfl ⟨by rw [H.out.1, H.out.2], hb1⟩
    · rw [hw] at KW
      have H := Lib.hid (show C = 0 ∧ NN = (cntW s l : Int) by
        have h1 : C = 0 := by rw [HC.out, hw]; rfl
        exact ⟨h1, by rw [HN.out, h1]; rfl⟩)
      clear hw HC HN
      go_enter Tryd.func11, Tryd.ntmps11
      go_wp2_with fail
      refine Calls.mono K.out ?_
      rintro e w1 ⟨rfl, hb1⟩
      go_wp2_with fail
      go_wp2_with fail
      refine Calls.mono (KW.out _) ?_
      rintro e _ ⟨rfl, rfl⟩
      go_wp2_with fail
      have hcl : ∀ k, cntW s (l.take k) ≤ n := fun k => by
        have h1 := cntW_le s (l.take k)
        have h2 := List.length_take_le' k l
        have h3 := HLEN.out
        omega
      go_loopw [7, 8] (fun s7 s8 wr => ∃ k : Nat, s7 = .int .i64 (cntW s (l.take k) : Int) ∧ s8 = .int .i64 (k : Int) ∧ k ≤ n ∧ Below w.heap.size w wr) (fun _ s8 _ => n - (intOf s8).toNat)
      case atStart => exact ⟨0, rfl, rfl, by omega, hb1⟩
      case round =>
        clear hb1
        obtain ⟨k, rfl, rfl, hk, hbl⟩ := hrel
        have hck := hcl k
        by_cases hlt : k < n
        · obtain ⟨b, off, x, rfl, hb, hx, hwf, c0, c1⟩ := FW.get (HI.out.keep hbl) hlt
          have hk0 : (0 : Int) ≤ (k : Int) := by omega
          have hlt' : (k : Int) < (n : Int) := by omega
          have hst := cntW_step (s := s) hx
          have ek : IntKind.i64.wrap ((cntW s (l.take k) : Int) + 1) = (cntW s (l.take k) : Int) + 1 := IntWalk.i64_in _ (by omega)
          clear hx hwf
          cases hq : (x.t.toList == s.toList)
          · rw [hq] at hst
            have HS := Lib.hid hst
            clear hst
            go_wp2_with fail
            go_roundw
            case rel => exact ⟨k + 1, by rw [HS.out]; rfl, by go_num, by omega, by first | exact hbl | exact bel⟩
            case measure => simp only [intOf]; omega
          · rw [hq] at hst
            have HS := Lib.hid hst
            clear hst
            go_wp2_with fail
            go_roundw
            case rel => exact ⟨k + 1, by rw [HS.out]; rfl, by go_num, by omega, by first | exact hbl | exact bel⟩
            case measure => simp only [intOf]; omega
        · have hlt' : ¬ (k : Int) < (n : Int) := by omega
          have HE := Lib.hid (show cntW s (l.take k) = cntW s l by rw [take_len (by have := HLEN.out; omega)])
          go_wp2
          exact bodyPost_ret (v := .tuple #[.int .i64 (cntW s (l.take k) : Int), .int .i64 0]) (by simp [results, Tryd.results11, go_sem]) rfl ⟨by rw [H.out.1, H.out.2, HE.out], hbl⟩
  · have ht' : (t != 0) = true := by simpa using ht
    have ht2 : (t == 0) = false := by simpa using ht
    have H := Lib.hid (show C = t ∧ NN = 0 by
      have h1 : C = t := by rw [HC.out, if_pos ht]
      exact ⟨h1, by rw [HN.out, h1, if_neg ht]⟩)
    clear HC HN
    go_enter Tryd.func11, Tryd.ntmps11
    go_wp2_with fail
    refine Calls.mono K.out ?_
    rintro e w1 ⟨rfl, hb1⟩
    go_wp2
    exact bodyPost_ret (v := .tuple #[.int .i64 0, .int .i64 t]) (by simp [results, Tryd.results11, go_sem]) rfl ⟨by rw [H.out.1, H.out.2], hb1⟩
set_option maxHeartbeats 1000000 in
theorem impl_CountWords {a : Option Addr} {n c : Nat} {l : List TR} {s : ByteArray} {w : World} (hL : LV w) (hI : FW w a n c l) (hn : n ≤ 1048576) (hz : s.size ≤ 1048576) : Calls Tryd.prog 10 #[.slice a n c, .string s] w fun e w' => e = .returned (.tuple #[.int .i64 (cwN l s), .int .i64 (cwC l s)]) ∧ Below w.heap.size w w' := by
  have K := Lib.hid (impl_tokensCode hL hI hn)
  have KW := Lib.hid (fun (wx : World) => impl_isWord (s := s) (w := wx) hz)
  have HC := Lib.hid (show cwC l s = if tksC l ≠ 0 then tksC l else if wrdB s.data.toList = true then 0 else 2 from rfl)
  have HN := Lib.hid (show cwN l s = if cwC l s = 0 then (cntW s l : Int) else 0 from rfl)
  have HI := Lib.hid hI
  have HLEN := Lib.hid hI.len
  clear hI hz hL
  generalize cwC l s = C at *
  generalize cwN l s = NN at *
  generalize tksC l = t at *
  by_cases ht : t = 0
  · subst ht
    cases hw : wrdB s.data.toList
    · rw [hw] at KW
      have H := Lib.hid (show C = 2 ∧ NN = 0 by
        have h1 : C = 2 := by rw [HC.out, hw]; rfl
        exact ⟨h1, by rw [HN.out, h1]; rfl⟩)
      clear hw
      go_enter Tryd.func10, Tryd.ntmps10
      go_wp2_with fail
      refine Calls.mono K.out ?_
      rintro e w1 ⟨rfl, hb1⟩
      go_wp2_with fail
      go_wp2_with fail
      refine Calls.mono (KW.out _) ?_
      rintro e _ ⟨rfl, rfl⟩
      go_wp2
      exact bodyPost_ret (v := .tuple #[.int .i64 0, .int .i64 2]) (by simp [results, Tryd.results10, go_sem]) rfl ⟨by rw [H.out.1, H.out.2], hb1⟩
    · rw [hw] at KW
      have H := Lib.hid (show C = 0 ∧ NN = (cntW s l : Int) by
        have h1 : C = 0 := by rw [HC.out, hw]; rfl
        exact ⟨h1, by rw [HN.out, h1]; rfl⟩)
      clear hw HC HN
      go_enter Tryd.func10, Tryd.ntmps10
      go_wp2_with fail
      refine Calls.mono K.out ?_
      rintro e w1 ⟨rfl, hb1⟩
      go_wp2_with fail
      go_wp2_with fail
      refine Calls.mono (KW.out _) ?_
      rintro e _ ⟨rfl, rfl⟩
      go_wp2_with fail
      have hcl : ∀ k, cntW s (l.take k) ≤ n := fun k => by
        have h1 := cntW_le s (l.take k)
        have h2 := List.length_take_le' k l
        have h3 := HLEN.out
        omega
      go_loopw [7, 22] (fun s7 s8 wr => ∃ k : Nat, s7 = .int .i64 (cntW s (l.take k) : Int) ∧ s8 = .int .i64 (k : Int) ∧ k ≤ n ∧ Below w.heap.size w wr) (fun _ s8 _ => n - (intOf s8).toNat)
      case atStart => exact ⟨0, rfl, rfl, by omega, hb1⟩
      case round =>
        clear hb1
        obtain ⟨k, rfl, rfl, hk, hbl⟩ := hrel
        have hck := hcl k
        by_cases hlt : k < n
        · obtain ⟨b, off, x, rfl, hb, hx, hwf, c0, c1⟩ := FW.get (HI.out.keep hbl) hlt
          have hk0 : (0 : Int) ≤ (k : Int) := by omega
          have hlt' : (k : Int) < (n : Int) := by omega
          have hst := cntW_step (s := s) hx
          have ek : IntKind.i64.wrap ((cntW s (l.take k) : Int) + 1) = (cntW s (l.take k) : Int) + 1 := IntWalk.i64_in _ (by omega)
          clear hx hwf
          cases hq : (x.t.toList == s.toList)
          · rw [hq] at hst
            have HS := Lib.hid hst
            clear hst
            go_wp2_with fail
            go_roundw
            case rel => exact ⟨k + 1, by rw [HS.out]; rfl, by go_num, by omega, by first | exact hbl | exact bel⟩
            case measure => simp only [intOf]; omega
          · rw [hq] at hst
            have HS := Lib.hid hst
            clear hst
            go_wp2_with fail
            go_roundw
            case rel => exact ⟨k + 1, by rw [HS.out]; rfl, by go_num, by omega, by first | exact hbl | exact bel⟩
            case measure => simp only [intOf]; omega
        · have hlt' : ¬ (k : Int) < (n : Int) := by omega
          have HE := Lib.hid (show cntW s (l.take k) = cntW s l by rw [take_len (by have := HLEN.out; omega)])
          go_wp2
          exact bodyPost_ret (v := .tuple #[.int .i64 (cntW s (l.take k) : Int), .int .i64 0]) (by simp [results, Tryd.results10, go_sem]) rfl ⟨by rw [H.out.1, H.out.2, HE.out], hbl⟩
  · have ht' : (t != 0) = true := by simpa using ht
    have H := Lib.hid (show C = t ∧ NN = 0 by
      have h1 : C = t := by rw [HC.out, if_pos ht]
      exact ⟨h1, by rw [HN.out, h1, if_neg ht]⟩)
    clear HC HN
    go_enter Tryd.func10, Tryd.ntmps10
    go_wp2_with fail
    refine Calls.mono K.out ?_
    rintro e w1 ⟨rfl, hb1⟩
    go_wp2
    exact bodyPost_ret (v := .tuple #[.int .i64 0, .int .i64 t]) (by simp [results, Tryd.results10, go_sem]) rfl ⟨by rw [H.out.1, H.out.2], hb1⟩
end Go.Proofs.YtjneodmohkpckaaDoor
