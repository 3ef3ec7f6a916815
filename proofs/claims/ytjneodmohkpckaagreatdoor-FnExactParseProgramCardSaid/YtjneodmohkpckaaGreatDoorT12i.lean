/- Words and numbers of the program, walked. -/
import Derived.Test.YtjneodmohkpckaaGreatDoorSh
import Derived.Test.YtjneodmohkpckaaGreatDoorT12t
import Derived.Lib.AppendIntMem
import Derived.Lib.LaidTab
import Derived.Lib.SmallJoins
import Derived.Lib.ParseIntBTie
namespace Go.Proofs.YtjneodmohkpckaaGreatDoor
open Go.RowKit
set_option linter.unusedVariables false
set_option linter.unusedSimpArgs false
theorem var_keep {P : Program} {n : String} {g : Nat} {cs : Array Value} {w w' : World} (hg : P.globalNamed n = some g) (h : w.var? P n = some cs) (hb : Below w.heap.size w w') : w'.var? P n = some cs := by
  unfold World.var? at h ⊢
  rw [hg] at h ⊢
  simp only [Option.bind_some] at h ⊢
  have hlt : g < w.heap.size := Nat.lt_of_not_le fun hle => by rw [Array.getElem?_eq_none hle] at h; cases h
  rw [hb.block g hlt]; exact h
/-- what numbers of Go's library read: the table of powers and the two errors -/
structure LV (w : World) : Prop where
  t : Lib.TabIs Tryz.prog w "internal/strconv.uint64pow10" .u64 Lib.pow10Tab
  s : ∃ tp p, w.var? Tryz.prog "strconv.ErrSyntax" = some #[.iface tp p]
  r : ∃ tp p, w.var? Tryz.prog "strconv.ErrRange" = some #[.iface tp p]
theorem LV.keep {w w' : World} (h : LV w) (hb : Below w.heap.size w w') : LV w' := by
  obtain ⟨t1, p1, h1⟩ := h.s
  obtain ⟨t2, p2, h2⟩ := h.r
  exact ⟨var_keep (g := 4) (by kernel_rfl) h.t hb, ⟨t1, p1, var_keep (g := 5) (by kernel_rfl) h1 hb⟩, ⟨t2, p2, var_keep (g := 6) (by kernel_rfl) h2 hb⟩⟩
def okN (l : List UInt8) : Bool := match Lib.parseIntB 64 l with
  | .ok v => decide (Lib.itoa v = l)
  | _ => false
theorem parse_64 {l : List UInt8} {v : Int} (h : Lib.parseIntB 64 l = .ok v) : I64 v := by
  have h1 := Lib.parseIntB_bounds h
  have e : ((2 ^ (64 - 1) : Nat) : Int) = 9223372036854775808 := by decide
  rw [e] at h1
  unfold I64; omega
set_option maxHeartbeats 1000000 in
theorem impl_decimalL {v : Int} {w : World} (hL : LV w) (hv : I64 v) : Calls Tryz.prog 161 #[.int .i64 v] w fun e w' => e = .returned (.string (strL (Lib.itoa v))) ∧ Below w.heap.size w w' := by
  have HK := Lib.hid (Tryz.strconv_FormatInt_10 v hv.1 hv.2 w hL.t)
  clear hL
  go_enter Tryz.func161, Tryz.ntmps161
  go_wp2_with fail
  refine Calls.mono HK.out ?_
  rintro e w1 ⟨rfl, k, os, rfl⟩
  go_wp2
  go_ret
  exact ⟨rfl, Lib.below_grow _ _ (Nat.le_refl _) _ _⟩
set_option maxHeartbeats 1000000 in
theorem impl_readNumber {s : ByteArray} {w : World} (hL : LV w) (hz : s.size ≤ 1048576) :
    Calls Tryz.prog 167 #[.string s] w fun e w' => ∃ n : Int, e = .returned (.tuple #[.int .i64 n, .bool (okN s.data.toList)]) ∧ (okN s.data.toList = true → Lib.parseIntB 64 s.data.toList = .ok n) ∧ Below w.heap.size w w' := by
  rcases hp : Lib.parseIntB 64 s.data.toList with v | _ | _
  case ok =>
    have hk := Tryz.strconv_ParseInt_10_at64_ok s (by omega) v hp w
    have hd := fun (wx : World) (hb : Below w.heap.size w wx) => impl_decimalL (hL.keep hb) (parse_64 hp)
    have hq : ((strL (Lib.itoa v)).toList == s.toList) = okN s.data.toList := by
      rw [str_eq, strL_list, okN, hp]
    have HQ := Lib.hid hq
    have HK := Lib.hid hk
    have HD := Lib.hid hd
    clear hk hd hq hL
    go_enter Tryz.func167, Tryz.ntmps167
    go_wp2_with fail
    refine Calls.mono HK.out ?_
    rintro e w1 ⟨rfl, hw1⟩
    have hb1 : Below w.heap.size w w1 := by
      rcases hw1 with rfl | ⟨t, rfl⟩
      · exact Below.refl _ _
      · exact Joins.below_bytesWorld _ _ _ _ (Nat.le_refl _)
    clear hw1
    go_wp2_with fail
    refine Calls.mono (HD.out _ hb1) ?_
    rintro e w2 ⟨rfl, hb2⟩
    go_wp2
    rw [HQ.out]
    exact bodyPost_ret (v := .tuple #[.int .i64 v, .bool (okN s.data.toList)]) (by simp [results, Tryz.results167, go_sem]) rfl ⟨v, rfl, fun _ => rfl, below_callS hb1 hb2⟩
  case range =>
    obtain ⟨tp, p, he⟩ := hL.r
    have HK := Lib.hid (Tryz.strconv_ParseInt_10_at64_range_var s (by omega) hp tp p w he)
    have HQ := Lib.hid (show okN s.data.toList = false by rw [okN, hp])
    clear hL he
    generalize Lib.intSat 64 s.data.toList = sat at *
    go_enter Tryz.func167, Tryz.ntmps167
    go_wp2_with fail
    refine Calls.mono HK.out ?_
    rintro e w1 ⟨N, rfl, hN, hN2, hb1⟩
    clear hN hN2
    go_wp2
    exact bodyPost_ret (v := .tuple #[.int .i64 sat, .bool false]) (by simp [results, Tryz.results167, go_sem]) rfl ⟨sat, by rw [HQ.out], (fun h => by rw [HQ.out] at h; cases h), hb1⟩
  · obtain ⟨tp, p, he⟩ := hL.s
    have HK := Lib.hid (Tryz.strconv_ParseInt_10_at64_syntax_var s (by omega) hp tp p w he)
    have HQ := Lib.hid (show okN s.data.toList = false by rw [okN, hp])
    clear hL he
    go_enter Tryz.func167, Tryz.ntmps167
    go_wp2_with fail
    refine Calls.mono HK.out ?_
    rintro e w1 ⟨N, rfl, hN, hN2, hb1⟩
    clear hN hN2
    go_wp2
    exact bodyPost_ret (v := .tuple #[.int .i64 0, .bool false]) (by simp [results, Tryz.results167, go_sem]) rfl ⟨0, by rw [HQ.out], (fun h => by rw [HQ.out] at h; cases h), hb1⟩
end Go.Proofs.YtjneodmohkpckaaGreatDoor
