/- The texts of replays, walked. -/
import Derived.Test.YtipkncjjkkijfaaGreatDoorL25t
import Derived.Test.YtipkncjjkkijfaaGreatDoorDc
import Derived.Test.YtipkncjjkkijfaaGreatDoorLt
import Derived.Test.YtipkncjjkkijfaaGreatDoorSt
import Derived.Test.YtipkncjjkkijfaaGreatDoorAt
import Derived.Test.YtipkncjjkkijfaaGreatDoorSh
import Derived.Laws.BytesArg
namespace Go.Proofs.YtipkncjjkkijfaaGreatDoor
open Go.RowKit
set_option linter.unusedVariables false
set_option linter.unusedSimpArgs false
def wdL (x : I3) : List UInt8 := statusNm.getD x.c.toNat []
def evW (x : I3) : List UInt8 := wdL x ++ [32] ++ [UInt8.ofNat (48 + x.b.toNat)]
def txL (evs : List I3) : List UInt8 := Lib.join (evs.map evW) [59]
theorem txL_snoc (l : List I3) (x : I3) : txL (l ++ [x]) = (if l = [] then [] else txL l ++ [59]) ++ evW x := by
  cases l with
  | nil => simp [txL, Lib.join_one]
  | cons y r =>
    simp only [txL, List.cons_append, List.map_cons, List.map_append, Lib.join_cons, if_neg (List.cons_ne_nil y r)]
    simp [Lib.joinTail]
theorem wdL_len (x : I3) : (wdL x).length ≤ 8 := by
  unfold wdL
  generalize x.c.toNat = k
  match k with
  | 0 | 1 | 2 | 3 => decide
  | k + 4 => simp [statusNm]
theorem lens_ev (l : List I3) : Lib.lens (l.map evW) ≤ 10 * l.length := by
  induction l with
  | nil => simp [Lib.lens]
  | cons y r ih =>
    have h1 := wdL_len y
    have h2 : (evW y).length ≤ 10 := by simp [evW]; omega
    simp [Lib.lens] at ih ⊢
    omega
def wdB (x : I3) : ByteArray := ⟨(wdL x).toArray⟩
theorem txL_len (l : List I3) : (txL l).length ≤ 11 * l.length := by
  cases l with
  | nil => simp [txL, Lib.join_nil]
  | cons y r =>
    have h := lens_ev (y :: r)
    rw [txL, List.map_cons, Lib.join_length]
    rw [List.map_cons] at h
    simp at h ⊢
    omega
set_option maxHeartbeats 2000000 in
theorem spec_l25Code {b : Int} {a s : Option Addr} {n c m d : Nat} {l : List Int} {evs : List I3} {w : World} (hI : Ints w a n c l) (hS : F3 w s m d evs) (hn : n ≤ 1048576) (hm : m ≤ 1048576) :
    Calls Tryz.prog 27 #[.agg #[.int .i64 b, .slice a n c], .slice s m d] w fun e w' => e = .returned (.int .i64 (rpC b l evs)) ∧ Below w.heap.size w w' := by
  have k1 := fun (wx : World) (hb : Below w.heap.size w wx) => spec_IsTraffic (b := b) (hI.keep hb) hn
  have HS := Lib.hid hS
  have HI := Lib.hid hI
  have hll := hI.len
  have hsl := hS.len
  have HC := Lib.hid (show rpC b l evs = if trafB b l = true then (if 200 < m then 3 else if (evs.any fun x => !evB b n x) = true then 2 else 0) else 1 by rw [rpC, hsl, hll])
  generalize rpC b l evs = C at *
  cases ht : trafB b l
  · rw [ht] at k1
    have K1 := Lib.hid k1
    have HT := Lib.hid ht
    clear k1 ht hI hS hll hsl
    go_enter Tryz.func27, Tryz.ntmps27
    go_wp2_with fail
    refine Calls.mono (K1.out _ bel) ?_
    rintro e w1 ⟨rfl, hb_w1⟩
    obtain ⟨hc_w1, hf_w1⟩ := bcell hb_w1
    have hs_w1 := hb_w1.size
    go_wp2
    go_ret
    exact ⟨ret_int (by rw [HC.out, HT.out]; rfl), bel⟩
  · have k2 := fun (x : I3) (wx : World) (hb : Below w.heap.size w wx) => spec_IsReplayEvent (b := b) (x := x.a) (y := x.b) (z := x.c) (hI.keep hb) hn
    rw [ht] at k1
    have K1 := Lib.hid k1
    have HC2 := Lib.hid (show C = if 200 < m then 3 else if (evs.any fun x => !evB b n x) = true then 2 else 0 by rw [HC.out, ht]; rfl)
    have k3 : ∀ (x : I3) (wx : World), Below w.heap.size w wx → Calls Tryz.prog 13 #[.agg #[.int .i64 b, .slice a n c], .agg #[.int .i64 x.a, .int .i64 x.b, .int .i64 x.c]] wx fun e w' => e = .returned (.bool (evB b n x)) ∧ Below wx.heap.size wx w' := fun x wx hb => by
      have := k2 x wx hb
      rw [ht, Bool.true_and] at this
      exact this
    have K3 := Lib.hid k3
    have B0 := Lib.hid (Blk.made w #[.int .i64 b, .slice a n c] 26)
    clear k1 k2 k3 ht hI hS HC hll
    have hmu : (m : Int) ≤ 1048576 := by omega
    by_cases h2 : 200 < m
    · have h2' : (200 : Int) < (m : Int) := by omega
      go_enter Tryz.func27, Tryz.ntmps27
      go_wp2_with fail
      refine Calls.mono (K1.out _ bel) ?_
      rintro e w1 ⟨rfl, hb_w1⟩
      obtain ⟨hc_w1, hf_w1⟩ := bcell hb_w1
      have hs_w1 := hb_w1.size
      go_wp2
      go_ret
      exact ⟨ret_int (by rw [HC2.out, if_pos h2]), bel⟩
    · have h2' : (m : Int) ≤ 200 := by omega
      have HC3 := Lib.hid (HC2.out.trans (if_neg h2))
      clear HC2
      go_enter Tryz.func27, Tryz.ntmps27
      go_wp2_with fail
      refine Calls.mono (K1.out _ bel) ?_
      rintro e w1 ⟨rfl, hb_w1⟩
      obtain ⟨hc_w1, hf_w1⟩ := bcell hb_w1
      have hs_w1 := hb_w1.size
      simp at hs_w1
      have X := Lib.hid (B0.out.keep hb_w1)
      have hB1 : Below w.heap.size w w1 := bel
      clear hb_w1 hc_w1 hf_w1 B0
      go_wp2_with fail
      go_loopw [5] (fun s5 wr => ∃ i : Nat, s5 = .int .i64 i ∧ i ≤ m ∧ Below w.heap.size w wr ∧ Hid (((evs.take i).any fun x => !evB b n x) = false) ∧ Hid (Blk wr w.heap.size #[.int .i64 b, .slice a n c] 26)) (fun s5 _ => m - (intOf s5).toNat)
      case atStart => exact ⟨0, rfl, by omega, hB1, Lib.hid rfl, X⟩
      case round =>
        clear X hB1
        obtain ⟨i, rfl, hi, hbl, A, X⟩ := hrel
        by_cases hlt : i < m
        · have hlt' : (i : Int) < (m : Int) := by omega
          have hi0 : (0 : Int) ≤ (i : Int) := by omega
          obtain ⟨b', off, x, rfl, hb', hx, hwf, c0, c1, c2⟩ := F3.get (HS.out.keep hbl) hlt
          have Hx := Lib.hid hx
          clear hx
          have x0 := X.out.cell 0
          have x1 := X.out.cell 1
          have xl := X.out.lt
          simp at x0 x1
          have hcall := K3.out x
          cases hv : evB b n x
          all_goals
            rw [hv] at hcall
            have HV := Lib.hid hv
            have HCl := Lib.hid hcall
            clear hv hcall
            go_wp2_with fail
            go_region_held3 (fun wx => wx.cell? ⟨b', off + i * 3, none⟩ = some (.int .i64 x.a) ∧ wx.cell? ⟨b', off + i * 3 + 1, none⟩ = some (.int .i64 x.b) ∧ wx.cell? ⟨b', off + i * 3 + 2, none⟩ = some (.int .i64 x.c) ∧ wx.cell? ⟨w.heap.size, 0, none⟩ = some (.int .i64 b) ∧ wx.cell? ⟨w.heap.size, 1, none⟩ = some (.slice a n c) ∧ b' < wx.heap.size ∧ w.heap.size < wx.heap.size ∧ Blk wx w.heap.size #[.int .i64 b, .slice a n c] 26 ∧ Below w.heap.size w wx) (((try go_split_ands); (repeat' apply And.intro) <;> first | assumption | exact Blk.keep (by assumption) hbx | exact Blk.drew (by assumption) | exact Blk.drew (Blk.made _ _ _) | exact Below.drew (by assumption) | exact Below.drew (below_allocS (by first | exact Below.refl _ _ | assumption) _) | exact below_callS (by assumption) hbx | exact below_call (by assumption) hbx (Below.size (by assumption)) | exact (hcx _ _ (by assumption)).trans (by assumption) | omega | (simp [*]; done) | (simp; omega))) (first | (go_at_call 13; refine Calls.mono (HCl.out _ (by first | assumption | (go_split_ands; assumption))) ?_; rintro e wx2 ⟨rfl, hbx⟩; obtain ⟨hcx, hfx⟩ := bcell hbx; have hsx := hbx.size))
            go_split_ands
          · go_wp2
            go_ret
            exact ⟨ret_int (by rw [HC3.out, show (evs.any fun x => !evB b n x) = true from any_take_true (p := fun x => !evB b n x) Hx.out (by simp [HV.out])]; rfl), by assumption⟩
          · go_wp2_with fail
            go_roundw
            case rel => exact ⟨i + 1, by go_num, by omega, by assumption, Lib.hid (any_take_step (p := fun x => !evB b n x) Hx.out A.out (by simp [HV.out])), Lib.hid (by assumption)⟩
            case measure => simp [intOf]; omega
        · obtain rfl : m = i := by omega
          have hlt' : ¬ (m : Int) < (m : Int) := by omega
          have hA := A.out
          rw [take_len hsl] at hA
          have HA := Lib.hid hA
          clear hA
          go_wp2
          go_ret
          exact ⟨ret_int (by rw [HC3.out, HA.out]; rfl), hbl⟩
set_option maxHeartbeats 2000000 in
theorem spec_l01Dec_1 {n : Nat} {w : World} (hn : n < 10) : Calls Tryz.prog 29 #[.int .i64 (n : Int)] w fun e w' => e = .returned (.string (digStr n)) ∧ Below w.heap.size w w' := by
  have hcv := run_convert_bytes_arg (P := Tryz.prog) (w.alloc (.cells #[.int .u8 (48 + (n : Int))] 5)) 22 5 Tryz.underlying22 Tryz.underlying5 w.heap.size 0 1 1 [48 + (n : Int)] rfl (by intro i hi; (obtain rfl : i = 0 := (by omega)); exact (Blk.made w #[.int .u8 (48 + (n : Int))] 5).cell 0) 9 Tryz.underlying9
  have hd : strOfNums [48 + (n : Int)] = digStr n := by
    have e : (48 + (n : Int)).toNat = 48 + n := by omega
    rw [strOfNums, digStr, List.map_cons, List.map_nil, e]
  rw [hd] at hcv
  have HD := Lib.hid hd
  have hw : IntKind.u8.wrap (48 + (n : Int)) = 48 + (n : Int) := by
    have : n = 0 ∨ n = 1 ∨ n = 2 ∨ n = 3 ∨ n = 4 ∨ n = 5 ∨ n = 6 ∨ n = 7 ∨ n = 8 ∨ n = 9 := by omega
    rcases this with rfl | rfl | rfl | rfl | rfl | rfl | rfl | rfl | rfl | rfl <;> rfl
  have hn' : (n : Int) < 10 := by omega
  clear hd
  go_enter Tryz.func29, Tryz.ntmps29
  go_wp2
  go_ret
  exact ⟨rfl, bel⟩
set_option maxHeartbeats 2000000 in
theorem spec_l25Word {b : Int} {n : Nat} {x : I3} {w : World} (hv : evB b n x = true) : Calls Tryz.prog 28 #[.agg #[.int .i64 x.a, .int .i64 x.b, .int .i64 x.c]] w fun e w' => e = .returned (.string (wdB x)) ∧ Below w.heap.size w w' := by
  obtain ⟨xa, xb, xc⟩ := x
  simp only [evB, eventB] at hv
  by_cases h0 : xa = 0
  · subst h0
    rw [if_pos rfl] at hv
    simp at hv
    obtain ⟨_, rfl⟩ := hv
    go_enter Tryz.func28, Tryz.ntmps28
    go_wp2
    go_ret
    exact ⟨rfl, bel⟩
  · rw [if_neg h0] at hv
    by_cases h1 : xa = 1
    · subst h1
      rw [if_pos rfl] at hv
      simp [inB] at hv
      have h3 : xc = 1 ∨ xc = 2 ∨ xc = 3 := by omega
      clear h0
      rcases h3 with rfl | rfl | rfl
      all_goals
        clear hv
        go_enter Tryz.func28, Tryz.ntmps28
        go_wp2
        go_ret
        exact ⟨rfl, bel⟩
    · rw [if_neg h1] at hv; cases hv
end Go.Proofs.YtipkncjjkkijfaaGreatDoor
