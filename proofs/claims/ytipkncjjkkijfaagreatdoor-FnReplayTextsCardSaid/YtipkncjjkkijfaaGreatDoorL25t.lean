/- The code of a traffic and events, walked. -/
import Derived.Test.YtipkncjjkkijfaaGreatDoorL25a
namespace Go.Proofs.YtipkncjjkkijfaaGreatDoor
open Go.RowKit
set_option linter.unusedVariables false
set_option linter.unusedSimpArgs false
def evB (b : Int) (n : Nat) (x : I3) : Bool := eventB b n x.a x.b x.c
def rpC (b : Int) (l : List Int) (evs : List I3) : Int := if trafB b l = true then (if 200 < evs.length then 3 else if (evs.any fun x => !evB b l.length x) = true then 2 else 0) else 1
theorem all_of_any {b : Int} {n : Nat} {evs : List I3} : (evs.any fun x => !evB b n x) = !evs.all (evB b n) := by
  induction evs with
  | nil => rfl
  | cons x r ih => rw [List.any_cons, List.all_cons, ih]; cases evB b n x <;> rfl
set_option maxHeartbeats 1000000 in
theorem impl_replayCode_1 {b : Int} {x : I3} {a : Option Addr} {n c g : Nat} {w : World} (hn : n ≤ 1048576) (hb0 : 2 ≤ b) (hb1 : b ≤ 8) (hB : Blk w g #[.int .i64 b, .slice a n c] 26) :
    Calls Tryz.prog 37 #[.agg #[.int .i64 x.a, .int .i64 x.b, .int .i64 x.c], .pointer (some ⟨g, 0, none⟩)] w fun e w' => e = .returned (.bool (!evB b n x)) ∧ Below w.heap.size w w' := by
  have h0 := hB.cell 0
  have h1 := hB.cell 1
  have hl := hB.lt
  simp at h0 h1
  go_enter Tryz.func37, Tryz.ntmps37
  go_wp2_with fail
  refine Calls.mono (impl_isEvent (x := x.a) (y := x.b) (z := x.c) hn hb0 hb1) ?_
  rintro e w1 ⟨rfl, hb_w1⟩
  obtain ⟨hc_w1, hf_w1⟩ := bcell hb_w1
  have hs_w1 := hb_w1.size
  go_wp2
  go_ret
  exact ⟨rfl, bel⟩
set_option maxHeartbeats 1000000 in
theorem impl_replayCode {b : Int} {a s : Option Addr} {n c m d : Nat} {l : List Int} {evs : List I3} {w : World} (hI : Ints w a n c l) (hS : F3 w s m d evs) (hn : n ≤ 1048576) (hm : m ≤ 1048576) :
    Calls Tryz.prog 16 #[.agg #[.int .i64 b, .slice a n c], .slice s m d] w fun e w' => e = .returned (.int .i64 (rpC b l evs)) ∧ Below w.heap.size w w' := by
  have k1 := fun (wx : World) (hb : Below w.heap.size w wx) => impl_IsTraffic (b := b) (hI.keep hb) hn
  have HS := Lib.hid hS
  have hll := hI.len
  have hsl := hS.len
  have HC := Lib.hid (show rpC b l evs = if trafB b l = true then (if 200 < m then 3 else if (evs.any fun x => !evB b n x) = true then 2 else 0) else 1 by rw [rpC, hsl, hll])
  generalize rpC b l evs = C at *
  cases ht : trafB b l
  · rw [ht] at k1
    have K1 := Lib.hid k1
    have HT := Lib.hid ht
    clear k1 ht hI hS hll hsl
    go_enter Tryz.func16, Tryz.ntmps16
    go_wp2_with fail
    refine Calls.mono (K1.out _ bel) ?_
    rintro e w1 ⟨rfl, hb_w1⟩
    obtain ⟨hc_w1, hf_w1⟩ := bcell hb_w1
    have hs_w1 := hb_w1.size
    go_wp2
    go_ret
    exact ⟨ret_int (by rw [HC.out, HT.out]; rfl), bel⟩
  · obtain ⟨hb0, hb1, _⟩ := trafB_split ht
    rw [ht] at k1
    have K1 := Lib.hid k1
    have HC2 := Lib.hid (show C = if 200 < m then 3 else if (evs.any fun x => !evB b n x) = true then 2 else 0 by rw [HC.out, ht]; rfl)
    clear k1 ht hI hS HC hll hsl
    have hmu : (m : Int) ≤ 1048576 := by omega
    by_cases h2 : 200 < m
    · have h2' : (200 : Int) < (m : Int) := by omega
      go_enter Tryz.func16, Tryz.ntmps16
      go_wp2_with fail
      refine Calls.mono (K1.out _ bel) ?_
      rintro e w1 ⟨rfl, hb_w1⟩
      obtain ⟨hc_w1, hf_w1⟩ := bcell hb_w1
      have hs_w1 := hb_w1.size
      go_wp2
      go_ret
      exact ⟨ret_int (by rw [HC2.out, if_pos h2]), bel⟩
    · have h2' : (m : Int) ≤ 200 := by omega
      have HC3 := Lib.hid (HC2.out.trans (if_neg h2))
      clear HC2
      have hp := fun (wx : World) (hB : Blk wx w.heap.size #[.int .i64 b, .slice a n c] 26) (hF : F3 wx s m d evs) => slices_ContainsFunc_ReplayEvent (g := 37) (lb := #[.pointer (some ⟨w.heap.size, 0, none⟩)]) (p := fun x => !evB b n x) (fun _ _ => by kernel_rfl) (fun W x hx hb => impl_replayCode_1 hn hb0 hb1 (hB.keep hb)) hF hm
      cases hv : (evs.any fun x => !evB b n x)
      all_goals
        have HV := Lib.hid hv
        rw [hv] at hp
        have HP := Lib.hid hp
        clear hp hv
        go_enter Tryz.func16, Tryz.ntmps16
        go_wp2_with fail
        refine Calls.mono (K1.out _ bel) ?_
        rintro e w1 ⟨rfl, hb_w1⟩
        obtain ⟨hc_w1, hf_w1⟩ := bcell hb_w1
        have hs_w1 := hb_w1.size
        simp at hs_w1
        go_wp2_with fail
        refine Calls.mono (HP.out _ ((Blk.made w #[.int .i64 b, .slice a n c] 26).keep hb_w1) (HS.out.keep bel)) ?_
        rintro e w2 ⟨rfl, hb_w2⟩
        go_wp2
        go_ret
        exact ⟨ret_int (by rw [HC3.out, HV.out]; rfl), bel⟩
end Go.Proofs.YtipkncjjkkijfaaGreatDoor
