/- Rules of the exact laws: the copy of a list of rules. -/
import Derived.Test.YtfhogleillgcgaaMg
import Derived.Test.YtfhogleillgcgaaMh
namespace Go.Proofs.Ytfhogleillgcgaa
open Go.RowKit
set_option linter.unusedVariables false
set_option linter.unusedSimpArgs false
theorem Try.infoRule : (Try.prog.info? 79).map (fun i => (i.zero, i.size, i.bytes)) = some (some (.agg #[.string ⟨#[]⟩, .slice none 0 0, .slice none 0 0]), 3, 64) := by kernel_rfl
def zR : RM × RuD := (⟨⟨#[]⟩, none, 0, 0, none, 0, 0⟩, ⟨⟨#[]⟩, [], []⟩)
theorem OwnF.nil {α : Type} {k : Nat} {enc : α → List Value} {ok : α → Prop} (hk : ∀ x, (enc x).length = k) (E : TypeId) (w : World) (base : Nat) : OwnF k enc ok E w base none 0 0 [] := ⟨World.ownsRow_nil w base E k, (fun _ h => by cases h), rfl, hk⟩
theorem RO.zero (w : World) (lo : Nat) : RO w lo zR := ⟨rfl, Nat.zero_le _, OwnF.nil (enc := I2b.enc) (fun _ => rfl) _ _ _, Nat.zero_le _, OwnF.nil (enc := I2.enc) (fun _ => rfl) _ _ _, Nat.zero_le _⟩
theorem fill_set {α : Type} {l' : List α} {k n : Nat} {x z : α} (hl : l'.length = k) (hk : k < n) : (l' ++ List.replicate (n - k) z).set k x = (l' ++ [x]) ++ List.replicate (n - (k + 1)) z := by
  rw [List.set_append_right _ _ (by omega), hl, Nat.sub_self, show n - k = (n - (k + 1)) + 1 from by omega, List.replicate_succ]
  simp
set_option maxHeartbeats 2000000 in
theorem laws_toRuleS {a : Option Addr} {n c : Nat} {l : List (RM × RuD)} {w : World} (hI : FR w w a n c l) (hn : n ≤ 1048576) :
    Calls Try.prog 31 #[.slice a n c] w fun e w' => ∃ l', e = .returned (.slice (some ⟨w.heap.size, 0, none⟩) n n) ∧ Below w.heap.size w w' ∧ ROwn w' w.heap.size (some ⟨w.heap.size, 0, none⟩) n n l' ∧ l'.map (·.2) = l.map (·.2) := by
  obtain ⟨i0, hi, hz0, hz1, hz2⟩ := info_parts Try.infoRule
  obtain ⟨w1, hmk, hown, hgr⟩ := run_make_full (P := Try.prog) w w.heap.size 29 79 i0 (.agg #[.string ⟨#[]⟩, .slice none 0 0, .slice none 0 0]) 3 Try.underlying29 hi hz0 hz1 .i64 .i64 n (by rw [hz2]; omega) (by unfold maxLen; omega) (Nat.le_refl _)
  have hb1 : Below w.heap.size w w1 := (Below.refl _ _).grown hgr (Nat.le_refl _) (fun k h => by cases h)
  have ho : ROwn w1 w.heap.size (some ⟨w.heap.size, 0, none⟩) n n ([] ++ List.replicate (n - 0) zR) := by
    refine ⟨⟨?_, fun _ _ => trivial, by simp, encR_len⟩, fun x hx => ?_, fun i j x y hx hy _ => ?_⟩
    · rw [show n * 3 = n * (Value.cells (.agg #[.string ⟨#[]⟩, .slice none 0 0, .slice none 0 0])).size from rfl, flat_replicate (enc := encR) (z := zR) (zc := Value.cells (.agg #[.string ⟨#[]⟩, .slice none 0 0, .slice none 0 0])) rfl (by decide)] at hown
      simpa using hown
    · simp at hx; rw [hx.2]; exact RO.zero _ _
    · have h1 := List.mem_of_getElem? hx
      simp at h1
      rw [h1.2]
      exact ⟨(fun g e _ => by cases e), (fun g e _ => by cases e)⟩
  have HI := Lib.hid hI
  have HO := Lib.hid ho
  clear hI ho hown hgr hi hz0 hz1 hz2
  go_enter Try.func31, Try.ntmps31
  go_wp2
  clear hmk
  go_loopw [4] (fun i wr => ∃ (k : Nat) (l' : List (RM × RuD)), k ≤ n ∧ i = .int .i64 k ∧ Below w.heap.size w wr ∧ Hid (l'.length = k ∧ l'.map (·.2) = (l.take k).map (·.2)) ∧ Hid (ROwn wr w.heap.size (some ⟨w.heap.size, 0, none⟩) n n (l' ++ List.replicate (n - k) zR))) (fun i _ => n - (intOf i).toNat)
  case atStart => exact ⟨0, [], Nat.zero_le _, rfl, hb1, ⟨rfl, by simp⟩, HO.out⟩
  case round =>
    obtain ⟨k, l', hk, rfl, hbl, hL, hO⟩ := hrel
    by_cases hlt : k < n
    · obtain ⟨b, off, R, r, rfl, hb, hx, hwf, c0, c1, c2⟩ := FR.get (HI.out.keep hbl) hlt
      have Hx := Lib.hid hx
      have hne : b ≠ w.heap.size := by
        have := HI.out.pos
        rcases this with h0 | ⟨b', off', he, hb', _⟩
        · omega
        · simp at he; omega
      have HR := Lib.hid (hwf.keep hbl)
      have hgn : R.gn = r.g.length := hwf.2.2.1.len.symm
      have hen : R.en = r.e.length := hwf.2.2.2.2.1.len.symm
      have HN := Lib.hid (show R.gn ≤ 1048576 ∧ R.en ≤ 1048576 ∧ r.nm.size ≤ maxLen ∧ R.gn = r.g.length ∧ R.en = r.e.length from ⟨hwf.2.2.2.1, hwf.2.2.2.2.2, hwf.2.1, hgn, hen⟩)
      clear hx hwf hgn hen
      go_wp2_with fail
      refine Calls.mono (laws_toRule HR.out) ?_
      rintro e w2 ⟨R', rfl, hb2, en', og, oe⟩
      have hx' : RO w2 wr.heap.size (R', r) := ⟨en', HN.out.2.2.1, og, by have h1 := og.len; have h2 := HN.out; simp only; omega, oe, by have h1 := oe.len; have h2 := HN.out; simp only; omega⟩
      have HX := Lib.hid hx'
      have HP := Lib.hid (fun v0 v1 v2 he => hO.out.put hb2 hlt hx' hbl.size (v0 := v0) (v1 := v1) (v2 := v2) he)
      have hO2 := Lib.hid (hO.out.keep hb2)
      have hbl2 := below_call hbl hb2 hbl.size
      have hl9 := hO2.out.row.flats
      obtain ⟨_, _, y, h1, _, _, _, hcs⟩ := hl9.at hlt
      simp only [Option.some.injEq, Addr.mk.injEq, and_true] at h1
      obtain ⟨rfl, rfl⟩ := h1
      have d0 := hcs 0 _ rfl
      have d1 := hcs 1 _ rfl
      have d2 := hcs 2 _ rfl
      simp only [Nat.zero_add, Nat.add_zero] at d0 d1 d2
      have hfz := hO2.out.row.free
      have hlt2 := (hO2.out.row.blk _ rfl).2
      clear hb2 hx' og oe hcs hl9 en'
      go_wp2
      go_roundw
      case rel => exact ⟨k + 1, l' ++ [(R', r)], by omega, by go_num, by repeat (first | exact Below.refl _ _ | assumption | refine below_allocS ?_ _ | refine below_callS ?_ (by assumption) | (refine Below.alloc ?_ (by first | omega | (simp; done) | (simp; omega)) _) | (refine Below.setCell ?_ (by first | omega | (simp; done) | (simp; omega)) _) | refine Below.drew ?_ | refine below_drewN ?_ _ | (refine below_call ?_ (by assumption) (by first | omega | (simp; done) | (simp; omega))) | (refine Below.trans ?_ (by assumption))), ⟨by have := hL.out.1; simp; omega, by rw [take_at Hx.out, List.map_append, List.map_append, hL.out.2]; rfl⟩, by have := HP.out _ _ _ rfl; rw [fill_set hL.out.1 hlt] at this; exact this⟩
      case measure => simp [intOf]; omega
    · go_wp2
      go_ret
      have e : k = n := by omega
      have h1 := hO.out
      have h2 := hL.out
      rw [e, Nat.sub_self, List.replicate_zero, List.append_nil] at h1
      rw [e, take_len HI.out.len] at h2
      exact ⟨rfl, hbl, l', h1, h2.2⟩
set_option maxHeartbeats 1000000 in
theorem laws_markTestS {a : Option Addr} {n c base : Nat} {l : List I2b} {q : Int} {w : World} (hI : OwnT w base a n c l) (hn : n ≤ 1048576) (hq0 : 0 ≤ q) (hq1 : q ≤ 1099511627776) :
    Calls Try.prog 68 #[.slice a n c, .int .i64 q] w fun e w' => e = .returned (.int .i64 (q + 3 * n)) ∧ Touch w w' n a ∧ OwnT w' base a n c (marks2b q n) := by
  by_cases hn0 : n = 0
  · subst hn0
    have HI := Lib.hid hI
    have hl : l = marks2b q 0 := by have := hI.len; cases l with | nil => rfl | cons => simp at this
    subst hl
    clear hI
    go_enter Try.func68, Try.ntmps68
    go_wp2
    go_loopw [1, 5] (fun s1 s5 wr => s1 = .int .i64 q ∧ s5 = .int .i64 0 ∧ wr = w) (fun _ _ _ => 0)
    case atStart => exact ⟨rfl, rfl, rfl⟩
    case round =>
      obtain ⟨rfl, rfl, rfl⟩ := hrel
      go_wp2
      go_ret
      exact ⟨ret_int (by omega), ⟨none, grownBy_refl _ _, fun _ h => by cases h⟩, HI.out⟩
  · obtain ⟨g, rfl⟩ := hI.shape (by omega)
    have HI := Lib.hid (show OwnT w base (some ⟨g, 0, none⟩) n c ((marks2b q n).take 0 ++ l.drop 0) by simpa using hI)
    have hlen := hI.len
    have Hlen := Lib.hid hlen
    clear hI hlen
    go_enter Try.func68, Try.ntmps68
    go_wp2
    go_loopw [1, 5] (fun s1 s5 wr => ∃ j : Nat, j ≤ n ∧ s1 = .int .i64 (q + 3 * j) ∧ s5 = .int .i64 j ∧ w.grownBy wr (some g) ∧ Hid (OwnT wr base (some ⟨g, 0, none⟩) n c ((marks2b q n).take j ++ l.drop j))) (fun _ s5 _ => n - (intOf s5).toNat)
    case atStart => exact ⟨0, Nat.zero_le _, by simp, rfl, grownBy_refl _ _, HI.out⟩
    case round =>
      obtain ⟨j, hj, rfl, rfl, hg, hO⟩ := hrel
      by_cases hlt : j < n
      · obtain ⟨_, _, y, h1, _, _, _, hc0, hc1, hc2⟩ := F2b.get hO.out.flats hlt
        simp only [Option.some.injEq, Addr.mk.injEq, and_true] at h1
        obtain ⟨rfl, rfl⟩ := h1
        simp only [Nat.zero_add] at hc0 hc1 hc2
        have hfz := hO.out.free
        go_wp2
        go_roundw
        case rel =>
          refine ⟨j + 1, by omega, by go_num, by go_num, ?_, ?_⟩
          · repeat (first | exact hg | refine grownBy_set ?_ _ _)
          · have := OwnF.set3 hO.out hlt (x := ⟨q + 3 * (j : Int), q + 3 * (j : Int) + 1, (q + 3 * (j : Int) + 1 + 1) % 3 == 0⟩) (by simp only [I2b.ok, I64]; omega) rfl
            rw [show (⟨q + 3 * (j : Int), q + 3 * (j : Int) + 1, (q + 3 * (j : Int) + 1 + 1) % 3 == 0⟩ : I2b) = (fun i : Nat => (⟨q + 3 * (i : Int), q + 3 * (i : Int) + 1, (q + 3 * (i : Int) + 1 + 1) % 3 == 0⟩ : I2b)) j from rfl, marks2b, mix_set hlt Hlen.out] at this
            exact this
        case measure => simp [intOf]; omega
      · go_wp2
        go_ret
        have e : j = n := by omega
        have h1 := hO.out
        rw [e, List.drop_of_length_le (by have := Hlen.out; omega), List.append_nil, List.take_of_length_le (by simp [marks2b])] at h1
        exact ⟨ret_int (by rw [e]), ⟨_, hg, fun b hb => by cases hb; exact ⟨by omega, rfl⟩⟩, h1⟩
end Go.Proofs.Ytfhogleillgcgaa
