/- The ride model of the reference: single rules, walked. -/
import Derived.Test.YtfnamjkmkoldeaaGreatDoorRn
import Derived.Test.YtfnamjkmkoldeaaGreatDoorQc
namespace Go.Proofs.YtfnamjkmkoldeaaGreatDoor
open Go.RowKit
set_option linter.unusedVariables false
set_option linter.unusedSimpArgs false
def freeT (n i b c j : Nat) : List I2b := (List.range j).flatMap (freeO i b c)
set_option maxRecDepth 100000 in
set_option maxHeartbeats 4000000 in
theorem spec_l24Free {B n c i b C : Nat} {a : Option Addr} {w : World} (hn : n ≤ 4) (hi : i ≤ 100) (hb : b ≤ 100) (hC : C ≤ 100) :
    Calls Tryz.prog 141 #[.agg #[.int .i64 (B : Int), .slice a n c], .int .i64 (i : Int), .int .i64 (b : Int), .int .i64 (C : Int)] w fun e w' => ∃ a' n' c', e = .returned (.slice a' n' c') ∧ OwnT w' w.heap.size a' n' c' (freeT n i b C n) ∧ n' ≤ 16 ∧ Below w.heap.size w w' := by
  have X := Lib.hid (Blk.made w #[.int .i64 (B : Int), .slice a n c] 28)
  obtain ⟨wA, hwA⟩ : ∃ wA : World, wA = w.alloc (.cells #[.int .i64 (B : Int), .slice a n c] 28) := ⟨_, rfl⟩
  have hsA : w.heap.size + 1 ≤ wA.heap.size := by rw [hwA]; simp
  have hbA : Below w.heap.size w wA := by rw [hwA]; repeat (first | exact Below.refl _ _ | assumption | refine below_allocS ?_ _ | refine below_callS ?_ (by assumption) | (refine Below.alloc ?_ (by first | omega | (simp; done) | (simp; omega)) _) | (refine Below.setCell ?_ (by first | omega | (simp; done) | (simp; omega)) _) | refine Below.drew ?_ | refine below_drewN ?_ _ | (refine below_call ?_ (by assumption) (by first | omega | (simp; done) | (simp; omega))) | (refine Below.trans ?_ (by assumption)))
  rw [← hwA] at X
  have hO := OwnF.emp (k := 3) (E := 142) (enc := I2b.enc) (ok := I2b.ok) (base := w.heap.size + 1) wA (by omega) (fun _ => rfl)
  rw [show wA.heap.size = w.heap.size + 1 by rw [hwA]; simp] at hO
  have O := Lib.hid hO
  clear hO
  have HwA := Lib.hid hwA
  clear hwA
  go_enter Tryz.func141, Tryz.ntmps141
  go_wp2_with fail
  rw [← HwA.out]
  clear HwA
  go_loopw [9, 10] (fun s9 s10 wr => ∃ (a' : Option Addr) (m c' j : Nat), s9 = .slice a' m c' ∧ s10 = .int .i64 j ∧ j ≤ n ∧ m ≤ 4 * j ∧ w.heap.size + 1 ≤ wr.heap.size ∧ Below w.heap.size w wr ∧ Hid (OwnF 3 I2b.enc I2b.ok 142 wr (w.heap.size + 1) a' m c' (freeT n i b C j)) ∧ Hid (Blk wr w.heap.size #[.int .i64 (B : Int), .slice a n c] 28)) (fun _ s10 _ => n - (intOf s10).toNat)
  case atStart => exact ⟨_, 0, 0, 0, rfl, rfl, by omega, by omega, by (try simp); omega, by repeat (first | exact Below.refl _ _ | assumption | refine below_allocS ?_ _ | refine below_callS ?_ (by assumption) | (refine Below.alloc ?_ (by first | omega | (simp; done) | (simp; omega)) _) | (refine Below.setCell ?_ (by first | omega | (simp; done) | (simp; omega)) _) | refine Below.drew ?_ | refine below_drewN ?_ _ | (refine below_call ?_ (by assumption) (by first | omega | (simp; done) | (simp; omega))) | (refine Below.trans ?_ (by assumption))), by show _; rw [show freeT n i b C 0 = [] from rfl]; exact O, Lib.hid (X.out.keep (by repeat (first | exact Below.refl _ _ | assumption | refine below_allocS ?_ _ | refine below_callS ?_ (by assumption) | (refine Below.alloc ?_ (by first | omega | (simp; done) | (simp; omega)) _) | (refine Below.setCell ?_ (by first | omega | (simp; done) | (simp; omega)) _) | refine Below.drew ?_ | refine below_drewN ?_ _ | (refine below_call ?_ (by assumption) (by first | omega | (simp; done) | (simp; omega))) | (refine Below.trans ?_ (by assumption)))))⟩
  case round =>
    clear O X hbA
    obtain ⟨a', m, c', j, rfl, rfl, hj, hm, hsr, hbl, O, X⟩ := hrel
    have x1 := X.out.cell 1
    have xl := X.out.lt
    simp at x1
    by_cases hlt : j < n
    · have hlt' : (j : Int) < (n : Int) := by omega
      by_cases hji : j = i
      · subst hji
        go_wp2_with fail
        go_roundw
        case rel => exact ⟨_, m, _, j + 1, rfl, by go_num, by omega, by omega, hsr, hbl, by show _; rw [show freeT n j b C (j + 1) = freeT n j b C j by rw [freeT, flat_snoc]; simp [freeO, freeT]]; exact O, X⟩
        case measure => simp [intOf]; omega
      · have hji' : ((j : Int) == (i : Int)) = false := by rw [beq_eq_false_iff_ne]; omega
        have HJ := Lib.hid hji
        clear hji
        go_wp2_with (at_builtin; refine appAtL (enc := I2b.enc) (ok := I2b.ok) rfl _ _ rfl Tryz.underlying95 Tryz.infoTest rfl (by decide) (by decide) I2b.one (w.heap.size + 1) _ _ _ _ [⟨j, 3 * (b : Int) + 2, false⟩, ⟨j, 3 * (C : Int), false⟩, ⟨j, 3 * (C : Int) + 1, false⟩, ⟨j, 3 * (C : Int) + 2, false⟩] O.out rfl _ rfl (by first | rfl | simp) (by first | rfl | simp [I2b.enc]) rfl (by intro y hy; simp at hy; rcases hy with rfl | rfl | rfl | rfl <;> (refine ⟨?_, ?_⟩ <;> (unfold I64; simp only; omega))) (by decide) (by omega) (by decide) (by omega) ?_; intro g9 c9 wn ho hb hg hat hsn; have O' := Lib.hid ho; have hbl' : Below w.heap.size w wn := Below.trans hbl (hb.mono (by omega)); have X' := Lib.hid (X.out.keepB hb (by omega)); have hs7 := hb.size; clear ho hb hg hat hsn x1 xl)
        go_roundw
        case rel => exact ⟨_, m + 4, _, j + 1, rfl, by go_num, by omega, by omega, by omega, hbl', by show _; rw [show freeT n i b C (j + 1) = freeT n i b C j ++ freeO i b C j from flat_snoc _ _, show freeO i b C j = _ from if_neg HJ.out]; exact O', X'⟩
        case measure => simp [intOf]; omega
    · obtain rfl : n = j := by omega
      have hlt' : ¬ (n : Int) < (n : Int) := by omega
      go_wp2
      go_ret
      exact ⟨_, m, _, rfl, O.out.le (by omega), by omega, hbl⟩
theorem ru_fin {w4 : World} {lo p n3 c3 m : Nat} {a3 : Option Addr} {g : List I2b} {e : List I2} {N : ByteArray} {cs : Array Value} {v0 v1 v2 : Value} (hG : OwnT w4 (p + 1) a3 n3 c3 g) (hn : n3 ≤ 1048576) (hN : N.size ≤ maxLen) (hp : p + 1 ≤ w4.heap.size) (hcs : cs = (e.flatMap I2.enc).toArray) (hok : ∀ x ∈ e, x.ok) (hm : e.length = m) (h9 : m ≤ 1048576) (hlo : lo ≤ p) :
    RO ((((w4.setCell ⟨p, 0, none⟩ v0).setCell ⟨p, 1, none⟩ v1).setCell ⟨p, 2, none⟩ v2).alloc (.cells cs 123)) lo (⟨N, a3, n3, c3, some ⟨w4.heap.size, 0, none⟩, m, m⟩, ⟨N, g, e⟩) := by
  have d1 : a3 = some ⟨p, 0, none⟩ → False := fun q => by have := (hG.blk _ q).1; omega
  have h1 := ((hG.set1 (i := 0) (v := v0) d1).set1 (i := 1) (v := v1) d1).set1 (i := 2) (v := v2) d1
  have es : (((w4.setCell ⟨p, 0, none⟩ v0).setCell ⟨p, 1, none⟩ v1).setCell ⟨p, 2, none⟩ v2).heap.size = w4.heap.size := by simp
  generalize ((w4.setCell ⟨p, 0, none⟩ v0).setCell ⟨p, 1, none⟩ v1).setCell ⟨p, 2, none⟩ v2 = W at *
  have h2 : OwnA (W.alloc (.cells cs 123)) (p + 1) (some ⟨W.heap.size, 0, none⟩) m m e := OwnF.lit W e (by omega) hm h9 (fun _ => rfl) hok hcs
  rw [es] at h2
  exact ⟨rfl, hN, (h1.keep (show Below W.heap.size W (W.alloc (.cells cs 123)) by repeat (first | exact Below.refl _ _ | assumption | refine below_allocS ?_ _ | refine below_callS ?_ (by assumption) | (refine Below.alloc ?_ (by first | omega | (simp; done) | (simp; omega)) _) | (refine Below.setCell ?_ (by first | omega | (simp; done) | (simp; omega)) _) | refine Below.drew ?_ | refine below_drewN ?_ _ | (refine below_call ?_ (by assumption) (by first | omega | (simp; done) | (simp; omega))) | (refine Below.trans ?_ (by assumption))))).le (by omega), hn, h2.le (by omega), h9⟩
def RuRd (w : World) (rd : RuD) (e : Ending) (w' : World) : Prop := ∃ R : RM, e = .returned (.agg #[.string R.nm, .slice R.ga R.gn R.gc, .slice R.ea R.en R.ec]) ∧ RO w' w.heap.size (R, rd) ∧ Below w.heap.size w w'
set_option maxRecDepth 100000 in
set_option maxHeartbeats 4000000 in
theorem spec_l24Train {B n c i b k : Nat} {K : Int} {a : Option Addr} {w : World} (hK : K = (k : Int)) (hk : k ≤ 3) (hB : 2 ≤ B) (hB8 : B ≤ 8) (hn : n ≤ 4) (hi : i < n) (hb : b < B) :
    Calls Tryz.prog 115 #[.agg #[.int .i64 (B : Int), .slice a n c], .int .i64 K, .int .i64 (i : Int), .int .i64 (b : Int)] w (RuRd w (ruleOf n B k i b)) := by
  subst hK
  have X := Lib.hid ((Blk.made w #[.int .i64 (B : Int), .slice a n c] 28).keep (show Below _ (w.alloc (.cells #[.int .i64 (B : Int), .slice a n c] 28)) ((w.alloc (.cells #[.int .i64 (B : Int), .slice a n c] 28)).alloc (.cells #[.string ⟨#[]⟩, .slice none 0 0, .slice none 0 0] 98)) by repeat (first | exact Below.refl _ _ | assumption | refine below_allocS ?_ _ | refine below_callS ?_ (by assumption) | (refine Below.alloc ?_ (by first | omega | (simp; done) | (simp; omega)) _) | (refine Below.setCell ?_ (by first | omega | (simp; done) | (simp; omega)) _) | refine Below.drew ?_ | refine below_drewN ?_ _ | (refine below_call ?_ (by assumption) (by first | omega | (simp; done) | (simp; omega))) | (refine Below.trans ?_ (by assumption)))))
  have R := Lib.hid (Blk.made (w.alloc (.cells #[.int .i64 (B : Int), .slice a n c] 28)) #[.string ⟨#[]⟩, .slice none 0 0, .slice none 0 0] 98)
  have HB : Below w.heap.size w ((w.alloc (.cells #[.int .i64 (B : Int), .slice a n c] 28)).alloc (.cells #[.string ⟨#[]⟩, .slice none 0 0, .slice none 0 0] 98)) := by repeat (first | exact Below.refl _ _ | assumption | refine below_allocS ?_ _ | refine below_callS ?_ (by assumption) | (refine Below.alloc ?_ (by first | omega | (simp; done) | (simp; omega)) _) | (refine Below.setCell ?_ (by first | omega | (simp; done) | (simp; omega)) _) | refine Below.drew ?_ | refine below_drewN ?_ _ | (refine below_call ?_ (by assumption) (by first | omega | (simp; done) | (simp; omega))) | (refine Below.trans ?_ (by assumption)))
  have e1 : IntKind.i64.wrap ((b : Int) + 1) = (b : Int) + 1 := IntWalk.i64_in _ (by omega)
  have hB0 : ¬ (B : Int) = 0 := by omega
  obtain ⟨C, hC⟩ : ∃ C, (b + 1) % B = C := ⟨_, rfl⟩
  have hC8 : C < B := by rw [← hC]; exact Nat.mod_lt _ (by omega)
  have hCi : ((b : Int) + 1) % (B : Int) = (C : Int) := by rw [← hC]; simp
  have hRu : ruleOf n B k i b = (if k = 0 then ⟨rnm 0 i b, [⟨i, 3 * (b : Int), true⟩], [⟨i, 3 * (b : Int) + 1⟩]⟩
  else if k = 1 then ⟨rnm 1 i b, freeL n i b C n, [⟨i, 3 * (b : Int) + 2⟩]⟩
  else if k = 2 then ⟨rnm 2 i b, [⟨i, 3 * (b : Int) + 1, true⟩, ⟨(n : Int) + (C : Nat), 3, true⟩], [⟨i, 3 * (b : Int) + 2⟩]⟩
  else ⟨rnm 3 i b, [⟨i, 3 * (b : Int) + 2, true⟩], [⟨i, 3 * (C : Int)⟩]⟩) := by
    have : k = 0 ∨ k = 1 ∨ k = 2 ∨ k = 3 := by omega
    rcases this with rfl | rfl | rfl | rfl <;> simp [ruleOf, hC]
  simp at R
  have hnm := fun (wx : World) => spec_l24Name (k := k) (i := i) (b := b) (w := wx) rfl (by omega) (by omega) (by omega)
  have hns := rnm_size k i b
  have hnl : (ruleNm.getD k []).length ≤ 20 := by
    have : k = 0 ∨ k = 1 ∨ k = 2 ∨ k = 3 := by omega
    rcases this with rfl | rfl | rfl | rfl <;> decide
  have HNM := Lib.hid hnm
  have HNS := Lib.hid (show (rnm k i b).size ≤ maxLen by unfold maxLen; omega)
  clear hnm hns hnl hC
  have : k = 0 ∨ k = 1 ∨ k = 2 ∨ k = 3 := by omega
  rcases this with rfl | rfl | rfl | rfl
  · have HRu := Lib.hid (show ruleOf n B 0 i b = ⟨rnm 0 i b, [⟨i, 3 * (b : Int), true⟩], [⟨i, 3 * (b : Int) + 1⟩]⟩ by rw [hRu]; simp)
    clear hRu hk
    generalize rnm 0 i b = N at *
    go_enter Tryz.func115, Tryz.ntmps115
    go_wp2_with fail
    go_quiet (fail)
    simp only [hCi]
    obtain ⟨wQ, hwQ⟩ : ∃ wQ : World, wQ = ((w.alloc (.cells #[.int .i64 (B : Int), .slice a n c] 28)).alloc (.cells #[.string ⟨#[]⟩, .slice none 0 0, .slice none 0 0] 98)).drewN nq := ⟨_, rfl⟩
    have XQ := Lib.hid (show Blk wQ w.heap.size #[.int .i64 (B : Int), .slice a n c] 28 by rw [hwQ]; exact X.out)
    have RQ := Lib.hid (show Blk wQ (w.heap.size + 1) #[.string ⟨#[]⟩, .slice none 0 0, .slice none 0 0] 98 by rw [hwQ]; exact R.out)
    have HQ : Below w.heap.size w wQ := by rw [hwQ]; repeat (first | exact Below.refl _ _ | assumption | refine below_allocS ?_ _ | refine below_callS ?_ (by assumption) | (refine Below.alloc ?_ (by first | omega | (simp; done) | (simp; omega)) _) | (refine Below.setCell ?_ (by first | omega | (simp; done) | (simp; omega)) _) | refine Below.drew ?_ | refine below_drewN ?_ _ | (refine below_call ?_ (by assumption) (by first | omega | (simp; done) | (simp; omega))) | (refine Below.trans ?_ (by assumption)))
    have hsQ : w.heap.size + 2 ≤ wQ.heap.size := by rw [hwQ]; simp [World.drewN]
    rw [← hwQ]
    clear hwQ X R HB e1 hB0 hCi
    go_wp2_with (at_builtin; refine appendL_F (k := 3) (enc := I2b.enc) (ok := I2b.ok) rfl _ _ 95 142 rfl Tryz.underlying95 Tryz.infoTest rfl (by decide) (by decide) I2b.one (w.heap.size + 2) _ _ _ _ (OwnF.litB (g := wQ.heap.size + 1) (m := 1) [⟨i, 3 * (b : Int), true⟩] (Below.refl _ _) (by simp) (by simp; omega) rfl (by decide) (fun _ => rfl) (by intro y hy; simp at hy; subst hy; refine ⟨?_, ?_⟩ <;> (unfold I64; simp only; omega)) (by simp [I2b.enc])) rfl _ _ _ [] rfl ⟨rfl, by omega, .inl rfl, (fun y hy => by cases hy), (fun h => by cases h)⟩ (by omega) (by omega) (by simp; omega) ?_; intro a3 c3 w3 hown3 hb3 hg3 hn3; have G3 := Lib.hid hown3; have H3 : Below w.heap.size w w3 := Below.trans (show Below w.heap.size w ((wQ.alloc (.cells #[] 142)).alloc (.cells #[.int .i64 (i : Int), .int .i64 (3 * (b : Int)), .bool true] 142)) by repeat (first | exact Below.refl _ _ | assumption | refine below_allocS ?_ _ | refine below_callS ?_ (by assumption) | (refine Below.alloc ?_ (by first | omega | (simp; done) | (simp; omega)) _) | (refine Below.setCell ?_ (by first | omega | (simp; done) | (simp; omega)) _) | refine Below.drew ?_ | refine below_drewN ?_ _ | (refine below_call ?_ (by assumption) (by first | omega | (simp; done) | (simp; omega))) | (refine Below.trans ?_ (by assumption)))) (hb3.mono (by omega)); have hs3 := hb3.size; simp at hs3; have X3 := Lib.hid ((XQ.out.keep (show Below _ _ ((wQ.alloc (.cells #[] 142)).alloc (.cells #[.int .i64 (i : Int), .int .i64 (3 * (b : Int)), .bool true] 142)) by repeat (first | exact Below.refl _ _ | assumption | refine below_allocS ?_ _ | refine below_callS ?_ (by assumption) | (refine Below.alloc ?_ (by first | omega | (simp; done) | (simp; omega)) _) | (refine Below.setCell ?_ (by first | omega | (simp; done) | (simp; omega)) _) | refine Below.drew ?_ | refine below_drewN ?_ _ | (refine below_call ?_ (by assumption) (by first | omega | (simp; done) | (simp; omega))) | (refine Below.trans ?_ (by assumption))))).keepB hb3 (by omega)); have R3 := Lib.hid ((RQ.out.keep (show Below _ _ ((wQ.alloc (.cells #[] 142)).alloc (.cells #[.int .i64 (i : Int), .int .i64 (3 * (b : Int)), .bool true] 142)) by repeat (first | exact Below.refl _ _ | assumption | refine below_allocS ?_ _ | refine below_callS ?_ (by assumption) | (refine Below.alloc ?_ (by first | omega | (simp; done) | (simp; omega)) _) | (refine Below.setCell ?_ (by first | omega | (simp; done) | (simp; omega)) _) | refine Below.drew ?_ | refine below_drewN ?_ _ | (refine below_call ?_ (by assumption) (by first | omega | (simp; done) | (simp; omega))) | (refine Below.trans ?_ (by assumption))))).keepB hb3 (by omega)); clear hown3 hb3 hg3 hn3 XQ RQ; refine Hid.out ?_)
    refine Lib.hid ?_
    go_wp2_with fail
    refine Calls.mono (HNM.out _) ?_
    rintro e w4 ⟨rfl, hb4⟩
    have hs4 := hb4.size
    have hR4 := R3.out.keep hb4
    have r0 := hR4.cell 0
    have r1 := hR4.cell 1
    have r2 := hR4.cell 2
    have rl := hR4.lt
    have rf := hR4.free
    simp at r0 r1 r2
    have HF := Lib.hid (ru_fin (m := 1) (n3 := 1) (g := [⟨i, 3 * (b : Int), true⟩]) (e := [⟨i, 3 * (b : Int) + 1⟩]) (cs := #[.int .i64 (i : Int), .int .i64 (3 * (b : Int) + 1)]) (v0 := .string N) (v1 := .slice a3 1 c3) (v2 := .slice (some ⟨w4.heap.size, 0, none⟩) 1 1) (p := w.heap.size + 1) (by simpa using G3.out.keep hb4) (by decide) HNS.out (by omega) rfl (by intro y hy; simp at hy; subst hy; refine ⟨?_, ?_⟩ <;> (unfold I64; simp only; omega)) rfl (by decide) (Nat.le_succ w.heap.size))
    have H4 := below_callS H3 hb4
    clear hb4 hR4
    go_wp2
    exact bodyPost_ret (v := .agg #[.string N, .slice a3 1 c3, .slice (some ⟨w4.heap.size, 0, none⟩) 1 1]) (by simp [results, Tryz.results115, go_sem, *]) rfl ⟨⟨N, a3, 1, c3, some ⟨w4.heap.size, 0, none⟩, 1, 1⟩, rfl, by rw [HRu.out]; exact HF.out, by repeat (first | exact Below.refl _ _ | assumption | refine below_allocS ?_ _ | refine below_callS ?_ (by assumption) | (refine Below.alloc ?_ (by first | omega | (simp; done) | (simp; omega)) _) | (refine Below.setCell ?_ (by first | omega | (simp; done) | (simp; omega)) _) | refine Below.drew ?_ | refine below_drewN ?_ _ | (refine below_call ?_ (by assumption) (by first | omega | (simp; done) | (simp; omega))) | (refine Below.trans ?_ (by assumption)))⟩
  · have HRu := Lib.hid (show ruleOf n B 1 i b = ⟨rnm 1 i b, [⟨i, 3 * (b : Int) + 1, true⟩] ++ ([⟨(n : Int) + (C : Int), 2, false⟩, ⟨(n : Int) + (C : Int), 3, false⟩] ++ freeT n i b C n), [⟨i, 3 * (b : Int) + 2⟩]⟩ by rw [hRu]; simp [freeL, freeT])
    clear hRu hk
    generalize rnm 1 i b = N at *
    go_enter Tryz.func115, Tryz.ntmps115
    go_wp2_with fail
    go_quiet (fail)
    simp only [hCi]
    obtain ⟨wQ, hwQ⟩ : ∃ wQ : World, wQ = ((w.alloc (.cells #[.int .i64 (B : Int), .slice a n c] 28)).alloc (.cells #[.string ⟨#[]⟩, .slice none 0 0, .slice none 0 0] 98)).drewN nq := ⟨_, rfl⟩
    have XQ := Lib.hid (show Blk wQ w.heap.size #[.int .i64 (B : Int), .slice a n c] 28 by rw [hwQ]; exact X.out)
    have RQ := Lib.hid (show Blk wQ (w.heap.size + 1) #[.string ⟨#[]⟩, .slice none 0 0, .slice none 0 0] 98 by rw [hwQ]; exact R.out)
    have HQ : Below w.heap.size w wQ := by rw [hwQ]; repeat (first | exact Below.refl _ _ | assumption | refine below_allocS ?_ _ | refine below_callS ?_ (by assumption) | (refine Below.alloc ?_ (by first | omega | (simp; done) | (simp; omega)) _) | (refine Below.setCell ?_ (by first | omega | (simp; done) | (simp; omega)) _) | refine Below.drew ?_ | refine below_drewN ?_ _ | (refine below_call ?_ (by assumption) (by first | omega | (simp; done) | (simp; omega))) | (refine Below.trans ?_ (by assumption)))
    have hsQ : w.heap.size + 2 ≤ wQ.heap.size := by rw [hwQ]; simp [World.drewN]
    rw [← hwQ]
    clear hwQ X R HB e1 hB0 hCi
    go_wp2_with (at_builtin; refine appAtL (enc := I2b.enc) (ok := I2b.ok) rfl _ _ rfl Tryz.underlying95 Tryz.infoTest rfl (by decide) (by decide) I2b.one (w.heap.size + 2) _ _ _ _ [⟨(n : Int) + (C : Int), 2, false⟩, ⟨(n : Int) + (C : Int), 3, false⟩] (OwnF.emp (k := 3) (E := 142) (enc := I2b.enc) (ok := I2b.ok) (base := w.heap.size + 2) wQ (by omega) (fun _ => rfl)) rfl _ rfl (by first | rfl | simp) (by first | rfl | simp [I2b.enc]) rfl (by intro y hy; simp at hy; rcases hy with rfl | rfl <;> (refine ⟨?_, ?_⟩ <;> (unfold I64; simp only; omega))) (by decide) (by omega) (by decide) (by simp; omega) ?_; intro g9 c9 wS ho hb hg hat hsn; have GS := Lib.hid ho; have HSb : Below w.heap.size w wS := Below.trans (show Below w.heap.size w (wQ.alloc (.cells #[] 142)) by repeat (first | exact Below.refl _ _ | assumption | refine below_allocS ?_ _ | refine below_callS ?_ (by assumption) | (refine Below.alloc ?_ (by first | omega | (simp; done) | (simp; omega)) _) | (refine Below.setCell ?_ (by first | omega | (simp; done) | (simp; omega)) _) | refine Below.drew ?_ | refine below_drewN ?_ _ | (refine below_call ?_ (by assumption) (by first | omega | (simp; done) | (simp; omega))) | (refine Below.trans ?_ (by assumption)))) (hb.mono (by omega)); have XS := Lib.hid ((XQ.out.keep (show Below _ _ (wQ.alloc (.cells #[] 142)) by repeat (first | exact Below.refl _ _ | assumption | refine below_allocS ?_ _ | refine below_callS ?_ (by assumption) | (refine Below.alloc ?_ (by first | omega | (simp; done) | (simp; omega)) _) | (refine Below.setCell ?_ (by first | omega | (simp; done) | (simp; omega)) _) | refine Below.drew ?_ | refine below_drewN ?_ _ | (refine below_call ?_ (by assumption) (by first | omega | (simp; done) | (simp; omega))) | (refine Below.trans ?_ (by assumption))))).keepB hb (by omega)); have RS := Lib.hid ((RQ.out.keep (show Below _ _ (wQ.alloc (.cells #[] 142)) by repeat (first | exact Below.refl _ _ | assumption | refine below_allocS ?_ _ | refine below_callS ?_ (by assumption) | (refine Below.alloc ?_ (by first | omega | (simp; done) | (simp; omega)) _) | (refine Below.setCell ?_ (by first | omega | (simp; done) | (simp; omega)) _) | refine Below.drew ?_ | refine below_drewN ?_ _ | (refine below_call ?_ (by assumption) (by first | omega | (simp; done) | (simp; omega))) | (refine Below.trans ?_ (by assumption))))).keepB hb (by omega)); have hsS := hb.size; simp at hsS hsn; clear ho hb hg hat XQ RQ; have xs0 := XS.out.cell 0; have xs1 := XS.out.cell 1; have xsl := XS.out.lt; simp at xs0 xs1; refine Hid.out ?_)
    refine Lib.hid ?_
    go_wp2_with fail
    clear xs0 xs1 xsl
    refine Calls.mono (spec_l24Free hn (by omega) (by omega) (by omega)) ?_
    rintro e w5 ⟨a5, n5, c5, rfl, ho5, hn5, hb5⟩
    have hs5 := hb5.size
    have GF := Lib.hid ho5
    replace GS := Lib.hid (GS.out.keep hb5)
    replace XS := Lib.hid (XS.out.keep hb5)
    replace RS := Lib.hid (RS.out.keep hb5)
    replace HSb := below_callS HSb hb5
    clear ho5 hb5
    go_wp2_with (at_builtin; refine appendL_F (k := 3) (enc := I2b.enc) (ok := I2b.ok) rfl _ _ 95 142 rfl Tryz.underlying95 Tryz.infoTest rfl (by decide) (by decide) I2b.one (w.heap.size + 2) _ _ _ _ GS.out rfl _ _ _ _ rfl GF.out.flats (by omega) (by omega) (by omega) ?_; intro a6 c6 w6 hown6 hb6 hg6 hn6; have GS6 := Lib.hid hown6; have HS6 : Below w.heap.size w w6 := Below.trans HSb (hb6.mono (by omega)); have R6 := Lib.hid (RS.out.keepB hb6 (by omega)); have X6 := Lib.hid (XS.out.keepB hb6 (by omega)); have hs6 := hb6.size; clear hown6 hb6 hg6 hn6 XS RS GS GF HSb; refine Hid.out ?_)
    refine Lib.hid ?_
    go_wp2_with (at_builtin; refine appendL_F (k := 3) (enc := I2b.enc) (ok := I2b.ok) rfl _ _ 95 142 rfl Tryz.underlying95 Tryz.infoTest rfl (by decide) (by decide) I2b.one (w.heap.size + 2) _ _ _ _ (OwnF.litB (g := w6.heap.size) (m := 1) [⟨i, 3 * (b : Int) + 1, true⟩] (Below.refl _ _) rfl (by omega) rfl (by decide) (fun _ => rfl) (by intro y hy; simp at hy; subst hy; refine ⟨?_, ?_⟩ <;> (unfold I64; simp only; omega)) (by simp [I2b.enc])) rfl _ _ _ _ rfl (GS6.out.keep (show Below w6.heap.size w6 _ by repeat (first | exact Below.refl _ _ | assumption | refine below_allocS ?_ _ | refine below_callS ?_ (by assumption) | (refine Below.alloc ?_ (by first | omega | (simp; done) | (simp; omega)) _) | (refine Below.setCell ?_ (by first | omega | (simp; done) | (simp; omega)) _) | refine Below.drew ?_ | refine below_drewN ?_ _ | (refine below_call ?_ (by assumption) (by first | omega | (simp; done) | (simp; omega))) | (refine Below.trans ?_ (by assumption))))).flats (by omega) (by omega) (by simp; omega) ?_; intro a3 c3 w3 hown3 hb3 hg3 hn3; have G3 := Lib.hid hown3; have H3 : Below w.heap.size w w3 := Below.trans (show Below w.heap.size w (w6.alloc (.cells #[.int .i64 (i : Int), .int .i64 (3 * (b : Int) + 1), .bool true] 142)) by repeat (first | exact Below.refl _ _ | assumption | refine below_allocS ?_ _ | refine below_callS ?_ (by assumption) | (refine Below.alloc ?_ (by first | omega | (simp; done) | (simp; omega)) _) | (refine Below.setCell ?_ (by first | omega | (simp; done) | (simp; omega)) _) | refine Below.drew ?_ | refine below_drewN ?_ _ | (refine below_call ?_ (by assumption) (by first | omega | (simp; done) | (simp; omega))) | (refine Below.trans ?_ (by assumption)))) (hb3.mono (by omega)); have hs3 := hb3.size; simp at hs3; have R3 := Lib.hid ((R6.out.keep (show Below _ _ (w6.alloc (.cells #[.int .i64 (i : Int), .int .i64 (3 * (b : Int) + 1), .bool true] 142)) by repeat (first | exact Below.refl _ _ | assumption | refine below_allocS ?_ _ | refine below_callS ?_ (by assumption) | (refine Below.alloc ?_ (by first | omega | (simp; done) | (simp; omega)) _) | (refine Below.setCell ?_ (by first | omega | (simp; done) | (simp; omega)) _) | refine Below.drew ?_ | refine below_drewN ?_ _ | (refine below_call ?_ (by assumption) (by first | omega | (simp; done) | (simp; omega))) | (refine Below.trans ?_ (by assumption))))).keepB hb3 (by omega)); clear hown3 hb3 hg3 hn3 X6 R6; refine Hid.out ?_)
    refine Lib.hid ?_
    go_wp2_with fail
    refine Calls.mono (HNM.out _) ?_
    rintro e w4 ⟨rfl, hb4⟩
    have hs4 := hb4.size
    have hR4 := R3.out.keep hb4
    have r0 := hR4.cell 0
    have r1 := hR4.cell 1
    have r2 := hR4.cell 2
    have rl := hR4.lt
    have rf := hR4.free
    simp at r0 r1 r2
    have HF := Lib.hid (ru_fin (m := 1) (n3 := 1 + (2 + n5)) (g := [⟨i, 3 * (b : Int) + 1, true⟩] ++ ([] ++ [⟨(n : Int) + (C : Int), 2, false⟩, ⟨(n : Int) + (C : Int), 3, false⟩] ++ freeT n i b C n)) (e := [⟨i, 3 * (b : Int) + 2⟩]) (cs := #[.int .i64 (i : Int), .int .i64 (3 * (b : Int) + 1 + 1)]) (v0 := .string N) (v1 := .slice a3 (1 + (2 + n5)) c3) (v2 := .slice (some ⟨w4.heap.size, 0, none⟩) 1 1) (p := w.heap.size + 1) (G3.out.keep hb4) (by omega) HNS.out (by omega) (by simp [I2.enc]; omega) (by intro y hy; simp at hy; subst hy; refine ⟨?_, ?_⟩ <;> (unfold I64; simp only; omega)) rfl (by decide) (Nat.le_succ w.heap.size))
    have H4 := below_callS H3 hb4
    clear hb4 hR4
    go_wp2
    exact bodyPost_ret (v := .agg #[.string N, .slice a3 (1 + (2 + n5)) c3, .slice (some ⟨w4.heap.size, 0, none⟩) 1 1]) (by simp [results, Tryz.results115, go_sem, *]) rfl ⟨⟨N, a3, 1 + (2 + n5), c3, some ⟨w4.heap.size, 0, none⟩, 1, 1⟩, rfl, by rw [HRu.out]; simpa using HF.out, by repeat (first | exact Below.refl _ _ | assumption | refine below_allocS ?_ _ | refine below_callS ?_ (by assumption) | (refine Below.alloc ?_ (by first | omega | (simp; done) | (simp; omega)) _) | (refine Below.setCell ?_ (by first | omega | (simp; done) | (simp; omega)) _) | refine Below.drew ?_ | refine below_drewN ?_ _ | (refine below_call ?_ (by assumption) (by first | omega | (simp; done) | (simp; omega))) | (refine Below.trans ?_ (by assumption)))⟩
  · have HRu := Lib.hid (show ruleOf n B 2 i b = ⟨rnm 2 i b, [⟨i, 3 * (b : Int) + 1, true⟩, ⟨(n : Int) + (C : Nat), 3, true⟩], [⟨i, 3 * (b : Int) + 2⟩]⟩ by rw [hRu]; simp)
    clear hRu hk
    generalize rnm 2 i b = N at *
    go_enter Tryz.func115, Tryz.ntmps115
    go_wp2_with fail
    go_quiet (fail)
    simp only [hCi]
    obtain ⟨wQ, hwQ⟩ : ∃ wQ : World, wQ = ((w.alloc (.cells #[.int .i64 (B : Int), .slice a n c] 28)).alloc (.cells #[.string ⟨#[]⟩, .slice none 0 0, .slice none 0 0] 98)).drewN nq := ⟨_, rfl⟩
    have XQ := Lib.hid (show Blk wQ w.heap.size #[.int .i64 (B : Int), .slice a n c] 28 by rw [hwQ]; exact X.out)
    have RQ := Lib.hid (show Blk wQ (w.heap.size + 1) #[.string ⟨#[]⟩, .slice none 0 0, .slice none 0 0] 98 by rw [hwQ]; exact R.out)
    have HQ : Below w.heap.size w wQ := by rw [hwQ]; repeat (first | exact Below.refl _ _ | assumption | refine below_allocS ?_ _ | refine below_callS ?_ (by assumption) | (refine Below.alloc ?_ (by first | omega | (simp; done) | (simp; omega)) _) | (refine Below.setCell ?_ (by first | omega | (simp; done) | (simp; omega)) _) | refine Below.drew ?_ | refine below_drewN ?_ _ | (refine below_call ?_ (by assumption) (by first | omega | (simp; done) | (simp; omega))) | (refine Below.trans ?_ (by assumption)))
    have hsQ : w.heap.size + 2 ≤ wQ.heap.size := by rw [hwQ]; simp [World.drewN]
    rw [← hwQ]
    clear hwQ X R HB e1 hB0 hCi
    go_wp2_with (at_builtin; refine appAtL (enc := I2b.enc) (ok := I2b.ok) rfl _ _ rfl Tryz.underlying95 Tryz.infoTest rfl (by decide) (by decide) I2b.one (w.heap.size + 2) _ _ _ _ [⟨(n : Int) + (C : Int), 3, true⟩] (OwnF.emp (k := 3) (E := 142) (enc := I2b.enc) (ok := I2b.ok) (base := w.heap.size + 2) wQ (by omega) (fun _ => rfl)) rfl _ rfl (by first | rfl | simp) (by first | rfl | simp [I2b.enc]) rfl (by intro y hy; simp at hy; subst hy; refine ⟨?_, ?_⟩ <;> (unfold I64; simp only; omega)) (by decide) (by omega) (by decide) (by simp; omega) ?_; intro g9 c9 wS ho hb hg hat hsn; have GS := Lib.hid ho; have HSb : Below w.heap.size w wS := Below.trans (show Below w.heap.size w (wQ.alloc (.cells #[] 142)) by repeat (first | exact Below.refl _ _ | assumption | refine below_allocS ?_ _ | refine below_callS ?_ (by assumption) | (refine Below.alloc ?_ (by first | omega | (simp; done) | (simp; omega)) _) | (refine Below.setCell ?_ (by first | omega | (simp; done) | (simp; omega)) _) | refine Below.drew ?_ | refine below_drewN ?_ _ | (refine below_call ?_ (by assumption) (by first | omega | (simp; done) | (simp; omega))) | (refine Below.trans ?_ (by assumption)))) (hb.mono (by omega)); have XS := Lib.hid ((XQ.out.keep (show Below _ _ (wQ.alloc (.cells #[] 142)) by repeat (first | exact Below.refl _ _ | assumption | refine below_allocS ?_ _ | refine below_callS ?_ (by assumption) | (refine Below.alloc ?_ (by first | omega | (simp; done) | (simp; omega)) _) | (refine Below.setCell ?_ (by first | omega | (simp; done) | (simp; omega)) _) | refine Below.drew ?_ | refine below_drewN ?_ _ | (refine below_call ?_ (by assumption) (by first | omega | (simp; done) | (simp; omega))) | (refine Below.trans ?_ (by assumption))))).keepB hb (by omega)); have RS := Lib.hid ((RQ.out.keep (show Below _ _ (wQ.alloc (.cells #[] 142)) by repeat (first | exact Below.refl _ _ | assumption | refine below_allocS ?_ _ | refine below_callS ?_ (by assumption) | (refine Below.alloc ?_ (by first | omega | (simp; done) | (simp; omega)) _) | (refine Below.setCell ?_ (by first | omega | (simp; done) | (simp; omega)) _) | refine Below.drew ?_ | refine below_drewN ?_ _ | (refine below_call ?_ (by assumption) (by first | omega | (simp; done) | (simp; omega))) | (refine Below.trans ?_ (by assumption))))).keepB hb (by omega)); have hsS := hb.size; simp at hsS hsn; clear ho hb hg hat XQ RQ; have xs0 := XS.out.cell 0; have xs1 := XS.out.cell 1; have xsl := XS.out.lt; simp at xs0 xs1; refine Hid.out ?_)
    refine Lib.hid ?_
    go_wp2_with (at_builtin; refine appendL_F (k := 3) (enc := I2b.enc) (ok := I2b.ok) rfl _ _ 95 142 rfl Tryz.underlying95 Tryz.infoTest rfl (by decide) (by decide) I2b.one (w.heap.size + 2) _ _ _ _ (OwnF.litB (g := wS.heap.size) (m := 1) [⟨i, 3 * (b : Int) + 1, true⟩] (Below.refl _ _) rfl (by omega) rfl (by decide) (fun _ => rfl) (by intro y hy; simp at hy; subst hy; refine ⟨?_, ?_⟩ <;> (unfold I64; simp only; omega)) (by simp [I2b.enc])) rfl _ _ _ _ rfl (GS.out.keep (show Below wS.heap.size wS _ by repeat (first | exact Below.refl _ _ | assumption | refine below_allocS ?_ _ | refine below_callS ?_ (by assumption) | (refine Below.alloc ?_ (by first | omega | (simp; done) | (simp; omega)) _) | (refine Below.setCell ?_ (by first | omega | (simp; done) | (simp; omega)) _) | refine Below.drew ?_ | refine below_drewN ?_ _ | (refine below_call ?_ (by assumption) (by first | omega | (simp; done) | (simp; omega))) | (refine Below.trans ?_ (by assumption))))).flats (by omega) (by omega) (by simp; omega) ?_; intro a3 c3 w3 hown3 hb3 hg3 hn3; have G3 := Lib.hid hown3; have H3 : Below w.heap.size w w3 := Below.trans (show Below w.heap.size w (wS.alloc (.cells #[.int .i64 (i : Int), .int .i64 (3 * (b : Int) + 1), .bool true] 142)) by repeat (first | exact Below.refl _ _ | assumption | refine below_allocS ?_ _ | refine below_callS ?_ (by assumption) | (refine Below.alloc ?_ (by first | omega | (simp; done) | (simp; omega)) _) | (refine Below.setCell ?_ (by first | omega | (simp; done) | (simp; omega)) _) | refine Below.drew ?_ | refine below_drewN ?_ _ | (refine below_call ?_ (by assumption) (by first | omega | (simp; done) | (simp; omega))) | (refine Below.trans ?_ (by assumption)))) (hb3.mono (by omega)); have hs3 := hb3.size; simp at hs3; have R3 := Lib.hid ((RS.out.keep (show Below _ _ (wS.alloc (.cells #[.int .i64 (i : Int), .int .i64 (3 * (b : Int) + 1), .bool true] 142)) by repeat (first | exact Below.refl _ _ | assumption | refine below_allocS ?_ _ | refine below_callS ?_ (by assumption) | (refine Below.alloc ?_ (by first | omega | (simp; done) | (simp; omega)) _) | (refine Below.setCell ?_ (by first | omega | (simp; done) | (simp; omega)) _) | refine Below.drew ?_ | refine below_drewN ?_ _ | (refine below_call ?_ (by assumption) (by first | omega | (simp; done) | (simp; omega))) | (refine Below.trans ?_ (by assumption))))).keepB hb3 (by omega)); clear hown3 hb3 hg3 hn3 XS RS; refine Hid.out ?_)
    refine Lib.hid ?_
    go_wp2_with fail
    refine Calls.mono (HNM.out _) ?_
    rintro e w4 ⟨rfl, hb4⟩
    have hs4 := hb4.size
    have hR4 := R3.out.keep hb4
    have r0 := hR4.cell 0
    have r1 := hR4.cell 1
    have r2 := hR4.cell 2
    have rl := hR4.lt
    have rf := hR4.free
    simp at r0 r1 r2
    have HF := Lib.hid (ru_fin (m := 1) (n3 := 2) (g := [⟨i, 3 * (b : Int) + 1, true⟩] ++ [⟨(n : Int) + (C : Int), 3, true⟩]) (e := [⟨i, 3 * (b : Int) + 2⟩]) (cs := #[.int .i64 (i : Int), .int .i64 (3 * (b : Int) + 2)]) (v0 := .string N) (v1 := .slice a3 (2) c3) (v2 := .slice (some ⟨w4.heap.size, 0, none⟩) 1 1) (p := w.heap.size + 1) (G3.out.keep hb4) (by omega) HNS.out (by omega) rfl (by intro y hy; simp at hy; subst hy; refine ⟨?_, ?_⟩ <;> (unfold I64; simp only; omega)) rfl (by decide) (Nat.le_succ w.heap.size))
    have H4 := below_callS H3 hb4
    clear hb4 hR4
    go_wp2
    exact bodyPost_ret (v := .agg #[.string N, .slice a3 (2) c3, .slice (some ⟨w4.heap.size, 0, none⟩) 1 1]) (by simp [results, Tryz.results115, go_sem, *]) rfl ⟨⟨N, a3, 2, c3, some ⟨w4.heap.size, 0, none⟩, 1, 1⟩, rfl, by rw [HRu.out]; exact HF.out, by repeat (first | exact Below.refl _ _ | assumption | refine below_allocS ?_ _ | refine below_callS ?_ (by assumption) | (refine Below.alloc ?_ (by first | omega | (simp; done) | (simp; omega)) _) | (refine Below.setCell ?_ (by first | omega | (simp; done) | (simp; omega)) _) | refine Below.drew ?_ | refine below_drewN ?_ _ | (refine below_call ?_ (by assumption) (by first | omega | (simp; done) | (simp; omega))) | (refine Below.trans ?_ (by assumption)))⟩
  · have HRu := Lib.hid (show ruleOf n B 3 i b = ⟨rnm 3 i b, [⟨i, 3 * (b : Int) + 2, true⟩], [⟨i, 3 * (C : Int)⟩]⟩ by rw [hRu]; simp)
    clear hRu hk
    generalize rnm 3 i b = N at *
    go_enter Tryz.func115, Tryz.ntmps115
    go_wp2_with fail
    go_quiet (fail)
    simp only [hCi]
    obtain ⟨wQ, hwQ⟩ : ∃ wQ : World, wQ = ((w.alloc (.cells #[.int .i64 (B : Int), .slice a n c] 28)).alloc (.cells #[.string ⟨#[]⟩, .slice none 0 0, .slice none 0 0] 98)).drewN nq := ⟨_, rfl⟩
    have XQ := Lib.hid (show Blk wQ w.heap.size #[.int .i64 (B : Int), .slice a n c] 28 by rw [hwQ]; exact X.out)
    have RQ := Lib.hid (show Blk wQ (w.heap.size + 1) #[.string ⟨#[]⟩, .slice none 0 0, .slice none 0 0] 98 by rw [hwQ]; exact R.out)
    have HQ : Below w.heap.size w wQ := by rw [hwQ]; repeat (first | exact Below.refl _ _ | assumption | refine below_allocS ?_ _ | refine below_callS ?_ (by assumption) | (refine Below.alloc ?_ (by first | omega | (simp; done) | (simp; omega)) _) | (refine Below.setCell ?_ (by first | omega | (simp; done) | (simp; omega)) _) | refine Below.drew ?_ | refine below_drewN ?_ _ | (refine below_call ?_ (by assumption) (by first | omega | (simp; done) | (simp; omega))) | (refine Below.trans ?_ (by assumption)))
    have hsQ : w.heap.size + 2 ≤ wQ.heap.size := by rw [hwQ]; simp [World.drewN]
    rw [← hwQ]
    clear hwQ X R HB e1 hB0 hCi
    go_wp2_with (at_builtin; refine appendL_F (k := 3) (enc := I2b.enc) (ok := I2b.ok) rfl _ _ 95 142 rfl Tryz.underlying95 Tryz.infoTest rfl (by decide) (by decide) I2b.one (w.heap.size + 2) _ _ _ _ (OwnF.litB (g := wQ.heap.size + 1) (m := 1) [⟨i, 3 * (b : Int) + 2, true⟩] (Below.refl _ _) (by simp) (by simp; omega) rfl (by decide) (fun _ => rfl) (by intro y hy; simp at hy; subst hy; refine ⟨?_, ?_⟩ <;> (unfold I64; simp only; omega)) (by simp [I2b.enc])) rfl _ _ _ [] rfl ⟨rfl, by omega, .inl rfl, (fun y hy => by cases hy), (fun h => by cases h)⟩ (by omega) (by omega) (by simp; omega) ?_; intro a3 c3 w3 hown3 hb3 hg3 hn3; have G3 := Lib.hid hown3; have H3 : Below w.heap.size w w3 := Below.trans (show Below w.heap.size w ((wQ.alloc (.cells #[] 142)).alloc (.cells #[.int .i64 (i : Int), .int .i64 (3 * (b : Int) + 2), .bool true] 142)) by repeat (first | exact Below.refl _ _ | assumption | refine below_allocS ?_ _ | refine below_callS ?_ (by assumption) | (refine Below.alloc ?_ (by first | omega | (simp; done) | (simp; omega)) _) | (refine Below.setCell ?_ (by first | omega | (simp; done) | (simp; omega)) _) | refine Below.drew ?_ | refine below_drewN ?_ _ | (refine below_call ?_ (by assumption) (by first | omega | (simp; done) | (simp; omega))) | (refine Below.trans ?_ (by assumption)))) (hb3.mono (by omega)); have hs3 := hb3.size; simp at hs3; have X3 := Lib.hid ((XQ.out.keep (show Below _ _ ((wQ.alloc (.cells #[] 142)).alloc (.cells #[.int .i64 (i : Int), .int .i64 (3 * (b : Int) + 2), .bool true] 142)) by repeat (first | exact Below.refl _ _ | assumption | refine below_allocS ?_ _ | refine below_callS ?_ (by assumption) | (refine Below.alloc ?_ (by first | omega | (simp; done) | (simp; omega)) _) | (refine Below.setCell ?_ (by first | omega | (simp; done) | (simp; omega)) _) | refine Below.drew ?_ | refine below_drewN ?_ _ | (refine below_call ?_ (by assumption) (by first | omega | (simp; done) | (simp; omega))) | (refine Below.trans ?_ (by assumption))))).keepB hb3 (by omega)); have R3 := Lib.hid ((RQ.out.keep (show Below _ _ ((wQ.alloc (.cells #[] 142)).alloc (.cells #[.int .i64 (i : Int), .int .i64 (3 * (b : Int) + 2), .bool true] 142)) by repeat (first | exact Below.refl _ _ | assumption | refine below_allocS ?_ _ | refine below_callS ?_ (by assumption) | (refine Below.alloc ?_ (by first | omega | (simp; done) | (simp; omega)) _) | (refine Below.setCell ?_ (by first | omega | (simp; done) | (simp; omega)) _) | refine Below.drew ?_ | refine below_drewN ?_ _ | (refine below_call ?_ (by assumption) (by first | omega | (simp; done) | (simp; omega))) | (refine Below.trans ?_ (by assumption))))).keepB hb3 (by omega)); clear hown3 hb3 hg3 hn3 XQ RQ; refine Hid.out ?_)
    refine Lib.hid ?_
    go_wp2_with fail
    refine Calls.mono (HNM.out _) ?_
    rintro e w4 ⟨rfl, hb4⟩
    have hs4 := hb4.size
    have hR4 := R3.out.keep hb4
    have r0 := hR4.cell 0
    have r1 := hR4.cell 1
    have r2 := hR4.cell 2
    have rl := hR4.lt
    have rf := hR4.free
    simp at r0 r1 r2
    have HF := Lib.hid (ru_fin (m := 1) (n3 := 1) (g := [⟨i, 3 * (b : Int) + 2, true⟩]) (e := [⟨i, 3 * (C : Int)⟩]) (cs := #[.int .i64 (i : Int), .int .i64 (3 * (C : Int))]) (v0 := .string N) (v1 := .slice a3 1 c3) (v2 := .slice (some ⟨w4.heap.size, 0, none⟩) 1 1) (p := w.heap.size + 1) (by simpa using G3.out.keep hb4) (by decide) HNS.out (by omega) rfl (by intro y hy; simp at hy; subst hy; refine ⟨?_, ?_⟩ <;> (unfold I64; simp only; omega)) rfl (by decide) (Nat.le_succ w.heap.size))
    have H4 := below_callS H3 hb4
    clear hb4 hR4
    go_wp2
    exact bodyPost_ret (v := .agg #[.string N, .slice a3 1 c3, .slice (some ⟨w4.heap.size, 0, none⟩) 1 1]) (by simp [results, Tryz.results115, go_sem, *]) rfl ⟨⟨N, a3, 1, c3, some ⟨w4.heap.size, 0, none⟩, 1, 1⟩, rfl, by rw [HRu.out]; exact HF.out, by repeat (first | exact Below.refl _ _ | assumption | refine below_allocS ?_ _ | refine below_callS ?_ (by assumption) | (refine Below.alloc ?_ (by first | omega | (simp; done) | (simp; omega)) _) | (refine Below.setCell ?_ (by first | omega | (simp; done) | (simp; omega)) _) | refine Below.drew ?_ | refine below_drewN ?_ _ | (refine below_call ?_ (by assumption) (by first | omega | (simp; done) | (simp; omega))) | (refine Below.trans ?_ (by assumption)))⟩
end Go.Proofs.YtfnamjkmkoldeaaGreatDoor
